/- Part 18. -/
import Derived.Test.YtjailoenloejbaaGreatDoorDV17
set_option linter.all false
namespace Go.Proofs.YtjailoenloejbaaGreatDoor
open Go Go.Sx Go.Proofs.Tryz
set_option maxRecDepth 100000
set_option maxHeartbeats 0
theorem Rh(k:Int)(h:AA):L0 221 [iv k] h=some (.bool (decide (k>=2)&&decide (k<=7)),h):=HJ rfl rfl rfl rfl ⟨_,rp⟩
theorem Pv(k:Int)(h:AA):L0 222 [iv k] h=some (.bool (E9 k),h):=HJ rfl rfl rfl rfl ⟨_,rq⟩
theorem Yz{w k:Int}(h:AA)(a:RD w):L1 251 [iv k,iv (KB w)] h=some (.bool (IB w k),h):=by
 refine HJ (JP rfl rfl) rfl rfl rfl ⟨_,rv a (IL (Rh k _)) (IL (Pv k _)) ?_ ?_⟩;.exact(TK (n:=11) (base:=L0) (JP rfl rfl)).trans rr
 .exact(TK (n:=11) (base:=L0) (JP rfl rfl)).trans rs
theorem Vy(k:Int)(h:AA)(a:1<=k/\k<=54):L0 252 [iv k] h=some (.bool (MP k),h):=HJ rfl rfl rfl rfl (LV oA a)
theorem Xd(k:Int)(h:AA)(a:1<=k/\k<=54):L0 253 [iv k] h=some (.bool (KD k),h):=HJ rfl rfl rfl rfl (LV Wb a)
theorem wb(k:Int)(h:AA)(a:1<=k/\k<=54):L0 255 [iv k] h=some (.tuple #[iv (F8 k),iv (DV k)],h):=HJ rfl rfl rfl (UT rfl rfl) (LV Wv a)
theorem wc{w:Int}{x:AF}(h:AA)(b:RD w):L3 220 [CW x,iv (KB w)] h=some (.bool (IB w x.a&&EW BG x),h):=by refine HJ (TY (JP (JP rfl rfl) rfl) rfl) rfl ?_ rfl (ofEx (rx (fun h=>IL (PH (Yz h b))) (fun h a=>IL (PH (JO (Vy _ h a)))) (fun h a=>IL (PH (JO (Xd _ h a)))) (fun h=>IL (qB h _)) (fun h a=>IL (PH (JO (wb _ h a))))));simp[RC,flat,B7]
section
variable {call:AY} {n:Nat}
theorem wd{j:Nat}{h:AA}:AW prog call n 219 [iv 1,iv j] h=some (iv 1,h):=by refine DO func219 rfl (by simp) ?_;have a:f219.results.toList=[.tmp 4]:=rfl;simp only[eE,seval,↓eP,a]
theorem wg{j:Nat}{h:AA}:AW prog call n 219 [iv 11,iv j] h=some (iv 3,h):=by refine DO func219 rfl (by simp) ?_;have a:f219.results.toList=[.tmp 4]:=rfl;simp only[eE,seval,↓eP,a,Int.reduceBEq]
end
theorem wh(k:Int):DV k<=3:=by unfold DV;(repeat' split)<;>omega
theorem wi(k:Int)(j:Nat)(h:AA)(a:1<=k/\k<=54)(b:k=1\/k=11\/(j:Int)<DV k):L0 219 [iv k,iv j] h=some (iv (WG k j),h):=by
 rcases b with rfl|rfl|b;.exact HJ rfl rfl rfl rfl ⟨_,wd⟩
 .exact HJ rfl rfl rfl rfl ⟨_,wg⟩
 .have:=wh k;obtain rfl|rfl|rfl:j=0\/j=1\/j=2:=by omega
  .exact HJ rfl rfl rfl rfl (LV oC a)
  .exact HJ rfl rfl rfl rfl (LV oQ a)
  .exact HJ rfl rfl rfl rfl (LV oX a)
theorem wj(n:Nat):bW (AN n)where
 d:=fun b j h a c=>IX (JO (wi b j h a c))
 a:=fun w x h d=>Sv (wc h d)
 c:=fun k h=>IX (JO (Rh k h))
 b:=fun k h=>IX (JO (Pv k h))
section
variable {call:AY} {n:Nat}
theorem wk{l:List AF}{v:Value}{h:AA}(w:A8 h v l)(x:h.b<=h.a)(m:∀b,A8 b v l->b.b<=b.a->call 159 [v] b=some (iv (match KK BG l with|some p=>(p:Int)|none=>-1),b))(q:KK BG l=none->∀b,A8 b v l->b.b<=b.a->call 160 [v] b=some (iv (FL l (l.length+1) 0).1,b)):∃j,AW prog call n 87 [v] h=some (EE (CY l).1 (CY l).2,j)/\∀i,i<h.a->j.c i=h.c i:=by
 refine EA (R:=fun j=>∀i,i<h.a->j.c i=h.c i) func87 rfl (by simp) ?_;have r:f87.results.toList=[.cell 2 43]:=rfl;have f:∀o:BO,∀i,i<h.a->(h.d o).c i=h.c i:=fun o i k=>AV k;have g:=w.a (h':=h.d (.row [.int .i64 0,.int .i64 0] 43 false false)) (by show h.a<=h.a+1;omega) (f _);have a:=m _ g (by show h.b<=h.a+1;omega);have c:(h.b<=h.a)=True:=by grind
 have d:(h.a<h.a+1)=True:=by simp
 unfold CY;cases s:KK BG l with
 |some p=>
  rw[s]at a;have t:decide ((p:Int)>=0)=true:=by simp
  simp only[eE,seval,↓eP,rP,r,GO,GS,a,t,II,W3,XZ,FD,XU,c,d];intro i k;rw[ad (by omega),ad (by omega)]|none=>
  have e:=q s _ g (by show h.b<=h.a+1;omega);rw[s]at a;have t:decide ((-1:Int)>=0)=false:=rfl;cases u:decide ((FL l (l.length+1) 0).1>64)with
  |true=>
   rw[ag (by grind)];simp only[eE,seval,↓eP,rP,r,u,GO,GS,a,e,OC,W3,XZ,FD,XU,c,d];intro i k;rw[ad (by omega),ad (by omega)]|false=>rw[ad (by grind)];simp only[eE,seval,↓eP,rP,r,u,GO,GS,a,e,QV,W3,XZ,FD,XU,c,d];intro i k;rw[ad (by omega),ad (by omega)]
end
theorem wl{n:Nat}{l:List AF}{v:Value}(r:l.length+12<n)(c:l.length<2932031007403)(e:∀x∈l,x.b<=9223372036854775807){h:AA}(j:A8 h v l)(f:h.b<=h.a):AN n 87 [v] h=some (EE (CY l).1 (CY l).2,h):=by
 obtain⟨n,rfl⟩:∃k,n=k+4:=⟨n-4,by omega⟩;refine HF BF rfl (wk j f (fun m b a=>?_) fun o m b a=>?_);.exact HF BF rfl (Xr (wj _) b c (by omega) a e)
 .have g:=jG o;refine HF BF rfl (vf g b (by omega) (by omega) a ?_ fun P K k h p q=>IX (uo P K k h p q));refine PW BF ?_ (uT g b (by omega) (by omega) a fun H i d=>Ho g i (by omega) (by omega) d);simp[E5,flat,B7]
theorem Lh{k:Int}(h:CR k≠0):FN k=0/\E9 k=false:=by
 have:k=2\/k=3\/k=4\/k=5\/k=7:=by
  unfold CR at h;grind
 obtain rfl|rfl|rfl|rfl|rfl:=this<;>exact⟨rfl,rfl⟩
theorem oU{E:List Int}{at_:Nat}{s:AS}{x:AF}(a:s.a[at_]?=some x)(b:CR x.a≠0):GB E at_ s=if FV x s≠0 then(FV x s,s)else(0,CQ at_ ((E[at_]?).getD 0) x s):=by
 obtain⟨d,e⟩:=Lh b;unfold GB;rw[a];simp only;split;.rfl
 .have c:(CQ at_ ((E[at_]?).getD 0) x s).a[at_]?=some {x with n:=(CI s (CR x.a):Int)}:=by
   rw[h_,ad b];exact OH a
  rw[c];simp only;have f:EI at_ {x with n:=(CI s (CR x.a):Int)} (CQ at_ ((E[at_]?).getD 0) x s)=0:=by unfold EI;grind
  have g:C2 at_ {x with n:=(CI s (CR x.a):Int)} (CQ at_ ((E[at_]?).getD 0) x s)=CQ at_ ((E[at_]?).getD 0) x s:=by unfold C2;rw[ag d]
  rw[f,g,c,ad (by simp)];simp only;have h:EY {x with n:=(CI s (CR x.a):Int)} (CQ at_ ((E[at_]?).getD 0) x s)=0:=by unfold EY;grind
  have i:EZ at_ {x with n:=(CI s (CR x.a):Int)} (CQ at_ ((E[at_]?).getD 0) x s)=CQ at_ ((E[at_]?).getD 0) x s:=by unfold EZ;rw[ag e]
  grind
theorem lH{E:List Int}{at_:Nat}{s:AS}{x:AF}(b:s.a[at_]?=some x)(e:CR x.a=0):GB E at_ s=if EI at_ x s≠0 then(EI at_ x s,s)else match(C2 at_ x s).a[at_]? with
   |none=>(0,s)|some a=>if EY a (C2 at_ x s)≠0 then(EY a (C2 at_ x s),s)else(0,EZ at_ a (C2 at_ x s)):=by
 have c:FV x s=0:=by unfold FV;omega
 have d:CQ at_ ((E[at_]?).getD 0) x s=s:=by unfold CQ;grind
 unfold GB;rw[b];simp only;rw[c,d,b,ad (by simp)];grind
theorem aB{at_:Nat}{s:AS}{x:AF}(c:s.a[at_]?=some x)(a:EI at_ x s=0):∃n,(C2 at_ x s).a[at_]?=some {x with n:=n}/\(∀i,i≠at_->(C2 at_ x s).a[i]?=s.a[i]?)/\(C2 at_ x s).d=s.d/\(C2 at_ x s).h=s.h/\(C2 at_ x s).e=s.e/\((FN x.a=0/\n=x.n)\/∃t∈s.e,t.a=FN x.a/\n=t.c/\t.b<=at_/\I8 s.e x.c=some t):=by
 unfold EI at a;unfold C2;by_cases b:FN x.a=0
 .rw[ag b];exact⟨x.n,c,fun _ _=>rfl,rfl,rfl,rfl,.inl ⟨b,rfl⟩⟩
 .rw[ad b]at a⊢;cases d:I8 s.e x.c with
  |none=>grind|some t=>
   rw[d]at a;simp only at a⊢;refine⟨t.c,OH c,fun i e=>SI e,cj,cj,cj,.inr ⟨t,pY d,?_,rfl,?_,rfl⟩⟩;.omega
   omega
def oP(l:List AF)(i:Nat):Prop:=∃x,l[i]?=some x/\11<=x.a
theorem Th{w k:Int}(a:2<=w/\w<=7)(h:CX w k=true):11<=k:=by unfold CX at h;rw[ad (by omega),ad (by omega),ad (by omega)]at h;(repeat' split at h)<;>simp only[ak,ah,bu,am]at h<;>omega
theorem Kt(k:Int)(j:Nat):2<=CH k j/\CH k j<=7:=by unfold CH;(repeat' split)<;>omega
theorem Ty{l:List AF}:∀m b a,(2<=a/\a<=7)->(C6 BG l m b a).2=true->∀i,b<=i->i<(C6 BG l m b a).1->oP l i:=by intro m;induction m with|zero=>intro b a _ h;cases h|succ m f=>intro b a g;unfold C6;cases j:l[b]? with|none=>simp|some x=>
   simp only;split
   .rename_i n;intro h i d c;rcases ar b i with e|e;.exact vB (V:=oP l) (fun k p o i d c=>f p (CH x.a k) (Kt _ _) o i d c) x.b.toNat 0 (b+1) h i e c
    .have:i=b:=by omega
     subst this;exact⟨x,j,Th g (ey.1 n).1⟩
   omega
theorem uX{l:List AF}{r q:Nat}{x:AF}(h:FQ l r q)(b:l[r]?=some x)(h1:x.a≠1):∀i,r<i->i<q->oP l i:=by
 intro i d n;rcases h with⟨m,c,h⟩|⟨rfl,m,h⟩;.cases m with|zero=>cases h|succ m=>
   rw[fY b]at h;split at h
   .have e:(G9 (fun k a=>C6 BG l m a (CH x.a k)) x.b.toNat 0 (r+1)).2=true:=by rw[h]
    have o:(G9 (fun k a=>C6 BG l m a (CH x.a k)) x.b.toNat 0 (r+1)).1=q:=by rw[h]
    exact vB (V:=oP l) (fun k p f i h1 g=>Ty m p (CH x.a k) (Kt _ _) f i h1 g) x.b.toNat 0 (r+1) e i d (by omega)
   .cases h
 .rw[m8 b]at h;split at h
  .rename_i j;have:=(ey.1 j).1;exact absurd (by simpa[CX]using this) h1
  .cases h
structure U4 (l:List AF) (at_:Nat) (s:AS):Prop where
 a:∀ (j:Nat) (ru:Int),s.d[j]?=some ru->∃ r:Nat,ru=(r:Int)+1/\r<at_/\∃ x,l[r]?=some x/\x.a=7
 c:∀ (j j':Nat) (ru ru':Int),j<j'->s.d[j]?=some ru->s.d[j']?=some ru'->ru<ru'
 d:∀ t∈s.e,t.a=4->0<=t.c/\∃ r:Nat,s.d[t.c.toNat]?=some ((r:Int)+1)/\t.b=(AE l r:Int)
 b:∀ (i:Nat) (x:AF),i<at_->s.a[i]?=some x->x.a=22->∃ r:Nat,s.d[x.n.toNat]?=some ((r:Int)+1)/\AE l r<=i
theorem vO(l:List AF):U4 l 0 (DC l)where
 a:=fun j a h=>by simp[DC]at h
 c:=fun j c a b _ h=>by simp[DC]at h
 d:=fun t h=>by simp[DC]at h
 b:=fun i x h=>by omega
theorem wm{k:Int}(h:CR k=4):k=7:=by unfold CR at h;omega
theorem Uw{l:List AF}{at_:Nat}{s:AS}(T:DM l)(v:at_<l.length)(hi:JI l at_ s)(o:U4 l at_ s)(h0:(GB (AZ l) at_ s).1=0):U4 l (at_+1) (GB (AZ l) at_ s).2:=by
 obtain⟨x,w⟩:∃x,s.a[at_]?=some x:=⟨_,aa (by rw[hi.a];exact v)⟩;have D:l[at_]?=some x:=by rw[<-hi.b at_ (af _)];exact w
 have U:((AZ l)[at_]?).getD 0=(AE l at_:Int):=by rw[NU v];rfl
 by_cases A:CR x.a=0
 .rw[lH w A]at h0⊢;by_cases I:EI at_ x s=0;case neg=>grind
  rw[ad (by omega)]at h0⊢;obtain⟨n,J,M,V,W,X,N⟩:=aB w I;rw[J]at h0⊢;simp only at h0⊢;by_cases Y:EY {x with n:=n} (C2 at_ x s)=0;case neg=>grind
  rw[ad (by omega)];have E:(EZ at_ {x with n:=n} (C2 at_ x s)).a=(C2 at_ x s).a/\(EZ at_ {x with n:=n} (C2 at_ x s)).d=s.d/\(EZ at_ {x with n:=n} (C2 at_ x s)).e=s.e:=by
   unfold EZ;split;.grind
   .split;.grind
    grind
  obtain⟨E,B,O⟩:=E;simp only;refine⟨fun j e h=>?_,fun j C e p f d g=>?_,fun t f d=>?_,fun i y f d g=>?_⟩;.rw[B]at h;obtain⟨r,F,G,P⟩:=o.a j e h;grind
  .rw[B]at d g;exact o.c j C e p f d g
  .rw[O]at f;rw[B];exact o.d t f d
  .rw[E]at d;rw[B];by_cases k:i=at_
   .subst k;rw[J]at d;cases d;rcases N with⟨z,_⟩|⟨t,Q,K,Z,t4,_⟩
    .have m:x.a=22:=g;rw[m]at z;cases z
    .have m:x.a=22:=g;rw[m]at K;obtain⟨k1,r,k2,k3⟩:=o.d t Q K;grind
   .rw[M i k]at d;exact o.b i y (by omega) d g
 .rw[oU w A]at h0⊢;by_cases I:FV x s=0;case neg=>grind
  rw[ad (by omega)];simp only;have R:CQ at_ (((AZ l)[at_]?).getD 0) x s=HE at_ (AE l at_) x s:=by unfold CQ;grind
  rw[R];have L:(HE at_ (AE l at_) x s).d=if CR x.a=4 then s.d++[(at_:Int)+1]else s.d:=rfl;have H:(HE at_ (AE l at_) x s).e=s.e++[⟨x.c,CR x.a,CI s (CR x.a),AE l at_⟩]:=rfl;have q:(HE at_ (AE l at_) x s).a=JF s.a at_ (CI s (CR x.a)):=rfl;have S:∀(j:Nat)(e:Int),s.d[j]?=some e->(HE at_ (AE l at_) x s).d[j]?=some e:=fun j e h=>by grind
  have u:∀(j:Nat)(e:Int),(HE at_ (AE l at_) x s).d[j]?=some e->s.d[j]?=some e\/(CR x.a=4/\j=s.d.length/\e=(at_:Int)+1):=fun j e h=>by grind
  refine⟨fun j e h=>?_,fun j C e p f d g=>?_,fun t f d=>?_,fun i y f d g=>?_⟩
  .rcases u j e h with h|⟨z,_,rfl⟩
   .obtain⟨r,F,G,P⟩:=o.a j e h;grind
   .exact⟨at_,rfl,by omega,x,D,wm z⟩
  .rcases u j e d with d|⟨z,g2,rfl⟩
   .rcases u C p g with g|⟨_,_,rfl⟩;.exact o.c j C e p f d g
    .obtain⟨r,F,G,_⟩:=o.a j e d;omega
   grind
  .rw[H]at f;rcases ji.1 f with f|f
   .obtain⟨a,r,b,c⟩:=o.d t f d;grind
   .rw[List.mem_singleton.1 f]at d⊢;simp only at d⊢;refine⟨by omega,at_,?_,rfl⟩;rw[d];have:CI s 4=s.d.length:=rfl;grind
  .rw[q]at d;by_cases k:i=at_
   .subst k;rw[OH w]at d;cases d;have m:x.a=22:=g;rw[m]at A;exact absurd rfl A
   .rw[SI k]at d;obtain⟨r,F,G⟩:=o.b i y (by omega) d g;grind
theorem mT{l:List AF}(c:DM l):∀r a s,a+r=l.length->JI l a s->U4 l a s->(ED (AZ l) r a s).1=0->U4 l l.length (ED (AZ l) r a s).2.2
 |0,a,s,f,_,d,_=>by
  have:a=l.length:=by omega
  subst this;exact d|r+1,a,s,f,b,d,e=>by
  unfold ED at e⊢;by_cases h:(GB (AZ l) a s).1=0
  .rw[ad (by omega)]at e⊢;exact mT c r (a+1) _ (by omega) (aG c (aM a) (by omega) b h) (Uw c (by omega) b d h) e
  grind
theorem q8{l:List AF}{s:AS}(j:DM l)(c:l.length<2932031007403)(hi:JI l l.length s)(k:U4 l l.length s):XH s.a (AZ l) s.d where
 a:=Me j c hi
 b:=fun i F e x b f=>by
  obtain⟨r,rfl,G,y,n,o⟩:=k.a i F e;have m:=j.U G;obtain⟨z,B,_,_,p⟩:=m.a;rw[n]at B;cases B;have g:=j.h n;have H:1<=y.b:=by
   have q:=g.2.2.1;rw[o]at q;exact q
  have I:=HM _ _ _ p;have J:=m.b;have t:r+1<l.length:=by omega
  obtain⟨T,K,U⟩:=FQ.c (AE l r-r) (by omega) m (r+1) (by omega) (by omega);have u:=JN K;have L:((r:Int)+1).toNat=r+1:=by omega
  rw[L]at b;unfold blk at b;rw[NU t]at b;simp only[Option.getD_some,gy]at b;rw[u]at b;obtain⟨d,M,N⟩:=List.getElem_of_mem b;rw[fu,List.length_drop]at M;have h:s.a[r+1+d]?=some x:=by grind
  obtain⟨O,C,V⟩:=k.b (r+1+d) x (by omega) h f;have P:=(hi.c _ _ (by omega) h f).1;have W:¬i<=x.n.toNat:=by
   intro v;obtain⟨a,q,A,w,X,Q⟩:=k.a _ _ C;have:a=O:=by omega
   subst this;have R:=(j.U A).b;rcases gY v with D|D;.grind
   .have Y:=k.c i x.n.toNat _ _ D e C;rcases ar a (AE l r)with E|E;.obtain⟨Z,S,h5⟩:=uX m n (by omega) a (by omega) E;grind
    .omega
  omega
section
variable {call:AY} {N:Nat} {h:AA}
theorem wn{k:Int}:AW prog call N 162 [iv k] h=some (iv (JY k),h):=by
 refine DO func162 rfl (by simp) ?_;have b:f162.results.toList=[.tmp 2]:=rfl;unfold JY;by_cases e:k=1
 .have a:(k==1)=true:=by grind
  rw[ag e];simp only[eE,seval,↓eP,b,a]
 have a:(k==1)=false:=by grind
 rw[ad e];by_cases f:k=2
 .have c:(k==2)=true:=by grind
  rw[ag f];simp only[eE,seval,↓eP,b,a,c]
 have c:(k==2)=false:=by grind
 rw[ad f];by_cases g:k=3
 .have d:(k==3)=true:=by grind
  rw[ag g];simp only[eE,seval,↓eP,b,a,c,d]
 have d:(k==3)=false:=by grind
 rw[ad g];simp only[eE,seval,↓eP,b,a,c,d]
theorem ws{k:Int}:AW prog call N 125 [iv k] h=some (iv (JY k),h):=by
 refine DO func125 rfl (by simp) ?_;have b:f125.results.toList=[.tmp 2]:=rfl;unfold JY;by_cases e:k=1
 .have a:(k==1)=true:=by grind
  rw[ag e];simp only[eE,seval,↓eP,b,a]
 have a:(k==1)=false:=by grind
 rw[ad e];by_cases f:k=2
 .have c:(k==2)=true:=by grind
  rw[ag f];simp only[eE,seval,↓eP,b,a,c]
 have c:(k==2)=false:=by grind
 rw[ad f];by_cases g:k=3
 .have d:(k==3)=true:=by grind
  rw[ag g];simp only[eE,seval,↓eP,b,a,c,d]
 have d:(k==3)=false:=by grind
 rw[ad g];simp only[eE,seval,↓eP,b,a,c,d]
end
theorem wt(k:Int)(h:AA):L1 162 [iv k] h=some (iv (JY k),h):=HJ (JP rfl rfl) rfl rfl rfl ⟨_,wn⟩
theorem wu(k:Int)(h:AA):L1 125 [iv k] h=some (iv (JY k),h):=HJ (JP rfl rfl) rfl rfl rfl ⟨_,ws⟩
theorem wv(k:Int)(h:AA)(a:1<=k/\k<=54):L0 89 [iv k] h=some (iv (CR k),h):=HJ rfl rfl rfl rfl (LV oq a)
theorem Ul(k:Int)(h:AA)(a:1<=k/\k<=54):L0 91 [iv k] h=some (iv (FN k),h):=HJ rfl rfl rfl rfl (LV ot a)
theorem kC(k:Int)(h:AA)(a:1<=k/\k<=54):L0 93 [iv k] h=some (.bool (E9 k),h):=HJ rfl rfl rfl rfl (LV oy a)
section
variable {n lo m e r k:Nat} {h:AA} {nm:ByteArray} {E:List Int} {s:AS}
theorem Je{y:ByteArray}{tag:Nat->Nat}{V:Nat->Value}{C:List Int}(a:D3 h lo m e r k nm E tag V C s)(b:s.e.length<100000)(c:100005<n:=by omega):AN n 161 [qP m 0,.string y] h=some (iv (O5 s.e y 0),h):=by obtain⟨n,rfl⟩:=BX c;exact FA BF rfl (Vw a)
theorem ww{at_:Nat}{end_:Int}{x:AF}(f:IP h lo m e r k nm E s)(g:s.a[at_]?=some x)(i:CR x.a≠0)(c:at_<30000000000000)(j:E[at_]?=some end_)(l:0<=end_)(a:s.e.length<100000)(o:100010<n):∃b,AN n 90 [qP m 0,iv at_,iv (CR x.a)] h=some (iv (FV x s),b)/\(IQ h b lo/\(FV x s=0->IP b lo m e r k nm E (CQ at_ end_ x s))):=by obtain⟨n,rfl⟩:=BX o;exact RL BF (vg f g i c j l a (by omega) (fun y H p V C d=>Je d a) fun k b=>IX (wt k b))
theorem Wl{at_:Nat}{x:AF}(f:IP h lo m e r k nm E s)(g:s.a[at_]?=some x)(i:FN x.a≠0)(a:at_<30000000000000)(b:s.e.length<100000)(j:100010<n):∃c,AN n 92 [qP m 0,iv at_,iv (FN x.a)] h=some (iv (EI at_ x s),c)/\(IQ h c lo/\(EI at_ x s=0->IP c lo m e r k nm E (C2 at_ x s))):=by
 obtain⟨n,rfl⟩:=BX j;exact RL BF (Za f g i a fun y H l V C d=>Je d b)
theorem wx{at_:Nat}{x:AF}(f:IP h lo m e r k nm E s)(g:s.a[at_]?=some x)(a:E9 x.a=true)(b:at_<30000000000000)(c:x.a≠10->0<=x.n/\x.n<s.h.length)(i:0<n):∃d,AN n 94 [qP m 0,iv at_] h=some (iv (EY x s),d)/\(IQ h d lo/\(EY x s=0->IP d lo m e r k nm E (EZ at_ x s))):=by
 obtain⟨n,rfl⟩:=BX i;exact RL BF (vh f g a b c)
end
section
variable {n:Nat} {h:AA} {rows:List AF} {E rules:List Int} {vr v0 vq vv vt vu vo v7 ve:Value}
theorem Jm{S:List Int}{row g i:Nat}{vs:Value}(d:one v0=true/\one vq=true/\one vv=true/\one vt=true/\one vu=true/\one vo=true/\one v7=true)(j:A8 h vr rows)(k:AK g h ve E)(l:AK i h vs S)(m:FM S)(f:TH rows E rules)(e:row<rows.length)(o:rows.length+8<n)(c:∀x∈blk rows E row,x.a=22->0<=x.n/\x.n<S.length):AN n 97 [.agg #[v0,vr,vq,vv,vt,vu,vo,v7],ve,vs,iv (row:Int)] h=some (iv (Gz0 rows E S row),h):=by
 obtain⟨n,rfl⟩:=BX o;obtain⟨q,p,r,s,t⟩:=f.f e;have u:Gz0 rows E S row=IN S ((rows.drop row).take (q-row)) 0:=by unfold Gz0;grind
 rw[u];rw[t]at c;exact HF BF rfl (vj d j k l m p r s (by have:=f.c;omega) (by omega) c fun a b v w y=>IX (Dw v w y))
theorem wy{y z:Nat}(j:one v0=true/\one vq=true/\one vv=true/\one vt=true/\one vo=true/\one v7=true)(t:A8 h vr rows)(u:AK y h ve E)(w:AK z h vu rules)(x:XH rows E rules)(o:h.b<=h.a)(A:rows.length+rules.length+12<n):∃v k,AN n 95 [.agg #[v0,vr,vq,vv,vt,vu,vo,v7],ve] h=some (v,k)/\(AK h.a k v (KA rows E rules [])/\k.b=h.b/\h.a<=k.a/\∀i,i<h.a->k.c i=h.c i):=by
 obtain⟨n,rfl⟩:=BX A;refine GY BF (vk j t u w x o (by omega) fun K S p H q l B r m C=>?_) fun v L M q⟨D,_,_,_⟩=>⟨?_,rfl,af _,fun _ _=>rfl⟩;.obtain⟨a,b,c,d,e,f⟩:=j;exact Jm ⟨a,b,c,d,AL.a w,e,f⟩ (t.a l q) (u.U l fun i _ F=>q i F) B r x.a m (by omega) C
 .obtain⟨G,a,c,rfl,⟨I,rfl⟩|⟨J,s,p,N,g,O,rfl,P,Q,R⟩⟩:=D;.exact⟨G,_,_,rfl,.inl ⟨I,rfl⟩⟩
  .have:E5 (.slice (some ⟨J,s,none⟩) (KA rows E rules []).length c)=false:=rfl;grind
end
def sZ:AS:=⟨[],[],[],[],[],[],0,[]⟩
def PJ(l:List AF):ByteArray:=match l[0]? with|some x=>x.c|none=>ByteArray.empty
noncomputable def FE(l:List AF):ByteArray×AS:=if(DA l).1.1≠0 then(ByteArray.empty,sZ)else(PJ l,(DA l).2)
abbrev XM:Value:=.agg #[.string ByteArray.empty,Z0,Z0,Z0,Z0,Z0,Z0,iv 0]
theorem Qx(lo:Nat)(h:AA):CG lo h XM ByteArray.empty sZ:=⟨_,_,_,_,_,_,rfl,JZ.b (AL.e lo h 5),AL.e lo h 2,AL.e lo h 1,AL.e lo h 1,AL.e lo h 1,AL.e lo h 1⟩
theorem GQ{t:TypeId}{k:Nat}(b:BN prog t=some k){h:AA}{id:Nat}{vs cs:List Value}{ty:TypeId}{g:Bool}(c:h.c id=.row cs ty g false)(e:cs.length=k)(f:vs.length=k)(i:vs.all one=true)(j:h.b<=id):BD prog h t (qP id 0) (.agg vs.toArray)=some (h.e id (.row vs ty g false)):=by
 have d:(Value.agg vs.toArray).cells=vs.toArray:=rfl;have a:Go.Sx.lay cs 0 vs=vs:=by
  simp only[Go.Sx.lay,List.take_zero,dw,ab];grind
 simp only[BD,d,b,HW,c];grind
theorem NR:DK prog 27=some XM:=sF
theorem NQ:flat XM=true:=rfl
theorem YD:HN prog (match prog.underlying 27 with|some (.struct a)=>a.toList|_=>[])=some [(0,1),(1,1),(2,1),(3,1),(4,1),(5,1),(6,1),(7,1)]:=by kernel_rfl
theorem WI:CL prog 27 []=some XM:=by have h:=YD;rw[bG]at h;simp only at h;simp only[CL,NR,NQ,ai,bG,h];rfl
theorem wR{nm:ByteArray}{m:Int}:CL prog 27 [(0,.string nm),(7,iv m)]=some (.agg #[.string nm,Z0,Z0,Z0,Z0,Z0,Z0,iv m]):=by have h:=YD;rw[bG]at h;simp only at h;simp only[CL,NR,NQ,ai,bG,h];rfl
theorem Uz:HN prog (match prog.underlying 170 with|some (.struct a)=>a.toList|_=>[])=some [(0,8),(8,1),(9,1),(10,5)]:=by kernel_rfl
theorem wT:DK prog 170=some (.agg #[.string ByteArray.empty,Z0,Z0,Z0,Z0,Z0,Z0,iv 0,Z0,Z0,iv 0,iv 0,iv 0,iv 0,iv 0]):=by kernel_rfl
abbrev y_(nm:ByteArray)(m:Int)(e k:Nat):Value:=.agg #[.string nm,Z0,Z0,Z0,Z0,Z0,Z0,iv m,qS e k k,Z0,iv 0,iv 0,iv 0,iv 0,iv 0]
theorem xc{nm:ByteArray}{m:Int}{e k:Nat}:CL prog 170 [(0,.agg #[.string nm,Z0,Z0,Z0,Z0,Z0,Z0,iv m]),(1,qS e k k)]=some (y_ nm m e k):=by have h:=Uz;rw[ij]at h;simp only at h;have a:flat (.agg #[.string ByteArray.empty,Z0,Z0,Z0,Z0,Z0,Z0,iv 0,Z0,Z0,iv 0,iv 0,iv 0,iv 0,iv 0])=true:=rfl;simp only[CL,wT,a,ai,ij,h];rfl
theorem Vx:BN prog 41=some 1:=by kernel_rfl
theorem xd:HC prog 41=some false:=by kernel_rfl
theorem HV{h:AA}{id off:Nat}:EP prog h 41 (qP id off)=AI off (h.c id):=JL xd
theorem HX{id off:Nat}:BC prog 43 (qP id off) 0=some (qP id off):=by simp[BC,gz,Vx,CB]
theorem Xl{h:AA}{l:List AF}{v:Value}(e:A8 h v l)(g:0<l.length)(f:l.length<2932031007403:=by omega):DR prog h 22 (Z0) v=some (qS h.a l.length AT,h.d (.row (l.flatMap AQ) 125 true false)):=by
 have b:=e.e;obtain⟨a,c,rfl,o⟩:=e;have d:(Value.agg #[.int .i64 0,.string ByteArray.empty,.int .i64 0,.int .i64 0,.int .i64 0]).cells.size=5:=rfl;have i:(0:Nat)≠AT:=by unfold AT;omega
 have j:¬(l.length<=0):=by omega
 have k:l.length*48<=140737488355328:=by omega
 have m:l.length<=140737488355328:=by omega
 have n:EL h 5 0 (Z0)=some []:=rfl;simp only[DR,bq,GC,WO,FC,d,b,X_,i,n,j,k,m,ee,fg,ao,ai,bi,af,ab,ff,bg,dw,show(0<5)=True by simp]
noncomputable def mN:Code:=rt (rt (rt (f25.body.getD .skip)))
noncomputable def RR5:Code:=rt mN
noncomputable def jC:Code:=rt RR5
noncomputable def jW:Code:=rt jC
def tH:List (Bool×Bool×List Operand):=[AO,AJ,AH [.tmp 4],AJ]
def zV:List (Bool×Bool×List Operand):=[(true,false,[]),(true,false,[]),(true,false,[]),(true,false,[]),(true,false,[]),AH [.tmp 21],AH [.tmp 21],AJ,AJ,AJ]
def GZ(a:Nat)(H:AA)(b:List Value)(e p:Int):Prop:=H.c a=.row b 27 false false/\H.c (a+1)=.row [iv e,iv p] 43 false false
section
variable {N:Nat} {call:AY}
theorem Yu(u:C_ call){l:List AF}{v:Value}{h:AA}{K:DH}(D:h.b<=h.a)(E:A8 h v l)(f:∀H,A8 H v l->H.b<=H.a->call 87 [v] H=some (EE (CY l).1 (CY l).2,H))(w:(CY l).1≠0->∀c H,c.a 2=qP h.a 0->c.a 3=qP (h.a+1) 0->GZ h.a H CO (CY l).1 (CY l).2->h.a+2<=H.a->H.b=h.b->(∀i,i<h.a->H.c i=h.c i)->K.a prog call N .ret ⟨c,H⟩)(x:(CY l).1=0->∀c H,c.a 0=v->c.a 2=qP h.a 0->c.a 3=qP (h.a+1) 0->GZ h.a H CO 0 0->h.a+2<=H.a->H.b=h.b->(∀i,i<h.a->H.c i=h.c i)->WK prog call N mN ⟨c,H⟩ K):WK prog call N (f25.body.getD .skip) ⟨JX 0 [v] .leaf,h⟩ K:=by
 show WK _ _ _ (.seq _ (.seq _ (.seq _ mN))) _ _;have F:=C9 CO;have g:∀i,i<h.a->((h.d (.row CO 27 false false)).d (.row [iv 0,iv 0] 43 false false)).c i=h.c i:=fun i e=>by rw[AV (by show i<h.a+1;omega),AV e]
 have G:=f ((h.d (.row CO 27 false false)).d (.row [iv 0,iv 0] 43 false false)) (E.a (by show h.a<=h.a+1+1;omega) g) (by show h.b<=h.a+1+1;omega);have I:=JG (h:=h) (o:=.row CO 27 false false) (o':=.row [iv 0,iv 0] 43 false false);have J:=MG (h:=h) (o:=.row CO 27 false false) (o':=.row [iv 0,iv 0] 43 false false);simp only[eE,seval,DJ,NR,NQ,F,GO,GS,I3];generalize k:(h.d (.row CO 27 false false)).d (.row [iv 0,iv 0] 43 false false)=H2 at*;have L:H2.a=h.a+1+1:=by rw[<-k];rfl
 have y:H2.b=h.b:=by rw[<-k];rfl
 have M:=GQ (t:=43) MR (h:=H2.d (.row [iv 0,iv 0] 43 false false)) (vs:=[iv (CY l).1,iv (CY l).2]) BJ rfl rfl rfl (by show H2.b<=H2.a;omega);simp only[eE,seval,G,GO,GS,I3,M];have m:((H2.d (.row [iv 0,iv 0] 43 false false)).e H2.a (.row [iv (CY l).1,iv (CY l).2] 43 false false)).c H2.a=.row [iv (CY l).1,iv (CY l).2] 43 false false:=BE rfl (by show H2.a<H2.a+1;omega);have n:((H2.d (.row [iv 0,iv 0] 43 false false)).e H2.a (.row [iv (CY l).1,iv (CY l).2] 43 false false)).c h.a=.row CO 27 false false:=by rw[AP (by show H2.a<H2.a+1;omega) (by omega),AV];exact I
 have p:((H2.d (.row [iv 0,iv 0] 43 false false)).e H2.a (.row [iv (CY l).1,iv (CY l).2] 43 false false)).c (h.a+1)=.row [iv 0,iv 0] 43 false false:=by rw[AP (by show H2.a<H2.a+1;omega) (by omega),AV];exact J
 have q:∀i,i<h.a->((H2.d (.row [iv 0,iv 0] 43 false false)).e H2.a (.row [iv (CY l).1,iv (CY l).2] 43 false false)).c i=h.c i:=fun i e=>by rw[AP (by show H2.a<H2.a+1;omega) (by omega),AV];exact g i e
 have O:((H2.d (.row [iv 0,iv 0] 43 false false)).e H2.a (.row [iv (CY l).1,iv (CY l).2] 43 false false)).a=h.a+3:=by show H2.a+1=_;omega
 have r:((H2.d (.row [iv 0,iv 0] 43 false false)).e H2.a (.row [iv (CY l).1,iv (CY l).2] 43 false false)).b=h.b:=y;generalize(H2.d (.row [iv 0,iv 0] 43 false false)).e H2.a (.row [iv (CY l).1,iv (CY l).2] 43 false false)=H3 at*;have C:AI 0 (H3.c H2.a)=some (iv (CY l).1):=by rw[m];rfl
 cases d:((CY l).1 !=0)with
 |false=>
  have z:(CY l).1=0:=by grind
  simp only[eE,seval,↓eP,HX,HV,C,d];refine x z _ _ ?_ ?_ ?_ ⟨n,p⟩ (by omega) r q<;>simp only[eE,seval]|true=>
  have z:(CY l).1≠0:=by grind
  have A:AX 2 0 (H3.c H2.a)=some (EE (CY l).1 (CY l).2):=by rw[m];rfl
  have P:=GQ EQ (vs:=CO) n rfl rfl rfl (by omega);have s:=(AP (h:=H3) (i:=h.a) (j:=h.a+1) (o:=.row CO 27 false false) (by omega) (by omega)).trans p;have B:=GQ (t:=43) MR (vs:=[iv (CY l).1,iv (CY l).2]) s rfl rfl rfl (by show H3.b<=_;omega);have Q:(some H2.a !=some h.a)=true:=by grind
  have R:DP (qP H2.a 0)=some H2.a:=rfl;have S:DP (qP h.a 0)=some h.a:=rfl;simp only[eE,seval,↓eP,HX,HV,C,d];refine WK.a (fs:=tH) (by kernel_rfl) ?_;unfold tH;iterate 4 refine DG u ?_;simp only[rG,seval,AB,AD,AC,A7,BL,target,BY,WI,FD,A,R,S,Q,P,B]
  refine DF ?_;simp only[eE,seval];have T:∀i,i≠h.a->(H3.e h.a (.row CO 27 false false)).c i=H3.c i:=fun i e=>AP (by omega) (bc e);refine w z _ _ ?_ ?_ ⟨?_,BE rfl (by show h.a+1<H3.a;omega)⟩ (by show h.a+2<=H3.a;omega) r fun i e=>?_;.simp only[eE,seval]
  .simp only[eE,seval]
  .rw[AP (by show h.a+1<H3.a;omega) (by omega)];exact BE rfl (by omega)
  .rw[AP (by show h.a+1<H3.a;omega) (by omega),T i (by omega)];exact q i e
theorem Ti(w:C_ call){l:List AF}{v:Value}{T:Tr}{H:AA}{K:DH}(y:DM l)(O:l.length<2932031007403)(Z:H.b<=H.a)(P:A8 H v l)(z:T.a 0=v)(f:∀H,A8 H v l->H.b<=H.a->∃g,call 88 [v] H=some (qS H.a l.length l.length,g)/\(g.c H.a=.row (ints (AZ l)) 3 false false/\g.a=H.a+1/\g.b=H.b/\∀i,i<H.a->g.c i=H.c i))(hk:∀k n m e r,k.a 0=v->k.a 2=T.a 2->k.a 3=T.a 3->k.a 5=qP m 0->IP n H.a m e r l.length (PJ l) (AZ l) (DC l)->H.a<=n.a->n.b=H.b->(∀i,i<H.a->n.c i=H.c i)->WK prog call N jC ⟨k,n⟩ K):WK prog call N mN ⟨T,H⟩ K:=by
 show WK _ _ _ (.seq (.region _ _ true) (.seq _ jC)) _ _;rw[NB];have d:=y.V;obtain⟨x,Q⟩:∃x,l[0]?=some x:=⟨_,aa d⟩;obtain⟨R,q,e0,A,l0,l1,l2,l3,l4,lr⟩:=P.b Q;have B:A8 (H.f (max H.b H.a)) v l:=by assumption
 obtain⟨a,S,U,g2,g3,V⟩:=f (H.f (max H.b H.a)) B (by show max H.b H.a<=H.a;omega);simp only[BK]at S U g2 V;have h0:a.b=max H.b H.a:=g3;have C:∀i,i<H.a->a.c i=H.c i:=V;have D:PJ l=x.c:=by unfold PJ;rw[Q]
 have E:BW prog 22 v (iv 0)=some (qP R q):=e0;have p:(R<H.a)=True:=by simp[A]
 have W:(y_ x.c (-1) H.a l.length).cells.toList.all one=true:=rfl;have F:(y_ x.c (-1) H.a l.length).cells.toList=[.string x.c,Z0,Z0,Z0,Z0,Z0,Z0,iv (-1),qS H.a l.length l.length,Z0,iv 0,iv 0,iv 0,iv 0,iv 0]:=rfl;refine WK.a (fs:=zV) (by kernel_rfl) ?_;unfold zV;iterate 10
  refine DG w ?_;simp only[rG,seval,AB,AD,AC,A7,BL,BY,z,E,PY,p,HS,l1,wR,S,xc,F,sz93]
 refine DF ?_;have h1:((a.f H.b).d (.row [.string x.c,Z0,Z0,Z0,Z0,Z0,Z0,iv (-1),qS H.a l.length l.length,Z0,iv 0,iv 0,iv 0,iv 0,iv 0] 170 false false)).a=H.a+1+1:=by show a.a+1=_;omega
 have s:((a.f H.b).d (.row [.string x.c,Z0,Z0,Z0,Z0,Z0,Z0,iv (-1),qS H.a l.length l.length,Z0,iv 0,iv 0,iv 0,iv 0,iv 0] 170 false false)).b=H.b:=rfl;have X:((a.f H.b).d (.row [.string x.c,Z0,Z0,Z0,Z0,Z0,Z0,iv (-1),qS H.a l.length l.length,Z0,iv 0,iv 0,iv 0,iv 0,iv 0] 170 false false)).c a.a=.row [.string x.c,Z0,Z0,Z0,Z0,Z0,Z0,iv (-1),qS H.a l.length l.length,Z0,iv 0,iv 0,iv 0,iv 0,iv 0] 170 false false:=BJ (h:=a.f H.b);have ge:((a.f H.b).d (.row [.string x.c,Z0,Z0,Z0,Z0,Z0,Z0,iv (-1),qS H.a l.length l.length,Z0,iv 0,iv 0,iv 0,iv 0,iv 0] 170 false false)).c H.a=.row (ints (AZ l)) 3 false false:=by rw[AV (by show H.a<a.a;omega)];exact U
 have Y:∀i,i<H.a->((a.f H.b).d (.row [.string x.c,Z0,Z0,Z0,Z0,Z0,Z0,iv (-1),qS H.a l.length l.length,Z0,iv 0,iv 0,iv 0,iv 0,iv 0] 170 false false)).c i=H.c i:=fun i u=>by rw[AV (by show i<a.a;omega)];exact C i u
 generalize(a.f H.b).d (.row [.string x.c,Z0,Z0,Z0,Z0,Z0,Z0,iv (-1),qS H.a l.length l.length,Z0,iv 0,iv 0,iv 0,iv 0,iv 0] 170 false false)=b at*;have G:A8 b v l:=P.a (by omega) Y;have I:=Xl G d;have J:AI 1 (b.c a.a)=some (Z0):=by rw[X];rfl
 have L:(b.d (.row (l.flatMap AQ) 125 true false)).c a.a=.row [.string x.c,Z0,Z0,Z0,Z0,Z0,Z0,iv (-1),qS H.a l.length l.length,Z0,iv 0,iv 0,iv 0,iv 0,iv 0] 170 false false:=by rw[AV];exact X
 have M:=EO (t:=22) (off:=1) cO (v:=qS b.a l.length AT) rfl rfl L (by simp) (by show b.b<=_;omega);have h4:b.f (a.f H.b).b=b:=by
  show b.f H.b=b;rw[<-s];exact C0 b
 simp only[eE,seval,z,K0,CK,CJ,J,I,M];have c:∀(o:BO)(i:Nat),i≠a.a->((b.d (.row (l.flatMap AQ) 125 true false)).e a.a o).c i=(b.d (.row (l.flatMap AQ) 125 true false)).c i:=fun o i u=>AP (by show a.a<b.a+1;omega) (bc u);refine hk _ _ a.a H.a b.a ?_ ?_ ?_ ?_ ⟨fun i=>if i=a.a then 0 else if i=b.a then 1 else if i=H.a then 10 else 11,fun _=>Z0,?_,⟨by simp[DC],by simp[DC],by simp[DC],by simp[DC],rfl,fun t y=>by cases y⟩⟩ ?_ (by show b.b=H.b;exact s) fun i u=>?_;.simp only[eE,seval,z]
 .simp only[eE,seval]
 .simp only[eE,seval]
 .simp only[eE,seval]
 .exact
   { a:=by rw[BE rfl (by show a.a<b.a+1;omega),D];simp only[I4,UC];rfl
     b:=by rw[c _ _ (by omega)];exact BJ
     g:=rfl
     p:=fun j h2 h8=>by
      have hj:j=2\/j=3\/j=4\/j=5\/j=6\/j=7\/j=8:=by omega
      rcases hj with rfl|rfl|rfl|rfl|rfl|rfl|rfl<;>exact .inl ⟨rfl,rfl,rfl⟩
     c:=by rw[c _ _ (by omega),AV];exact ge
     i:=ag rfl
     o:=by grind
     q:=by grind
     d:=⟨by omega,by show a.a<b.a+1;omega⟩
     f:=⟨by omega,by show b.a<b.a+1;omega⟩
     l:=⟨af _,by show H.a<b.a+1;omega⟩
     k:=by show b.b<=H.a;omega}
 .show H.a<=b.a+1;omega
 .rw[c _ _ (by omega),AV];exact Y i u
end
noncomputable def pF:Code:=rt (rt (f13.body.getD .skip))
noncomputable def PR5:Code:=rt pF
noncomputable def Vs:Code:=rt PR5
noncomputable def PR7:Code:=rt Vs
noncomputable def g_:Code:=rt PR7
noncomputable def kX:Code:=rt g_
noncomputable def Qb:Array Oper:=B9 f13 3
def Ur:List (Bool×Bool×List Operand):=[AO,AJ,AH [.tmp 4],AJ]
theorem xe:CA Qb=Ur:=by kernel_rfl
noncomputable def Nl:Array Oper:=B9 f13 5
def xf:List (Bool×Bool×List Operand):=[DT,BP [.tmp 5],BP [.tmp 5],BP [.tmp 5],BP [.tmp 5],AH [.tmp 5,.tmp 27],AH [.tmp 5,.tmp 27],AH [.tmp 5],AJ,AJ,AJ]
theorem xg:CA Nl=xf:=by kernel_rfl
theorem stL{t:TypeId}{k:Nat}(b:BN prog t=some k){h:AA}{id:Nat}{vs cs:List Value}{ty:TypeId}{g:Bool}(c:h.c id=.row cs ty g false)(f:k<=cs.length)(d:vs.length=k)(i:vs.all one=true)(j:h.b<=id):BD prog h t (qP id 0) (.agg vs.toArray)=some (h.e id (.row (vs++cs.drop k) ty g false)):=by
 have e:(Value.agg vs.toArray).cells=vs.toArray:=rfl;have a:Go.Sx.lay cs 0 vs=vs++cs.drop k:=by simp only[Go.Sx.lay,List.take_zero,dw,ab,d]
 simp only[BD,e,b,HW,c];grind
theorem xh{nm:ByteArray}{a:Option Addr}{n c:Nat}{m:Int}:CL prog 27 [(0,.string nm),(1,.slice a n c),(7,iv m)]=some (.agg #[.string nm,.slice a n c,Z0,Z0,Z0,Z0,Z0,iv m]):=by have h:=YD;rw[bG]at h;simp only at h;simp only[CL,NR,NQ,ai,bG,h];rfl
theorem xi:HN prog (match prog.underlying 123 with|some (.struct a)=>a.toList|_=>[])=some [(0,8),(8,1),(9,1)]:=by kernel_rfl
theorem xj:DK prog 123=some (.agg #[.string ByteArray.empty,Z0,Z0,Z0,Z0,Z0,Z0,iv 0,.map none,.map none]):=by kernel_rfl
abbrev Hi(k c:Nat):Value:=.agg #[.string ByteArray.empty,Z0,Z0,Z0,Z0,Z0,Z0,iv 0,.map (some k),.map (some c)]
theorem xk{k c:Nat}:CL prog 123 [(1,.map (some k)),(2,.map (some c))]=some (Hi k c):=by have h:=xi;rw[underlying123]at h;simp only at h;have a:flat (.agg #[.string ByteArray.empty,Z0,Z0,Z0,Z0,Z0,Z0,iv 0,.map none,.map none])=true:=rfl;simp only[CL,xj,a,ai,underlying123,h];rfl
theorem Jj:BN prog 129=some 1:=by kernel_rfl
theorem xl:HC prog 129=some false:=by kernel_rfl
theorem xm:DK prog 129=some .nilFunc:=by kernel_rfl
theorem xn:DK prog 119=some (.pointer none):=by kernel_rfl
theorem xo:DK prog 25=some (Z0):=by kernel_rfl
theorem Fk{h:AA}{id off:Nat}:EP prog h 129 (qP id off)=AI off (h.c id):=JL xl
theorem bs87{h:AA}{c d e:FuncId}{g a1 a2 i b1 b2:Array Value}:FP prog h 130 3 [(0,.func (.func c) g i),(1,.func (.func d) a1 b1),(2,.func (.func e) a2 b2)]=some (qS h.a 3 3,h.d (.row [.func (.func c) g i,.func (.func d) a1 b1,.func (.func e) a2 b2] 129 false false)):=by have j:∀(f:FuncId)(a b:Array Value),(Value.func (.func f) a b).cells=#[.func (.func f) a b]:=fun _ _ _=>rfl;have k:Value.nilFunc.cells=#[.nilFunc]:=rfl;simp[FP,underlying130,Jj,xm,flat,B7,j,k,I6,CF,Go.Sx.lay]
theorem xp{h:AA}{id c i:Nat}(hi:i<3):BW prog 130 (qS id 3 c) (iv (i:Int))=some (qP id i):=by simp only[BW,underlying130,Jj,CB];grind
theorem xq{h:AA}{a:Option Addr}{n c:Nat}:CU prog h 130 (.slice a n c)=some (iv (n:Int)):=by simp[CU,underlying130]
section
variable {N:Nat} {call:AY}
theorem xr(b:C_ call){l:List AF}{v:Value}{h:AA}{K:DH}(F:h.b<=h.a)(G:A8 h v l)(I:h.c 0=EM)(w:0<h.a)(k:∀H,A8 H v l->H.c 0=EM->0<H.a->H.b<=H.a->call 61 [v] H=some (EE (CY l).1 (CY l).2,H))(x:(CY l).1≠0->∀T' H,T'.a 2=qP h.a 0->T'.a 3=qP (h.a+1) 0->GZ h.a H CO (CY l).1 (CY l).2->h.a+2<=H.a->H.b=h.b->(∀i,i<h.a->H.c i=h.c i)->K.a prog call N .ret ⟨T',H⟩)(y:(CY l).1=0->∀T' H,T'.a 0=v->T'.a 2=qP h.a 0->T'.a 3=qP (h.a+1) 0->GZ h.a H CO 0 0->h.a+2<=H.a->H.b=h.b->(∀i,i<h.a->H.c i=h.c i)->WK prog call N pF ⟨T',H⟩ K):WK prog call N (f13.body.getD .skip) ⟨JX 0 [v] .leaf,h⟩ K:=by
 show WK _ _ _ (.seq _ (.seq _ pF)) _ _;have J:=C9 CO;have f:∀i,i<h.a->((h.d (.row CO 27 false false)).d (.row [iv 0,iv 0] 43 false false)).c i=h.c i:=fun i g=>by rw[AV (by show i<h.a+1;omega),AV g]
 have L:=k ((h.d (.row CO 27 false false)).d (.row [iv 0,iv 0] 43 false false)) (G.a (by show h.a<=h.a+1+1;omega) f) ((f 0 w).trans I) (by show 0<h.a+1+1;omega) (by show h.b<=h.a+1+1;omega);have M:=JG (h:=h) (o:=.row CO 27 false false) (o':=.row [iv 0,iv 0] 43 false false);have O:=MG (h:=h) (o:=.row CO 27 false false) (o':=.row [iv 0,iv 0] 43 false false);simp only[eE,seval,DJ,NR,NQ,J,GO,GS,I3];generalize m:(h.d (.row CO 27 false false)).d (.row [iv 0,iv 0] 43 false false)=a at*;have P:a.a=h.a+1+1:=by rw[<-m];rfl
 have z:a.b=h.b:=by rw[<-m];rfl
 have Q:=GQ (t:=43) MR (h:=a.d (.row [iv 0,iv 0] 43 false false)) (vs:=[iv (CY l).1,iv (CY l).2]) BJ rfl rfl rfl (by show a.b<=a.a;omega);simp only[eE,seval,L,GO,GS,I3,Q];have n:((a.d (.row [iv 0,iv 0] 43 false false)).e a.a (.row [iv (CY l).1,iv (CY l).2] 43 false false)).c a.a=.row [iv (CY l).1,iv (CY l).2] 43 false false:=BE rfl (by show a.a<a.a+1;omega);have p:((a.d (.row [iv 0,iv 0] 43 false false)).e a.a (.row [iv (CY l).1,iv (CY l).2] 43 false false)).c h.a=.row CO 27 false false:=by rw[AP (by show a.a<a.a+1;omega) (by omega),AV];exact M
 have q:((a.d (.row [iv 0,iv 0] 43 false false)).e a.a (.row [iv (CY l).1,iv (CY l).2] 43 false false)).c (h.a+1)=.row [iv 0,iv 0] 43 false false:=by rw[AP (by show a.a<a.a+1;omega) (by omega),AV];exact O
 have r:∀i,i<h.a->((a.d (.row [iv 0,iv 0] 43 false false)).e a.a (.row [iv (CY l).1,iv (CY l).2] 43 false false)).c i=h.c i:=fun i g=>by rw[AP (by show a.a<a.a+1;omega) (by omega),AV];exact f i g
 have R:((a.d (.row [iv 0,iv 0] 43 false false)).e a.a (.row [iv (CY l).1,iv (CY l).2] 43 false false)).a=h.a+3:=by show a.a+1=_;omega
 have s:((a.d (.row [iv 0,iv 0] 43 false false)).e a.a (.row [iv (CY l).1,iv (CY l).2] 43 false false)).b=h.b:=z;generalize(a.d (.row [iv 0,iv 0] 43 false false)).e a.a (.row [iv (CY l).1,iv (CY l).2] 43 false false)=H3 at*;have D:AI 0 (H3.c a.a)=some (iv (CY l).1):=by rw[n];rfl
 cases d:((CY l).1 !=0)with
 |false=>
  have A:(CY l).1=0:=by grind
  simp only[eE,seval,↓eP,HX,HV,D,d];refine y A _ _ ?_ ?_ ?_ ⟨p,q⟩ (by omega) s r<;>simp only[eE,seval]|true=>
  have A:(CY l).1≠0:=by grind
  have B:AX 2 0 (H3.c a.a)=some (EE (CY l).1 (CY l).2):=by rw[n];rfl
  have S:=GQ EQ (vs:=CO) p rfl rfl rfl (by omega);have u:=(AP (h:=H3) (i:=h.a) (j:=h.a+1) (o:=.row CO 27 false false) (by omega) (by omega)).trans q;have C:=GQ (t:=43) MR (vs:=[iv (CY l).1,iv (CY l).2]) u rfl rfl rfl (by show H3.b<=_;omega);have T:(some a.a !=some h.a)=true:=by grind
  have E:DP (qP a.a 0)=some a.a:=rfl;have U:DP (qP h.a 0)=some h.a:=rfl;simp only[eE,seval,↓eP,HX,HV,D,d];refine WK.a (ops:=Qb) xe ?_;refine BV.a ?_;refine AG b 0 (some 18) (.build 27 #[]) none ?_;simp only[rG,seval,AB,AD,AC,dz,WI];refine AG b 1 (some 19) (.load 43 (.tmp 4)) none ?_;simp only[rG,seval,AB,AC,A7,FD,B,E];refine AG b 2 (none) (.store 27 (.tmp 2) (.tmp 18)) none ?_;simp only[rG,seval,AB,AC,target,BY,E,U,T,S];refine AG b 3 (none) (.store 43 (.tmp 3) (.tmp 19)) none ?_;simp only[rG,seval,AB,AC,target,BY,C];refine BV.b (i:=4) (by kernel_rfl) ?_;simp only[eE,seval];have V:∀i,i≠h.a->(H3.e h.a (.row CO 27 false false)).c i=H3.c i:=fun i g=>AP (by omega) (bc g);refine x A _ _ ?_ ?_ ⟨?_,BE rfl (by show h.a+1<H3.a;omega)⟩ (by show h.a+2<=H3.a;omega) s fun i g=>?_;.simp only[eE,seval]
  .simp only[eE,seval]
  .rw[AP (by show h.a+1<H3.a;omega) (by omega)];exact BE rfl (by omega)
  .rw[AP (by show h.a+1<H3.a;omega) (by omega),V i (by omega)];exact r i g
structure l9 (h:AA) (m e c5 c6 fl n:Nat) (E:List Int):Prop where
 a:h.c c5=.row [qP m 0] 119 false false
 b:h.c c6=.row [qS e n n] 25 false false
 c:h.c fl=.row [.func (.func 64) #[] #[qP c5 0,qP c6 0],.func (.func 66) #[qP m 0] #[],.func (.func 67) #[qP m 0] #[]] 129 false false
theorem xu(b:C_ call){l:List AF}{v:Value}{T:Tr}{H:AA}{K:DH}(P:DM l)(h7:l.length<2932031007403)(h8:H.b<=H.a)(hv:A8 H v l)(O:T.a 0=v)(s:∀H,A8 H v l->∃g,call 62 [v] H=some (qS (H.a+1) l.length AT,g)/\(g.c (H.a+1)=.row (l.flatMap AQ) 125 true false/\g.a=H.a+2/\g.b=H.b/\∀i,i<H.a->g.c i=H.c i))(z:∀H,A8 H v l->H.b<=H.a->∃g,call 63 [v] H=some (qS H.a l.length l.length,g)/\(g.c H.a=.row (ints (AZ l)) 3 false false/\g.a=H.a+1/\g.b=H.b/\∀i,i<H.a->g.c i=H.c i))(hk:∀D E m k c e r R G S,D.a 0=v->D.a 2=T.a 2->D.a 3=T.a 3->D.a 5=qP R 0->D.a 6=qP G 0->D.a 7=qS S 3 3->HG E H.a m k c e r l.length (PJ l) (AZ l) [R,G,S] (DC l)->l9 E m e R G S l.length (AZ l)->H.a<=E.a->E.b=H.b->(∀i,i<H.a->E.c i=H.c i)->WK prog call N g_ ⟨D,E⟩ K):WK prog call N pF ⟨T,H⟩ K:=by
 show WK _ _ _ (.seq _ (.seq (.region _ _ true) (.seq _ (.seq _ g_)))) _ _;have I:=P.V;obtain⟨x,hx⟩:∃x,l[0]?=some x:=⟨_,aa I⟩;have U:PJ l=x.c:=by unfold PJ;rw[hx]
 have mc:(Hi H.a (H.a+1)).cells.toList=[.string ByteArray.empty,Z0,Z0,Z0,Z0,Z0,Z0,iv 0,.map (some H.a),.map (some (H.a+1))]:=rfl;have mo:([.string ByteArray.empty,Z0,Z0,Z0,Z0,Z0,Z0,iv 0,.map (some H.a),.map (some (H.a+1))]:List Value).all one=true:=rfl;have V:(Value.pointer none).cells.toList=[.pointer none]:=rfl;have W:flat (.pointer none)=true:=rfl;have w:BD prog ((((H.d (.map [])).d (.map [])).d (.row [.string ByteArray.empty,Z0,Z0,Z0,Z0,Z0,Z0,iv 0,.map (some H.a),.map (some (H.a+1))] 123 false false)).d (.row [.pointer none] 119 false false)) 119 (qP (H.a+1+1+1) 0) (qP (H.a+1+1) 0)=_:=EO (off:=0) sz79 rfl rfl (BJ (h:=(((H.d (.map [])).d (.map [])).d (.row [.string ByteArray.empty,Z0,Z0,Z0,Z0,Z0,Z0,iv 0,.map (some H.a),.map (some (H.a+1))] 123 false false)))) (by decide) (by show H.b<=H.a+1+1+1;omega);simp only[eE,seval,DJ,xk,mc,mo,Xi,xn,V,W,w];have n1:(((H.d (.map [])).d (.map [])).d (.row [.string ByteArray.empty,Z0,Z0,Z0,Z0,Z0,Z0,iv 0,.map (some H.a),.map (some (H.a+1))] 123 false false)).a=H.a+1+1+1:=rfl;have P0:∀i,i<H.a->((((H.d (.map [])).d (.map [])).d (.row [.string ByteArray.empty,Z0,Z0,Z0,Z0,Z0,Z0,iv 0,.map (some H.a),.map (some (H.a+1))] 123 false false)).d (.row [.pointer none] 119 false false)).c i=H.c i:=fun i d=>by rw[AV (by show i<H.a+1+1+1;omega),AV (by show i<H.a+1+1;omega),AV (by show i<H.a+1;omega),AV d]
 have P1:((((H.d (.map [])).d (.map [])).d (.row [.string ByteArray.empty,Z0,Z0,Z0,Z0,Z0,Z0,iv 0,.map (some H.a),.map (some (H.a+1))] 123 false false)).d (.row [.pointer none] 119 false false)).c H.a=.map []:=by rw[AV (by show H.a<H.a+1+1+1;omega),AV (by show H.a<H.a+1+1;omega)];exact JG
 have P2:((((H.d (.map [])).d (.map [])).d (.row [.string ByteArray.empty,Z0,Z0,Z0,Z0,Z0,Z0,iv 0,.map (some H.a),.map (some (H.a+1))] 123 false false)).d (.row [.pointer none] 119 false false)).c (H.a+1)=.map []:=by rw[AV (by show H.a+1<H.a+1+1+1;omega),AV (by show H.a+1<H.a+1+1;omega)];exact MG
 have P3:((((H.d (.map [])).d (.map [])).d (.row [.string ByteArray.empty,Z0,Z0,Z0,Z0,Z0,Z0,iv 0,.map (some H.a),.map (some (H.a+1))] 123 false false)).d (.row [.pointer none] 119 false false)).c (H.a+1+1)=.row [.string ByteArray.empty,Z0,Z0,Z0,Z0,Z0,Z0,iv 0,.map (some H.a),.map (some (H.a+1))] 123 false false:=by rw[AV (by show H.a+1+1<H.a+1+1+1;omega)];exact BJ (h:=(H.d (.map [])).d (.map []))
 have nA:((((H.d (.map [])).d (.map [])).d (.row [.string ByteArray.empty,Z0,Z0,Z0,Z0,Z0,Z0,iv 0,.map (some H.a),.map (some (H.a+1))] 123 false false)).d (.row [.pointer none] 119 false false)).a=H.a+4:=rfl;have fA:((((H.d (.map [])).d (.map [])).d (.row [.string ByteArray.empty,Z0,Z0,Z0,Z0,Z0,Z0,iv 0,.map (some H.a),.map (some (H.a+1))] 123 false false)).d (.row [.pointer none] 119 false false)).b=H.b:=rfl;generalize(((H.d (.map [])).d (.map [])).d (.row [.string ByteArray.empty,Z0,Z0,Z0,Z0,Z0,Z0,iv 0,.map (some H.a),.map (some (H.a+1))] 123 false false)).d (.row [.pointer none] 119 false false)=y at*;have Q:∀i,i≠H.a+1+1+1->(y.e (H.a+1+1+1) (.row ([Value.pointer none].set 0 (qP (H.a+1+1) 0)) 119 false false)).c i=y.c i:=fun i d=>AP (by omega) (bc d);have a0:∀i,i<H.a->(y.e (H.a+1+1+1) (.row ([Value.pointer none].set 0 (qP (H.a+1+1) 0)) 119 false false)).c i=H.c i:=fun i d=>by rw[Q i (by omega)];exact P0 i d
 have a1:=(Q H.a (by omega)).trans P1;have a2:=(Q (H.a+1) (by omega)).trans P2;have a3:=(Q (H.a+1+1) (by omega)).trans P3;have a4:(y.e (H.a+1+1+1) (.row ([Value.pointer none].set 0 (qP (H.a+1+1) 0)) 119 false false)).c (H.a+1+1+1)=.row [qP (H.a+1+1) 0] 119 false false:=BE rfl (by omega);have nB:(y.e (H.a+1+1+1) (.row ([Value.pointer none].set 0 (qP (H.a+1+1) 0)) 119 false false)).a=H.a+4:=nA;have fB:(y.e (H.a+1+1+1) (.row ([Value.pointer none].set 0 (qP (H.a+1+1) 0)) 119 false false)).b=H.b:=fA;generalize y.e (H.a+1+1+1) (.row ([Value.pointer none].set 0 (qP (H.a+1+1) 0)) 119 false false)=A at*;clear w n1 P0 P1 P2 P3 nA fA Q y;have J:A8 A v l:=hv.a (by omega) a0;obtain⟨id,q,e0,X,l0,l1,l2,l3,l4,lr⟩:=J.b hx;have Y:BW prog 22 v (iv 0)=some (qP id q):=e0;have L:(id<A.a)=True:=by simp[X]
 have Z:AI 0 (A.c (H.a+1+1+1))=some (qP (H.a+1+1) 0):=by rw[a4];rfl
 have h0:A8 (A.f (max A.b A.a)) v l:=J.a (af _) fun _ _=>rfl;obtain⟨f,hE,g1,g2,g3,g4⟩:=s (A.f (max A.b A.a)) h0;simp only[BK]at hE g1 g2 g4;have j:∀i,i<A.a->f.c i=A.c i:=g4;have M:BD prog (f.f A.b) 27 (qP (H.a+1+1) 0) (.agg #[.string x.c,qS (A.a+1) l.length AT,Z0,Z0,Z0,Z0,Z0,iv (-1)])=_:=stL (vs:=[.string x.c,qS (A.a+1) l.length AT,Z0,Z0,Z0,Z0,Z0,iv (-1)]) EQ (by rw[CZ,j _ (by omega)];exact a3) (by simp only[bx,du];omega) rfl rfl (by show A.b<=_;omega);have i3:((H.a+1+1+1)<A.a)=True:=by simp;omega
 refine WK.a (ops:=Nl) xg ?_;refine BV.a ?_;refine AG b 0 (some 24) (.load 119 (.tmp 5)) none ?_;simp only[rG,seval,AB,AC,A7,Z,i3,cW];refine AG b 1 (some 25) (.move (.tmp 0)) none ?_;simp only[rG,seval,AB,AD,AC,O];refine AG b 2 (some 26) (.indexAddr 22 (.tmp 25) (.const (Value.int IntKind.i64 0))) none ?_;simp only[rG,seval,AB,AD,AC,Y];refine AG b 3 (some 27) (.fieldAddr 125 (.tmp 26) 1) none ?_;simp only[rG,seval,AB,AD,AC,PY];refine AG b 4 (some 28) (.load 9 (.tmp 27)) none ?_;simp only[rG,seval,AB,AC,A7,L,HS,l1];refine AG b 5 (some 29) (.move (.tmp 0)) none ?_;simp only[rG,seval,AB,AD,AC,O];refine AG b 6 (some 30) (.call {callee:=.value (.func 62),args:=#[.tmp 29],argTypes:=#[22]}) none ?_;simp only[rG,seval,AB,AC,BL,hE];refine AG b 7 (some 31) (.build 27 #[(0,.tmp 28),(1,.tmp 30),(7,.const (Value.int IntKind.i64 (-1)))]) none ?_;simp only[rG,seval,AB,AD,AC,dp,dz,xh];refine AG b 8 (some 32) (.nilCheck (.tmp 24)) none ?_;simp only[rG,seval,AB,AD,AC];refine AG b 9 (some 33) (.fieldAddr 123 (.tmp 32) 0) none ?_;simp only[rG,seval,AB,AD,AC,M5];refine AG b 10 (none) (.store 27 (.tmp 33) (.tmp 31)) none ?_;simp only[rG,seval,AB,AC,target,BY,M];refine BV.b (i:=11) (by kernel_rfl) ?_;have n:∀i,i≠H.a+1+1->((f.f A.b).e (H.a+1+1) (BO.row ([.string x.c,qS (A.a+1) l.length AT,Z0,Z0,Z0,Z0,Z0,iv (-1)]++List.drop 8 [.string ByteArray.empty,Z0,Z0,Z0,Z0,Z0,Z0,iv 0,.map (some H.a),.map (some (H.a+1))]) 123 false false)).c i=f.c i:=fun i d=>AP (by show _<f.a;omega) (bc d);have b0:∀i,i<H.a->((f.f A.b).e (H.a+1+1) (BO.row ([.string x.c,qS (A.a+1) l.length AT,Z0,Z0,Z0,Z0,Z0,iv (-1)]++List.drop 8 [.string ByteArray.empty,Z0,Z0,Z0,Z0,Z0,Z0,iv 0,.map (some H.a),.map (some (H.a+1))]) 123 false false)).c i=H.c i:=fun i d=>by rw[n i (by omega),j i (by omega),a0 i d]
 have b1:((f.f A.b).e (H.a+1+1) (BO.row ([.string x.c,qS (A.a+1) l.length AT,Z0,Z0,Z0,Z0,Z0,iv (-1)]++List.drop 8 [.string ByteArray.empty,Z0,Z0,Z0,Z0,Z0,Z0,iv 0,.map (some H.a),.map (some (H.a+1))]) 123 false false)).c H.a=.map []:=by rw[n _ (by omega),j _ (by omega)];exact a1
 have b2:((f.f A.b).e (H.a+1+1) (BO.row ([.string x.c,qS (A.a+1) l.length AT,Z0,Z0,Z0,Z0,Z0,iv (-1)]++List.drop 8 [.string ByteArray.empty,Z0,Z0,Z0,Z0,Z0,Z0,iv 0,.map (some H.a),.map (some (H.a+1))]) 123 false false)).c (H.a+1)=.map []:=by rw[n _ (by omega),j _ (by omega)];exact a2
 have b3:((f.f A.b).e (H.a+1+1) (BO.row ([.string x.c,qS (A.a+1) l.length AT,Z0,Z0,Z0,Z0,Z0,iv (-1)]++List.drop 8 [.string ByteArray.empty,Z0,Z0,Z0,Z0,Z0,Z0,iv 0,.map (some H.a),.map (some (H.a+1))]) 123 false false)).c (H.a+1+1)=.row [.string x.c,qS (A.a+1) l.length AT,Z0,Z0,Z0,Z0,Z0,iv (-1),.map (some H.a),.map (some (H.a+1))] 123 false false:=BE rfl (by show _<f.a;omega);have b4:((f.f A.b).e (H.a+1+1) (BO.row ([.string x.c,qS (A.a+1) l.length AT,Z0,Z0,Z0,Z0,Z0,iv (-1)]++List.drop 8 [.string ByteArray.empty,Z0,Z0,Z0,Z0,Z0,Z0,iv 0,.map (some H.a),.map (some (H.a+1))]) 123 false false)).c (H.a+1+1+1)=.row [qP (H.a+1+1) 0] 119 false false:=by rw[n _ (by omega),j _ (by omega)];exact a4
 have b5:((f.f A.b).e (H.a+1+1) (BO.row ([.string x.c,qS (A.a+1) l.length AT,Z0,Z0,Z0,Z0,Z0,iv (-1)]++List.drop 8 [.string ByteArray.empty,Z0,Z0,Z0,Z0,Z0,Z0,iv 0,.map (some H.a),.map (some (H.a+1))]) 123 false false)).c (A.a+1)=.row (l.flatMap AQ) 125 true false:=by rw[n _ (by omega)];exact g1
 have nW:((f.f A.b).e (H.a+1+1) (BO.row ([.string x.c,qS (A.a+1) l.length AT,Z0,Z0,Z0,Z0,Z0,iv (-1)]++List.drop 8 [.string ByteArray.empty,Z0,Z0,Z0,Z0,Z0,Z0,iv 0,.map (some H.a),.map (some (H.a+1))]) 123 false false)).a=H.a+6:=by show f.a=_;omega
 have fW:((f.f A.b).e (H.a+1+1) (BO.row ([.string x.c,qS (A.a+1) l.length AT,Z0,Z0,Z0,Z0,Z0,iv (-1)]++List.drop 8 [.string ByteArray.empty,Z0,Z0,Z0,Z0,Z0,Z0,iv 0,.map (some H.a),.map (some (H.a+1))]) 123 false false)).b=H.b:=fB;generalize(f.f A.b).e (H.a+1+1) (BO.row ([.string x.c,qS (A.a+1) l.length AT,Z0,Z0,Z0,Z0,Z0,iv (-1)]++List.drop 8 [.string ByteArray.empty,Z0,Z0,Z0,Z0,Z0,Z0,iv 0,.map (some H.a),.map (some (H.a+1))]) 123 false false)=B at*;have h2:A8 B v l:=hv.a (by omega) b0;obtain⟨a,hN,k1,k2,k3,k4⟩:=z B h2 (by omega);have h5:(Z0).cells.toList=[Z0]:=rfl;have h6:flat (Z0)=true:=rfl;have w:BD prog (a.d (.row [Z0] 25 false false)) 25 (qP a.a 0) (qS B.a l.length l.length)=_:=EO (off:=0) FW rfl rfl BJ (by decide) (by show a.b<=a.a;omega);have c0:∀i,i≠a.a->((a.d (.row [Z0] 25 false false)).e a.a (.row ([Z0].set 0 (qS B.a l.length l.length)) 25 false false)).c i=a.c i:=fun i d=>by rw[AP (by show a.a<a.a+1;omega) (bc d),UF d]
 have G:((a.d (.row [Z0] 25 false false)).e a.a (.row ([Z0].set 0 (qS B.a l.length l.length)) 25 false false)).c a.a=.row [qS B.a l.length l.length] 25 false false:=BE rfl (by show a.a<a.a+1;omega);have nC:((a.d (.row [Z0] 25 false false)).e a.a (.row ([Z0].set 0 (qS B.a l.length l.length)) 25 false false)).a=H.a+8:=by show a.a+1=_;omega
 have fC:((a.d (.row [Z0] 25 false false)).e a.a (.row ([Z0].set 0 (qS B.a l.length l.length)) 25 false false)).b=H.b:=by show a.b=_;omega
 simp only[eE,seval,O,hN,xo,h5,h6,w];generalize(a.d (.row [Z0] 25 false false)).e a.a (.row ([Z0].set 0 (qS B.a l.length l.length)) 25 false false)=C at*;have l5:AI 0 (C.c (H.a+1+1+1))=some (qP (H.a+1+1) 0):=by rw[c0 _ (by omega),k4 _ (by omega),b4];rfl
 simp only[eE,seval,cW,l5,List.map_toArray,bs87];have D0:∀(o:BO)i,i<C.a->(C.d o).c i=C.c i:=fun o i d=>AV d;have F:∀(o:BO)i,i<B.a->(C.d o).c i=B.c i:=fun o i d=>by rw[D0 o i (by omega),c0 i (by omega),k4 i d]
 have n4:a.a=H.a+7:=by omega
 refine hk _ _ (H.a+1+1) H.a (H.a+1) B.a (A.a+1) (H.a+1+1+1) a.a C.a ?_ ?_ ?_ ?_ ?_ ?_ ⟨fun i=>if i=H.a+1+1 then 0 else if i=A.a+1 then 1 else if i=H.a then 8 else if i=H.a+1 then 9 else if i=B.a then 10 else 11,Z0,Z0,Z0,Z0,Z0,[],?_,?_,⟨by simp[DC],by simp[DC],by simp[DC],by simp[DC],rfl,fun t P=>by cases P⟩,fun i d=>?_⟩ ⟨?_,?_,BJ⟩ (by show H.a<=C.a+1;omega) (by show C.b=H.b;exact fC) fun i d=>?_;.simp only[eE,seval,O]
 .simp only[eE,seval]
 .simp only[eE,seval]
 .simp only[eE,seval]
 .simp only[eE,seval]
 .simp only[eE,seval]
 .exact
   { b:=by rw[F _ _ (by omega),b3,U];rfl
     a:=
      { a:=by rw[F _ _ (by omega)];exact b5
        c:=rfl
        d:=by rw[ad (by omega),ag rfl]
        b:=⟨by omega,by show _<C.a+1;omega⟩
        q:=YE
        v:=YE
        t:=YE
        u:=YE
        o:=YE}
     d:=by rw[F _ _ (by omega)];exact b1
     j:=by rw[F _ _ (by omega)];exact b2
     g:=by rw[D0 _ _ (by omega),c0 _ (by omega)];exact k1
     i:=ag rfl
     x:=by rw[ad (by omega),ad (by omega),ag rfl]
     w:=by rw[ad (by omega),ad (by omega),ad (by omega),ag rfl]
     z:=by rw[ad (by omega),ad (by omega),ad (by omega),ad (by omega),ag rfl]
     f:=⟨by omega,by show _<C.a+1;omega⟩
     l:=⟨af _,by show _<C.a+1;omega⟩
     q:=⟨by omega,by show _<C.a+1;omega⟩
     v:=⟨by omega,by show _<C.a+1;omega⟩
     t:=by show C.b<=H.a;omega}
 .refine⟨fun p hp=>(by cases hp),fun k h1 a=>?_⟩;have:CI (DC l) k=0:=by unfold CI;(repeat' split)<;>rfl
  rw[ag this];rfl
 .have h9:i=H.a+1+1+1\/i=a.a\/i=C.a:=by simpa using d
  refine⟨by show i<C.a+1;omega,?_⟩;show 11<=(if i=H.a+1+1 then 0 else if i=A.a+1 then 1 else if i=H.a then 8 else if i=H.a+1 then 9 else if i=B.a then 10 else 11);rw[ad (by omega),ad (by omega),ad (by omega),ad (by omega),ad (by omega)];exact af _
 .rw[F _ _ (by omega)];exact b4
 .rw[D0 _ _ (by omega)];exact G
 .rw[F _ _ (by omega)];exact b0 i d
end
noncomputable def Mo:Code:=inB (iB f13 1)
theorem GZ.a{a:Nat}{H H':AA}{cs:List Value}{e p:Int}(h:GZ a H cs e p)(h0:H'.c a=H.c a)(h1:H'.c (a+1)=H.c (a+1)):GZ a H' cs e p:=⟨h0.trans h.1,h1.trans h.2⟩
section
variable {N:Nat} {call:AY}
theorem UA{a:Nat}{H:AA}{cs:List Value}{e p:Int}(h:GZ a H cs e p)(f:cs.length=8)(o:a+1<H.a)(g:H.b<=a){cs':List Value}(c:cs'.length=8)(d:cs'.all one=true){e' p':Int}:∃b,BD prog H 27 (qP a 0) (.agg cs'.toArray)=some (H.e a (.row cs' 27 false false))/\BD prog (H.e a (.row cs' 27 false false)) 43 (qP (a+1) 0) (EE e' p')=some b/\GZ a b cs' e' p'/\b.a=H.a/\b.b=H.b/\∀i,i≠a->i≠a+1->b.c i=H.c i:=by
 have j:=GQ (k:=8) EQ h.1 f c d g;have l:(H.e a (.row cs' 27 false false)).c (a+1)=.row [iv e,iv p] 43 false false:=by rw[AP (by omega) (by omega)];exact h.2
 have m:=GQ (t:=43) (k:=2) MR (vs:=[iv e',iv p']) l rfl rfl rfl (by show H.b<=a+1;omega);refine⟨_,j,m,⟨?_,BE rfl (by assumption)⟩,rfl,rfl,fun i q n=>?_⟩;.rw[AP (by assumption) (by omega)];exact BE rfl (by omega)
 .rw[AP (by assumption) (by omega),AP (by omega) (by omega)]
theorem xv{at_ a fl lo m k c e r n:Nat}{nm:ByteArray}{E:List Int}{F:List Nat}{er:Nat->Int}{st:Nat->AS}{T:Tr}{H:AA}{K:DH}{fs:List Value}(t2:T.a 2=qP a 0)(t3:T.a 3=qP (a+1) 0)(t7:T.a 7=qS fl 3 3)(W:T.a 44=iv at_)(hN:3<N)(hp:HG H lo m k c e r n nm E F (st 0))(ha:a+1<lo)(h3:lo<=H.a)(L:GZ a H CO 0 0)(h4:H.b<=a)(X:H.c fl=.row fs 129 false false)(Y:fl∈F)(hlook:∀i,i<3->∀H1,HG H1 lo m k c e r n nm E F (st i)->IR H H1 lo F->(∀j,j<i->er j=0)->∃q g s H2,fs[i]?=some (.func (.func q) g s)/\call q (g.toList++[iv at_]++s.toList) H1=some (iv (er i),H2)/\IR H1 H2 lo F/\(er i=0->HG H2 lo m k c e r n nm E F (st (i+1))))(M:∀i,i<3->er i≠0->(∀j,j<i->er j=0)->∀I p,I.a 2=qP a 0->I.a 3=qP (a+1) 0->GZ a p CO (er i) at_->H.a<=p.a->p.b=H.b->(∀i,i<a->p.c i=H.c i)->K.a prog call N .ret ⟨I,p⟩)(A:(∀j,j<3->er j=0)->∀I p,(∀t,t<=7\/(42<=t/\t<=44)->I.a t=T.a t)->HG p lo m k c e r n nm E F (st 3)->IR H p lo F->K.a prog call N .normal ⟨I,p⟩):WK prog call N Mo ⟨T,H⟩ K:=by
 show WK _ _ _ (.seq _ (.seq _ (.block 2 (.loop (.seq _ (.seq _ (.seq (.block 3 _) _))))))) _ _;simp only[eE,↓reduceIte,Nat.reduceEqDiff,t7,W,xq];refine WK.b (fun i B=>B.T.a 47=qS fl 3 3/\B.T.a 48=iv 3/\B.T.a 49=iv i/\B.T.a 8=iv at_/\i<=3/\(∀t,t<=7\/(42<=t/\t<=44)->B.T.a t=T.a t)/\HG B.h lo m k c e r n nm E F (st i)/\IR H B.h lo F/\∀j,j<i->er j=0) 3 hN ?_ ?_
 .refine⟨by simp only[eE,↓reduceIte,Nat.reduceEqDiff],by simp only[eE,↓reduceIte,Nat.reduceEqDiff];rfl,by simp only[eE,↓reduceIte];rfl,by simp only[eE,↓reduceIte,Nat.reduceEqDiff],by omega,fun t S=>?_,hp,⟨fun _ _=>rfl,af _,rfl⟩,fun j hj=>by omega⟩;simp only[Tr.b,aj];repeat rw[ad (by omega)]
 .rintro i⟨T1,H1⟩J⟨C,u,v,Z,h5,l,D,b,U⟩;simp only at C u v Z l D b;have O:T1.a 2=qP a 0:=by grind
  have P:T1.a 3=qP (a+1) 0:=by grind
  by_cases w:i<3
  .have c1:decide ((i:Int)<3)=true:=by simp;omega
   obtain⟨q,g,s,H2,h0,o,f,h2⟩:=hlook i w H1 D b U;have Q:H1.c fl=.row fs 129 false false:=(b.1 fl (.inr Y)).trans X;have lf:AI i (H1.c fl)=some (.func (.func q) g s):=by rw[Q];exact h0
   have R:=xp (h:=H1) (id:=fl) (c:=3) w;cases d:(er i !=0)with
   |true=>
    have V:er i≠0:=by simpa using d
    have n2:H.a<=H2.a:=dj b.2.1 f.2.1;have f2:H2.b=H.b:=f.2.2.trans b.2.2;have o2:∀i,i<lo->H2.c i=H.c i:=fun i J=>(f.1 i (.inl J)).trans (b.1 i (.inl J));have G:GZ a H2 CO 0 0:=L.a (o2 a (by omega)) (o2 (a+1) ha);obtain⟨p,s1,s2,r1,r2,r3,r4⟩:=UA G rfl (by omega) (by omega) (cs':=CO) rfl rfl (e':=er i) (p':=at_);simp only[eE,seval,↓eP,C,u,v,Z,O,P,c1,R,Fk,lf,o,d,WI,II,s1,s2];refine M i w V U _ _ ?_ ?_ r1 (by omega) (r3.trans f2) fun j hj=>(r4 j (by omega) (by omega)).trans (o2 j (by omega));.simp only[eE,seval,O]
    .simp only[eE,seval,P]|false=>
    have V:er i=0:=by simpa using d
    have w1:=DU i;simp only[eE,seval,↓eP,C,u,v,Z,c1,R,Fk,lf,o,d,w1];refine⟨w,by omega,fun t S=>?_,h2 V,⟨fun i J=>(f.1 i J).trans (b.1 i J),dj b.2.1 f.2.1,f.2.2.trans b.2.2⟩,fun j hj=>?_⟩
    .repeat rw[ad (by omega)]
     exact l t S
    .rcases ar j i with h1|h1;.exact U j h1
     .have:j=i:=by omega
      subst this;exact V
  .have c1:decide ((i:Int)<3)=false:=by simp;omega
   have:i=3:=by omega
   subst this;simp only[eE,seval,↓eP,u,v];refine A U _ _ (fun t S=>?_) D b;simp only[Tr.b,aj];repeat rw[ad (by omega)]
   exact l t S
end
theorem Zy(k:Int)(h:AA)(a:1<=k/\k<=54):L0 124 [iv k] h=some (iv (CR k),h):=HJ rfl rfl rfl rfl (LV ol a)
theorem xw(k:Int)(h:AA)(a:1<=k/\k<=54):L0 126 [iv k] h=some (iv (FN k),h):=HJ rfl rfl rfl rfl (LV om a)
theorem Hv(k:Int)(h:AA)(a:1<=k/\k<=54):L0 127 [iv k] h=some (.bool (E9 k),h):=HJ rfl rfl rfl rfl (LV oo a)
theorem x8{at_:Nat}{end_:Int}{x:AF}{s:AS}(a:s.a[at_]?=some x):∃n,(CQ at_ end_ x s).a[at_]?=some {x with n:=n}:=by
 rw[h_];split;.exact⟨x.n,a⟩
 .exact⟨_,OH a⟩
def UN(at_:Nat)(end_:Int)(x a b:AF)(s:AS):Nat->Int|0=>FV x s|1=>EI at_ a (CQ at_ end_ x s)|_=>EY b (C2 at_ a (CQ at_ end_ x s))
def cU(at_:Nat)(end_:Int)(x a b:AF)(s:AS):Nat->AS|0=>s|1=>CQ at_ end_ x s|2=>C2 at_ a (CQ at_ end_ x s)|_=>EZ at_ b (C2 at_ a (CQ at_ end_ x s))
theorem xx{E:List Int}{at_:Nat}{end_:Int}{x b d:AF}{s:AS}(g:s.a[at_]?=some x)(m:E[at_]?=some end_)(h1:(CQ at_ end_ x s).a[at_]?=some b)(h:EI at_ b (CQ at_ end_ x s)=0->(C2 at_ b (CQ at_ end_ x s)).a[at_]?=some d):(∀i,i<3->UN at_ end_ x b d s i≠0->(∀j,j<i->UN at_ end_ x b d s j=0)->GB E at_ s=(UN at_ end_ x b d s i,s))/\((∀j,j<3->UN at_ end_ x b d s j=0)->GB E at_ s=(0,cU at_ end_ x b d s 3)):=by
 have e:(E[at_]?).getD 0=end_:=by grind
 constructor
 .intro i l a c;unfold GB;rw[g];simp only[e];match i,l,a,c with
  |0,_,a,_=>
   have a:FV x s≠0:=a;rw[ag a];rfl|1,_,a,c=>have k:FV x s=0:=c 0 (by omega);have a:EI at_ b (CQ at_ end_ x s)≠0:=a;rw[ad (by omega),h1];simp only;rw[ag a];rfl|2,_,a,c=>
   have k:FV x s=0:=c 0 (by omega);have f:EI at_ b (CQ at_ end_ x s)=0:=c 1 (by omega);have a:EY d (C2 at_ b (CQ at_ end_ x s))≠0:=a;rw[ad (by omega),h1];simp only;rw[ad (by omega),h f];simp only;rw[ag a];rfl
 .intro c;have k:FV x s=0:=c 0 (by omega);have f:EI at_ b (CQ at_ end_ x s)=0:=c 1 (by omega);have a:EY d (C2 at_ b (CQ at_ end_ x s))=0:=c 2 (by omega);unfold GB;rw[g];simp only[e];rw[ad (by omega),h1];simp only;rw[ad (by omega),h f];simp only;rw[ad (by omega)];rfl
section
variable {n lo m k c e r L:Nat} {h:AA} {nm:ByteArray} {E:List Int} {F:List Nat} {s:AS}
theorem xy{at_:Nat}{end_:Int}{x:AF}(d:HG h lo m k c e r L nm E F s)(f:s.a[at_]?=some x)(a:1<=x.a/\x.a<=54)(g:L<30000000000000)(i:0<=end_)(j:0<n):∃b,AN n 65 [qP m 0,iv at_,iv end_] h=some (iv (FV x s),b)/\(IR h b lo F/\(FV x s=0->HG b lo m k c e r L nm E F (CQ at_ end_ x s))):=by obtain⟨n,rfl⟩:=BX j;exact RL BF (Vh (EC n).2 d f a g i (fun k b l=>IX (JO (Zy k b l))) fun k b=>IX (wu k b))
theorem xz{at_:Nat}{x:AF}(d:HG h lo m k c e r L nm E F s)(f:s.a[at_]?=some x)(a:1<=x.a/\x.a<=54)(g:L<30000000000000)(i:0<n):∃b,AN n 66 [qP m 0,iv at_] h=some (iv (EI at_ x s),b)/\(IR h b lo F/\(EI at_ x s=0->HG b lo m k c e r L nm E F (C2 at_ x s))):=by obtain⟨n,rfl⟩:=BX i;exact RL BF (tT (EC n).2 d f a g fun k b j=>IX (JO (xw k b j)))
theorem xL{at_:Nat}{x:AF}(f:HG h lo m k c e r L nm E F s)(g:s.a[at_]?=some x)(a:1<=x.a/\x.a<=54)(i:L<30000000000000)(d:E9 x.a=true->x.a≠10->0<=x.n/\x.n<s.h.length)(j:0<n):∃b,AN n 67 [qP m 0,iv at_] h=some (iv (EY x s),b)/\(IR h b lo F/\(EY x s=0->HG b lo m k c e r L nm E F (EZ at_ x s))):=by
 obtain⟨n,rfl⟩:=BX j;exact RL BF (ua (EC n).2 f g a i d fun k b l=>IX (JO (Hv k b l)))
theorem xT{at_ g i:Nat}{end_:Int}{x:AF}(l:HG h lo m k c e r L nm E F s)(p:s.a[at_]?=some x)(a:1<=x.a/\x.a<=54)(q:L<30000000000000)(t:0<=end_)(u:E[at_]?=some end_)(d:L=E.length)(v:h.c g=.row [qP m 0] 119 false false)(w:h.c i=.row [qS e L L] 25 false false)(B:1<n):∃b,AN n 64 [iv at_,qP g 0,qP i 0] h=some (iv (FV x s),b)/\(IR h b lo F/\(FV x s=0->HG b lo m k c e r L nm E F (CQ at_ end_ x s))):=by obtain⟨n,rfl⟩:∃j,n=j+1:=⟨n-1,by omega⟩;obtain⟨y,C,D,G,H,I,J,f,_⟩:=id l;obtain⟨b,z,o,A⟩:=xy (n:=n) (at_:=at_) l p a q t (by omega);exact RL BF (uj (EC n).2 v w f.g u d ⟨b,z,o.2.2,o,A⟩)
theorem ya{l:List AF}{at_ A B fl:Nat}{x q:AF}{H:AA}(Y:DM l)(hL:l.length<2932031007403)(R:at_<l.length)(hi:JI l at_ s)(S:s.a[at_]?=some x)(h1:(CQ at_ (AE l at_) x s).a[at_]?=some q)(D:l9 H m e A B fl l.length (AZ l))(Z:A∈F)(h6:B∈F)(h0:fl∈F)(hn:3<n):∃d,(EI at_ q (CQ at_ (AE l at_) x s)=0->(C2 at_ q (CQ at_ (AE l at_) x s)).a[at_]?=some d)/\∀i,i<3->∀w,HG w lo m k c e r l.length nm (AZ l) F (cU at_ (AE l at_) x q d s i)->IR H w lo F->(∀j,j<i->UN at_ (AE l at_) x q d s j=0)->∃G g I o,([.func (.func 64) #[] #[qP A 0,qP B 0],.func (.func 66) #[qP m 0] #[],.func (.func 67) #[qP m 0] #[]]:List Value)[i]?=some (.func (.func G) g I)/\AN n G (g.toList++[iv at_]++I.toList) w=some (iv (UN at_ (AE l at_) x q d s i),o)/\IR w o lo F/\(UN at_ (AE l at_) x q d s i=0->HG o lo m k c e r l.length nm (AZ l) F (cU at_ (AE l at_) x q d s (i+1))):=by
 have f:=Y0 Y hi x (aw S);obtain⟨p,J⟩:=x8 (end_:=AE l at_) S;rw[h1]at J;cases J;obtain⟨d,K⟩:∃d,EI at_ {x with n:=p} (CQ at_ (AE l at_) x s)=0->(C2 at_ {x with n:=p} (CQ at_ (AE l at_) x s)).a[at_]?=some d/\(∃n,d={x with n:=n})/\(d.a≠10->E9 d.a=true->ON (C2 at_ {x with n:=p} (CQ at_ (AE l at_) x s))->0<=d.n/\d.n<(C2 at_ {x with n:=p} (CQ at_ (AE l at_) x s)).h.length):=by
  by_cases O:EI at_ {x with n:=p} (CQ at_ (AE l at_) x s)=0
  .obtain⟨W,a1,a2,a3,a4,a5,a6⟩:=aB h1 O;refine⟨_,fun _=>⟨a1,⟨W,rfl⟩,fun T U C=>?_⟩⟩;have X:=tR (k:=x.a) U T;rcases a6 with⟨y,_⟩|⟨t,y,P,b3,_⟩
   .have y:FN x.a=0:=y;rw[X.1]at y;cases y
   .have P:t.a=FN x.a:=P;rw[X.1]at P;rw[<-a5]at y;obtain⟨_,_,z,u,_⟩:=C.a t y;rw[P]at u;have v:t.c<((C2 at_ {x with n:=p} (CQ at_ (AE l at_) x s)).b.length:Int):=u;rw[<-C.o]at v;simp only;rw[b3];exact⟨z,v⟩
  .exact⟨x,fun h=>absurd h O⟩
 refine⟨d,fun h=>(K h).1,?_⟩;intro i V w Q M hz;have N:(AZ l)[at_]?=some (AE l at_:Int):=NU R;match i,V with
 |0,_=>
  have g5:w.c A=_:=(M.1 A (.inr Z)).trans D.a;have g6:w.c B=_:=(M.1 B (.inr h6)).trans D.b;obtain⟨o,z,u,v⟩:=xT (n:=n) (s:=s) (at_:=at_) Q S f (by omega) (by omega) N (by rw[UC]) g5 g6 (by omega);exact⟨_,#[],#[qP A 0,qP B 0],o,rfl,z,u,v⟩|1,_=>obtain⟨o,z,u,v⟩:=xz (n:=n) (s:=CQ at_ (AE l at_) x s) (at_:=at_) Q h1 f (by omega) (by omega);exact⟨_,#[qP m 0],#[],o,rfl,z,u,v⟩|2,_=>
  have O:EI at_ {x with n:=p} (CQ at_ (AE l at_) x s)=0:=hz 1 (by omega);obtain⟨r1,⟨W,r2⟩,r3⟩:=K O;have C:ON (C2 at_ {x with n:=p} (CQ at_ (AE l at_) x s)):=by
   obtain⟨_,_,_,_,_,_,_,_,_,C,_⟩:=id Q;exact C
  obtain⟨o,z,u,v⟩:=xL (n:=n) (s:=C2 at_ {x with n:=p} (CQ at_ (AE l at_) x s)) (at_:=at_) Q r1 (by rw[r2];exact f) (by omega) (fun a b=>r3 b a C) (by omega);exact⟨_,#[qP m 0],#[],o,rfl,z,u,v⟩
end
end Go.Proofs.YtjailoenloejbaaGreatDoor




