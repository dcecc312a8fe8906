/- Part 24. -/
import Derived.Test.YtjailoenloejbaaGreatDoorDV23
set_option linter.all false
namespace Go.Proofs.YtjailoenloejbaaGreatDoor
open Go Go.Sx Go.Proofs.Tryz
set_option maxRecDepth 100000
set_option maxHeartbeats 0
section
variable {l:List AF}
theorem aA:∀(r p q:Nat),F_ l r p q->∀(a b u v:Nat),a<b->(A9 (AE l) r p)[a]?=some u->(A9 (AE l) r p)[b]?=some v->AE l u<=v
 |0,p,q,_,a,b,u,v,_,h,_=>by simp[A9]at h|r+1,p,q,⟨d,i,n,o,g⟩,a,b,u,v,k,m,s=>by
  have e:=JN i;obtain⟨b,rfl⟩:∃j,b=j+1:=⟨b-1,by omega⟩;have c:(A9 (AE l) r d)[b]?=some v:=by rw[<-e];assumption
  cases a with
  |zero=>
   have:p=u:=by simpa[A9]using m
   subst this;rw[e];exact RA _ _ _ g v (aw c)|succ a=>
   have f:(A9 (AE l) r d)[a]?=some u:=by rw[<-e];assumption
   exact aA r d q g a b u v (by omega) f c
theorem TD:∀(r p q:Nat),F_ l r p q->∀(a u:Nat),(A9 (AE l) r p)[a]?=some u->u<AE l u/\AE l u<=q
 |0,p,q,_,a,u,h=>by simp[A9]at h|r+1,p,q,⟨c,f,i,j,d⟩,a,u,g=>by have e:=JN f;cases a with
  |zero=>
   have:p=u:=by simpa[A9]using g
   subst this;rw[e];have:=HM _ _ _ d;omega|succ a=>
   have b:(A9 (AE l) r c)[a]?=some u:=by rw[<-e];assumption
   exact TD r c q d a u b
theorem DM.j(a:DM l){i j:Nat}(hi:i<l.length)(h1:i<=j)(b:j<AE l i):AE l j<=AE l i:=by obtain⟨q,c,d⟩:=FQ.c l.length (by have:=(a.U hi).b;omega) (a.U hi) j h1 b;rw[JN c];exact d
theorem Ii{i:Nat}{x:AF}{first:Int}:∀(ps:List Nat)(b q p:Nat)(s:K5),ps[q]?=some p->(∀c,q<c->ps[c]?≠some p)->(∀u∈ps,u≠i)->p<s.A.length->p<s.C.length->(JW i x first b ps s).A[p]?=some (C4 x.a (b+q) first)/\(JW i x first b ps s).C[p]?=some (((s.C[i]?).getD false)||KP x.a (b+q))
 |[],b,q,p,s,h,_,_,_,_=>by simp at h|a::ps,b,0,p,s,h,d,e,f,g=>by
  have:a=p:=by grind
  subst this;have n:a∉ps:=fun o=>by obtain⟨j,B⟩:=dn o;exact d (j+1) (by omega) (by assumption)
  obtain⟨r,t,_⟩:=fI (i:=i) (x:=x) (first:=first) ps (b+1) (K4 i x first s b a) a n;refine⟨r.trans ?_,t.trans ?_⟩;.exact br f
  .exact br g|a::ps,b,q+1,p,s,h,d,e,f,g=>by
  have v:ps[q]?=some p:=by assumption
  have w:=e a List.mem_cons_self;have m:=Ii (i:=i) (x:=x) (first:=first) ps (b+1) q p (K4 i x first s b a) v (fun c y D=>d (c+1) (by omega) (by assumption)) (fun u z=>e u (iZ _ z)) (by simpa[K4]using f) (by simpa[K4]using g);have k:(K4 i x first s b a).C[i]?=s.C[i]?:=bf w;rw[k,show b+1+q=b+(q+1)by omega]at m;exact m
theorem Cs(f:DM l){i k p:Nat}{x:AF}(g:l[i]?=some x)(b:(A9 (AE l) x.b.toNat (i+1))[k]?=some p):(CN l (AE l) p).A[p]?=some (C4 x.a k (BM (((l[i+1]?).map (·.a)).getD 0)))/\(CN l (AE l) p).C[p]?=some ((((CN l (AE l) i).C[i]?).getD false)||KP x.a k):=by
 have o:=(ae.1 g).1;have F:=f.U o;obtain⟨y,m,_,_,a⟩:=F.a;rw[g]at m;cases m;have G:=RA _ _ _ a p (aw b);obtain⟨y,m,_⟩:=f.Z g b;have H:=(ae.1 m).1;obtain⟨z,B⟩:=TD _ _ _ a _ _ b;have U:∀j,i+1<=j->j<=p->(CN l (AE l) j).A[p]?=some (C4 x.a k (BM (((l[i+1]?).map (·.a)).getD 0)))/\(CN l (AE l) j).C[p]?=some ((((CN l (AE l) i).C[i]?).getD false)||KP x.a k):=by intro j;induction j with|zero=>intro h;omega|succ j I=>
   intro V W;rcases ar i j with J|J
   .obtain⟨X,Y⟩:=I (by omega) (by omega);have c:CN l (AE l) (j+1)=MU l (AE l) j (CN l (AE l) j):=rfl;rw[c];unfold MU;cases D:l[j]? with
    |none=>grind|some w=>
     simp only;have r:=(ae.1 D).1;obtain⟨Z,d,_,_,s⟩:=(f.U r).a;rw[D]at d;cases d;obtain⟨K,L,E,j2,M,N⟩:=qF _ _ _ a j (by omega) (by omega);have e:L<l.length:=by omega
     have O:AE l j<=p:=by
      have hn:=f.j e M N;rcases jk K k with n|n|n
      .have:=aA _ _ _ a _ _ _ _ n E b;omega
      .grind
      .have:=aA _ _ _ a _ _ _ _ n b E;omega
     have t:p∉A9 (AE l) w.b.toNat (j+1):=fun P=>by obtain⟨q,Q⟩:=dn P;obtain⟨a1,a2⟩:=TD _ _ _ s _ _ Q;omega
     obtain⟨o1,o2,_⟩:=fI (i:=j) (x:=w) (first:=BM (((l[j+1]?).map (·.a)).getD 0)) _ 0 (CN l (AE l) j) p t;grind
   .obtain rfl:j=i:=by omega
    have c:CN l (AE l) (j+1)=MU l (AE l) j (CN l (AE l) j):=rfl;rw[c];unfold MU;rw[g];simp only;obtain⟨m1,m2,_⟩:=W7 (R:=l) (AE l) j;have:=Ii (i:=j) (x:=x) (first:=BM (((l[j+1]?).map (·.a)).getD 0)) _ 0 k p (CN l (AE l) j) b (fun q' v S=>by
     have:=aA _ _ _ a _ _ _ _ v b S;omega) (fun u T=>by have:=RA _ _ _ a u T;omega) (by omega) (by omega);grind
 grind
end
def WR(Z:List AF)(s:AS):Prop:=∀(i:Nat)(x:AF),s.a[i]?=some x->KI s.a s.b (CN s.a (AE Z) i) i x=0
theorem Bo{R:List AF}{Q:List (ByteArray×Bool)}{e:Nat->Nat}:∀(r i:Nat),i+r=R.length->(GX R Q e r i).1.1=0->∀(j:Nat)(x:AF),i<=j->R[j]?=some x->KI R Q (CN R e j) j x=0
 |0,i,h,_,j,x,b,c=>by grind|r+1,i,h,a,j,x,b,c=>by
  obtain⟨y,d⟩:∃y,R[i]?=some y:=⟨_,aa (by omega)⟩;by_cases f:KI R Q (CN R e i) i y=0
  .rw[uL d f]at a;rcases gY b with g|g;.grind
   .exact Bo r (i+1) (by omega) a j x (by omega) c
  .rw[sY d rfl f]at a;grind
theorem Lw{R:List AF}{Q:List (ByteArray×Bool)}{e:Nat->Nat}:∀(r i:Nat),(GX R Q e r i).1.1=0->(GX R Q e r i).1=(0,0)
 |0,i,_=>rfl|r+1,i,h=>by
  unfold GX at h⊢;split;.rfl
  .rename_i y a;rw[a]at h;simp only at h;split;.grind
   .rename_i b;rw[ad b]at h;exact Lw r (i+1) h
theorem mK{nm:ByteArray}{s:AS}(h:(DW nm s).1.1=0):DQ nm s=0/\FH (AU s.a) s/\WR (AU s.a) s/\(DW nm s).1=(0,0):=by
 unfold DW at h⊢;split at h;.grind
 .rename_i b;have a:DQ nm s=0:=by omega
  rw[ad b];exact⟨a,jT a,fun i x c=>Bo _ _ (by omega) h i x (bg _) c,Lw _ _ h⟩
section
variable {Z:List AF} {s:AS}
theorem Y_(a:FH Z s)(h:WR Z s){i k p:Nat}{x y:AF}(j:s.a[i]?=some x)(l:(A9 (AE Z) x.b.toNat (i+1))[k]?=some p)(m:s.a[p]?=some y):(C4 x.a k (BM (((s.a[i+1]?).map (·.a)).getD 0))≠0->BM y.a=C4 x.a k (BM (((s.a[i+1]?).map (·.a)).getD 0)))/\(((((CN s.a (AE Z) i).C[i]?).getD false)||KP x.a k)=true->MD y.a=false)/\(CN s.a (AE Z) p).C[p]?=some ((((CN s.a (AE Z) i).C[i]?).getD false)||KP x.a k):=by
 obtain⟨z,n,g,o⟩:=a.z j;have d:=l;rw[o]at d;obtain⟨e,f⟩:=Cs a.t n d;have v:=x9 a.j a.b (i+1);have q:(s.a[i+1]?).map (·.a)=(Z[i+1]?).map (·.a):=by grind
 rw[<-YU a.j a.b]at e;rw[<-YU a.j a.b,<-YU a.j a.b]at f;rw[<-g,<-q]at e;rw[<-g]at f;have b:=h p y m;refine⟨fun r=>?_,fun t=>?_,f⟩
 .by_cases c:BM y.a=C4 x.a k (BM (((s.a[i+1]?).map (·.a)).getD 0));.exact c
  .rw[ZI e r c]at b;cases b
 .rw[t]at f;cases u:MD y.a with
  |false=>rfl|true=>
   by_cases c:C4 x.a k (BM (((s.a[i+1]?).map (·.a)).getD 0))≠0/\BM y.a≠C4 x.a k (BM (((s.a[i+1]?).map (·.a)).getD 0))
   .rw[ZI e c.1 c.2]at b;cases b
   .rw[dG e c f u]at b;cases b
theorem DM.i{l:List AF}{i:Nat}{x:AF}(d:DM l)(a:l[i]?=some x)(e:2<=x.a){k p:Nat}(f:(A9 (AE l) x.b.toNat (i+1))[k]?=some p):∃y:AF,l[p]?=some y/\CX (CH x.a k) y.a=true:=by
 obtain⟨q,g⟩:∃q,FQ l i q:=⟨_,d.U (ae.1 a).1⟩;rcases g with⟨m,b,h⟩|⟨rfl,m,h⟩;.cases m with|zero=>cases h|succ m=>
   unfold C6 at h;rw[a]at h;simp only at h;split at h
   .obtain⟨y,n,e⟩:=Nu _ _ _ _ h k p f;grind
   .cases h
 .unfold JD at h;rw[a]at h;simp only at h;split at h
  .rename_i c;rw[ah]at c;have j:=c.1;simp[CX]at j;omega
  .cases h
theorem FH.f(b:FH Z s){i k p:Nat}{x:AF}(f:s.a[i]?=some x)(j:39<=x.a)(c:(A9 (AE Z) x.b.toNat (i+1))[k]?=some p):∃y:AF,s.a[p]?=some y/\27<=y.a/\y.a<=54:=by
 obtain⟨z,l,m,n⟩:=b.z f;have d:=(b.d f c).2;rw[n]at c;obtain⟨w,o,g⟩:=b.t.i l (by omega) c;obtain⟨y,h⟩:∃y,s.a[p]?=some y:=⟨_,aa d⟩;obtain⟨B,a,q,_⟩:=b.z h;rw[o]at a;cases a;refine⟨y,h,?_⟩;rw[q];have e:CH z.a k=7:=by
  unfold CH;rw[<-m];have r:x.a≠11:=by omega
  have C:([7,8,9,10]:List Int).contains x.a=false:=by grind
  have t:x.a≠12:=by omega
  have u:x.a≠13:=by omega
  have v:x.a≠15:=by omega
  have D:([19,20]:List Int).contains x.a=false:=by grind
  have A:x.a≠38:=by omega
  rw[ad r,ad (by grind),ad t,ad u,ad v,ad (by grind),ad A]
 rw[e]at g;unfold CX at g;grind
theorem bQ{size:Int}{C:List Int}(f:FH Z s){i:Nat}{x:AF}(g:s.a[i]?=some x)(d:BM x.a=2){v:Int}(h:DX s.a (AE Z) size C i=some v):v=0\/v=1:=by
 have j:∀a b,(I0 x.a=true\/IG x.a=true)->I9 x.a a b=0\/I9 x.a a b=1:=fun a b e=>by
  have k:LX x.a=false:=by cases c:LX x.a with|false=>rfl|true=>exfalso;unfold LX at c;simp only[dx,dO,dC,bu,ak]at c;rcases c with c|c|c|c|c|c|c<;>(rw[c]at d;cases d)
  unfold I9;grind
 rw[XC f g]at h;split at h;.rename_i l;cases m:DX s.a (AE Z) size C (i+1)with|none=>grind|some a=>grind
 split at h;.grind
 unfold FR at h;split at h;.rename_i e;rw[e]at d;cases d
 split at h;.rename_i e;rw[e]at d;cases d
 split at h;.rename_i e;rw[e]at d;cases d
 grind
theorem FH.m(c:FH Z s){i:Nat}{x:AF}(f:s.a[i]?=some x)(g:[27,28,29,30,31,32,33,34,35,36,37].contains x.a=true):AE Z i=i+1:=by
 obtain⟨z,j,k,l⟩:=c.z f;obtain⟨m,b,_⟩:=c.a f;have d:=c.t.X j;unfold EW at d;simp only[ah,am,bu]at d;obtain⟨_,a⟩:=d;rw[<-k,<-l]at a;have e:x.b=0:=by simp only[dx,dO,dC,bu,ak]at g;rcases g with h|h|h|h|h|h|h|h|h|h|h<;>(rw[h]at a;rcases a with a|a<;>simp[DV]at a<;>omega)
 rw[e]at b;exact b.symm
theorem lR{size:Int}{C:List Int}(a:FH Z s):∀(d i:Nat)(x:AF),s.a.length-i<=d->s.a[i]?=some x->27<=x.a->((DX s.a (AE Z) size C i).isSome=true↔∀(j:Nat)(y:AF),i<=j->j<AE Z i->s.a[j]?=some y->MD y.a=false)
 |0,i,x,D,c,_=>by grind|d+1,i,x,D,c,E=>by have F:=(ae.1 c).1;have G:=(a.l i x c).2;obtain⟨R,g,H,I⟩:=a.a c;rw[XC a c];cases n:I0 x.a with
  |true=>
   have o:=a.p c n;have l:39<=x.a:=by unfold I0 at n;grind
   obtain⟨y,t,f,_⟩:=a.f (k:=0) (p:=i+1) c l (by rw[o];rfl);have S:=lR (size:=size) (C:=C) a d (i+1) y (by omega) t f;have v:AE Z (i+1)=AE Z i:=by rw[o]at g;obtain⟨J,u,_,_,K⟩:=g;rw[JN u];exact K
   have q:MD x.a=false:=by unfold I0 at n;simp at n;rcases n with h|h<;>(rw[h];rfl)
   grind|false=>
  rw[ad (by decide)];cases m:IG x.a with
  |true=>
   have o:=a.h c m;have l:39<=x.a:=by unfold IG at m;simp at m;omega
   obtain⟨y,t,f,_⟩:=a.f (k:=0) (p:=i+1) c l (by rw[o];rfl);obtain⟨w,z,r,_⟩:=a.f (k:=1) (p:=AE Z (i+1)) c l (by rw[o];rfl);have L:=a.e c o;have M:=lR (size:=size) (C:=C) a d (i+1) y (by omega) t f;have N:=lR (size:=size) (C:=C) a d (AE Z (i+1)) w (by omega) z r;have v:AE Z (AE Z (i+1))=AE Z i:=by
    rw[o]at g;obtain⟨J,u,_,_,T,O,_,_,P⟩:=g;rw[JN u,JN O];exact P
   have A:=(a.a z).2.2.2;have B:=(a.a t).2.2.2;have q:MD x.a=false:=by
    unfold IG at m;simp only[dx,dO,dC,bu,ak]at m;rcases m with h|h|h|h|h|h|h|h|h|h|h|h|h|h<;>(rw[h];rfl)
   rw[ag rfl];refine Iff.trans (b:=(DX s.a (AE Z) size C (i+1)).isSome=true/\(DX s.a (AE Z) size C (AE Z (i+1))).isSome=true) ?_ ?_;.cases DX s.a (AE Z) size C (i+1)<;>cases DX s.a (AE Z) size C (AE Z (i+1))<;>simp
   grind|false=>rw[ad (by decide)];cases q:MD x.a with
   |true=>
    have e:FR size C x=none:=by
     unfold MD at q;simp only[dx,dO,dC,bu,ak]at q;unfold FR;rw[ad (by omega),ad (by omega),ad (by omega),ad (by omega),ad (by omega)]
    grind|false=>
    have Q:x.a=27\/x.a=29\/x.a=30\/x.a=32\/x.a=33:=by unfold I0 at n;unfold IG at m;unfold MD at q;simp only[dx,dO,dC,Bool.or_eq_false_iff,ax]at n m q;omega
    have v:=a.m c (by grind);refine⟨fun _ j U V W X=>?_,fun _=>?_⟩;.grind
    .unfold FR;grind
end
structure N_ where
 k:Int
 a:Int
 b:Int
 c:Int
structure SB where
 R:List AF
 e:Nat->Nat
 a:List Int
 d:List Int
 c:List Int
 b:Int
theorem Af{rows:List AF}{E S:List Int}(c:FM S):∀(l:List AF)(at_:Nat)(n:Int),0<=n->n<=4611686018427387904->¬RV rows E S l at_ n>=0->∀(i:Nat)(x:AF),l[i]?=some x->E9 x.a=true->Gz0 rows E S (at_+i+1)<=16384
 |[],_,_,_,_,_,i,x,j,_=>by grind|y::l,at_,n,d,k,h,i,x,j,a=>by
  have f:=WN (rows:=rows) (E:=E) c (at_+1);have g:=K7 d f.1 f.2;unfold RV at h;cases i with
  |zero=>
   have:y=x:=by grind
   subst this;rw[a,ad (by decide)]at h;split at h;.omega
   .rename_i m;rw[fe];unfold CP at m;omega|succ i=>
   have b:l[i]?=some x:=by assumption
   have e:at_+(i+1)+1=at_+1+i+1:=by omega
   rw[e];split at h;.exact Af c l (at_+1) n d k h i x b a
   .split at h;.omega
    .exact Af c l (at_+1) _ g.1 g.2 h i x b a
def Y5(l:List AF)(v:Int):Prop:=v=-1\/∃r:Nat,v=(r:Int)+1/\∃x,l[r]?=some x/\E9 x.a=true
structure YT (l:List AF) (s:AS):Prop where
 b:∀ v∈s.h,Y5 l v
 a:Y5 l s.c
theorem Cv(l:List AF):YT l (DC l):=⟨fun v h=>by simp[DC]at h,.inl rfl⟩
theorem Cy{l:List AF}{at_:Nat}{s:AS}(d:at_<l.length)(hi:JI l at_ s)(b:YT l s)(h0:(GB (AZ l) at_ s).1=0):YT l (GB (AZ l) at_ s).2:=by
 obtain⟨x,c⟩:∃x,s.a[at_]?=some x:=⟨_,aa (by rw[hi.a];exact d)⟩;have e:l[at_]?=some x:=by rw[<-hi.b at_ (af _)];exact c
 by_cases j:CR x.a=0
 .rw[lH c j]at h0⊢;by_cases k:EI at_ x s=0;case neg=>grind
  rw[ad (by omega)]at h0⊢;obtain⟨n,o,q,r,f,t,u⟩:=aB c k;have m:(C2 at_ x s).c=s.c:=by unfold C2;grind
  rw[o]at h0⊢;simp only at h0⊢;by_cases w:EY {x with n:=n} (C2 at_ x s)=0;case neg=>grind
  rw[ad (by omega)];unfold EZ;cases g:E9 x.a with
  |false=>rw[ag rfl];exact⟨by rw[f];exact b.b,by rw[m];exact b.a⟩|true=>
   rw[ad (by decide)];have p:Y5 l ((at_:Int)+1):=.inr ⟨at_,rfl,x,e,g⟩;split;.exact⟨by show∀v∈(C2 at_ x s).h,Y5 l v;rw[f];exact b.b,p⟩
   .refine⟨fun v i=>?_,by show Y5 l (C2 at_ x s).c;rw[m];exact b.a⟩;have a:v∈(C2 at_ x s).h.set n.toNat ((at_:Int)+1):=i;rw[f]at a;rcases List.mem_or_eq_of_mem_set a with h|h;.exact b.b v h
    grind
 .rw[oU c j]at h0⊢;by_cases k:FV x s=0;case neg=>grind
  rw[ad (by omega)];have:CQ at_ (((AZ l)[at_]?).getD 0) x s=HE at_ (((AZ l)[at_]?).getD 0) x s:=by unfold CQ;grind
  simp only;rw[this];refine⟨fun v i=>?_,b.a⟩;have a:v∈(if CR x.a=1 then s.h++[-1]else s.h):=i;split at a
  .rcases ji.1 a with h|h;.exact b.b v h
   .rw[List.mem_singleton.1 h];exact .inl rfl
  .exact b.b v a
theorem Kh{l:List AF}(e:DM l):∀r a s,a+r=l.length->JI l a s->YT l s->(ED (AZ l) r a s).1=0->YT l (ED (AZ l) r a s).2.2
 |0,a,s,f,_,c,_=>c|r+1,a,s,f,b,c,d=>by
  unfold ED at d⊢;by_cases h:(GB (AZ l) a s).1=0
  .rw[ad (by omega)]at d⊢;exact Kh e r (a+1) _ (by omega) (aG e (aM a) (by omega) b h) (Cy (by omega) b c h) d
  grind
def TR(s:AS)(v:Int):Prop:=0<=v/\∃x:AF,s.a[v.toNat]?=some x/\x.a=11
structure S_ (Z:List AF) (s:AS):Prop where
 g:FH Z s
 d:XH s.a (AZ Z) s.d
 h:∀ (i:Nat) (x:AF),s.a[i]?=some x->FN x.a=0->CR x.a=0->x.a≠27->x.n=0
 f:∀ (i:Nat) (x:AF),s.a[i]?=some x->MP x.a=false->x.d=0
 a:∀ (i:Nat) (x:AF),s.a[i]?=some x->F8 x.a<=x.b/\(DV x.a<0\/x.b<=DV x.a)
 b:∀ (i k p:Nat) (x y:AF),s.a[i]?=some x->11<=x.a->(A9 (AE Z) x.b.toNat (i+1))[k]?=some p->s.a[p]?=some y->CX (CH x.a k) y.a=true
 e:∀ v∈s.d,TR s v
 j:∀ v∈s.h,v=-1\/(TR s v/\Gz0 s.a (AZ Z) (I1 s.a (AZ Z) s.d) v.toNat<=16384)
 c:s.c=-1\/(TR s s.c/\Gz0 s.a (AZ Z) (I1 s.a (AZ Z) s.d) s.c.toNat<=16384)
 l:s.h.length=s.b.length
theorem C1{Z:List AF}(c:DM Z){r:Nat}{x:AF}(a:Z[r]?=some x)(s:[7,8,9,10].contains x.a=true):∃y:AF,Z[r+1]?=some y/\y.a=11:=by
 have d:=c.X a;unfold EW at d;simp only[ah,am,bu]at d;obtain⟨⟨_,l⟩,_⟩:=d;have m:x.a=7\/x.a=8\/x.a=9\/x.a=10:=by grind
 have t:1<=x.b:=by rcases m with h|h|h|h<;>rw[h]at l<;>exact l
 obtain⟨j,o⟩:∃j,x.b.toNat=j+1:=⟨x.b.toNat-1,by omega⟩;have e:=(ae.1 a).1;obtain⟨y,q,b⟩:=c.Z a (k:=0) (p:=r+1) (by rw[o];rfl);refine⟨y,q,?_⟩;rcases b with b|b
 .have:CH x.a 0=2:=by rcases m with h|h|h|h<;>rw[h]<;>rfl
  rw[this]at b;simpa[CX]using b
 .have n:=c.U e;have f:x.a≠1:=by omega
  obtain⟨z,g,_,_,i⟩:=n.a;rw[a]at g;cases g;have:=HM _ _ _ i;obtain⟨z,g,u⟩:=uX n a f (r+1) (by omega) (by omega);grind
theorem Xu{nm:ByteArray}{s:AS}(h:DQ nm s=0)(Q:s.a.length<2932031007403):S_ (AU s.a) s:=by
 have hG:=jT h;have hm:WM nm s:=by
  unfold DQ at h;grind
 obtain⟨q,e⟩:=hm;rw[WB q]at e;obtain⟨_,R,I,e3,e4,e5,J,S⟩:=e;simp only at R I e3 e4 e5 J S;obtain⟨l,h0,A,h8,m,T⟩:=VR q;have h9:(AU s.a).length=s.a.length:=by unfold AU;simp
 have U:U4 (AU s.a) (AU s.a).length (DA (AU s.a)).2:=by rw[m];exact mT l (AU s.a).length 0 (DC (AU s.a)) (by omega) (VO _) (vO _) A
 have V:YT (AU s.a) (DA (AU s.a)).2:=by rw[m];exact Kh l (AU s.a).length 0 (DC (AU s.a)) (by omega) (VO _) (Cv _) A
 have n:¬LI (DA (AU s.a)).2.a (AZ (AU s.a)) (DA (AU s.a)).2.d>=0:=by grind
 have W:=q8 l (by omega) T U;have hT:=eU q;have hO:=T.e.o;generalize(DA (AU s.a)).2=s' at*;have B:=(Y8 (rows:=s.a) (E:=AZ (AU s.a)) (rules:=s.d)).1;rw[<-I,<-J]at W n;have f:∀(i:Nat)(x:AF),s.a[i]?=some x->∃z:AF,(AU s.a)[i]?=some z/\z.a=x.a/\z.b=x.b/\z.d=x.d:=fun i x d=>by
  refine⟨J9 x,by unfold AU;grind,?_⟩;unfold J9;grind
 have C:∀(r:Nat)(z:AF),(AU s.a)[r]?=some z->[7,8,9,10].contains z.a=true->TR s ((r:Int)+1):=fun r z c g=>by obtain⟨y,K,L⟩:=C1 l c g;obtain⟨x,d,rfl⟩:=nU K;refine⟨by omega,x,by assumption,?_⟩;grind
 have D:∀v,Y5 (AU s.a) v->v=-1\/(TR s v/\Gz0 s.a (AZ (AU s.a)) (I1 s.a (AZ (AU s.a)) s.d) v.toNat<=16384):=fun v o=>by
  rcases o with o|⟨r,rfl,z,c,g⟩;.omega
  .refine .inr ⟨C r z c ?_,?_⟩
   .unfold E9 at g;grind
   .obtain⟨x,d,rfl⟩:=nU c;rw[(kD x).1]at g;have:=Af B s.a 0 0 (by omega) (by omega) n r x d g;grind
 refine⟨hG,W,fun i x d hc hd M=>?_,fun i x d g=>?_,fun i x d=>?_,fun i k p x y d L g K=>?_,fun v o=>?_,fun v o=>D v ?_,D _ ?_,by grind⟩
 .obtain⟨z,c,G,H,N⟩:=f i x d;have O:=(ae.1 c).1;rw[I]at d;have t:=(hT.b i x O d).1 (by unfold M0;omega);exact(Np (l.X t)).1 M
 .obtain⟨z,c,G,H,N⟩:=f i x d;have P:=l.X c;unfold EW at P;grind
 .obtain⟨z,c,G,H,N⟩:=f i x d;have P:=l.X c;unfold EW at P;grind
 .obtain⟨z,c,G,H,N⟩:=f i x d;rw[<-H]at g;obtain⟨w,hw,t⟩:=l.Z c g;obtain⟨u,X,h5,_⟩:=f p y K;rw[hw]at X;cases X;rw[<-G,<-h5];rcases t with t|t;.exact t
  .have Y:=l.U (ae.1 c).1;obtain⟨a,Z,_,_,F⟩:=Y.a;rw[c]at Z;cases Z;obtain⟨c1,c2⟩:=TD _ _ _ F k p g;have c3:=RA _ _ _ F p (aw g);obtain⟨b,hb,h6⟩:=uX Y c (by omega) p (by omega) (by omega);grind
 .rw[J]at o;obtain⟨j,hj⟩:=dn o;obtain⟨r,rfl,hr,z,c,h7⟩:=U.a j v hj;grind
 .rw[S]at o;exact V.b v o
 .rw[R];exact V.a
section
variable {Z:List AF} {s:AS} {rd caps:List Int} {size:Int}
end
structure FK where
 V:List (Int × Int × Int)
 G:List Int
 a:List Int
def ER(e:Nat->Nat)(val:Nat->Int)(i:Nat)(x:AF)(t:FK):Int×FK:=if x.a=4 then(if val (i+1)<val (e (i+1))\/val (i+1)>val (e (e (i+1)))then(43,t)else(0,{t with V:=t.V++[(val (i+1),val (e (i+1)),val (e (e (i+1))))]}))else if x.a=5 then(if val (i+1)<1\/val (i+1)>255 then(43,t)else(0,{t with G:=t.G++[val (i+1)]}))else if x.a=6 then(if val (i+1)=0 then(44,t)else(0,t))else if x.a=13 then(if val (i+1)<0\/val (i+1)>4194304 then(43,t)else(0,{t with a:=t.a.set i (val (i+1))}))else(0,t)
def ID(R:List AF)(e:Nat->Nat)(val:Nat->Int):Nat->Nat->FK->(Int×Int)×FK
 |0,_,t=>((0,0),t)|r+1,i,t=>match R[i]? with
  |none=>((0,0),t)|some x=>if(ER e val i x t).1≠0 then(((ER e val i x t).1,(i:Int)),⟨[],[],[]⟩)else ID R e val r (i+1) (ER e val i x t).2
section
variable {R:List AF} {e:Nat->Nat} {val:Nat->Int} {r i:Nat} {x:AF} {t:FK}
theorem N3(a:R[i]?=some x){b:Int}(c:(ER e val i x t).1=b)(h0:b≠0):ID R e val (r+1) i t=((b,(i:Int)),⟨[],[],[]⟩):=by unfold ID;grind
theorem QC(a:R[i]?=some x)(b:(ER e val i x t).1=0):ID R e val (r+1) i t=ID R e val r (i+1) (ER e val i x t).2:=by
 conv=>lhs;unfold ID
 grind
end
section
variable {Z:List AF} {s:AS}
theorem Bk(a:FH Z s)(r:WR Z s){p:Nat}{y:AF}(t:s.a[p]?=some y)(F:(CN s.a (AE Z) p).C[p]?=some true):∀(d j:Nat),j<=p+d->p<=j->j<AE Z p->(CN s.a (AE Z) j).C[j]?=some true
 |0,j,G,u,_=>by grind|d+1,j,G,u,T=>by
  rcases gY u with e|e;.grind
  obtain⟨z,H,_,_⟩:=a.z t;have m:=(ae.1 H).1;have A:=(a.t.U m).b;have I:=JN a.t;obtain⟨i,x,k,n,J,c⟩:=a.t.Y j 0 j (by omega) (by omega) (by omega) (by omega);have o:=(ae.1 n).1;obtain⟨U,f,_,_,b⟩:=(a.t.U o).a;rw[n]at f;cases f;obtain⟨K,L⟩:=TD _ _ _ b _ _ c;have q:p<=i:=by
   rcases ar i p with B|B
   .exfalso;obtain⟨M,N,D,V,O,P⟩:=qF _ _ _ b p (by omega) (by omega);have g:N<Z.length:=by omega
    have W:=a.t.j g O P;rcases jk M k with l|l|l;.have:=aA _ _ _ b _ _ _ _ l D c;omega
    .grind
    .have:=aA _ _ _ b _ _ _ _ l c D;omega
   .exact B
  have Q:=a.b.1;obtain⟨w,E⟩:∃w,s.a[i]?=some w:=⟨_,aa (by omega)⟩;obtain⟨v,R⟩:∃v,s.a[j]?=some v:=⟨_,aa (by omega)⟩;obtain⟨X,h,_,S⟩:=a.z E;rw[n]at h;cases h;rw[<-S]at c;have Y:=Bk a r t F d i (by omega) q (by omega);have:=(Y_ a r E c R).2.2;grind
theorem Ts{size:Int}{C:List Int}(e:FH Z s)(f:WR Z s){p:Nat}{y:AF}(g:s.a[p]?=some y)(c:27<=y.a)(l:(CN s.a (AE Z) p).C[p]?=some true):∃v,DX s.a (AE Z) size C p=some v:=by
 have h:=(lR (size:=size) (C:=C) e s.a.length p y (by omega) g c).2 fun j w m n i=>by
  have o:=Bk e f g l j j (by omega) m n;have b:=f j w i;obtain⟨t,_,_⟩:=W7 (R:=s.a) (AE Z) j;have q:=(ae.1 i).1;obtain⟨a,k⟩:∃a,(CN s.a (AE Z) j).A[j]?=some a:=⟨_,aa (by omega)⟩;cases r:MD w.a with|false=>rfl|true=>
   by_cases d:a≠0/\BM w.a≠a
   .rw[ZI k d.1 d.2]at b;cases b
   .rw[dG k d o r]at b;cases b
 exact Option.isSome_iff_exists.1 h
theorem Mz{size:Int}{C:List Int}(a:FH Z s)(n:WR Z s){i k p:Nat}{x:AF}(d:s.a[i]?=some x)(f:(A9 (AE Z) x.b.toNat (i+1))[k]?=some p)(o:KP x.a k=true):∃(y:AF)(v:Int),s.a[p]?=some y/\27<=y.a/\DX s.a (AE Z) size C p=some v:=by
 obtain⟨z,t,u,A⟩:=a.z d;have g:=(a.d d f).2;obtain⟨y,j⟩:∃y,s.a[p]?=some y:=⟨_,aa g⟩;have q:=(Y_ a n d f j).2.2;rw[o,js]at q;have b:=f;rw[A]at b;have l:x.a=4\/x.a=5\/x.a=6\/(x.a=13/\k=0):=by unfold KP at o;grind
 obtain⟨w,B,r⟩:=a.t.i t (by omega) b;obtain⟨F,c,D,_⟩:=a.z j;rw[B]at c;cases c;have e:CH z.a k=7:=by
  rw[<-u];rcases l with h|h|h|⟨h,E⟩;.rw[h];rfl
  .rw[h];rfl
  .rw[h];rfl
  .rw[h,E];rfl
 rw[e]at r;have m:27<=y.a:=by
  rw[D];unfold CX at r;grind
 obtain⟨v,G⟩:=Ts (size:=size) (C:=C) a n j m q;grind
end
theorem lX{a:Type}{F G:Int->a}(h:LR.map F=LR.map G){k:Int}(b:1<=k/\k<=54):F k=G k:=(List.map_inj_left.1 h) k (mH b)
def kZ:List Int:=LR.filter fun k=>!([12,13,15,47,48].contains k)
theorem Dd{a:Type}{F G:Int->a}(h:kZ.map F=kZ.map G){k:Int}(b:1<=k/\k<=54)(c:[12,13,15,47,48].contains k=false):F k=G k:=(List.map_inj_left.1 h) k (List.mem_filter.2 ⟨mH b,by grind⟩)
section
variable (call:AY) (N:Nat) (h:AA)
theorem Dg:(LR.map fun k=>AW prog call N 130 [iv k] h)=LR.map fun k=>some (iv (BM k),h):=by kernel_rfl
theorem Dj:(LR.map fun k=>AW prog call N 164 [iv k] h)=LR.map fun k=>some (iv (BM k),h):=by kernel_rfl
theorem Dm:(LR.map fun k=>AW prog call N 131 [iv k] h)=LR.map fun k=>some (.bool (MD k),h):=by kernel_rfl
theorem Do:(LR.map fun k=>AW prog call N 165 [iv k] h)=LR.map fun k=>some (.bool (MD k),h):=by kernel_rfl
theorem Ds(j:Nat)(first:Int):(kZ.map fun k=>AW prog call N 133 [iv k,iv j,iv first] h)=kZ.map fun k=>some (iv (C4 k j first),h):=by kernel_rfl
end
section
variable {n:Nat} {h:AA} {k:Int}
theorem Jr(a:1<=k/\k<=54)(b:0<n):AN n 130 [iv k] h=some (iv (BM k),h):=by obtain⟨n,rfl⟩:=BX b;exact FA BF rfl (lX (Dg (AN n) n h) a)
theorem Fe(a:1<=k/\k<=54)(b:0<n):AN n 164 [iv k] h=some (iv (BM k),h):=by obtain⟨n,rfl⟩:=BX b;exact FA BF rfl (lX (Dj (AN n) n h) a)
theorem D1(a:1<=k/\k<=54)(b:0<n):AN n 131 [iv k] h=some (.bool (MD k),h):=by obtain⟨n,rfl⟩:=BX b;exact FA BF rfl (lX (Dm (AN n) n h) a)
theorem D2(a:1<=k/\k<=54)(b:0<n):AN n 165 [iv k] h=some (.bool (MD k),h):=by obtain⟨n,rfl⟩:=BX b;exact FA BF rfl (lX (Do (AN n) n h) a)
theorem Sw(a:Int)(j:Nat):KP a j=(a==4||(a==5||(a==6||(a==13&&(j:Int)==0)))):=by
 have b:((j:Int)==0)=(j==0):=by grind
 unfold KP;grind
theorem D6{a:Int}{j:Nat}(i:0<n:=by omega):AN n 134 [iv a,iv (j:Int)] h=some (.bool (KP a j),h):=by
 obtain⟨n,rfl⟩:=BX i;refine FA BF rfl ?_;refine DO func134 rfl (by simp) ?_;have c:f134.results.toList=[.tmp 4]:=rfl;rw[Sw];cases d:(a==4)with
 |true=>simp only[eE,seval,c,d,fa]|false=>cases e:(a==5)with
 |true=>simp only[eE,seval,c,d,e,fa,js]|false=>cases f:(a==6)with
 |true=>simp only[eE,seval,c,d,e,f,fa,js]|false=>cases b:(a==13)with
 |false=>simp only[eE,seval,c,d,e,f,b,dC,bz]|true=>cases g:((j:Int)==0)with
 |false=>simp only[eE,seval,c,d,e,f,b,g,dC,Bool.and_false]|true=>simp only[eE,seval,c,d,e,f,b,g,js,Bool.and_true]
theorem Rv{a b:Int}:FP prog h 25 2 [(0,iv a),(1,iv b)]=some (qS h.a 2 2,h.d (.row [iv a,iv b] 3 false false)):=by have c:∀x:Int,(iv x).cells=#[iv x]:=fun _=>rfl;simp[FP,au,B_,GD,flat,B7,c,I6,CF,Go.Sx.lay]
theorem Z3{a b c:Int}:FP prog h 25 3 [(0,iv a),(1,iv b),(2,iv c)]=some (qS h.a 3 3,h.d (.row [iv a,iv b,iv c] 3 false false)):=by have d:∀x:Int,(iv x).cells=#[iv x]:=fun _=>rfl;simp[FP,au,B_,GD,flat,B7,d,I6,CF,Go.Sx.lay]
theorem VX{o:BO}:∀i,i<h.a->(h.d o).c i=h.c i:=fun i a=>AV a
theorem Uj{call:AY}{N:Nat}{j:Nat}{first:Int}(g:1<=k/\k<=54)(o:[12,13].contains k=true->j<3)(l:[15,47,48].contains k=true->j<2):∃a,AW prog call N 133 [iv k,iv (j:Int),iv first] h=some (iv (C4 k j first),a)/\∀i,i<h.a->a.c i=h.c i:=by
 by_cases m:[12,13,15,47,48].contains k=false;.exact⟨h,Dd (Ds call N h j first) g m,fun _ _=>rfl⟩
 have f:k=12\/k=13\/k=15\/k=47\/k=48:=by grind
 have e:f133.results.toList=[.tmp 6]:=rfl;rcases f with rfl|rfl|rfl|rfl|rfl
 .have d:j=0\/j=1\/j=2:=by grind
  rcases d with rfl|rfl|rfl
  .have b:BW prog 25 (qS h.a 3 3) (iv 0)=some (qP h.a 0):=FO (id:=h.a) (n:=3) (c:=3) (i:=0) (by decide);change∃a,AW prog call N 133 [iv 12,iv 0,iv first] h=some (iv (C4 12 0 first),a)/\_;refine EA (R:=fun a=>∀i,i<h.a->a.c i=h.c i) jd rfl (by simp) ?_;simp only[eE,seval,↓eP,Int.reduceBEq,e,Z3,b,AM,BJ,AI];exact⟨rfl,VX⟩
  .have b:BW prog 25 (qS h.a 3 3) (iv 1)=some (qP h.a 1):=FO (id:=h.a) (n:=3) (c:=3) (i:=1) (by decide);change∃a,AW prog call N 133 [iv 12,iv 1,iv first] h=some (iv (C4 12 1 first),a)/\_;refine EA (R:=fun a=>∀i,i<h.a->a.c i=h.c i) jd rfl (by simp) ?_;simp only[eE,seval,↓eP,Int.reduceBEq,e,Z3,b,AM,BJ,AI];exact⟨rfl,VX⟩
  .have b:BW prog 25 (qS h.a 3 3) (iv 2)=some (qP h.a 2):=FO (id:=h.a) (n:=3) (c:=3) (i:=2) (by decide);change∃a,AW prog call N 133 [iv 12,iv 2,iv first] h=some (iv (C4 12 2 first),a)/\_;refine EA (R:=fun a=>∀i,i<h.a->a.c i=h.c i) jd rfl (by simp) ?_;simp only[eE,seval,↓eP,Int.reduceBEq,e,Z3,b,AM,BJ,AI];exact⟨rfl,VX⟩
 .have d:j=0\/j=1\/j=2:=by grind
  rcases d with rfl|rfl|rfl
  .have b:BW prog 25 (qS h.a 3 3) (iv 0)=some (qP h.a 0):=FO (id:=h.a) (n:=3) (c:=3) (i:=0) (by decide);change∃a,AW prog call N 133 [iv 13,iv 0,iv first] h=some (iv (C4 13 0 first),a)/\_;refine EA (R:=fun a=>∀i,i<h.a->a.c i=h.c i) jd rfl (by simp) ?_;simp only[eE,seval,↓eP,Int.reduceBEq,e,Z3,b,AM,BJ,AI];exact⟨rfl,VX⟩
  .have b:BW prog 25 (qS h.a 3 3) (iv 1)=some (qP h.a 1):=FO (id:=h.a) (n:=3) (c:=3) (i:=1) (by decide);change∃a,AW prog call N 133 [iv 13,iv 1,iv first] h=some (iv (C4 13 1 first),a)/\_;refine EA (R:=fun a=>∀i,i<h.a->a.c i=h.c i) jd rfl (by simp) ?_;simp only[eE,seval,↓eP,Int.reduceBEq,e,Z3,b,AM,BJ,AI];exact⟨rfl,VX⟩
  .have b:BW prog 25 (qS h.a 3 3) (iv 2)=some (qP h.a 2):=FO (id:=h.a) (n:=3) (c:=3) (i:=2) (by decide);change∃a,AW prog call N 133 [iv 13,iv 2,iv first] h=some (iv (C4 13 2 first),a)/\_;refine EA (R:=fun a=>∀i,i<h.a->a.c i=h.c i) jd rfl (by simp) ?_;simp only[eE,seval,↓eP,Int.reduceBEq,e,Z3,b,AM,BJ,AI];exact⟨rfl,VX⟩
 .have d:j=0\/j=1:=by grind
  rcases d with rfl|rfl
  .have b:BW prog 25 (qS h.a 2 2) (iv 0)=some (qP h.a 0):=FO (id:=h.a) (n:=2) (c:=2) (i:=0) (by decide);change∃a,AW prog call N 133 [iv 15,iv 0,iv first] h=some (iv (C4 15 0 first),a)/\_;refine EA (R:=fun a=>∀i,i<h.a->a.c i=h.c i) jd rfl (by simp) ?_;simp only[eE,seval,↓eP,Int.reduceBEq,e,Rv,b,AM,BJ,AI];exact⟨rfl,VX⟩
  .have b:BW prog 25 (qS h.a 2 2) (iv 1)=some (qP h.a 1):=FO (id:=h.a) (n:=2) (c:=2) (i:=1) (by decide);change∃a,AW prog call N 133 [iv 15,iv 1,iv first] h=some (iv (C4 15 1 first),a)/\_;refine EA (R:=fun a=>∀i,i<h.a->a.c i=h.c i) jd rfl (by simp) ?_;simp only[eE,seval,↓eP,Int.reduceBEq,e,Rv,b,AM,BJ,AI];exact⟨rfl,VX⟩
 .have d:j=0\/j=1:=by grind
  rcases d with rfl|rfl;.exact⟨h,by kernel_rfl,fun _ _=>rfl⟩
  .exact⟨h,by kernel_rfl,fun _ _=>rfl⟩
 .have d:j=0\/j=1:=by grind
  rcases d with rfl|rfl;.exact⟨h,by kernel_rfl,fun _ _=>rfl⟩
  .exact⟨h,by kernel_rfl,fun _ _=>rfl⟩
theorem Tg{j:Nat}{first:Int}(b:1<=k/\k<=54)(c:[12,13].contains k=true->j<3)(a:[15,47,48].contains k=true->j<2)(d:0<n:=by omega):AN n 133 [iv k,iv (j:Int),iv first] h=some (iv (C4 k j first),h):=by obtain⟨n,rfl⟩:=BX d;exact HF BF rfl (Uj b c a)
end
theorem WJ{z:List Value}:∀n,(CF z n).length=n*z.length|0=>by simp[CF]|n+1=>by rw[CF,ch,WJ n,Nat.succ_mul];omega
theorem zZ{z:List Value}:∀a b,CF z (a+b)=CF z a++CF z b|0,b=>by simp[CF]|a+1,b=>by rw[Nat.succ_add,CF,CF,zZ a b,gh]
section
variable {P:Program} {t e:TypeId} {w b:Nat} {z:Value} {h:AA}
theorem PC(a:P.underlying t=some (.slice e))(d:BN P e=some w){id n m c:Nat}(g:m<=c)(f:c≠AT):H9 P h t (qS id n c) none (some (iv (m:Int))) none=some (qS id m c):=by
 simp only[H9,a,d,FI,f,bi];rw[ag (by omega)];simp only[gy];by_cases i:c=0;.grind
 .simp[CB]
end
structure J_ (h:AA) (o n w:Nat) (cs mk z:List Value) (e:TypeId):Prop where
 g:h.c o=.row (cs++(mk++CF z 2)) e false false
 d:cs.length=n*w
 c:mk.length=w
 f:z.length=w
section
variable {t e:TypeId} {w b:Nat} {z:Value} {h:AA}
end
section
variable {t e:TypeId} {w b:Nat} {z:Value} {h:AA}
end
section
variable {h h':AA} {o n w:Nat} {cs mk z:List Value} {e:TypeId}
end
section
variable {P:Program} {t e:TypeId} {w b:Nat} {z:Value} {h:AA}
theorem R0(f:P.underlying t=some (.slice e))(g:BN P e=some w)(i:HL P e=some b)(j:DK P e=some z)(a:z.cells.size=w)(c:flat z=true)(k:0<w)(l:b<=64){n:Nat}(m:n<4000000000000):J7 P h t (iv (n:Int)) (iv (n:Int))=some (qS h.a n n,h.d (.row (CF z.cells.toList n) e false false)):=by simp only[J7,f,g,j,i];have d:(b:Int)*(n:Int)<=64*(n:Int):=Int.mul_le_mul_of_nonneg_right (by omega) (by omega);rw[ag (by simp[c,a,k];omega)];simp
theorem Ec(o:P.underlying t=some (.slice e))(p:BN P e=some w){id n m c:Nat}{lo:Nat}{v:Value}{cs R:List Value}{ty:TypeId}{g:Bool}(k:AL lo h v n w cs)(q:cs.all one=true)(B:0<w)(s:h.c id=.row R ty g false)(C:R.length=m*w)(u:n<=m)(f:id<h.a)(D:h.b<=id):∃j,PP P h t (qS id m c) v=some (iv (n:Int),j)/\j.c id=.row (cs++R.drop (n*w)) ty g false/\j.a=h.a/\j.b=h.b/\∀i,i≠id->j.c i=h.c i:=by
 have d:=k.k;have l:=k.1;obtain⟨_,a,E,rfl,_⟩:=k;have r:min n m=n:=by omega
 by_cases x:n=0
 .refine⟨h,?_,?_,rfl,rfl,fun _ _=>rfl⟩
  .simp only[PP,o,p,r,d];grind
  simp_all
 .have y:=Nat.mul_le_mul_right w u;refine⟨_,?_,BE rfl f,rfl,rfl,fun i A=>AP f (bc A)⟩;simp only[PP,o,p,r,d,HW,s];rw[ad x,ag (by grind)];have:Go.Sx.lay R 0 cs=cs++R.drop (n*w):=by simp only[Go.Sx.lay,List.take_zero,dw,ab,l]
  rw[this]
theorem mO(q:P.underlying t=some (.slice e))(r:BN P e=some w)(u:HL P e=some b)(x:DK P e=some z)(g:z.cells.size=w)(j:flat z=true)(s:0<w)(l:b<=64){lo n k:Nat}{v:Value}{cs:List Value}(y:AL lo h v n w cs)(d:cs.all one=true)(A:n+k<4000000000000)(o:h.b<=h.a):∃a,J7 P h t (iv ((n+k:Nat):Int)) (iv ((n+k:Nat):Int))=some (qS h.a (n+k) (n+k),h.d (.row (CF z.cells.toList (n+k)) e false false))/\PP P (h.d (.row (CF z.cells.toList (n+k)) e false false)) t (qS h.a (n+k) (n+k)) v=some (iv (n:Int),a)/\a.c h.a=.row (cs++CF z.cells.toList k) e false false/\a.a=h.a+1/\a.b=h.b/\∀i,i<h.a->a.c i=h.c i:=by
 have f:z.cells.toList.length=w:=by assumption
 obtain⟨a,B,C,D,E,F⟩:=Ec (h:=h.d (.row (CF z.cells.toList (n+k)) e false false)) (m:=n+k) (c:=n+k) q r (y.b (by rw[BU];omega) fun i _ p=>AV p) d s BJ (by rw[WJ,f]) (by omega) (by rw[BU];omega) o;refine⟨a,R0 q r u x g j s l A,B,?_,D,E,fun i p=>by rw[F i (by omega),AV p]⟩;rw[C,zZ,List.drop_left' (by rw[WJ,f])]
end
def wQ:List (Bool×Bool×List Operand):=[AO,AO,AO,AO,AH [.tmp 19],AH [.tmp 19],AH [.tmp 19],AH [.tmp 19],AJ]
section
variable {call:AY} {N:Nat} {h:AA}
theorem Ef(m:C_ call){n o:Value}{A B:List Int}{D E:Nat}(v:AK D h n A)(w:AK E h o B)(T:A.length+3<N)(U:A.length<30000000000000):AW prog call N 84 [n,o] h=some (.bool (decide (A=B)),h):=by
 refine DO func84 rfl (by simp) ?_;have p:f84.results.toList=[.tmp 4]:=rfl;have k:=fun q=>J8 v q;have z:=fun q=>J8 w q;cases d:((A.length:Int)!=(B.length:Int))with
 |true=>
  have a:A≠B:=by grind
  rw[bp a];simp only[eE,↓reduceIte,Nat.reduceEqDiff,reduceCtorEq,↓eP,p,k,z,d]|false=>
  have c:A.length=B.length:=by grind
  simp only[eE,↓reduceIte,Nat.reduceEqDiff,reduceCtorEq,↓eP,k,z,d];refine WK.b (fun i l=>l.T.a 0=n/\l.T.a 1=o/\l.T.a 5=iv i/\l.h=h/\i<=A.length/\∀j,j<i->A[j]?=B[j]?) A.length (by omega) ?_ ?_;.simp only[eE,↓reduceIte,Nat.reduceEqDiff,reduceCtorEq,rP,Nat.reduceAdd];exact⟨rfl,fun j F=>by omega⟩
  .rintro i⟨V,W⟩X⟨f,r,g,C,G,b⟩;simp only at f r g C;subst C;by_cases s:i<A.length
   .have t:decide ((i:Int)<(A.length:Int))=true:=by grind
    obtain⟨x,H⟩:∃x,A[i]?=some x:=⟨_,aa s⟩;obtain⟨y,I⟩:∃y,B[i]?=some y:=⟨_,aa (by omega)⟩;obtain⟨J,Y,K,_,L⟩:=AK.V v H;obtain⟨M,Z,O,_,P⟩:=AK.V w I;have Q:=DU i;simp only[eE,seval,↓eP,f,g,k,t];refine WK.a (fs:=wQ) (by kernel_rfl) ?_;unfold wQ;iterate 9 refine DG m ?_;simp only[rG,seval,AB,AD,AC,A7,C8,f,g,K,AM,L,r,O,P]
    refine DF ?_;cases e:(x !=y)with
    |true=>
     have a:A≠B:=fun h9=>by grind
     rw[bp a];simp only[eE,seval,↓eP,p]|false=>
     have R:x=y:=by grind
     simp only[eE,seval,↓eP,f,r,g,Q];refine⟨by omega,by omega,fun j F=>?_⟩;rcases ar j i with S|S;.grind
     .grind
   .have t:decide ((i:Int)<(A.length:Int))=false:=by grind
    have:i=A.length:=by omega
    subst this;have u:A=B:=QQ c b;rw[bh u];simp only[eE,seval,↓eP,p,f,g,k,t]
end
def wW:List (Bool×Bool×List Operand):=[AO,AO,AO,AO,AH [.tmp 19],AH [.tmp 19],AH [.tmp 19],AH [.tmp 19],AJ]
section
variable {call:AY} {N:Nat} {h:AA}
theorem El(m:C_ call){n o:Value}{A B:List ByteArray}{F G:Nat}(w:AL F h n A.length 1 (DN A))(z:AL G h o B.length 1 (DN B))(U:A.length+3<N)(V:A.length<30000000000000):AW prog call N 182 [n,o] h=some (.bool (decide (A=B)),h):=by
 refine DO func182 rfl (by simp) ?_;have p:f182.results.toList=[.tmp 4]:=rfl;have k:=fun q=>QI w q;have C:=fun q=>QI z q;cases d:((A.length:Int)!=(B.length:Int))with
 |true=>
  have a:A≠B:=by grind
  rw[bp a];simp only[eE,↓reduceIte,Nat.reduceEqDiff,reduceCtorEq,↓eP,p,k,C,d]|false=>
  have c:A.length=B.length:=by grind
  simp only[eE,↓reduceIte,Nat.reduceEqDiff,reduceCtorEq,↓eP,k,C,d];refine WK.b (fun i l=>l.T.a 0=n/\l.T.a 1=o/\l.T.a 5=iv i/\l.h=h/\i<=A.length/\∀j,j<i->A[j]?=B[j]?) A.length (by omega) ?_ ?_;.simp only[eE,↓reduceIte,Nat.reduceEqDiff,reduceCtorEq,rP,Nat.reduceAdd];exact⟨rfl,fun j H=>by omega⟩
  .rintro i⟨W,X⟩Y⟨f,r,g,D,I,b⟩;simp only at f r g D;subst D;by_cases s:i<A.length
   .have t:decide ((i:Int)<(A.length:Int))=true:=by grind
    obtain⟨x,E⟩:∃x,A[i]?=some x:=⟨_,aa s⟩;obtain⟨y,u⟩:∃y,B[i]?=some y:=⟨_,aa (by omega)⟩;obtain⟨J,Z,K,_,L⟩:=YX E w;obtain⟨M,pb,O,_,P⟩:=YX u z;have Q:=DU i;simp only[eE,seval,↓eP,f,g,k,t];refine WK.a (fs:=wW) (by kernel_rfl) ?_;unfold wW;iterate 9 refine DG m ?_;simp only[rG,seval,AB,AD,AC,A7,f,g,K,HS,L,r,O,P,L8]
    refine DF ?_;cases e:(!(x==y))with
    |true=>
     have a:A≠B:=fun R=>by
      subst R;rw[E]at u;cases u;rw[OZ]at e;cases e
     rw[bp a];simp only[eE,seval,↓eP,p]|false=>
     have S:x=y:=OA (by grind);simp only[eE,seval,↓eP,f,r,g,Q];refine⟨by omega,by omega,fun j H=>?_⟩;rcases ar j i with T|T;.grind
     .grind
   .have t:decide ((i:Int)<(A.length:Int))=false:=by grind
    have:i=A.length:=by omega
    subst this;have v:A=B:=QQ c b;rw[bh v];simp only[eE,seval,↓eP,p,f,g,k,t]
end
def wA:List (Bool×Bool×List Operand):=[AO,AO,AO,AO,AH [.tmp 19],AH [.tmp 19],AH [.tmp 19],AH [.tmp 19],AJ]
section
variable {call:AY} {N:Nat} {h:AA}
theorem Eq(m:C_ call){n o:Value}{A B:List (ByteArray×Bool)}{G H:Nat}(w:AL G h n A.length 2 (EH A))(z:AL H h o B.length 2 (EH B))(V:A.length+3<N)(W:A.length<30000000000000):AW prog call N 181 [n,o] h=some (.bool (decide (A=B)),h):=by
 refine DO func181 rfl (by simp) ?_;have p:f181.results.toList=[.tmp 4]:=rfl;have k:=fun q=>P8 w q;have C:=fun q=>P8 z q;cases d:((A.length:Int)!=(B.length:Int))with
 |true=>
  have a:A≠B:=by grind
  rw[bp a];simp only[eE,↓reduceIte,Nat.reduceEqDiff,reduceCtorEq,↓eP,p,k,C,d]|false=>
  have c:A.length=B.length:=by grind
  simp only[eE,↓reduceIte,Nat.reduceEqDiff,reduceCtorEq,↓eP,k,C,d];refine WK.b (fun i l=>l.T.a 0=n/\l.T.a 1=o/\l.T.a 5=iv i/\l.h=h/\i<=A.length/\∀j,j<i->A[j]?=B[j]?) A.length (by omega) ?_ ?_
  .simp only[eE,↓reduceIte,Nat.reduceEqDiff,reduceCtorEq,rP,Nat.reduceAdd];exact⟨rfl,fun j I=>by omega⟩
  .rintro i⟨X,Y⟩Z⟨f,r,g,D,J,b⟩;simp only at f r g D;subst D;by_cases s:i<A.length
   .have t:decide ((i:Int)<(A.length:Int))=true:=by grind
    obtain⟨x,E⟩:∃x,A[i]?=some x:=⟨_,aa s⟩;obtain⟨y,u⟩:∃y,B[i]?=some y:=⟨_,aa (by omega)⟩;obtain⟨K,pa,L,_,M⟩:=aD E w;obtain⟨O,pb,P,_,Q⟩:=aD u z;have R:=DU i;simp only[eE,seval,↓eP,f,g,k,t];refine WK.a (fs:=wA) (by kernel_rfl) ?_;unfold wA;iterate 9
     refine DG m ?_;simp only[rG,seval,AB,AD,AC,A7,f,g,L,jV,M,r,P,Q,zN]
    refine DF ?_;cases e:(!(x.1==y.1&&x.2==y.2))with
    |true=>
     have a:A≠B:=fun S=>by
      subst S;rw[E]at u;cases u;rw[OZ]at e;simp at e
     rw[bp a];simp only[eE,seval,↓eP,p]|false=>
     have T:x=y:=by
      have F:(x.1==y.1&&x.2==y.2)=true:=by grind
      rw[ah]at F;exact Prod.ext (OA F.1) (by grind)
     simp only[eE,seval,↓eP,f,r,g,R];refine⟨by omega,by omega,fun j I=>?_⟩;rcases ar j i with U|U;.grind
     .grind
   .have t:decide ((i:Int)<(A.length:Int))=false:=by grind
    have:i=A.length:=by omega
    subst this;have v:A=B:=QQ c b;rw[bh v];simp only[eE,seval,↓eP,p,f,g,k,t]
end
def tI:List (Bool×Bool×List Operand):=[AO,AO,AO,AO,AH [.tmp 19],AH [.tmp 19],AH [.tmp 19],AH [.tmp 19],AJ]
section
variable {call:AY} {N:Nat} {h:AA}
open Classical in
theorem Eu(m:C_ call){n o:Value}{A B:List AF}(E:A8 h n A)(F:A8 h o B)(X:A.length+3<N)(Y:A.length<30000000000000):AW prog call N 180 [n,o] h=some (.bool (decide (A=B)),h):=by refine DO func180 rfl (by simp) ?_;have p:f180.results.toList=[.tmp 4]:=rfl;have k:=fun q=>E.c (h':=q);have G:=fun q=>F.c (h':=q);cases d:((A.length:Int)!=(B.length:Int))with
 |true=>
  have a:A≠B:=by grind
  rw[bp a];simp only[eE,↓reduceIte,Nat.reduceEqDiff,reduceCtorEq,↓eP,p,k,G,d]|false=>
  have c:A.length=B.length:=by grind
  simp only[eE,↓reduceIte,Nat.reduceEqDiff,reduceCtorEq,↓eP,k,G,d];refine WK.b (fun i l=>l.T.a 0=n∧l.T.a 1=o∧l.T.a 5=iv i∧l.h=h∧i≤A.length∧∀j,j<i→A[j]?=B[j]?) A.length (by omega) ?_ ?_
  ·simp only[eE,↓reduceIte,Nat.reduceEqDiff,reduceCtorEq,rP,Nat.reduceAdd];exact⟨rfl,fun j K=>by omega⟩
  ·rintro i⟨Z,H⟩hi⟨f,r,g,I,L,b⟩;simp only at f r g I;subst I;by_cases s:i<A.length
   ·have t:decide ((i:Int)<(A.length:Int))=true:=by grind
    obtain⟨x,J⟩:∃x,A[i]?=some x:=⟨_,aa s⟩;obtain⟨y,u⟩:∃y,B[i]?=some y:=⟨_,aa (by omega)⟩;obtain⟨v,M,O,_,_,_,_,_,_,P⟩:=E.b J;obtain⟨w,Q,R,_,_,_,_,_,_,S⟩:=F.b u;have z:AX 5 M (H.c v)=some (CW x):=P;have C:AX 5 Q (H.c w)=some (CW y):=S;have T:=DU i (by omega);simp only[eE,seval,↓eP,f,g,k,t];refine WK.a (fs:=tI) (by kernel_rfl) ?_;unfold tI;iterate 9
     refine DG m ?_;simp only[rG,seval,AB,AD,AC,A7,f,g,O,FX,z,r,R,C,Ao]
    refine DF ?_;cases e:(!(O3 x y))with
    |true=>
     have a:A≠B:=fun U=>by
      subst U;rw[J]at u;cases u;rw[VP.2 rfl]at e;cases e
     rw[bp a];simp only[eE,seval,↓eP,p]|false=>
     have V:x=y:=VP.1 (by grind);simp only[eE,seval,↓eP,f,r,g,T];refine⟨by omega,by omega,fun j K=>?_⟩;rcases ar j i with W|W;·grind
     ·grind
   ·have t:decide ((i:Int)<(A.length:Int))=false:=by grind
    have:i=A.length:=by omega
    subst this;have D:A=B:=QQ c b;rw[bh D];simp only[eE,seval,↓eP,p,f,g,k,t]
end
section
variable {n:Nat} {h:AA} {va vb:Value}
theorem aN{A:List Int}{a b:Nat}(c:AK a h va A)(d:AK b h vb A)(f:A.length<2932031007403)(e:A.length+5<n):AN n 84 [va,vb] h=some (.bool true,h):=by obtain⟨n,rfl⟩:=BX e;have:=Ef (N:=n) (EC n).2 c d (by omega) (by omega);rw[bh rfl]at this;exact FA BF rfl this
theorem tJ{A:List ByteArray}{a b:Nat}(c:AL a h va A.length 1 (DN A))(d:AL b h vb A.length 1 (DN A))(f:A.length<2932031007403)(e:A.length+5<n):AN n 182 [va,vb] h=some (.bool true,h):=by obtain⟨n,rfl⟩:=BX e;have:=El (N:=n) (EC n).2 c d (by omega) (by omega);rw[bh rfl]at this;exact FA BF rfl this
theorem Ev{A:List (ByteArray×Bool)}{a b:Nat}(c:AL a h va A.length 2 (EH A))(d:AL b h vb A.length 2 (EH A))(f:A.length<2932031007403)(e:A.length+5<n):AN n 181 [va,vb] h=some (.bool true,h):=by
 obtain⟨n,rfl⟩:=BX e;have:=Eq (N:=n) (EC n).2 c d (by omega) (by omega);rw[bh rfl]at this;exact FA BF rfl this
open Classical in
theorem Ey{A:List AF}(a:A8 h va A)(b:A8 h vb A)(d:A.length<2932031007403)(c:A.length+5<n):AN n 180 [va,vb] h=some (.bool true,h):=by obtain⟨n,rfl⟩:=BX c;have:=Eu (N:=n) (EC n).2 a b (by omega) (by omega);rw[bh rfl]at this;exact FA BF rfl this
end
theorem Ai{h:AA}{a:Option Addr}{n c:Nat}:CU prog h 25 (.slice a n c)=some (iv (n:Int)):=by simp[CU,au]
def ML(i:Nat):Int:=-77-(i:Int)
structure PE (h:AA) (o:Nat) (l L:List Int):Prop where
 g:h.c o=.row (ints L) 3 false false
 b:L.length=l.length+5
 c:∀ j,j<l.length->L[j]?=l[j]?
 a:∀ q,q<5->L[l.length+q]?=some (ML (l.length+q))
theorem PE.d{h:AA}{o:Nat}{l L:List Int}(b:PE h o l L){lo c:Nat}(d:lo<=o/\o<h.a):AK lo h (qS o l.length c) l:=by
 have e:L=l++L.drop l.length:=by
  apply eh;intro j;rcases ar j l.length with a|a;.rw[dt a,b.c j a]
  grind
 have g:=b.g;rw[e]at g;have f:h.c o=.row (ints l++ints (L.drop l.length)) 3 false false:=by rw[g];simp[ints]
 exact AL.d f d (by rw[IE];omega)
section
variable {call:AY} {N n:Nat} {h:AA}
theorem ES{l:List Int}{v:Value}{lo:Nat}(J:AK lo h v l)(hl:l.length<2932031007403)(o:h.b<=h.a)(hN:12<N:=by omega):∃a,AW prog call N 114 [v] h=some (qS h.a l.length (l.length+5),a)/\((∃L,PE a h.a l L)/\a.a=h.a+1/\a.b=h.b/\∀i,i<h.a->a.c i=h.c i):=by
 refine EA (R:=fun a=>(∃L,PE a h.a l L)/\a.a=h.a+1/\a.b=h.b/\∀i,i<h.a->a.c i=h.c i) func114 rfl (by simp) ?_;have M:f114.results.toList=[.tmp 2]:=rfl;have d:=fun a=>J8 J a;have O:IntKind.i64.wrap ((l.length:Int)+5)=((l.length+5:Nat):Int):=BR;obtain⟨Q,p,r,S,T,U,V⟩:=mO (P:=prog) (t:=25) (e:=3) (k:=5) (z:=.int .i64 0) au B_ IZ GD rfl rfl (by decide) (by decide) J (MJ l) (by omega) o;have b:∀a:AA,CU prog a 25 (qS h.a (l.length+5) (l.length+5))=some (iv ((l.length+5:Nat):Int)):=fun a=>Ai;have s:=fun(H:AA)=>PC (P:=prog) (h:=H) (t:=25) (e:=3) (id:=h.a) (n:=l.length+5) (m:=l.length) (c:=l.length+5) au B_ (by omega) (by unfold AT;omega);simp only[eE,seval,d,O,p,r];refine WK.b (fun k f=>f.T.a 0=v/\f.T.a 3=qS h.a (l.length+5) (l.length+5)/\f.T.a 4=iv ((l.length+k:Nat):Int)/\k<=5/\f.h.a=h.a+1/\f.h.b=h.b/\(∀i,i<h.a->f.h.c i=h.c i)/\∃L:List Int,f.h.c h.a=.row (ints L) 3 false false/\L.length=l.length+5/\(∀j,j<l.length->L[j]?=l[j]?)/\∀q,q<k->L[l.length+q]?=some (ML (l.length+q))) 5 (by omega) ?_ ?_
 .refine⟨by simp only[eE,seval],by simp only[eE,seval],by simp only[eE,seval];rfl,by omega,T,U,V,l++List.replicate 5 0,?_,by simp,fun j W=>by grind,fun q X=>by omega⟩;show Q.c h.a=_;rw[S];have:CF (Value.int IntKind.i64 0).cells.toList 5=ints (List.replicate 5 0):=WQ 5;rw[this];simp[ints]
 .rintro k⟨T1,K⟩hk⟨u,w,x,Y,y,A,B,L,C,Z,D,g⟩;simp only at u w x y A B C;by_cases E:k<5
  .have F:decide (((l.length+k:Nat):Int)<((l.length+5:Nat):Int))=true:=by grind
   have G:=FO (id:=h.a) (n:=l.length+5) (c:=l.length+5) (i:=l.length+k) (by omega);have w2:IntKind.i64.wrap (-77-((l.length+k:Nat):Int))=ML (l.length+k):=BR;have I:BD prog K 3 (qP h.a (l.length+k)) (iv (ML (l.length+k)))=some (K.e h.a (.row (ints (L.set (l.length+k) (ML (l.length+k)))) 3 false false)):=LZ C (by omega) (by omega);have w1:IntKind.i64.wrap (((l.length+k:Nat):Int)+1)=((l.length+(k+1):Nat):Int):=BR;simp only[eE,seval,↓eP,u,w,x,b,F,w2,G,I,w1];refine⟨E,by omega,y,A,fun i hi=>by rw[AP (by omega) (by omega)];exact B i hi,_,BE rfl (by omega),by grind,fun j W=>?_,fun q X=>?_⟩;.grind
   .grind
  .have F:decide (((l.length+k:Nat):Int)<((l.length+5:Nat):Int))=false:=by grind
   have:k=5:=by omega
   subst this;simp only[eE,seval,↓eP,M,u,w,x,d,b,F,s];exact⟨⟨L,C,Z,D,g⟩,y,A,B⟩
theorem nO{l:List Int}{v:Value}{lo:Nat}(c:AK lo h v l)(d:l.length<2932031007403)(b:h.b<=h.a)(e:20<n):∃a,AN n 114 [v] h=some (qS h.a l.length (l.length+5),a)/\((∃L,PE a h.a l L)/\a.a=h.a+1/\a.b=h.b/\∀i,i<h.a->a.c i=h.c i):=by obtain⟨n,rfl⟩:=BX e;exact PW BF rfl (ES c d b)
end
section
variable {call:AY} {N n:Nat} {h:AA}
theorem ET{o lo:Nat}{l L:List Int}{v:Value}(s:PE h o l L)(W:o<h.a)(X:h.b<=o)(Y:AK lo h v l)(Z:l.length<2932031007403)(hN:l.length+20<N)(M:call 84 [qS o l.length (l.length+5),v] h=some (.bool true,h)):∃a,AW prog call N 59 [qS o l.length (l.length+5),v] h=some (.bool true,a)/\(a.a=h.a/\a.b=h.b/\∀i,i≠o->a.c i=h.c i):=by
 refine EA (R:=fun a=>a.a=h.a/\a.b=h.b/\∀i,i≠o->a.c i=h.c i) func59 rfl (by simp) ?_;have O:f59.results.toList=[.tmp 4]:=rfl;have r:∀a:AA,CU prog a 25 (qS o l.length (l.length+5))=some (iv (l.length:Int)):=fun a=>Ai;have b:∀a:AA,CU prog a 25 (qS o (l.length+5) (l.length+5))=some (iv ((l.length+5:Nat):Int)):=fun a=>Ai;have x:=fun(H:AA)=>PC (P:=prog) (h:=H) (t:=25) (e:=3) (id:=o) (n:=l.length) (m:=l.length+5) (c:=l.length+5) au B_ (by omega) (by unfold AT;omega);have Q:IntKind.i64.wrap ((l.length:Int)+5)=((l.length+5:Nat):Int):=BR;simp only[eE,seval,M,r,Q,x];refine WK.b (fun q d=>d.T.a 5=.bool true/\d.T.a 6=qS o (l.length+5) (l.length+5)/\d.T.a 7=iv ((l.length+q:Nat):Int)/\q<=5/\d.h=h) 5 (by omega) ?_ ?_;.exact⟨by simp only[eE,seval],by simp only[eE,seval],by simp only[eE,seval];rfl,by omega,rfl⟩
 rintro q⟨T2,u⟩hq⟨j,g,y,S,G⟩;simp only at j g y G;subst G;by_cases f:q<5
 .have p:decide (((l.length+q:Nat):Int)<((l.length+5:Nat):Int))=true:=by grind
  have z:=FO (id:=o) (n:=l.length+5) (c:=l.length+5) (i:=l.length+q) (by omega);have T:AI (l.length+q) (u.c o)=some (iv (ML (l.length+q))):=by rw[s.g];exact KM (s.a q f)
  have A:IntKind.i64.wrap (((l.length+q:Nat):Int)+1)=((l.length+(q+1):Nat):Int):=BR;have U:IntKind.i64.wrap (-77-((l.length+q:Nat):Int))=ML (l.length+q):=BR;simp only[eE,seval,↓eP,j,g,y,b,p,z,AM,T,U,A];exact⟨f,by omega⟩
 have p:decide (((l.length+q:Nat):Int)<((l.length+5:Nat):Int))=false:=by grind
 have:q=5:=by omega
 subst this;simp only[eE,seval,↓eP,g,y,b,p];refine WK.b (fun k d=>d.T.a 5=.bool true/\d.T.a 6=qS o (l.length+5) (l.length+5)/\d.T.a 8=iv (k:Int)/\k<=l.length+5/\d.h.a=u.a/\d.h.b=u.b/\(∀i,i≠o->d.h.c i=u.c i)/\∃w:List Int,d.h.c o=.row (ints w) 3 false false/\w.length=l.length+5) (l.length+5) (by omega) ?_ ?_;.exact⟨by simp only[eE,↓reduceIte,Nat.reduceEqDiff,j],by simp only[eE,↓reduceIte,Nat.reduceEqDiff,g],by simp only[eE,↓reduceIte];rfl,by omega,rfl,rfl,fun _ _=>rfl,L,s.g,s.b⟩
 rintro k⟨T3,I⟩hk⟨j,g,B,V,C,D,E,w,J,l3⟩;simp only at j g B C D E J;by_cases f:k<l.length+5
 .have p:decide ((k:Int)<((l.length+5:Nat):Int))=true:=by grind
  have z:=FO (id:=o) (n:=l.length+5) (c:=l.length+5) (i:=k) f;have F:BD prog I 3 (qP o k) (iv 31)=some (I.e o (.row (ints (w.set k 31)) 3 false false)):=LZ J (by omega) (by omega);have A:=DU k;simp only[eE,seval,↓eP,j,g,B,b,p,z,F,A];exact⟨f,by omega,C,D,fun i K=>by rw[AP (by omega) (bc K)];exact E i K,_,BE rfl (by omega),by grind⟩
 have p:decide ((k:Int)<((l.length+5:Nat):Int))=false:=by grind
 simp only[eE,seval,↓eP,O,j,g,B,b,p];exact⟨C,D,E⟩
theorem fR{o lo:Nat}{l L:List Int}{v:Value}(b:PE h o l L)(c:o<h.a)(e:h.b<=o)(d:AK lo h v l)(f:l.length<2932031007403)(g:l.length+30<n):∃a,AN n 59 [qS o l.length (l.length+5),v] h=some (.bool true,a)/\(a.a=h.a/\a.b=h.b/\∀i,i≠o->a.c i=h.c i):=by obtain⟨n,rfl⟩:=BX g;exact RL BF (ET b c e d f (by omega) (aN (b.d (lo:=0) ⟨bg _,c⟩) d (by omega) (by omega)))
end
theorem HQ:BN prog 32=some 2:=by kernel_rfl
theorem Xe:HC prog 32=some true:=by kernel_rfl
theorem fT:DK prog 32=some (.agg #[iv 0,Z0]):=by kernel_rfl
theorem Gw:HN prog (match prog.underlying 32 with|some (.struct a)=>a.toList|_=>[])=some [(0,1),(1,1)]:=by kernel_rfl
theorem cE:flat (.agg #[iv 0,Z0])=true:=rfl
theorem Ok{n:Int}{a:Option Addr}{m c:Nat}:CL prog 32 [(0,iv n),(1,.slice a m c)]=some (.agg #[iv n,.slice a m c]):=by have h:=Gw;rw[gj]at h;simp only at h;simp only[CL,fT,cE,ai,gj,h];rfl
section
variable {h:AA} {id off:Nat}
theorem G7:EP prog h 32 (qP id off)=AX 2 off (h.c id):=NF Xe HQ
theorem IW:BC prog 32 (qP id off) 0=some (qP id off):=by simp[BC,gj,B_,CB]
theorem JK:BC prog 32 (qP id off) 1=some (qP id (off+1)):=by simp[BC,gj,FW,CB]
end
def F6(lo:Nat)(h:AA)(v:Value)(size:Int)(C:List Int):Prop:=∃a,v=.agg #[iv size,a]/\AK lo h a C
theorem F6.a{lo:Nat}{h h':AA}{v:Value}{size:Int}{C:List Int}(a:F6 lo h v size C)(b:h.a<=h'.a)(c:∀i,lo<=i->i<h.a->h'.c i=h.c i):F6 lo h' v size C:=by obtain⟨d,e,f⟩:=a;exact⟨d,e,AK.U f b c⟩
structure TE (h:AA) (b:Nat) (v:Value) (size:Int) (C:List Int):Prop where
 v:v=.agg #[iv size,qS b C.length (C.length+5)]
 c:b<h.a
 l:∃ L,PE h b C L
theorem TE.a{h:AA}{b:Nat}{v:Value}{size:Int}{C:List Int}(c:TE h b v size C):F6 b h v size C:=by obtain⟨d,a,⟨L,e⟩⟩:=c;exact⟨_,d,e.d ⟨af _,a⟩⟩
theorem TE.b{h h':AA}{b:Nat}{v:Value}{size:Int}{C:List Int}(c:TE h b v size C)(g:h.a<=h'.a)(d:h'.c b=h.c b):TE h' b v size C:=by obtain⟨e,f,⟨L,a⟩⟩:=c;exact⟨e,by omega,L,by rw[d];exact a.g,a.b,a.c,a.a⟩
def uH:List (Bool×Bool×List Operand):=[DT,DT,AH [.tmp 3],AH [.tmp 3],AH [.tmp 3],AJ,AJ]
section
variable {n N:Nat} {h:AA}
theorem Wf{size:Int}{C:List Int}{s:Value}{lo:Nat}(x:F6 lo h s size C)(y:C.length<2932031007403)(z:h.b<=h.a)(A:20<n):∃j c,AW prog (AN n) N 55 [s] h=some (j,c)/\TE c (h.a+2) j size C/\c.a=h.a+3/\c.b=h.b/\∀i,i<h.a->c.c i=h.c i:=by
 obtain⟨d,rfl,p⟩:=x;have l:=(EC n).2;refine G_ (R:=fun j c=>TE c (h.a+2) j size C/\c.a=h.a+3/\c.b=h.b/\∀i,i<h.a->c.c i=h.c i) func55 rfl (by simp[f55]) ?_;have B:f55.results.toList=[.cell 2 32]:=rfl;have D:=C9 [iv size,d];have E:[iv size,d].all one=true:=by simp only[az,bd,AL.a p,JQ,ao]
 have G:=C9 [iv 0,Z0];obtain⟨t,H,m,Q,u⟩:=OP h (.row [iv size,d] 32 false false) (.row [iv 0,Z0] 32 false false);simp only[eE,seval,DJ,D,E,HQ,fT,cE,G];generalize(h.d (.row [iv size,d] 32 false false)).d (.row [iv 0,Z0] 32 false false)=a at*;have o:(h.a<a.a)=True:=by rw[m];simp
 have v:AI 0 (a.c h.a)=some (iv size):=by rw[t];rfl
 have I:AI 1 (a.c h.a)=some d:=by rw[t];rfl
 have J:AK lo (a.f (max a.b a.a)) d C:=AK.U p (by rw[BK];omega) fun i _ f=>u i f;obtain⟨b,g,⟨L,e⟩,K,M,k⟩:=nO (n:=n) J y (by rw[BK,BI];omega) A;rw[BK]at g e K k;rw[BI]at M;have S:AI 0 (b.c h.a)=some (iv size):=by rw[k _ (by omega)];exact v
 have q:(b.f a.b).c (h.a+1)=.row [iv 0,Z0] 32 false false:=by rw[CZ,k _ (by omega)];exact H
 have r:BD prog (b.f a.b) 32 (qP (h.a+1) 0) (.agg #[iv size,qS a.a C.length (C.length+5)])=_:=GQ HQ (vs:=[iv size,qS a.a C.length (C.length+5)]) q rfl rfl rfl (by rw[BI];omega);refine WK.a (fs:=uH) (by kernel_rfl) ?_;unfold uH;iterate 7 refine DG l ?_;simp only[rG,seval,AB,AD,AC,A7,BL,target,BY,IW,AM,v,o,JK,BH,I,g,Ok,r]
 refine DF ?_;have O:((b.f a.b).e (h.a+1) (.row [iv size,qS a.a C.length (C.length+5)] 32 false false)).c (h.a+1)=.row [iv size,qS a.a C.length (C.length+5)] 32 false false:=BE rfl (by rw[BK];omega);have P:AX 2 0 (((b.f a.b).e (h.a+1) (.row [iv size,qS a.a C.length (C.length+5)] 32 false false)).c (h.a+1))=some (.agg #[iv size,qS a.a C.length (C.length+5)]):=by rw[O];rfl
 have w:∀i,i≠h.a+1->((b.f a.b).e (h.a+1) (.row [iv size,qS a.a C.length (C.length+5)] 32 false false)).c i=b.c i:=fun i f=>by rw[AP (by rw[BK];omega) (bc f)];rfl
 have T:((b.f a.b).e (h.a+1) (.row [iv size,qS a.a C.length (C.length+5)] 32 false false)).a=b.a:=rfl;have U:((b.f a.b).e (h.a+1) (.row [iv size,qS a.a C.length (C.length+5)] 32 false false)).b=a.b:=rfl;simp only[eE,seval,B,G7,P];generalize(b.f a.b).e (h.a+1) (.row [iv size,qS a.a C.length (C.length+5)] 32 false false)=F at*;rw[m]at e;exact⟨⟨by rw[m],by omega,L,by rw[w _ (by omega)];exact e.g,e.b,e.c,e.a⟩,by omega,by omega,fun i f=>by rw[w i (by omega),k i (by omega)];exact u i f⟩
theorem Zu{size:Int}{C:List Int}{d:Value}{lo:Nat}(f:F6 lo h d size C)(g:C.length<2932031007403)(b:h.b<=h.a)(j:30<n):∃c a,AN n 55 [d] h=some (c,a)/\TE a (h.a+2) c size C/\a.a=h.a+3/\a.b=h.b/\∀i,i<h.a->a.c i=h.c i:=by obtain⟨n,rfl⟩:=BX j;refine GY BF (Wf (n:=n) (N:=n) f g b (by omega)) fun c l e _ k=>?_;rw[k.1.v]at e;cases e
end
end Go.Proofs.YtjailoenloejbaaGreatDoor




