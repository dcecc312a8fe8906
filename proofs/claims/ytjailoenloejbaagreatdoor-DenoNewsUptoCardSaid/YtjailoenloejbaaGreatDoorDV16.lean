/- Part 16. -/
import Derived.Test.YtjailoenloejbaaGreatDoorDV15
set_option linter.all false
namespace Go.Proofs.YtjailoenloejbaaGreatDoor
open Go Go.Sx Go.Proofs.Tryz
set_option maxHeartbeats 0
theorem dX{l:List AF}:∀k a b c,F_ l k a b->FQ l b c->F_ l (k+1) a c|0,a,b,c,h,d=>by have:a=b:=h;subst this;exact⟨c,d,d.b.1,d.b.2,rfl⟩|k+1,a,b,c,⟨p,e,f,g,i⟩,d=>⟨p,e,f,g,dX k p b c i d⟩
theorem b_{l:List AF}:∀k r a q,F_ l (k+r) a q->∃b,F_ l k a b/\F_ l r b q|0,r,a,q,h=>⟨a,rfl,by grind⟩|k+1,r,a,q,h=>by rw[show k+1+r=(k+r)+1 by omega]at h;obtain⟨p,c,d,e,f⟩:=h;obtain⟨b,g,i⟩:=b_ k r p q f;exact⟨b,⟨p,c,d,e,g⟩,i⟩
theorem VE{l:List AF}:∀k a b c,F_ l k a b->F_ l k a c->b=c|0,a,b,c,h,d=>(show a=b from h).symm.trans (show a=c from d)|k+1,a,b,c,⟨p,e,_,_,f⟩,⟨j,g,_,_,i⟩=>by have:=FQ.d l.length a (by omega) e g;subst this;exact VE k p b c f i
theorem lG{l:List AF}{a b c:Nat}:∀k j,k<j->F_ l k a b->F_ l j a c->b<c:=fun k j d h e=>by obtain⟨f,g,i⟩:=b_ k (j-k) a c (by rw[show k+(j-k)=j by omega];exact e);have:=VE k a b f h g;subst this;have:=HM _ _ _ i;omega
def KZ(l:List AF)(p k i:Nat):Prop:=∃x,l[p]?=some x/\k<x.b.toNat/\F_ l k (p+1) i
theorem KZ.b{l:List AF}{p k i:Nat}(h:KZ l p k i):p<i:=by obtain⟨x,_,_,a⟩:=h;have:=HM _ _ _ a;omega
theorem KZ.c{l:List AF}(e:DM l){p k i:Nat}(h:KZ l p k i):∃q,FQ l i q/\q<=AE l p/\i<l.length:=by
 obtain⟨x,c,o,f⟩:=h;have g:=e.U (ae.1 c).1;obtain⟨y,d,_,_,a⟩:=g.a;rw[c]at d;cases d;obtain⟨r,j⟩:∃r,x.b.toNat=k+(r+1):=⟨x.b.toNat-k-1,by omega⟩;rw[j]at a;obtain⟨b,m,q,s,t,u,n⟩:=b_ _ _ _ _ a;have:=VE _ _ _ _ f m;subst this;have:=HM _ _ _ n;grind
theorem wJ{l:List AF}:∀(r a q j:Nat),F_ l r a q->a<=j->j<q->∃k b c,k<r/\F_ l k a b/\FQ l b c/\b<=j/\j<c
 |0,a,q,j,h,e,f=>by have:a=q:=h;omega|r+1,a,q,j,⟨p,s,g,i,m⟩,e,f=>by
  rcases ar j p with d|d;.exact⟨0,a,p,by omega,rfl,s,e,d⟩
  .obtain⟨k,b,c,v,n,o,t,u⟩:=wJ r p q j m d f;exact⟨k+1,b,c,by omega,⟨p,s,g,i,n⟩,o,t,u⟩
theorem KZ.a{l:List AF}(q:DM l){p k i p' e:Nat}(h:KZ l p k i)(h':KZ l p' e i):p=p'/\k=e:=by
 have C:∀{p k i p' e:Nat},KZ l p k i->KZ l p' e i->¬p<p':=by
  intro p k i p' e h h' s;have Q:=h'.b;obtain⟨R,D,E,_⟩:=h'.c q;have F:=D.b;obtain⟨x,w,S,d⟩:=h;have G:=q.U (ae.1 w).1;obtain⟨y,z,_,_,f⟩:=G.a;rw[w]at z;cases z;have t:p'<l.length:=by omega
  have H:=(q.U t).b;obtain⟨r,I⟩:∃r,x.b.toNat=k+(r+1):=⟨x.b.toNat-k-1,by omega⟩;have g:=f;rw[I]at g;obtain⟨T,J,K⟩:=b_ _ _ _ _ g;have:=VE _ _ _ _ d J;subst this;have L:=HM _ _ _ K;obtain⟨j,b,c,U,u,A,M,N⟩:=wJ _ _ _ p' f s (by omega);obtain⟨V,O,W⟩:=FQ.c (c-b) (by omega) A p' M N;have P:=JN O
  -- i lies in (b, c), and is the start of the k-th kid
  rcases jk k j with a|a|a;.have:=lG k j a d u;omega
  .subst a;have:=VE _ _ _ _ d u;omega
  .have m:=dX j _ _ _ u A;rcases ar (j+1) k with B|B;.have:=lG (j+1) k B m d;omega
   .have:j+1=k:=by omega
    subst this;have:=VE _ _ _ _ m d;omega
 have v:p=p':=by grind
 subst v;refine⟨rfl,?_⟩;obtain⟨_,_,_,d⟩:=h;obtain⟨_,_,_,n⟩:=h';rcases jk k e with o|o|o;.have:=lG _ _ o d n;omega
 .exact o
 .have:=lG _ _ o n d;omega
theorem FQ.e{l:List AF}:∀(n:Nat){a q:Nat},q<=a+n->FQ l a q->∀i,a<i->i<q->∃p k,KZ l p k i/\a<=p
 |0,a,q,m,h,i,f,g=>by omega|n+1,a,q,m,h,i,f,g=>by
  obtain⟨x,o,_,_,d⟩:=h.a;obtain⟨k,b,c,s,e,j,t,u⟩:=wJ _ _ _ i d f g;rcases gY t with rfl|v;.exact⟨a,k,⟨x,o,s,e⟩,af _⟩
  .have A:=HM _ _ _ e;obtain⟨r,w⟩:∃r,x.b.toNat=(k+1)+r:=⟨x.b.toNat-(k+1),by omega⟩;rw[w]at d;obtain⟨B,y,z⟩:=b_ _ _ _ _ d;have:=VE _ _ _ _ (dX _ _ _ _ e j) y;subst this;have:=HM _ _ _ z;obtain⟨p,C,D,E⟩:=FQ.e n (by omega) j i v u;grind
theorem DM.g{l:List AF}(a:DM l){i:Nat}(h0:0<i)(h1:i<l.length):∃p k,KZ l p k i:=by obtain⟨p,k,h,_⟩:=FQ.e l.length (by omega) a i h0 h1;grind
structure Ns (l:List AF) (O:List Int):Prop where
 a:∀ x,l[0]?=some x->O[0]?=some (G0 x.a)
 b:∀ p k i x y o,KZ l p k i->l[p]?=some x->l[i]?=some y->O[p]?=some o->O[i]?=some (o+JT (EG x.a) (EG y.a) k+G0 y.a)
def RQ(O:List Int)(a b:Nat)(M:Int):Prop:=(∀i x,a<=i->i<b->O[i]?=some x->x<=M)/\∃i,a<=i/\i<b/\O[i]?=some M
theorem RQ.b{O:List Int}{a b c:Nat}{M d:Int}(h:RQ O a b M)(h':RQ O b c d)(e:a<=b)(f:b<=c):RQ O a c (if d>M then d else M):=by
 obtain⟨g,i,k,l,m⟩:=h;obtain⟨n,j,o,p,q⟩:=h';refine⟨fun t x r s u=>?_,?_⟩;.grind
 grind
theorem RQ.a{O:List Int}{a b:Nat}{M c:Int}(h:RQ O a b M)(h':RQ O a b c):M=c:=by obtain⟨d,i,e,f,g⟩:=h;obtain⟨k,j,l,m,n⟩:=h';grind
theorem uk{l:List AF}{O:List Int}(u:Ns l O):∀(m at_ q:Nat)(x:AF)(o:Int),FQ l at_ q->l.length<at_+m->l[at_]?=some x->O[at_]?=some o->RQ O at_ q (o-G0 x.a+(FL l m at_).1)/\(FL l m at_).2=q:=by
 intro m;induction m with
 |zero=>grind|succ m w=>
  intro at_ q x o A I e B;obtain⟨y,p,_,_,C⟩:=A.a;rw[e]at p;cases p;have f:∀r k b a,k+r=x.b.toNat->F_ l k (at_+1) a->F_ l r a q->RQ O at_ a (o+b)->RQ O at_ q (o+(MN (FL l m) l x.a r k b a).1)/\(MN (FL l m) l x.a r k b a).2=q:=by
   intro r;induction r with
   |zero=>intro k b a D c s d;have:a=q:=s;subst this;exact⟨d,rfl⟩|succ r g=>
    intro k b a D c⟨t,h,J,K,E⟩d;have F:=HM _ _ _ c;obtain⟨z,j,_,_,_⟩:=h.a;have n:=u.b at_ k a x z o ⟨x,e,by omega,c⟩ e j B;obtain⟨G,H⟩:=w a t z _ h (by omega) j n;unfold MN;rw[j];simp only;rw[H];refine g (k+1) _ t (by omega) (dX _ _ _ _ c h) E ?_;have L:=d.b G (by omega) (by omega);grind
  have M:=f x.b.toNat 0 0 (at_+1) (by omega) rfl C ⟨fun i v c s d=>by grind,at_,af _,by omega,by grind⟩;unfold FL;grind
set_option maxRecDepth 100000
def bV:List FuncId:=[65,66,67,64,90,92,94,999999,999999,999999,999999,999999,999999,57,119,59,51,58,19,22,79,16,76,294,280,284,176,316,319,82,147,149,156,146,20,17,148,150,151,152,153,154,155,218,157,77,217,143,216,215,213]
open Classical in
noncomputable def S4(call:AY):AY:=fun f a h=>match call f a h with|some (v,b)=>if bV.contains f=false∧E5 v=true∧∀i,i<h.a→b.c i=h.c i then some (v,h)else some (v,b)|none=>none
theorem Pt{call:AY}{f:FuncId}{args:List Value}{h h':AA}{v:Value}(a:S4 call f args h=some (v,h')):TU call f args h=some (v,h')\/call f args h=some (v,h'):=by
 unfold S4 at a;split at a
 .rename_i d e c;split at a
  .rename_i b;cases a;exact .inl (vX c b.2.1 b.2.2)
  grind
 grind
theorem ul{P:Program}{call:AY}(c:EN P call/\C_ call):EN P (S4 call)/\C_ (S4 call):=by
 have e:=pJ c.1;refine⟨fun f b h v g d=>?_,fun f b h v g d=>?_⟩
 .rcases Pt d with a|a;.exact e.1 _ _ _ _ _ a
  .exact c.1 _ _ _ _ _ a
 .rcases Pt d with a|a;.exact e.2 _ _ _ _ _ a
  .exact c.2 _ _ _ _ _ a
section
variable {call:AY} {n:Nat} {h:AA}
theorem um{P K:Int}{k:Nat}{a b:Int}(w:a<=7)(r:0<=b/\b<=7)(s:0<=a)(c:call 256 [iv P] h=some (iv a,h))(d:call 256 [iv K] h=some (iv b,h)):AW prog call n 224 [iv P,iv k,iv K] h=some (.bool (R_ a b k),h):=by
 refine DO func224 rfl (by simp) ?_;have f:f224.results.toList=[.tmp 6]:=rfl;unfold R_;by_cases t:a=0
 .subst t;have e:(if b=0 then false else if 1<=(0:Int)/\(0:Int)<=5 then(decide (b<0)||(b==0&&((k:Int)==1||(0:Int)==3)))else if(0:Int)=6 then decide (b<6)else false)=false:=by simp
  rw[e];simp only[eE,seval,↓eP,f,c,d]
 have i:(a==0)=false:=by grind
 by_cases p:b=0
 .subst p;simp only[eE,seval,↓eP,f,c,d,i]
 have g:(b==0)=false:=by grind
 rw[ad p];by_cases u:a=7
 .subst u;rw[ad (by omega),ad (by omega)];simp only[eE,seval,↓eP,f,c,d,g,show((7:Int)==0)=false from rfl]
 have j:(a==7)=false:=by grind
 by_cases v:a=6
 .subst v;rw[ad (by omega),ag rfl];simp only[eE,seval,↓eP,f,c,d,g,show((6:Int)==0)=false from rfl,show((6:Int)==7)=false from rfl]
 have l:(a==6)=false:=by grind
 rw[ag (by omega)];cases m:decide (b<a)with|true=>simp only[eE,seval,↓eP,f,c,d,i,g,j,l,m,fa]|false=>cases o:(b==a)with|false=>simp only[eE,seval,↓eP,f,c,d,i,g,j,l,m,o,eg,bz]|true=>cases q:((k:Int)==1)with|true=>simp only[eE,seval,↓eP,rP,f,c,d,i,g,j,l,m,o,q,eg,fa]|false=>simp only[eE,seval,↓eP,rP,f,c,d,i,g,j,l,m,o,q,eg]
theorem qN(k:Int):0<=EG k/\EG k<=7:=by unfold EG;omega
theorem Ri(k:Int)(h:AA)(a:1<=k/\k<=54):L0 256 [iv k] h=some (iv (EG k),h):=HJ rfl rfl rfl rfl (LV oz a)
theorem uo(P Q:Int)(k:Nat)(h:AA)(a:1<=P/\P<=54)(b:1<=Q/\Q<=54):L1 224 [iv P,iv k,iv Q] h=some (.bool (R_ (EG P) (EG Q) k),h):=HJ (JP rfl rfl) rfl rfl rfl ⟨_,um (qN P).2 (qN Q) (qN P).1 (IL (Ri P _ a)) (IL (Ri Q _ b))⟩
noncomputable def L3:AY:=SW [220] L2 12
theorem Km:EN prog L3/\C_ L3:=Al Kr
end
noncomputable def AN:Nat->AY|0=>L3|n+1=>JE L3 (S4 (AW prog (AN n) n))
theorem EC:∀n,EN prog (AN n)/\C_ (AN n)|0=>Km|n+1=>UJ Km (ul (WC NA (EC n).1 (EC n).2 n))
section
variable {n:Nat} {f:FuncId} {args:List Value} {h h1:AA} {v:Value} {r:Value × AA}
theorem Sv(a:L3 f args h=some r):AN n f args h=some r:=by cases n with|zero=>exact a|succ n=>exact eI a
theorem rA(a:L2 f args h=some r):AN n f args h=some r:=Sv (JO a)
theorem IX(a:L1 f args h=some r):AN n f args h=some r:=rA (PH a)
theorem BF(a:([185,289,246,124,126,127,89,91,93,256,253,252,221,222,255,219,188,242,244,296,297,184]:List Nat).contains f=false/\([245,224,251,125,162,129,96]:List Nat).contains f=false/\([186,254,220]:List Nat).contains f=false:=by exact⟨rfl,rfl,rfl⟩):L3 f args h=none:=by
 have b:=a.2.2;simp only[dx,dO,dC,Bool.or_eq_false_iff]at b;refine JP (TY (JP (JP rfl a.1) a.2.1) ?_) ?_;.grind
 grind
theorem HF(b:L3 f args h=none)(c:E5 v=true)(a:∃h1,AW prog (AN n) n f args h=some (v,h1)/\∀i,i<h.a->h1.c i=h.c i)(d:bV.contains f=false:=by rfl):AN (n+1) f args h=some (v,h):=by obtain⟨h1,e,g⟩:=a;unfold AN JE S4;simp_all
theorem FA(a:L3 f args h=none)(b:E5 v=true)(c:AW prog (AN n) n f args h=some (v,h))(d:bV.contains f=false:=by rfl):AN (n+1) f args h=some (v,h):=HF a b ⟨h,c,fun _ _=>rfl⟩ d
theorem PW{R:AA->Prop}(c:L3 f args h=none)(d:E5 v=false)(a:∃h1,AW prog (AN n) n f args h=some (v,h1)/\R h1):∃h1,AN (n+1) f args h=some (v,h1)/\R h1:=by obtain⟨h1,e,b⟩:=a;refine⟨h1,?_,b⟩;unfold AN JE S4;grind
theorem GY{R:Value->AA->Prop}(e:L3 f args h=none)(c:∃v h1,AW prog (AN n) n f args h=some (v,h1)/\R v h1)(d:∀v h1,E5 v=true->(∀i,i<h.a->h1.c i=h.c i)->R v h1->R v h):∃v h1,AN (n+1) f args h=some (v,h1)/\R v h1:=by
 obtain⟨v,h1,g,a⟩:=c;by_cases b:bV.contains f=false/\E5 v=true/\∀i,i<h.a->h1.c i=h.c i
 .refine⟨v,h,?_,d v h1 b.2.1 b.2.2 a⟩;unfold AN JE S4;simp_all
 .refine⟨v,h1,?_,a⟩;unfold AN JE S4;grind
theorem RL{R:AA->Prop}(c:L3 f args h=none)(a:∃h1,AW prog (AN n) n f args h=some (v,h1)/\R h1)(d:bV.contains f=true:=by rfl):∃h1,AN (n+1) f args h=some (v,h1)/\R h1:=by obtain⟨h1,e,b⟩:=a;refine⟨h1,?_,b⟩;unfold AN JE S4;grind
end
theorem uq{l:List AF}{v:Value}(d:l.length<30000000000000):∀m n(at_:Nat)(a:Int)h,at_<=l.length->l.length<at_+m->a≠8->A8 h v l->h.c 0=EM->0<h.a->h.b<=h.a->l.length+4+m<n->AN n 122 [v,iv at_,iv a] h=some (.tuple #[iv ((C6 BG l m at_ a).1:Int),.bool (C6 BG l m at_ a).2],h):=by
 intro m;induction m with
 |zero=>omega|succ m r=>
  intro n at_ a h f u g i e b c x;obtain⟨n,rfl⟩:∃k,n=k+1:=⟨n-1,by omega⟩;refine HF BF (UT rfl rfl) ?_;exact Qn (EC n).2 ⟨fun k j h o t=>IX (Nv k j h o t),fun p w h y q g i e b c=>r n p w h q (by omega) g i e b c (by omega)⟩
   (by omega) d f g (fun w k h=>IX (ZD w k h)) (fun k h o=>IX (mW k h o)) (fun s z e=>rA (jH e s)) i e b c
theorem ur{l:List AF}{v:Value}(a:l.length<30000000000000){n m:Nat}(B:l.length<1+m)(C:l.length+7+m<n){h:AA}(t:A8 h v l)(e:h.c 0=EM)(f:0<h.a)(g:h.b<=h.a):AN n 122 [v,iv 0,iv 8] h=some (.tuple #[iv ((JD BG l m).1:Int),.bool (JD BG l m).2],h):=by
 obtain⟨n,rfl⟩:∃k,n=k+2:=⟨n-2,by omega⟩;refine HF BF (UT rfl rfl) ?_;refine Im (EC (n+1)).2 ?_ (by omega) a (fun w k h=>IX (ZD w k h)) (fun k h u=>IX (mW k h u)) (fun s q e=>rA (jH e s)) t e f g;intro x q y r z b i c d;have j:0<=x.b:=by unfold EW at r;simp only[ah,am]at r;have:=XX x.a;omega
 refine FA BF (UT rfl rfl) ?_;refine Rt y j (by omega) a b (fun w k h=>IX (ZD w k h)) fun p w D o A=>?_;exact uq a m n p w q o (by omega) A b i c d (by omega)
theorem us{l:List AF}{v:Value}(a:l.length<30000000000000)(b:∀(i:Nat)x,l[i]?=some x->1<=x.a/\x.a<=54){h:AA}(d:A8 h v l):∀m n(at_:Nat),m<30000000000000->at_<l.length->l.length<at_+m->l.length+4+m<n->AN n 189 [v,iv at_] h=some (.tuple #[iv (FL l m at_).1,iv ((FL l m at_).2:Int)],h):=by intro m;induction m with|zero=>omega|succ m q=>intro n at_ e c r s;obtain⟨n,rfl⟩:∃k,n=k+1:=⟨n-1,by omega⟩;refine FA BF (UT rfl rfl) ?_;refine Mp (EC n).2 (by omega) a (by omega) c (by omega) d b (fun P Q k h f g=>IX (Sa P Q k h f g)) (fun k h j=>IX (Pw k h j)) fun p t o=>?_;grind
theorem ut{n:Nat}{l:List AF}{v:Value}(q:2*l.length+12<n)(i:l.length<2932031007403){h:AA}(j:A8 h v l)(o:h.c 0=EM)(c:0<h.a)(d:h.b<=h.a):AN n 61 [v] h=some (EE (CY l).1 (CY l).2,h):=by obtain⟨n,rfl⟩:∃k,n=k+2:=⟨n-2,by omega⟩;refine HF BF rfl ?_;refine Ip j o c d (fun p a e f b=>ur (by omega) (by omega) (by omega) a e f b) fun g p a=>?_;refine FA BF rfl ?_;exact Mv (m:=l.length+1) a (iN g) (us (by omega) (Dy g) a (l.length+1) n 0 (by omega) (iN g) (by omega) (by omega))
theorem uu{l:List AF}{v:Value}{h:AA}{n:Nat}(d:DM l)(e:A8 h v l)(a:l.length<30000000000000)(f:l.length+4<n)(c:h.b<=h.a):∃b,AN n 63 [v] h=some (qS h.a l.length l.length,b)/\(b.c h.a=.row (ints (AZ l)) 3 false false/\b.a=h.a+1/\b.b=h.b/\∀i,i<h.a->b.c i=h.c i):=by obtain⟨n,rfl⟩:∃k,n=k+1:=⟨n-1,by omega⟩;exact PW BF rfl (rk d e a (by omega) c)
theorem Ho{l:List AF}{v:Value}{h:AA}{n:Nat}(d:DM l)(e:A8 h v l)(a:l.length<30000000000000)(f:l.length+4<n)(c:h.b<=h.a):∃b,AN n 88 [v] h=some (qS h.a l.length l.length,b)/\(b.c h.a=.row (ints (AZ l)) 3 false false/\b.a=h.a+1/\b.b=h.b/\∀i,i<h.a->b.c i=h.c i):=by obtain⟨n,rfl⟩:∃k,n=k+1:=⟨n-1,by omega⟩;exact PW BF rfl (rm d e a (by omega) c)
theorem sz93:BN prog 170=some 15:=by kernel_rfl
theorem Vr:BN prog 168=some 5:=by kernel_rfl
theorem Gh:BN prog 167=some 1:=by kernel_rfl
theorem Aj:BN prog 233=some 4:=by kernel_rfl
theorem uw:HC prog 167=some false:=by kernel_rfl
theorem ux:HL prog 233=some 40:=by kernel_rfl
theorem yI:DK prog 233=some (.agg #[.string ByteArray.empty,iv 0,iv 0,iv 0]):=by kernel_rfl
theorem uy:HN prog (match prog.underlying 233 with|some (.struct a)=>a.toList|_=>[])=some [(0,1),(1,1),(2,1),(3,1)]:=by kernel_rfl
abbrev Jb(nm:ByteArray)(a b c:Int):Value:=.agg #[.string nm,iv a,iv b,iv c]
theorem uz{nm:ByteArray}{a b c:Int}:CL prog 233 [(0,.string nm),(1,iv a),(2,iv b),(3,iv c)]=some (Jb nm a b c):=by have h:=uy;rw[ii]at h;simp only at h;have d:flat (.agg #[.string ByteArray.empty,iv 0,iv 0,iv 0])=true:=rfl;simp only[CL,yI,d,ai,ii,h];rfl
section
variable {h:AA} {id off:Nat}
theorem bs90{nm:ByteArray}{a b c:Int}:FP prog h 167 1 [(0,Jb nm a b c)]=some (qS h.a 1 1,h.d (.row [.string nm,iv a,iv b,iv c] 233 false false)):=by simp[FP,underlying167,Aj,yI,flat,B7,GW,I6,CF,Go.Sx.lay]
theorem VY:EP prog h 167 (qP id off)=AI off (h.c id):=JL uw
theorem K0:BC prog 170 (qP id off) 0=some (qP id off):=by simp[BC,ij,EQ,CB]
theorem qW:BC prog 170 (qP id off) 1=some (qP id (off+8)):=by simp[BC,ij,FW,CB]
theorem VJ:BC prog 170 (qP id off) 2=some (qP id (off+9)):=by simp[BC,ij,Gh,CB]
theorem Mb:BC prog 170 (qP id off) 3=some (qP id (off+10)):=by simp[BC,ij,Vr,CB]
theorem Qs:BC prog 233 (qP id off) 0=some (qP id off):=by simp[BC,ii,KN,CB]
theorem Pm:BC prog 233 (qP id off) 1=some (qP id (off+1)):=by simp[BC,ii,B_,CB]
theorem uE:BC prog 233 (qP id off) 2=some (qP id (off+2)):=by simp[BC,ii,B_,CB]
theorem tN:BC prog 233 (qP id off) 3=some (qP id (off+3)):=by simp[BC,ii,B_,CB]
theorem Ux{i:Nat}(hi:i<5:=by omega):BW prog 168 (qP id off) (iv (i:Int))=some (qP id (off+i)):=by simp only[BW,underlying168,B_,CB];grind
theorem bL{n c i:Nat}(hi:i<n):BW prog 167 (qS id n c) (iv (i:Int))=some (.pointer (some ⟨id,i*4,none⟩)):=by simp only[BW,underlying167,Aj,CB];grind
theorem kK{a:Option Addr}{n c:Nat}:CU prog h 167 (.slice a n c)=some (iv (n:Int)):=by simp[CU,underlying167]
end
def WE(t:JS):List Value:=[.string t.d,iv t.a,iv t.c,iv t.b]
def RE(l:List JS):List Value:=l.flatMap WE
theorem Ek:∀l,(RE l).length=l.length*4|[]=>rfl|t::l=>by have:=Ek l;simp only[RE,WE,dh,ch,bx,du]at*;omega
theorem Rq:∀l,(RE l).all one=true|[]=>rfl|t::l=>by have:=Rq l;assumption
theorem aX:∀{l:List JS}{k:Nat}{t:JS}(ex:List Value),l[k]?=some t->∀j,j<4->(RE l++ex)[k*4+j]?=(WE t)[j]?
 |[],k,t,ex,h,j,b=>by simp at h|a::l,0,t,ex,h,j,b=>by
  simp only[dl,aj]at h;subst h;rw[RE,dh,gh,ff,ab,dt (by assumption)]|a::l,k+1,t,ex,h,j,b=>by
  have c:=aX (l:=l) (k:=k) (t:=t) ex (by assumption) j b;rw[RE,dh,gh,cz (by simp only[WE,bx,du];omega),<-c];congr 1;simp only[WE,bx,du];omega
def HD(s:AS):Nat->Nat
 |2=>s.b.length|3=>s.f.length|4=>s.g.length|5=>s.d.length|6=>s.h.length|8=>s.e.length|_=>0
def HU(s:AS):Nat->List Value
 |2=>EH s.b|3=>DN s.f|4=>DN s.g|5=>ints s.d|6=>ints s.h|8=>RE s.e|_=>[]
def Q5:Nat->TypeId
 |2=>158|3=>9|4=>9|5=>3|6=>3|8=>233|_=>3
def F9(V:Nat->Value)(j:Nat)(v:Value):Nat->Value:=fun i=>if i=j then v else V i
def I4(nm:ByteArray)(r n:Nat)(V:Nat->Value)(a:Int)(e b:Nat)(C:List Int):List Value:=[.string nm,qS r n AT,V 2,V 3,V 4,V 5,V 6,iv a,qS e b b,V 8]++ints C
structure D3 (h:AA) (lo m e r n:Nat) (nm:ByteArray) (E:List Int) (tag:Nat->Nat) (V:Nat->Value) (C:List Int) (s:AS):Prop where
 a:h.c m=.row (I4 nm r n V s.c e E.length C) 170 false false
 b:h.c r=.row (s.a.flatMap AQ) 125 true false
 g:s.a.length=n
 p:∀ j,2<=j->j<=8->GV h lo tag j (V j) (HD s j) (HU s j) (Q5 j)
 c:h.c e=.row (ints E) 3 false false
 i:tag m=0
 o:tag r=1
 q:tag e=10
 d:lo<=m/\m<h.a
 f:lo<=r/\r<h.a
 l:lo<=e/\e<h.a
 k:h.b<=lo
section
variable {h h':AA} {lo m e r n:Nat} {nm:ByteArray} {E:List Int} {tag tag':Nat->Nat} {V:Nat->Value} {C:List Int} {s s':AS}
theorem D3.y(a:D3 h lo m e r n nm E tag V C s)(c:h.a<=h'.a)(d:h'.b=h.b)(b:∀i,lo<=i->i<h.a->h'.c i=h.c i):D3 h' lo m e r n nm E tag V C s where
 a:=by rw[b m a.d.1 a.d.2];exact a.a
 b:=by rw[b r a.f.1 a.f.2];exact a.b
 g:=a.g
 p:=fun j f g=>(a.p j f g).a c (fun _ _=>rfl) fun i k l _=>b i k l
 c:=by rw[b e a.l.1 a.l.2];exact a.c
 i:=a.i
 o:=a.o
 q:=a.q
 d:=⟨a.d.1,by have:=a.d.2;omega⟩
 f:=⟨a.f.1,by have:=a.f.2;omega⟩
 l:=⟨a.l.1,by have:=a.l.2;omega⟩
 k:=by rw[d];exact a.k
theorem D3.A(a:D3 h lo m e r n nm E tag V C s)(b:∀i,i<h.a->tag' i=tag i):D3 h lo m e r n nm E tag' V C s:=⟨a.a,a.b,a.g,fun j c d=>(a.p j c d).a (af _) b fun _ _ _ _=>rfl,a.c,(b m a.d.2).trans a.i,(b r a.f.2).trans a.o,(b e a.l.2).trans a.q,a.d,a.f,a.l,a.k⟩
theorem D3.t(a:D3 h lo m e r n nm E tag V C s){o o':BO}:D3 ((h.d o').e h.a o) lo m e r n nm E tag V C s:=a.y (by show h.a<=h.a+1;omega) rfl fun i _ b=>by rw[AP (by show h.a<h.a+1;omega) (by omega),AV b]
theorem D3.v(a:D3 h lo m e r n nm E tag V C s){C':List Int}{miss':Int}:D3 (h.e m (.row (I4 nm r n V miss' e E.length C') 170 false false)) lo m e r n nm E tag V C' {s with c:=miss'}where
 a:=BE rfl a.d.2
 b:=by rw[AP a.d.2 (IS (tag:=tag) (by rw[a.i,a.o];decide))];exact a.b
 g:=a.g
 p:=fun j b c=>(a.p j b c).a (af _) (fun _ _=>rfl) fun i _ _ d=>AP a.d.2 (IS (tag:=tag) (by rw[a.i];omega))
 c:=by rw[AP a.d.2 (IS (tag:=tag) (by rw[a.i,a.q];decide))];exact a.c
 i:=a.i
 o:=a.o
 q:=a.q
 d:=a.d
 f:=a.f
 l:=a.l
 k:=a.k
theorem D3.w(a:D3 h lo m e r n nm E tag V C s){l:List AF}(b:l.length=s.a.length):D3 (h.e r (.row (l.flatMap AQ) 125 true false)) lo m e r n nm E tag V C {s with a:=l}where
 a:=by rw[AP a.f.2 (IS (tag:=tag) (by rw[a.i,a.o];decide))];exact a.a
 b:=BE rfl a.f.2
 g:=b.trans a.g
 p:=fun j c d=>(a.p j c d).a (af _) (fun _ _=>rfl) fun i _ _ f=>AP a.f.2 (IS (tag:=tag) (by rw[a.o];omega))
 c:=by rw[AP a.f.2 (IS (tag:=tag) (by rw[a.o,a.q];decide))];exact a.c
 i:=a.i
 o:=a.o
 q:=a.q
 d:=a.d
 f:=a.f
 l:=a.l
 k:=a.k
theorem D3.x(b:D3 h lo m e r n nm E tag V C s){at_:Nat}{x:AF}(d:s.a[at_]?=some x):at_<n/\AI (at_*5) (h.c r)=some (iv x.a)/\AI (at_*5+1) (h.c r)=some (.string x.c)/\AI (at_*5+3) (h.c r)=some (iv x.n)/\AX 5 (at_*5) (h.c r)=some (.agg #[iv x.a,.string x.c,iv x.d,iv x.n,iv x.b]):=by
 have f:at_<n:=by rw[<-b.g];grind
 have a:=Ac (c:=AT) b.b b.f.2;rw[b.g]at a;obtain⟨j,q,g,i,k,l,o,p,t,u⟩:=a.b d;rw[NE f]at g;grind
theorem D3.j(a:D3 h lo m e r n nm E tag V C s){j:Nat}(N:2<=j)(O:j<=8){t:TypeId}{w bb:Nat}{z:Value}(P:prog.underlying t=some (.slice (Q5 j)))(x:BN prog (Q5 j)=some w)(y:HL prog (Q5 j)=some bb)(A:DK prog (Q5 j)=some z)(Q:z.cells.size=w)(R:0<w)(B:bb<=48){xs:List Value}(D:(HU s j).length=HD s j*w)(F:(HU s j).all one=true)(S:xs.length=w)(G:xs.all one=true)(T:HD s j<10000000):∃f b,DR prog (h.d (.row xs (Q5 j) false false)) t (V j) (qS h.a 1 1)=some (f,b)/\one f=true/\f.cells=#[f]/\b.c m=h.c m/\b.b=h.b/\b.a=h.a+2/\(∀i,i<h.a->i<lo\/tag i=11->b.c i=h.c i)/\∀s',s'.a=s.a->s'.c=s.c->HD s' j=HD s j+1->HU s' j=HU s j++xs->(∀i,i≠j->HD s' i=HD s i/\HU s' i=HU s i)->D3 (b.e m (.row (I4 nm r n (F9 V j f) s.c e E.length C) 170 false false)) lo m e r n nm E (fun i=>if i=h.a+1 then j else tag i) (F9 V j f) C s':=by
 have H:GV (h.d (.row xs (Q5 j) false false)) lo (fun i=>if i=h.a then 11 else tag i) j (V j) (HD s j) (HU s j) (Q5 j):=(a.p j N O).a (by show h.a<=h.a+1;omega) (fun i g=>ad (by omega)) fun i _ g _=>AV g;have q:=a.d;obtain⟨f,b,U,v,L,W,X,Y,Z⟩:=UW (et:=Q5 j) (w:=w) (c:=1) (sc:=1) (xs:=xs) P x y A Q R B H D F (by omega) G (by decide) (by decide) (by omega) (src:=h.a) BJ (by show h.a<h.a+1;omega) a.k (by grind);have I:b.a=h.a+2:=W;have d:∀i,i<h.a->¬(lo<=i/\tag i=j)->b.c i=h.c i:=fun i g h0=>by rw[Z i (by omega) (by grind),AV g]
 have l:m<b.a:=by omega
 have J:=d m q.2 (by rw[a.i];omega);have K:GV b lo (fun i=>if i=h.a+1 then j else tag i) j f (HD s j+1) (HU s j++xs) (Q5 j):=by
  rcases v with v|v
  .refine v.c fun i g=>?_;grind
  omega
 refine⟨f,b,U,X,Y,J,L,I,fun i g h3=>d i g (by omega),fun s' M q2 q3 q4 q5=>?_⟩;have o:∀i,i≠m->(b.e m (.row (I4 nm r n (F9 V j f) s.c e E.length C) 170 false false)).c i=b.c i:=fun i g=>AP l (bc g);have u:∀i,tag i≠0->i≠m:=fun i g hh=>g (by rw[hh];exact a.i);exact
  { a:=by rw[q2];exact BE rfl l
    b:=by rw[o r (u r (by rw[a.o];decide)),d r a.f.2 (by rw[a.o];omega),M];exact a.b
    g:=by rw[M];exact a.g
    p:=fun i i2 i8=>by
     by_cases p:i=j
     .subst p;rw[q3,q4,show F9 V i f i=f from ag rfl];refine K.a (af _) (fun _ _=>rfl) fun k k1 k2 k3=>o k ?_;grind
     .obtain⟨q6,q7⟩:=q5 i p;rw[q6,q7,show F9 V j f i=V i from ad p];refine(a.p i i2 i8).a (by show h.a<=b.a;omega) (fun k hk=>ad (by omega)) fun k k1 k2 k3=>?_;grind
    c:=by rw[o e (u e (by rw[a.q];decide)),d e a.l.2 (by rw[a.q];omega)];exact a.c
    i:=(ad (by omega)).trans a.i
    o:=(ad (by have:=a.f;omega)).trans a.o
    q:=(ad (by have:=a.l;omega)).trans a.q
    d:=⟨q.1,l⟩
    f:=⟨a.f.1,by have:=a.f.2;show r<b.a;omega⟩
    l:=⟨a.l.1,by have:=a.l.2;show e<b.a;omega⟩
    k:=by show b.b<=lo;have:b.b=h.b:=L;have:=a.k;omega}
theorem D3.z(a:D3 h lo m e r n nm E tag V C s){j:Nat}(x:2<=j)(y:j<=8){id:Nat}{ex:List Value}(g:V j=qS id (HD s j) AT)(l:tag id=j)(b:lo<=id/\id<h.a)(f:s'.a=s.a)(o:s'.c=s.c)(p:HD s' j=HD s j)(q:∀i,i≠j->HD s' i=HD s i/\HU s' i=HU s i):D3 (h.e id (.row (HU s' j++ex) (Q5 j) true false)) lo m e r n nm E tag V C s' where
 a:=by rw[AP b.2 (fun c=>by subst c;have:=a.i;omega),o];exact a.a
 b:=by rw[AP b.2 (fun c=>by subst c;have:=a.o;omega),f];exact a.b
 g:=by rw[f];exact a.g
 p:=fun i t u=>by
  by_cases d:i=j
  .subst d;rw[p];exact .inr ⟨id,ex,g,BE rfl b.2,b.1,b.2,l⟩
  .obtain⟨v,w⟩:=q i d;rw[v,w];exact(a.p i t u).a (af _) (fun _ _=>rfl) fun k _ _ z=>AP b.2 (fun c=>by grind)
 c:=by rw[AP b.2 (fun c=>by subst c;have:=a.q;omega)];exact a.c
 i:=a.i
 o:=a.o
 q:=a.q
 d:=a.d
 f:=a.f
 l:=a.l
 k:=a.k
theorem D3.B(a:D3 h lo m e r n nm E tag V C s):AI 1 (h.c m)=some (qS r n AT):=by rw[a.a];rfl
theorem D3.K(a:D3 h lo m e r n nm E tag V C s):AI 2 (h.c m)=some (V 2):=by rw[a.a];rfl
theorem D3.O(a:D3 h lo m e r n nm E tag V C s):AI 3 (h.c m)=some (V 3):=by rw[a.a];rfl
theorem D3.L(a:D3 h lo m e r n nm E tag V C s):AI 4 (h.c m)=some (V 4):=by rw[a.a];rfl
theorem D3.P(a:D3 h lo m e r n nm E tag V C s):AI 5 (h.c m)=some (V 5):=by rw[a.a];rfl
theorem D3.H(a:D3 h lo m e r n nm E tag V C s):AI 6 (h.c m)=some (V 6):=by rw[a.a];rfl
theorem D3.N(a:D3 h lo m e r n nm E tag V C s):AI 7 (h.c m)=some (iv s.c):=by rw[a.a];rfl
theorem D3.I(a:D3 h lo m e r n nm E tag V C s):AI 8 (h.c m)=some (qS e E.length E.length):=by rw[a.a];rfl
theorem D3.F(a:D3 h lo m e r n nm E tag V C s):AI 9 (h.c m)=some (V 8):=by rw[a.a];rfl
theorem D3.M(b:D3 h lo m e r n nm E tag V C s){i:Nat}{x:Int}(hi:C[i]?=some x):AI (10+i) (h.c m)=some (iv x):=by
 rw[b.a];have:∀(a:List Value),a.length=10->(a++ints C)[10+i]?=some (iv x):=fun a c=>by
  rw[cz (by omega),c,show 10+i-10=i by omega,cZ,hi];rfl
 exact this _ rfl
theorem D3.u(a:D3 h lo m e r n nm E tag V C s){h1:AA}(c:h1.c m=h.c m)(l:h1.b=h.b){t:TypeId}(d:BN prog t=some 1){j p:Nat}(f:(j=p/\2<=p/\p<=6)\/(j=8/\p=9)){v:Value}(g:v.cells=#[v])(i:one v=true):BD prog h1 t (qP m p) v=some (h1.e m (.row (I4 nm r n (F9 V j v) s.c e E.length C) 170 false false)):=by
 have o:(I4 nm r n V s.c e E.length C).length=10+C.length:=by simp[I4,ints];omega
 have k:=EO (off:=p) d g i (c.trans a.a) (by omega) (by have:=a.k;have:=a.d.1;omega);rw[k];have b:(I4 nm r n V s.c e E.length C).set p v=I4 nm r n (F9 V j v) s.c e E.length C:=by
  rcases f with⟨rfl,q,u⟩|⟨rfl,rfl⟩
  .have:j=2\/j=3\/j=4\/j=5\/j=6:=by omega
   rcases this with rfl|rfl|rfl|rfl|rfl<;>rfl
  .rfl
 rw[b]
theorem D3.G(b:D3 h lo m e r n nm E tag V C s){i:Nat}(hi:i<C.length){x:Int}:BD prog h 3 (qP m (10+i)) (iv x)=some (h.e m (.row (I4 nm r n V s.c e E.length (C.set i x)) 170 false false)):=by
 have g:(I4 nm r n V s.c e E.length C).length=10+C.length:=by simp[I4,ints];omega
 have d:=EO (off:=10+i) B_ (v:=iv x) rfl rfl b.a (by omega) (by have:=b.k;have:=b.d.1;omega);rw[d];have c:∀a:List Value,a.length=10->(a++ints C).set (10+i) (iv x)=a++ints (C.set i x):=fun a f=>by rw[List.set_append_right _ _ (by omega),f,show 10+i-10=i by omega,kU]
 rw[I4,c _ rfl];rfl
theorem D3.D(a:D3 h lo m e r n nm E tag V C s){x:Int}:BD prog h 3 (qP m 7) (iv x)=some (h.e m (.row (I4 nm r n V x e E.length C) 170 false false)):=EO (off:=7) B_ (v:=iv x) rfl rfl a.a (by simp[I4,ints]) (by have:=a.k;have:=a.d.1;omega)
end
def O5:List JS->ByteArray->Nat->Int|[],_,_=>-1|t::l,x,i=>if x==t.d then(i:Int)else O5 l x (i+1)
theorem Ow(a b:ByteArray):(a==b)=(b==a):=by cases h:(a==b)with|true=>have:=OA h;grind|false=>cases c:(b==a)with|true=>have:=OA c;grind|false=>rfl
theorem uK:∀(l:List JS)(x:ByteArray)(i:Nat),match I8 l x with|none=>O5 l x i=-1|some t=>∃k:Nat,O5 l x i=((i+k:Nat):Int)/\l[k]?=some t
 |[],x,i=>rfl|t::l,x,i=>by have a:=uK l x (i+1);simp only[I8,List.find?_cons,O5]at a⊢;cases c:(x==t.d)with|true=>grind|false=>simp only[aV,bi];revert a;cases l.find? (fun t=>x==t.d)with|none=>exact id|some u=>rintro⟨k,d,b⟩;exact⟨k+1,by omega,b⟩
section
variable {call:AY} {N:Nat} {h:AA} {lo m e r n:Nat} {nm:ByteArray} {E:List Int} {tag:Nat->Nat} {V:Nat->Value} {C:List Int} {s:AS}
theorem Vw{x:ByteArray}(H:D3 h lo m e r n nm E tag V C s)(T:s.e.length+3<N:=by omega)(g:s.e.length<1000000:=by omega):AW prog call N 161 [qP m 0,.string x] h=some (iv (O5 s.e x 0),h):=by
 refine DO func161 rfl (by simp) ?_;have M:f161.results.toList=[.tmp 4]:=rfl;have A:=H.F;have k:=H.p 8 (by decide) (by decide);have l:∀I,CU prog I 167 (V 8)=some (iv (s.e.length:Int)):=fun I=>by
  rcases k with⟨b,J,O⟩|⟨id,B,b,_⟩
  .rw[O];have:s.e.length=0:=b;rw[this];exact kK
  .rw[b];exact kK
 simp only[eE,↓reduceIte,Nat.reduceAdd,M];refine WK.b (fun i st=>st.h=h/\st.T.a 0=qP m 0/\st.T.a 1=.string x/\st.T.a 5=iv i/\i<=s.e.length/\O5 (s.e.drop i) x i=O5 s.e x 0) s.e.length (by omega) ?_ ?_
 .simp only[eE,↓reduceIte,Nat.reduceEqDiff,reduceCtorEq,rP];simp
 .rintro i⟨U,b⟩W⟨rfl,w,D,y,P,a⟩;simp only at w D y;by_cases o:i<s.e.length
  .have z:decide ((i:Int)<(s.e.length:Int))=true:=by grind
   have Q:=DU i;obtain⟨t,K⟩:∃t,s.e[i]?=some t:=⟨_,aa o⟩;have R:s.e.drop i=t::s.e.drop (i+1):=by
    obtain⟨b,J⟩:=ae.1 K;rw[cd b,J]
   rw[R,O5]at a;rcases k with⟨b,_⟩|⟨id,B,F,S,_,_,_⟩
   .have:s.e.length=0:=b;omega
   .have G:b.c id=.row (RE s.e++B) 233 true false:=S;have p:=bL (id:=id) (c:=AT) o;have d:V 8=qS id s.e.length AT:=F;have L:AI (i*4) (b.c id)=some (.string t.d):=by rw[G];exact aX (j:=0) B K (by decide)
    cases g:(x==t.d)with
    |true=>
     have f:(t.d==x)=true:=by rw[Ow];exact g
     rw[g,ag rfl]at a;simp only[eE,seval,↓eP,rP,w,D,y,VJ,VY,A,d,kK,z,p,Qs,L,f,<-a]|false=>
     have f:(t.d==x)=false:=by rw[Ow];exact g
     rw[g]at a;simp only[eE,seval,↓eP,rP,w,D,y,VJ,VY,A,d,kK,z,p,Qs,L,f,Q];grind
  .have z:decide ((i:Int)<(s.e.length:Int))=false:=by grind
   rw[eC (by omega)]at a;have q:O5 s.e x 0=-1:=a.symm;simp only[eE,seval,↓eP,w,y,VJ,VY,A,l,z,q]
def MW(s:AS):List Int:=[0,s.b.length,s.f.length,s.g.length,s.d.length]
theorem uG{s:AS}{k:Int}(h1:1<=k)(a:k<=4):(MW s)[k.toNat]?=some (CI s k:Int):=by
 obtain rfl|rfl|rfl|rfl:k=1\/k=2\/k=3\/k=4:=by omega
 all_goals rfl
def IP(h:AA)(lo m e r n:Nat)(nm:ByteArray)(E:List Int)(s:AS):Prop:=∃tag V,D3 h lo m e r n nm E tag V (MW s) s/\ON s
def IQ(h H:AA)(lo:Nat):Prop:=(∀i,i<lo->H.c i=h.c i)/\h.a<=H.a/\H.b=h.b
noncomputable def Q4:Code:=rt (rt (rt (f90.body.getD .skip)))
noncomputable def Q7:Code:=rt (rt Q4)
noncomputable def Q8:Code:=rt Q7
noncomputable def Q9:Code:=rt Q8
noncomputable def tD:Code:=rt Q9
theorem uJ{T:Tr}{H0:AA}{at_:Nat}{x:AF}{K:DH}{kd end_:Int}{b:Nat}(hp:D3 H0 lo m e r n nm E tag V (MW s) s)(hx:s.a[at_]?=some x)(h1:1<=kd)(h4:kd<=4)(hw:ON s)(h5:s.e.length<100000)(hE:E[at_]?=some end_)(u:∀h',call 162 [iv kd] h'=some (iv (JY kd),h'))(L:T.a 0=qP m 0)(t1:T.a 1=iv at_)(t2:T.a 2=iv kd)(t7:T.a 7=qP b 0)(h7:H0.c b=.row (AQ x) 125 false false)(g0:b<H0.a)(g1:tag b=11)(M:∀y,(CI s kd:Int)=JY kd->y.a 6=iv 3->K.a prog call N .ret ⟨y,H0⟩)(z:∀y H g V',(CI s kd:Int)≠JY kd->(∀t,t<=8->t≠6->t≠8->y.a t=T.a t)->D3 H lo m e r n nm E g V' ((MW s).set kd.toNat ((CI s kd:Int)+1)) {s with a:=JF s.a at_ (CI s kd),e:=s.e++[⟨x.c,kd,(CI s kd:Int),end_⟩]}->(∀i,i<H0.a->g i=tag i)->(∀i,i<H0.a->i<lo\/tag i=11->H.c i=H0.c i)->H0.a<=H.a->H.b=H0.b->WK prog call N tD ⟨y,H⟩ K):WK prog call N Q4 ⟨T,H0⟩ K:=by
 show WK _ _ _ (.seq _ (.seq _ (.seq _ (.seq (.region _ _ true) (.seq _ tD))))) _ _;have g2:=qZ hw kd;obtain⟨kn,O,h2,h3⟩:∃kn:Nat,kd=(kn:Int)/\1<=kn/\kn<=4:=⟨kd.toNat,by omega,by omega,by omega⟩;have A:=uG (s:=s) h1 h4;have P:kd.toNat=kn:=by omega
 rw[P]at A z;have cc:=hp.M A;have B:BW prog 168 (qP m 10) (iv kd)=some (qP m (10+kn)):=by rw[O];exact Ux
 have w1:IntKind.i64.wrap ((CI s kd:Int)+1)=(CI s kd:Int)+1:=BR;have D:0+10=10:=rfl;cases d1:((CI s kd:Int)==JY kd)with|true=>simp only[eE,seval,↓eP,rP,L,t2,Mb,D,B,cc,u,d1];exact M _ (by grind) (by simp only[Tr.b,ai])|false=>
  have sC:=hp.G (i:=kn) (by grind) (x:=(CI s kd:Int)+1);simp only[eE,seval,↓eP,DJ,L,t2,Mb,D,B,cc,u,d1,w1,sC];have o:∀i,i<H0.a->i<lo\/tag i=11->(H0.e m (.row (I4 nm r n V s.c e E.length ((MW s).set kn ((CI s kd:Int)+1))) 170 false false)).c i=H0.c i:=fun i _ q=>by have:=hp.d;exact AP hp.d.2 (fun F=>by subst F;have:=hp.i;omega)
  have d:=hp.v (C':=(MW s).set kn ((CI s kd:Int)+1)) (miss':=s.c);have g3:(H0.e m (.row (I4 nm r n V s.c e E.length ((MW s).set kn ((CI s kd:Int)+1))) 170 false false)).a=H0.a:=rfl;have g4:(H0.e m (.row (I4 nm r n V s.c e E.length ((MW s).set kn ((CI s kd:Int)+1))) 170 false false)).b=H0.b:=rfl;generalize H0.e m (.row (I4 nm r n V s.c e E.length ((MW s).set kn ((CI s kd:Int)+1))) 170 false false)=G at*;have gb:G.c b=.row (AQ x) 125 false false:=by grind
  have c8:=d.I;have c9:=d.F;have Q:=(ae.1 hE).1;have lE:AI at_ (G.c e)=some (iv end_):=by rw[d.c];exact KM hE
  have R:AI 1 (G.c b)=some (.string x.c):=by rw[gb];rfl
  obtain⟨I,k,a1,a2,a3,a4,a5,a6,a7,a8⟩:=d.j (j:=8) (by decide) (by decide) (t:=167) (w:=4) (bb:=40) underlying167 Aj ux yI rfl (by decide) (by decide) (xs:=[.string x.c,iv kd,iv (CI s kd:Int),iv end_]) (Ek _) (Rq _) rfl rfl (by show s.e.length<10000000;omega);have f:=a8 {s with e:=s.e++[⟨x.c,kd,(CI s kd:Int),end_⟩]} rfl rfl (by simp[HD]) (by simp[HU,RE,WE]) (fun i q=>by unfold HD HU;split<;>simp_all);have S:DR prog (G.d (.row [.string x.c,iv kd,iv (CI s kd:Int),iv end_] 233 false false)) 167 (V 8) (qS G.a 1 1)=some (I,k):=a1;have sV:=d.u a4 a5 Gh (j:=8) (p:=9) (.inr ⟨rfl,rfl⟩) a3 a2;refine WK.c (by kernel_rfl) ?_;simp only[eE,seval,DJ,L,t1,t2,t7,qW,VJ,VY,BH,c8,c9,R,FO Q,lE,uz,bs90,S,sV];have U:m<k.a:=by have:=hp.d;omega
  have W:∀i,i<H0.a->i<lo\/tag i=11->(k.e m (.row (I4 nm r n (F9 V 8 I) s.c e E.length ((MW s).set kn ((CI s kd:Int)+1))) 170 false false)).c i=H0.c i:=fun i h1 q=>by
   have:=hp.d;rw[AP U (fun F=>by subst F;have:=hp.i;omega),a7 i (by omega) q,o i h1 q]
  have g5:(k.e m (.row (I4 nm r n (F9 V 8 I) s.c e E.length ((MW s).set kn ((CI s kd:Int)+1))) 170 false false)).a=H0.a+2:=by show k.a=_;omega
  have X:(k.e m (.row (I4 nm r n (F9 V 8 I) s.c e E.length ((MW s).set kn ((CI s kd:Int)+1))) 170 false false)).b=H0.b:=by show k.b=_;omega
  have e0:({s with c:=s.c}:AS)=s:=rfl;generalize k.e m (.row (I4 nm r n (F9 V 8 I) s.c e E.length ((MW s).set kn ((CI s kd:Int)+1))) 170 false false)=H3 at*;have b1:=f.B;have Y:=(hp.x hx).1;have J:=EO (off:=at_*5+3) B_ (v:=iv (CI s kd:Int)) rfl rfl f.b (by rw[MT];grind) (by have:=f.k;have:=f.f.1;omega);have Z:=hx;rw[aW Z]at J;have h0:=f.w (l:=JF s.a at_ (CI s kd:Int)) TM;simp only[eE,seval,DJ,t1,K0,CK,CJ,b1,NE Y,J];refine z _ _ _ _ (by grind) (fun t h8 h6 h9=>?_) h0 (fun i q=>ad (by omega)) (fun i h1 q=>?_) (by show H0.a<=H3.a;omega) X
  .simp only[Tr.b,aj,reduceCtorEq,bi];(repeat rw[ad (by omega)])
  .have:=hp.f;rw[AP (by omega) (fun F=>by subst F;have:=hp.o;omega)];grind
theorem uP{s:AS}{at_:Nat}{x:AF}{kd:Int}(h1:1<=kd)(a:kd<=4):(MW s).set kd.toNat ((CI s kd:Int)+1)=MW (dP kd at_ x s):=by
 obtain rfl|rfl|rfl|rfl:kd=1\/kd=2\/kd=3\/kd=4:=by omega
 all_goals simp[MW,dP,CI]
theorem Zd{T:Tr}{H0:AA}{at_:Nat}{x:AF}{K:DH}{kd:Int}{b:Nat}(g:D3 H0 lo m e r n nm E tag V C s)(h1:1<=kd)(h4:kd<=4)(hn:at_<30000000000000)(hb:s.b.length<1000/\s.f.length<1000/\s.g.length<1000/\s.d.length<1000/\s.h.length<1000)(L:T.a 0=qP m 0)(t1:T.a 1=iv at_)(t2:T.a 2=iv kd)(O:T.a 7=qP b 0)(I:H0.c b=.row (AQ x) 125 false false)(Y:b<H0.a)(Z:tag b=11)(hk:∀J H l P,J.a 6=iv 0->D3 H lo m e r n nm E l P C (dP kd at_ x s)->(∀i,i<H0.a->i<lo->H.c i=H0.c i)->H0.a<=H.a->H.b=H0.b->K.a prog call N .ret ⟨J,H⟩):WK prog call N tD ⟨T,H0⟩ K:=by
 show WK _ _ _ (.seq (.seq _ (.block _ _)) (.seq _ _)) _ _;have u:AI 1 (H0.c b)=some (.string x.c):=by rw[I];rfl
 have Q:AI 0 (H0.c b)=some (iv x.a):=by rw[I];rfl
 have hm:=g.d;have w1:IntKind.i64.wrap ((at_:Int)+1)=(at_:Int)+1:=BR;have q1:((2:Int)==1)=false:=rfl;have q2:((3:Int)==1)=false:=rfl;have q3:((3:Int)==2)=false:=rfl;have q4:((4:Int)==1)=false:=rfl;have q5:((4:Int)==2)=false:=rfl;have q6:((4:Int)==3)=false:=rfl;have q:∀(J:Tr)(h1:AA)l P W,J.a 6=iv 0->D3 h1 lo m e r n nm E l P C W->W=dP kd at_ x s->(∀i,i<H0.a->i<lo->h1.c i=H0.c i)->H0.a<=h1.a->h1.b=H0.b->K.a prog call N .ret ⟨J,h1⟩:=by grind
 obtain rfl|rfl|rfl|rfl:kd=1\/kd=2\/kd=3\/kd=4:=by omega
 .have v:=g.K;obtain⟨k,d,y,z,A,B,o,M,D,F⟩:=g.j (j:=2) (by decide) (by decide) (t:=23) (w:=2) (bb:=24) ci PS dN SU rfl (by decide) (by decide) (xs:=[.string x.c,.bool (x.a==3)]) (RF _) (ZU _) rfl rfl (by show s.b.length<10000000;omega);have a:=F {s with b:=s.b++[(x.c,x.a==3)]} rfl rfl (by simp[HD]) (by simp[HU,EH]) (fun i f=>by unfold HD HU;split<;>simp_all);have c:DR prog (H0.d (.row [.string x.c,.bool (x.a==3)] 158 false false)) 23 (V 2) (qS H0.a 1 1)=some (k,d):=y;have G:=g.u B o ZN (j:=2) (p:=2) (.inl ⟨rfl,by decide,by decide⟩) A z;simp only[eE,seval,↓eP,t2];refine WK.c (by kernel_rfl) ?_;simp only[eE,seval,DJ,L,O,K0,DY,DZ,v,Q,u,Kv,xX,c,G];have o2:∀i,i<H0.a->i<lo->(d.e m (.row (I4 nm r n (F9 V 2 k) s.c e E.length C) 170 false false)).c i=H0.c i:=fun i f h1=>by rw[AP (by omega) (by omega),D i f (.inl h1)]
  have n2:(d.e m (.row (I4 nm r n (F9 V 2 k) s.c e E.length C) 170 false false)).a=H0.a+2:=M;have f2:(d.e m (.row (I4 nm r n (F9 V 2 k) s.c e E.length C) 170 false false)).b=H0.b:=o;generalize d.e m (.row (I4 nm r n (F9 V 2 k) s.c e E.length C) 170 false false)=X at*;have ck:=a.H;obtain⟨v2,R,b1,b2,b3,b4,b5,b6,b7,b8⟩:=a.j (j:=6) (by decide) (by decide) (t:=25) (w:=1) (bb:=8) au B_ IZ GD rfl (by decide) (by decide) (xs:=[iv (-1)]) ((IE _).trans (cy _).symm) (MJ _) rfl rfl (by show s.h.length<10000000;omega);have S:=b8 {s with b:=s.b++[(x.c,x.a==3)],h:=s.h++[-1]} rfl rfl (by simp[HD]) (by simp[HU,ints]) (fun i f=>by unfold HD HU;split<;>simp_all);have U:DR prog (X.d (.row [iv (-1)] 3 false false)) 25 (F9 V 2 k 6) (qS X.a 1 1)=some (v2,R):=b1;have sW:=a.u b4 b5 FW (j:=6) (p:=6) (.inl ⟨rfl,by decide,by decide⟩) b3 b2;simp only[eE,seval,K0,I_,BH,ck,KE,U,sW];refine q _ _ _ _ _ (by simp only[Tr.b,ai]) S rfl (fun i f h1=>?_) (by show H0.a<=R.a;omega) (by show R.b=_;omega);rw[AP (by omega) (by omega),b7 i (by omega) (.inl h1),o2 i f h1]
 .have v:=g.O;obtain⟨k,d,y,z,A,B,o,M,D,F⟩:=g.j (j:=3) (by decide) (by decide) (t:=24) (w:=1) (bb:=16) cN KN SE RJ rfl (by decide) (by decide) (xs:=[.string x.c]) ((Z8 _).trans (cy _).symm) (VN _) rfl rfl (by show s.f.length<10000000;omega);have a:=F {s with f:=s.f++[x.c]} rfl rfl (by simp[HD]) (by simp[HU,DN]) (fun i f=>by unfold HD HU;split<;>simp_all);have c:DR prog (H0.d (.row [.string x.c] 9 false false)) 24 (V 3) (qS H0.a 1 1)=some (k,d):=y;have G:=g.u B o SQ (j:=3) (p:=3) (.inl ⟨rfl,by decide,by decide⟩) A z;simp only[eE,seval,↓eP,t2,q1];refine WK.c (by kernel_rfl) ?_;simp only[eE,seval,DJ,L,O,K0,KS,I7,v,u,ZZ,c,G];refine q _ _ _ _ _ (by simp only[Tr.b,ai]) a rfl (fun i f h1=>?_) (by show H0.a<=d.a;omega) o;rw[AP (by omega) (by omega),D i f (.inl h1)]
 .have v:=g.L;obtain⟨k,d,y,z,A,B,o,M,D,F⟩:=g.j (j:=4) (by decide) (by decide) (t:=24) (w:=1) (bb:=16) cN KN SE RJ rfl (by decide) (by decide) (xs:=[.string x.c]) ((Z8 _).trans (cy _).symm) (VN _) rfl rfl (by show s.g.length<10000000;omega);have a:=F {s with g:=s.g++[x.c]} rfl rfl (by simp[HD]) (by simp[HU,DN]) (fun i f=>by unfold HD HU;split<;>simp_all);have c:DR prog (H0.d (.row [.string x.c] 9 false false)) 24 (V 4) (qS H0.a 1 1)=some (k,d):=y;have G:=g.u B o SQ (j:=4) (p:=4) (.inl ⟨rfl,by decide,by decide⟩) A z;simp only[eE,seval,↓eP,t2,q2,q3];refine WK.c (by kernel_rfl) ?_;simp only[eE,seval,DJ,L,O,K0,KG,I7,v,u,ZZ,c,G];refine q _ _ _ _ _ (by simp only[Tr.b,ai]) a rfl (fun i f h1=>?_) (by show H0.a<=d.a;omega) o;rw[AP (by omega) (by omega),D i f (.inl h1)]
 .have v:=g.P;obtain⟨k,d,y,z,A,B,o,M,D,F⟩:=g.j (j:=5) (by decide) (by decide) (t:=25) (w:=1) (bb:=8) au B_ IZ GD rfl (by decide) (by decide) (xs:=[iv ((at_:Int)+1)]) ((IE _).trans (cy _).symm) (MJ _) rfl rfl (by show s.d.length<10000000;omega);have a:=F {s with d:=s.d++[(at_:Int)+1]} rfl rfl (by simp[HD]) (by simp[HU,ints]) (fun i f=>by unfold HD HU;split<;>simp_all);have c:DR prog (H0.d (.row [iv ((at_:Int)+1)] 3 false false)) 25 (V 5) (qS H0.a 1 1)=some (k,d):=y;have G:=g.u B o FW (j:=5) (p:=5) (.inl ⟨rfl,by decide,by decide⟩) A z;simp only[eE,seval,↓eP,L,t1,t2,q4,q5,q6,w1,K0,GF,BH,v,KE,c,G];refine q _ _ _ _ _ (by simp only[Tr.b,ai]) a rfl (fun i f h1=>?_) (by show H0.a<=d.a;omega) o;rw[AP (by omega) (by omega),D i f (.inl h1)]
end
theorem JG{h:AA}{o o':BO}:((h.d o).d o').c h.a=o:=by rw[AV (by show h.a<h.a+1;omega)];exact BJ
theorem MG{h:AA}{o o':BO}:((h.d o).d o').c (h.a+1)=o':=BJ (h:=h.d o)
structure vA (l:List AF) (U W:List Int):Prop where
 c:U.length=l.length
 d:W.length=l.length
 b:U[0]?=some (-1)
 a:∀ p k i,KZ l p k i->U[i]?=some (p:Int)/\W[i]?=some (k:Int)
section
variable {call:AY} {n:Nat}
theorem uT{l:List AF}{v:Value}{h:AA}(ht:DM l)(Y:A8 h v l)(hlen:l.length<30000000000000)(hn:l.length+3<n)(x6:h.b<=h.a)(Z:∀H,A8 H v l->H.b<=H.a->∃h',call 88 [v] H=some (qS H.a l.length l.length,h')/\(h'.c H.a=.row (ints (AZ l)) 3 false false/\h'.a=H.a+1/\h'.b=H.b/\∀i,i<H.a->h'.c i=H.c i)):∃h',AW prog call n 223 [v] h=some (.tuple #[qS h.a l.length l.length,qS (h.a+1) l.length l.length],h')/\(∃U W,vA l U W/\h'.c h.a=.row (ints U) 3 false false/\h'.c (h.a+1)=.row (ints W) 3 false false/\h'.a=h.a+3/\h'.b=h.b/\∀i,i<h.a->h'.c i=h.c i):=by
 refine EA (R:=fun h'=>∃U W,vA l U W/\h'.c h.a=.row (ints U) 3 false false/\h'.c (h.a+1)=.row (ints W) 3 false false/\h'.a=h.a+3/\h'.b=h.b/\∀i,i<h.a->h'.c i=h.c i) func223 rfl (by simp) ?_;have hr:f223.results.toList=[.tmp 2,.tmp 3]:=rfl;have f:∀h',CU prog h' 22 v=some (.int .i64 l.length):=fun h'=>Y.c;have O:=ht.V;have hold2:∀i,i<h.a->((h.d (.row (ints (List.replicate l.length 0)) 3 false false)).d (.row (ints (List.replicate l.length 0)) 3 false false)).c i=h.c i:=fun i m=>by rw[AV (by show i<h.a+1;omega),AV m]
 obtain⟨h3,Z,g1,g2,g3,g4⟩:=Z ((h.d (.row (ints (List.replicate l.length 0)) 3 false false)).d (.row (ints (List.replicate l.length 0)) 3 false false)) (Y.a (by show h.a<=h.a+1+1;omega) hold2) (by show h.b<=h.a+1+1;omega);have ga:=(g4 h.a (by show h.a<h.a+1+1;omega)).trans JG;have gb:=(g4 (h.a+1) (by show h.a+1<h.a+1+1;omega)).trans MG;simp only[BU,CE]at Z g1 g2 g3;have h0:=fun i m=>(g4 i (by show i<h.a+1+1;omega)).trans (hold2 i m);clear g4;have i0:BW prog 25 (qS h.a l.length l.length) (iv 0)=some (qP h.a 0):=FO (i:=0) O;have s0:=LZ (x:=-1) ga (i:=0) (by grind) (by omega);have c0:decide ((l.length:Int)>0)=true:=by grind
 simp only[eE,seval,↓eP,rP,hr,f,TO hlen,Z,i0,s0,c0];have z1:(h3.e h.a (.row (ints ((List.replicate l.length 0).set 0 (-1))) 3 false false)).c h.a=.row (ints ((List.replicate l.length 0).set 0 (-1))) 3 false false:=BE rfl (by omega);have z2:=(AP (h:=h3) (i:=h.a) (j:=h.a+1) (o:=.row (ints ((List.replicate l.length 0).set 0 (-1))) 3 false false) (by omega) (by omega)).trans gb;have z3:=(AP (h:=h3) (i:=h.a) (j:=h.a+1+1) (o:=.row (ints ((List.replicate l.length 0).set 0 (-1))) 3 false false) (by omega) (by omega)).trans g1;have z4:∀i,i<h.a->(h3.e h.a (.row (ints ((List.replicate l.length 0).set 0 (-1))) 3 false false)).c i=h.c i:=fun i m=>by rw[AP (by omega) (by omega)];grind
 have z5:(h3.e h.a (.row (ints ((List.replicate l.length 0).set 0 (-1))) 3 false false)).a=h.a+3:=by show h3.a=_;omega
 have z6:(h3.e h.a (.row (ints ((List.replicate l.length 0).set 0 (-1))) 3 false false)).b=h.b:=g3;generalize h3.e h.a (.row (ints ((List.replicate l.length 0).set 0 (-1))) 3 false false)=h4 at*;refine WK.b (fun j s=>s.T.a 0=v/\s.T.a 4=qS h.a l.length l.length/\s.T.a 5=qS (h.a+1) l.length l.length/\s.T.a 6=qS (h.a+1+1) l.length l.length/\s.T.a 7=iv j/\s.h.a=h.a+3/\s.h.b=h.b/\(∀i,i<h.a->s.h.c i=h.c i)/\s.h.c (h.a+1+1)=.row (ints (AZ l)) 3 false false/\∃U W:List Int,U.length=l.length/\W.length=l.length/\s.h.c h.a=.row (ints U) 3 false false/\s.h.c (h.a+1)=.row (ints W) 3 false false/\U[0]?=some (-1)/\∀p k i,p<j->KZ l p k i->U[i]?=some (p:Int)/\W[i]?=some (k:Int)) l.length (by omega) ?_ ?_
 .simp only[eE,↓reduceIte,Nat.reduceEqDiff,reduceCtorEq];refine⟨rfl,z5,z6,z4,z3,_,_,?_,?_,z1,z2,?_,fun p k i hp=>by omega⟩;.simp
  .simp
  grind
 .rintro j⟨T1,h1⟩hj⟨t0,t4,t5,t6,t7,B,C,d,gE,U,W,hU,hW,gU,gW,u0,h6⟩;simp only at t0 t4 t5 t6 t7 B C d gE gU gW;by_cases P:j<l.length
  .have c1:decide ((j:Int)<(l.length:Int))=true:=by grind
   have w1:=DU j;have w:=ht.U P;obtain⟨x,hx,x7,x8,u⟩:=w.a;have x9:=Y.a (by omega) d;have y0:=HM _ _ _ u;have y1:=w.b;simp only[eE,seval,↓eP,t0,t7,f,c1,w1];refine WK.b (fun k s=>s.T.a 0=v/\s.T.a 4=qS h.a l.length l.length/\s.T.a 5=qS (h.a+1) l.length l.length/\s.T.a 6=qS (h.a+1+1) l.length l.length/\s.T.a 7=iv j/\s.T.a 9=iv k/\s.h.a=h.a+3/\s.h.b=h.b/\(∀i,i<h.a->s.h.c i=h.c i)/\s.h.c (h.a+1+1)=.row (ints (AZ l)) 3 false false/\k<=x.b.toNat/\(∃p:Nat,s.T.a 8=iv p/\j<p/\F_ l k (j+1) p/\F_ l (x.b.toNat-k) p (AE l j))/\∃U W:List Int,U.length=l.length/\W.length=l.length/\s.h.c h.a=.row (ints U) 3 false false/\s.h.c (h.a+1)=.row (ints W) 3 false false/\U[0]?=some (-1)/\∀p Q i,p<j\/(p=j/\Q<k)->KZ l p Q i->U[i]?=some (p:Int)/\W[i]?=some (Q:Int)) x.b.toNat (by omega) ?_ ?_;.simp only[eE,↓reduceIte,Nat.reduceEqDiff,reduceCtorEq,rP,t0,t4,t5,t6,t7];refine⟨rfl,B,C,d,gE,⟨j+1,rfl,by omega,rfl,by assumption⟩,U,W,hU,hW,gU,gW,u0,fun p Q i h1 h2=>h6 p Q i (by omega) h2⟩
   .rintro k⟨T2,h2⟩hk⟨v0,v4,v5,v6,v7,v9,g,D,hold2,E,x5,⟨p,v8,hp,F,S⟩,e,t,h7,h8,G,I,g0,z⟩;simp only at v0 v4 v5 v6 v7 v8 v9 g D hold2 E G I;have g5:=Y.a (by omega) hold2;obtain⟨id,q,e0,y2,l0,l1,l2,l3,l4,lr⟩:=g5.b hx;by_cases A:k<x.b.toNat
    .have c2:decide ((k:Int)<x.b)=true:=by grind
     obtain⟨r,g6⟩:∃r,x.b.toNat-k=r+1:=⟨x.b.toNat-k-1,by omega⟩;rw[g6]at S;obtain⟨p',s1,s2,s3,s4⟩:=S;have w5:=DU k;have T:p<l.length:=by omega
     have g7:KZ l j k p:=⟨x,hx,A,F⟩;have PG:=LZ (x:=(j:Int)) G (i:=p) (by omega) (by omega);have g8:=(AP (h:=h2) (i:=h.a) (j:=h.a+1) (o:=.row (ints (e.set p (j:Int))) 3 false false) (by omega) (by omega)).trans I;have g9:=LZ (h:=h2.e h.a (.row (ints (e.set p (j:Int))) 3 false false)) (x:=(k:Int)) g8 (i:=p) (by omega) (by show h2.b<=_;omega);have V:((h2.e h.a (.row (ints (e.set p (j:Int))) 3 false false)).e (h.a+1) (.row (ints (t.set p (k:Int))) 3 false false)).c (h.a+1+1)=.row (ints (AZ l)) 3 false false:=by rw[AP (by show h.a+1<h2.a;omega) (by omega),AP (by omega) (by omega)];exact E
     have x0:((h2.e h.a (.row (ints (e.set p (j:Int))) 3 false false)).e (h.a+1) (.row (ints (t.set p (k:Int))) 3 false false)).c h.a=.row (ints (e.set p (j:Int))) 3 false false:=by rw[AP (by show h.a+1<h2.a;omega) (by omega)];exact BE rfl (by omega)
     have x1:((h2.e h.a (.row (ints (e.set p (j:Int))) 3 false false)).e (h.a+1) (.row (ints (t.set p (k:Int))) 3 false false)).c (h.a+1)=.row (ints (t.set p (k:Int))) 3 false false:=BE rfl (by show h.a+1<h2.a;omega);have J:∀i,i<h.a->((h2.e h.a (.row (ints (e.set p (j:Int))) 3 false false)).e (h.a+1) (.row (ints (t.set p (k:Int))) 3 false false)).c i=h.c i:=fun i m=>by rw[AP (by show h.a+1<h2.a;omega) (by omega),AP (by omega) (by omega)];grind
     have x2:((h2.e h.a (.row (ints (e.set p (j:Int))) 3 false false)).e (h.a+1) (.row (ints (t.set p (k:Int))) 3 false false)).a=h.a+3:=g;have f4:((h2.e h.a (.row (ints (e.set p (j:Int))) 3 false false)).e (h.a+1) (.row (ints (t.set p (k:Int))) 3 false false)).b=h.b:=D;have x3:AI p (((h2.e h.a (.row (ints (e.set p (j:Int))) 3 false false)).e (h.a+1) (.row (ints (t.set p (k:Int))) 3 false false)).c (h.a+1+1))=some (iv (p':Int)):=by
      rw[V];refine KM ?_;rw[NU T,JN s1]
     simp only[eE,seval,↓eP,DJ,v0,v4,v5,v6,v7,v8,v9,e0,l4,c2,FO T,PG,g9,w5,x3];refine⟨A,x2,f4,J,V,by omega,⟨p',rfl,by omega,dX _ _ _ _ F s1,by grind⟩,e.set p (j:Int),t.set p (k:Int),by grind,by grind,x0,x1,?_,fun p9 X i9 h9 q9=>?_⟩;.grind
     .by_cases m:p=i9
      .subst m;obtain⟨rfl,rfl⟩:=KZ.a ht q9 g7;grind
      .rw[bf m,bf m];refine z p9 X i9 ?_ q9;rcases h9 with h9|⟨h9,y3⟩;.omega
       .refine .inr ⟨h9,?_⟩;rcases ar X k with h|h;.exact h
        .exfalso;obtain rfl:X=k:=by omega
         subst h9;obtain⟨_,_,_,q⟩:=q9;exact m (VE _ _ _ _ F q)
    .have c2:decide ((k:Int)<x.b)=false:=by grind
     simp only[eE,seval,↓eP,rP,v0,v4,v5,v6,v7,v9,e0,l4,c2,w1];refine⟨P,g,D,hold2,E,e,t,h7,h8,G,I,g0,fun p9 X i9 h9 q9=>z p9 X i9 ?_ q9⟩;rcases ar p9 j with h|h;.omega
     .refine .inr ⟨by omega,?_⟩;obtain⟨y,hy,h5,_⟩:=q9;grind
  .have c1:decide ((j:Int)<(l.length:Int))=false:=by grind
   simp only[eE,seval,↓eP,t0,t4,t5,t7,f,c1];refine⟨U,W,⟨hU,hW,u0,fun p k i x4=>?_⟩,gU,gW,B,C,d⟩;have hk:=x4;obtain⟨y,hy,_⟩:=hk;grind
end
def XT(r:Nat):Code->Option Code
 |.seq a b=>match XT r a with|some o=>some o|none=>XT r b
 |.cond _ a b=>match XT r a with|some o=>some o|none=>XT r b
 |.block i c=>if i=r then some (.block i c)else XT r c|.loop c=>XT r c|_=>none
def iB(a:Func)(r:Nat):Code:=match a.body with|some c=>(XT r c).getD .skip|none=>.skip
noncomputable def Fu:Code:=iB f160 2
section
variable {call:AY} {N:Nat}
theorem sw85{a n:Int}{T:Tr}{h:AA}{k:DH}(b:T.a 59=iv a)(e:T.a 8=iv n)(O:0<=n/\n<4611686018427387904)(s:∀u:Tr,(∀t,t<=7->u.a t=T.a t)->u.a 8=iv (n+G0 a)->k.a prog call N .normal ⟨u,h⟩):WK prog call N Fu ⟨T,h⟩ k:=by
 have w:IntKind.i64.wrap (n+1)=n+1:=BR;have c:∀u:Tr,(∀t,t<=7->u.a t=T.a t)->G0 a=1->u.a 8=iv (n+1)->k.a prog call N .normal ⟨u,h⟩:=by grind
 show WK _ _ _ (.block 2 _) _ _;by_cases C:a=1
 .have d:(a==1)=true:=by grind
  simp only[eE,seval,↓eP,b,e,w,d];exact c _ (fun t g=>by simp only[Tr.b,aj];grind) (by rw[C];rfl) (by simp only[Tr.b,aj,ai])
 have d:(a==1)=false:=by grind
 by_cases D:a=11
 .have f:(a==11)=true:=by grind
  simp only[eE,seval,↓eP,b,e,w,d,f];exact c _ (fun t g=>by simp only[Tr.b,aj];grind) (by rw[D];rfl) (by simp only[Tr.b,aj,ai])
 have f:(a==11)=false:=by grind
 by_cases E:a=26
 .have i:(a==26)=true:=by grind
  simp only[eE,seval,↓eP,b,e,w,d,f,i];exact c _ (fun t g=>by simp only[Tr.b,aj];grind) (by rw[E];rfl) (by simp only[Tr.b,aj,ai])
 have i:(a==26)=false:=by grind
 by_cases F:a=31
 .have j:(a==31)=true:=by grind
  simp only[eE,seval,↓eP,b,e,w,d,f,i,j];exact c _ (fun t g=>by simp only[Tr.b,aj];grind) (by rw[F];rfl) (by simp only[Tr.b,aj,ai])
 have j:(a==31)=false:=by grind
 by_cases G:a=32
 .have l:(a==32)=true:=by grind
  simp only[eE,seval,↓eP,b,e,w,d,f,i,j,l];exact c _ (fun t g=>by simp only[Tr.b,aj];grind) (by rw[G];rfl) (by simp only[Tr.b,aj,ai])
 have l:(a==32)=false:=by grind
 by_cases H:a=35
 .have o:(a==35)=true:=by grind
  simp only[eE,seval,↓eP,b,e,w,d,f,i,j,l,o];exact c _ (fun t g=>by simp only[Tr.b,aj];(repeat rw[ad (by omega)])) (by rw[H];rfl) (by simp only[Tr.b,aj,ai])
 have o:(a==35)=false:=by grind
 by_cases I:a=36
 .have p:(a==36)=true:=by grind
  simp only[eE,seval,↓eP,b,e,w,d,f,i,j,l,o,p];exact c _ (fun t g=>by simp only[Tr.b,aj];(repeat rw[ad (by omega)])) (by rw[I];rfl) (by simp only[Tr.b,aj,ai])
 have p:(a==36)=false:=by grind
 by_cases J:a=37
 .have r:(a==37)=true:=by grind
  simp only[eE,seval,↓eP,b,e,w,d,f,i,j,l,o,p,r];exact c _ (fun t g=>by simp only[Tr.b,aj];(repeat rw[ad (by omega)])) (by rw[J];rfl) (by simp only[Tr.b,aj,ai])
 have r:(a==37)=false:=by grind
 by_cases K:a=39
 .have v:(a==39)=true:=by grind
  simp only[eE,seval,↓eP,b,e,w,d,f,i,j,l,o,p,r,v];exact c _ (fun t g=>by simp only[Tr.b,aj];(repeat rw[ad (by omega)])) (by rw[K];rfl) (by simp only[Tr.b,aj,ai])
 have v:(a==39)=false:=by grind
 by_cases L:a=40
 .have y:(a==40)=true:=by grind
  simp only[eE,seval,↓eP,b,e,w,d,f,i,j,l,o,p,r,v,y];exact c _ (fun t g=>by simp only[Tr.b,aj];(repeat rw[ad (by omega)])) (by rw[L];rfl) (by simp only[Tr.b,aj,ai])
 have y:(a==40)=false:=by grind
 by_cases z:a=38
 .have m:(a==38)=true:=by grind
  simp only[eE,seval,↓eP,b,e,w,d,f,i,j,l,o,p,r,v,y,m];exact c _ (fun t g=>by simp only[Tr.b,aj];(repeat rw[ad (by omega)])) (by rw[z];rfl) (by simp only[Tr.b,aj,ai])
 have m:(a==38)=false:=by grind
 by_cases A:a=41
 .have q:(a==41)=true:=by grind
  simp only[eE,seval,↓eP,b,e,w,d,f,i,j,l,o,p,r,v,y,m,q];exact c _ (fun t g=>by simp only[Tr.b,aj];(repeat rw[ad (by omega)])) (by rw[A];rfl) (by simp only[Tr.b,aj,ai])
 have q:(a==41)=false:=by grind
 by_cases B:a=42
 .have x:(a==42)=true:=by grind
  simp only[eE,seval,↓eP,b,e,w,d,f,i,j,l,o,p,r,v,y,m,q,x];exact c _ (fun t g=>by simp only[Tr.b,aj];(repeat rw[ad (by omega)])) (by rw[B];rfl) (by simp only[Tr.b,aj,ai])
 have x:(a==42)=false:=by grind
 simp only[eE,seval,↓eP,b,d,f,i,j,l,o,p,r,v,y,m,q,x];refine s _ (fun t g=>by simp only[Tr.b,aj];(repeat rw[ad (by omega)])) ?_;have M:G0 a=0:=by
  unfold G0;simp_all
 rw[M,Int.add_zero];simp only[Tr.b,aj,Nat.reduceEqDiff,bi];exact e
end
end Go.Proofs.YtjailoenloejbaaGreatDoor




