/- Part 17. -/
import Derived.Test.YtjailoenloejbaaGreatDoorDV16
set_option linter.all false
namespace Go.Proofs.YtjailoenloejbaaGreatDoor
open Go Go.Sx Go.Proofs.Tryz
set_option maxRecDepth 100000
set_option maxHeartbeats 0
structure TQ (l:List AF) (O:List Int) (j:Nat) (most:Int):Prop where
 a:O.length=l.length
 d:0<j->∀ x,l[0]?=some x->O[0]?=some (G0 x.a)
 g:∀ p k i x y o,i<j->KZ l p k i->l[p]?=some x->l[i]?=some y->O[p]?=some o->O[i]?=some (o+JT (EG x.a) (EG y.a) k+G0 y.a)
 h:∀ (i:Nat) o,i<j->O[i]?=some o->0<=o/\o<=2*(i:Int)+2
 b:(j=0/\most=0)\/(0<j/\RQ O 0 j most)
theorem TQ.e{l:List AF}{O:List Int}{j:Nat}{most:Int}(h:TQ l O j most):0<=most/\most<=2*(j:Int):=by
 rcases h.b with⟨_,c⟩|⟨_,_,i,_,a,b⟩;.omega
 .have:=h.h i _ a b;omega
theorem TQ.f{l:List AF}{O:List Int}{j:Nat}{most n:Int}(q:DM l)(h:TQ l O j most)(C:j<l.length)(e:(j=0/\∀x,l[0]?=some x->n=G0 x.a)\/∃p k x y o,KZ l p k j/\l[p]?=some x/\l[j]?=some y/\O[p]?=some o/\n=o+JT (EG x.a) (EG y.a) k+G0 y.a):TQ l (O.set j n) (j+1) (if n>most then n else most):=by
 have v:=h.a;have r:0<=n/\n<=2*(j:Int)+2:=by
  rcases e with⟨rfl,a⟩|⟨p,k,x,y,o,a,f,s,g,rfl⟩
  .have:=fS l[0].a;grind
  .have:=h.h p o a.b g;have:=fS y.a;have:=uW (EG x.a) (EG y.a) k;have:=a.b;omega
 refine⟨by grind,fun _ x b=>?_,fun p k i x y o u m b w c=>?_,fun i o u c=>?_,.inr ⟨by omega,?_⟩⟩
 .by_cases z:j=0
  .subst z;rw[br (by omega)];rcases e with⟨_,a⟩|⟨p,k,x,y,o,a,_⟩;.grind
   .have:=a.b;omega
  .rw[bf (by omega)];exact h.d (by omega) x b
 .have A:=m.b;rw[bf (by omega)]at c;by_cases d:j=i
  .subst d;rw[br (by omega)];rcases e with⟨rfl,_⟩|⟨D,E,F,G,H,a,f,s,g,rfl⟩;.omega
   .obtain⟨rfl,rfl⟩:=KZ.a q m a;grind
  .rw[bf (by omega)];exact h.g p k i x y o (by omega) m b w c
 .by_cases d:j=i;.grind
  .rw[bf (by omega)]at c;exact h.h i o (by omega) c
 .rcases h.b with⟨rfl,rfl⟩|⟨I,a,i,f,s,g⟩
  .have B:(if n>0 then n else 0)=n:=by omega
   rw[B];refine⟨fun i x _ u b=>?_,0,by omega,by omega,br (by omega)⟩;grind
  .refine⟨fun t x _ q b=>?_,?_⟩;.grind
   .split;.exact⟨j,by omega,by omega,br (by omega)⟩
    .exact⟨i,f,by omega,by grind⟩
theorem TQ.c{l:List AF}{O:List Int}{most:Int}(b:DM l)(h:TQ l O l.length most):most=(FL l (l.length+1) 0).1:=by
 have c:=b.V;have a:=aa c;have d:Ns l O:=⟨fun x a=>h.d c x a,fun p k i x y o g a e j=>h.g p k i x y o (ae.1 e).1 g a e j⟩;have f:=(uk d (l.length+1) 0 l.length _ _ b (by omega) a (d.a _ a)).1;rw[Int.sub_self,Int.zero_add]at f;rcases h.b with⟨n,_⟩|⟨_,m⟩;.omega
 .exact m.a f
section
variable {call:AY} {N:Nat}
theorem vd{id n c:Nat}{i:Int}(h0:0<=i)(hi:i<n):BW prog 25 (qS id n c) (iv i)=some (qP id i.toNat):=by obtain⟨k,rfl⟩:∃k:Nat,i=(k:Int):=⟨i.toNat,by omega⟩;exact FO (by omega)
def inB:Code->Code|.block _ c=>c|c=>c
noncomputable def Lm:Code:=iB f160 1
noncomputable def e_:Code:=rt (rt (inB Lm))
theorem wI{l:List AF}{v:Value}{a:Nat}{v3 v4:Value}{y:AF}{T:Tr}{H:AA}{j:Nat}{O:List Int}{most n:Int}{K:DH}(p:T.a 0=v)(w:T.a 3=v3)(z:T.a 4=v4)(A:T.a 5=qS a l.length l.length)(B:T.a 6=iv most)(r:T.a 7=iv j)(C:T.a 8=iv n)(D:0<=n/\n<4611686018427387904)(E:A8 H v l)(s:l[j]?=some y)(F:H.c a=.row (ints O) 3 false false)(M:O.length=l.length)(P:a<H.a)(G:H.b<=a)(h:∀b:Tr,b.a 0=v->b.a 3=v3->b.a 4=v4->b.a 5=qS a l.length l.length->b.a 6=iv (if n+G0 y.a>most then n+G0 y.a else most)->b.a 7=iv j->K.a prog call N .normal ⟨b,H.e a (.row (ints (O.set j (n+G0 y.a))) 3 false false)⟩):WK prog call N e_ ⟨T,H⟩ K:=by
 show WK _ _ _ (.seq (.seq _ Fu) (rt e_)) _ _;have e:=(ae.1 s).1;obtain⟨Q,q,I,J,L,R,S,U,V,W⟩:=E.b s;simp only[TC,seval,rP,p,r,I,L];refine sw85 (a:=y.a) (n:=n) ?_ ?_ D fun b c t=>?_;.simp only[eE,seval]
 .simp only[eE,seval,C]
 have k:=c 0 (by decide);have m:=c 3 (by decide);have o:=c 4 (by decide);have f:=c 5 (by decide);have i:=c 6 (by decide);have g:=c 7 (by decide);simp only[eE,seval,p,w,z,A,B,r]at k m o f i g;have u:=LZ (x:=n+G0 y.a) F (show j<O.length by omega) G;show WK _ _ _ (rt e_) _ _;cases d:decide (n+G0 y.a>most)with
 |true=>
  rw[ag (by grind)]at h;show WK _ _ _ (.seq _ _) _ _;simp only[eE,seval,↓eP,f,i,g,t,FO e,u,d];refine h _ ?_ ?_ ?_ ?_ ?_ ?_<;>simp only[eE,seval,k,m,o,f,g]|false=>
  rw[ad (by grind)]at h;show WK _ _ _ (.seq _ _) _ _;simp only[eE,seval,↓eP,f,i,g,t,FO e,u,d];refine h _ ?_ ?_ ?_ ?_ ?_ ?_<;>simp only[eE,seval,k,m,o,f,i,g]
theorem vf{l:List AF}{v:Value}{h:AA}(Q:DM l)(hv:A8 h v l)(Y:l.length<30000000000000)(hn:l.length+3<N)(g9:h.b<=h.a)(hP:∃h',call 223 [v] h=some (.tuple #[qS h.a l.length l.length,qS (h.a+1) l.length l.length],h')/\(∃U W,vA l U W/\h'.c h.a=.row (ints U) 3 false false/\h'.c (h.a+1)=.row (ints W) 3 false false/\h'.a=h.a+3/\h'.b=h.b/\∀i,i<h.a->h'.c i=h.c i))(hL:∀P K(k:Nat)h,1<=P/\P<=54->1<=K/\K<=54->call 224 [iv P,iv k,iv K] h=some (.bool (R_ (EG P) (EG K) k),h)):∃h',AW prog call N 160 [v] h=some (iv (FL l (l.length+1) 0).1,h')/\∀i,i<h.a->h'.c i=h.c i:=by
 refine EA (R:=fun h'=>∀i,i<h.a->h'.c i=h.c i) func160 rfl (by simp) ?_;have hr:f160.results.toList=[.tmp 2]:=rfl;have f:∀h',CU prog h' 22 v=some (.int .i64 l.length):=fun h'=>hv.c;have Z:=Q.V;obtain⟨h1,hP,U,W,h3,gU,gW,x0,h8,g6⟩:=hP;simp only[eE,seval,hr,f,TO Y,hP];refine WK.b (fun j s=>s.T.a 0=v/\s.T.a 3=qS h.a l.length l.length/\s.T.a 4=qS (h.a+1) l.length l.length/\s.T.a 5=qS h1.a l.length l.length/\s.T.a 7=iv j/\s.h.a=h1.a+1/\s.h.b=h.b/\(∀i,i<h.a->s.h.c i=h.c i)/\s.h.c h.a=.row (ints U) 3 false false/\s.h.c (h.a+1)=.row (ints W) 3 false false/\∃O most,s.T.a 6=iv most/\s.h.c h1.a=.row (ints O) 3 false false/\TQ l O j most) l.length (by omega) ?_ ?_
 .simp only[eE,↓reduceIte,Nat.reduceEqDiff,reduceCtorEq,rP];refine⟨rfl,h8,fun i hi=>?_,?_,?_,List.replicate l.length 0,rfl,⟨by simp,(fun h=>by omega),(fun p k i x y o h=>by omega),(fun i o h=>by omega),.inl ⟨rfl,rfl⟩⟩⟩;.grind
  .grind
  grind
 .rintro j⟨T1,H⟩hj⟨u,w,S,t5,t,A,h4,g,m,F,O,most,t6,gO,B⟩;simp only at u w S t5 t6 t A h4 g m F gO;have h9:=B.e;by_cases hlt:j<l.length
  .have c1:decide ((j:Int)<(l.length:Int))=true:=by grind
   have w1:=DU j;have r:=hv.a (by omega) g;obtain⟨y,G⟩:∃y,l[j]?=some y:=⟨_,aa hlt⟩;obtain⟨id,q,e0,x1,l0,l1,l2,l3,l4,lr⟩:=r.b G;have g0:=(Q.U hlt).a.elim fun z I=>by rw[G]at I;cases I.1;exact I.2.2.1
   have x2:=fS y.a;simp only[TC,seval,↓eP,u,t,f,c1];show WK _ _ _ Lm _ _;have J:∀(n:Int),0<=n/\n<4611686018427387904->(j=0/\(∀x,l[0]?=some x->n+G0 y.a=G0 x.a)\/∃p k x y' o,KZ l p k j/\l[p]?=some x/\l[j]?=some y'/\O[p]?=some o/\n+G0 y.a=o+JT (EG x.a) (EG y'.a) k+G0 y'.a)->TQ l (O.set j (n+G0 y.a)) (j+1) (if n+G0 y.a>most then n+G0 y.a else most):=fun n h1 h2=>B.f Q hlt h2;have ha:h1.a<H.a:=by omega
   have L:H.b<=h1.a:=by omega
   have po:=fun(X:BO)=>BE (h:=H) (i:=h1.a) (o:=X) rfl ha;have pn:=fun(X:BO)(i:Nat)(hi:i≠h1.a)=>AP (h:=H) (i:=h1.a) (j:=i) (o:=X) ha (bc hi);rcases gN j with h0|h0
   .subst h0;have g1:=h3.b;have cm:decide ((-1:Int)>=0)=false:=rfl;have o0:=J 0 (by omega) (.inl ⟨rfl,fun x T=>by grind⟩);have i0:BW prog 25 (qS h.a l.length l.length) (iv ((0:Nat):Int))=some (qP h.a 0):=FO (i:=0) Z;show WK _ _ _ (.block 1 (.seq _ (.seq _ e_))) _ _;simp only[eE,↓reduceIte,Nat.reduceEqDiff,↓eP,rP,Nat.reduceAdd,w,t,i0,m,KM g1,cm];refine wI (y:=y) (O:=O) (most:=most) (n:=0) (j:=0) (a:=h1.a) ?_ rfl rfl ?_ ?_ ?_ ?_ (by omega) r G gO B.a ha L fun T' u0 u3 u4 u5 u6 u7=>?_;.simp only[eE,seval,u]
    .simp only[eE,seval,t5]
    .simp only[eE,seval,t6]
    .simp only[eE,seval,t]
    .simp only[eE,seval]
    simp only[eE,seval,w,S]at u3 u4;simp only[eE,↓reduceIte,Nat.reduceEqDiff,reduceCtorEq,DJ,Nat.reduceAdd,u0,u3,u4,u5,u6,u7,w1];grind
   .obtain⟨p,k,V⟩:=Q.g h0 hlt;obtain⟨M,h5⟩:=h3.a p k j V;have g2:=V.b;obtain⟨x,T,g3,g4⟩:=V;have V:KZ l p k j:=⟨x,T,g3,g4⟩;obtain⟨o,ho⟩:∃o,O[p]?=some o:=⟨_,aa (by rw[B.a];omega)⟩;have g7:=B.h p o g2 ho;have h6:=(Q.U (show p<l.length by omega)).a.elim fun z I=>by rw[T]at I;cases I.1;exact I.2.2.1
    obtain⟨x3,q2,f0,g8,m0,m1,m2,m3,m4,mr⟩:=r.b T;have cm:decide ((p:Int)>=0)=true:=by simp
    have hl:=fun hh=>hL x.a y.a k hh h6 g0;have g5:p<l.length:=by omega
    show WK _ _ _ (.block 1 (.seq _ (.seq _ e_))) _ _;simp only[eE,seval,↓eP,rP,w,t5,t,FO hlt,FO g5,m,gO,KM M,KM ho,cm];refine WK.c (by kernel_rfl) ?_;cases h7:R_ (EG x.a) (EG y.a) k with
    |false=>
     have hI:JT (EG x.a) (EG y.a) k=0:=by unfold JT;grind
     have o0:=J o (by omega) (.inr ⟨p,k,x,y,o,V,T,G,ho,by omega⟩);simp only[eE,seval,↓eP,rP,u,w,S,t,FO hlt,m,F,KM M,KM h5,e0,f0,l0,m0,hl,h7];refine wI (y:=y) (O:=O) (most:=most) (n:=o) (j:=j) (a:=h1.a) ?_ rfl rfl ?_ ?_ ?_ ?_ (by omega) r G gO B.a ha L fun T' u0 u3 u4 u5 u6 u7=>?_;.simp only[eE,seval,u]
     .simp only[eE,seval,t5]
     .simp only[eE,seval,t6]
     .simp only[eE,seval,t]
     .simp only[eE,seval]
     simp only[eE,seval,w,S]at u3 u4;simp only[eE,↓reduceIte,Nat.reduceEqDiff,reduceCtorEq,DJ,u0,u3,u4,u5,u6,u7,w1];grind|true=>
     have hI:JT (EG x.a) (EG y.a) k=1:=by unfold JT;grind
     have o0:=J (o+1) (by omega) (.inr ⟨p,k,x,y,o,V,T,G,ho,by rw[hI]⟩);have w2:IntKind.i64.wrap (o+1)=o+1:=BR;simp only[eE,seval,↓eP,rP,u,w,S,t,FO hlt,m,F,KM M,KM h5,e0,f0,l0,m0,hl,h7,w2];refine wI (y:=y) (O:=O) (most:=most) (n:=o+1) (j:=j) (a:=h1.a) ?_ rfl rfl ?_ ?_ ?_ ?_ (by omega) r G gO B.a ha L fun T' u0 u3 u4 u5 u6 u7=>?_;.simp only[eE,seval,u]
     .simp only[eE,seval,t5]
     .simp only[eE,seval,t6]
     .simp only[eE,seval,t]
     .simp only[eE,seval]
     simp only[eE,seval,w,S]at u3 u4;simp only[eE,↓reduceIte,Nat.reduceEqDiff,reduceCtorEq,DJ,u0,u3,u4,u5,u6,u7,w1];exact⟨hlt,A,h4,fun i hi=>by grind,by grind,by grind,_,po _,o0⟩
  .have c1:decide ((j:Int)<(l.length:Int))=false:=by grind
   have:j=l.length:=by omega
   subst this;have e:=B.c Q;subst e;simp only[eE,seval,↓eP,u,t6,t,f,c1];assumption
end
section
variable {call:AY} {N:Nat} {h:AA} {lo m e r n:Nat} {nm:ByteArray} {E:List Int} {s:AS}
theorem wB{H:AA}{x:AF}(b:H.b<=H.a):BD prog (H.d (.row FG 125 false false)) 125 (qP H.a 0) (.agg #[.int .i64 x.a,.string x.c,.int .i64 x.d,.int .i64 x.n,.int .i64 x.b])=some ((H.d (.row FG 125 false false)).e H.a (.row (AQ x) 125 false false)):=by have a:([.int .i64 x.a,.string x.c,.int .i64 x.d,.int .i64 x.n,.int .i64 x.b]:List Value).all one=true:=rfl;rw[DE,BJ,YF,ag ⟨b,a⟩];rfl
theorem Fo:flat (.agg #[.int .i64 0,.string ByteArray.empty,.int .i64 0,.int .i64 0,.int .i64 0])=true:=rfl
theorem Cn:(Value.agg #[.int .i64 0,.string ByteArray.empty,.int .i64 0,.int .i64 0,.int .i64 0]).cells.toList=FG:=rfl
theorem Ci{l:List JS}{x:ByteArray}(h:I8 l x=none):O5 l x 0=-1:=by have:=uK l x 0;grind
theorem Ms{l:List JS}{x:ByteArray}{t:JS}(h:I8 l x=some t):∃k:Nat,O5 l x 0=(k:Int)/\l[k]?=some t:=by have:=uK l x 0;grind
theorem vg{at_:Nat}{end_:Int}{x:AF}(j:IP h lo m e r n nm E s)(Z:s.a[at_]?=some x)(hd:CR x.a≠0)(hn:at_<30000000000000)(hE:E[at_]?=some end_)(he:0<=end_)(L:s.e.length<100000)(hN:100004<N)(l:∀(y:ByteArray)H p V C,D3 H lo m e r n nm E p V C s->call 161 [qP m 0,.string y] H=some (iv (O5 s.e y 0),H))(M:∀k a,call 162 [iv k] a=some (iv (JY k),a)):∃a,AW prog call N 90 [qP m 0,iv at_,iv (CR x.a)] h=some (iv (FV x s),a)/\(IQ h a lo/\(FV x s=0->IP a lo m e r n nm E (CQ at_ end_ x s))):=by
 obtain⟨p,V,j,f⟩:=j;refine EA (R:=fun a=>IQ h a lo/\(FV x s=0->IP a lo m e r n nm E (CQ at_ end_ x s))) func90 rfl (by simp) ?_;have hr:f90.results.toList=[.tmp 6]:=rfl;generalize O:DH.top (fun ex q=>(ex=FJ.normal\/ex=FJ.ret)/\∃vs,F5 prog q f90.results.toList=some vs/\GU vs=iv (FV x s)/\IQ h q.h lo/\(FV x s=0->IP q.h lo m e r n nm E (CQ at_ end_ x s)))=K;have u:∀(I:Tr)H v,I.a 6=iv v->v=FV x s->IQ h H lo->(v=0->IP H lo m e r n nm E (CQ at_ end_ x s))->K.a prog call N .ret ⟨I,H⟩:=fun I H v z hv ha P=>by
  subst hv;rw[<-O];simp only[eE,reduceCtorEq,hr,z];grind
 show WK _ _ _ (.seq _ (.seq _ (.seq _ Q4))) _ _;have Q:=j.B;obtain⟨S,l0,l1,l3,lr⟩:=j.x Z;have w:=W8 x.a;have T:lo<=h.a/\h.b<=h.a:=by have:=j.d;have:=j.k;omega
 have U:=wB (x:=x) T.2;simp only[eE,↓reduceIte,Nat.reduceEqDiff,reduceCtorEq,DJ,Nat.reduceAdd,Fo,Cn,K0,CK,CJ,Q,NE S,lr,U];have P:((h.d (.row FG 125 false false)).e h.a (.row (AQ x) 125 false false)).c h.a=.row (AQ x) 125 false false:=BE rfl (by show h.a<h.a+1;omega);have A:=((j.A (tag':=fun i=>if i=h.a then 11 else p i) (fun i J=>ad (by omega))).t (o:=.row (AQ x) 125 false false) (o':=.row FG 125 false false));have ho:∀i,i<h.a->((h.d (.row FG 125 false false)).e h.a (.row (AQ x) 125 false false)).c i=h.c i:=fun i J=>by rw[AP (by show h.a<h.a+1;omega) (by omega),AV J]
 have h1:((h.d (.row FG 125 false false)).e h.a (.row (AQ x) 125 false false)).a=h.a+1:=rfl;have W:((h.d (.row FG 125 false false)).e h.a (.row (AQ x) 125 false false)).b=h.b:=rfl;generalize(h.d (.row FG 125 false false)).e h.a (.row (AQ x) 125 false false)=X at*;have c:=l x.c X _ V _ A;have B:AI 1 (X.c h.a)=some (.string x.c):=by rw[P];rfl
 have g:IQ h X lo:=⟨fun i J=>ho i (by omega),by omega,W⟩;cases hf:I8 s.e x.c with
 |some t=>
  obtain⟨k,hk,_⟩:=Ms hf;have c1:decide ((k:Int)>=0)=true:=by simp
  rw[hk]at c;simp only[eE,seval,↓eP,B,c,c1];exact u _ _ 31 (by simp only[Tr.b,ai]) (by unfold FV;grind) g fun h=>by cases h|none=>
  have h2:¬(I8 s.e x.c).isSome=true:=by grind
  rw[Ci hf]at c;have c1:decide ((-1:Int)>=0)=false:=rfl;simp only[eE,seval,↓eP,B,c];have h3:=qZ f (CR x.a);refine uJ (b:=h.a) (end_:=end_) A Z (by omega) w.2 f L hE (fun a=>M _ a) ?_ ?_ ?_ ?_ P (by omega) (ag rfl) (fun I hc z=>?_) fun T2 H2 h0 V2 hc d Y D h4 h5 h7=>?_;.simp only[eE,seval]
  .simp only[eE,seval]
  .simp only[eE,seval]
  .simp only[eE,seval]
  .exact u _ _ 3 z (by unfold FV;grind) g fun h=>by cases h
  .have hq:=f.q;have hv:=f.v;have ht:=f.t;have hu:=f.u;have h8:=f.o;have g0:=d 0 (by decide) (by decide) (by decide);have g1:=d 1 (by decide) (by decide) (by decide);have g2:=d 2 (by decide) (by decide) (by decide);have g7:=d 7 (by decide) (by decide) (by decide);simp only[eE,seval]at g0 g1 g2 g7;refine Zd (b:=h.a) (x:=x) (kd:=CR x.a) Y (by omega) w.2 hn ⟨by grind,by grind,by grind,by grind,by grind⟩ g0 g1 g2 g7
    (by grind) (by omega) ((D _ (by omega)).trans (ag rfl)) fun T3 H3 F V3 z G h9 g3 g4=>?_;have hS:CQ at_ end_ x s=HE at_ end_ x s:=by unfold CQ;grind
   refine u _ _ 0 z (by unfold FV;grind) ⟨fun i J=>by grind,by omega,by omega⟩ fun _=>?_;rw[hS];refine⟨F,V3,?_,uR f hd hc he⟩;rw[uP (at_:=at_) (x:=x) (by omega) w.2]at G;exact G
theorem Za{at_:Nat}{x:AF}(b:IP h lo m e r n nm E s)(Y:s.a[at_]?=some x)(hd:FN x.a≠0)(hn:at_<30000000000000)(u:∀(y:ByteArray)H g V C,D3 H lo m e r n nm E g V C s->call 161 [qP m 0,.string y] H=some (iv (O5 s.e y 0),H)):∃D,AW prog call N 92 [qP m 0,iv at_,iv (FN x.a)] h=some (iv (EI at_ x s),D)/\(IQ h D lo/\(EI at_ x s=0->IP D lo m e r n nm E (C2 at_ x s))):=by
 obtain⟨g,V,b,F⟩:=b;refine EA (R:=fun D=>IQ h D lo/\(EI at_ x s=0->IP D lo m e r n nm E (C2 at_ x s))) func92 rfl (by simp) ?_;have hr:f92.results.toList=[.tmp 6]:=rfl;generalize Q:DH.top (fun w z=>(w=FJ.normal\/w=FJ.ret)/\∃Z,F5 prog z f92.results.toList=some Z/\GU Z=iv (EI at_ x s)/\IQ h z.h lo/\(EI at_ x s=0->IP z.h lo m e r n nm E (C2 at_ x s)))=K;have o:∀(S:Tr)H v,S.a 6=iv v->v=EI at_ x s->IQ h H lo->(v=0->IP H lo m e r n nm E (C2 at_ x s))->K.a prog call N .ret ⟨S,H⟩:=fun S H v h6 hv ha hb=>by
  subst hv;rw[<-Q];simp only[eE,reduceCtorEq,hr,h6];grind
 have G:=b.B;have M:=b.F;obtain⟨d,l0,O,l3,lr⟩:=b.x Y;have c:=u x.c h g V _ b;have f:IQ h h lo:=⟨fun _ _=>rfl,af _,rfl⟩;show WK _ _ _ (.seq _ _) _ _;cases hf:I8 s.e x.c with
 |none=>
  rw[Ci hf]at c;have P:decide ((-1:Int)<0)=true:=rfl;simp only[eE,seval,↓eP,rP,K0,CK,CJ,G,NE d,O,c];exact o _ _ 32 (by simp only[Tr.b,ai]) (by unfold EI;grind) f fun h=>by cases h|some t=>
  obtain⟨k,hk,p⟩:=Ms hf;have q:=(ae.1 p).1;rw[hk]at c;have P:decide ((k:Int)<0)=false:=by simp
  rcases b.p 8 (by decide) (by decide)with⟨h1,_⟩|⟨I,w,T,hg,_,_,_⟩
  .have:s.e.length=0:=h1;omega
  .have A:h.c I=.row (RE s.e++w) 233 true false:=hg;have a:V 8=qS I s.e.length AT:=T;have J:AI (k*4+1) (h.c I)=some (iv t.a):=by rw[A];exact aX (j:=1) w p (by decide)
   have U:AI (k*4+2) (h.c I)=some (iv t.c):=by rw[A];exact aX (j:=2) w p (by decide)
   have B:AI (k*4+3) (h.c I)=some (iv t.b):=by rw[A];exact aX (j:=3) w p (by decide)
   cases W:decide (t.b>(at_:Int))with
   |true=>simp only[eE,seval,↓eP,rP,K0,VJ,CK,CJ,VY,G,M,a,NE d,bL q,tN,O,B,c,P,W];exact o _ _ 32 (by simp only[Tr.b,ai]) (by unfold EI;grind) f fun h=>by cases h|false=>cases d3:(t.a !=FN x.a)with
    |true=>simp only[eE,seval,↓eP,rP,K0,VJ,CK,CJ,VY,G,M,a,NE d,bL q,tN,Pm,O,B,J,c,P,W,d3];exact o _ _ 33 (by simp only[Tr.b,ai]) (by unfold EI;grind) f fun h=>by cases h|false=>
     have L:=EO (off:=at_*5+3) B_ (v:=iv t.c) rfl rfl b.b (by rw[MT];grind) (by have:=b.k;have:=b.f.1;omega);rw[aW Y]at L;have X:=b.w (l:=JF s.a at_ t.c) TM;simp only[eE,seval,↓eP,rP,K0,VJ,CK,CJ,VY,G,M,a,NE d,bL q,tN,Pm,O,B,J,c,P,W,d3];refine WK.c (by kernel_rfl) ?_;simp only[eE,seval,DJ,K0,VJ,CK,CJ,VY,G,M,a,NE d,bL q,uE,U,L];refine o _ _ 0 (by simp only[Tr.b,ai]) (by unfold EI;grind) ⟨fun i hi=>AP b.f.2 (by have:=b.f;omega),af _,rfl⟩ fun _=>?_;have hS:C2 at_ x s={s with a:=JF s.a at_ t.c}:=by unfold C2;grind
     rw[hS];exact⟨g,V,X,⟨F.q,F.v,F.t,F.u,F.o,F.a⟩⟩
theorem vh{at_:Nat}{x:AF}(p:IP h lo m e r n nm E s)(hx:s.a[at_]?=some x)(g0:E9 x.a=true)(hn:at_<30000000000000)(P:x.a≠10->0<=x.n/\x.n<s.h.length):∃z,AW prog call N 94 [qP m 0,iv at_] h=some (iv (EY x s),z)/\(IQ h z lo/\(EY x s=0->IP z lo m e r n nm E (EZ at_ x s))):=by
 obtain⟨B,V,p,b⟩:=p;refine EA (R:=fun z=>IQ h z lo/\(EY x s=0->IP z lo m e r n nm E (EZ at_ x s))) func94 rfl (by simp) ?_;have hr:f94.results.toList=[.tmp 4]:=rfl;generalize Q:DH.top (fun ex q=>(ex=FJ.normal\/ex=FJ.ret)/\∃vs,F5 prog q f94.results.toList=some vs/\GU vs=iv (EY x s)/\IQ h q.h lo/\(EY x s=0->IP q.h lo m e r n nm E (EZ at_ x s)))=K;have d:∀(S:Tr)H v,S.a 4=iv v->v=EY x s->IQ h H lo->(v=0->IP H lo m e r n nm E (EZ at_ x s))->K.a prog call N .ret ⟨S,H⟩:=fun S H v h6 T ha U=>by
  subst T;rw[<-Q];simp only[eE,reduceCtorEq,hr,h6];grind
 have W:=p.B;obtain⟨X,l0,l1,l3,lr⟩:=p.x hx;have Y:lo<=h.a/\h.b<=h.a:=by have:=p.d;have:=p.k;omega
 have Z:=wB (x:=x) Y.2;have w1:IntKind.i64.wrap ((at_:Int)+1)=(at_:Int)+1:=BR;show WK _ _ _ (.seq _ (.seq _ (.seq (.seq _ (.cond _ _ _)) _))) _ _;simp only[eE,↓reduceIte,Nat.reduceEqDiff,reduceCtorEq,DJ,Nat.reduceAdd,Fo,Cn,K0,CK,CJ,W,NE X,lr,Z];have U:((h.d (.row FG 125 false false)).e h.a (.row (AQ x) 125 false false)).c h.a=.row (AQ x) 125 false false:=BE rfl (by show h.a<h.a+1;omega);have a:=p.t (o:=.row (AQ x) 125 false false) (o':=.row FG 125 false false);have ho:∀i,i<h.a->((h.d (.row FG 125 false false)).e h.a (.row (AQ x) 125 false false)).c i=h.c i:=fun i C=>by rw[AP (by show h.a<h.a+1;omega) (by omega),AV C]
 have g1:((h.d (.row FG 125 false false)).e h.a (.row (AQ x) 125 false false)).a=h.a+1:=rfl;have t:((h.d (.row FG 125 false false)).e h.a (.row (AQ x) 125 false false)).b=h.b:=rfl;generalize(h.d (.row FG 125 false false)).e h.a (.row (AQ x) 125 false false)=A at*;have f:AI 0 (A.c h.a)=some (iv x.a):=by rw[U];rfl
 have u:AI 3 (A.c h.a)=some (iv x.n):=by rw[U];rfl
 have k:IQ h A lo:=⟨fun i C=>ho i (by omega),by omega,t⟩;have h8:¬E9 x.a=false:=by grind
 have c7:=a.N;have c6:=a.H;by_cases h0:x.a=10
 .have D:(x.a==10)=true:=by grind
  cases F:decide (s.c>=0)with
  |true=>simp only[eE,seval,↓eP,rP,K0,JV,f,D,c7,F];exact d _ _ 31 (by simp only[Tr.b,ai]) (by unfold EY;grind) k fun h=>by cases h|false=>
   have sM:=a.D (x:=(at_:Int)+1);simp only[eE,seval,↓eP,DJ,K0,JV,f,D,c7,F,w1,sM];refine d _ _ 0 (by simp only[Tr.b,ai]) (by unfold EY;grind) ⟨fun i C=>?_,by show h.a<=A.a;omega,t⟩ fun _=>?_;.rw[AP a.d.2 (by have:=a.d;omega)];grind
   .have hS:EZ at_ x s={s with c:=(at_:Int)+1}:=by unfold EZ;grind
    rw[hS];exact⟨B,V,a.v (C':=MW s) (miss':=(at_:Int)+1),⟨b.q,b.v,b.t,b.u,b.o,b.a⟩⟩
 .have D:(x.a==10)=false:=by grind
  obtain⟨h2,h3⟩:=P h0;obtain⟨v,T⟩:∃v,s.h[x.n.toNat]?=some v:=⟨_,aa (by omega)⟩;rcases a.p 6 (by decide) (by decide)with⟨h1,_⟩|⟨O,ex,G,hg,h4,I,h5⟩;.have:s.h.length=0:=h1;omega
  .have J:A.c O=.row (ints s.h++ex) 3 true false:=hg;have c:V 6=qS O s.h.length AT:=G;have w:=Sj (l:=s.h) (ex:=ex) (ty:=3) (g:=true) (ro:=false) T;rw[<-J]at w;have y:BW prog 25 (qS O s.h.length AT) (iv x.n)=some (qP O x.n.toNat):=vd h2 h3;cases F:decide (v>=0)with
   |true=>
    simp only[eE,seval,↓eP,f,D];refine WK.c (by kernel_rfl) ?_;simp only[eE,seval,↓eP,rP,K0,I_,BH,c6,c,u,y,w,F];exact d _ _ 31 (by simp only[Tr.b,ai]) (by unfold EY;grind) k fun h=>by cases h|false=>
    have h9:=IE s.h;have hst:=EO (off:=x.n.toNat) B_ (v:=iv ((at_:Int)+1)) rfl rfl J (by grind) (by have:=a.k;omega);rw[List.set_append_left _ _ (by omega),kU]at hst;have h7:=a.z (j:=6) (s':={s with h:=s.h.set x.n.toNat ((at_:Int)+1)}) (by decide) (by decide) (ex:=ex) G h5 ⟨h4,I⟩ rfl rfl (by simp[HD]) (fun i C=>by unfold HD HU;split<;>simp_all);simp only[eE,seval,↓eP,f,D];refine WK.c (by kernel_rfl) ?_;simp only[eE,seval,↓eP,rP,K0,I_,BH,c6,c,u,y,w,F];refine WK.c (by kernel_rfl) ?_;simp only[eE,seval,DJ,K0,I_,BH,c6,c,u,y,w1,hst];refine d _ _ 0 (by simp only[Tr.b,ai]) (by unfold EY;grind) ⟨fun i C=>?_,by show h.a<=A.a;omega,t⟩ fun _=>?_;.rw[AP I (by omega)];grind
    .have hS:EZ at_ x s={s with h:=s.h.set x.n.toNat ((at_:Int)+1)}:=by unfold EZ;grind
     rw[hS];exact⟨B,V,h7,⟨b.q,b.v,b.t,b.u,by simp only[bO];exact b.o,b.a⟩⟩
end
def AL(lo:Nat)(h:AA)(v:Value)(n w:Nat)(cs:List Value):Prop:=cs.length=n*w/\∃a c,v=.slice a n c/\((n=0/\a=none)\/∃e b d i g f,a=some ⟨e,b,none⟩/\h.c e=.row d i g f/\(lo<=e/\e<h.a)/\(d.drop b).take (n*w)=cs/\(0<lo->f=false))
section
variable {lo:Nat} {h h':AA} {v:Value} {n w:Nat} {cs:List Value}
theorem AL.b(j:AL lo h v n w cs)(p:h.a<=h'.a)(q:∀i,lo<=i->i<h.a->h'.c i=h.c i):AL lo h' v n w cs:=by
 obtain⟨e,a,c,rfl,f|⟨k,b,d,l,g,m,rfl,f,r,o⟩⟩:=j;.exact⟨e,_,_,rfl,.inl f⟩
 .exact⟨e,_,_,rfl,.inr ⟨k,b,d,l,g,m,rfl,by grind,by omega,o⟩⟩
theorem AL.f(j:AL lo h v n w cs){lo':Nat}(o:lo'<=lo:=by omega):AL lo' h v n w cs:=by
 obtain⟨b,a,c,rfl,d|⟨k,e,f,l,g,m,rfl,d,p,i⟩⟩:=j;.exact⟨b,_,_,rfl,.inl d⟩
 .exact⟨b,_,_,rfl,.inr ⟨k,e,f,l,g,m,rfl,d,by omega,i.1,fun h=>i.2 (by omega)⟩⟩
theorem AL.c(b:AL lo h v n w cs){t e:TypeId}(d:prog.underlying t=some (.slice e)){h':AA}:CU prog h' t v=some (iv (n:Int)):=by obtain⟨_,a,c,rfl,_⟩:=b;simp[CU,d]
theorem AL.j(k:AL lo h v n w cs){t e:TypeId}(l:prog.underlying t=some (.slice e))(m:BN prog e=some w){i:Nat}(hi:i<n):∃b p,BW prog t v (iv (i:Int))=some (qP b p)/\b<h.a/\∀j,j<w->AI (p+j) (h.c b)=cs[i*w+j]?:=by
 obtain⟨u,a,c,rfl,⟨x,_⟩|⟨b,d,o,y,g,z,rfl,q,r,s⟩⟩:=k;.omega
 .refine⟨b,d+i*w,?_,r.2,fun j A=>?_⟩
  .simp only[BW,l,m,CB];grind
  .have f:i*w+j<n*w:=by
    have:=Nat.mul_le_mul_right w hi;grind
   rw[q,<-s.1,List.getElem?_take_of_lt f,jg];simp only[AI];grind
theorem AL.i(j:AL lo h v n w cs){t e:TypeId}(k:prog.underlying t=some (.slice e))(l:BN prog e=some w){i:Nat}(hi:i<n):∃b p,BW prog t v (iv (i:Int))=some (qP b p)/\b<h.a/\AX w p (h.c b)=some (.agg ((cs.drop (i*w)).take w).toArray):=by
 obtain⟨x,a,c,rfl,⟨y,_⟩|⟨b,d,f,z,g,A,rfl,m,o,q⟩⟩:=j;.omega
 .have r:i*w+w<=n*w:=by
   have:=Nat.mul_le_mul_right w hi;grind
  have s:(cs.drop (i*w)).take w=(f.drop (d+i*w)).take w:=by
   rw[<-q.1,List.drop_take,jl,List.take_take];grind
  have u:((cs.drop (i*w)).take w).length=w:=by grind
  refine⟨b,d+i*w,?_,o.2,?_⟩
  .simp only[BW,k,l,CB];grind
  .rw[m];simp only[AX,GN,<-s,u,ai]
theorem AL.k(e:AL lo h v n w cs):EL h w n v=some cs:=by
 obtain⟨b,a,c,rfl,⟨d,rfl⟩|⟨l,f,i,m,g,o,rfl,j,p,k⟩⟩:=e
 .subst d;rw[ff]at b;rw[fb.1 b];rfl
 .by_cases d:n=0
  .subst d;rw[ff]at b;rw[fb.1 b];simp[EL]
  .simp only[EL,d,bi,j,GN,k.1,b,ai]
theorem AL.e(lo:Nat)(h:AA)(w:Nat):AL lo h (Z0) 0 w []:=⟨by simp,none,0,rfl,.inl ⟨rfl,rfl⟩⟩
theorem AL.l{r:Nat}{ty:TypeId}{g ro:Bool}{ex:List Value}{c:Nat}(b:h.c r=.row (cs++ex) ty g ro)(d:lo<=r/\r<h.a)(e:cs.length=n*w)(a:0<lo->ro=false):AL lo h (qS r n c) n w cs:=⟨e,_,_,rfl,.inr ⟨r,0,_,_,_,_,rfl,b,d,by grind,a⟩⟩
theorem AL.d{r:Nat}{ty:TypeId}{g:Bool}{ex:List Value}{c:Nat}(a:h.c r=.row (cs++ex) ty g false)(b:lo<=r/\r<h.a)(d:cs.length=n*w):AL lo h (qS r n c) n w cs:=AL.l a b d fun _=>rfl
theorem AL.a(b:AL lo h v n w cs):one v=true:=by obtain⟨_,a,c,rfl,_⟩:=b;rfl
theorem AL.g(b:AL lo h v n w cs):v.cells=#[v]:=by obtain⟨_,a,c,rfl,_⟩:=b;rfl
theorem GV.b{tag:Nat->Nat}{j:Nat}{ty:TypeId}(a:GV h lo tag j v n cs ty)(b:cs.length=n*w):AL lo h v n w cs:=by
 rcases a with⟨rfl,rfl,rfl⟩|⟨f,g,rfl,c,d,e,i⟩;.exact AL.e lo h w
 .exact AL.d c ⟨d,e⟩ b
end
def AK(lo:Nat)(h:AA)(v:Value)(l:List Int):Prop:=AL lo h v l.length 1 (ints l)
section
variable {lo:Nat} {h h':AA} {v:Value} {l:List Int}
theorem AK.U(a:AK lo h v l)(b:h.a<=h'.a)(c:∀i,lo<=i->i<h.a->h'.c i=h.c i):AK lo h' v l:=AL.b a b c
theorem AK.X(a:AK lo h v l){lo':Nat}(b:lo'<=lo:=by omega):AK lo' h v l:=AL.f a b
theorem AK.Z(a:AK lo h v l){h':AA}:CU prog h' 25 v=some (iv (l.length:Int)):=AL.c a au
theorem AK.V(c:AK lo h v l){i:Nat}{x:Int}(b:l[i]?=some x):∃a p,BW prog 25 v (iv (i:Int))=some (qP a p)/\a<h.a/\AI p (h.c a)=some (iv x):=by obtain⟨a,p,d,e,f⟩:=AL.j c au B_ (ae.1 b).1;refine⟨a,p,d,e,?_⟩;have:=f 0 (by decide);rw[fe]at this;rw[this,cy,fe,cZ,b];rfl
theorem AK.O{r:Nat}{ty:TypeId}{g:Bool}{ex:List Value}{c n:Nat}(a:h.c r=.row (ints l++ex) ty g false)(b:lo<=r/\r<h.a)(d:n=l.length):AK lo h (qS r n c) l:=by subst d;exact AL.d a b (by rw[IE,cy])
theorem AK.Y{r:Nat}{ty:TypeId}{g:Bool}{c n:Nat}(a:h.c r=.row (ints l) ty g false)(b:lo<=r/\r<h.a)(d:n=l.length):AK lo h (qS r n c) l:=AK.O (ex:=[]) (by rw[dm];exact a) b d
end
def JZ(lo:Nat)(h:AA)(v:Value)(l:List AF):Prop:=A8 h v l/\AL lo h v l.length 5 (l.flatMap AQ)
theorem JZ.b{lo:Nat}{h:AA}{v:Value}{l:List AF}(e:AL lo h v l.length 5 (l.flatMap AQ)):JZ lo h v l:=by
 refine⟨?_,e⟩;obtain⟨t,a,c,rfl,⟨i,rfl⟩|⟨j,b,d,m,g,n,rfl,o,p,q⟩⟩:=e;.exact⟨_,_,rfl,.inl ⟨fb.1 i,rfl⟩⟩
 .refine⟨_,_,rfl,.inr ⟨j,b,d,m,g,n,rfl,o,p.2,fun k r f=>?_⟩⟩;have s:=(ae.1 f).1;rw[<-U_ f,<-q.1,List.drop_take,jl,List.take_take];grind
theorem JZ.a{lo:Nat}{h h':AA}{v:Value}{l:List AF}(a:JZ lo h v l)(b:h.a<=h'.a)(c:∀i,lo<=i->i<h.a->h'.c i=h.c i):JZ lo h' v l:=JZ.b (a.2.b b c)
def CG(lo:Nat)(h:AA)(g:Value)(nm:ByteArray)(s:AS):Prop:=∃a b c d e f,g=.agg #[.string nm,a,b,c,d,e,f,iv s.c]/\JZ lo h a s.a/\AL lo h b s.b.length 2 (EH s.b)/\AL lo h c s.f.length 1 (DN s.f)/\AL lo h d s.g.length 1 (DN s.g)/\AK lo h e s.d/\AK lo h f s.h
theorem CG.a{lo:Nat}{h h':AA}{c:Value}{nm:ByteArray}{s:AS}(d:CG lo h c nm s)(a:h.a<=h'.a)(b:∀i,lo<=i->i<h.a->h'.c i=h.c i):CG lo h' c nm s:=by obtain⟨e,f,g,j,k,l,m,n,o,p,q,r,t⟩:=d;exact⟨e,f,g,j,k,l,m,n.a a b,o.b a b,p.b a b,q.b a b,r.U a b,t.U a b⟩
theorem A8.f{h:AA}{v:Value}{l:List AF}(b:A8 h v l):one v=true:=by obtain⟨a,c,rfl,_⟩:=b;rfl
theorem Ky{a b c d e f g i:Value}:(Value.agg #[a,b,c,d,e,f,g,i]).cells.toList=[a,b,c,d,e,f,g,i]:=rfl
section
variable {call:AY} {N:Nat} {h:AA}
theorem vi{a b:Int}(i:0<=b/\b<=4611686018427387904)(j:0<=a/\a<=4611686018427387904):AW prog call N 96 [iv a,iv b] h=some (iv (CP a b),h):=by
 refine DO func96 rfl (by simp) ?_;have c:f96.results.toList=[.tmp 4]:=rfl;have e:IntKind.i64.wrap (4611686018427387904-b)=4611686018427387904-b:=BR;unfold CP;cases d:decide (a>4611686018427387904-b)with
 |true=>
  rw[ag (by grind)];simp only[eE,seval,↓eP,c,e,d]|false=>
  have f:¬a>4611686018427387904-b:=by grind
  have g:IntKind.i64.wrap (a+b)=a+b:=BR;rw[ad f];simp only[eE,seval,↓eP,c,e,d,g]
theorem Dw{a b:Int}(h:AA)(c:0<=b/\b<=4611686018427387904)(d:0<=a/\a<=4611686018427387904):L1 96 [iv a,iv b] h=some (iv (CP a b),h):=HJ (JP rfl rfl) rfl rfl rfl ⟨_,vi c d⟩
theorem vj{vr v0 vq vv vt vu vo v7 O vs:Value}{rows:List AF}{E S:List Int}{row q:Nat}(v:one v0=true/\one vq=true/\one vv=true/\one vt=true/\one vu=true/\one vo=true/\one v7=true)(hv:A8 h vr rows){le ls:Nat}(P:AK le h O E)(hS:AK ls h vs S)(hs:FM S)(hE:E[row]?=some (q:Int))(h5:row<=q)(hq:q<=rows.length)(h3:rows.length<30000000000000)(hN:rows.length+3<N)(l:∀x∈(rows.drop row).take (q-row),x.a=22->0<=x.n/\x.n<S.length)(w:∀a b r,0<=b/\b<=4611686018427387904->0<=a/\a<=4611686018427387904->call 96 [iv a,iv b] r=some (iv (CP a b),r)):∃r,AW prog call N 97 [.agg #[v0,vr,vq,vv,vt,vu,vo,v7],O,vs,iv row] h=some (iv (IN S ((rows.drop row).take (q-row)) 0),r)/\∀i,i<h.a->r.c i=h.c i:=by
 refine EA (R:=fun r=>∀i,i<h.a->r.c i=h.c i) func97 rfl (by simp) ?_;have hr:f97.results.toList=[.tmp 8]:=rfl;have z:[v0,vr,vq,vv,vt,vu,vo,v7].all one=true:=by
  obtain⟨a,b,c,d,e,f,g⟩:=v;simp[a,b,c,d,e,f,g,hv.f]
 have j:∀i,i<h.a->(h.d (.row [v0,vr,vq,vv,vt,vu,vo,v7] 27 false false)).c i=h.c i:=fun i u=>AV u;have A:(h.d (.row [v0,vr,vq,vv,vt,vu,vo,v7] 27 false false)).c h.a=.row [v0,vr,vq,vv,vt,vu,vo,v7] 27 false false:=BJ;have h6:(h.d (.row [v0,vr,vq,vv,vt,vu,vo,v7] 27 false false)).a=h.a+1:=rfl;simp only[eE,seval,hr,Ky,z,EQ];generalize h.d (.row [v0,vr,vq,vv,vt,vu,vo,v7] 27 false false)=H at*;have Q:=hv.a (h':=H) (by omega) j;have T:=P.U (h':=H) (by omega) fun i _ u=>j i u;have U:=hS.U (h':=H) (by omega) fun i _ u=>j i u;obtain⟨ie,pe,V,e2,W⟩:=T.V hE;have B:AI 1 (H.c h.a)=some vr:=by rw[A];rfl
 have h4:((rows.drop row).take (q-row)).length=q-row:=by rw[fu,List.length_drop];omega
 refine WK.b (fun i s=>s.h=H/\s.T.a 1=O/\s.T.a 2=vs/\s.T.a 3=iv row/\s.T.a 4=qP h.a 0/\s.T.a 10=iv ((row+i:Nat):Int)/\i<=q-row/\∃n:Int,s.T.a 9=iv n/\0<=n/\n<=4611686018427387904/\IN S (((rows.drop row).take (q-row)).drop i) n=IN S ((rows.drop row).take (q-row)) 0) (q-row) (by omega) ?_ ?_
 .simp only[eE,↓reduceIte,Nat.reduceEqDiff,rP];simp
 .rintro i⟨T1,H1⟩u⟨rfl,J,X,K,Y,m,h7,n,L,C,Z,k⟩;simp only at J X K Y m L;by_cases h8:i<q-row
  .have M:decide (((row+i:Nat):Int)<(q:Int))=true:=by grind
   have w1:IntKind.i64.wrap (((row+i:Nat):Int)+1)=((row+(i+1):Nat):Int):=by rw[BR];omega
   obtain⟨x,hx⟩:∃x,rows[row+i]?=some x:=⟨_,aa (by omega)⟩;obtain⟨id,p,e0,h9,l0,l1,l2,l3,l4,lr⟩:=Q.b hx;have D:((rows.drop row).take (q-row))[i]?=some x:=by grind
   have p1:=K7 (a:=n) (b:=1) C (by omega) (by omega);have o:=fun hh=>w n 1 hh (by omega) ⟨C,Z⟩;have h0:((rows.drop row).take (q-row)).drop i=x::((rows.drop row).take (q-row)).drop (i+1):=by
    obtain⟨hl,P⟩:=ae.1 D;rw[cd hl,P]
   rw[h0]at k;change IN S (((rows.drop row).take (q-row)).drop (i+1)) (if x.a=22 then CP (CP n 1) (GL S x.n)else CP n 1)=_ at k;cases F:(x.a==22)with
   |false=>rw[ad (by grind)]at k;simp only[eE,seval,↓eP,rP,J,X,K,Y,L,m,V,W,M,o,CK,CJ,B,e0,l0,F,w1];omega|true=>
    have G:x.a=22:=by grind
    rw[ag G]at k;obtain⟨n0,n1⟩:=l x (aw D) G;obtain⟨y,hy⟩:∃y,S[x.n.toNat]?=some y:=⟨_,aa (by omega)⟩;obtain⟨is,ps,f1,f2,f3⟩:=U.V hy;rw[Int.toNat_of_nonneg n0]at f1;have h1:GL S x.n=y:=by unfold GL;grind
    rw[h1]at k;have t:=hs y (aw hy);have p2:=K7 p1.1 t.1 t.2;have I:=fun hh=>w (CP n 1) y hh t p1;simp only[eE,seval,↓eP,rP,J,X,K,Y,L,m,V,W,M,o,I,CK,CJ,B,e0,l0,l3,F,w1,f1,f3];omega
  .have M:decide (((row+i:Nat):Int)<(q:Int))=false:=by grind
   have h2:n=IN S ((rows.drop row).take (q-row)) 0:=by
    rw[<-k,eC (by omega)];rfl
   subst h2;simp only[eE,seval,↓eP,rP,J,K,L,m,V,W,M];exact j
end
theorem G_{P:Program}{call:AY}{n:Nat}{f:FuncId}{args:List Value}{h:AA}{a:Func}{c:Code}{R:Value->AA->Prop}(g:P.funcs[f]?=some a)(i:a.body=some c)(j:args.length<=a.ntmps)(k:WK P call n c ⟨JX 0 args .leaf,h⟩ (.top fun e s=>(e=.normal\/e=.ret)/\∃b,F5 P s a.results.toList=some b/\R (GU b) s.h)):∃v d,AW P call n f args h=some (v,d)/\R v d:=Ae g i j k
theorem Wd{h:AA}{lo:Nat}{v:Value}{l:List Int}{x:Int}(j:GV h lo (fun _=>1) 1 v l.length (ints l) 3)(k:lo<=h.a)(m:h.b<=lo)(A:l.length<10000000):∃b a,DR prog (h.d (.row [iv x] 3 false false)) 25 v (qS h.a 1 1)=some (b,a)/\GV a lo (fun _=>1) 1 b (l++[x]).length (ints (l++[x])) 3/\a.b=h.b/\h.a<=a.a/\∀i,i<lo->a.c i=h.c i:=by
 have e:GV (h.d (.row [iv x] 3 false false)) lo (fun i=>if i=h.a then 0 else 1) 1 v l.length (ints l) 3:=j.a (by show h.a<=h.a+1;omega) (fun i f=>ad (by omega)) fun i _ f _=>AV f;obtain⟨b,g,n,d,o,p,B,C,q⟩:=UW (et:=3) (w:=1) (c:=1) (sc:=1) (xs:=[iv x]) au B_ IZ GD rfl (by decide) (by decide) e ((IE _).trans (cy _).symm) (MJ _) rfl rfl (by decide) (by decide) (by omega) (src:=h.a) BJ (by show h.a<h.a+1;omega) m (by simp);have r:g.a=h.a+2:=p;refine⟨b,g,n,?_,o,by omega,fun i f=>?_⟩
 .rcases d with d|d
  .rcases d with⟨D,_⟩|⟨s,t,E,u,y,z,F⟩;.omega
   .refine .inr ⟨s,t,?_,?_,y,z,rfl⟩;.grind
    .rw[u];simp[ints]
  omega
 .rw[q i (by omega) (by omega),AV]
def KA(rows:List AF)(E:List Int):List Int->List Int->List Int|[],S=>S|b::a,S=>KA rows E a (S++[Gz0 rows E S b.toNat])
def blk(rows:List AF)(E:List Int)(row:Nat):List AF:=(rows.drop row).take (((E[row]?).getD 0).toNat-row)
structure XH (rows:List AF) (E rules:List Int):Prop where
 a:TH rows E rules
 b:∀ (i:Nat) (ru:Int),rules[i]?=some ru->∀ x∈blk rows E ru.toNat,x.a=22->x.n<i
theorem TH.f{rows:List AF}{E rules:List Int}(a:TH rows E rules){i:Nat}(hi:i<rows.length):∃q:Nat,E[i]?=some (q:Int)/\i<=q/\q<=rows.length/\blk rows E i=(rows.drop i).take (q-i):=by obtain⟨q,b,d,c⟩:=a.d i hi;exact⟨q,b,by omega,c,by unfold blk;grind⟩
section
variable {call:AY} {N:Nat} {h:AA}
theorem vk{vr v0 vq vv vt vu vo v7 ve:Value}{rows:List AF}{E rules:List Int}(A:one v0=true/\one vq=true/\one vv=true/\one vt=true/\one vo=true/\one v7=true)(hv:A8 h vr rows){le lu:Nat}(he:AK le h ve E)(Q:AK lu h vu rules)(B:XH rows E rules)(h0:h.b<=h.a)(hN:rules.length+3<N)(T:∀vs S l H,(∀i,i<h.a->H.c i=h.c i)->h.a<=H.a->AK (h.a+1) H vs S->FM S->l<rows.length->(∀x∈blk rows E l,x.a=22->0<=x.n/\x.n<S.length)->call 97 [.agg #[v0,vr,vq,vv,vt,vu,vo,v7],ve,vs,iv (l:Int)] H=some (iv (Gz0 rows E S l),H)):∃v h',AW prog call N 95 [.agg #[v0,vr,vq,vv,vt,vu,vo,v7],ve] h=some (v,h')/\(AK h.a h' v (KA rows E rules [])/\h'.b=h.b/\h.a<=h'.a/\∀i,i<h.a->h'.c i=h.c i):=by
 refine G_ (R:=fun v h'=>AK h.a h' v (KA rows E rules [])/\h'.b=h.b/\h.a<=h'.a/\∀i,i<h.a->h'.c i=h.c i) func95 rfl (by simp) ?_;have hr:f95.results.toList=[.tmp 4]:=rfl;have C:[v0,vr,vq,vv,vt,vu,vo,v7].all one=true:=by
  obtain⟨a,b,c,d,e,f⟩:=A;simp[a,b,c,d,e,f,hv.f,AL.a Q]
 have D:∀i,i<h.a->(h.d (.row [v0,vr,vq,vv,vt,vu,vo,v7] 27 false false)).c i=h.c i:=fun i z=>AV z;have F:(h.d (.row [v0,vr,vq,vv,vt,vu,vo,v7] 27 false false)).c h.a=.row [v0,vr,vq,vv,vt,vu,vo,v7] 27 false false:=BJ;have h2:(h.d (.row [v0,vr,vq,vv,vt,vu,vo,v7] 27 false false)).a=h.a+1:=rfl;have U:(h.d (.row [v0,vr,vq,vv,vt,vu,vo,v7] 27 false false)).b=h.b:=rfl;simp only[eE,seval,hr,Ky,C,EQ];generalize h.d (.row [v0,vr,vq,vv,vt,vu,vo,v7] 27 false false)=H at*;refine WK.b (fun i s=>s.T.a 1=ve/\s.T.a 2=qP h.a 0/\s.T.a 6=iv i/\i<=rules.length/\s.h.b=h.b/\h.a+1<=s.h.a/\(∀i,i<h.a+1->s.h.c i=H.c i)/\∃S:List Int,GV s.h (h.a+1) (fun _=>1) 1 (s.T.a 5) S.length (ints S) 3/\FM S/\S.length=i/\KA rows E (rules.drop i) S=KA rows E rules []) rules.length (by omega) ?_ ?_
 .simp only[eE,↓reduceIte,Nat.reduceEqDiff,rP];exact⟨rfl,U,by omega,fun _ _=>cj,[],.inl ⟨rfl,rfl,rfl⟩,(fun x m=>by cases m),rfl,rfl⟩
 .rintro i⟨T1,H1⟩z⟨t1,O,P,h3,G,I,q,S,r,t,h4,n⟩;simp only at t1 O P G I q r;have u:=fun i z=>(q i (by omega)).trans (D i z);have hg:=(q _ (by omega)).trans F;have w:AK (h.a+1) H1 (T1.a 5) S:=GV.b r ((IE _).trans (cy _).symm);have V:=Q.U (h':=H1) (by omega) fun i _ z=>u i z;have hulen:=fun h'=>Q.Z (h':=h');have y:AI 5 (H1.c h.a)=some vu:=by rw[hg];rfl
  have W:AX 8 0 (H1.c h.a)=some (.agg #[v0,vr,vq,vv,vt,vu,vo,v7]):=by rw[hg];rfl
  by_cases J:i<rules.length
  .have X:decide ((i:Int)<(rules.length:Int))=true:=by grind
   have w1:IntKind.i64.wrap ((i:Int)+1)=((i+1:Nat):Int):=BR (by omega) (by have:=B.a.b;omega);obtain⟨o,p⟩:∃o,rules[i]?=some o:=⟨_,aa J⟩;obtain⟨r0,r1⟩:=B.a.g o (aw p);obtain⟨iu,pu,f1,f2,f3⟩:=V.V p;have hc:=T (T1.a 5) S o.toNat H1 u (by omega) w t (by omega) (fun x m h22=>by
    have h1:=B.b i o p x m h22;refine⟨?_,by omega⟩;have:=iQ (List.mem_of_mem_take m);exact(B.a.a x this h22).1);rw[Int.toNat_of_nonneg r0]at hc;have Y:rules.drop i=o::rules.drop (i+1):=by obtain⟨hl,he⟩:=ae.1 p;rw[cd hl,he]
   rw[Y,KA]at n;obtain⟨v',H2,a1,a2,a3,a4,a5⟩:=Wd (x:=Gz0 rows E S o.toNat) r I (by omega) (by have:=B.a.b;omega);have h5:=WN (rows:=rows) (E:=E) t o.toNat;simp only[eE,seval,↓eP,O,P,GF,BH,y,hulen,X];refine WK.c (by kernel_rfl) ?_;simp only[eE,seval,rP,t1,O,P,GF,BH,C7,y,W,f1,f3,hc,KE,a1,w1];refine⟨J,by omega,by omega,by omega,fun j hj=>by grind,S++[Gz0 rows E S o.toNat],a2,?_,by grind,n⟩;intro x m;rcases ji.1 m with m|m;.exact t x m
   grind
  .have X:decide ((i:Int)<(rules.length:Int))=false:=by grind
   rw[eC (by omega)]at n;have Z:S=KA rows E rules []:=n;rw[Z]at w;simp only[eE,seval,↓eP,O,P,GF,BH,y,hulen,X];exact⟨w.X (by omega),G,by omega,u⟩
end
def pT:Code->Code|.loop c=>c|.block _ c=>c|c=>c
noncomputable def b84:Code:=f159.body.getD .skip
noncomputable def r8:Code:=pT (pT (rt (lf (rt (rt (rt b84))))))
noncomputable def bA:Code:=pT (lf (rt r8))
noncomputable def X1:Code:=rt bA
noncomputable def X2:Code:=rt X1
noncomputable def X3:Code:=rt X2
noncomputable def X4:Code:=rt X3
noncomputable def X5:Code:=rt X4
noncomputable def X6:Code:=rt X5
def vl(i:Nat)(f:D9):Prop:=(1<=f.a/\f.a<=54)/\0<f.c/\(f.a=1\/f.a=11\/(f.b:Int)+f.c<=DV f.a)/\f.c<=9223372036854775807/\f.b<=i
theorem Po{k:Int}{j:Nat}:KB (CH k j)=CH k j/\RD (CH k j):=by unfold CH;(repeat' split)<;>exact⟨rfl,by unfold RD;omega⟩
theorem vn{f:D9}{s:List D9}:WG f.a f.b=KB (PZ (f::s)):=by
 show _=KB (if f.a=1 then 9 else CH f.a f.b);unfold WG;split;.rfl
 .exact Po.1.symm
theorem Kl{s:List D9}:RD (PZ s):=by cases s with
 |nil=>exact .inl rfl|cons f s=>
  show RD (if f.a=1 then 9 else CH f.a f.b);split;.exact .inr (.inl rfl)
  .exact Po.2
theorem vp{w:Int}(h:RD w):(KB w==1)=decide (w=9):=by rcases h with rfl|rfl|rfl|rfl|rfl|rfl|rfl|rfl<;>rfl
section
variable {call:AY} {n:Nat}
def O1(h:AA)(v:Value)(i:Nat)(T:Tr)(H:AA)(s:List D9)(a:Bool):Prop:=T.a 0=v/\T.a 5=iv i/\T.a 4=.bool a/\PA h.a H (T.a 3) s/\H.b=h.b/\h.a<=H.a/\∀j,j<h.a->H.c j=h.c j
structure bW (call:AY):Prop where
 d:∀ (κ:Int) (j:Nat) h,1<=κ/\κ<=54->(κ=1\/κ=11\/(j:Int)<DV κ)->call 219 [iv κ,iv j] h=some (iv (WG κ j),h)
 a:∀ w (x:AF) h,RD w->call 220 [CW x,iv (KB w)] h=some (.bool (IB w x.a&&EW BG x),h)
 c:∀ k h,call 221 [iv k] h=some (.bool (CX 0 k),h)
 b:∀ k h,call 222 [iv k] h=some (.bool (CX 1 k),h)
theorem m7{h:AA}{v:Value}{i:Nat}{T:Tr}{H:AA}{s:List D9}{G:Bool}{k:DH}(S:bW call)(U:O1 h v i T H s G)(V:h.b<=h.a)(hs:s.length<2932031007403)(hi:i<2932031007403)(B:∀f W,s=f::W->vl i f)(I:∀C J,O1 h v i C J (N9 s) G->C.a 6=iv (KB (PZ s))->WK prog call n X2 ⟨C,J⟩ k):WK prog call n bA ⟨T,H⟩ k:=by
 obtain⟨K,L,M,l,N,X,q⟩:=U;show WK _ _ _ (.seq _ (.seq _ X2)) _ _;have r:=fun h'=>l.a (h':=h');cases s with
 |nil=>
  have D:decide (((([]:List D9).length:Nat):Int)>0)=false:=rfl;simp only[eE,seval,↓eP,r,D];refine I _ _ ⟨?_,?_,?_,?_,N,X,q⟩ ?_;.simp only[eE,seval,K]
  .simp only[eE,seval,L]
  .simp only[eE,seval,M]
  .simp only[eE,seval];exact l
  .simp only[eE,seval];rfl|cons f s0=>
  obtain⟨id,ex,hvs,O,E,t⟩:=l.b;have D:decide (((s0.length+1:Nat):Int)>0)=true:=by simp
  have P:IntKind.i64.wrap (((s0.length+1:Nat):Int)-1)=(s0.length:Int):=by rw[BR (by omega) (by grind)];simp
  have Y:∀{n c},s0.length<n->BW prog 257 (qS id n c) (iv (s0.length:Int))=some (.pointer (some ⟨id,s0.length*3,none⟩)):=fun h=>Hj h;have u:=Y (n:=s0.length+1) (c:=AT) (by omega);obtain⟨c1,c2,Z,c4⟩:=tM (s:=s0) (f:=f) (ex:=ex) (ty:=259) (g:=true) (ro:=false);have d:=B f s0 rfl;have w:=fun hh=>S.d f.a f.b hh d.1 (by
   rcases d.2.2.1 with h|h|h;.omega
   .omega
   .exact .inr (.inr (by have:=d.2.1;omega)));have y:(H.b<=H.a)=True:=by grind
  have z:(H.a<H.a+1)=True:=by simp
  simp only[eE,seval,↓eP,rP,hvs,SA,D,P,u,O,c4,rz,dW,Cc,rC,rE,y,z,Jg,Av];have A:((H.d (.row [iv 0,iv 0,iv 0] 259 false false)).e H.a (.row [iv f.a,iv (f.c:Int),iv (f.b:Int)] 259 false false)).c id=.row (HT s0++(KQ f++ex)) 259 true false:=by rw[AP (by show H.a<H.a+1;omega) (by omega),AV t];exact O
  have h0:((H.d (.row [iv 0,iv 0,iv 0] 259 false false)).e H.a (.row [iv f.a,iv (f.c:Int),iv (f.b:Int)] 259 false false)).a=H.a+1:=rfl;have F:((H.d (.row [iv 0,iv 0,iv 0] 259 false false)).e H.a (.row [iv f.a,iv (f.c:Int),iv (f.b:Int)] 259 false false)).b=h.b:=N;have h1:∀j,j<h.a->((H.d (.row [iv 0,iv 0,iv 0] 259 false false)).e H.a (.row [iv f.a,iv (f.c:Int),iv (f.b:Int)] 259 false false)).c j=h.c j:=fun j hj=>by rw[AP (by show H.a<H.a+1;omega) (by omega),AV];grind
  generalize(H.d (.row [iv 0,iv 0,iv 0] 259 false false)).e H.a (.row [iv f.a,iv (f.c:Int),iv (f.b:Int)] 259 false false)=H1 at*;have h2:=d.2.2.2;have h3:=d.2.1;have h4:=ZR s0;have w2:IntKind.i64.wrap ((f.b:Int)+1)=((f.b+1:Nat):Int):=BR;have w3:IntKind.i64.wrap ((f.c:Int)-1)=((f.c-1:Nat):Int):=by rw[BR];omega
  have Q:=PG (x:=((f.b+1:Nat):Int)) (off:=s0.length*3+2) A (by simp[KQ];omega) (by omega);rw[Wj]at Q;have e:(H1.e id (.row (HT s0++(KQ ⟨f.a,f.c,f.b+1⟩++ex)) 259 true false)).c id=.row (HT s0++(KQ ⟨f.a,f.c,f.b+1⟩++ex)) 259 true false:=BE rfl (by omega);obtain⟨_,d2,_,_⟩:=tM (s:=s0) (f:=⟨f.a,f.c,f.b+1⟩) (ex:=ex) (ty:=259) (g:=true) (ro:=false);have R:=PG (h:=H1.e id (.row (HT s0++(KQ ⟨f.a,f.c,f.b+1⟩++ex)) 259 true false)) (x:=((f.c-1:Nat):Int)) (off:=s0.length*3+1) e (by simp[KQ];omega) (by show H1.b<=id;omega);rw[sd]at R;simp only[eE,seval,DJ,w,hvs,SA,P,w2,w3,u,A,e,Z,d2,kN,Av,Q,R];have h5:((H1.e id (.row (HT s0++(KQ ⟨f.a,f.c,f.b+1⟩++ex)) 259 true false)).e id (.row (HT s0++(KQ ⟨f.a,f.c-1,f.b+1⟩++ex)) 259 true false)).a=H1.a:=rfl;refine I _ _ ⟨?_,?_,?_,?_,F,?_,fun j hj=>?_⟩ ?_;.simp only[eE,seval,K]
  .simp only[eE,seval,L]
  .simp only[eE,seval,M]
  .simp only[eE,seval,hvs];refine .inr ⟨id,ex,by rw[N9];rfl,?_,E,by omega⟩;rw[BE rfl (by show id<H1.a;omega),N9,HT,gh]
  .omega
  .rw[AP (by show id<H1.a;omega) (by omega),AP (by omega) (by omega)];grind
  .simp only[eE,seval];rw[<-vn]
theorem jU{h:AA}{v:Value}{i:Nat}{T:Tr}{H:AA}{s:List D9}{y:Bool}{k:DH}{l:List AF}{w:Int}(F:bW call)(z:A8 h v l)(A:O1 h v i T H s y)(G:RD w)(p:T.a 6=iv (KB w))(b:(l[i]?=none\/∃x,l[i]?=some x/\(IB w x.a&&EW BG x)=false)->∀f:Tr,f.a 2=iv i->k.a prog call n .ret ⟨f,H⟩)(e:∀x,l[i]?=some x->(IB w x.a&&EW BG x)=true->∀f:Tr,O1 h v i f H s y->f.a 6=iv (KB w)->WK prog call n X3 ⟨f,H⟩ k):WK prog call n X2 ⟨T,H⟩ k:=by
 have I:=A;obtain⟨g,j,J,r,K,B,c⟩:=A;have t:=z.a B c;have a:∀C,CU prog C 22 v=some (.int .i64 l.length):=fun C=>z.c;show WK _ _ _ (.seq _ X3) _ _;by_cases L:i<l.length
 .obtain⟨x,u⟩:∃x,l[i]?=some x:=⟨_,aa L⟩;have m:decide ((i:Int)>=(l.length:Int))=false:=by grind
  obtain⟨O,q,D,M,P,Q,R,S,U,E⟩:=t.b u;have o:=fun N=>F.a w x N G;cases d:(IB w x.a&&EW BG x)with
  |false=>rw[d]at o;simp only[eE,seval,↓eP,rP,g,j,p,a,m,D,E,o];exact b (.inr ⟨x,u,d⟩) _ (by simp only[eE,seval])|true=>
   rw[d]at o;simp only[eE,seval,↓eP,rP,g,j,p,a,m,D,E,o];refine e x u d _ ⟨?_,?_,?_,?_,K,B,c⟩ ?_;.simp only[eE,seval,g]
   .simp only[eE,seval,j]
   .simp only[eE,seval,J]
   .simp only[eE,seval];exact r
   .simp only[eE,seval,p]
 .have m:decide ((i:Int)>=(l.length:Int))=true:=by grind
  simp only[eE,seval,↓eP,g,j,a,m];exact b (.inl (de (by omega))) _ (by simp only[eE,seval])
theorem nM{h:AA}{v:Value}{i:Nat}{T:Tr}{H:AA}{s:List D9}{e:Bool}{k:DH}{l:List AF}{w:Int}{x:AF}(E:bW call)(G:A8 h v l)(I:O1 h v i T H s e)(J:RD w)(p:T.a 6=iv (KB w))(K:l[i]?=some x)(m:w=9/\e=true/\CX 0 x.a=true->∀a:Tr,a.a 2=iv i->k.a prog call n .ret ⟨a,H⟩)(b:¬(w=9/\e=true/\CX 0 x.a=true)->∀a:Tr,O1 h v i a H s (if w=9 then e||CX 1 x.a else e)->WK prog call n X4 ⟨a,H⟩ k):WK prog call n X3 ⟨T,H⟩ k:=by
 obtain⟨g,j,r,u,F,y,c⟩:=I;have z:=G.a y c;obtain⟨R,q,A,L,B,S,U,V,W,X⟩:=z.b K;have t:=E.c x.a;have M:=E.b x.a;have N:=vp J;show WK _ _ _ (.seq _ X4) _ _;by_cases C:w=9
 .subst C;have o:(KB 9==1)=true:=rfl;have d:∀f:Bool,(e||CX 1 x.a)=f->¬((9:Int)=9/\e=true/\CX 0 x.a=true)->∀a:Tr,a.a 0=v->a.a 5=iv i->a.a 4=.bool f->a.a 3=T.a 3->WK prog call n X4 ⟨a,H⟩ k:=fun f Y O a P Q Z u3=>b O a ⟨P,Q,by grind,by grind,F,y,c⟩;cases e with
  |true=>cases D:CX 0 x.a with
   |true=>rw[D]at t;simp only[eE,seval,↓eP,rP,g,j,r,p,o,A,B,t];exact m ⟨rfl,rfl,D⟩ _ (by simp only[eE,seval])|false=>rw[D]at t d;simp only[eE,seval,↓eP,rP,g,j,r,p,o,A,B,t];refine d true rfl (by simp) _ ?_ ?_ ?_ ?_<;>simp only[eE,seval,g,j]
  |false=>
   simp only[eE,seval,↓eP,rP,g,j,r,p,o,A,B,M];refine d (CX 1 x.a) (eg _) (by simp) _ ?_ ?_ ?_ ?_<;>simp only[eE,seval,g,j]
 .have o:(KB w==1)=false:=by grind
  simp only[eE,seval,↓eP,p,o];refine b (fun h=>C h.1) _ ⟨?_,?_,?_,?_,F,y,c⟩;.simp only[eE,seval,g]
  .simp only[eE,seval,j]
  .simp only[eE,seval,r,C]
  .simp only[eE,seval];exact u
end
section
variable {call:AY} {n:Nat}
theorem Vz{h:AA}{v:Value}{i:Nat}{T:Tr}{H:AA}{s:List D9}{t:Bool}{k:DH}{l:List AF}{x:AF}(A:A8 h v l)(B:O1 h v i T H s t)(C:l[i]?=some x)(d:0<=x.b)(D:h.b<=h.a)(E:s.length<2932031007403)(F:∀u m,O1 h v i u m (⟨x.a,x.b.toNat,0⟩::s) t->WK prog call n X5 ⟨u,m⟩ k):WK prog call n X4 ⟨T,H⟩ k:=by
 obtain⟨w,y,G,o,P,z,e⟩:=B;have p:=A.a z e;obtain⟨Q,q,I,J,K,R,S,U,L,V⟩:=p.b C;obtain⟨W,m,M,g,N,O,r⟩:=se (a:=x.a) (b:=x.b) (c:=0) (f:=⟨x.a,x.b.toNat,0⟩) (by simp only[KQ,Int.toNat_of_nonneg d];rfl) o (by omega) z E;show WK _ _ _ (.seq (.region _ _ true) X5) _ _;rw[NB];refine WK.c (by kernel_rfl) ?_;simp only[eE,seval,rP,w,y,I,K,L,Xw,bsO,M];refine F _ _ ⟨?_,?_,?_,?_,by omega,by omega,fun j X=>by grind⟩;.simp only[eE,seval,w]
 .simp only[eE,seval,y]
 .simp only[eE,seval,G]
 .simp only[eE,seval];exact g
theorem Ol:∀s:List D9,(IU s).length<=s.length
 |[]=>af _|f::s=>by
  by_cases a:f.c=0;.rw[aH a];have:=Ol s;grind
  .rw[ZS a];omega
theorem PA.c{m:Nat}{h:AA}{f:D9}{s:List D9}{v:Value}(b:PA m h v (f::s)):∃a,v=qS a (s.length+1) AT/\PA m h (qS a s.length AT) s:=by obtain⟨a,c,d,e,g,i⟩:=b.b;exact⟨a,d,.inr ⟨a,KQ f++c,rfl,e,g,i⟩⟩
theorem vw{h:AA}{v:Value}{i:Nat}{T:Tr}{H:AA}{s:List D9}{u:Bool}{k:DH}(M:O1 h v i T H s u)(hs:s.length<2932031007403)(A:s.length<n)(N:∀b,O1 h v i b H (IU s) u->WK prog call n X6 ⟨b,H⟩ k):WK prog call n X5 ⟨T,H⟩ k:=by
 obtain⟨O,P,Q,B,R,S,hold⟩:=M;show WK _ _ _ (.seq (.block _ (.loop _)) X6) _ _;rw[NB,XF];refine WK.b (fun j p=>p.h=H/\p.T.a 0=v/\p.T.a 5=iv i/\p.T.a 4=.bool u/\∃s',PA h.a H (p.T.a 3) s'/\IU s'=IU s/\s'.length+j<=s.length) s.length A ⟨rfl,O,P,Q,s,B,rfl,by omega⟩ ?_;rintro j⟨U,H1⟩hj⟨rfl,w,x,y,s',a,hp,hl⟩;simp only at w x y a;have q:IU s'=s'->∀b:Tr,b.a 0=v->b.a 5=iv i->b.a 4=.bool u->b.a 3=U.a 3->WK prog call n X6 ⟨b,H1⟩ k:=fun e b Y Z w4 w3=>N b ⟨Y,Z,w4,by grind,R,S,hold⟩;cases s' with|nil=>have r:=fun h'=>a.a (h':=h');have z:decide (((([]:List D9).length:Nat):Int)>0)=false:=rfl;simp only[eE,seval,↓eP,r,z];refine q rfl _ ?_ ?_ ?_ ?_<;>simp only[eE,seval,w,x,y]|cons f s0=>
  obtain⟨id,ex,hvs,F,h1,G⟩:=a.b;obtain⟨id',I,C⟩:=a.c;have:id'=id:=by grind
  subst this;simp only[bx]at hl;have z:decide (((s0.length+1:Nat):Int)>0)=true:=by simp
  have J:IntKind.i64.wrap (((s0.length+1:Nat):Int)-1)=(s0.length:Int):=by rw[BR];omega
  have t:BW prog 257 (qS id' (s0.length+1) AT) (iv (s0.length:Int))=some (.pointer (some ⟨id',s0.length*3,none⟩)):=Hj;obtain⟨c1,K,c3,c4⟩:=tM (s:=s0) (f:=f) (ex:=ex) (ty:=259) (g:=true) (ro:=false);by_cases L:f.c=0
  .have D:((f.c:Int)==0)=true:=by grind
   have E:=Yf (id:=id') (h:=H1) (n:=s0.length+1) (k:=s0.length) (by omega);simp only[eE,seval,↓eP,rP,w,x,y,hvs,SA,z,J,t,F,K,kN,D,E];exact⟨by omega,s0,C,by rw[<-hp,aH L],by omega⟩
  .have D:((f.c:Int)==0)=false:=by grind
   simp only[eE,seval,↓eP,rP,hvs,SA,z,J,t,F,K,kN,D];refine q (ZS L) _ ?_ ?_ ?_ ?_<;>simp only[eE,seval,w,x,y,hvs]
theorem vx{h:AA}{v:Value}{i:Nat}{T:Tr}{H:AA}{s:List D9}{q:Bool}{k:DH}{l:List AF}(A:A8 h v l)(B:O1 h v i T H s q)(hi:i<2932031007403)(f:s=[]->i+1<l.length->∀a:Tr,a.a 2=iv ((i+1:Nat):Int)->k.a prog call n .ret ⟨a,H⟩)(d:¬(s=[]/\i+1<l.length)->∀a:Tr,O1 h v i a H s q->k.a prog call n .normal ⟨a,H⟩):WK prog call n X6 ⟨T,H⟩ k:=by
 obtain⟨m,o,w,hst,C,D,g⟩:=B;have c:∀h',CU prog h' 22 v=some (.int .i64 l.length):=fun h'=>A.c;have b:=fun h'=>hst.a (h':=h');have x:=DU i;show WK _ _ _ (.seq _ _) _ _;have j:¬(s=[]/\i+1<l.length)->∀a:Tr,a.a 0=v->a.a 5=iv i->a.a 4=.bool q->a.a 3=T.a 3->k.a prog call n .normal ⟨a,H⟩:=fun e a E F G I=>d e a ⟨E,F,G,by grind,C,D,g⟩;by_cases y:s=[]
 .have p:((s.length:Int)==0)=true:=by grind
  by_cases z:i+1<l.length
  .have u:decide (((i+1:Nat):Int)<(l.length:Int))=true:=by grind
   simp only[eE,seval,↓eP,m,o,b,c,p,x,u];exact f y z _ (by simp only[eE,seval])
  .have u:decide (((i+1:Nat):Int)<(l.length:Int))=false:=by grind
   simp only[eE,seval,↓eP,m,o,b,c,p,x,u];refine j (fun h=>z h.2) _ ?_ ?_ ?_ ?_<;>simp only[eE,seval,m,o,w]
 .have p:((s.length:Int)==0)=false:=by simp_all
  simp only[eE,seval,↓eP,b,p];refine j (fun h=>y h.1) _ ?_ ?_ ?_ ?_<;>simp only[eE,seval,m,o,w]
def pB(i:Nat)(f:D9):Prop:=(1<=f.a/\f.a<=54)/\(f.a=1\/f.a=11\/(f.b:Int)+f.c<=DV f.a)/\f.c<=9223372036854775807/\f.b<=i
theorem Jl:∀{s:List D9}{f:D9},f∈IU s->f∈s
 |[],f,h=>h|g::s,f,h=>by
  by_cases a:g.c=0;.rw[aH a]at h;exact iZ _ (Jl h)
  .rw[ZS a]at h;exact h
theorem Fw:∀{s:List D9}{f:D9}{s':List D9},IU s=f::s'->f.c≠0
 |[],f,s',h=>by cases h|g::s,f,s',h=>by
  by_cases a:g.c=0;.rw[aH a]at h;exact Fw h
  .rw[ZS a]at h;grind
theorem vy{i:Nat}{s:List D9}(c:∀f∈s,pB i f)(h:∀f j,s=f::j->f.c≠0):∀f∈N9 s,pB (i+1) f:=by cases s with
 |nil=>intro f a;cases a|cons g s=>
  intro f a;rcases fv.1 a with rfl|a
  .obtain⟨b,d,e,k⟩:=c g (by simp);have:=h g s rfl;refine⟨b,?_,by grind,by grind⟩;grind
  .obtain⟨b,d,e,k⟩:=c f (iZ _ a);exact⟨b,d,e,by omega⟩
theorem oL(s:List D9):(N9 s).length=s.length:=by cases s<;>rfl
theorem vz{x:AF}(h:EW BG x=true):0<=x.b/\(x.a=1\/x.a=11\/x.b<=DV x.a):=by
 unfold EW at h;simp only[ah,bu,am]at h;have:=XX x.a;refine⟨by omega,?_⟩;by_cases a:x.a=1;.omega
 .by_cases b:x.a=11;.omega
  .have c:0<=DV x.a:=by
    unfold DV;have e:([1,11]:List Int).contains x.a=false:=by grind
    rw[e];simp only[aV,bi];(repeat' split)<;>omega
   omega
theorem Zj{w k:Int}(h:IB w k=true):1<=k/\k<=54:=Pz h
theorem Xr{l:List AF}{v:Value}{h:AA}(U:bW call)(E:A8 h v l)(g5:l.length<2932031007403)(hn:l.length+3<n)(F:h.b<=h.a)(V:∀x∈l,x.b<=9223372036854775807):∃h',AW prog call n 159 [v] h=some (iv (match KK BG l with|some p=>(p:Int)|none=>-1),h')/\∀i,i<h.a->h'.c i=h.c i:=by
 refine EA (R:=fun h'=>∀i,i<h.a->h'.c i=h.c i) func159 rfl (by simp) ?_;have hr:f159.results.toList=[.tmp 2]:=rfl;have g6:∀h',CU prog h' 22 v=some (.int .i64 l.length):=fun h'=>E.c;have G:=mQ (isName:=BG) (l:=l) (M:=l.length+1) (by omega);generalize KK BG l=R at*;simp only[eE,seval,hr];refine WK.b (fun j st=>∃s y,O1 h v j st.T st.h s y/\s.length<=j/\(∀f∈s,pB j f)/\(∀f z,s=f::z->f.c≠0)/\(((s≠[]\/j=0)/\JR (isName:=BG) l (l.length+1-j) j s y=R)\/(s=[]/\0<j/\R=none))) l.length (by omega) ?_ ?_
 .refine⟨[],false,⟨?_,?_,?_,?_,rfl,af _,fun _ _=>rfl⟩,af _,(fun f hf=>by cases hf),(fun f z hf=>by cases hf),.inl ⟨.inr rfl,G⟩⟩;.simp only[eE,seval]
  .simp only[eE,↓reduceIte];rfl
  .simp only[eE,seval]
  .simp only[eE,seval];exact .inl ⟨rfl,rfl⟩
 .rintro j⟨T1,W⟩hj⟨s,y,hB,x0,H,r,g7⟩;have x1:=hB;obtain⟨X,D,Y,hst,hf,A,d⟩:=hB;simp only at X D Y hst hf A d;have hlenS:=fun h'=>hst.a (h':=h');have w1:=DU j
  -- the end: no row is open
  by_cases I:s=[]/\0<j
  .obtain⟨rfl,Z⟩:=I;have h0:R=none:=by grind
   subst h0;have J:((j:Int)==0)=false:=by grind
   have c1:decide (((([]:List D9).length:Nat):Int)>0)=false:=rfl;simp only[eE,seval,↓eP,D,hlenS,J,c1];exact d
  .have a:JR (isName:=BG) l (l.length+1-j) j s y=R:=by grind
   obtain⟨m,hm⟩:∃m,l.length+1-j=m+1:=⟨l.length-j,by omega⟩;rw[hm,JR]at a;have K:∀(c:Code)(k:DH),(∀T':Tr,O1 h v j T' W s y->WK prog call n (.block 1 bA) ⟨T',W⟩ (.seq c k))->WK prog call n (lf r8) ⟨T1,W⟩ (.seq (.seq (.block 1 bA) c) k):=fun c k hk=>by
    show WK _ _ _ (.seq _ (.cond _ _ _)) _ _;by_cases Z:j=0
    .have J:((j:Int)==0)=true:=by grind
     simp only[TC,seval,↓eP,D,J];refine hk _ ⟨?_,?_,?_,?_,hf,A,d⟩;.simp only[eE,seval,X]
     .simp only[eE,seval,D]
     .simp only[eE,seval,Y]
     .simp only[eE,seval];exact hst
    .have J:((j:Int)==0)=false:=by grind
     have x2:s.length≠0:=by grind
     have c1:decide (((s.length:Nat):Int)>0)=true:=by grind
     simp only[TC,seval,↓eP,D,hlenS,J,c1];refine hk _ ⟨?_,?_,?_,?_,hf,A,d⟩;.simp only[eE,seval,X]
     .simp only[eE,seval,D]
     .simp only[eE,seval,Y]
     .simp only[eE,seval];exact hst
   show WK _ _ _ (.seq (lf r8) (.seq (.block 1 bA) _)) _ _;rw[NB];refine K _ _ fun T2 h3=>?_;rw[XF];refine m7 U h3 F (by omega) (by omega) (fun f z he=>?_) fun T3 H3 L h6=>?_
   .have T:=H f (by grind);have h2:=r f z he;exact⟨T.1,by omega,T.2.1,T.2.2.1,T.2.2.2⟩
   have t:=L.2.2.2.2.2.2;refine jU U E L Kl h6 (fun u T4 N=>?_) fun x w b T4 h4 h5=>?_
   .have hR:R=some j:=by
     rw[<-a];rcases u with u|⟨x,w,u⟩;.simp only[OU,u]
     .simp only[OU,w,u,aV,bi]
    subst hR;simp only[eE,seval,N];exact t
   refine nM U E h4 Kl h5 w (fun u T5 N=>?_) fun u T5 h7=>?_
   .have hR:R=some j:=by
     rw[<-a];simp only[OU,w,b,ai];grind
    subst hR;simp only[eE,seval,N];exact t
   have h8:=(ae.1 w).1;have hg:=ey.1 b;obtain⟨h9,x3⟩:=vz hg.2;have g0:=Zj hg.1;have g8:=V x (aw w);refine Vz E h7 w h9 F (by rw[oL];omega) fun T6 H6 g1=>?_;refine vw g1 (by simp only[bx,oL];omega) (by simp only[bx,oL];omega) fun T7 O=>?_;have P:=O.2.2.2.2.2.2;simp only[OU,w,b,ai]at a;rw[ad u]at a;have B:=Ol (⟨x.a,x.b.toNat,0⟩::N9 s);simp only[bx,oL]at B;have g9:=vy H r;have Q:∀f∈IU (⟨x.a,x.b.toNat,0⟩::N9 s),pB (j+1) f:=fun f hf=>by
    rcases fv.1 (Jl hf)with rfl|hf
    .refine⟨g0,?_,by grind,by simp⟩;grind
    grind
   have C:∀f z,IU (⟨x.a,x.b.toNat,0⟩::N9 s)=f::z->f.c≠0:=fun f z he=>Fw he;generalize IU (⟨x.a,x.b.toNat,0⟩::N9 s)=s2 at*;generalize(if PZ s=9 then y||CX 1 x.a else y)=g2 at*;simp only at a;refine vx E O (by omega) (fun e1 e2 T8 N=>?_) fun e1 T8 g3=>?_
   .rw[ag e1,ag e2]at a;subst a;simp only[eE,seval,N];exact P
   .obtain⟨y0,y5,y4,g4,yf,yn,S⟩:=g3;simp only[eE,↓reduceIte,reduceCtorEq,y5,w1];refine⟨h8,s2,g2,⟨?_,?_,?_,?_,yf,yn,S⟩,by omega,Q,C,?_⟩;.simp only[eE,↓reduceIte,reduceCtorEq,y0]
    .simp only[eE,↓reduceIte]
    .simp only[eE,↓reduceIte,Nat.reduceEqDiff,y4]
    .simp only[eE,↓reduceIte,Nat.reduceEqDiff];exact g4
    grind
end
end Go.Proofs.YtjailoenloejbaaGreatDoor




