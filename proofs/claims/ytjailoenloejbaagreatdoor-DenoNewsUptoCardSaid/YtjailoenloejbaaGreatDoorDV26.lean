/- Part 26. -/
import Derived.Test.YtjailoenloejbaaGreatDoorDV25
set_option linter.all false
namespace Go.Proofs.YtjailoenloejbaaGreatDoor
open Go Go.Sx Go.Proofs.Tryz
set_option maxRecDepth 100000
set_option maxHeartbeats 0
theorem iH{P:Program}{call:AY}{n:Nat}{c:Code}{s:St}{k:DH}(Q:FJ->St->Prop)(h1:WK P call n c s (.top Q))(b:∀e a,Q e a->k.a P call n e a):WK P call n c s k:=WS.a h1 b
def EV(l:List Bool):List Value:=l.map (.bool .)
theorem GT(l:List Bool):(EV l).length=l.length:=by simp[EV]
theorem wG:HL prog 4=some 1:=by kernel_rfl
theorem sR:DK prog 4=some (.bool false):=by kernel_rfl
theorem qH(n:Nat):CF [Value.bool false] n=EV (List.replicate n false):=by induction n with|zero=>rfl|succ n a=>rw[List.replicate_succ];show[Value.bool false]++CF [Value.bool false] n=_;rw[a];rfl
theorem U8{l:List Bool}{i:Nat}{x:Bool}{ty:TypeId}{g ro:Bool}(a:l[i]?=some x):AI i (.row (EV l) ty g ro)=some (.bool x):=by simp[AI,EV,a]
theorem d_{h:AA}{id i:Nat}{l:List Bool}{x:Bool}{ty:TypeId}{g:Bool}(a:h.c id=.row (EV l) ty g false)(hi:i<l.length)(b:h.b<=id):BD prog h 4 (qP id i) (.bool x)=some (h.e id (.row (EV (l.set i x)) ty g false)):=by have:=EO (v:=.bool x) (off:=i) MZ rfl rfl a (by rw[GT];exact hi) b;rw[this];simp[EV,List.map_set]
theorem WF{id n c i:Nat}(hi:i<n):BW prog 84 (qS id n c) (iv (i:Int))=some (qP id i):=by have:=WZ (id:=id) (n:=n) (c:=c) (i:=i) gk MZ hi;grind
structure SY (h H:AA) (P:List Value) (TP:List Int) (M:K5):Prop where
 p:H.c h.a=.row P 27 false false
 f:H.c (h.a+1)=.row [iv 0,iv 0] 43 false false
 t:H.c (h.a+2)=.row (ints TP) 3 false false
 a:H.c (h.a+3)=.row (ints M.A) 3 false false
 c:H.c (h.a+4)=.row (EV M.C) 4 false false
 u:H.c (h.a+5)=.row (ints M.U) 3 false false
 n:h.a+6<=H.a
 d:H.b=h.b
 o:∀ i,i<h.a->H.c i=h.c i
theorem SY.b{h H H':AA}{P:List Value}{c:List Int}{M:K5}(a:SY h H P c M)(f:H.a<=H'.a)(d:H'.b=H.b)(b:∀i,i<h.a+6->H'.c i=H.c i):SY h H' P c M:=⟨by rw[b _ (by omega)];exact a.p,by rw[b _ (by omega)];exact a.f,by rw[b _ (by omega)];exact a.t,by rw[b _ (by omega)];exact a.a,by rw[b _ (by omega)];exact a.c,by rw[b _ (by omega)];exact a.u,by have:=a.n;omega,d.trans a.d,fun i e=>by rw[b i (by omega)];exact a.o i e⟩
theorem U6{H:AA}{id:Nat}(d:H.c id=.row [iv 0,iv 0] 43 false false)(b:id<H.a)(f:H.b<=id)(e a:Int):∃c,BD prog H 43 (qP id 0) (EE e a)=some c/\AX 2 0 (c.c id)=some (EE e a)/\c.a=H.a/\c.b=H.b/\∀i,i≠id->c.c i=H.c i:=⟨_,GQ MR (vs:=[iv e,iv a]) d rfl rfl rfl f,by rw[BE rfl b];rfl,rfl,rfl,fun i g=>AP b (bc g)⟩
def eK:List (Bool×Bool×List Operand):=[AJ,AJ,AJ,AJ,AJ,AJ,AO,AO,AO,AO,AH [.tmp 59],AH [.tmp 59],AH [.tmp 59],AH [.tmp 59],AJ,AJ,AJ]
def cP:List (Bool×Bool×List Operand):=[AO,AH [.tmp 1],AH [.tmp 1,.tmp 10],AH [.tmp 1,.tmp 10],AH [.tmp 1,.tmp 10,.tmp 84],AH [.tmp 1,.tmp 10,.tmp 84],AH [.tmp 1,.tmp 10,.tmp 84],AH [.tmp 1,.tmp 10,.tmp 84],AH [.tmp 1,.tmp 10],AH [.tmp 1,.tmp 10],AJ,AJ]
def cJ:List (Bool×Bool×List Operand):=[DT,DT,DT,DT,DT,DT,AO,AO,AH [.tmp 122],AH [.tmp 122],AO,BP [.tmp 122],BP [.tmp 122],BP [.tmp 122],BP [.tmp 122],AJ,AJ,AJ,AH [.tmp 132],AJ,AJ,BP [.tmp 122,.tmp 129,.tmp 132],AJ,AJ,AJ,AJ,AJ,AJ]
def Hc(h a:AA)(D m i:Nat)(vr:Value)(B:Int)(e:FJ)(s':St):Prop:=(e=.normal/\s'.h=a/\s'.T.a 1=qP h.a 0/\s'.T.a 3=qP (h.a+1) 0/\s'.T.a 5=qS (h.a+2) m m/\s'.T.a 6=qS (h.a+3) m m/\s'.T.a 7=qS (h.a+4) m m/\s'.T.a 8=qS (h.a+5) m m/\s'.T.a 37=vr/\s'.T.a 38=iv (m:Int)/\s'.T.a 39=iv (i:Int)/\s'.T.a 9=iv (i:Int)/\s'.T.a 10=qP D 0/\B=0)\/(e=.ret/\s'.T.a 2=Z0/\s'.T.a 3=qP (h.a+1) 0/\B≠0/\AX 2 0 (s'.h.c (h.a+1))=some (EE B i)/\s'.h.b=h.b/\h.a<=s'.h.a/\∀j,j<h.a->s'.h.c j=h.c j)
def QE(lo:Nat)(h:AA)(v:Value)(l:List Int):Prop:=(v=Z0/\l=[])\/∃a,v=qS a l.length l.length/\lo<=a/\a<h.a/\h.c a=.row (ints l) 3 false false
theorem QE.a{lo:Nat}{h:AA}{v:Value}{l:List Int}(a:QE lo h v l):AK lo h v l:=by
 rcases a with⟨rfl,rfl⟩|⟨e,rfl,b,c,d⟩;.exact AL.e _ _ _
 .exact AK.Y d ⟨b,c⟩ rfl
def zQ(h:AA)(lo:Nat)(v:Value)(R:(Int×Int)×List Int):Prop:=∃a,v=.tuple #[a,EE R.1.1 R.1.2]/\QE lo h a R.2
theorem Zb{h1:AA}{lo:Nat}{b:Value}{l:List Int}{e a:Int}(c:QE lo h1 b l)(d:E5 (.tuple #[b,EE e a])=true)(h:AA):QE lo h b l:=by
 rcases c with f|⟨g,rfl,_⟩;.exact .inl f
 .simp[E5,flat,B7]at d
theorem Hh{h1:AA}{lo:Nat}{b:Value}{l:List Int}{e a:Int}(d:AK lo h1 b l)(f:E5 (.tuple #[b,EE e a])=true)(h:AA):AK lo h b l:=by
 obtain⟨i,j,c,rfl,⟨k,h1⟩|⟨o,m,n,p,g,q,rfl,_⟩⟩:=d;.exact⟨i,j,c,rfl,.inl ⟨k,h1⟩⟩
 .simp[E5,flat,B7]at f
section
variable {n N:Nat} {h:AA}
theorem Hp{nm:ByteArray}{s:AS}{pv:Value}{lo:Nat}(hp:CG lo h pv nm s)(z8:∀nm' l V W X Y vo m,pv=.agg #[.string nm',l,V,W,X,Y,vo,m]->M8 l s.a.length)(hs:F7 s)(hl:s.a.length<2932031007403)(hg:h.c 0=EM)(hn0:0<h.a)(hfl:h.b<=h.a)(hn:2*DS s+400<n)(hN:s.a.length+40<N):∃v' h',AW prog (AN n) N 69 [pv] h=some (v',h')/\zQ h' h.a v' (DW nm s)/\h'.b=h.b/\h.a<=h'.a/\∀i,i<h.a->h'.c i=h.c i:=by
 obtain⟨l,V,W,X,Y,vo,rfl,p1,p2,p3,p4,p5,p6⟩:=id hp;have g5:=(EC n).2;have htot:DS s=s.a.length+s.b.length+s.f.length+s.g.length+s.d.length+s.h.length:=rfl;refine G_ (R:=fun v' h'=>zQ h' h.a v' (DW nm s)/\h'.b=h.b/\h.a<=h'.a/\∀i,i<h.a->h'.c i=h.c i) func69 rfl (by simp[f69]) ?_;have hr:f69.results.toList=[.tmp 2,.cell 3 43]:=rfl;have ca:=C9 [.string nm,l,V,W,X,Y,vo,iv s.c];have oa:=IV (nm:=nm) p1 p2 p3 p4 p5 p6;obtain⟨gA,gF,nG,fG,gO⟩:=OP h (.row [.string nm,l,V,W,X,Y,vo,iv s.c] 27 false false) (.row [iv 0,iv 0] 43 false false);simp only[eE,seval,DJ,ca,oa,EQ,GO,GS,I3];generalize(h.d (.row [.string nm,l,V,W,X,Y,vo,iv s.c] 27 false false)).d (.row [iv 0,iv 0] 43 false false)=Q at*;have lA:AX 8 0 (Q.c h.a)=some (.agg #[.string nm,l,V,W,X,Y,vo,iv s.c]):=IY gA rfl;have x1:AI 1 (Q.c h.a)=some l:=by rw[gA];rfl
 have hpQ:CG lo Q (.agg #[.string nm,l,V,W,X,Y,vo,iv s.c]) nm s:=hp.a (by omega) fun i _ hi=>gO i hi;have z1:=oR (n:=n) hpQ z8 hs (by omega) (by omega) (by rw[gO 0 hn0];exact hg) (by omega) (by omega);cases d1:(DQ nm s !=0)with
 |true=>
  obtain⟨H',s1,s2,s3,s4,s5⟩:=U6 gF (by omega) (by omega) (DQ nm s) 0;have e:DW nm s=((DQ nm s,0),[]):=by unfold DW;rw[ag (by simpa using d1)]
  rw[e];simp only[eE,seval,↓eP,hr,C7,lA,z1,d1,OC,s1,FD,s2];exact⟨⟨_,rfl,.inl ⟨rfl,rfl⟩⟩,by omega,by omega,fun i hi=>by rw[s5 i (by omega)];exact gO i hi⟩|false=>
 have e1:DQ nm s=0:=by simpa using d1
 have hG:=jT e1;have eR:DW nm s=GX s.a s.b (AE (AU s.a)) s.a.length 0:=by unfold DW;rw[ad (by rw[e1];decide)]
 rw[eR];generalize hZ:AU s.a=Z at*;clear hZ eR;have hsl:=hG.b.1;have v8:0<s.a.length:=by have:=hG.t.V;omega
 have v9:=fun h'=>Q6 p1.2 h';have ML:∀H:AA,J7 prog H 25 (iv (s.a.length:Int)) (iv (s.a.length:Int))=some (qS H.a s.a.length s.a.length,H.d (.row (ints (List.replicate s.a.length 0)) 3 false false)):=fun H=>by have:=R0 (P:=prog) (h:=H) (t:=25) (e:=3) (z:=.int .i64 0) au B_ IZ GD rfl rfl (by decide) (by decide) (n:=s.a.length) (by omega);rw[show CF (Value.int IntKind.i64 0).cells.toList s.a.length=ints (List.replicate s.a.length 0)from WQ _]at this;exact this
 have mkB:∀H:AA,J7 prog H 84 (iv (s.a.length:Int)) (iv (s.a.length:Int))=some (qS H.a s.a.length s.a.length,H.d (.row (EV (List.replicate s.a.length false)) 4 false false)):=fun H=>by
  have:=R0 (P:=prog) (h:=H) (t:=84) (e:=4) (z:=.bool false) gk MZ wG sR rfl rfl (by decide) (by decide) (n:=s.a.length) (by omega);rw[show CF (Value.bool false).cells.toList s.a.length=EV (List.replicate s.a.length false)from qH _]at this;exact this
 have q1:∀a,AI 1 ((Q.d a).c h.a)=some l:=fun a=>by rw[AV];exact x1
 have q2:∀a b,AI 1 (((Q.d a).d b).c h.a)=some l:=fun a b=>by rw[AV (by show h.a<Q.a+1;omega)];exact q1 a
 have q3:∀a b c,AI 1 ((((Q.d a).d b).d c).c h.a)=some l:=fun a b c=>by rw[AV (by show h.a<Q.a+2;omega)];exact q2 a b
 have q4:∀a b c d,AI 1 (((((Q.d a).d b).d c).d d).c h.a)=some l:=fun a b c d=>by rw[AV (by show h.a<Q.a+3;omega)];exact q3 a b c
 have g4:∀(a b c d:BO),let A:=(((Q.d a).d b).d c).d d
   A.c Q.a=a/\A.c (Q.a+1)=b/\A.c (Q.a+2)=c/\A.c (Q.a+3)=d/\A.a=Q.a+4/\A.b=Q.b/\∀i,i<Q.a->A.c i=Q.c i:=fun a b c d=>⟨by rw[AV (by show Q.a<Q.a+3;omega),AV (by show Q.a<Q.a+2;omega)];exact JG,by rw[AV (by show Q.a+1<Q.a+3;omega),AV (by show Q.a+1<Q.a+2;omega)];exact MG,by rw[AV (by show Q.a+2<Q.a+3;omega)];exact BJ (h:=(Q.d a).d b),BJ (h:=((Q.d a).d b).d c),rfl,rfl,fun i hi=>by rw[AV (by show i<Q.a+3;omega),AV (by show i<Q.a+2;omega),AV (by show i<Q.a+1;omega),AV hi]⟩;have h4:=g4 (.row (ints (List.replicate s.a.length 0)) 3 false false) (.row (ints (List.replicate s.a.length 0)) 3 false false) (.row (EV (List.replicate s.a.length false)) 4 false false) (.row (ints (List.replicate s.a.length 0)) 3 false false);simp only[eE,seval,↓eP,C7,lA,z1,d1,ab,CK,CJ,x1,q1,q2,q3,q4,v9,ML,mkB];obtain⟨ga,gb,gc,gd,n4,f4,o4⟩:=h4;generalize(((Q.d (.row (ints (List.replicate s.a.length 0)) 3 false false)).d (.row (ints (List.replicate s.a.length 0)) 3 false false)).d (.row (EV (List.replicate s.a.length false)) 4 false false)).d (.row (ints (List.replicate s.a.length 0)) 3 false false)=B at*;have hT0:SY h B [.string nm,l,V,W,X,Y,vo,iv s.c] (List.replicate s.a.length 0) (CN s.a (AE Z) 0):=by rw[nG]at ga gb gc gd;exact⟨by rw[o4 _ (by omega)];exact gA,by rw[o4 _ (by omega)];exact gF,ga,gb,gc,gd,by omega,by omega,fun i hi=>by rw[o4 i (by omega)];exact gO i hi⟩
 refine WK.b (fun i f=>f.T.a 1=qP h.a 0/\f.T.a 3=qP (h.a+1) 0/\f.T.a 5=qS (h.a+2) s.a.length s.a.length/\f.T.a 6=qS (h.a+3) s.a.length s.a.length/\f.T.a 7=qS (h.a+4) s.a.length s.a.length/\f.T.a 8=qS (h.a+5) s.a.length s.a.length/\f.T.a 37=l/\f.T.a 38=iv (s.a.length:Int)/\f.T.a 39=iv (i:Int)/\i<=s.a.length/\GX s.a s.b (AE Z) (s.a.length-i) i=GX s.a s.b (AE Z) s.a.length 0/\∃TP:List Int,TP.length=s.a.length/\(∀j,j<i->TP[j]?=(s.a.map (BM ·.a))[j]?)/\SY h f.h [.string nm,l,V,W,X,Y,vo,iv s.c] TP (CN s.a (AE Z) i)) s.a.length (by omega) ?_ ?_;.exact⟨by simp only[eE,seval,rP],by simp only[eE,seval,rP],by simp only[eE,seval,rP,nG],by simp only[eE,seval,rP,nG],by simp only[eE,seval,rP,nG],by simp only[eE,seval,rP,nG],by simp only[eE,seval,rP],by simp only[eE,seval,rP],by simp only[eE,seval,rP]<;>rfl,by omega,rfl,_,by simp,fun j K=>by omega,hT0⟩
 rintro i⟨T,H⟩hi⟨t1,t3,t5,t6,t7,t8,x9,x0,g6,hil,y1,TP,hTl,z9,hT⟩;simp only at t1 t3 t5 t6 t7 t8 x9 x0 g6 hT;by_cases h0:i<s.a.length;rotate_left
 .have c1:decide ((i:Int)<(s.a.length:Int))=false:=by simp;omega
  have hin:i=s.a.length:=by omega
  subst hin;have hTe:TP=s.a.map (BM ·.a):=by
   apply eh;intro j;rcases ar j s.a.length with h1|h1;.exact z9 j h1
   .rw[de (by omega),de (by rw[bw];omega)]
  have hnx:=hT.n;have w0:=hT.d;obtain⟨H',s1,s2,s3,s4,s5⟩:=U6 hT.f (by omega) (by omega) 0 0;have eG:GX s.a s.b (AE Z) s.a.length 0=((0,0),s.a.map (BM ·.a)):=by rw[<-y1,jc];rfl
  rw[eG];simp only[eE,seval,↓eP,hr,t3,t5,x0,g6,c1,QV,s1,FD,s2];exact⟨⟨_,rfl,.inr ⟨h.a+2,by rw[bw],by omega,by omega,by rw[s5 _ (by omega),<-hTe];exact hT.t⟩⟩,by omega,by omega,fun j K=>by rw[s5 j (by omega)];exact hT.o j K⟩
 have c1:decide ((i:Int)<(s.a.length:Int))=true:=by simp;omega
 obtain⟨x,hx⟩:∃x,s.a[i]?=some x:=⟨_,aa h0⟩;obtain⟨r,hr1⟩:∃r,s.a.length-i=r+1:=⟨s.a.length-i-1,by omega⟩;rw[hr1]at y1;have hri:s.a.length-(i+1)=r:=by omega
 have hnx:=hT.n;have w0:=hT.d;have hvH:A8 H l s.a:=p1.1.a (by omega) hT.o;obtain⟨ia,pa,ea,hia,_,_,_,_,_,la⟩:=hvH.b hx;have fz:flat (CW DL)=true:=rfl;obtain⟨H1,w3,gX,n1,f1,o1⟩:=OV (t:=125) GC (H:=H) (zs:=AQ DL) (vs:=AQ x) rfl rfl rfl (by omega);have z2:BD prog (H.d (.row (AQ DL) 125 false false)) 125 (qP H.a 0) (CW x)=some H1:=w3;have J:SY h H1 [.string nm,l,V,W,X,Y,vo,iv s.c] TP (CN s.a (AE Z) i):=hT.b (by omega) f1 fun j K=>o1 j (by omega);have kx:=hG.l i x hx;have w4:=Jr (n:=n) (h:=H1) kx (by omega);have y0:AI 0 (H1.c H.a)=some (iv x.a):=by rw[gX];rfl
 have w5:=FO (id:=h.a+2) (n:=s.a.length) (c:=s.a.length) (i:=i) h0;have w6:BD prog H1 3 (qP (h.a+2) i) (iv (BM x.a))=some (H1.e (h.a+2) (.row (ints (TP.set i (BM x.a))) 3 false false)):=LZ J.t (by omega) (by omega);have o:SY h (H1.e (h.a+2) (.row (ints (TP.set i (BM x.a))) 3 false false)) [.string nm,l,V,W,X,Y,vo,iv s.c] (TP.set i (BM x.a)) (CN s.a (AE Z) i):=by
  have g:∀j,j≠h.a+2->(H1.e (h.a+2) (.row (ints (TP.set i (BM x.a))) 3 false false)).c j=H1.c j:=fun j K=>AP (by omega) (bc K);exact⟨by rw[g _ (by omega)];exact J.p,by rw[g _ (by omega)];exact J.f,BE rfl (by omega),by rw[g _ (by omega)];exact J.a,by rw[g _ (by omega)];exact J.c,by rw[g _ (by omega)];exact J.u,J.n,J.d,fun j K=>by rw[g j (by omega)];exact J.o j K⟩
 have u0:(H1.e (h.a+2) (.row (ints (TP.set i (BM x.a))) 3 false false)).c H.a=.row (AQ x) 125 false false:=by rw[AP (by omega) (by omega)];exact gX
 have n2:(H1.e (h.a+2) (.row (ints (TP.set i (BM x.a))) 3 false false)).a=H.a+1:=n1;simp only[TC,seval,↓eP,x0,g6,c1];rw[XF];simp only[TC,seval,t5,x9,g6,ea,FX,la,FC,fz,zr,z2,BB,AM,y0,w4,w5,w6];have z3:(TP.set i (BM x.a)).length=s.a.length:=by rw[bO];exact hTl
 have x2:∀j,j<i+1->(TP.set i (BM x.a))[j]?=(s.a.map (BM ·.a))[j]?:=fun j K=>by
  rcases ar j i with h1|h1
  .rw[bf (by omega)];exact z9 j h1
  .have:j=i:=by omega
   subst this;rw[br (by omega),bT,hx];rfl
 generalize H1.e (h.a+2) (.row (ints (TP.set i (BM x.a))) 3 false false)=H2 at*;generalize TP.set i (BM x.a)=x3 at*;generalize hD:H.a=D at*;clear w6 w3 z2 y0 w4 J hT z9;obtain⟨m1,m2,m3⟩:=W7 (R:=s.a) (AE Z) i;obtain⟨a,hA⟩:∃a,(CN s.a (AE Z) i).A[i]?=some a:=⟨_,aa (by omega)⟩;obtain⟨c,hC⟩:∃c,(CN s.a (AE Z) i).C[i]?=some c:=⟨_,aa (by omega)⟩;obtain⟨u,hU⟩:∃u,(CN s.a (AE Z) i).U[i]?=some u:=⟨_,aa (by omega)⟩;have hUb:=wO (R:=s.a) (e:=AE Z) rfl v8 i (by omega) u (aw hU);obtain⟨up,x4⟩:∃up,s.a[u.toNat]?=some up:=⟨_,aa (by omega)⟩;have hnx2:=o.n;have hfl2:=o.d;have w7:AX 8 0 (H2.c h.a)=some (.agg #[.string nm,l,V,W,X,Y,vo,iv s.c]):=IY o.p rfl;have u4:AI 1 (H2.c h.a)=some l:=by rw[o.p];rfl
 have y0:AI 0 (H2.c D)=some (iv x.a):=by rw[u0];rfl
 have y4:AI 4 (H2.c D)=some (iv x.b):=by rw[u0];rfl
 have yN:AX 5 0 (H2.c D)=some (CW x):=by rw[u0];rfl
 have w8:=FO (id:=h.a+3) (n:=s.a.length) (c:=s.a.length) (i:=i) h0;have x5:=WF (id:=h.a+4) (n:=s.a.length) (c:=s.a.length) (i:=i) h0;have ix3:=FO (id:=h.a+5) (n:=s.a.length) (c:=s.a.length) (i:=i) h0;have l0:AI i (H2.c (h.a+2))=some (iv (BM x.a)):=by
  rw[o.t];refine KM ?_;rw[x2 i (by omega),bT,hx];rfl
 have l1:AI i (H2.c (h.a+3))=some (iv a):=by rw[o.a];exact KM hA
 have l2:AI i (H2.c (h.a+4))=some (.bool c):=by rw[o.c];exact U8 hC
 have l3:AI i (H2.c (h.a+5))=some (iv u):=by rw[o.u];exact KM hU
 have v0:A8 H2 l s.a:=p1.1.a (by omega) o.o;obtain⟨iu,pu,eu,hiu,_,_,_,_,_,lu⟩:=v0.b x4;rw[show((u.toNat:Nat):Int)=u by omega]at eu;have g0:=D1 (n:=n) (h:=H2) kx (by omega);have hp2:CG lo H2 (.agg #[.string nm,l,V,W,X,Y,vo,iv s.c]) nm s:=hp.a (by omega) fun j _ K=>o.o j K;have z4:=Gt (n:=n) (x:=x) (up:=up) hp2 (fun h9=>hG.k i x hx (Bq h9)) (fun h24 h20=>by
  obtain⟨h0i,up',hup',hU',y2⟩:=hG.g hx h24;rw[hU]at hU';cases hU';rw[show((i-1:Nat):Int).toNat=i-1 by omega,hup']at x4;cases x4;exact y2 h20) (by omega);refine iH (Hc h H2 D s.a.length i l (KI s.a s.b (CN s.a (AE Z) i) i x)) ?_ ?_
 .have y3:∀b:Int,∃H',BD prog H2 43 (qP (h.a+1) 0) (EE b i)=some H'/\AX 2 0 (H'.c (h.a+1))=some (EE b i)/\H'.b=h.b/\h.a<=H'.a/\∀j,j<h.a->H'.c j=h.c j:=fun b=>by
   obtain⟨H',s1,s2,s3,s4,s5⟩:=U6 o.f (by omega) (by omega) b i;exact⟨H',s1,s2,by omega,by omega,fun j K=>by rw[s5 j (by omega)];exact o.o j K⟩
  rw[XF];simp only[eE,seval];refine iH (fun e f=>e=.normal/\f.h=H2/\f.T.a 1=qP h.a 0/\f.T.a 3=qP (h.a+1) 0/\f.T.a 5=qS (h.a+2) s.a.length s.a.length/\f.T.a 6=qS (h.a+3) s.a.length s.a.length/\f.T.a 7=qS (h.a+4) s.a.length s.a.length/\f.T.a 8=qS (h.a+5) s.a.length s.a.length/\f.T.a 37=l/\f.T.a 38=iv (s.a.length:Int)/\f.T.a 39=iv (i:Int)/\f.T.a 9=iv (i:Int)/\f.T.a 10=qP D 0/\f.T.a 50=.bool (a !=0&&BM x.a !=a)) ?_ ?_;.cases da:(a !=0)with
   |false=>
    refine WK.a (fs:=eK) (by kernel_rfl) ?_;unfold eK;iterate 17
     refine DG g5 ?_;simp only[rG,seval,AB,AD,AC,A7,C8,cp,DB,t6,w8,l1,AM,da]
    refine DF ?_;exact⟨rfl,rfl,by simp only[eE,seval,t1],by simp only[eE,seval,t3],by simp only[eE,seval,t5],by simp only[eE,seval,t6],by simp only[eE,seval,t7],by simp only[eE,seval,t8],by simp only[eE,seval,x9],by simp only[eE,seval,x0],by simp only[eE,seval,g6],by simp only[eE,seval],by simp only[eE,seval],by simp only[eE,seval,bz]⟩|true=>
    refine WK.a (fs:=eK) (by kernel_rfl) ?_;unfold eK;iterate 17
     refine DG g5 ?_;simp only[rG,seval,AB,AD,AC,A7,C8,cp,DB,t6,w8,l1,AM,da,t5,w5,l0]
    refine DF ?_;exact⟨rfl,rfl,by simp only[eE,seval,t1],by simp only[eE,seval,t3],by simp only[eE,seval,t5],by simp only[eE,seval,t6],by simp only[eE,seval,t7],by simp only[eE,seval,t8],by simp only[eE,seval,x9],by simp only[eE,seval,x0],by simp only[eE,seval,g6],by simp only[eE,seval],by simp only[eE,seval],by simp only[eE,seval,rP]⟩
  rintro e⟨T2,HH⟩⟨rfl,hh,u1,L,u5,u6,u7,u8,h3,h5,h6,u9,E,x6⟩;simp only at hh u1 L u5 u6 u7 u8 h3 h5 h6 u9 E x6;subst hh;cases I:(a !=0&&BM x.a !=a)with
  |true=>
   obtain⟨H',s1,s2,s3,s4,s5⟩:=y3 41;simp only[eE,seval,↓eP,L,u9,x6,I,II,s1];simp only[ah,bne_iff_ne]at I;exact .inr ⟨rfl,by simp only[eE,seval],by simp only[eE,seval,L],by rw[ZI hA I.1 I.2];decide,by rw[ZI hA I.1 I.2];exact s2,s3,s4,s5⟩|false=>
  have y5:¬(a≠0/\BM x.a≠a):=by
   intro hc;rw[show(a !=0&&BM x.a !=a)=true by simp[hc.1,hc.2]]at I;cases I
  cases c with
  |false=>
   have h7:=pM (Q:=s.b) hA y5 hC (x:=x) (by rw[bz]) hU x4;simp only[eE,seval,↓eP,u7,u9,x6,I,x5,F4,l2];refine WK.a (fs:=cP) (by kernel_rfl) ?_;unfold cP;iterate 12
    refine DG g5 ?_;simp only[rG,seval,AB,AD,AC,A7,BL,u1,C7,w7,E,FX,yN,CK,CJ,u4,u8,u9,ix3,AM,l3,eu,lu,z4]
   refine DF ?_;cases h8:ME s.b x up with
   |true=>obtain⟨H',s1,s2,s3,s4,s5⟩:=y3 46;simp only[eE,seval,↓eP,L,u9,II,s1];exact .inr ⟨rfl,by simp only[eE,seval],by simp only[eE,seval,L],by rw[h7,h8];decide,by rw[h7,h8];exact s2,s3,s4,s5⟩|false=>
    simp only[eE,seval,↓eP];exact .inl ⟨rfl,rfl,by simp only[eE,seval,u1],by simp only[eE,seval,L],by simp only[eE,seval,u5],by simp only[eE,seval,u6],by simp only[eE,seval,u7],by simp only[eE,seval,u8],by simp only[eE,seval,h3],by simp only[eE,seval,h5],by simp only[eE,seval,h6],by simp only[eE,seval,u9],by simp only[eE,seval,E],by rw[h7,h8];rfl⟩
  |true=>cases dv:MD x.a with
   |true=>
    rw[dv]at g0;obtain⟨H',s1,s2,s3,s4,s5⟩:=y3 42;simp only[eE,seval,↓eP,L,u7,u9,E,x6,I,x5,F4,l2,BB,AM,y0,g0,II,s1];exact .inr ⟨rfl,by simp only[eE,seval],by simp only[eE,seval,L],by rw[dG hA y5 hC dv];decide,by rw[dG hA y5 hC dv];exact s2,s3,s4,s5⟩|false=>
    rw[dv]at g0;have h7:=pM (Q:=s.b) hA y5 hC (x:=x) (by rw[dv,Bool.and_false]) hU x4;simp only[eE,seval,↓eP,u7,u9,E,x6,I,x5,F4,l2,BB,AM,y0,g0];refine WK.a (fs:=cP) (by kernel_rfl) ?_;unfold cP;iterate 12
     refine DG g5 ?_;simp only[rG,seval,AB,AD,AC,A7,BL,u1,C7,w7,E,FX,yN,CK,CJ,u4,u8,u9,ix3,AM,l3,eu,lu,z4]
    refine DF ?_;cases h8:ME s.b x up with
    |true=>
     obtain⟨H',s1,s2,s3,s4,s5⟩:=y3 46;simp only[eE,seval,↓eP,L,u9,II,s1];exact .inr ⟨rfl,by simp only[eE,seval],by simp only[eE,seval,L],by rw[h7,h8];decide,by rw[h7,h8];exact s2,s3,s4,s5⟩|false=>
     simp only[eE,seval,↓eP];exact .inl ⟨rfl,rfl,by simp only[eE,seval,u1],by simp only[eE,seval,L],by simp only[eE,seval,u5],by simp only[eE,seval,u6],by simp only[eE,seval,u7],by simp only[eE,seval,u8],by simp only[eE,seval,h3],by simp only[eE,seval,h5],by simp only[eE,seval,h6],by simp only[eE,seval,u9],by simp only[eE,seval,E],by rw[h7,h8];rfl⟩
 rintro e ⟨T3,HH⟩ (⟨rfl,hh,u1,L,u5,u6,u7,u8,h3,h5,h6,u9,E,b0⟩ | ⟨rfl,u2,L,hb0,lF,fF,nF,oF⟩)
 rotate_left
 .simp only at u2 L lF fF nF oF
  have eG:GX s.a s.b (AE Z) s.a.length 0=((KI s.a s.b (CN s.a (AE Z) i) i x,(i:Int)),[]):=by rw[<- y1];exact sY hx rfl hb0
  rw[eG]
  simp only[eE,seval,hr,u2,L,FD,lF]
  exact⟨⟨_,rfl,.inl ⟨rfl,rfl⟩⟩,fF,nF,oF⟩
 simp only at hh u1 L u5 u6 u7 u8 h3 h5 h6 u9 E
 subst hh
 have z5:GX s.a s.b (AE Z) (s.a.length-(i+1)) (i+1)=GX s.a s.b (AE Z) s.a.length 0:=by rw[<- y1,hri];exact(uL hx b0).symm
 have w1:=DU i
 obtain⟨k0,hch,hel,hei⟩:=hG.a hx
 have eM:CN s.a (AE Z) (i+1)=JW i x (BM (((s.a[i+1]?).map (·.a)).getD 0)) 0 (A9 (AE Z) x.b.toNat (i+1)) (CN s.a (AE Z) i):=by
  show MU s.a (AE Z) i (CN s.a (AE Z) i)=_
  unfold MU
  rw[hx]
 cases dk:(x.b==0) with
 | true=>
  have hk0:x.b.toNat=0:=by have:=ak.1 dk;omega
  have eM0:CN s.a (AE Z) (i+1)=CN s.a (AE Z) i:=by rw[eM,hk0];rfl
  simp only[eE,seval,↓eP,u1,L,u5,u6,u7,u8,h3,h5,h6,E,ab,YW,AM,y4,dk,w1]
  exact⟨h0,by omega,z5,x3,z3,x2,by rw[eM0];exact o⟩
 | false=>
 have hk1 : 0 < x.b := by have:x.b≠0:=(by simpa using dk);omega                           
 have hi1:=hG.i hx hk1
 obtain⟨y,hy⟩:∃ y,s.a[i+1]?=some y:=⟨_,aa hi1⟩
 have ky:=hG.l _ y hy
 obtain⟨ib,pb,eb,hib,lb,_⟩:=v0.b hy
 have hty:=Jr (n:=n) (h:=HH) ky (by omega)
 obtain⟨zz,hzz,_,hzk⟩:=hG.z hx
 obtain⟨kv,H5,v1,v2,f5,n5,o5⟩:=bB (n:=n) hG.t hG.b v0 hzz (by omega) (by omega) (by omega)
 rw[<- hzk] at v2
 have hkc:=v2.a (af _)
 have z6:=fun h'=>J8 hkc h'
 have hkl:((A9 (AE Z) x.b.toNat (i+1)).map (fun (k:Nat)=>(k:Int))).length=x.b.toNat:=by rw[bw,OE]
 rw[hkl,show ((x.b.toNat:Nat):Int)=x.b by omega] at z6
 simp only[eE,seval,↓eP,u1,u9,E,ab,YW,BB,AM,y4,dk,CK,CJ,u4,w1,eb,lb,hty,v1,z6]
 have eY:((s.a[i+1]?).map (·.a)).getD 0=y.a:=by rw[hy];rfl
 rw[eY] at eM
 have hT5:SY h H5 [.string nm,l,V,W,X,Y,vo,iv s.c] x3 (CN s.a (AE Z) i):=o.b (by omega) (by omega) fun j K=>o5 j (by omega)
 obtain⟨mo1,mo2⟩:=hG.o hx
 have hkn:x.b.toNat<=s.a.length:=by have:=HM _ _ _ hch;omega
 refine WK.b (fun q f=>f.T.a 1=qP h.a 0/\f.T.a 3=qP (h.a+1) 0/\f.T.a 5=qS (h.a+2) s.a.length s.a.length/\f.T.a 6=qS (h.a+3) s.a.length s.a.length/\f.T.a 7=qS (h.a+4) s.a.length s.a.length/\f.T.a 8=qS (h.a+5) s.a.length s.a.length/\f.T.a 37=l/\f.T.a 38=iv (s.a.length:Int)/\f.T.a 39=iv (i:Int)/\f.T.a 9=iv (i:Int)/\f.T.a 10=qP D 0/\f.T.a 11=iv (BM y.a)/\f.T.a 109=kv/\f.T.a 110=iv x.b/\f.T.a 111=iv (q:Int)/\q<=x.b.toNat/\H5.a<=f.h.a/\(∀ j,h.a+6<=j->j<H5.a->f.h.c j=H5.c j)/\SY h f.h [.string nm,l,V,W,X,Y,vo,iv s.c] x3 (JW i x (BM y.a) 0 ((A9 (AE Z) x.b.toNat (i+1)).take q) (CN s.a (AE Z) i))) x.b.toNat (by omega) ?_ ?_
 .exact⟨by simp only[eE,seval,u1],by simp only[eE,seval,L],by simp only[eE,seval,u5],by simp only[eE,seval,u6],by simp only[eE,seval,u7],by simp only[eE,seval,u8],by simp only[eE,seval,h3],by simp only[eE,seval,h5],by simp only[eE,seval,h6],by simp only[eE,seval,u9],by simp only[eE,seval,E],by simp only[eE,seval],by simp only[eE,seval],by simp only[eE,seval],by simp only[eE,seval] <;> rfl,by omega,af _,fun _ _ _=>rfl,by rw[List.take_zero];exact hT5⟩
 rintro q ⟨T4,M⟩ hq ⟨y6,y7,y8,g7,g8,g9,g1,g2,y9,w9,x7,x8,g3,O,S,hqk,n6,o6,w⟩
 simp only at y6 y7 y8 g7 g8 g9 g1 g2 y9 w9 x7 x8 g3 O S n6 o6 w
 by_cases v3:q<x.b.toNat
 rotate_left
 .have c3:decide ((q:Int)<x.b)=false:=by simp;omega
  simp only[eE,seval,↓eP,y6,y7,y8,g7,g8,g9,g1,g2,y9,O,S,c3,w1]
  have hq9:q=x.b.toNat:=by omega
  subst hq9
  have hTk:(A9 (AE Z) x.b.toNat (i+1)).take x.b.toNat=A9 (AE Z) x.b.toNat (i+1):=di (by rw[OE];omega)
  rw[hTk] at w
  exact⟨h0,by omega,z5,x3,z3,x2,by rw[eM];exact w⟩
 have c3:decide ((q:Int)<x.b)=true:=by simp;omega
 obtain⟨p,v4⟩:∃ p,(A9 (AE Z) x.b.toNat (i+1))[q]?=some p:=⟨_,aa (by rw[OE];exact v3)⟩
 obtain⟨hip,v5⟩:=hG.d hx v4
 have hkc6:AK (h.a+6) M kv ((A9 (AE Z) x.b.toNat (i+1)).map (fun (k:Nat)=>(k:Int))):=AK.U (v2.a (by omega)) (by omega) fun j h1 h2=>o6 j h1 h2
 obtain⟨ip,pp,ep,hip2,lp⟩:=AK.V hkc6 (i:=q) (x:=(p:Int)) (by rw[bT,v4];rfl)
 have w2:=DU q
 have eS:=s_ (i:=i) (x:=x) (first:=BM y.a) (A9 (AE Z) x.b.toNat (i+1)) 0 q (CN s.a (AE Z) i) p v4
 rw[ab] at eS
 obtain⟨b1,b2,b3⟩:=oW (i:=i) (x:=x) (first:=BM y.a) ((A9 (AE Z) x.b.toNat (i+1)).take q) 0 (CN s.a (AE Z) i)
 generalize JW i x (BM y.a) 0 ((A9 (AE Z) x.b.toNat (i+1)).take q) (CN s.a (AE Z) i)=F at *
 obtain⟨cq,v6⟩:∃ cq,F.C[i]?=some cq:=⟨_,aa (by omega)⟩
 have hnx6:=w.n
 have hfl6:=w.d
 have z0:AI 0 (M.c D)=some (iv x.a):=by rw[o6 D (by omega) (by omega),o5 D (by omega)];exact y0
 have z7:∀ G:AA,AN n 133 [iv x.a,iv (q:Int),iv (BM y.a)] G=some (iv (C4 x.a q (BM y.a)),G):=fun G=>Tg kx (fun h9=>by have:=mo1 h9;omega) (fun h9=>by have:=mo2 h9;omega)
 have hfix:∀ G:AA,AN n 134 [iv x.a,iv (q:Int)] G=some (.bool (KP x.a q),G):=fun G=>D6
 have jx1:=FO (id:=h.a+3) (n:=s.a.length) (c:=s.a.length) (i:=p) v5
 have jx2:=WF (id:=h.a+4) (n:=s.a.length) (c:=s.a.length) (i:=p) v5
 have jx3:=FO (id:=h.a+5) (n:=s.a.length) (c:=s.a.length) (i:=p) v5
 have lc:AI i (M.c (h.a+4))=some (.bool cq):=by rw[w.c];exact U8 v6
 have hA0:(h.a+4<M.a)=True:=by simp;omega
 have sa:BD prog M 3 (qP (h.a+3) p) (iv (C4 x.a q (BM y.a)))=some (M.e (h.a+3) (.row (ints (F.A.set p (C4 x.a q (BM y.a)))) 3 false false)):=LZ w.a (by omega) (by omega)
 have na:∀ j,j≠h.a+3->(M.e (h.a+3) (.row (ints (F.A.set p (C4 x.a q (BM y.a)))) 3 false false)).c j=M.c j:=fun j K=>AP (by omega) (bc K)
 have ga1:(M.e (h.a+3) (.row (ints (F.A.set p (C4 x.a q (BM y.a)))) 3 false false)).c (h.a+3)=.row (ints (F.A.set p (C4 x.a q (BM y.a)))) 3 false false:=BE rfl (by omega)
 have nna:(M.e (h.a+3) (.row (ints (F.A.set p (C4 x.a q (BM y.a)))) 3 false false)).a=M.a:=rfl
 have ffa:(M.e (h.a+3) (.row (ints (F.A.set p (C4 x.a q (BM y.a)))) 3 false false)).b=M.b:=rfl
 have fla:(M.e (h.a+3) (.row (ints (F.A.set p (C4 x.a q (BM y.a)))) 3 false false)).f M.b=M.e (h.a+3) (.row (ints (F.A.set p (C4 x.a q (BM y.a)))) 3 false false):=rfl
 generalize M.e (h.a+3) (.row (ints (F.A.set p (C4 x.a q (BM y.a)))) 3 false false)=Ha at *
 have sc:∀ v:Bool,BD prog Ha 4 (qP (h.a+4) p) (.bool v)=some (Ha.e (h.a+4) (.row (EV (F.C.set p v)) 4 false false)):=fun v=>d_ (by rw[na _ (by omega)];exact w.c) (by omega) (by omega)
 have su:∀ v:Bool,BD prog (Ha.e (h.a+4) (.row (EV (F.C.set p v)) 4 false false)) 3 (qP (h.a+5) p) (iv (i:Int))=some ((Ha.e (h.a+4) (.row (EV (F.C.set p v)) 4 false false)).e (h.a+5) (.row (ints (F.U.set p (i:Int))) 3 false false)):=fun v=>LZ (by rw[AP (by omega) (by omega),na _ (by omega)];exact w.u) (by omega) (by show Ha.b<=_;omega)
 have fin:∀ v:Bool,v=(((F.C[i]?).getD false)||KP x.a q)->SY h ((Ha.e (h.a+4) (.row (EV (F.C.set p v)) 4 false false)).e (h.a+5) (.row (ints (F.U.set p (i:Int))) 3 false false)) [.string nm,l,V,W,X,Y,vo,iv s.c] x3 (K4 i x (BM y.a) F q p) /\
   ∀ j,h.a+6<=j->((Ha.e (h.a+4) (.row (EV (F.C.set p v)) 4 false false)).e (h.a+5) (.row (ints (F.U.set p (i:Int))) 3 false false)).c j=M.c j:=fun v hv=>by
  have g:∀ j,j≠h.a+4->j≠h.a+5->((Ha.e (h.a+4) (.row (EV (F.C.set p v)) 4 false false)).e (h.a+5) (.row (ints (F.U.set p (i:Int))) 3 false false)).c j=Ha.c j:=fun j h1 h2=>by rw[AP (by show _<Ha.a;omega) (bc h2),AP (by omega) (bc h1)]
  refine⟨⟨by rw[g _ (by omega) (by omega),na _ (by omega)];exact w.p,by rw[g _ (by omega) (by omega),na _ (by omega)];exact w.f,by rw[g _ (by omega) (by omega),na _ (by omega)];exact w.t,by rw[g _ (by omega) (by omega)];exact ga1,?_,BE rfl (by show _<Ha.a;omega),by show _<=Ha.a;omega,by show Ha.b=_;omega,fun j K=>by rw[g j (by omega) (by omega),na j (by omega)];exact w.o j K⟩,fun j K=>by rw[g j (by omega) (by omega),na j (by omega)]⟩
  rw[AP (by show _<Ha.a;omega) (by omega),BE rfl (by omega)]
  show BO.row (EV (F.C.set p v)) 4 false false=.row (EV (F.C.set p (((F.C[i]?).getD false)||KP x.a q))) 4 false false
  rw[hv]
 simp only[eE,seval,↓eP,g3,O,S,c3,ep,AM,lp]
 cases cq with
 | true=>
  refine WK.a (fs:=cJ) (by kernel_rfl) ?_
  unfold cJ
  iterate 28
   refine DG g5 ?_
   simp only[rG,seval,AB,AD,AC,A7,BL,target,BY,cp,g7,g8,g9,x7,BB,AM,z0,x8,z7,w9,x5,F4,lc,hA0,jx1,DB,sa,fla,jx2,ffa,sc,jx3,su]
  refine DF ?_
  obtain⟨v7,o7⟩:=fin (true) (by rw[v6];rfl)
  simp only[eE,seval,y6,y7,y8,g7,g8,g9,g1,g2,y9,w9,x7,x8,g3,O,S,w2]
  exact⟨v3,by omega,dj n6 (Nat.le_of_eq nna.symm),fun j h1 h2=>by rw[o7 j h1];exact o6 j h1 h2,by rw[eS];exact v7⟩
 | false=>
  refine WK.a (fs:=cJ) (by kernel_rfl) ?_
  unfold cJ
  iterate 28
   refine DG g5 ?_
   simp only[rG,seval,AB,AD,AC,A7,BL,target,BY,cp,g7,g8,g9,x7,BB,AM,z0,x8,z7,w9,x5,F4,lc,hA0,hfix,jx1,DB,sa,fla,jx2,ffa,sc,jx3,su]
  refine DF ?_
  obtain⟨v7,o7⟩:=fin (KP x.a q) (by rw[v6];rfl)
  simp only[eE,seval,y6,y7,y8,g7,g8,g9,g1,g2,y9,w9,x7,x8,g3,O,S,w2]
  exact⟨v3,by omega,dj n6 (Nat.le_of_eq nna.symm),fun j h1 h2=>by rw[o7 j h1];exact o6 j h1 h2,by rw[eS];exact v7⟩
theorem Hs{nm:ByteArray}{s:AS}{c:Value}{lo:Nat}(o:CG lo h c nm s)(a:∀d k p q r t u m,c=.agg #[.string d,k,p,q,r,t,u,m]->M8 k s.a.length)(v:F7 s)(w:s.a.length<2932031007403)(x:h.c 0=EM)(e:0<h.a)(f:h.b<=h.a)(y:2*DS s+450<n):∃g b,AN n 69 [c] h=some (g,b)/\zQ b h.a g (DW nm s)/\b.b=h.b/\h.a<=b.a/\∀i,i<h.a->b.c i=h.c i:=by obtain⟨n,rfl⟩:=BX y;have l:DS s=s.a.length+s.b.length+s.f.length+s.g.length+s.d.length+s.h.length:=rfl;refine GY BF (Hp (n:=n) (N:=n) o a v w x e f (by omega) (by omega)) fun g B z _ j=>?_;obtain⟨⟨A,rfl,j⟩,_⟩:=j;exact⟨⟨A,rfl,Zb j z h⟩,rfl,af _,fun _ _=>rfl⟩
theorem Wc{nm:ByteArray}{s:AS}{d:Value}{lo:Nat}(l:CG lo h d nm s)(a:∀f k o p q r t m,d=.agg #[.string f,k,o,p,q,r,t,m]->M8 k s.a.length)(u:F7 s)(v:s.a.length<2932031007403)(w:h.c 0=EM)(g:0<h.a)(j:h.b<=h.a)(x:2*DS s+450<n):∃c b,AN n 69 [d] h=some (c,b)/\iS b h.a c (DW nm s)/\b.b=h.b/\h.a<=b.a/\∀i,i<h.a->b.c i=h.c i:=by obtain⟨c,b,y,⟨z,e,A⟩,B⟩:=Hs (n:=n) l a u v w g j x;exact⟨c,b,y,⟨z,e,A.a⟩,B⟩
end
def JM(e:TypeId)(h:AA)(lo:Nat)(v:Value)(n:Nat)(cs:List Value):Prop:=(v=Z0/\n=0/\cs=[])\/∃a,v=qS a n AT/\lo<=a/\a<h.a/\h.c a=.row cs e true false
theorem JM.a{e:TypeId}{h h':AA}{lo:Nat}{v:Value}{n:Nat}{cs:List Value}(c:JM e h lo v n cs)(j:h.a<=h'.a)(k:∀i,i<h.a->(∃a g,h.c i=.row a e g false)->lo<=i->h'.c i=h.c i):JM e h' lo v n cs:=by
 rcases c with b|⟨d,b,f,l,m⟩;.exact .inl b
 .exact .inr ⟨d,b,f,by omega,by grind⟩
theorem JM.b{e:TypeId}{h:AA}{lo lo':Nat}{v:Value}{n w:Nat}{cs:List Value}(a:JM e h lo v n cs)(b:cs.length=n*w)(c:lo'<=lo):AL lo' h v n w cs:=by
 rcases a with⟨rfl,rfl,rfl⟩|⟨d,rfl,g,i,f⟩;.exact⟨by simp,_,_,rfl,.inl ⟨rfl,rfl⟩⟩
 .exact⟨b,_,_,rfl,.inr ⟨d,0,cs,e,true,false,rfl,f,by omega,by grind,fun _=>rfl⟩⟩
section
variable {P:Program} {t e:TypeId} {w b:Nat} {z:Value} {h:AA}
theorem T9(r:P.underlying t=some (.slice e))(s:BN P e=some w)(u:HL P e=some b)(x:DK P e=some z)(B:z.cells.size=w)(M:0<w)(k:b<=32){lo n:Nat}{v:Value}{cs new:List Value}(C:JM e h lo v n cs)(D:cs.length=n*w)(l:cs.all one=true)(E:new.length=w)(c:new.all one=true)(F:lo<=h.a)(N:h.b<=lo)(O:n<2932031007403):∃y d,DR P (h.d (.row new e false false)) t v (qS h.a 1 1)=some (y,d)/\JM e d lo y (n+1) (cs++new)/\d.b=h.b/\h.a<=d.a/\∀i,i<h.a->(i<lo\/∃m A g,A≠e/\h.c i=.row m A g false)->d.c i=h.c i:=by
 have a:EL (h.d (.row new e false false)) w 1 (qS h.a 1 1)=some new:=by
  simp only[EL,BJ,GN,gn,Nat.one_mul];grind
 have G:(n+1)*b<=(n+1)*32:=Nat.mul_le_mul_left _ k;rcases C with⟨rfl,rfl,rfl⟩|⟨f,rfl,Q,H,I⟩
 .have o:(0:Nat)≠AT:=by unfold AT;omega
  refine⟨.slice (some ⟨(h.d (.row new e false false)).a,0,none⟩) (0+1) AT,(h.d (.row new e false false)).d (.row ([]++new) e true false),?_,.inr ⟨_,rfl,?_,?_,BJ⟩,rfl,by show h.a<=h.a+1+1;omega,fun i J _=>?_⟩
  .have K:EL (h.d (.row new e false false)) w 0 (Z0)=some []:=by simp[EL]
   simp only[DR,r,s,u,x,a,c,K];rw[ag (by grind),ag cj,ad o,ad (by omega),ag (by grind)]
  .show lo<=h.a+1;omega
  .show h.a+1<h.a+1+1;omega
  .rw[AV (by show i<h.a+1;omega),AV]
 .have R:n<=AT:=by unfold AT;omega
  have p:(h.d (.row new e false false)).c f=.row cs e true false:=by rw[AV H];exact I
  have j:GN cs 0 (n*w)=some cs:=by
   simp only[GN,gn];grind
  refine⟨.slice (some ⟨(h.d (.row new e false false)).a,0,none⟩) (n+1) AT,((h.d (.row new e false false)).e f .dead).d (.row (cs++new) e true false),?_,.inr ⟨_,rfl,?_,?_,BJ⟩,rfl,by show h.a<=h.a+1+1;omega,fun i J L=>?_⟩
  .simp only[DR,r,s,u,x,a,c,p,j,l];rw[ag (by grind),ag cj,ag cj,ag (by rw[CE,bh (show(n+1)*b<=140737488355328 by omega),bh (show n+1<=140737488355328 by omega),bh (show h.b<=f by omega)];rfl),ad (by decide),ag cj,ag cj]
  .show lo<=h.a+1;omega
  .show h.a+1<h.a+1+1;omega
  .have q:f≠i:=by grind
   rw[AV (by show i<h.a+1;omega),AP (by show f<h.a+1;omega) q,AV]
end
def FZ(l:List (Int×Int×Int)):List Value:=l.flatMap fun x=>[iv x.1,iv x.2.1,iv x.2.2]
theorem WT:∀l,(FZ l).length=l.length*3
 |[]=>rfl|x::l=>by
  have e:FZ (x::l)=iv x.1::iv x.2.1::iv x.2.2::FZ l:=rfl;rw[e];simp only[bx,WT l];omega
theorem zP(l:List (Int×Int×Int)):(FZ l).all one=true:=by unfold FZ;rw[List.all_flatMap];exact bm.2 fun x _=>rfl
theorem NS:BN prog 142=some 3:=by kernel_rfl
theorem UD:BN prog 28=some 1:=by kernel_rfl
theorem wM:HL prog 142=some 24:=by kernel_rfl
abbrev E8(a b c:Int):Value:=.agg #[iv a,iv b,iv c]
theorem Y4:DK prog 142=some (E8 0 0 0):=by kernel_rfl
theorem Ht:HC prog 142=some true:=by kernel_rfl
theorem JJ:BN prog 30=some 3:=by kernel_rfl
theorem Td:HC prog 30=some true:=by kernel_rfl
abbrev zT:Value:=.agg #[Z0,Z0,Z0]
theorem M7:DK prog 30=some zT:=by kernel_rfl
theorem MS:flat zT=true:=rfl
theorem xO:HN prog (match prog.underlying 30 with|some (.struct a)=>a.toList|_=>[])=some [(0,1),(1,1),(2,1)]:=by kernel_rfl
theorem M4:CL prog 30 []=some zT:=by have h:=xO;rw[ei]at h;simp only at h;simp only[CL,M7,MS,ai,ei,h];rfl
theorem Le{a:Option Addr}{n c:Nat}:CL prog 30 [(2,.slice a n c)]=some (.agg #[Z0,Z0,.slice a n c]):=by have h:=xO;rw[ei]at h;simp only at h;simp only[CL,M7,MS,ai,ei,h];rfl
section
variable {h:AA} {id off:Nat}
theorem FU:EP prog h 30 (qP id off)=AX 3 off (h.c id):=NF Td JJ
theorem UE:EP prog h 142 (qP id off)=AX 3 off (h.c id):=NF Ht NS
theorem IJ:EP prog h 28 (qP id off)=AI off (h.c id):=JL (by kernel_rfl)
theorem IM:BC prog 30 (qP id off) 0=some (qP id off):=by simp[BC,ei,UD,CB]
theorem LF:BC prog 30 (qP id off) 1=some (qP id (off+1)):=by simp[BC,ei,FW,CB]
theorem LN:BC prog 30 (qP id off) 2=some (qP id (off+2)):=by simp[BC,ei,FW,CB]
theorem m9{a b c:Int}:FP prog h 28 1 [(0,E8 a b c)]=some (qS h.a 1 1,h.d (.row [iv a,iv b,iv c] 142 false false)):=by simp[FP,bn,NS,Y4,flat,B7,GW,I6,CF,Go.Sx.lay]
end
def GH(lo:Nat)(H:AA)(v:Value)(t:FK):Prop:=∃a b c,v=.agg #[a,b,c]/\AL lo H a t.V.length 3 (FZ t.V)/\AK lo H b t.G/\AK lo H c t.a
theorem GH.b{lo:Nat}{H H':AA}{v:Value}{t:FK}(c:GH lo H v t)(a:H.a<=H'.a)(b:∀i,lo<=i->i<H.a->H'.c i=H.c i):GH lo H' v t:=by obtain⟨d,e,f,rfl,g,h,j⟩:=c;exact⟨d,e,f,rfl,g.b a b,h.U a b,j.U a b⟩
theorem GH.a{lo lo':Nat}{H:AA}{v:Value}{t:FK}(b:GH lo H v t)(a:lo'<=lo):GH lo' H v t:=by obtain⟨c,d,e,rfl,f,g,h⟩:=b;exact⟨c,d,e,rfl,f.f a,g.X a,h.X a⟩
abbrev U7:FK:=⟨[],[],[]⟩
theorem TI(lo:Nat)(H:AA):GH lo H zT U7:=⟨_,_,_,rfl,⟨rfl,_,_,rfl,.inl ⟨rfl,rfl⟩⟩,AL.e lo H 1,AL.e lo H 1⟩
theorem uY{lo:Nat}{h:AA}{v:Value}{n w:Nat}{cs:List Value}(b:AL lo h v n w cs)(d:B7 v=true)(lo':Nat)(h':AA):AL lo' h' v n w cs:=by
 obtain⟨e,a,c,rfl,⟨f,rfl⟩|⟨k,i,j,l,g,m,rfl,o,p,q⟩⟩:=b;.exact⟨e,_,_,rfl,.inl ⟨f,rfl⟩⟩
 .cases d
theorem Hy{lo:Nat}{H:AA}{v f:Value}{t:FK}(e:GH lo H v t)(g:E5 (.tuple #[v,f])=true)(lo':Nat)(H':AA):GH lo' H' v t:=by
 obtain⟨b,c,d,rfl,h,i,j⟩:=e;have a:B7 b=true/\B7 c=true/\B7 d=true:=by
  simp[E5,flat,B7]at g⊢;grind
 exact⟨b,c,d,rfl,uY h a.1 lo' H',uY i a.2.1 lo' H',uY j a.2.2 lo' H'⟩
structure LJ (B:AA) (RI m:Nat) (H:AA) (t:FK):Prop where
 r:H.c RI=.row (ints t.a) 3 false false
 l:t.a.length=m
 y:∃ vv gv,H.c (RI+1)=.row [vv,gv,qS RI m m] 30 false false/\JM 142 H (RI+2) vv t.V.length (FZ t.V)/\JM 3 H (RI+2) gv t.G.length (ints t.G)
 n:RI+2<=H.a
 a:H.b=B.b
 o:∀ i,i<RI->H.c i=B.c i
section
variable {B H H':AA} {RI m:Nat} {t:FK}
theorem LJ.b(a:LJ B RI m H t)(d:H.a<=H'.a)(e:H'.b=H.b)(c:∀i,i<H.a->H'.c i=H.c i):LJ B RI m H' t:=by have k:=a.n;obtain⟨f,g,l,h,j⟩:=a.y;exact⟨by rw[c _ (by omega)];exact a.r,a.l,⟨f,g,by grind,h.a d fun i b _ _=>c i b,j.a d fun i b _ _=>c i b⟩,by omega,e.trans a.a,fun i b=>by rw[c i (by omega)];exact a.o i b⟩
theorem LJ.g(a:LJ B RI m H t):∃v,AX 3 0 (H.c (RI+1))=some v/\GH RI H v t/\v.cells.size=3:=by have g:=a.n;obtain⟨b,c,d,e,f⟩:=a.y;exact⟨.agg #[b,c,qS RI m m],by rw[d];rfl,⟨b,c,_,rfl,e.b (WT _) (by omega),f.b (by rw[IE];omega) (by omega),AK.Y a.r ⟨by omega,by omega⟩ a.l.symm⟩,rfl⟩
theorem LJ.f(a:LJ B RI m H t)(n:B.b<=RI){i:Nat}(hi:i<m)(v:Int):∃c,BD prog H 3 (qP RI i) (iv v)=some c/\LJ B RI m c {t with a:=t.a.set i v}/\c.a=H.a:=by
 have d:=a.n;have o:=a.l;have e:=a.a;obtain⟨f,h,p,k,l⟩:=a.y;have g:∀j,j≠RI->(H.e RI (.row (ints (t.a.set i v)) 3 false false)).c j=H.c j:=fun j b=>AP (by omega) (bc b);exact⟨_,LZ a.r (by omega) (by omega),⟨BE rfl (by omega),by grind,⟨f,h,by grind,k.a (af _) fun j _ _ b=>g j (by omega),l.a (af _) fun j _ _ b=>g j (by omega)⟩,d,e,fun j b=>by rw[g j (by omega)];exact a.o j b⟩,rfl⟩
theorem HO:(E8 0 0 0).cells.size=3:=rfl
theorem JM.c{e:TypeId}{lo n:Nat}{v:Value}{cs:List Value}(a:JM e H lo v n cs):v.cells=#[v]/\one v=true:=by
 rcases a with⟨rfl,_⟩|⟨b,rfl,_⟩;.exact⟨rfl,rfl⟩
 .exact⟨rfl,rfl⟩
theorem LJ.e(e:LJ B RI m H t)(E:B.b<=RI)(s:t.V.length<2932031007403)(a b c:Int):∃h f d k,AI 0 (H.c (RI+1))=some h/\DR prog (H.d (.row [iv a,iv b,iv c] 142 false false)) 28 h (qS H.a 1 1)=some (f,d)/\BD prog d 28 (qP (RI+1) 0) f=some k/\LJ B RI m k {t with V:=t.V++[(a,b,c)]}/\H.a<=k.a:=by
 have F:=e.n;have G:=e.a;obtain⟨h,l,u,v,w⟩:=e.y;obtain⟨f,d,x,n,I,q,r⟩:=T9 (new:=[iv a,iv b,iv c]) bn NS wM Y4 HO (by decide) (by decide) v (WT _) (zP _) rfl rfl (by omega) (by omega) s;have y:d.c (RI+1)=.row [h,l,qS RI m m] 30 false false:=by grind
 have o:=EO (off:=0) UD n.c.1 n.c.2 y (by simp) (by omega);have g:∀j,j≠RI+1->(d.e (RI+1) (.row [f,l,qS RI m m] 30 false false)).c j=d.c j:=fun j p=>AP (by omega) (bc p);refine⟨h,f,d,_,by rw[u];rfl,x,o,⟨by rw[fy,g _ (by omega),r _ (by omega) (.inl (by omega))];exact e.r,e.l,⟨f,l,BE rfl (by omega),?_,?_⟩,?_,?_,fun i z=>by rw[fy,g _ (by omega),r _ (by omega) (.inl (by omega))];exact e.o i z⟩,q⟩
 .have A:FZ (t.V++[(a,b,c)])=FZ t.V++[iv a,iv b,iv c]:=by simp[FZ]
  rw[A,ch];exact n.a (af _) fun j _ _ p=>g j (by omega)
 .exact w.a q fun j p C D=>by grind
 .show RI+2<=d.a;omega
 .show d.b=_;omega
theorem LJ.d(e:LJ B RI m H t)(D:B.b<=RI)(q:t.G.length<2932031007403)(a:Int):∃c d b h,AI 1 (H.c (RI+1))=some c/\DR prog (H.d (.row [iv a] 3 false false)) 25 c (qS H.a 1 1)=some (d,b)/\BD prog b 25 (qP (RI+1) 1) d=some h/\LJ B RI m h {t with G:=t.G++[a]}/\H.a<=h.a:=by
 have E:=e.n;have F:=e.a;obtain⟨c,k,r,s,u⟩:=e.y;obtain⟨d,b,v,l,I,o,p⟩:=T9 (new:=[iv a]) au B_ IZ GD ZX (by decide) (by decide) u (by rw[IE];omega) (MJ _) rfl rfl (by omega) (by omega) q;have w:b.c (RI+1)=.row [c,k,qS RI m m] 30 false false:=by grind
 have f:=EO (off:=1) FW l.c.1 l.c.2 w (by simp) (by omega);have g:∀j,j≠RI+1->(b.e (RI+1) (.row [c,d,qS RI m m] 30 false false)).c j=b.c j:=fun j n=>AP (by omega) (bc n);have x:([c,k,qS RI m m]:List Value).set 1 d=[c,d,qS RI m m]:=rfl;rw[x]at f;refine⟨k,d,b,_,by rw[r];rfl,v,f,⟨by rw[g _ (by omega),p _ (by omega) (.inl (by omega))];exact e.r,e.l,⟨c,d,BE rfl (by omega),?_,?_⟩,?_,?_,fun i y=>by rw[g _ (by omega),p _ (by omega) (.inl (by omega))];exact e.o i y⟩,o⟩
 .exact s.a o fun j n z A=>by grind
 .have C:ints (t.G++[a])=ints t.G++[iv a]:=by simp[ints]
  rw[C,ch];exact l.a (af _) fun j _ _ n=>g j (by omega)
 .show RI+2<=b.a;omega
 .show b.b=_;omega
theorem SF{a:Nat}{v:Value}(l:H.c a=.row [Z0,Z0,Z0] 30 false false)(F:H.c (a+1)=.row [iv 0,iv 0] 43 false false)(n:a+1<H.a)(o:H.b<=a)(h:GH (a+2) H v t)(e x:Int):∃c b,BD prog H 30 (qP a 0) v=some c/\BD prog c 43 (qP (a+1) 0) (EE e x)=some b/\AX 3 0 (b.c a)=some v/\AX 2 0 (b.c (a+1))=some (EE e x)/\GH (a+2) b v t/\c.a=H.a/\b.a=H.a/\c.b=H.b/\b.b=H.b/\(∀i,i≠a->c.c i=H.c i)/\∀i,i<a->b.c i=H.c i:=by
 obtain⟨d,f,g,rfl,p,q,r⟩:=id h;have s:([d,f,g]:List Value).all one=true:=by simp only[az,bd,AL.a p,AL.a q,AL.a r,ao]
 have u:=GQ (vs:=[d,f,g]) JJ l rfl rfl s o;have w:∀j,j≠a->(H.e a (.row [d,f,g] 30 false false)).c j=H.c j:=fun j y=>AP (by omega) (bc y);obtain⟨b,z,A,k,C,D⟩:=U6 (H:=H.e a (.row [d,f,g] 30 false false)) (id:=a+1) (by grind) n (by show H.b<=a+1;omega) e x;have E:b.c a=.row [d,f,g] 30 false false:=by rw[D a (by omega),BE rfl (by omega)]
 exact⟨_,b,u,z,by rw[E];rfl,A,h.b (by rw[k];exact af _) fun i G I=>by grind,rfl,k,rfl,C,w,fun i J=>by grind⟩
end
def Ex(h h':AA):Prop:=h.a<=h'.a/\∀i,i<h.a->h'.c i=h.c i
theorem Ex.c(h:AA):Ex h h:=⟨af _,fun _ _=>rfl⟩
section
variable {h h' h2:AA} {o:BO} {i:Nat}
theorem Ex.a(a:Ex h h')(b:Ex h' h2):Ex h h2:=⟨dj a.1 b.1,fun i c=>(b.2 i (cf c a.1)).trans (a.2 i c)⟩
theorem Ex.b(a:Ex h h'):Ex h (h'.d o):=⟨dj a.1 (jp _),fun i b=>(AV (cf b a.1)).trans (a.2 i b)⟩
theorem Ex.e(a:Ex h h')(h1:h.a<=i)(h2:i<h'.a):Ex h (h'.e i o):=⟨a.1,fun j b=>(AP h2 (by omega)).trans (a.2 j b)⟩
theorem Ex.f{f:Nat}(a:Ex h h'):Ex h (h'.f f):=⟨a.1,a.2⟩
theorem Ex.d{f:Nat}(a:Ex (h.f f) h'):Ex h h':=⟨a.1,a.2⟩
end
def Wk(h:AA)(v:Value)(h':AA):Prop:=v.cells=#[v]/\one v=true/\h'.b=h.b/\Ex h h'
theorem Wk.a{h h':AA}{v:Value}(a:Wk h v h'):Wk h v h:=⟨a.1,a.2.1,rfl,Ex.c h⟩
theorem H8:BN prog 188=some 14:=by kernel_rfl
theorem QH:BN prog 147=some 1:=by kernel_rfl
theorem MO:BN prog 149=some 1:=by kernel_rfl
theorem Z2:BN prog 266=some 1:=by kernel_rfl
theorem Iy:BN prog 269=some 1:=by kernel_rfl
theorem If:BN prog 238=some 1:=by kernel_rfl
theorem Cx:BN prog 186=some 1:=by kernel_rfl
theorem RG:DK prog 149=some .nilIface:=by kernel_rfl
theorem XO:DK prog 266=some .nilIface:=by kernel_rfl
theorem YI:DK prog 269=some .nilFunc:=by kernel_rfl
theorem In:DK prog 238=some .nilFunc:=by kernel_rfl
theorem Z5:DK prog 147=some (Z0):=by kernel_rfl
theorem VB:DK prog 142=some (E8 0 0 0):=by kernel_rfl
theorem TF:flat .nilIface=true:=rfl
theorem XS:flat .nilFunc=true:=rfl
theorem aJ:flat (Z0)=true:=rfl
theorem R5:(Value.nilIface).cells.toList=[.nilIface]:=rfl
theorem XI:(Value.nilFunc).cells.toList=[.nilFunc]:=rfl
theorem UX:(Z0).cells.toList=[Z0]:=rfl
theorem c_:(Value.int .i64 0).cells.toList=[iv 0]:=rfl
theorem YV:(E8 0 0 0).cells.toList=[iv 0,iv 0,iv 0]:=rfl
theorem VF:flat (E8 0 0 0)=true:=rfl
section
variable {h:AA} {id off:Nat}
theorem kM:EP prog h 147 (qP id off)=AI off (h.c id):=JL (by kernel_rfl)
theorem Io:EP prog h 149 (qP id off)=AI off (h.c id):=JL (by kernel_rfl)
theorem Ir:EP prog h 238 (qP id off)=AI off (h.c id):=JL (by kernel_rfl)
theorem TX:EP prog h 186 (qP id off)=AI off (h.c id):=JL (by kernel_rfl)
theorem dI:BC prog 188 (qP id off) 0=some (qP id off):=by simp[BC,underlying188,EQ,CB]
theorem Rf:BC prog 188 (qP id off) 1=some (qP id (off+8)):=by simp[BC,underlying188,JJ,CB]
theorem Hb:BC prog 188 (qP id off) 3=some (qP id (off+13)):=by simp[BC,underlying188,QH,CB]
end
structure K_ (h:AA) (K:Nat) (R:List AF) (nV:Nat) (rd:List Int) (nr:Nat):Prop where
 d:K<h.a
 b:∃ vr,AI 1 (h.c K)=some vr/\A8 h vr R
 c:∃ vv V,AI 8 (h.c K)=some vv/\AL 0 h vv nV 3 (FZ V)
 f:∃ tr,AI 10 (h.c K)=some tr/\AK 0 h tr rd
 e:∃ RU cs,AI 13 (h.c K)=some (qS RU nr nr)/\RU<h.a/\h.c RU=.row cs 149 false false/\cs.length=nr/\cs.all one=true
section
variable {h h':AA} {K:Nat} {R:List AF} {nV:Nat} {rd:List Int} {nr:Nat}
theorem K_.a(e:K_ h K R nV rd nr)(a:Ex h h'):K_ h' K R nV rd nr:=by obtain⟨b,⟨f,g,j⟩,⟨k,V,l,m⟩,⟨n,o,p⟩,⟨d,q,r,s,t,u,v⟩⟩:=e;have w:=a.1;exact⟨by omega,⟨f,by rw[a.2 K b];exact g,j.a a.1 a.2⟩,⟨k,V,by rw[a.2 K b];exact l,m.b a.1 fun i _ c=>a.2 i c⟩,⟨n,by rw[a.2 K b];exact o,AK.U p a.1 fun i _ c=>a.2 i c⟩,⟨d,q,by rw[a.2 K b];exact r,by omega,by rw[a.2 d s];exact t,u,v⟩⟩
end
noncomputable def SL(h:AA)(y:AF):AA:=(h.d (.row (AQ DL) 125 false false)).e h.a (.row (AQ y) 125 false false)
section
variable {h:AA} {y:AF}
theorem yX(a:h.b<=h.a):BD prog (h.d (.row (AQ DL) 125 false false)) 125 (qP h.a 0) (CW y)=some (SL h y):=TZ (h:=h.d (.row (AQ DL) 125 false false)) (i:=0) (off:=0) (L:=[DL]) rfl BJ (by decide) (by assumption)
theorem r_:(SL h y).c h.a=.row (AQ y) 125 false false:=BE rfl (by show h.a<h.a+1;omega)
theorem Ei:(SL h y).a=h.a+1:=rfl
theorem qO:(SL h y).b=h.b:=rfl
theorem vW:Ex h (SL h y):=(Ex.c h).b.e (af _) (by show h.a<h.a+1;omega)
theorem iC:(Value.agg #[iv 0,.string ByteArray.empty,iv 0,iv 0,iv 0]).cells.toList=AQ DL:=rfl
end
section
variable {n N:Nat} {h:AA} {K nV nr:Nat} {rd:List Int} {Z:List AF} {s:AS}
abbrev HY(K:Nat):Value:=qP K 0
theorem Vc{at_:Nat}{x:AF}(b:FH Z s)(e:s.a[at_]?=some x)(f:s.a.length<2932031007403)(g:K_ h K s.a nV rd nr)(c:h.b<=h.a)(u:s.a.length+20<n):∃v a,AW prog (AN n) N 174 [HY K,iv at_] h=some (v,a)/\(GM a h.a v ((A9 (AE Z) x.b.toNat (at_+1)).map (fun(k:Nat)=>(k:Int)))/\a.b=h.b/\Ex h a):=by refine G_ (R:=fun v a=>GM a h.a v ((A9 (AE Z) x.b.toNat (at_+1)).map (fun(k:Nat)=>(k:Int)))/\a.b=h.b/\Ex h a) func174 rfl (by simp) ?_;have i:f174.results.toList=[.tmp 4]:=rfl;obtain⟨w,j,l⟩:=g.b;obtain⟨z,m,y,o⟩:=b.z e;obtain⟨A,B,p,d,q,r,t⟩:=bB (n:=n) b.t b.b l m f (by omega) c;rw[<-o]at d;simp only[eE,seval,i,ab,dI,CK,CJ,j,p];exact⟨d,q,r,t⟩
theorem Bc{at_:Nat}{x:AF}(c:FH Z s)(d:s.a[at_]?=some x)(e:s.a.length<2932031007403)(f:K_ h K s.a nV rd nr)(b:h.b<=h.a)(g:s.a.length+30<n):∃v a,AN n 174 [HY K,iv at_] h=some (v,a)/\(GM a h.a v ((A9 (AE Z) x.b.toNat (at_+1)).map (fun(k:Nat)=>(k:Int)))/\a.b=h.b/\Ex h a):=by obtain⟨n,rfl⟩:=BX g;exact GY BF (Vc (N:=n) c d e f b (by omega)) fun l m i _ j=>⟨j.1.b i _ _,rfl,Ex.c h⟩
theorem Is{at_:Nat}{y:AF}(i:s.a[at_]?=some y)(j:K_ h K s.a nV rd nr)(c:h.b<=h.a):∃v b,AW prog (AN n) N 235 [HY K,iv at_] h=some (v,b)/\Wk h v b:=by
 refine G_ (R:=fun v b=>Wk h v b) func235 rfl (by simp) ?_;have k:f235.results.toList=[.tmp 4]:=rfl;obtain⟨u,l,m⟩:=j.b;obtain⟨o,w,p,q,x,z,B,C,D,r⟩:=m.b i;have d:=yX (y:=y) c;have t:=r_ (h:=h) (y:=y);have e:=vW (h:=h) (y:=y);have f:=qO (h:=h) (y:=y);simp only[eE,seval,k,ab,dI,CK,CJ,FX,l,p,r,FC,C3,NO,QZ,ao,iC,d];generalize SL h y=A at*;have g:AI 0 (A.c h.a)=some (iv y.a):=by rw[t];rfl
 cases a:(y.a==25)with
 |true=>simp only[eE,seval,↓eP,BB,AM,g,a];exact⟨rfl,rfl,f,e⟩|false=>simp only[eE,seval,↓eP,BB,AM,g,a];exact⟨rfl,rfl,f,e⟩
theorem Qj{at_:Nat}{y:AF}(c:s.a[at_]?=some y)(d:K_ h K s.a nV rd nr)(a:h.b<=h.a)(e:5<n):∃v b,AN n 235 [HY K,iv at_] h=some (v,b)/\Wk h v b:=by obtain⟨n,rfl⟩:=BX e;exact GY BF (Is (N:=n) c d a) fun g i j _ f=>f.a
theorem yL(a:FH Z s){i k p:Nat}{x:AF}(b:s.a[i]?=some x)(c:(A9 (AE Z) x.b.toNat (i+1))[k]?=some p):∃y:AF,s.a[p]?=some y:=⟨_,aa (a.d b c).2⟩
theorem It{at_:Nat}{y:AF}(W:S_ Z s)(U:s.a[at_]?=some y)(g5:27<=y.a)(hl:s.a.length<2932031007403)(hM:K_ h K s.a nV rd nr)(h3:h.b<=h.a)(hn:s.a.length+40<n)(M:∀k∈A9 (AE Z) y.b.toNat (at_+1),∀(z:AF),s.a[k]?=some z->27<=z.a->∀E,K_ E K s.a nV rd nr->E.b<=E.a->∃v h2,AN n 230 [HY K,iv k] E=some (v,h2)/\Wk E v h2):∃v E,AW prog (AN n) N 230 [HY K,iv at_] h=some (v,E)/\Wk h v E:=by
 refine G_ (R:=fun v E=>Wk h v E) func230 rfl (by simp[f230]) ?_;have hr:f230.results.toList=[.tmp 4]:=rfl;obtain⟨vr,a1,a2⟩:=hM.b;obtain⟨g6,pr,e0,g7,l0,l1,l2,l3,l4,lr⟩:=a2.b U;have h4:=yX (y:=y) h3;have gA:=r_ (h:=h) (y:=y);have j:=vW (h:=h) (y:=y);have w:=qO (h:=h) (y:=y);have nA:=Ei (h:=h) (y:=y);simp only[eE,seval,hr,ab,dI,CK,CJ,FX,a1,e0,lr,FC,C3,NO,QZ,ao,iC,h4];generalize SL h y=A at*;have o:AI 0 (A.c h.a)=some (iv y.a):=by rw[gA];rfl
 have MA:=hM.a j;have h5:A.b<=A.a:=by omega
 cases a:(y.a==27)with
 |true=>simp only[eE,seval,↓eP,db,BB,AM,o,a];exact⟨rfl,rfl,w,j⟩|false=>cases b:(y.a==29)with|true=>simp only[eE,seval,↓eP,db,BB,AM,o,a,b];exact⟨rfl,rfl,w,j⟩|false=>cases c:(y.a==30)with
 |true=>simp only[eE,seval,↓eP,db,BB,AM,o,a,b,c];exact⟨rfl,rfl,w,j⟩|false=>cases d:(y.a==33)with
 |true=>simp only[eE,seval,↓eP,db,BB,AM,o,a,b,c,d];exact⟨rfl,rfl,w,j⟩|false=>cases f:(y.a==32)with|true=>simp only[eE,seval,↓eP,db,BB,AM,o,a,b,c,d,f];exact⟨rfl,rfl,w,j⟩|false=>cases g:(y.a==31)with
 |true=>simp only[eE,seval,↓eP,db,BB,AM,o,a,b,c,d,f,g];exact⟨rfl,rfl,w,j⟩|false=>cases l:(y.a==34)with
 |true=>simp only[eE,seval,↓eP,db,BB,AM,o,a,b,c,d,f,g,l];exact⟨rfl,rfl,w,j⟩|false=>cases q:(y.a==28)with|true=>simp only[eE,seval,↓eP,db,BB,AM,o,a,b,c,d,f,g,l,q];exact⟨rfl,rfl,w,j⟩|false=>cases r:(y.a==35)with
 |true=>simp only[eE,seval,↓eP,db,BB,AM,o,a,b,c,d,f,g,l,q,r];exact⟨rfl,rfl,w,j⟩|false=>cases D:(y.a==36)with
 |true=>simp only[eE,seval,↓eP,db,BB,AM,o,a,b,c,d,f,g,l,q,r,D];exact⟨rfl,rfl,w,j⟩|false=>cases F:(y.a==37)with|true=>simp only[eE,seval,↓eP,db,BB,AM,o,a,b,c,d,f,g,l,q,r,D,F];exact⟨rfl,rfl,w,j⟩|false=>
 obtain⟨kv,X,hk,hL,f1,G⟩:=Bc (n:=n) W.g U hl MA h5 (by omega);have gI:=GM.a hL (bg _);have M1:=MA.a G;have Y:X.b<=X.a:=by have:=G.1;omega
 have y1:AI 0 (X.c h.a)=some (iv y.a):=by rw[G.2 _ (by omega)];exact o
 obtain⟨V,g8⟩:=W.a at_ y U;cases H:(y.a==38)with
 |true=>
  have h6:y.a=38:=by simpa using H
  have k1:1<=y.b:=by rw[h6]at V;exact V
  obtain⟨m,hm⟩:∃m,y.b.toNat=m+1:=⟨y.b.toNat-1,by omega⟩;have t:(A9 (AE Z) y.b.toNat (at_+1))[0]?=some (at_+1):=by rw[hm];rfl
  obtain⟨z,hz⟩:=yL W.g U t;obtain⟨i0,p0,q0,b0,g0⟩:=AK.V gI (i:=0) (x:=((at_+1:Nat):Int)) (by rw[bT,t];rfl);have O:BW prog 25 kv (iv 0)=some (qP i0 p0):=q0;obtain⟨v2,e,hi,w1,w2,w3,I⟩:=Qj (n:=n) hz M1 Y (by omega);have s1:=EO (off:=0) Iy w1 w2 (h:=e.d (.row [.nilFunc] 269 false false)) BJ (by decide) (by show e.b<=e.a;have:=G.1;have:=I.1;omega);simp only[eE,seval,↓eP,db,BB,AM,o,a,b,c,d,f,g,l,q,r,D,F,H,hk,O,g0,hi,YI,XS,XI,s1];exact⟨rfl,rfl,by show e.b=h.b;omega,(((j.a G).a I).b).e (by have:=G.1;have:=I.1;omega) (by show e.a<e.a+1;omega)⟩|false=>
 have g9:39<=y.a:=by
  simp only[ax,ne_eq]at a b c d f g l q r D F H;omega
 have kd:∀(k p:Nat),(A9 (AE Z) y.b.toNat (at_+1))[k]?=some p->∃z:AF,s.a[p]?=some z/\27<=z.a:=fun k p hp=>by
  obtain⟨z,hz⟩:=yL W.g U hp;have hs:=W.b at_ k p y z U (by omega) hp hz;have ha:CH y.a k=7:=by unfold CH;simp;omega
  rw[ha]at hs;exact⟨z,hz,by have:=hs;simp[CX]at this;omega⟩
 have x0:1<=y.b:=by unfold F8 at V;simp at V;omega
 obtain⟨m,hm⟩:∃m,y.b.toNat=m+1:=⟨y.b.toNat-1,by omega⟩;have t:(A9 (AE Z) y.b.toNat (at_+1))[0]?=some (at_+1):=by rw[hm];rfl
 obtain⟨i0,p0,q0,b0,g0⟩:=AK.V gI (i:=0) (x:=((at_+1:Nat):Int)) (by rw[bT,t];rfl);have O:BW prog 25 kv (iv 0)=some (qP i0 p0):=q0;obtain⟨z0,h7,h0⟩:=kd 0 _ t;obtain⟨v2,e,hi,w1,w2,w3,I⟩:=M (at_+1) (aw t) z0 h7 h0 X M1 Y;have s1:=EO (off:=0) Z2 w1 w2 (h:=e.d (.row [.nilIface] 266 false false)) BJ (by decide) (by show e.b<=e.a;have:=G.1;have:=I.1;omega);have J:Ex A ((e.d (.row [.nilIface] 266 false false)).e e.a (.row (([.nilIface]:List Value).set 0 v2) 266 false false)):=((G.a I).b).e (by have:=G.1;have:=I.1;omega) (by show e.a<e.a+1;omega);have fB:((e.d (.row [.nilIface] 266 false false)).e e.a (.row (([.nilIface]:List Value).set 0 v2) 266 false false)).b=h.b:=by show e.b=h.b;omega
 have h8:Ex X ((e.d (.row [.nilIface] 266 false false)).e e.a (.row (([.nilIface]:List Value).set 0 v2) 266 false false)):=(I.b).e (by have:=I.1;omega) (by show e.a<e.a+1;omega);simp only[eE,seval,↓eP,BB,AM,o,a,b,c,d,f,g,l,q,r,D,F,H,hk,O,g0,hi,XO,TF,R5,s1];generalize(e.d (.row [.nilIface] 266 false false)).e e.a (.row (([.nilIface]:List Value).set 0 v2) 266 false false)=B at*;have yB:AI 0 (B.c h.a)=some (iv y.a):=by rw[J.2 _ (by omega)];exact o
 cases L:(y.a==41)with
 |true=>
  simp only[eE,seval,↓eP,db,yB,L];exact⟨rfl,rfl,fB,j.a J⟩|false=>cases P:(y.a==42)with
 |true=>simp only[eE,seval,↓eP,db,yB,L,P];exact⟨rfl,rfl,fB,j.a J⟩|false=>
 have x2:2<=y.b:=by
  simp only[ax,ne_eq]at L P;unfold F8 at V;simp at V;omega
 obtain⟨m,hm⟩:∃m,y.b.toNat=m+2:=⟨y.b.toNat-2,by omega⟩;have Q:(A9 (AE Z) y.b.toNat (at_+1))[1]?=some (AE Z (at_+1)):=by rw[hm];rfl
 obtain⟨i1,p1,q1,b1,g1⟩:=AK.V gI (i:=1) (x:=((AE Z (at_+1):Nat):Int)) (by rw[bT,Q];rfl);have h9:BW prog 25 kv (iv 1)=some (qP i1 p1):=q1;have g2:AI p1 (B.c i1)=some (iv ((AE Z (at_+1):Nat):Int)):=by rw[h8.2 i1 b1];exact g1
 obtain⟨z1,g3,S⟩:=kd 1 _ Q;have MB:=MA.a J;have g4:B.b<=B.a:=by have:=J.1;omega
 obtain⟨v3,u,hj,u1,u2,u3,u4⟩:=M (AE Z (at_+1)) (aw Q) z1 g3 S B MB g4;have s2:=EO (off:=0) Z2 u1 u2 (h:=u.d (.row [.nilIface] 266 false false)) BJ (by decide) (by show u.b<=u.a;have:=u4.1;omega);have xC:Ex B ((u.d (.row [.nilIface] 266 false false)).e u.a (.row (([.nilIface]:List Value).set 0 v3) 266 false false)):=(u4.b).e u4.1 (by show u.a<u.a+1;omega);have fC:((u.d (.row [.nilIface] 266 false false)).e u.a (.row (([.nilIface]:List Value).set 0 v3) 266 false false)).b=h.b:=by show u.b=h.b;omega
 simp only[eE,seval,↓eP,BB,AM,yB,L,P,h9,g2,hj,XO,TF,R5,s2];generalize(u.d (.row [.nilIface] 266 false false)).e u.a (.row (([.nilIface]:List Value).set 0 v3) 266 false false)=C at*;have yC:AI 0 (C.c h.a)=some (iv y.a):=by have:=J.1;rw[xC.2 _ (by omega)];exact yB
 cases T:(y.a==53)with|true=>simp only[eE,seval,↓eP,db,yC,T];exact⟨rfl,rfl,fC,(j.a J).a xC⟩|false=>cases h1:(y.a==54)with|true=>simp only[eE,seval,↓eP,db,yC,T,h1];exact⟨rfl,rfl,fC,(j.a J).a xC⟩|false=>simp only[eE,seval,↓eP,db,yC,T,h1];exact⟨rfl,rfl,fC,(j.a J).a xC⟩
end
section
variable {K nV nr:Nat} {rd:List Int} {Z:List AF} {s:AS}
theorem Ja(e:S_ Z s)(p:s.a.length<2932031007403):∀(d at_ n:Nat)(y:AF)(h:AA),AE Z at_-at_<=d->s.a[at_]?=some y->27<=y.a->K_ h K s.a nV rd nr->h.b<=h.a->s.a.length+45+d<n->∃v b,AN n 230 [HY K,iv at_] h=some (v,b)/\Wk h v b:=by
 intro d;induction d with
 |zero=>intro at_ n y h q c;have:=(e.g.a c).2.2.2;omega|succ d r=>
  intro at_ n y h q c f t g B;obtain⟨n,rfl⟩:∃j,n=j+1:=⟨n-1,by omega⟩;refine GY BF (It (N:=n) e c f p t g (by omega) fun k m z u a b i l=>?_) fun C w D _ x=>x.a;obtain⟨j,A⟩:=dn m;obtain⟨E,o,F,G⟩:=e.g.a c;have w:=TD _ _ _ o j k A;have H:=RA _ _ _ o k m;exact r k n z b (by omega) u a i l (by omega)
end
def wD:List (Bool×Bool×List Operand):=[AO,AO,AO,AO,AO,AH [.tmp 3,.tmp 14],AH [.tmp 3,.tmp 14],AH [.tmp 3,.tmp 14],AJ,AJ,AJ]
noncomputable def Rl:Array Oper:=B9 f173 7
def Jd:List (Bool×Bool×List Operand):=[DT,AH [.tmp 9],AH [.tmp 9,.tmp 4],AH [.tmp 9],AH [.tmp 9],AJ,AJ]
theorem Jo:CA Rl=Jd:=by kernel_rfl
noncomputable def Au:Array Oper:=B9 f173 11
def Uu:List (Bool×Bool×List Operand):=[AO,AH [.tmp 4],AH [.tmp 4],AH [.tmp 4],AO,BP [.tmp 4,.tmp 45],BP [.tmp 4,.tmp 45,.tmp 4],BP [.tmp 4,.tmp 45,.tmp 4],BP [.tmp 4,.tmp 45,.tmp 4],AJ,BP [.tmp 4,.tmp 45,.tmp 4,.tmp 50],BP [.tmp 4,.tmp 45,.tmp 4,.tmp 50],AJ,AJ]
theorem Jy:CA Au=Uu:=by kernel_rfl
noncomputable def Bn:Array Oper:=B9 f173 14
def JA:List (Bool×Bool×List Operand):=[AO,AH [.tmp 4],AH [.tmp 4],AH [.tmp 4],AJ,AJ]
theorem Kx:CA Bn=JA:=by kernel_rfl
noncomputable def Qa:Array Oper:=B9 f173 17
def KT:List (Bool×Bool×List Operand):=[DT,DT,DT,DT,DT,BP [.tmp 4,.tmp 68],DT,DT,AH [.tmp 4,.tmp 68,.tmp 71],AH [.tmp 4,.tmp 68,.tmp 71,.tmp 4],AH [.tmp 4,.tmp 68,.tmp 71,.tmp 4],AH [.tmp 4,.tmp 68,.tmp 71,.tmp 4],AH [.tmp 4,.tmp 68,.tmp 71],BP [.tmp 4,.tmp 68,.tmp 71,.tmp 4,.tmp 75],BP [.tmp 4,.tmp 68,.tmp 71,.tmp 4,.tmp 75,.tmp 4],BP [.tmp 4,.tmp 68,.tmp 71,.tmp 4,.tmp 75,.tmp 4],BP [.tmp 4,.tmp 68,.tmp 71,.tmp 4,.tmp 75,.tmp 4],AH [.tmp 4,.tmp 68,.tmp 71],BP [.tmp 4,.tmp 68,.tmp 71,.tmp 4,.tmp 75,.tmp 4,.tmp 80],BP [.tmp 4,.tmp 68,.tmp 71,.tmp 4,.tmp 75,.tmp 4,.tmp 80],BP [.tmp 4,.tmp 68,.tmp 71,.tmp 4,.tmp 75,.tmp 4,.tmp 80],AJ,AJ,AJ]
theorem KV:CA Qa=KT:=by kernel_rfl
noncomputable def Oa:Array Oper:=B9 f173 20
def K9:List (Bool×Bool×List Operand):=[AO,AH [.tmp 4],AH [.tmp 4],AH [.tmp 4],AO,BP [.tmp 4,.tmp 88],BP [.tmp 4,.tmp 88],BP [.tmp 4,.tmp 88],BP [.tmp 4,.tmp 88],BP [.tmp 4,.tmp 88],BP [.tmp 4,.tmp 88,.tmp 4,.tmp 94],BP [.tmp 4,.tmp 88,.tmp 4,.tmp 94],BP [.tmp 4,.tmp 88],BP [.tmp 4,.tmp 88],BP [.tmp 4,.tmp 88,.tmp 4,.tmp 94,.tmp 96,.tmp 98],BP [.tmp 4,.tmp 88,.tmp 4,.tmp 94,.tmp 96,.tmp 98],AH [.tmp 4,.tmp 94,.tmp 96,.tmp 98],AJ]
theorem La:CA Oa=K9:=by kernel_rfl
noncomputable def Ay:Array Oper:=B9 f173 23
def Lb:List (Bool×Bool×List Operand):=[AO,AH [.tmp 4],AH [.tmp 4],AH [.tmp 4],AO,BP [.tmp 4,.tmp 105],BP [.tmp 4,.tmp 105,.tmp 4],BP [.tmp 4,.tmp 105,.tmp 4],BP [.tmp 4,.tmp 105,.tmp 4],AJ,BP [.tmp 4,.tmp 105,.tmp 4,.tmp 110],BP [.tmp 4,.tmp 105,.tmp 4,.tmp 110],AJ,AJ]
theorem Li:CA Ay=Lb:=by kernel_rfl
noncomputable def Qh:Array Oper:=B9 f173 26
def Lj:List (Bool×Bool×List Operand):=[AO,AO,AO,AO,AH [.tmp 4,.tmp 118],AH [.tmp 4,.tmp 118],AJ,AJ,AH [.tmp 4,.tmp 118,.tmp 120,.tmp 122],AJ]
theorem Lk:CA Qh=Lj:=by kernel_rfl
noncomputable def Ea:Array Oper:=B9 f110 1
def Ll:List (Bool×Bool×List Operand):=[AO,AO,AO,AO,AO,AH [.tmp 10],AJ,AJ,AH [.tmp 10,.tmp 3,.tmp 13],AJ]
theorem Lq:CA Ea=Ll:=by kernel_rfl
noncomputable def Kb:Array Oper:=B9 f110 2
def Lr:List (Bool×Bool×List Operand):=[DT,DT,BP [.tmp 3],AH [.tmp 3,.tmp 5],AH [.tmp 3,.tmp 5],AH [.tmp 3,.tmp 5],AJ,BP [.tmp 3,.tmp 5,.tmp 3],AJ]
theorem Ls:CA Kb=Lr:=by kernel_rfl
theorem Ft{K:Nat}:(HY K).cells.toList=[HY K]:=rfl
theorem Oj{K:Nat}:one (HY K)=true:=rfl
theorem Db{y:AF}:(AQ y).all one=true:=rfl
theorem Oz{y:AF}:(CW y).cells.toList=AQ y:=rfl
theorem Lu{lo:Nat}{h:AA}{v:Value}{l:List Int}(b:AK lo h v l):v.cells.toList=[v]/\one v=true:=by obtain⟨_,a,c,rfl,_⟩:=b;exact⟨rfl,rfl⟩
theorem Gk{H:AA}{v:Value}(a:v.cells=#[v]):FP prog H 147 1 [(0,v)]=some (qS H.a 1 1,H.d (.row [v] 149 false false)):=by simp[FP,ik,MO,RG,flat,B7,a,I6,CF,Go.Sx.lay,show(Value.nilIface).cells=#[.nilIface]from rfl]
theorem qL:HL prog 149=some 16:=by kernel_rfl
section
variable {n N:Nat} {h:AA} {K nV nr:Nat} {rd:List Int} {Z:List AF} {s:AS}
theorem Lx{y:AF}{o:Value}{w:List Int}(G:AK 0 h o w)(H:∀(p:Int),w[0]?=some p->∃(q:Nat)(z:AF),p=(q:Int)/\s.a[q]?=some z)(W:K_ h K s.a nV rd nr)(X:h.b<=h.a):∃v C,AW prog (AN n) N 238 [HY K,CW y,o] h=some (v,C)/\Wk h v C:=by
 have I:=(EC n).2;refine G_ (R:=fun v C=>Wk h v C) func238 rfl (by simp) ?_;have Y:f238.results.toList=[.tmp 6]:=rfl;obtain⟨J,M⟩:=Lu G;have g0:∀(a b c d:BO),let A:=(((h.d a).d b).d c).d d
   A.c h.a=a/\A.c (h.a+1)=b/\A.c (h.a+1+1)=c/\A.c (h.a+1+1+1)=d/\A.a=h.a+4/\A.b=h.b/\Ex h A:=fun a b c d=>by
  refine⟨?_,?_,?_,BJ,rfl,rfl,(Ex.c h).b.b.b.b⟩;.rw[AV (by show h.a<h.a+1+1+1;omega),AV (by show h.a<h.a+1+1;omega),AV (by show h.a<h.a+1;omega),BJ]
  .rw[AV (by show h.a+1<h.a+1+1+1;omega),AV (by show h.a+1<h.a+1+1;omega)];exact BJ (h:=h.d a)
  .rw[AV (by show h.a+1+1<h.a+1+1+1;omega)];exact BJ (h:=(h.d a).d b)
 obtain⟨gA,gB,gC,gD,nA,r,l⟩:=g0 (.row [HY K] 186 false false) (.row (AQ y) 125 false false) (.row [o] 25 false false) (.row (AQ DL) 125 false false);simp only[eE,seval,DJ,C3,Y,Ft,Oj,Cx,Oz,Db,GC,J,M,FW,C3,NO,QZ,iC];generalize(((h.d (.row [HY K] 186 false false)).d (.row (AQ y) 125 false false)).d (.row [o] 25 false false)).d (.row (AQ DL) 125 false false)=A at*;have x0:AI 0 (A.c h.a)=some (HY K):=by rw[gA];rfl
 have t:AI 0 (A.c (h.a+1))=some (iv y.a):=by rw[gB];rfl
 have O:AI 0 (A.c (h.a+1+1))=some o:=by rw[gC];rfl
 have U:AK 0 A o w:=AK.U G l.1 fun i _ hi=>l.2 i hi;have u:∀C:AA,CU prog C 25 o=some (iv (w.length:Int)):=fun C=>U.Z;have MA:=W.a l;obtain⟨vr,a1,a2⟩:=MA.b;cases w with
 |nil=>have P:decide ((([]:List Int).length:Int)>0)=false:=rfl;simp only[eE,seval,↓eP,BH,O,u,P];cases e:(y.a==16)with
  |true=>simp only[eE,seval,↓eP,BB,AM,t,e];exact⟨rfl,rfl,r,l⟩|false=>cases f:(y.a==17)with|true=>simp only[eE,seval,↓eP,BB,AM,t,e,f];exact⟨rfl,rfl,r,l⟩|false=>cases g:(y.a==18)with
  |true=>simp only[eE,seval,↓eP,BB,AM,t,e,f,g];exact⟨rfl,rfl,r,l⟩|false=>cases j:(y.a==19)with
  |true=>simp only[eE,seval,↓eP,BB,AM,t,e,f,g,j];exact⟨rfl,rfl,r,l⟩|false=>cases k:(y.a==20)with|true=>simp only[eE,seval,↓eP,BB,AM,t,e,f,g,j,k];exact⟨rfl,rfl,r,l⟩|false=>cases m:(y.a==21)with
  |true=>simp only[eE,seval,↓eP,BB,AM,t,e,f,g,j,k,m];exact⟨rfl,rfl,r,l⟩|false=>
  simp only[eE,seval,↓eP,BB,AM,t,e,f,g,j,k,m];exact⟨rfl,rfl,r,l⟩
 |cons p w=>
  obtain⟨q,z,rfl,hz⟩:=H p rfl;obtain⟨i0,p0,q0,b0,e0⟩:=AK.V U (i:=0) (x:=(q:Int)) rfl;have Q:BW prog 25 o (iv 0)=some (qP i0 p0):=q0;obtain⟨h0,pr,e1,h1,l0,l1,l2,l3,l4,lr⟩:=a2.b hz;have P:decide (((((q:Int)::w).length:Nat):Int)>0)=true:=by simp
  have S:BD prog A 125 (qP (h.a+1+1+1) 0) (CW z)=some (A.e (h.a+1+1+1) (.row (AQ z) 125 false false)):=TZ (h:=A) (i:=0) (off:=0) (L:=[DL]) rfl gD (by decide) (by omega);have D:Ex h (A.e (h.a+1+1+1) (.row (AQ z) 125 false false)):=l.e (by omega) (by omega);have E:AI 0 ((A.e (h.a+1+1+1) (.row (AQ z) 125 false false)).c (h.a+1))=some (iv y.a):=by rw[AP (by omega) (by omega)];exact t
  have F:(A.e (h.a+1+1+1) (.row (AQ z) 125 false false)).b=h.b:=r;have T:A.f A.b=A:=rfl;simp only[eE,seval,↓eP,BH,O,u,P];refine WK.a (fs:=wD) (by kernel_rfl) ?_;unfold wD;iterate 11 refine DG I ?_;simp only[rG,seval,AB,AD,AC,A7,target,BY,DB,T,TX,x0,dI,CK,CJ,a1,BH,O,Q,AM,e0,e1,FX,lr,S]
  refine DF ?_;have V:(A.e (h.a+1+1+1) (.row (AQ z) 125 false false)).f A.b=A.e (h.a+1+1+1) (.row (AQ z) 125 false false):=rfl;simp only[eE,seval];generalize A.e (h.a+1+1+1) (.row (AQ z) 125 false false)=B at*;cases e:(y.a==16)with|true=>simp only[eE,seval,↓eP,BB,AM,E,e];exact⟨rfl,rfl,F,D⟩|false=>cases f:(y.a==17)with
  |true=>
   simp only[eE,seval,↓eP,BB,AM,E,e,f];exact⟨rfl,rfl,F,D⟩|false=>cases g:(y.a==18)with|true=>simp only[eE,seval,↓eP,BB,AM,E,e,f,g];exact⟨rfl,rfl,F,D⟩|false=>cases j:(y.a==19)with|true=>simp only[eE,seval,↓eP,BB,AM,E,e,f,g,j];exact⟨rfl,rfl,F,D⟩|false=>cases k:(y.a==20)with
  |true=>
   simp only[eE,seval,↓eP,BB,AM,E,e,f,g,j,k];exact⟨rfl,rfl,F,D⟩|false=>cases m:(y.a==21)with
  |true=>simp only[eE,seval,↓eP,BB,AM,E,e,f,g,j,k,m];exact⟨rfl,rfl,F,D⟩|false=>
  simp only[eE,seval,↓eP,BB,AM,E,e,f,g,j,k,m];exact⟨rfl,rfl,F,D⟩
theorem LC{y:AF}{d:Value}{e:List Int}(a:AK 0 h d e)(b:∀(p:Int),e[0]?=some p->∃(q:Nat)(z:AF),p=(q:Int)/\s.a[q]?=some z)(g:K_ h K s.a nV rd nr)(c:h.b<=h.a)(i:5<n):∃v f,AN n 238 [HY K,CW y,d] h=some (v,f)/\Wk h v f:=by obtain⟨n,rfl⟩:=BX i;exact GY BF (Lx (N:=n) a b g c) fun k l m _ j=>j.a
end
end Go.Proofs.YtjailoenloejbaaGreatDoor




