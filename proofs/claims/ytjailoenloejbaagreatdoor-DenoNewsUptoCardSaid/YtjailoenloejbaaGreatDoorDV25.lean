/- Part 25. -/
import Derived.Test.YtjailoenloejbaaGreatDoorDV24
set_option linter.all false
namespace Go.Proofs.YtjailoenloejbaaGreatDoor
open Go Go.Sx Go.Proofs.Tryz
set_option maxRecDepth 100000
set_option maxHeartbeats 0
def YC(i:Nat):AF:=⟨-9,ByteArray.empty,0,i,0⟩
theorem Ox{i:Int}:CL prog 125 [(0,iv (-9)),(3,iv i)]=some (CW ⟨-9,ByteArray.empty,0,i,0⟩):=by have h:=kF;rw[ez]at h;simp only at h;have a:flat (.agg #[.int .i64 0,.string ByteArray.empty,.int .i64 0,.int .i64 0,.int .i64 0])=true:=rfl;simp only[CL,FC,a,ai,ez,h];rfl
theorem E1{nm:ByteArray}{m:Int}:CL prog 27 [(0,.string nm),(7,iv m)]=some (.agg #[.string nm,Z0,Z0,Z0,Z0,Z0,Z0,iv m]):=by have h:=YD;rw[bG]at h;simp only at h;simp only[CL,NR,NQ,ai,bG,h];rfl
structure yE (h:AA) (o:Nat) (l L:List AF):Prop where
 g:h.c o=.row (L.flatMap AQ) 125 false false
 c:L.length=l.length+9
 d:∀ j,j<l.length->L[j]?=l[j]?
 a:∀ q,q<9->L[l.length+q]?=some (YC (l.length+q))
structure PL (h:AA) (b:Nat) (v:Value) (nm:ByteArray) (s:AS):Prop where
 v:v=.agg #[.string nm,qS b s.a.length (s.a.length+9),qS (b+1) s.b.length (s.b.length+3),qS (b+2) s.f.length (s.f.length+3),qS (b+3) s.g.length (s.g.length+3),qS (b+4) s.d.length (s.d.length+5),qS (b+5) s.h.length (s.h.length+5),iv s.c]
 d:b+5<h.a
 r:∃ L,yE h b s.a L
 q:h.c (b+1)=.row (EH s.b++CF [.string ByteArray.empty,.bool false] 3) 158 false false
 w:h.c (b+2)=.row (DN s.f++CF [.string ByteArray.empty] 3) 9 false false
 t:h.c (b+3)=.row (DN s.g++CF [.string ByteArray.empty] 3) 9 false false
 u:∃ L,PE h (b+4) s.d L
 o:∃ L,PE h (b+5) s.h L
theorem yE.b{h:AA}{o:Nat}{l L:List AF}(b:yE h o l L){lo c:Nat}(d:lo<=o/\o<h.a):JZ lo h (qS o l.length c) l:=by
 have e:L=l++L.drop l.length:=by
  apply eh;intro j;rcases ar j l.length with a|a;.rw[dt a,b.d j a]
  grind
 have g:=b.g;rw[e]at g;have f:h.c o=.row (l.flatMap AQ++(L.drop l.length).flatMap AQ) 125 false false:=by grind
 exact JZ.b (AL.d f d (MT l))
theorem PL.b{h:AA}{b:Nat}{v:Value}{nm:ByteArray}{s:AS}(a:PL h b v nm s):CG b h v nm s:=by
 obtain⟨c,d,⟨g,r⟩,q,w,t,⟨i,u⟩,⟨j,o⟩⟩:=a;have e:∀l:List (ByteArray×Bool),(EH l).length=l.length*2:=fun l=>by
  unfold EH;induction l with
  |nil=>rfl|cons x l k=>grind
 have f:=e s.b;exact⟨_,_,_,_,_,_,c,r.b ⟨by omega,by omega⟩,AL.d q ⟨by omega,by omega⟩ f,AL.d w ⟨by omega,by omega⟩ (by simp[DN]),AL.d t ⟨by omega,by omega⟩ (by simp[DN]),u.d ⟨by omega,by omega⟩,o.d ⟨by omega,by omega⟩⟩
section
variable {t e:TypeId} {w b:Nat} {z:Value} {H:AA}
theorem uI(o:prog.underlying t=some (.slice e))(p:BN prog e=some w)(u:HL prog e=some b)(x:DK prog e=some z)(h:z.cells.size=w)(j:flat z=true)(y:0<w)(l:b<=64)(m:BN prog t=some 1){lo n k D slot:Nat}{v:Value}{c cs:List Value}{ty:TypeId}(A:AL lo H v n w c)(d:c.all one=true)(B:n+k<4000000000000)(C:H.b<=D)(L:D<H.a)(M:H.c D=.row cs ty false false)(E:slot<cs.length):∃a f,J7 prog H t (iv ((n+k:Nat):Int)) (iv ((n+k:Nat):Int))=some (qS H.a (n+k) (n+k),H.d (.row (CF z.cells.toList (n+k)) e false false))/\PP prog (H.d (.row (CF z.cells.toList (n+k)) e false false)) t (qS H.a (n+k) (n+k)) v=some (iv (n:Int),a)/\a.c D=.row cs ty false false/\a.c H.a=.row (c++CF z.cells.toList k) e false false/\a.a=H.a+1/\a.b=H.b/\(∀i,i<H.a->a.c i=H.c i)/\H9 prog a t (qS H.a (n+k) (n+k)) none (some (iv (n:Int))) none=some (qS H.a n (n+k))/\BD prog a t (qP D slot) (qS H.a n (n+k))=some f/\f.c D=.row (cs.set slot (qS H.a n (n+k))) ty false false/\f.a=H.a+1/\f.b=H.b/\∀i,i≠D->f.c i=a.c i:=by
 obtain⟨a,F,G,I,q,r,J⟩:=mO (k:=k) o p u x h j y l A d B (by omega);have s:a.c D=.row cs ty false false:=by grind
 have g:=EO (v:=qS H.a n (n+k)) m rfl rfl s E (by omega);exact⟨a,_,F,G,s,I,q,r,J,PC o p (by omega) (by unfold AT;omega),g,BE rfl (by omega),q,r,fun i K=>AP (by omega) (bc K)⟩
theorem Md{H:AA}{n:Nat}{lo D slot:Nat}{v:Value}{l:List Int}{cs:List Value}{ty:TypeId}(h:AK lo H v l)(j:l.length<2932031007403)(k:H.b<=D)(o:D<H.a)(p:H.c D=.row cs ty false false)(q:slot<cs.length)(r:20<n):∃c a L,AN n 114 [v] H=some (qS H.a l.length (l.length+5),c)/\PE a H.a l L/\(∀i,i<H.a->c.c i=H.c i)/\BD prog c 25 (qP D slot) (qS H.a l.length (l.length+5))=some a/\a.c D=.row (cs.set slot (qS H.a l.length (l.length+5))) ty false false/\a.a=H.a+1/\a.b=H.b/\∀i,i≠D->i<H.a->a.c i=H.c i:=by
 obtain⟨c,m,⟨L,d⟩,s,u,g⟩:=nO (n:=n) h j (by omega) r;have x:=(g D o).trans p;have f:=EO (v:=qS H.a l.length (l.length+5)) (off:=slot) FW rfl rfl x q (by omega);exact⟨c,_,L,m,⟨by rw[AP (by omega) (by omega)];exact d.g,d.b,d.c,d.a⟩,g,f,BE rfl (by omega),s,u,fun i y A=>by rw[AP (by omega) (bc y)];grind⟩
end
section
variable {n N:Nat} {h:AA}
theorem E2{nm:ByteArray}{s:AS}{pv:Value}{lo:Nat}(hp:CG lo h pv nm s)(hs:F7 s)(hl:DS s<30000000000000)(u2:h.b<=h.a)(hN:20<N)(hn:30<n):∃v' b,AW prog (AN n) N 53 [pv] h=some (v',b)/\PL b (h.a+3) v' nm s/\b.a=h.a+9/\b.b=h.b/\∀i,i<h.a->b.c i=h.c i:=by
 refine G_ (R:=fun v' b=>PL b (h.a+3) v' nm s/\b.a=h.a+9/\b.b=h.b/\∀i,i<h.a->b.c i=h.c i) func53 rfl (by simp[f53]) ?_;have hr:f53.results.toList=[.cell 2 27]:=rfl;obtain⟨E,K,M,O,vu,vo,rfl,p1,p2,p3,p4,p5,p6⟩:=id hp;have ca:=C9 [.string nm,E,K,M,O,vu,vo,iv s.c];have oa:=IV (nm:=nm) p1 p2 p3 p4 p5 p6;obtain⟨Q,gZ,nA,fA,U⟩:=OP h (.row [.string nm,E,K,M,O,vu,vo,iv s.c] 27 false false) (.row CO 27 false false);simp only[eE,seval,DJ,ca,oa,EQ,NR,NQ,PK];generalize(h.d (.row [.string nm,E,K,M,O,vu,vo,iv s.c] 27 false false)).d (.row CO 27 false false)=A at*;have q0:AI 0 (A.c h.a)=some (.string nm):=by rw[Q];rfl
 have q1:AI 1 (A.c h.a)=some E:=by rw[Q];rfl
 have q7:AI 7 (A.c h.a)=some (iv s.c):=by rw[Q];rfl
 have h0:=GQ (t:=27) EQ (h:=A.d (.row CO 27 false false)) (id:=A.a) (vs:=[.string nm,Z0,Z0,Z0,Z0,Z0,Z0,iv s.c]) (BJ (h:=A)) rfl rfl rfl (by rw[CE];omega);have V:BD prog (A.d (.row CO 27 false false)) 27 (qP A.a 0) (.agg #[.string nm,Z0,Z0,Z0,Z0,Z0,Z0,iv s.c])=some ((A.d (.row CO 27 false false)).e A.a (.row [.string nm,Z0,Z0,Z0,Z0,Z0,Z0,iv s.c] 27 false false)):=h0;simp only[eE,seval,ab,MY,JV,HS,AM,q0,q7,E1,NR,NQ,PK,V];have gB:((A.d (.row CO 27 false false)).e A.a (.row [.string nm,Z0,Z0,Z0,Z0,Z0,Z0,iv s.c] 27 false false)).c A.a=.row [.string nm,Z0,Z0,Z0,Z0,Z0,Z0,iv s.c] 27 false false:=BE rfl (by show A.a<A.a+1;omega);have oB:∀i,i<A.a->((A.d (.row CO 27 false false)).e A.a (.row [.string nm,Z0,Z0,Z0,Z0,Z0,Z0,iv s.c] 27 false false)).c i=A.c i:=fun i a=>by rw[AP (by show A.a<A.a+1;omega) (by omega),AV a]
 have nB:((A.d (.row CO 27 false false)).e A.a (.row [.string nm,Z0,Z0,Z0,Z0,Z0,Z0,iv s.c] 27 false false)).a=A.a+1:=rfl;have fB:((A.d (.row CO 27 false false)).e A.a (.row [.string nm,Z0,Z0,Z0,Z0,Z0,Z0,iv s.c] 27 false false)).b=A.b:=rfl;generalize(A.d (.row CO 27 false false)).e A.a (.row [.string nm,Z0,Z0,Z0,Z0,Z0,Z0,iv s.c] 27 false false)=B at*;generalize h2:[.string nm,Z0,Z0,Z0,Z0,Z0,Z0,iv s.c]=d at*;have l0:d.length=8:=by rw[<-h2];rfl
 have P1:AL lo B E s.a.length 5 (s.a.flatMap AQ):=p1.2.b (by omega) fun i _ a=>by rw[oB i (by omega),U i a]
 obtain⟨H1,g0,g2,g1,n1,f1,o1⟩:=mO (P:=prog) (t:=22) (e:=125) (k:=9) (z:=CW DL) bq GC WO FC rfl rfl (by decide) (by decide) P1 (X_ s.a) (by have:=hs.1;omega) (by omega);have S:=fun b=>Q6 p1.2 b;have u3:=hs.1;have G:AI 1 (B.c h.a)=some E:=by rw[oB _ (by omega)];exact q1
 have w9:IntKind.i64.wrap ((s.a.length:Int)+9)=((s.a.length+9:Nat):Int):=BR;have KH:∀b:AA,CU prog b 22 (qS B.a (s.a.length+9) (s.a.length+9))=some (iv ((s.a.length+9:Nat):Int)):=fun b=>WU;have qp:∀r,AI 1 ((B.d r).c h.a)=some E:=fun r=>by rw[AV];exact G
 have g3:AI 1 (H1.c h.a)=some E:=by rw[o1 _ (by omega)];exact G
 simp only[eE,seval,ab,CK,CJ,G,S,w9,g0,qp,g2,g3];refine WK.b (fun k I=>I.T.a 1=qP h.a 0/\I.T.a 2=qP (h.a+1) 0/\I.T.a 3=qP A.a 0/\I.T.a 4=qS B.a (s.a.length+9) (s.a.length+9)/\I.T.a 5=iv ((s.a.length+k:Nat):Int)/\k<=9/\I.h.a=B.a+1/\I.h.b=h.b/\(∀i,i<B.a->I.h.c i=B.c i)/\∃L:List AF,I.h.c B.a=.row (L.flatMap AQ) 125 false false/\L.length=s.a.length+9/\(∀j,j<s.a.length->L[j]?=s.a[j]?)/\∀q,q<k->L[s.a.length+q]?=some (YC (s.a.length+q))) 9 (by omega) ?_ ?_;.refine⟨by simp only[eE,seval],by simp only[eE,seval],by simp only[eE,seval],by simp only[eE,seval],by simp only[eE,seval];rfl,by omega,n1,f1.trans (by omega),o1,s.a++List.replicate 9 DL,?_,by simp,fun j hj=>by rw[dt hj],fun q hq=>by omega⟩;show H1.c B.a=_;have zz:CF (CW DL).cells.toList 9=(List.replicate 9 DL).flatMap AQ:=tV 9;rw[g1,zz,List.flatMap_append]
 rintro k⟨T1,w⟩hk⟨W,t2,T,t4,t5,u4,n2,f2,o2,L,gL,lL,h3,y⟩;simp only at W t2 T t4 t5 n2 f2 o2 gL;by_cases g7:k<9
 .have c1:decide (((s.a.length+k:Nat):Int)<((s.a.length+9:Nat):Int))=true:=by simp;omega
  have g8:=iX (id:=B.a) (n:=s.a.length+9) (c:=s.a.length+9) (i:=s.a.length+k) (by omega);have g9:=TZ (h:=w) (i:=s.a.length+k) (x:=⟨-9,ByteArray.empty,0,((s.a.length+k:Nat):Int),0⟩) rfl gL (by omega) (by omega);have w1:IntKind.i64.wrap (((s.a.length+k:Nat):Int)+1)=((s.a.length+(k+1):Nat):Int):=BR;simp only[eE,seval,↓eP,W,t2,T,t4,t5,KH,c1,Ox,g8,g9,w1];refine⟨g7,by omega,n2,f2,fun i a=>by rw[AP (by omega) (by omega)];exact o2 i a,_,BE rfl (by omega),by rw[bO];exact lL,fun j hj=>?_,fun q hq=>?_⟩
  .rw[bf (by omega)];exact h3 j hj
  .rcases ar q k with h1|h1
   .rw[bf (by omega)];exact y q h1
   .have:q=k:=by omega
    subst this;rw[br (by omega)];rfl
 have c1:decide (((s.a.length+k:Nat):Int)<((s.a.length+9:Nat):Int))=false:=by simp;omega
 have:k=9:=by omega
 subst this;have u5:=hs;unfold DS at hl;obtain⟨r1,r2,r3,r4,r5,r6⟩:=hs;have x0:AI 1 (w.c h.a)=some E:=by rw[o2 _ (by omega)];exact G
 have x1:w.c A.a=.row d 27 false false:=by rw[o2 _ (by omega)];exact gB
 have h4:=fun(H:AA)=>PC (P:=prog) (h:=H) (t:=22) (e:=125) (id:=B.a) (n:=s.a.length+9) (m:=s.a.length) (c:=s.a.length+9) bq GC (by omega) (by unfold AT;omega);have h5:=EO (v:=qS B.a s.a.length (s.a.length+9)) (off:=1) cO rfl rfl x1 (by omega) (by omega);simp only[eE,seval,↓eP,ab,W,T,t4,t5,KH,c1,CK,CJ,x0,S,h4,h5];have x2:(w.e A.a (.row (d.set 1 (qS B.a s.a.length (s.a.length+9))) 27 false false)).c A.a=.row (d.set 1 (qS B.a s.a.length (s.a.length+9))) 27 false false:=BE rfl (by omega);have n3:(w.e A.a (.row (d.set 1 (qS B.a s.a.length (s.a.length+9))) 27 false false)).a=w.a:=rfl;have f3:(w.e A.a (.row (d.set 1 (qS B.a s.a.length (s.a.length+9))) 27 false false)).b=w.b:=rfl;have o3:∀i,i≠A.a->(w.e A.a (.row (d.set 1 (qS B.a s.a.length (s.a.length+9))) 27 false false)).c i=w.c i:=fun i a=>AP (by omega) (bc a);generalize w.e A.a (.row (d.set 1 (qS B.a s.a.length (s.a.length+9))) 27 false false)=f at*;have z3:∀i,i<A.a->f.c i=A.c i:=fun i a=>by rw[o3 i (by omega),o2 i (by omega),oB i a]
 have w3:∀m:Nat,m<2932031007403->IntKind.i64.wrap ((m:Int)+3)=((m+3:Nat):Int):=fun m hm=>BR;have h6:=fun b=>P8 p2 b;have a2:AI 2 (A.c h.a)=some K:=by rw[Q];rfl
 have P2:AL lo f K s.b.length 2 (EH s.b):=p2.b (by omega) fun i _ a=>by rw[z3 i (by omega),U i a]
 obtain⟨G2,g,x3,x4,u6,x5,u7,u8,X,x6,x7,g4,n4,f4,o4⟩:=uI (k:=3) (slot:=2) (D:=A.a) (t:=23) (e:=158) (z:=.agg #[.string ByteArray.empty,.bool false]) ci PS dN SU rfl rfl (by decide) (by decide) ZN P2 (ZU s.b) (by omega) (by omega) (by omega) x2 (by simp only[bO];omega);have b2:AI 2 (f.c h.a)=some K:=by rw[z3 _ (by omega)];exact a2
 have d2:∀r,AI 2 ((f.d r).c h.a)=some K:=fun r=>by rw[AV];exact b2
 have e2:AI 2 (G2.c h.a)=some K:=by rw[X _ (by omega)];exact b2
 simp only[eE,seval,ab,W,T,DY,DZ,b2,h6,w3 s.b.length (by omega),x3,d2,x4,e2,x6,x7];have z4:∀i,i<A.a->g.c i=A.c i:=fun i a=>by rw[o4 i (by omega),X i (by omega),z3 i a]
 have x8:=g4;have h7:=fun b=>QI p3 b;have a3:AI 3 (A.c h.a)=some M:=by rw[Q];rfl
 have P3:AL lo g M s.f.length 1 (DN s.f):=p3.b (by omega) fun i _ a=>by rw[z4 i (by omega),U i a]
 obtain⟨G3,l,x9,y0,u9,y1,v0,v1,J,y2,y3,g5,n5,f5,o5⟩:=uI (k:=3) (slot:=3) (D:=A.a) (t:=24) (e:=9) (z:=.string ByteArray.empty) cN KN SE RJ rfl rfl (by decide) (by decide) SQ P3 (VN s.f) (by omega) (by omega) (by omega) x8 (by simp only[bO];omega);have b3:AI 3 (g.c h.a)=some M:=by rw[z4 _ (by omega)];exact a3
 have d3:∀r,AI 3 ((g.d r).c h.a)=some M:=fun r=>by rw[AV];exact b3
 have e3:AI 3 (G3.c h.a)=some M:=by rw[J _ (by omega)];exact b3
 simp only[eE,seval,ab,W,T,KS,I7,b3,h7,w3 s.f.length (by omega),x9,d3,y0,e3,y2,y3];have z5:∀i,i<A.a->l.c i=A.c i:=fun i a=>by rw[o5 i (by omega),J i (by omega),z4 i a]
 have y4:=g5;have h8:=fun b=>QI p4 b;have a4:AI 4 (A.c h.a)=some O:=by rw[Q];rfl
 have P4:AL lo l O s.g.length 1 (DN s.g):=p4.b (by omega) fun i _ a=>by rw[z5 i (by omega),U i a]
 obtain⟨G4,p,y5,y6,v2,y7,v3,v4,C,y8,y9,g6,n6,f6,o6⟩:=uI (k:=3) (slot:=4) (D:=A.a) (t:=24) (e:=9) (z:=.string ByteArray.empty) cN KN SE RJ rfl rfl (by decide) (by decide) SQ P4 (VN s.g) (by omega) (by omega) (by omega) y4 (by simp only[bO];omega);have b4:AI 4 (l.c h.a)=some O:=by rw[z5 _ (by omega)];exact a4
 have d4:∀r,AI 4 ((l.d r).c h.a)=some O:=fun r=>by rw[AV];exact b4
 have e4:AI 4 (G4.c h.a)=some O:=by rw[C _ (by omega)];exact b4
 simp only[eE,seval,ab,W,T,KG,I7,b4,h8,w3 s.g.length (by omega),y5,d4,y6,e4,y8,y9];have z6:∀i,i<A.a->p.c i=A.c i:=fun i a=>by rw[o6 i (by omega),C i (by omega),z5 i a]
 have z0:=g6;have a5:AI 5 (A.c h.a)=some vu:=by rw[Q];rfl
 have P5:AK lo p vu s.d:=AK.U p5 (by omega) fun i _ a=>by rw[z6 i (by omega),U i a]
 obtain⟨G5,u,L5,m5,l5,_,z1,z2,n7,f7,o7⟩:=Md (n:=n) (slot:=5) P5 (by omega) (by omega) (by omega) z0 (by simp only[bO];omega) (by omega);have b5:AI 5 (p.c h.a)=some vu:=by rw[z6 _ (by omega)];exact a5
 simp only[eE,seval,ab,W,T,GF,BH,b5,m5,z1];have z7:∀i,i<A.a->u.c i=A.c i:=fun i a=>by rw[o7 i (by omega) (by omega),z6 i a]
 have a6:AI 6 (A.c h.a)=some vo:=by rw[Q];rfl
 have P6:AK lo u vo s.h:=AK.U p6 (by omega) fun i _ a=>by rw[z7 i (by omega),U i a]
 obtain⟨G6,o,L6,m6,l6,_,z9,u0,n8,f8,o8⟩:=Md (n:=n) (slot:=6) P6 (by omega) (by omega) (by omega) z2 (by simp only[bO];omega) (by omega);have b6:AI 6 (u.c h.a)=some vo:=by rw[z7 _ (by omega)];exact a6
 simp only[eE,seval,ab,T,I_,BH,b6,m6,z9];have z8:∀i,i<A.a->o.c i=A.c i:=fun i a=>by rw[o8 i (by omega) (by omega),z7 i a]
 have lC:AX 8 0 (o.c A.a)=some (.agg #[.string nm,qS B.a s.a.length (s.a.length+9),qS f.a s.b.length (s.b.length+3),qS g.a s.f.length (s.f.length+3),qS l.a s.g.length (s.g.length+3),qS p.a s.d.length (s.d.length+5),qS u.a s.h.length (s.h.length+5),iv s.c]):=by
  rw[IY u0 (by simp only[bO];omega),<-h2];rfl
 have u1:o.c (h.a+1)=.row CO 27 false false:=by rw[z8 _ (by omega)];exact gZ
 have h9:=GQ (t:=27) EQ (h:=o) (vs:=[.string nm,qS B.a s.a.length (s.a.length+9),qS f.a s.b.length (s.b.length+3),qS g.a s.f.length (s.f.length+3),qS l.a s.g.length (s.g.length+3),qS p.a s.d.length (s.d.length+5),qS u.a s.h.length (s.h.length+5),iv s.c]) u1 rfl rfl rfl (by omega);have Y:BD prog o 27 (qP (h.a+1) 0) (.agg #[.string nm,qS B.a s.a.length (s.a.length+9),qS f.a s.b.length (s.b.length+3),qS g.a s.f.length (s.f.length+3),qS l.a s.g.length (s.g.length+3),qS p.a s.d.length (s.d.length+5),qS u.a s.h.length (s.h.length+5),iv s.c])=_:=h9;have gF:(o.e (h.a+1) (.row [.string nm,qS B.a s.a.length (s.a.length+9),qS f.a s.b.length (s.b.length+3),qS g.a s.f.length (s.f.length+3),qS l.a s.g.length (s.g.length+3),qS p.a s.d.length (s.d.length+5),qS u.a s.h.length (s.h.length+5),iv s.c] 27 false false)).c (h.a+1)=_:=BE rfl (by omega);have Z:∀i,i≠h.a+1->(o.e (h.a+1) (.row [.string nm,qS B.a s.a.length (s.a.length+9),qS f.a s.b.length (s.b.length+3),qS g.a s.f.length (s.f.length+3),qS l.a s.g.length (s.g.length+3),qS p.a s.d.length (s.d.length+5),qS u.a s.h.length (s.h.length+5),iv s.c] 27 false false)).c i=o.c i:=fun i a=>AP (by omega) (bc a);have lF:=IY gF rfl;have nF:(o.e (h.a+1) (.row [.string nm,qS B.a s.a.length (s.a.length+9),qS f.a s.b.length (s.b.length+3),qS g.a s.f.length (s.f.length+3),qS l.a s.g.length (s.g.length+3),qS p.a s.d.length (s.d.length+5),qS u.a s.h.length (s.h.length+5),iv s.c] 27 false false)).a=o.a:=rfl;have fF:(o.e (h.a+1) (.row [.string nm,qS B.a s.a.length (s.a.length+9),qS f.a s.b.length (s.b.length+3),qS g.a s.f.length (s.f.length+3),qS l.a s.g.length (s.g.length+3),qS p.a s.d.length (s.d.length+5),qS u.a s.h.length (s.h.length+5),iv s.c] 27 false false)).b=o.b:=rfl;simp only[eE,seval,hr,t2,C7,lC,Y,lF];generalize o.e (h.a+1) _=F at*;have e3:f.a=h.a+4:=by omega
 have e4:g.a=h.a+5:=by omega
 have e5:l.a=h.a+6:=by omega
 have e6:p.a=h.a+7:=by omega
 have e7:u.a=h.a+8:=by omega
 have e2:B.a=h.a+3:=by omega
 refine⟨⟨by rw[e2,e3,e4,e5,e6,e7],by omega,⟨L,?_,lL,h3,y⟩,?_,?_,?_,⟨L5,?_,l5.b,l5.c,l5.a⟩,⟨L6,?_,l6.b,l6.c,l6.a⟩⟩,by omega,by omega,fun i a=>by rw[Z i (by omega),z8 i (by omega),U i a]⟩
 .rw[<-e2,Z _ (by omega),o8 _ (by omega) (by omega),o7 _ (by omega) (by omega),o6 _ (by omega),C _ (by omega),o5 _ (by omega),J _ (by omega),o4 _ (by omega),X _ (by omega),o3 _ (by omega)];exact gL
 .have:h.a+3+1=f.a:=by omega
  rw[this,Z _ (by omega),o8 _ (by omega) (by omega),o7 _ (by omega) (by omega),o6 _ (by omega),C _ (by omega),o5 _ (by omega),J _ (by omega),o4 _ (by omega)];exact x5
 .have:h.a+3+2=g.a:=by omega
  rw[this,Z _ (by omega),o8 _ (by omega) (by omega),o7 _ (by omega) (by omega),o6 _ (by omega),C _ (by omega),o5 _ (by omega)];exact y1
 .have:h.a+3+3=l.a:=by omega
  rw[this,Z _ (by omega),o8 _ (by omega) (by omega),o7 _ (by omega) (by omega),o6 _ (by omega)];exact y7
 .have:h.a+3+4=p.a:=by omega
  rw[this,Z _ (by omega),o8 _ (by omega) (by omega)];exact l5.g
 .have:h.a+3+5=u.a:=by omega
  rw[this,Z _ (by omega)];exact l6.g
theorem E3{nm:ByteArray}{s:AS}{d:Value}{lo:Nat}(f:CG lo h d nm s)(g:F7 s)(j:DS s<30000000000000)(b:h.b<=h.a)(k:40<n):∃c a,AN n 53 [d] h=some (c,a)/\PL a (h.a+3) c nm s/\a.a=h.a+9/\a.b=h.b/\∀i,i<h.a->a.c i=h.c i:=by obtain⟨n,rfl⟩:=BX k;refine GY BF (E2 (n:=n) (N:=n) f g j b (by omega) (by omega)) fun c m e _ l=>?_;rw[l.1.v]at e;cases e
end
theorem WZ{P:Program}{t e:TypeId}{w id n c i:Nat}(a:P.underlying t=some (.slice e))(b:BN P e=some w)(hi:i<n):BW P t (qS id n c) (iv (i:Int))=some (.pointer (some ⟨id,i*w,none⟩)):=by simp only[BW,a,b,CB];grind
theorem R7{H:AA}{id:Nat}{a b c d e f g i:Value}{ty:TypeId}{x y:Bool}(h:H.c id=.row [a,b,c,d,e,f,g,i] ty x y):AI 0 (H.c id)=some a/\AI 1 (H.c id)=some b/\AI 2 (H.c id)=some c/\AI 3 (H.c id)=some d/\AI 4 (H.c id)=some e/\AI 5 (H.c id)=some f/\AI 6 (H.c id)=some g/\AI 7 (H.c id)=some i:=by rw[h];exact YN
section
variable {n N:Nat} {h:AA}
theorem E7{nm:ByteArray}{s:AS}{u v:Value}{I J:Nat}(K:CG I h u nm s)(L:CG J h v nm s)(M:F7 s)(O:DS s+10<n):∃d,AW prog (AN n) N 118 [u,v] h=some (.bool true,d)/\∀i,i<h.a->d.c i=h.c i:=by
 obtain⟨e,f,g,c,j,k,rfl,w,x,y,z,A,B⟩:=id K;obtain⟨l,m,o,p,q,r,rfl,C,D,E,F,G,H⟩:=id L;refine EA (R:=fun d=>∀i,i<h.a->d.c i=h.c i) func118 rfl (by simp) ?_;have P:f118.results.toList=[.tmp 4]:=rfl;have S:=C9 [.string nm,e,f,g,c,j,k,iv s.c];have T:=C9 [.string nm,l,m,o,p,q,r,iv s.c];have U:=IV (nm:=nm) w x y z A B;have V:=IV (nm:=nm) C D E F G H;obtain⟨W,X,nG,fG,b⟩:=OP h (.row [.string nm,e,f,g,c,j,k,iv s.c] 27 false false) (.row [.string nm,l,m,o,p,q,r,iv s.c] 27 false false);simp only[eE,seval,DJ,S,U,T,V,EQ];generalize(h.d (.row [.string nm,e,f,g,c,j,k,iv s.c] 27 false false)).d (.row [.string nm,l,m,o,p,q,r,iv s.c] 27 false false)=Q at*;obtain⟨Y,Z,x2,x3,x4,x5,x6,x7⟩:=R7 W;obtain⟨y0,y1,y2,y3,y4,y5,y6,y7⟩:=R7 X;obtain⟨r1,r2,r3,r4,r5,r6⟩:=M;unfold DS at O;have s1:=Ey (n:=n) (w.1.a (by omega) b) (C.1.a (by omega) b) r1 (by omega);have s2:=Ev (n:=n) (x.b (by omega) fun i _ a=>b i a) (D.b (by omega) fun i _ a=>b i a) r2 (by omega);have s3:=tJ (n:=n) (y.b (by omega) fun i _ a=>b i a) (E.b (by omega) fun i _ a=>b i a) r3 (by omega);have s4:=tJ (n:=n) (z.b (by omega) fun i _ a=>b i a) (F.b (by omega) fun i _ a=>b i a) r4 (by omega);have s5:=aN (n:=n) (AK.U A (by omega) fun i _ a=>b i a) (AK.U G (by omega) fun i _ a=>b i a) r5 (by omega);have s6:=aN (n:=n) (AK.U B (by omega) fun i _ a=>b i a) (AK.U H (by omega) fun i _ a=>b i a) r6 (by omega);have t:=OZ nm;simp only[eE,seval,P,ab,MY,CK,DY,KS,KG,GF,I_,JV,HS,CJ,DZ,I7,BH,AM,Y,Z,x2,x3,x4,x5,x6,x7,y0,y1,y2,y3,y4,y5,y6,y7,X8,t,s1,s2,s3,s4,s5,s6];exact b
theorem Fg{nm:ByteArray}{s:AS}{a b:Value}{c d:Nat}(e:CG c h a nm s)(f:CG d h b nm s)(g:F7 s)(i:DS s+20<n):AN n 118 [a,b] h=some (.bool true,h):=by obtain⟨n,rfl⟩:=BX i;exact HF BF rfl (E7 (n:=n) (N:=n) e f g (by omega))
theorem Fj{l:List ByteArray}{i:Nat}{x:ByteArray}{ty:TypeId}{a b:Bool}(c:l[i]?=some x):AI i (.row (DN l) ty a b)=some (.string x):=by simp[AI,DN,c]
theorem Fp{l:List ByteArray}{i:Nat}{x:ByteArray}:(DN l).set i (.string x)=DN (l.set i x):=by simp[DN,List.map_set]
theorem Fq{l:List ByteArray}{v:Value}{o lo:Nat}(B:h.c o=.row (DN l++CF [.string ByteArray.empty] 3) 9 false false)(O:o<h.a)(hf:h.b<=o)(J:AL lo h v l.length 1 (DN l))(hl:l.length<2932031007403)(hn:l.length+10<n:=by omega)(hN:l.length+10<N:=by omega):∃a,AW prog (AN n) N 119 [qS o l.length (l.length+3),v] h=some (.bool true,a)/\(a.a=h.a/\a.b=h.b/\∀i,i≠o->a.c i=h.c i):=by
 refine EA (R:=fun a=>a.a=h.a/\a.b=h.b/\∀i,i≠o->a.c i=h.c i) func119 rfl (by simp) ?_;have Q:f119.results.toList=[.tmp 4]:=rfl;have K:AL 0 h (qS o l.length (l.length+3)) l.length 1 (DN l):=AL.d B ⟨bg _,O⟩ (by simp[DN]);have S:=tJ (n:=n) K J (by omega) (by omega);have T:DN l++CF [.string ByteArray.empty] 3=DN (l++List.replicate 3 ByteArray.empty):=by simp[DN,CF]
 rw[T]at B;have L:=fun a=>QI J a;have p:=fun a=>QI K a;have b:∀a:AA,CU prog a 24 (qS o (l.length+3) (l.length+3))=some (iv ((l.length+3:Nat):Int)):=fun a=>by simp[CU,cN]
 have U:IntKind.i64.wrap ((l.length:Int)+3)=((l.length+3:Nat):Int):=BR;have C:=fun(H:AA)=>PC (P:=prog) (h:=H) (t:=24) (e:=9) (id:=o) (n:=l.length) (m:=l.length+3) (c:=l.length+3) cN KN (by omega) (by unfold AT;omega);simp only[eE,seval,S,p,U,C];refine WK.b (fun k d=>d.T.a 1=v/\d.T.a 5=.bool true/\d.T.a 6=qS o (l.length+3) (l.length+3)/\d.T.a 7=iv (k:Int)/\k<=l.length+3/\d.h.a=h.a/\d.h.b=h.b/\(∀i,i≠o->d.h.c i=h.c i)/\∃W,d.h.c o=.row (DN W) 9 false false/\W.length=l.length+3/\∀j,k<=j->W[j]?=(l++List.replicate 3 ByteArray.empty)[j]?) (l.length+3) (by omega) ?_ ?_;.exact⟨by simp only[eE,seval],by simp only[eE,seval],by simp only[eE,seval],by simp only[eE,seval]<;>rfl,by omega,rfl,rfl,fun _ _=>rfl,_,B,by simp,fun _ _=>rfl⟩
 rintro k⟨T1,V⟩hk⟨D,s,u,w,X,x,y,z,W,E,lW,eW⟩;simp only at D s u w x y z E;by_cases f:k<l.length+3
 .have A:decide ((k:Int)<((l.length+3:Nat):Int))=true:=by grind
  have q:BW prog 24 (qS o (l.length+3) (l.length+3)) (iv (k:Int))=some (qP o k):=by have:=WZ (id:=o) (n:=l.length+3) (c:=l.length+3) (i:=k) cN KN f;rwa[cy]at this
  have g:=EO (v:=.string kT) (off:=k) KN rfl rfl E (by rw[show(DN W).length=W.length by simp[DN]];omega) (by omega);rw[Fp]at g;have M:=DU k;by_cases h2:k<l.length
  .have F:decide ((k:Int)<(l.length:Int))=true:=by grind
   simp only[eE,seval,↓eP,D,s,u,w,b,L,A,F,q,g,M];exact⟨f,by omega,x,y,fun i r=>by rw[AP (by omega) (bc r)];exact z i r,_,BE rfl (by omega),by grind,fun j Y=>by grind⟩
  .have F:decide ((k:Int)<(l.length:Int))=false:=by grind
   have Z:W[k]?=some ByteArray.empty:=by grind
   have G:AI k (V.c o)=some (.string ByteArray.empty):=by rw[E];exact Fj Z
   have I:((ByteArray.empty:ByteArray)=={data:=#[]})=true:=OZ _;simp only[eE,seval,↓eP,D,s,u,w,b,L,A,F,q,HS,G,X8,I,g,M];exact⟨f,by omega,x,y,fun i r=>by rw[AP (by omega) (bc r)];exact z i r,_,BE rfl (by omega),by grind,fun j Y=>by grind⟩
 have A:decide ((k:Int)<((l.length+3:Nat):Int))=false:=by grind
 simp only[eE,seval,↓eP,Q,s,u,w,b,A];exact⟨x,y,z⟩
theorem Sq{l:List ByteArray}{v:Value}{o lo:Nat}(b:h.c o=.row (DN l++CF [.string ByteArray.empty] 3) 9 false false)(c:o<h.a)(d:h.b<=o)(e:AL lo h v l.length 1 (DN l))(f:l.length<2932031007403)(g:l.length+20<n):∃a,AN n 119 [qS o l.length (l.length+3),v] h=some (.bool true,a)/\(a.a=h.a/\a.b=h.b/\∀i,i≠o->a.c i=h.c i):=by obtain⟨n,rfl⟩:=BX g;exact RL BF (Fq b c d e f)
end
theorem Rm:∀{l:List (ByteArray×Bool)}{k:Nat}{x:ByteArray×Bool},l[k]?=some x->(EH l)[k*2]?=some (.string x.1)/\(EH l)[k*2+1]?=some (.bool x.2)
 |[],k,x,h=>by simp at h|y::l,0,x,h=>by cases h;exact⟨rfl,rfl⟩|y::l,k+1,x,h=>by
  have c:l[k]?=some x:=by assumption
  have e:EH (y::l)=.string y.1::.bool y.2::EH l:=rfl;obtain⟨a,b⟩:=Rm c;grind
theorem tL{l:List (ByteArray×Bool)}{i:Nat}{x:ByteArray×Bool}(b:l[i]?=some x){lo:Nat}{h:AA}{v:Value}(c:AL lo h v l.length 2 (EH l)):∃a p,BW prog 23 v (iv (i:Int))=some (qP a p)/\a<h.a/\AI (p+1) (h.c a)=some (.bool x.2):=by obtain⟨a,p,d,e,f⟩:=AL.j c ci PS (ae.1 b).1;refine⟨a,p,d,e,?_⟩;rw[f 1 (by decide)];exact(Rm b).2
theorem YZ{size:Int}{C:List Int}{Q:List (ByteArray×Bool)}(h:size<1\/size>1048576\/C.length≠Q.length):OY size C Q=false:=by unfold OY;grind
theorem Z9{size:Int}{C:List Int}{Q:List (ByteArray×Bool)}(h:LP size (KX C Q) 0 0=none):OY size C Q=false:=by unfold OY;grind
theorem Ba{size r o:Int}{C:List Int}{Q:List (ByteArray×Bool)}(h1:1<=size)(a:size<=1048576)(b:C.length=Q.length)(h:LP size (KX C Q) 0 0=some (r,o)):OY size C Q=decide (min size r+o<=4194304):=by unfold OY;grind
theorem Dq(a b:Int):(if b<a then b else a)=min a b:=by omega
section
variable {n N:Nat} {h:AA}
theorem F0{nm:ByteArray}{s:AS}{pv cv:Value}{lo lc:Nat}{size:Int}{C:List Int}(hp:CG lo h pv nm s)(hc:F6 lc h cv size C)(hC:C.length<17592186044416)(hQ:s.b.length<2932031007403)(hN:C.length+10<N):∃j,AW prog (AN n) N 135 [pv,cv] h=some (.bool (OY size C s.b),j)/\∀i,i<h.a->j.c i=h.c i:=by
 obtain⟨U,L,V,W,X,Y,rfl,p1,Z,p3,p4,p5,p6⟩:=id hp;obtain⟨t,rfl,pc⟩:=id hc;refine EA (R:=fun j=>∀i,i<h.a->j.c i=h.c i) func135 rfl (by simp[f135]) ?_;have e:f135.results.toList=[.tmp 4]:=rfl;have ca:=C9 [.string nm,U,L,V,W,X,Y,iv s.c];have oa:=IV (nm:=nm) p1 Z p3 p4 p5 p6;have cb:=C9 [iv size,t];have ob:[iv size,t].all one=true:=by simp only[az,bd,AL.a pc,JQ,ao]
 obtain⟨gA,gB,nG,fG,f⟩:=OP h (.row [.string nm,U,L,V,W,X,Y,iv s.c] 27 false false) (.row [iv size,t] 32 false false);simp only[eE,seval,DJ,ca,oa,cb,ob,EQ,HQ];generalize(h.d (.row [.string nm,U,L,V,W,X,Y,iv s.c] 27 false false)).d (.row [iv size,t] 32 false false)=Q at*;obtain⟨x0,x1,D,x3,x4,x5,x6,x7⟩:=R7 gA;have u:AI 0 (Q.c (h.a+1))=some (iv size):=by rw[gB];rfl
 have y1:AI 1 (Q.c (h.a+1))=some t:=by rw[gB];rfl
 have k:=fun j=>J8 pc j;have l:=fun j=>P8 Z j;have pq:AL lo Q L s.b.length 2 (EH s.b):=Z.b (by omega) fun i _ M=>f i M;have pC:AK lc Q t C:=AK.U pc (by omega) fun i _ M=>f i M;cases y:decide (size<1)with
 |true=>
  rw[YZ (.inl (by simpa using y))];simp only[eE,seval,↓eP,e,IW,AM,u,y];exact f|false=>
 have e1:1<=size:=by simp only[bk]at y;omega
 cases E:decide (size>1048576)with
 |true=>rw[YZ (.inr (.inl (by simpa using E)))];simp only[eE,seval,↓eP,e,IW,AM,u,y,E];exact f|false=>
 have e2:size<=1048576:=by simp only[bk]at E;omega
 cases F:((C.length:Int)!=(s.b.length:Int))with
 |true=>
  rw[YZ (.inr (.inr (fun h9=>by rw[h9]at F;simp at F)))];simp only[eE,seval,↓eP,e,ab,IW,JK,DY,AM,BH,DZ,u,y1,D,k,l,y,E,F];exact f|false=>
 have e3:C.length=s.b.length:=by
  have h9:(C.length:Int)=(s.b.length:Int):=by simpa using F
  omega
 simp only[eE,seval,↓eP,ab,IW,JK,DY,AM,BH,DZ,u,y1,D,k,l,y,E,F];refine WK.b (fun i p=>p.T.a 2=qP h.a 0/\p.T.a 3=qP (h.a+1) 0/\p.T.a 27=t/\p.T.a 28=iv (C.length:Int)/\p.T.a 29=iv (i:Int)/\p.h=Q/\i<=C.length/\∃r o:Int,p.T.a 5=iv r/\p.T.a 6=iv o/\0<=r/\r<=1048576*(i:Int)/\0<=o/\o<=1048576*(i:Int)/\LP size ((KX C s.b).drop i) r o=LP size (KX C s.b) 0 0) C.length (by omega) ?_ ?_;.exact⟨by simp only[eE,seval],by simp only[eE,seval],by simp only[eE,seval],by simp only[eE,seval],by simp only[eE,seval]<;>rfl,rfl,by omega,0,0,by simp only[eE,seval]<;>rfl,by simp only[eE,seval]<;>rfl,by omega,by omega,by omega,by omega,by rw[gn]⟩
 rintro i⟨T1,H1⟩M⟨O,G,c,a,b,hh,h0,r,o,P,S,r0,r1,o0,o1,d⟩;simp only at O G c a b P S hh;subst hh;have h1:1048576*(i:Int)<=1048576*2932031007403:=by omega
 by_cases v:i<C.length
 .have w:decide ((i:Int)<(C.length:Int))=true:=by simp;omega
  obtain⟨m,z⟩:∃m,C[i]?=some m:=⟨_,aa v⟩;obtain⟨q,A⟩:∃q,s.b[i]?=some q:=⟨_,aa (by omega)⟩;obtain⟨h2,pa,H,_,I⟩:=AK.V pC z;obtain⟨J,pb,eb,_,xb⟩:=tL A pq;have w1:=DU i;cases x:decide (m<1)with|true=>rw[Z9 (by rw[<-d];exact ZE z A (.inl (by simpa using x)))];simp only[eE,seval,↓eP,e,c,a,b,w,AM,H,I,x];exact f|false=>
  have e4:1<=m:=by simp only[bk]at x;omega
  cases B:decide (m>1048576)with
  |true=>rw[Z9 (by rw[<-d];exact ZE z A (.inr (.inl (by simpa using B))))];simp only[eE,seval,↓eP,e,c,a,b,w,AM,H,I,x,B];exact f|false=>
  have e5:m<=1048576:=by simp only[bk]at B;omega
  have wo:IntKind.i64.wrap (o+m)=o+m:=BR;have wr:IntKind.i64.wrap (r+m)=r+m:=BR;cases K:q.2 with
  |true=>
   have g:AI (pb+1) (H1.c J)=some (.bool true):=by rw[<-K];exact xb
   simp only[eE,seval,↓eP,e,ab,O,G,c,a,b,P,S,w,DY,KR,AM,DZ,F4,D,H,I,eb,x,B,g,wo,w1];exact⟨v,by omega,r,o+m,rfl,rfl,by omega,by omega,by omega,by omega,by rw[<-d,Mf z A ⟨e4,e5⟩ K]⟩|false=>
  have g:AI (pb+1) (H1.c J)=some (.bool false):=by rw[<-K];exact xb
  cases T:decide (m>size)with
  |true=>
   rw[Z9 (by rw[<-d];exact ZE z A (.inr (.inr ⟨K,by simpa using T⟩)))];simp only[eE,seval,↓eP,e,ab,O,G,c,a,b,w,IW,DY,KR,AM,DZ,F4,u,D,H,I,eb,x,B,g,T];exact f|false=>
  have e7:m<=size:=by simp only[bk]at T;omega
  simp only[eE,seval,↓eP,e,ab,O,G,c,a,b,P,S,w,IW,DY,KR,AM,DZ,F4,u,D,H,I,eb,x,B,g,T,wr,w1];exact⟨v,by omega,r+m,o,rfl,rfl,by omega,by omega,by omega,by omega,by rw[<-d,Ck z A ⟨e4,e5⟩ K e7]⟩
 have w:decide ((i:Int)<(C.length:Int))=false:=by simp;omega
 rw[Ba (r:=r) (o:=o) e1 e2 e3 (by rw[<-d];exact Qk e3)];have wz:IntKind.i64.wrap ((if r<size then r else size)+o)=(if r<size then r else size)+o:=BR (by split<;>omega) (by split<;>omega);simp only[eE,seval,↓eP,e,G,a,b,P,S,w,IW,AM,u,wz];rw[Dq];exact⟨rfl,f⟩
theorem F3{nm:ByteArray}{s:AS}{a b:Value}{lo lc:Nat}{size:Int}{C:List Int}(c:CG lo h a nm s)(d:F6 lc h b size C)(e:C.length<17592186044416)(f:s.b.length<2932031007403)(g:C.length+20<n):AN n 135 [a,b] h=some (.bool (OY size C s.b),h):=by
 obtain⟨n,rfl⟩:=BX g;exact HF BF rfl (F0 (n:=n) (N:=n) c d e f (by omega))
theorem Gc{nm:ByteArray}{s:AS}{Z cv:Value}{lo lc:Nat}{size:Int}{C:List Int}(hp:CG lo h Z nm s)(hc:F6 lc h cv size C)(hC:C.length<17592186044416)(hQ:s.b.length<2932031007403)(hN:C.length+10<N):∃f,AW prog (AN n) N 167 [Z,cv] h=some (.bool (OY size C s.b),f)/\∀i,i<h.a->f.c i=h.c i:=by
 obtain⟨M,F,O,P,S,T,rfl,p1,U,p3,p4,p5,p6⟩:=id hp;obtain⟨v,rfl,V⟩:=id hc;refine EA (R:=fun f=>∀i,i<h.a->f.c i=h.c i) func167 rfl (by simp) ?_;have c:f167.results.toList=[.tmp 4]:=rfl;have ca:=C9 [.string nm,M,F,O,P,S,T,iv s.c];have oa:=IV (nm:=nm) p1 U p3 p4 p5 p6;have cb:=C9 [iv size,v];have ob:[iv size,v].all one=true:=by simp only[az,bd,AL.a V,JQ,ao]
 obtain⟨gA,gB,nG,fG,d⟩:=OP h (.row [.string nm,M,F,O,P,S,T,iv s.c] 27 false false) (.row [iv size,v] 32 false false);simp only[eE,seval,DJ,ca,oa,cb,ob,EQ,HQ];generalize(h.d (.row [.string nm,M,F,O,P,S,T,iv s.c] 27 false false)).d (.row [iv size,v] 32 false false)=Q at*;obtain⟨x0,x1,z,x3,x4,x5,x6,x7⟩:=R7 gA;have k:AI 0 (Q.c (h.a+1))=some (iv size):=by rw[gB];rfl
 have g:AI 1 (Q.c (h.a+1))=some v:=by rw[gB];rfl
 have a:=fun f=>J8 V f;have j:=fun f=>P8 U f;have pq:AL lo Q F s.b.length 2 (EH s.b):=U.b (by omega) fun i _ G=>d i G;have pC:AK lc Q v C:=AK.U V (by omega) fun i _ G=>d i G;cases H:decide (size<1)with
 |true=>
  rw[YZ (.inl (by grind))];simp only[eE,seval,↓eP,c,IW,AM,k,H];exact d|false=>
 have e1:1<=size:=by grind
 cases W:decide (size>1048576)with|true=>rw[YZ (.inr (.inl (by grind)))];simp only[eE,seval,↓eP,c,IW,AM,k,H,W];exact d|false=>
 have e2:size<=1048576:=by grind
 cases d3:((C.length:Int)!=(s.b.length:Int))with|true=>rw[YZ (.inr (.inr (fun h9=>by grind)))];simp only[eE,seval,↓eP,c,ab,IW,JK,DY,AM,BH,DZ,k,g,z,a,j,H,W,d3];exact d|false=>
 have e3:C.length=s.b.length:=by grind
 simp only[eE,seval,↓eP,ab,IW,JK,DY,AM,BH,DZ,k,g,z,a,j,H,W,d3];refine WK.b (fun i w=>w.T.a 2=qP h.a 0/\w.T.a 3=qP (h.a+1) 0/\w.T.a 7=iv (i:Int)/\w.h=Q/\i<=C.length/\∃r o:Int,w.T.a 5=iv r/\w.T.a 6=iv o/\0<=r/\r<=1048576*(i:Int)/\0<=o/\o<=1048576*(i:Int)/\LP size ((KX C s.b).drop i) r o=LP size (KX C s.b) 0 0) C.length (by omega) ?_ ?_;.exact⟨by simp only[eE,seval],by simp only[eE,seval],by simp only[eE,seval]<;>rfl,rfl,by omega,0,0,by simp only[eE,seval]<;>rfl,by simp only[eE,seval]<;>rfl,by omega,by omega,by omega,by omega,by simp⟩
 rintro i⟨T1,H1⟩G⟨I,l,p,hh,h0,r,o,J,K,r0,r1,o0,o1,b⟩;simp only at I l p J K hh;subst hh;have h1:1048576*(i:Int)<=1048576*2932031007403:=by omega
 by_cases t:i<C.length
 .have u:decide ((i:Int)<(C.length:Int))=true:=by grind
  obtain⟨m,x⟩:∃m,C[i]?=some m:=⟨_,aa t⟩;obtain⟨q,y⟩:∃q,s.b[i]?=some q:=⟨_,aa (by omega)⟩;obtain⟨h2,pa,A,_,B⟩:=AK.V pC x;obtain⟨D,pb,X,_,xb⟩:=tL y pq;have w1:=DU i;cases E:decide (m<1)with
  |true=>
   rw[Z9 (by rw[<-b];exact ZE x y (.inl (by grind)))];simp only[eE,seval,↓eP,c,ab,l,p,a,u,JK,AM,BH,g,A,B,E];exact d|false=>
  have e4:1<=m:=by grind
  cases L:decide (m>1048576)with
  |true=>
   rw[Z9 (by rw[<-b];exact ZE x y (.inr (.inl (by grind))))];simp only[eE,seval,↓eP,c,ab,l,p,a,u,JK,AM,BH,g,A,B,E,L];exact d|false=>
  have e5:m<=1048576:=by grind
  have wo:IntKind.i64.wrap (o+m)=o+m:=BR;have wr:IntKind.i64.wrap (r+m)=r+m:=BR;cases Y:q.2 with
  |true=>
   have e:AI (pb+1) (H1.c D)=some (.bool true):=by grind
   simp only[eE,seval,↓eP,c,ab,I,l,p,J,K,a,u,JK,DY,KR,AM,BH,DZ,F4,g,z,A,B,X,E,L,e,wo,w1];exact⟨t,by omega,r,o+m,rfl,rfl,by omega,by omega,by omega,by omega,by rw[<-b,Mf x y ⟨e4,e5⟩ Y]⟩|false=>
  have e:AI (pb+1) (H1.c D)=some (.bool false):=by grind
  cases d7:decide (m>size)with
  |true=>rw[Z9 (by rw[<-b];exact ZE x y (.inr (.inr ⟨Y,by grind⟩)))];simp only[eE,seval,↓eP,c,ab,I,l,p,a,u,IW,JK,DY,KR,AM,BH,DZ,F4,k,g,z,A,B,X,E,L,e,d7];exact d|false=>
  have e7:m<=size:=by grind
  simp only[eE,seval,↓eP,c,ab,I,l,p,J,K,a,u,IW,JK,DY,KR,AM,BH,DZ,F4,k,g,z,A,B,X,E,L,e,d7,wr,w1];exact⟨t,by omega,r+m,o,rfl,rfl,by omega,by omega,by omega,by omega,by rw[<-b,Ck x y ⟨e4,e5⟩ Y e7]⟩
 have u:decide ((i:Int)<(C.length:Int))=false:=by grind
 rw[Ba (r:=r) (o:=o) e1 e2 e3 (by rw[<-b];exact Qk e3)];have wz:IntKind.i64.wrap ((if size<r then size else r)+o)=(if size<r then size else r)+o:=BR;simp only[eE,seval,↓eP,c,ab,l,p,J,K,a,u,IW,JK,AM,BH,k,g,wz];rw[Dq,Int.min_comm];exact⟨rfl,d⟩
theorem Gf{nm:ByteArray}{s:AS}{a b:Value}{lo lc:Nat}{size:Int}{C:List Int}(c:CG lo h a nm s)(d:F6 lc h b size C)(e:C.length<17592186044416)(f:s.b.length<2932031007403)(g:C.length+20<n):AN n 167 [a,b] h=some (.bool (OY size C s.b),h):=by
 obtain⟨n,rfl⟩:=BX g;exact HF BF rfl (Gc (n:=n) (N:=n) c d e f (by omega))
end
theorem O6{Q:List (ByteArray×Bool)}{lo:Nat}{h:AA}{v:Value}(e:AL lo h v Q.length 2 (EH Q)){m:Int}(h0:0<=m)(h1:m<Q.length):∃d p,BW prog 23 v (iv m)=some (qP d p)/\d<h.a/\AI (p+1) (h.c d)=some (.bool (QR Q m)):=by
 obtain⟨q,f⟩:∃q,Q[m.toNat]?=some q:=⟨_,aa (by omega)⟩;obtain⟨d,p,a,b,c⟩:=tL f e;rw[show((m.toNat:Nat):Int)=m by omega]at a;refine⟨d,p,a,b,?_⟩;rw[c];unfold QR;grind
section
variable {Q:List (ByteArray × Bool)} {x up:AF}
theorem Z7(h:x.a=8\/x.a=17\/x.a=20):ME Q x up=QR Q x.n:=by unfold ME;grind
theorem iU(h:x.a=9\/x.a=21):ME Q x up=!(QR Q x.n):=by unfold ME;grind
theorem Ld(h:x.a=24)(a:up.a=20):ME Q x up=!(QR Q x.n):=by unfold ME;grind
theorem Qi(h:x.a=24)(a:up.a≠20):ME Q x up=(QR Q x.n !=QR Q up.n):=by unfold ME;grind
theorem Nh(h:x.a≠8/\x.a≠17/\x.a≠20/\x.a≠9/\x.a≠21/\x.a≠24):ME Q x up=false:=by obtain⟨a,b,c,d,e,f⟩:=h;unfold ME;grind
end
theorem OV{t:TypeId}{k:Nat}(b:BN prog t=some k){H:AA}{vs zs:List Value}(c:zs.length=k)(d:vs.length=k)(e:vs.all one=true)(f:H.b<=H.a):∃a,BD prog (H.d (.row zs t false false)) t (qP H.a 0) (.agg vs.toArray)=some a/\a.c H.a=.row vs t false false/\a.a=H.a+1/\a.b=H.b/\∀i,i<H.a->a.c i=H.c i:=⟨_,GQ b (BJ (h:=H)) c d e f,BE rfl (by show H.a<H.a+1;omega),rfl,rfl,fun i g=>by rw[AP (by show H.a<H.a+1;omega) (by omega),AV g]⟩
def uF:List (Bool×Bool×List Operand):=[AO,AO,AH [.tmp 44],AH [.tmp 44],AO,AO,AO,AH [.tmp 44,.tmp 46,.tmp 49],AH [.tmp 44,.tmp 46,.tmp 49],AH [.tmp 44,.tmp 46,.tmp 49,.tmp 51],AH [.tmp 44,.tmp 46,.tmp 49,.tmp 51],AH [.tmp 44,.tmp 46,.tmp 49],AH [.tmp 44,.tmp 46,.tmp 49],AH [.tmp 44,.tmp 46,.tmp 49],AJ,AJ]
section
variable {n N:Nat} {h:AA}
theorem Gp{nm:ByteArray}{s:AS}{K:Value}{lo:Nat}{x up:AF}(S:CG lo h K nm s)(z:[8,17,20,9,21,24].contains x.a=true->0<=x.n/\x.n<s.b.length)(T:x.a=24->up.a≠20->0<=up.n/\up.n<s.b.length):∃B,AW prog (AN n) N 132 [K,CW x,CW up] h=some (.bool (ME s.b x up),B)/\∀i,i<h.a->B.c i=h.c i:=by
 obtain⟨D,C,E,F,H,I,rfl,U,L,V,W,X,Y⟩:=id S;have J:=(EC n).2;refine EA (R:=fun B=>∀i,i<h.a->B.c i=h.c i) func132 rfl (by simp) ?_;have r:f132.results.toList=[.tmp 6]:=rfl;have Z:=C9 [.string nm,D,C,E,F,H,I,iv s.c];have oa:=IV (nm:=nm) U L V W X Y;have cx:(CW x).cells.toList=AQ x:=rfl;have ox:(AQ x).all one=true:=rfl;have cu:(CW up).cells.toList=AQ up:=rfl;have ou:(AQ up).all one=true:=rfl;obtain⟨gA,M,O,nG,fG,o⟩:=kY h (.row [.string nm,D,C,E,F,H,I,iv s.c] 27 false false) (.row (AQ x) 125 false false) (.row (AQ up) 125 false false);simp only[eE,seval,DJ,Z,oa,cx,ox,cu,ou,EQ,GC];generalize((h.d (.row [.string nm,D,C,E,F,H,I,iv s.c] 27 false false)).d (.row (AQ x) 125 false false)).d (.row (AQ up) 125 false false)=G at*;have t:h.a+1+1=h.a+2:=rfl;obtain⟨a0,a1,v,a3,a4,a5,a6,a7⟩:=R7 gA;have u:AI 0 (G.c (h.a+1))=some (iv x.a):=by rw[M];rfl
 have w:AI 3 (G.c (h.a+1))=some (iv x.n):=by rw[M];rfl
 have P:AI 0 (G.c (h.a+2))=some (iv up.a):=by rw[O];rfl
 have u3:AI 3 (G.c (h.a+2))=some (iv up.n):=by rw[O];rfl
 have y:AL lo G C s.b.length 2 (EH s.b):=L.b (by omega) fun i _ hi=>o i hi;cases e:(x.a==8)with|true=>have k:=ak.1 e;obtain⟨j,l⟩:=z (by rw[k];rfl);obtain⟨id,p,f,A,g⟩:=O6 y j l;rw[Z7 (.inl k)];simp only[eE,seval,↓eP,r,t,ab,FY,AM,DY,DZ,KR,F4,v,u,w,e,f,g];exact o|false=>cases a:(x.a==17)with|true=>have k:=ak.1 a;obtain⟨j,l⟩:=z (by rw[k];rfl);obtain⟨id,p,f,A,g⟩:=O6 y j l;rw[Z7 (.inr (.inl k))];simp only[eE,seval,↓eP,r,t,ab,FY,AM,DY,DZ,KR,F4,v,u,w,e,a,f,g];exact o|false=>cases b:(x.a==20)with|true=>have k:=ak.1 b;obtain⟨j,l⟩:=z (by rw[k];rfl);obtain⟨id,p,f,A,g⟩:=O6 y j l;rw[Z7 (.inr (.inr k))];simp only[eE,seval,↓eP,r,t,ab,FY,AM,DY,DZ,KR,F4,v,u,w,e,a,b,f,g];exact o|false=>cases q:(x.a==9)with|true=>have k:=ak.1 q;obtain⟨j,l⟩:=z (by rw[k];rfl);obtain⟨id,p,f,A,g⟩:=O6 y j l;rw[iU (.inl k)];simp only[eE,seval,↓eP,r,t,ab,FY,AM,DY,DZ,KR,F4,v,u,w,e,a,b,q,f,g];exact o|false=>cases c:(x.a==21)with|true=>have k:=ak.1 c;obtain⟨j,l⟩:=z (by rw[k];rfl);obtain⟨id,p,f,A,g⟩:=O6 y j l;rw[iU (.inr k)];simp only[eE,seval,↓eP,r,t,ab,FY,AM,DY,DZ,KR,F4,v,u,w,e,a,b,q,c,f,g];exact o|false=>cases d:(x.a==24)with|false=>simp only[ax]at e a b q c d;rw[Nh ⟨e,a,b,q,c,d⟩];rw[<-ax]at e a b q c d;simp only[eE,seval,↓eP,r,t,u,e,a,b,q,c,d];exact o|true=>have k:=ak.1 d;obtain⟨j,l⟩:=z (by rw[k];rfl);obtain⟨id,p,f,A,g⟩:=O6 y j l;cases m:(up.a==20)with|true=>rw[Ld k (ak.1 m)];simp only[eE,seval,↓eP,r,t,ab,BB,FY,AM,DY,DZ,KR,F4,v,u,w,P,e,a,b,q,c,d,m,f,g];exact o|false=>
 have Q:up.a≠20:=by grind
 obtain⟨h3,h4⟩:=T k Q;obtain⟨h0,h5,e4,e5,e6⟩:=O6 y h3 h4;rw[Qi k Q];simp only[eE,seval,↓eP,t,BB,AM,u,P,e,a,b,q,c,d,m];refine WK.a (fs:=uF) (by kernel_rfl) ?_;unfold uF;iterate 16
  refine DG J ?_;simp only[rG,seval,AB,AD,AC,A7,DY,DZ,v,FY,AM,w,f,KR,g,F4,u3,e4,e6,jO]
 refine DF ?_;simp only[eE,seval,r];exact o
theorem Gt{nm:ByteArray}{s:AS}{a:Value}{lo:Nat}{x up:AF}(b:CG lo h a nm s)(c:[8,17,20,9,21,24].contains x.a=true->0<=x.n/\x.n<s.b.length)(d:x.a=24->up.a≠20->0<=up.n/\up.n<s.b.length)(e:0<n):AN n 132 [a,CW x,CW up] h=some (.bool (ME s.b x up),h):=by obtain⟨n,rfl⟩:=BX e;exact HF BF rfl (Gp (n:=n) (N:=n) b c d)
end
def sB:List (Bool×Bool×List Operand):=[AO,AO,AH [.tmp 55],AH [.tmp 55],AO,AO,AO,AH [.tmp 55,.tmp 57,.tmp 60],AH [.tmp 55,.tmp 57,.tmp 60],AH [.tmp 55,.tmp 57,.tmp 60,.tmp 62],AH [.tmp 55,.tmp 57,.tmp 60,.tmp 62],AH [.tmp 55,.tmp 57,.tmp 60],AH [.tmp 55,.tmp 57,.tmp 60],AH [.tmp 55,.tmp 57,.tmp 60],AJ,AJ]
section
variable {n N:Nat} {h:AA}
theorem GE{nm:ByteArray}{s:AS}{pv:Value}{lo:Nat}{x up:AF}(hp:CG lo h pv nm s){a:Nat}(X:s.a[a]?=some x)(Y:x.a=24->s.a[a-1]?=some up/\0<a)(g2:s.a.length<2932031007403)(A:[8,17,20,9,21,24].contains x.a=true->0<=x.n/\x.n<s.b.length)(hu:x.a=24->up.a≠20->0<=up.n/\up.n<s.b.length)(g3:h.b<=h.a):∃S,AW prog (AN n) N 166 [pv,iv (a:Int)] h=some (.bool (ME s.b x up),S)/\∀i,i<h.a->S.c i=h.c i:=by
 obtain⟨C,z,T,U,V,W,rfl,Z,p2,p3,p4,p5,p6⟩:=id hp;have h0:=(EC n).2;refine EA (R:=fun S=>∀i,i<h.a->S.c i=h.c i) func166 rfl (by simp[f166]) ?_;have r:f166.results.toList=[.tmp 4]:=rfl;have ca:=C9 [.string nm,C,z,T,U,V,W,iv s.c];have oa:=IV (nm:=nm) Z p2 p3 p4 p5 p6;have g0:∀(a:BO),(h.d a).c h.a=a/\(h.d a).a=h.a+1/\(h.d a).b=h.b/\∀i,i<h.a->(h.d a).c i=h.c i:=fun a=>⟨BJ,rfl,rfl,fun i F=>AV F⟩;obtain⟨I,g4,g5,h5⟩:=g0 (.row [.string nm,C,z,T,U,V,W,iv s.c] 27 false false);simp only[eE,seval,ca,oa,EQ];generalize h.d (.row [.string nm,C,z,T,U,V,W,iv s.c] 27 false false)=B at*;have h6:A8 B C s.a:=Z.1.a (by omega) h5;obtain⟨ia,pa,ea,ha,_,_,_,_,_,la⟩:=h6.b X;obtain⟨G,h7,gX,nG,fG,oG⟩:=OV (t:=125) GC (H:=B) (zs:=AQ DL) (vs:=AQ x) rfl rfl rfl (by omega);have J:BD prog (B.d (.row (AQ DL) 125 false false)) 125 (qP B.a 0) (CW x)=some G:=h7;obtain⟨b0,b1,b2,b3,b4,b5,b6,b7⟩:=R7 I;have gA:G.c h.a=.row [.string nm,C,z,T,U,V,W,iv s.c] 27 false false:=by rw[oG _ (by omega)];exact I
 obtain⟨a0,a1,D,a3,a4,a5,a6,a7⟩:=R7 gA;have u:AI 0 (G.c B.a)=some (iv x.a):=by rw[gX];rfl
 have E:AI 3 (G.c B.a)=some (iv x.n):=by rw[gX];rfl
 have v:∀i,i<h.a->G.c i=h.c i:=by grind
 have L:AL lo G z s.b.length 2 (EH s.b):=p2.b (by omega) fun i _ F=>v i F;have fz:flat (CW DL)=true:=rfl;simp only[eE,seval,ab,CK,CJ,b1,ea,FX,la,FC,fz,zr,J];cases g:(x.a==8)with
 |true=>
  have k:=ak.1 g;obtain⟨m,o⟩:=A (by rw[k];rfl);obtain⟨id,p,j,M,l⟩:=O6 L m o;rw[Z7 (.inl k)];simp only[eE,seval,↓eP,r,ab,BB,FY,AM,DY,DZ,KR,F4,D,u,E,g,j,l];exact v|false=>cases b:(x.a==17)with
 |true=>
  have k:=ak.1 b;obtain⟨m,o⟩:=A (by rw[k];rfl);obtain⟨id,p,j,M,l⟩:=O6 L m o;rw[Z7 (.inr (.inl k))];simp only[eE,seval,↓eP,r,ab,BB,FY,AM,DY,DZ,KR,F4,D,u,E,g,b,j,l];exact v|false=>cases c:(x.a==20)with
 |true=>
  have k:=ak.1 c;obtain⟨m,o⟩:=A (by rw[k];rfl);obtain⟨id,p,j,M,l⟩:=O6 L m o;rw[Z7 (.inr (.inr k))];simp only[eE,seval,↓eP,r,ab,BB,FY,AM,DY,DZ,KR,F4,D,u,E,g,b,c,j,l];exact v|false=>cases q:(x.a==9)with
 |true=>
  have k:=ak.1 q;obtain⟨m,o⟩:=A (by rw[k];rfl);obtain⟨id,p,j,M,l⟩:=O6 L m o;rw[iU (.inl k)];simp only[eE,seval,↓eP,r,ab,BB,FY,AM,DY,DZ,KR,F4,D,u,E,g,b,c,q,j,l];exact v|false=>cases d:(x.a==21)with
 |true=>
  have k:=ak.1 d;obtain⟨m,o⟩:=A (by rw[k];rfl);obtain⟨id,p,j,M,l⟩:=O6 L m o;rw[iU (.inr k)];simp only[eE,seval,↓eP,r,ab,BB,FY,AM,DY,DZ,KR,F4,D,u,E,g,b,c,q,d,j,l];exact v|false=>cases e:(x.a==24)with
 |false=>
  simp only[ax]at g b c q d e;rw[Nh ⟨g,b,c,q,d,e⟩];rw[<-ax]at g b c q d e;simp only[eE,seval,↓eP,r,BB,AM,u,g,b,c,q,d,e];exact v|true=>
 have k:=ak.1 e;obtain⟨m,o⟩:=A (by rw[k];rfl);obtain⟨w,g1⟩:=Y k;have al:=(ae.1 w).1;have h8:A8 G C s.a:=Z.1.a (by omega) v;obtain⟨iu,pu,eu,_,_,_,_,_,_,lu⟩:=h8.b w;have wa:IntKind.i64.wrap ((a:Int)-1)=((a-1:Nat):Int):=(BR).trans (by omega);obtain⟨K,h9,gU,nK,fK,oK⟩:=OV (t:=125) GC (H:=G) (zs:=AQ DL) (vs:=AQ up) rfl rfl rfl (by omega);have y:BD prog (G.d (.row (AQ DL) 125 false false)) 125 (qP G.a 0) (CW up)=some K:=h9;have u0:AI 0 (K.c G.a)=some (iv up.a):=by rw[gU];rfl
 have u3:AI 3 (K.c G.a)=some (iv up.n):=by rw[gU];rfl
 have kO:∀i,i<h.a->K.c i=h.c i:=by grind
 have O:AI 3 (K.c B.a)=some (iv x.n):=by rw[oK _ (by omega)];exact E
 have P:AI 2 (K.c h.a)=some z:=by rw[oK _ (by omega)];exact D
 have Q:AL lo K z s.b.length 2 (EH s.b):=p2.b (by omega) fun i _ F=>kO i F;obtain⟨id,p,j,M,l⟩:=O6 Q m o;cases f:(up.a==20)with|true=>rw[Ld k (ak.1 f)];simp only[eE,seval,↓eP,r,ab,BB,FY,AM,DY,DZ,KR,F4,u,g,b,c,q,d,e,CK,CJ,a1,wa,eu,FX,lu,FC,fz,zr,y,u0,f,P,O,j,l];exact kO|false=>
 have ku:up.a≠20:=by simpa using f
 obtain⟨h3,h4⟩:=hu k ku;obtain⟨g6,g7,e4,e5,e6⟩:=O6 Q h3 h4;rw[Qi k ku];simp only[eE,seval,↓eP,ab,BB,AM,u,g,b,c,q,d,e,CK,CJ,a1,wa,eu,FX,lu,FC,fz,zr,y,u0,f];refine WK.a (fs:=sB) (by kernel_rfl) ?_;unfold sB;iterate 16
  refine DG h0 ?_;simp only[rG,seval,AB,AD,AC,A7,DB,DY,DZ,P,FY,AM,O,j,KR,l,F4,u3,e4,e6,jO]
 refine DF ?_;simp only[eE,seval,r];exact kO
theorem GR{nm:ByteArray}{s:AS}{f:Value}{lo:Nat}{x up:AF}(g:CG lo h f nm s){a:Nat}(b:s.a[a]?=some x)(c:x.a=24->s.a[a-1]?=some up/\0<a)(d:s.a.length<2932031007403)(i:[8,17,20,9,21,24].contains x.a=true->0<=x.n/\x.n<s.b.length)(j:x.a=24->up.a≠20->0<=up.n/\up.n<s.b.length)(e:h.b<=h.a)(k:0<n):AN n 166 [f,iv (a:Int)] h=some (.bool (ME s.b x up),h):=by obtain⟨n,rfl⟩:=BX k;exact HF BF rfl (GE (n:=n) (N:=n) g b c d i j e)
end
end Go.Proofs.YtjailoenloejbaaGreatDoor




