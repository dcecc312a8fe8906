/- Part 29. -/
import Derived.Test.YtjailoenloejbaaGreatDoorDV28
set_option linter.all false
namespace Go.Proofs.YtjailoenloejbaaGreatDoor
open Go Go.Sx Go.Proofs.Tryz
set_option maxRecDepth 100000
set_option maxHeartbeats 0
section
variable {n N:Nat} {h:AA}
theorem Ps{R:List AF}{v:Value}(Q:A8 h v R){a f j:Nat}{x y:AF}(V:R[a]?=some x)(W:R[f]?=some y)(X:1<=y.a/\y.a<=54)(Y:0<n):AW prog (AN n) N 225 [v,iv (a:Int),iv (f:Int),iv (j:Int)] h=some (iv (C4 x.a j (BM y.a)),h):=by
 refine DO func225 rfl (by simp[f225]) ?_;have C:f225.results.toList=[.tmp 8]:=rfl;obtain⟨Z,pa,D,_,E,_⟩:=Q.b V;obtain⟨ib,pb,S,_,T,_⟩:=Q.b W;have U:=Fe (n:=n) (h:=h) X Y;cases w:(x.a==4)with|true=>have k:=ak.1 w;rw[show C4 x.a j (BM y.a)=1 by rw[k];rfl];simp only[eE,seval,↓eP,C,ab,D,BB,AM,E,w]|false=>cases A:(x.a==5)with|true=>have k:=ak.1 A;rw[show C4 x.a j (BM y.a)=1 by rw[k];rfl];simp only[eE,seval,↓eP,C,ab,D,BB,AM,E,w,A]|false=>cases b:(x.a==14)with|true=>have k:=ak.1 b;rw[show C4 x.a j (BM y.a)=1 by rw[k];rfl];simp only[eE,seval,↓eP,C,ab,D,BB,AM,E,w,A,b]|false=>cases c:(x.a==41)with
 |true=>
  have k:=ak.1 c;rw[show C4 x.a j (BM y.a)=1 by rw[k];rfl];simp only[eE,seval,↓eP,C,ab,D,BB,AM,E,w,A,b,c]|false=>cases d:(x.a==39)with|true=>have k:=ak.1 d;rw[show C4 x.a j (BM y.a)=1 by rw[k];rfl];simp only[eE,seval,↓eP,C,ab,D,BB,AM,E,w,A,b,c,d]|false=>cases g:(x.a==40)with|true=>have k:=ak.1 g;rw[show C4 x.a j (BM y.a)=1 by rw[k];rfl];simp only[eE,seval,↓eP,C,ab,D,BB,AM,E,w,A,b,c,d,g]|false=>cases i:(x.a==43)with|true=>have k:=ak.1 i;rw[show C4 x.a j (BM y.a)=1 by rw[k];rfl];simp only[eE,seval,↓eP,C,ab,D,BB,AM,E,w,A,b,c,d,g,i]|false=>cases l:(x.a==44)with
 |true=>
  have k:=ak.1 l;rw[show C4 x.a j (BM y.a)=1 by rw[k];rfl];simp only[eE,seval,↓eP,C,ab,D,BB,AM,E,w,A,b,c,d,g,i,l]|false=>cases m:(x.a==45)with|true=>have k:=ak.1 m;rw[show C4 x.a j (BM y.a)=1 by rw[k];rfl];simp only[eE,seval,↓eP,C,ab,D,BB,AM,E,w,A,b,c,d,g,i,l,m]|false=>cases o:(x.a==46)with|true=>have k:=ak.1 o;rw[show C4 x.a j (BM y.a)=1 by rw[k];rfl];simp only[eE,seval,↓eP,C,ab,D,BB,AM,E,w,A,b,c,d,g,i,l,m,o]|false=>cases p:(x.a==49)with|true=>have k:=ak.1 p;rw[show C4 x.a j (BM y.a)=1 by rw[k];rfl];simp only[eE,seval,↓eP,C,ab,D,BB,AM,E,w,A,b,c,d,g,i,l,m,o,p]|false=>cases q:(x.a==50)with
 |true=>
  have k:=ak.1 q;rw[show C4 x.a j (BM y.a)=1 by rw[k];rfl];simp only[eE,seval,↓eP,C,ab,D,BB,AM,E,w,A,b,c,d,g,i,l,m,o,p,q]|false=>cases r:(x.a==51)with|true=>have k:=ak.1 r;rw[show C4 x.a j (BM y.a)=1 by rw[k];rfl];simp only[eE,seval,↓eP,C,ab,D,BB,AM,E,w,A,b,c,d,g,i,l,m,o,p,q,r]|false=>cases s:(x.a==52)with|true=>have k:=ak.1 s;rw[show C4 x.a j (BM y.a)=1 by rw[k];rfl];simp only[eE,seval,↓eP,C,ab,D,BB,AM,E,w,A,b,c,d,g,i,l,m,o,p,q,r,s]|false=>cases H:(x.a==6)with|true=>have k:=ak.1 H;rw[show C4 x.a j (BM y.a)=2 by rw[k];rfl];simp only[eE,seval,↓eP,C,ab,D,BB,AM,E,w,A,b,c,d,g,i,l,m,o,p,q,r,s,H]|false=>cases t:(x.a==42)with
 |true=>
  have k:=ak.1 t;rw[show C4 x.a j (BM y.a)=2 by rw[k];rfl];simp only[eE,seval,↓eP,C,ab,D,BB,AM,E,w,A,b,c,d,g,i,l,m,o,p,q,r,s,H,t]|false=>cases u:(x.a==53)with|true=>have k:=ak.1 u;rw[show C4 x.a j (BM y.a)=2 by rw[k];rfl];simp only[eE,seval,↓eP,C,ab,D,BB,AM,E,w,A,b,c,d,g,i,l,m,o,p,q,r,s,H,t,u]|false=>cases z:(x.a==54)with|true=>have k:=ak.1 z;rw[show C4 x.a j (BM y.a)=2 by rw[k];rfl];simp only[eE,seval,↓eP,C,ab,D,BB,AM,E,w,A,b,c,d,g,i,l,m,o,p,q,r,s,H,t,u,z]|false=>cases B:(x.a==15)with
 |true=>
  have k:=ak.1 B;cases I:((j:Int)==1)with
  |true=>
   have L:j=1:=by have:=ak.1 I;omega
   rw[show C4 x.a j (BM y.a)=1 by rw[k,L];rfl];simp only[eE,seval,↓eP,C,ab,D,BB,AM,E,w,A,b,c,d,g,i,l,m,o,p,q,r,s,H,t,u,z,B,I]|false=>
  have O:j≠1:=by simp only[ax]at I;omega
  rw[show C4 x.a j (BM y.a)=0 by rw[k];simp[C4,O]];simp only[eE,seval,↓eP,C,ab,D,BB,AM,E,w,A,b,c,d,g,i,l,m,o,p,q,r,s,H,t,u,z,B,I]
 |false=>cases F:(x.a==12)with
 |true=>have k:=ak.1 F;cases M:((j:Int)==0)with
  |true=>
   have L:j=0:=by have:=ak.1 M;omega
   rw[show C4 x.a j (BM y.a)=2 by rw[k,L];rfl];simp only[eE,seval,↓eP,C,ab,D,BB,AM,E,w,A,b,c,d,g,i,l,m,o,p,q,r,s,H,t,u,z,B,F,M]|false=>
  have P:j≠0:=by simp only[ax]at M;omega
  rw[show C4 x.a j (BM y.a)=0 by rw[k];simp[C4,P]];simp only[eE,seval,↓eP,C,ab,D,BB,AM,E,w,A,b,c,d,g,i,l,m,o,p,q,r,s,H,t,u,z,B,F,M]
 |false=>cases G:(x.a==13)with
 |true=>have k:=ak.1 G;cases M:((j:Int)==0)with
  |true=>
   have L:j=0:=by have:=ak.1 M;omega
   rw[show C4 x.a j (BM y.a)=1 by rw[k,L];rfl];simp only[eE,seval,↓eP,C,ab,D,BB,AM,E,w,A,b,c,d,g,i,l,m,o,p,q,r,s,H,t,u,z,B,F,G,M]|false=>
  have P:j≠0:=by simp only[ax]at M;omega
  cases I:((j:Int)==1)with
  |true=>
   have L:j=1:=by have:=ak.1 I;omega
   rw[show C4 x.a j (BM y.a)=2 by rw[k,L];rfl];simp only[eE,seval,↓eP,C,ab,D,BB,AM,E,w,A,b,c,d,g,i,l,m,o,p,q,r,s,H,t,u,z,B,F,G,M,I]|false=>
  have O:j≠1:=by simp only[ax]at I;omega
  rw[show C4 x.a j (BM y.a)=0 by rw[k];simp[C4,P,O]];simp only[eE,seval,↓eP,C,ab,D,BB,AM,E,w,A,b,c,d,g,i,l,m,o,p,q,r,s,H,t,u,z,B,F,G,M,I]
 |false=>cases J:(x.a==47)with
 |true=>have k:=ak.1 J;cases I:((j:Int)==1)with
  |true=>
   have L:j=1:=by have:=ak.1 I;omega
   rw[show C4 x.a j (BM y.a)=BM y.a by rw[k,L];rfl];simp only[eE,seval,↓eP,C,ab,D,S,BB,AM,E,T,U,w,A,b,c,d,g,i,l,m,o,p,q,r,s,H,t,u,z,B,F,G,J,I]|false=>
  have O:j≠1:=by simp only[ax]at I;omega
  rw[show C4 x.a j (BM y.a)=0 by rw[k];simp[C4,O]];simp only[eE,seval,↓eP,C,ab,D,BB,AM,E,w,A,b,c,d,g,i,l,m,o,p,q,r,s,H,t,u,z,B,F,G,J,I]
 |false=>cases K:(x.a==48)with
 |true=>have k:=ak.1 K;cases I:((j:Int)==1)with
  |true=>
   have L:j=1:=by have:=ak.1 I;omega
   rw[show C4 x.a j (BM y.a)=BM y.a by rw[k,L];rfl];simp only[eE,seval,↓eP,C,ab,D,S,BB,AM,E,T,U,w,A,b,c,d,g,i,l,m,o,p,q,r,s,H,t,u,z,B,F,G,J,K,I]|false=>
  have O:j≠1:=by simp only[ax]at I;omega
  rw[show C4 x.a j (BM y.a)=0 by rw[k];simp[C4,O]];simp only[eE,seval,↓eP,C,ab,D,BB,AM,E,w,A,b,c,d,g,i,l,m,o,p,q,r,s,H,t,u,z,B,F,G,J,K,I]
 |false=>
 have e:C4 x.a j (BM y.a)=0:=by
  simp only[ax]at w A b c d g i l m o p q r s H t u z B F G J K;simp[C4,w,A,b,c,d,g,i,l,m,o,p,q,r,s,H,t,u,z,B,F,G,J,K]
 rw[e];simp only[eE,seval,↓eP,C,ab,D,BB,AM,E,w,A,b,c,d,g,i,l,m,o,p,q,r,s,H,t,u,z,B,F,G,J,K]
theorem Qd{R:List AF}{v:Value}(b:A8 h v R){a f j:Nat}{x y:AF}(c:R[a]?=some x)(d:R[f]?=some y)(e:1<=y.a/\y.a<=54)(g:1<n):AN n 225 [v,iv (a:Int),iv (f:Int),iv (j:Int)] h=some (iv (C4 x.a j (BM y.a)),h):=by obtain⟨n,rfl⟩:=BX g;exact FA BF rfl (Ps (n:=n) (N:=n) b c d e (by omega))
end
structure QL (h H:AA) (M:K5):Prop where
 a:H.c h.a=.row (ints M.A) 3 false false
 c:H.c (h.a+1)=.row (EV M.C) 4 false false
 n:h.a+2<=H.a
 d:H.b=h.b
 o:∀ i,i<h.a->H.c i=h.c i
theorem QL.b{h H H':AA}{M:K5}(a:QL h H M)(e:H.a<=H'.a)(c:H'.b=H.b)(b:∀i,i<h.a+2->H'.c i=H.c i):QL h H' M:=⟨by rw[b _ (by omega)];exact a.a,by rw[b _ (by omega)];exact a.c,by have:=a.n;omega,c.trans a.d,fun i d=>by rw[b i (by omega)];exact a.o i d⟩
def zR:List (Bool×Bool×List Operand):=[DT,DT,DT,DT,DT,AH [.tmp 34],AH [.tmp 34],AH [.tmp 34],AH [.tmp 34],AH [.tmp 34],AH [.tmp 34,.tmp 39],AH [.tmp 34],AJ,AJ]
def tZ:List (Bool×Bool×List Operand):=[AO,AO,AO,AO,AO,AH [.tmp 52],AH [.tmp 52],AH [.tmp 52],AH [.tmp 52],AH [.tmp 52],AH [.tmp 52],AH [.tmp 52],AH [.tmp 52],AH [.tmp 52],AH [.tmp 52],AH [.tmp 52],AH [.tmp 52],AH [.tmp 52],AH [.tmp 52],AH [.tmp 52],AH [.tmp 52],AH [.tmp 52],AH [.tmp 52],AH [.tmp 52],AH [.tmp 52],AH [.tmp 52],AH [.tmp 52],AH [.tmp 52],AH [.tmp 52],AJ,AJ]
section
variable {n N:Nat} {h:AA}
theorem Qg{Z:List AF}{s:AS}{v:Value}(E:FH Z s)(V:A8 h v s.a)(hl:s.a.length<2932031007403)(z1:h.b<=h.a)(hn:s.a.length+60<n)(hN:s.a.length+40<N):∃D,AW prog (AN n) N 163 [v] h=some (.tuple #[qS h.a s.a.length s.a.length,qS (h.a+1) s.a.length s.a.length],D)/\QL h D (CN s.a (AE Z) s.a.length):=by
 have h0:=(EC n).2;refine EA (R:=fun D=>QL h D (CN s.a (AE Z) s.a.length)) func163 rfl (by simp[f163]) ?_;have hr:f163.results.toList=[.tmp 2,.tmp 3]:=rfl;have z2:=E.b.1;have y4:0<s.a.length:=by have:=E.t.V;omega
 have u:∀D:AA,CU prog D 22 v=some (iv (s.a.length:Int)):=fun D=>V.c (h':=D);have ML:∀H:AA,J7 prog H 25 (iv (s.a.length:Int)) (iv (s.a.length:Int))=some (qS H.a s.a.length s.a.length,H.d (.row (ints (List.replicate s.a.length 0)) 3 false false)):=fun H=>by
  have:=R0 (P:=prog) (h:=H) (t:=25) (e:=3) (z:=.int .i64 0) au B_ IZ GD rfl rfl (by decide) (by decide) (n:=s.a.length) (by omega);rw[show CF (Value.int IntKind.i64 0).cells.toList s.a.length=ints (List.replicate s.a.length 0)from WQ _]at this;exact this
 have h7:∀H:AA,J7 prog H 84 (iv (s.a.length:Int)) (iv (s.a.length:Int))=some (qS H.a s.a.length s.a.length,H.d (.row (EV (List.replicate s.a.length false)) 4 false false)):=fun H=>by
  have:=R0 (P:=prog) (h:=H) (t:=84) (e:=4) (z:=.bool false) gk MZ wG sR rfl rfl (by decide) (by decide) (n:=s.a.length) (by omega);rw[show CF (Value.bool false).cells.toList s.a.length=EV (List.replicate s.a.length false)from qH _]at this;exact this
 have g2:∀(a b:BO),let A:=(h.d a).d b
   A.c h.a=a/\A.c (h.a+1)=b/\A.a=h.a+2/\A.b=h.b/\∀i,i<h.a->A.c i=h.c i:=fun a b=>⟨JG,MG,rfl,rfl,fun i hi=>by rw[AV (by show i<h.a+1;omega),AV hi]⟩;have h4:=g2 (.row (ints (List.replicate s.a.length 0)) 3 false false) (.row (EV (List.replicate s.a.length false)) 4 false false);simp only[eE,seval,u,ML,h7,BU];obtain⟨ga,gb,n4,f4,o4⟩:=h4;generalize(h.d (.row (ints (List.replicate s.a.length 0)) 3 false false)).d (.row (EV (List.replicate s.a.length false)) 4 false false)=B at*;have h8:QL h B (CN s.a (AE Z) 0):=⟨ga,gb,by omega,f4,o4⟩;refine WK.b (fun i m=>m.T.a 0=v/\m.T.a 4=qS h.a s.a.length s.a.length/\m.T.a 5=qS (h.a+1) s.a.length s.a.length/\m.T.a 6=iv (i:Int)/\i<=s.a.length/\QL h m.h (CN s.a (AE Z) i)) s.a.length (by omega) ?_ ?_;.exact⟨by simp only[eE,seval],by simp only[eE,seval],by simp only[eE,seval],by simp only[eE,seval]<;>rfl,by omega,h8⟩
 rintro i⟨T,H⟩hi⟨t0,t4,t5,t6,z3,W⟩;simp only at t0 t4 t5 t6 W;by_cases K:i<s.a.length;rotate_left
 .have c1:decide ((i:Int)<(s.a.length:Int))=false:=by simp;omega
  have h9:i=s.a.length:=by omega
  subst h9;simp only[eE,seval,↓eP,hr,t0,t4,t5,t6,u,c1];exact W
 have c1:decide ((i:Int)<(s.a.length:Int))=true:=by simp;omega
 obtain⟨x,L⟩:∃x,s.a[i]?=some x:=⟨_,aa K⟩;have z4:=W.n;have y5:=W.d;have g0:A8 H v s.a:=V.a (by omega) W.o;obtain⟨zz,g1,_,g3⟩:=E.z L;obtain⟨kv,X,M,O,f5,n5,o5⟩:=zB (n:=n) E.t E.b g0 g1 (by omega) (by omega) (by omega);rw[<-g3]at O;have g4:=O.a (af _);have w:=fun D=>J8 g4 D;have g5:((A9 (AE Z) x.b.toNat (i+1)).map (fun(k:Nat)=>(k:Int))).length=x.b.toNat:=by rw[bw,OE]
 obtain⟨k0,g6,z5,z6⟩:=E.a L;rw[g5,show((x.b.toNat:Nat):Int)=x.b by omega]at w;have w1:=DU i;have g7:QL h X (CN s.a (AE Z) i):=W.b (by omega) (by omega) fun j F=>o5 j (by omega);have z7:x.b.toNat<=s.a.length:=by have:=HM _ _ _ g6;omega
 simp only[eE,seval,↓eP,t0,t6,u,c1,M];have eM:CN s.a (AE Z) (i+1)=JW i x (BM (((s.a[i+1]?).map (·.a)).getD 0)) 0 (A9 (AE Z) x.b.toNat (i+1)) (CN s.a (AE Z) i):=by
  show MU s.a (AE Z) i (CN s.a (AE Z) i)=_;unfold MU;rw[L]
 refine WK.b (fun q m=>m.T.a 0=v/\m.T.a 4=qS h.a s.a.length s.a.length/\m.T.a 5=qS (h.a+1) s.a.length s.a.length/\m.T.a 6=iv (i:Int)/\m.T.a 7=kv/\m.T.a 8=iv (q:Int)/\q<=x.b.toNat/\X.a<=m.h.a/\(∀j,h.a+2<=j->j<X.a->m.h.c j=X.c j)/\QL h m.h (JW i x (BM (((s.a[i+1]?).map (·.a)).getD 0)) 0 ((A9 (AE Z) x.b.toNat (i+1)).take q) (CN s.a (AE Z) i))) x.b.toNat (by omega) ?_ ?_;.exact⟨by simp only[eE,seval,t0],by simp only[eE,seval,t4],by simp only[eE,seval,t5],by simp only[eE,seval,t6],by simp only[eE,seval],by simp only[eE,seval]<;>rfl,by omega,af _,fun _ _ _=>rfl,by rw[List.take_zero];exact g7⟩
 rintro q⟨T4,f⟩hq⟨u0,u4,u5,Y,u7,u8,z8,n6,o6,d⟩;simp only at u0 u4 u5 Y u7 u8 n6 o6 d;by_cases G:q<x.b.toNat;rotate_left
 .have c3:decide ((q:Int)<x.b)=false:=by simp;omega
  simp only[eE,seval,↓eP,u0,u4,u5,Y,u7,u8,w,c3,w1];have g8:q=x.b.toNat:=by omega
  subst g8;have g9:(A9 (AE Z) x.b.toNat (i+1)).take x.b.toNat=A9 (AE Z) x.b.toNat (i+1):=by grind
  rw[g9]at d;exact⟨K,by omega,by rw[eM];exact d⟩
 have c3:decide ((q:Int)<x.b)=true:=by simp;omega
 have x0:=E.i L (by omega);obtain⟨y,hy⟩:∃y,s.a[i+1]?=some y:=⟨_,aa x0⟩;have ky:=E.l _ y hy;have eY:((s.a[i+1]?).map (·.a)).getD 0=y.a:=by rw[hy];rfl
 rw[eY]at d⊢;obtain⟨p,I⟩:∃p,(A9 (AE Z) x.b.toNat (i+1))[q]?=some p:=⟨_,aa (by rw[OE];exact G)⟩;obtain⟨z9,h3⟩:=E.d L I;have C:AK (h.a+2) f kv ((A9 (AE Z) x.b.toNat (i+1)).map (fun(k:Nat)=>(k:Int))):=AK.U (O.a (by omega)) (by omega) fun j h1 h2=>o6 j h1 h2;obtain⟨ip,pp,ep,y6,lp⟩:=AK.V C (i:=q) (x:=(p:Int)) (by rw[bT,I];rfl);obtain⟨r9,x1⟩:∃r,x.b.toNat=r+1:=⟨x.b.toNat-1,by omega⟩;obtain⟨x2,pf,ef,y7,lf⟩:=AK.V C (i:=0) (x:=((i+1:Nat):Int)) (by rw[bT,x1];rfl);have x3:BW prog 25 kv (iv 0)=some (qP x2 pf):=ef;have w2:=DU q;have eS:=s_ (i:=i) (x:=x) (first:=BM y.a) (A9 (AE Z) x.b.toNat (i+1)) 0 q (CN s.a (AE Z) i) p I;rw[ab]at eS;rw[eS];obtain⟨b1,b2,b3⟩:=oW (i:=i) (x:=x) (first:=BM y.a) ((A9 (AE Z) x.b.toNat (i+1)).take q) 0 (CN s.a (AE Z) i);obtain⟨m1,m2,m3⟩:=W7 (R:=s.a) (AE Z) i;generalize JW i x (BM y.a) 0 ((A9 (AE Z) x.b.toNat (i+1)).take q) (CN s.a (AE Z) i)=l at*;obtain⟨c,J⟩:∃cq,l.C[i]?=some cq:=⟨_,aa (by omega)⟩;have y8:=d.n;have y9:=d.d;have h5:∀fl:Nat,AN n 225 [v,iv (i:Int),iv ((i+1:Nat):Int),iv (q:Int)] (f.f fl)=some (iv (C4 x.a q (BM y.a)),f.f fl):=fun fl=>Qd (h:=f.f fl) (A8.a V (by show h.a<=f.a;omega) fun j F=>d.o j F) L hy ky (by omega);have x4:=FO (id:=h.a) (n:=s.a.length) (c:=s.a.length) (i:=p) h3;have x5:=WF (id:=h.a+1) (n:=s.a.length) (c:=s.a.length) (i:=p) h3;have x6:=WF (id:=h.a+1) (n:=s.a.length) (c:=s.a.length) (i:=i) K;have sa:BD prog f 3 (qP h.a p) (iv (C4 x.a q (BM y.a)))=some (f.e h.a (.row (ints (l.A.set p (C4 x.a q (BM y.a)))) 3 false false)):=LZ d.a (by omega) (by omega);have na:∀j,j≠h.a->(f.e h.a (.row (ints (l.A.set p (C4 x.a q (BM y.a)))) 3 false false)).c j=f.c j:=fun j F=>AP (by omega) (bc F);have x7:(f.e h.a (.row (ints (l.A.set p (C4 x.a q (BM y.a)))) 3 false false)).c h.a=.row (ints (l.A.set p (C4 x.a q (BM y.a)))) 3 false false:=BE rfl (by omega);have Q:(f.e h.a (.row (ints (l.A.set p (C4 x.a q (BM y.a)))) 3 false false)).a=f.a:=rfl;have u1:(f.e h.a (.row (ints (l.A.set p (C4 x.a q (BM y.a)))) 3 false false)).b=f.b:=rfl;have x8:(f.e h.a (.row (ints (l.A.set p (C4 x.a q (BM y.a)))) 3 false false)).f f.b=f.e h.a (.row (ints (l.A.set p (C4 x.a q (BM y.a)))) 3 false false):=rfl;simp only[eE,seval,↓eP,u7,u8,w,c3];have x9:(ip<f.a)=True:=by grind
 generalize u2:f.e h.a (.row (ints (l.A.set p (C4 x.a q (BM y.a)))) 3 false false)=o at*;refine WK.a (fs:=zR) (by kernel_rfl) ?_;unfold zR;iterate 14
  refine DG h0 ?_;simp only[rG,seval,AB,AD,AC,A7,BL,target,BY,u4,u7,u8,ep,lp,x9,AM,u0,Y,x3,lf,h5,x4,DB,sa,x8]
 refine DF ?_;have y0:A8 o v s.a:=V.a (by omega) fun j F=>by rw[na j (by omega)];exact d.o j F
 obtain⟨ib,pb,eb,u3,lb,_⟩:=y0.b L;have h6:AK (h.a+2) o kv ((A9 (AE Z) x.b.toNat (i+1)).map (fun(k:Nat)=>(k:Int))):=AK.U C (by omega) fun j h1 h2=>na j (by omega);obtain⟨iq,pq,y1,z0,lq⟩:=AK.V h6 (i:=q) (x:=(p:Int)) (by rw[bT,I];rfl);have lc:AI i (o.c (h.a+1))=some (.bool c):=by rw[na _ (by omega),d.c];exact U8 J
 have sc:∀v:Bool,BD prog o 4 (qP (h.a+1) p) (.bool v)=some (o.e (h.a+1) (.row (EV (l.C.set p v)) 4 false false)):=fun v=>d_ (by rw[na _ (by omega)];exact d.c) (by omega) (by omega);have u9:∀v:Bool,v=(((l.C[i]?).getD false)||KP x.a q)->QL h (o.e (h.a+1) (.row (EV (l.C.set p v)) 4 false false)) (K4 i x (BM y.a) l q p)/\∀j,h.a+2<=j->(o.e (h.a+1) (.row (EV (l.C.set p v)) 4 false false)).c j=f.c j:=fun v V=>by
  have g:∀j,j≠h.a+1->(o.e (h.a+1) (.row (EV (l.C.set p v)) 4 false false)).c j=o.c j:=fun j h1=>by rw[AP (by omega) (bc h1)]
  refine⟨⟨by rw[g _ (by omega)];exact x7,?_,by show _<=o.a;omega,by show o.b=_;omega,fun j F=>by rw[g j (by omega),na j (by omega)];exact d.o j F⟩,fun j F=>by rw[g j (by omega),na j (by omega)]⟩;rw[BE rfl (by omega),V];rfl
 simp only[eE,seval,u0,Y,eb,BB,AM,lb];have S:=Sw x.a q;generalize e4:(x.a==4)=b4 at*;generalize e5:(x.a==5)=b5 at*;generalize e6:(x.a==6)=b6 at*;generalize y2:(x.a==13)=U at*;generalize ej:((q:Int)==0)=bj at*;have y3:c=true\/(c=false/\b4=true)\/(c=false/\b4=false/\b5=true)\/(c=false/\b4=false/\b5=false/\b6=true)\/(c=false/\b4=false/\b5=false/\b6=false/\U=true)\/(c=false/\b4=false/\b5=false/\b6=false/\U=false):=by cases c<;>cases b4<;>cases b5<;>cases b6<;>cases U<;>simp
 rcases y3 with rfl|⟨rfl,rfl⟩|⟨rfl,rfl,rfl⟩|⟨rfl,rfl,rfl,rfl⟩|⟨rfl,rfl,rfl,rfl,rfl⟩|⟨rfl,rfl,rfl,rfl,rfl⟩;all_goals
  refine WK.a (fs:=tZ) (by kernel_rfl) ?_;unfold tZ;iterate 31
   refine DG h0 ?_;simp only[rG,seval,AB,AD,AC,A7,target,BY,C8,cp,u5,u7,u8,y1,lq,AM,Y,x6,F4,lc,e4,e5,e6,y2,ej,x5,DB,sc]
  refine DF ?_;simp only[eE,seval,u0,u4,u5,Y,u7,u8,w2];have go:∀v:Bool,v=(((l.C[i]?).getD false)||KP x.a q)->(∀j,h.a+2<=j->j<X.a->(o.e (h.a+1) (.row (EV (l.C.set p v)) 4 false false)).c j=X.c j)/\QL h (o.e (h.a+1) (.row (EV (l.C.set p v)) 4 false false)) (K4 i x (BM y.a) l q p):=by grind
  first
   |exact⟨G,by omega,dj n6 (Nat.le_of_eq Q.symm),go true (by simp[J,S])⟩|exact⟨G,by omega,dj n6 (Nat.le_of_eq Q.symm),go bj (by simp[J,S])⟩|exact⟨G,by omega,dj n6 (Nat.le_of_eq Q.symm),go false (by simp[J,S])⟩
end
section
variable {n N:Nat} {h:AA}
theorem Qt{Z:List AF}{s:AS}{v:Value}(c:FH Z s)(d:A8 h v s.a)(e:s.a.length<2932031007403)(a:h.b<=h.a)(f:s.a.length+100<n):∃b,AN n 163 [v] h=some (.tuple #[qS h.a s.a.length s.a.length,qS (h.a+1) s.a.length s.a.length],b)/\QL h b (CN s.a (AE Z) s.a.length):=by
 obtain⟨n,rfl⟩:=BX f;exact PW BF (by simp[E5,flat,B7]) (Qg (n:=n) (N:=n) c d e a (by omega) (by omega))
theorem Qw{nm:ByteArray}{s:AS}{pv:Value}{lo:Nat}(hp:CG lo h pv nm s)(x0:∀x∈s.a,x.b<=9223372036854775807)(hs:F7 s)(hl:s.a.length<2932031007403)(y6:h.b<=h.a)(hn:DS s+100400<n)(hN:s.a.length+40<N):∃v' m,AW prog (AN n) N 98 [pv] h=some (v',m)/\iS m h.a v' (DW nm s)/\m.b=h.b/\h.a<=m.a/\∀i,i<h.a->m.c i=h.c i:=by
 obtain⟨o,Y,vv,vt,vu,vo,rfl,p1,p2,p3,p4,p5,p6⟩:=id hp;have y5:DS s=s.a.length+s.b.length+s.f.length+s.g.length+s.d.length+s.h.length:=rfl;refine G_ (R:=fun v' m=>iS m h.a v' (DW nm s)/\m.b=h.b/\h.a<=m.a/\∀i,i<h.a->m.c i=h.c i) func98 rfl (by simp[f98]) ?_;have hr:f98.results.toList=[.tmp 2,.cell 3 43]:=rfl;have ca:=C9 [.string nm,o,Y,vv,vt,vu,vo,iv s.c];have oa:=IV (nm:=nm) p1 p2 p3 p4 p5 p6;obtain⟨gA,gF,nG,fG,gO⟩:=OP h (.row [.string nm,o,Y,vv,vt,vu,vo,iv s.c] 27 false false) (.row [iv 0,iv 0] 43 false false);simp only[eE,seval,DJ,ca,oa,EQ,GO,GS,I3];generalize(h.d (.row [.string nm,o,Y,vv,vt,vu,vo,iv s.c] 27 false false)).d (.row [iv 0,iv 0] 43 false false)=Q at*;have lA:AX 8 0 (Q.c h.a)=some (.agg #[.string nm,o,Y,vv,vt,vu,vo,iv s.c]):=IY gA rfl;have x1:AI 1 (Q.c h.a)=some o:=by rw[gA];rfl
 have x2:CG lo Q (.agg #[.string nm,o,Y,vv,vt,vu,vo,iv s.c]) nm s:=hp.a (by omega) fun i _ hi=>gO i hi;have O:=lM (n:=n) x2 x0 hs (by omega) (by omega) (by omega);cases d1:(DQ nm s !=0)with
 |true=>
  obtain⟨g,q,t,P,S,p⟩:=U6 gF (by omega) (by omega) (DQ nm s) 0;have e:DW nm s=((DQ nm s,0),[]):=by unfold DW;rw[ag (by simpa using d1)]
  rw[e];simp only[eE,seval,↓eP,hr,C7,lA,O,d1,OC,q,FD,t];exact⟨⟨_,rfl,AL.e _ _ _⟩,by omega,by omega,fun i hi=>by rw[p i (by omega)];exact gO i hi⟩|false=>
 have e1:DQ nm s=0:=by simpa using d1
 have D:=jT e1;have eR:DW nm s=GX s.a s.b (AE (AU s.a)) s.a.length 0:=by unfold DW;rw[ad (by rw[e1];decide)]
 rw[eR];generalize hZ:AU s.a=Z at*;clear hZ eR;have y7:=D.b.1;have g0:0<s.a.length:=by have:=D.t.V;omega
 have d:=fun m=>Q6 p1.2 m;have x3:A8 Q o s.a:=p1.1.a (by omega) gO;obtain⟨B,x4,hM⟩:=Qt (n:=n) D x3 hl (by omega) (by omega);have nB:=hM.n;have fB:=hM.d;have oB:=hM.o;have xB:AI 1 (B.c h.a)=some o:=by rw[oB _ (by omega)];exact x1
 simp only[eE,seval,↓eP,C7,lA,O,d1,ab,CK,CJ,x1,x4];refine WK.b (fun i E=>E.T.a 1=qP h.a 0/\E.T.a 3=qP (h.a+1) 0/\E.T.a 5=qS Q.a s.a.length s.a.length/\E.T.a 6=qS (Q.a+1) s.a.length s.a.length/\E.T.a 8=iv (i:Int)/\i<=s.a.length/\GX s.a s.b (AE Z) (s.a.length-i) i=GX s.a s.b (AE Z) s.a.length 0/\B.a<=E.h.a/\E.h.b=h.b/\(∀j,j<B.a->E.h.c j=B.c j)/\∃w,E.T.a 7=w/\GM E.h B.a w ((s.a.take i).map (BM ·.a))) s.a.length (by omega) ?_ ?_;.exact⟨by simp only[eE,seval],by simp only[eE,seval],by simp only[eE,seval],by simp only[eE,seval],by simp only[eE,seval]<;>rfl,by omega,rfl,af _,by show B.b=_;omega,fun _ _=>rfl,Z0,by simp only[eE,seval],.inl ⟨rfl,rfl⟩⟩
 rintro i⟨T,H⟩hi⟨t1,t3,t5,t6,t8,y8,F,nH,fH,oH,w,t7,hL⟩;simp only at t1 t3 t5 t6 t8 nH fH oH t7 hL;have xH:AI 1 (H.c h.a)=some o:=by rw[oH _ (by omega)];exact xB
 have g1:H.c (h.a+1)=.row [iv 0,iv 0] 43 false false:=by rw[oH _ (by omega),oB _ (by omega)];exact gF
 have G:∀j,j<h.a->H.c j=h.c j:=by grind
 by_cases I:i<s.a.length;rotate_left
 .have c1:decide ((i:Int)<(s.a.length:Int))=false:=by simp;omega
  have x5:i=s.a.length:=by omega
  subst x5;rw[di (af _)]at hL;obtain⟨g,q,t,P,S,p⟩:=U6 g1 (by omega) (by omega) 0 0;have eG:GX s.a s.b (AE Z) s.a.length 0=((0,0),s.a.map (BM ·.a)):=by rw[<-F,jc];rfl
  rw[eG];simp only[eE,seval,↓eP,hr,t1,t3,t7,t8,ab,CK,CJ,xH,d,c1,QV,q,FD,t];exact⟨⟨_,rfl,(hL.c (h':=g) (by omega) fun j h1 h2=>p j (by omega)).a (by omega)⟩,by omega,by omega,fun j V=>by rw[p j (by omega)];exact G j V⟩
 have c1:decide ((i:Int)<(s.a.length:Int))=true:=by simp;omega
 obtain⟨x,J⟩:∃x,s.a[i]?=some x:=⟨_,aa I⟩;obtain⟨r,x6⟩:∃r,s.a.length-i=r+1:=⟨s.a.length-i-1,by omega⟩;rw[x6]at F;have x7:s.a.length-(i+1)=r:=by omega
 have x8:A8 H o s.a:=p1.1.a (by omega) G;obtain⟨ia,pa,ea,y9,la,_⟩:=x8.b J;have kx:=D.l i x J;have K:=Fe (n:=n) (h:=H) kx (by omega);have h3:=D2 (n:=n) (h:=H) kx (by omega);obtain⟨m1,m2,m3⟩:=W7 (R:=s.a) (AE Z) i;have eZ:=fun j=>YU (e:=AE Z) D.j D.b j;obtain⟨PG,g2,_⟩:=An D.t (i:=i) s.a.length (by omega);rw[<-eZ,<-eZ]at PG g2;obtain⟨a,hA⟩:∃a,(CN s.a (AE Z) i).A[i]?=some a:=⟨_,aa (by omega)⟩;obtain⟨c,hC⟩:∃c,(CN s.a (AE Z) i).C[i]?=some c:=⟨_,aa (by omega)⟩;obtain⟨u,hU⟩:∃u,(CN s.a (AE Z) i).U[i]?=some u:=⟨_,aa (by omega)⟩;have z0:=wO (R:=s.a) (e:=AE Z) rfl g0 i (by omega) u (aw hU);obtain⟨up,v⟩:∃up,s.a[u.toNat]?=some up:=⟨_,aa (by omega)⟩;have L:=FO (id:=Q.a) (n:=s.a.length) (c:=s.a.length) (i:=i) I;have h4:=WF (id:=Q.a+1) (n:=s.a.length) (c:=s.a.length) (i:=i) I;have l1:AI i (H.c Q.a)=some (iv a):=by rw[oH _ (by omega),hM.a];exact KM (PG.trans hA)
 have l2:AI i (H.c (Q.a+1))=some (.bool c):=by rw[oH _ (by omega),hM.c];exact U8 (g2.trans hC)
 have g3:AX 8 0 (H.c h.a)=some (.agg #[.string nm,o,Y,vv,vt,vu,vo,iv s.c]):=by rw[oH _ (by omega),oB _ (by omega)];exact lA
 have x9:CG lo H (.agg #[.string nm,o,Y,vv,vt,vu,vo,iv s.c]) nm s:=hp.a (by omega) fun j _ V=>G j V;have W:=GR (n:=n) (x:=x) (up:=up) x9 (a:=i) J (fun h5=>by
  obtain⟨g4,y0,X,y,_⟩:=D.g J h5;rw[hU]at y;cases y;rw[show((i-1:Nat):Int).toNat=i-1 by omega]at v;exact⟨v,g4⟩) (by omega) (fun h9=>D.k i x J (Bq h9)) (fun h5 y1=>by obtain⟨g4,y0,X,y,M⟩:=D.g J h5;rw[hU]at y;cases y;rw[show((i-1:Nat):Int).toNat=i-1 by omega,X]at v;cases v;exact M y1) (by omega) (by omega);have w1:=DU i;obtain⟨w',g,g5,g6,z1,z2,y2⟩:=S6 (x:=BM x.a) hL nH (by omega) (by rw[bw,fu];omega);have eT:(s.a.take i).map (BM ·.a)++[BM x.a]=(s.a.take (i+1)).map (BM ·.a):=by
  rw[cY,J,fw];rfl
 rw[eT]at g6;have h6:∀b:Int,∃g,BD prog H 43 (qP (h.a+1) 0) (EE b i)=some g/\AX 2 0 (g.c (h.a+1))=some (EE b i)/\g.b=h.b/\h.a<=g.a/\∀j,j<h.a->g.c j=h.c j:=fun b=>by
  obtain⟨g,q,t,P,S,p⟩:=U6 g1 (by omega) (by omega) b i;exact⟨g,q,t,by omega,by omega,fun j V=>by rw[p j (by omega)];exact G j V⟩
 have h7:∀b:Int,KI s.a s.b (CN s.a (AE Z) i) i x=b->b≠0->GX s.a s.b (AE Z) s.a.length 0=((b,(i:Int)),[]):=fun b hb h0=>by rw[<-F];exact sY J hb h0
 generalize k:(a !=0)=ba;generalize f:(a !=BM x.a)=bt;generalize g7:MD x.a=bv at*;generalize y3:ME s.b x up=bo at*;have l:(ba=true/\bt=true)\/ba=false\/(ba=true/\bt=false):=by cases ba<;>cases bt<;>simp
 have z:(c=true/\bv=true)\/c=false\/(c=true/\bv=false):=by cases c<;>cases bv<;>simp
 rcases l with⟨rfl,rfl⟩|l;.obtain⟨g,q,t,P,S,p⟩:=h6 41;rw[h7 41 (ZI hA (by simpa using k) (fun h9=>by rw[h9]at f;simp at f)) (by decide)];simp only[eE,seval,↓eP,hr,t1,t3,t5,t8,ab,CK,CJ,xH,d,c1,ea,BB,AM,la,K,L,l1,k,f,II,q,FD,t];exact⟨⟨_,rfl,AL.e _ _ _⟩,P,S,p⟩
 have g8:¬(a≠0/\BM x.a≠a):=by
  rintro⟨h1,h2⟩;rcases l with rfl|⟨rfl,rfl⟩;.exact h1 (by simpa using k)
  .exact h2 (by have:a=BM x.a:=by simpa using f
                exact this.symm)
 rcases z with⟨rfl,rfl⟩|z
 .obtain⟨g,q,t,P,S,p⟩:=h6 42;rw[h7 42 (dG hA g8 hC g7) (by decide)];rcases l with rfl|⟨rfl,rfl⟩;all_goals simp only[eE,seval,↓eP,hr,t1,t3,t5,t6,t8,ab,CK,CJ,xH,d,c1,ea,BB,AM,la,K,L,l1,k,f,h4,F4,l2,h3,II,q,FD,t];exact⟨⟨_,rfl,AL.e _ _ _⟩,P,S,p⟩
 have y4:(c&&MD x.a)=false:=by rw[g7];rcases z with rfl|⟨rfl,rfl⟩<;>rfl
 have h8:=pM (Q:=s.b) hA g8 hC y4 hU v;rw[y3]at h8;cases bo with
 |true=>
  obtain⟨g,q,t,P,S,p⟩:=h6 46;rw[h7 46 (h8.trans rfl) (by decide)];rcases l with rfl|⟨rfl,rfl⟩<;>rcases z with rfl|⟨rfl,rfl⟩;all_goals
   simp only[eE,seval,↓eP,hr,t1,t3,t5,t6,t8,ab,CK,CJ,xH,d,c1,ea,BB,AM,la,K,L,l1,k,f,h4,F4,l2,h3,C7,g3,W,II,q,FD,t];exact⟨⟨_,rfl,AL.e _ _ _⟩,P,S,p⟩|false=>
  have g9:GX s.a s.b (AE Z) (s.a.length-(i+1)) (i+1)=GX s.a s.b (AE Z) s.a.length 0:=by rw[<-F,x7];exact(uL J (h8.trans rfl)).symm
  rcases l with rfl|⟨rfl,rfl⟩<;>rcases z with rfl|⟨rfl,rfl⟩;all_goals simp only[eE,seval,↓eP,hr,t1,t3,t5,t6,t7,t8,ab,CK,CJ,xH,d,c1,ea,BB,AM,la,K,L,l1,k,f,h4,F4,l2,h3,C7,g3,W,KE,g5,w1];exact⟨I,by omega,g9,by omega,by omega,fun j V=>(y2 j V).trans (oH j V),g6⟩
theorem Zg{nm:ByteArray}{s:AS}{f:Value}{lo:Nat}(j:CG lo h f nm s)(b:∀x∈s.a,x.b<=9223372036854775807)(k:F7 s)(l:s.a.length<2932031007403)(c:h.b<=h.a)(m:DS s+100450<n):∃d a,AN n 98 [f] h=some (d,a)/\iS a h.a d (DW nm s)/\a.b=h.b/\h.a<=a.a/\∀i,i<h.a->a.c i=h.c i:=by obtain⟨n,rfl⟩:=BX m;have g:DS s=s.a.length+s.b.length+s.f.length+s.g.length+s.d.length+s.h.length:=rfl;refine GY BF (Qw (n:=n) (N:=n) j b k l c (by omega) (by omega)) fun d q o _ e=>?_;obtain⟨⟨p,rfl,e⟩,_⟩:=e;exact⟨⟨p,rfl,Hh e o h⟩,rfl,af _,fun _ _=>rfl⟩
end
theorem Nr:CL prog 125 [(0,iv 23)]=some (CW ⟨23,ByteArray.empty,0,0,0⟩):=by have h:=kF;rw[ez]at h;simp only at h;have a:flat (.agg #[.int .i64 0,.string ByteArray.empty,.int .i64 0,.int .i64 0,.int .i64 0])=true:=rfl;simp only[CL,FC,a,ai,ez,h];rfl
theorem Bw:flat (.agg #[.string ByteArray.empty,.bool false])=true:=rfl
theorem Qy:CL prog 158 []=some (.agg #[.string ByteArray.empty,.bool false]):=by have h:=jM;rw[fo]at h;simp only at h;simp only[CL,SU,Bw,ai,fo,h];rfl
theorem Bm{nm:ByteArray}{b:Bool}:CL prog 158 [(0,.string nm),(1,.bool b)]=some (.agg #[.string nm,.bool b]):=by have h:=jM;rw[fo]at h;simp only at h;simp only[CL,SU,Bw,ai,fo,h];rfl
theorem Kp{n off:Nat}{cs:List Value}{ty:TypeId}{a b:Bool}(c:off+n<=cs.length):AX n off (.row cs ty a b)=some (.agg ((cs.drop off).take n).toArray):=by simp only[AX,GN];grind
theorem QW{L:List AF}{k:Nat}{x:AF}{ty:TypeId}{a b:Bool}(c:L[k]?=some x):AX 5 (k*5) (.row (L.flatMap AQ) ty a b)=some (CW x):=by have d:=(ae.1 c).1;rw[Kp (by rw[MT];omega),U_ c];rfl
theorem Nn:∀{l:List (ByteArray×Bool)}{k:Nat}{x:ByteArray×Bool},l[k]?=some x->(EH l)[k*2]?=some (.string x.1)/\(EH l)[k*2+1]?=some (.bool x.2)
 |[],k,x,h=>by simp at h|y::l,0,x,h=>by cases h;exact⟨rfl,rfl⟩|y::l,k+1,x,h=>by
  have c:l[k]?=some x:=by assumption
  have e:EH (y::l)=.string y.1::.bool y.2::EH l:=rfl;obtain⟨a,b⟩:=Nn c;grind
theorem Pf:∀{l:List (ByteArray×Bool)}{k:Nat}{x:ByteArray×Bool},k<l.length->Go.Sx.lay (EH l) (k*2) [.string x.1,.bool x.2]=EH (l.set k x)
 |[],k,x,h=>by simp at h|y::l,0,x,h=>rfl|y::l,k+1,x,h=>by
  have a:=Pf (l:=l) (k:=k) (x:=x) (by grind);have e:EH (y::l)=.string y.1::.bool y.2::EH l:=rfl;have b:EH ((y::l).set (k+1) x)=.string y.1::.bool y.2::EH (l.set k x):=rfl;rw[e,b,<-a];have:(k+1)*2=k*2+1+1:=by omega
  rw[this];simp[Go.Sx.lay,List.take_succ_cons,show k*2+1+1+2=(k*2+2)+1+1 by omega]
theorem Q0{l:List (ByteArray×Bool)}{k:Nat}{x:ByteArray×Bool}{ty:TypeId}{a b:Bool}(c:l[k]?=some x):AX 2 (k*2) (.row (EH l) ty a b)=some (.agg #[.string x.1,.bool x.2]):=by have d:=(ae.1 c).1;rw[Kp (by rw[RF];omega),x_ c]
theorem Q1{h:AA}{id k:Nat}{l:List (ByteArray×Bool)}{a:ByteArray}{b:Bool}{ty:TypeId}{g:Bool}(c:h.c id=.row (EH l) ty g false)(d:k<l.length)(e:h.b<=id):BD prog h 158 (.pointer (some ⟨id,k*2,none⟩)) (.agg #[.string a,.bool b])=some (h.e id (.row (EH (l.set k (a,b))) ty g false)):=by have f:=RF l;have:=Pf (l:=l) (k:=k) (x:=(a,b)) d;simp only[BD,PS,HW,c];rw[ag (show some 2=some (Value.agg #[Value.string a,Value.bool b]).cells.size from rfl),ag (by rw[f,bh e,bh (show k*2+(Value.agg #[Value.string a,Value.bool b]).cells.toList.length<=l.length*2 by show k*2+2<=_;omega)];rfl)];rw[<-this];rfl
section
variable {n N:Nat} {h:AA}
theorem Rc{nm:ByteArray}{s:AS}{pv v:Value}{lo b:Nat}{h0:AA}(hL:PL h b v nm s)(hp:CG lo h0 pv nm s)(hb:h0.a<=b)(h5:∀i,i<h0.a->h.c i=h0.c i)(hf:h.b<=b)(hs:F7 s)(hl:DS s<2932031007403)(hn:DS s+60<n:=by omega)(hN:DS s+60<N:=by omega):∃l,AW prog (AN n) N 57 [v,pv] h=some (.bool true,l)/\(h.a<=l.a/\l.b=h.b/\∀i,i<h.a->(i<b\/b+5<i)->l.c i=h.c i):=by
 have g3:=hL;have W:=hL.b;have g4:=hL.d;have h6:CG lo h pv nm s:=hp.a (by omega) fun i _ d=>h5 i d;obtain⟨vr,vq,vv,vt,vu,vo,rfl,p1,p2,p3,p4,p5,p6⟩:=id hp;obtain⟨rfl,_,⟨L1,g1⟩,gq,gw,gt,⟨L5,g5⟩,⟨L6,g6⟩⟩:=hL;obtain⟨_,_,_,_,_,_,hq,q1,q2,q3,q4,q5,q6⟩:=id W;cases hq;refine EA (R:=fun l=>h.a<=l.a/\l.b=h.b/\∀i,i<h.a->(i<b\/b+5<i)->l.c i=h.c i) func57 rfl (by simp[f57]) ?_;have hr:f57.results.toList=[.tmp 4]:=rfl;have h7:=hs;obtain⟨r1,r2,r3,r4,r5,r6⟩:=hs;have g7:=hl;have g8:=hn;unfold DS at hl hn hN;have ca:=C9 [.string nm,qS b s.a.length (s.a.length+9),qS (b+1) s.b.length (s.b.length+3),qS (b+2) s.f.length (s.f.length+3),qS (b+3) s.g.length (s.g.length+3),qS (b+4) s.d.length (s.d.length+5),qS (b+5) s.h.length (s.h.length+5),iv s.c];have cb:=C9 [.string nm,vr,vq,vv,vt,vu,vo,iv s.c];have oa:=IV (nm:=nm) q1 q2 q3 q4 q5 q6;have ob:=IV (nm:=nm) p1 p2 p3 p4 p5 p6;obtain⟨gA,gB,nG,fG,E⟩:=OP h (.row [.string nm,qS b s.a.length (s.a.length+9),qS (b+1) s.b.length (s.b.length+3),qS (b+2) s.f.length (s.f.length+3),qS (b+3) s.g.length (s.g.length+3),qS (b+4) s.d.length (s.d.length+5),qS (b+5) s.h.length (s.h.length+5),iv s.c] 27 false false) (.row [.string nm,vr,vq,vv,vt,vu,vo,iv s.c] 27 false false);simp only[eE,seval,DJ,ca,oa,cb,ob,EQ];generalize(h.d (.row [.string nm,qS b s.a.length (s.a.length+9),qS (b+1) s.b.length (s.b.length+3),qS (b+2) s.f.length (s.f.length+3),qS (b+3) s.g.length (s.g.length+3),qS (b+4) s.d.length (s.d.length+5),qS (b+5) s.h.length (s.h.length+5),iv s.c] 27 false false)).d (.row [.string nm,vr,vq,vv,vt,vu,vo,iv s.c] 27 false false)=G at*;have lA:AX 8 0 (G.c h.a)=some (.agg #[.string nm,qS b s.a.length (s.a.length+9),qS (b+1) s.b.length (s.b.length+3),qS (b+2) s.f.length (s.f.length+3),qS (b+3) s.g.length (s.g.length+3),qS (b+4) s.d.length (s.d.length+5),qS (b+5) s.h.length (s.h.length+5),iv s.c]):=IY gA rfl;have lB:AX 8 0 (G.c (h.a+1))=some (.agg #[.string nm,vr,vq,vv,vt,vu,vo,iv s.c]):=IY gB rfl;have J:=Fg (n:=n) (W.a (h':=G) (by omega) fun i _ d=>E i d) (h6.a (h':=G) (by omega) fun i _ d=>E i d) h7 (by unfold DS;omega);obtain⟨x0,x1,x2,x3,x4,x5,x6,x7⟩:=R7 gA;obtain⟨y0,y1,y2,y3,y4,y5,y6,y7⟩:=R7 gB;have z0:∀i,i<h0.a->G.c i=h0.c i:=by grind
 obtain⟨H1,k1,n1,f1,F⟩:=fR (n:=n) (h:=G) (o:=b+4) (L:=L5) ⟨by rw[E _ (by omega)];exact g5.g,g5.b,g5.c,g5.a⟩ (by omega) (by omega) (AK.U p5 (by omega) fun i _ d=>z0 i d) (by omega) (by omega);obtain⟨H2,k2,n2,f2,K⟩:=fR (n:=n) (h:=H1) (o:=b+5) (L:=L6) ⟨by rw[F _ (by omega),E _ (by omega)];exact g6.g,g6.b,g6.c,g6.a⟩ (by omega) (by omega) (AK.U p6 (by omega) fun i _ d=>by rw[F i (by omega)];exact z0 i d) (by omega) (by omega);obtain⟨H3,k3,n3,f3,X⟩:=Sq (n:=n) (h:=H2) (o:=b+2) (by rw[K _ (by omega),F _ (by omega),E _ (by omega)];exact gw) (by omega) (by omega) (p3.b (by omega) fun i _ d=>by rw[K i (by omega),F i (by omega)];exact z0 i d) (by omega) (by omega);obtain⟨q,k4,n4,f4,o4⟩:=Sq (n:=n) (h:=H3) (o:=b+3) (by rw[X _ (by omega),K _ (by omega),F _ (by omega),E _ (by omega)];exact gt) (by omega) (by omega) (p4.b (by omega) fun i _ d=>by rw[X i (by omega),K i (by omega),F i (by omega)];exact z0 i d) (by omega) (by omega);have c6:H1.c h.a=G.c h.a/\H1.c (h.a+1)=G.c (h.a+1):=by grind
 have c7:H2.c h.a=G.c h.a/\H2.c (h.a+1)=G.c (h.a+1):=by grind
 have c8:H3.c h.a=G.c h.a/\H3.c (h.a+1)=G.c (h.a+1):=by grind
 have Y:q.c h.a=G.c h.a/\q.c (h.a+1)=G.c (h.a+1):=by grind
 have r:=fun l=>Q6 p1.2 l;have u:=fun l=>P8 p2 l;have w9:IntKind.i64.wrap ((s.a.length:Int)+9)=((s.a.length+9:Nat):Int):=BR;have w3:IntKind.i64.wrap ((s.b.length:Int)+3)=((s.b.length+3:Nat):Int):=BR;have w:∀l:AA,CU prog l 22 (qS b (s.a.length+9) (s.a.length+9))=some (iv ((s.a.length+9:Nat):Int)):=fun l=>WU;have y:∀l:AA,CU prog l 23 (qS (b+1) (s.b.length+3) (s.b.length+3))=some (iv ((s.b.length+3:Nat):Int)):=fun l=>by simp[CU,ci]
 have h8:=fun(H:AA)=>PC (P:=prog) (h:=H) (t:=22) (e:=125) (id:=b) (n:=s.a.length) (m:=s.a.length+9) (c:=s.a.length+9) bq GC (by omega) (by unfold AT;omega);have h9:=fun(H:AA)=>PC (P:=prog) (h:=H) (t:=23) (e:=158) (id:=b+1) (n:=s.b.length) (m:=s.b.length+3) (c:=s.b.length+3) ci PS (by omega) (by unfold AT;omega);simp only[eE,seval,↓eP,ab,C7,lA,lB,J,GF,I_,KS,KG,CK,BH,I7,CJ,x5,y5,k1,c6.1,c6.2,x6,y6,k2,c7.1,c7.2,x3,y3,k3,c8.1,c8.2,x4,y4,k4,Y.1,Y.2,x1,y1,r,w9,h8];have z4:∀i,(i<b\/b+5<i)->q.c i=G.c i:=fun i d=>by rw[o4 i (by omega),X i (by omega),K i (by omega),F i (by omega)]
 have gR:q.c b=.row (L1.flatMap AQ) 125 false false:=by rw[o4 _ (by omega),X _ (by omega),K _ (by omega),F _ (by omega),E _ (by omega)];exact g1.g
 have gQ:q.c (b+1)=.row (EH (s.b++List.replicate 3 (ByteArray.empty,false))) 158 false false:=by rw[o4 _ (by omega),X _ (by omega),K _ (by omega),F _ (by omega),E _ (by omega),gq];simp[EH,CF]
 refine WK.b (fun k g=>g.T.a 2=qP h.a 0/\g.T.a 3=qP (h.a+1) 0/\g.T.a 5=.bool true/\g.T.a 6=qS b (s.a.length+9) (s.a.length+9)/\g.T.a 7=iv (k:Int)/\k<=s.a.length+9/\g.h.a=q.a/\g.h.b=q.b/\(∀i,i≠b->g.h.c i=q.c i)/\∃L:List AF,g.h.c b=.row (L.flatMap AQ) 125 false false/\L.length=s.a.length+9/\∀j,k<=j->L[j]?=L1[j]?) (s.a.length+9) (by omega) ?_ ?_;.exact⟨by simp only[eE,seval],by simp only[eE,seval],by simp only[eE,seval],by simp only[eE,seval],by simp only[eE,seval]<;>rfl,by omega,rfl,rfl,fun _ _=>rfl,L1,gR,g1.c,fun _ _=>rfl⟩
 rintro k⟨T1,Z⟩hk⟨A,B,C,t6,t7,h3,n5,f5,M,L,gL,lL,eL⟩;simp only at A B C t6 t7 n5 f5 M gL;have cB:Z.c (h.a+1)=G.c (h.a+1):=by rw[M _ (by omega),Y.2]
 have cA:Z.c h.a=G.c h.a:=by rw[M _ (by omega),Y.1]
 by_cases f:k<s.a.length+9
 .have D:decide ((k:Int)<((s.a.length+9:Nat):Int))=true:=by simp;omega
  have z:=iX (id:=b) (n:=s.a.length+9) (c:=s.a.length+9) (i:=k) f;have p:=TZ (h:=Z) (i:=k) (x:=⟨23,ByteArray.empty,0,0,0⟩) rfl gL (by omega) (by omega);have w1:=DU k;by_cases h2:k<s.a.length
  .have O:decide ((k:Int)<(s.a.length:Int))=true:=by simp;omega
   simp only[eE,seval,↓eP,ab,A,B,C,t6,t7,w,D,CK,CJ,cB,y1,r,O,Nr,z,p,w1];exact⟨f,by omega,n5,f5,fun i d=>by rw[AP (by omega) (bc d)];exact M i d,_,BE rfl (by omega),by rw[bO];exact lL,fun j hj=>by rw[bf (by omega)];exact eL j (by omega)⟩
  .have O:decide ((k:Int)<(s.a.length:Int))=false:=by simp;omega
   have V:L[k]?=some (YC k):=by
    rw[eL k (af _)];have:=g1.a (k-s.a.length) (by omega);rwa[show s.a.length+(k-s.a.length)=k by omega]at this
   have S:AX 5 (k*5) (Z.c b)=some (CW (YC k)):=by rw[gL];exact QW V
   have T:CT prog .eql 125 (.tmp 64) (.tmp 66) (CW (YC k)) (CW ⟨-9,ByteArray.empty,0,k,0⟩)=some (.bool true):=eq46.trans (by rw[show(⟨-9,ByteArray.empty,0,(k:Int),0⟩:AF)=YC k from rfl,Va]);simp only[eE,seval,↓eP,ab,A,B,C,t6,t7,w,D,CK,CJ,cB,y1,r,O,Ox,Nr,z,FX,S,T,p,w1];exact⟨f,by omega,n5,f5,fun i d=>by rw[AP (by omega) (bc d)];exact M i d,_,BE rfl (by omega),by rw[bO];exact lL,fun j hj=>by rw[bf (by omega)];exact eL j (by omega)⟩
 have D:decide ((k:Int)<((s.a.length+9:Nat):Int))=false:=by simp;omega
 simp only[eE,seval,↓eP,ab,A,B,t6,t7,w,D,DY,DZ,cA,cB,x2,y2,u,w3,h9];have g0:Z.c (b+1)=.row (EH (s.b++List.replicate 3 (ByteArray.empty,false))) 158 false false:=by rw[M _ (by omega)];exact gQ
 refine WK.b (fun k g=>g.T.a 2=qP h.a 0/\g.T.a 3=qP (h.a+1) 0/\g.T.a 5=.bool true/\g.T.a 8=qS (b+1) (s.b.length+3) (s.b.length+3)/\g.T.a 9=iv (k:Int)/\k<=s.b.length+3/\g.h.a=q.a/\g.h.b=q.b/\(∀i,i≠b->i≠b+1->g.h.c i=q.c i)/\∃L:List (ByteArray×Bool),g.h.c (b+1)=.row (EH L) 158 false false/\L.length=s.b.length+3/\∀j,k<=j->L[j]?=(s.b++List.replicate 3 (ByteArray.empty,false))[j]?) (s.b.length+3) (by omega) ?_ ?_;.exact⟨by simp only[eE,seval,A],by simp only[eE,seval,B],by simp only[eE,seval,C],by simp only[eE,seval],by simp only[eE,seval]<;>rfl,by omega,n5,f5,fun i d _=>M i d,_,g0,by simp,fun _ _=>rfl⟩
 clear hk h3 f D A B C t6 t7;rintro k⟨T2,H6⟩hk⟨A,B,C,t8,t9,h3,n6,f6,o6,Q,I,lQ,eQ⟩;simp only at A B C t8 t9 n6 f6 o6 I;have h4:H6.c (h.a+1)=G.c (h.a+1):=by rw[o6 _ (by omega) (by omega),Y.2]
 by_cases f:k<s.b.length+3
 .have D:decide ((k:Int)<((s.b.length+3:Nat):Int))=true:=by simp;omega
  have z:=WZ (id:=b+1) (n:=s.b.length+3) (c:=s.b.length+3) (i:=k) ci PS f;obtain⟨x,V⟩:∃x,Q[k]?=some x:=⟨_,aa (by omega)⟩;obtain⟨xa,xb⟩:=Nn V;have l1:AI (k*2+1) (H6.c (b+1))=some (.bool x.2):=by rw[I];simp[AI,xb]
  have p:=Q1 (k:=k) (a:=kT) (b:=!x.2) I (by omega) (by omega);have w1:=DU k;by_cases h2:k<s.b.length
  .have O:decide ((k:Int)<(s.b.length:Int))=true:=by simp;omega
   simp only[eE,seval,↓eP,ab,A,B,C,t8,t9,y,D,DY,DZ,h4,y2,u,O,KR,F4,l1,Bm,z,p,w1];exact⟨f,by omega,n6,f6,fun i d U=>by rw[AP (by omega) (bc U)];exact o6 i d U,_,BE rfl (by omega),by rw[bO];exact lQ,fun j hj=>by rw[bf (by omega)];exact eQ j (by omega)⟩
  .have O:decide ((k:Int)<(s.b.length:Int))=false:=by simp;omega
   have g2:x=(ByteArray.empty,false):=by rw[eQ k (af _),cz (by omega),gG,ag (by omega)]at V;exact(fm V).symm
   subst g2;simp only[Bool.not_false]at p;have S:AX 2 (k*2) (H6.c (b+1))=some (.agg #[.string ByteArray.empty,.bool false]):=by rw[I];exact Q0 V
   have T:CT prog .eql 158 (.tmp 98) (.tmp 99) (.agg #[.string ByteArray.empty,.bool false]) (.agg #[.string ByteArray.empty,.bool false])=some (.bool true):=eq57.trans (by rw[OZ];rfl);simp only[eE,seval,↓eP,ab,A,B,C,t8,t9,y,D,DY,DZ,h4,y2,u,O,KR,F4,jV,l1,S,T,Qy,Bm,z,p,w1];exact⟨f,by omega,n6,f6,fun i d U=>by rw[AP (by omega) (bc U)];exact o6 i d U,_,BE rfl (by omega),by rw[bO];exact lQ,fun j hj=>by rw[bf (by omega)];exact eQ j (by omega)⟩
 have D:decide ((k:Int)<((s.b.length+3:Nat):Int))=false:=by simp;omega
 simp only[eE,seval,↓eP,hr,C,t8,t9,y,D];exact⟨by omega,by omega,fun i d U=>by rw[o6 i (by omega) (by omega),z4 i U,E i d]⟩
theorem Re{nm:ByteArray}{s:AS}{d v:Value}{lo b:Nat}{h0:AA}(e:PL h b v nm s)(f:CG lo h0 d nm s)(g:h0.a<=b)(c:∀i,i<h0.a->h.c i=h0.c i)(j:h.b<=b)(k:F7 s)(l:DS s<2932031007403)(m:DS s+90<n):∃a,AN n 57 [v,d] h=some (.bool true,a)/\(h.a<=a.a/\a.b=h.b/\∀i,i<h.a->(i<b\/b+5<i)->a.c i=h.c i):=by obtain⟨n,rfl⟩:=BX m;exact RL BF (Rc e f g c j k l)
end
noncomputable def EU(nm:ByteArray)(s:AS)(size:Int)(C:List Int):Int:=if DQ nm s≠0 then DQ nm s else if OY size C s.b=true then 0 else 45
theorem PL.a{h h':AA}{b:Nat}{v:Value}{nm:ByteArray}{s:AS}(f:PL h b v nm s)(n:h.a<=h'.a)(e:∀i,b<=i->i<=b+5->h'.c i=h.c i):PL h' b v nm s:=by obtain⟨g,j,⟨k,a⟩,o,p,q,⟨l,c⟩,⟨m,d⟩⟩:=f;exact⟨g,by omega,⟨k,by rw[e _ (by omega) (by omega)];exact a.g,a.c,a.d,a.a⟩,by grind,by grind,by grind,⟨l,by rw[e _ (by omega) (by omega)];exact c.g,c.b,c.c,c.a⟩,⟨m,by rw[e _ (by omega) (by omega)];exact d.g,d.b,d.c,d.a⟩⟩
section
variable {n N:Nat} {h:AA}
theorem Tq{nm:ByteArray}{s:AS}{y J:Value}{lo lc:Nat}{size:Int}{C:List Int}(K:CG lo h y nm s)(L:F6 lc h J size C)(d:∀z b f g j k l m,y=.agg #[.string z,b,f,g,j,k,l,m]->M8 b s.a.length)(S:s.a.length<2932031007403)(hg:h.c 0=EM)(T:0<h.a)(M:F7 s)(U:C.length<17592186044416)(V:h.b<=h.a)(hn:2*DS s+400+C.length<n):∃x,AW prog (AN n) N 70 [y,J] h=some (EE (EU nm s size C) 0,x)/\∀i,i<h.a->x.c i=h.c i:=by
 obtain⟨b,f,g,j,k,l,rfl,W,X,Y,Z,p5,p6⟩:=id K;obtain⟨p,rfl,pc⟩:=id L;refine EA (R:=fun x=>∀i,i<h.a->x.c i=h.c i) func70 rfl (by simp) ?_;have A:f70.results.toList=[.cell 4 43]:=rfl;have ca:=C9 [.string nm,b,f,g,j,k,l,iv s.c];have oa:=IV (nm:=nm) W X Y Z p5 p6;have cb:=C9 [iv size,p];have ob:[iv size,p].all one=true:=by simp only[az,bd,AL.a pc,JQ,ao]
 obtain⟨gA,gB,gF,nG,fG,B⟩:=kY h (.row [.string nm,b,f,g,j,k,l,iv s.c] 27 false false) (.row [iv size,p] 32 false false) (.row [iv 0,iv 0] 43 false false);simp only[eE,seval,DJ,ca,oa,cb,ob,EQ,HQ,GO,GS,I3];generalize((h.d (.row [.string nm,b,f,g,j,k,l,iv s.c] 27 false false)).d (.row [iv size,p] 32 false false)).d (.row [iv 0,iv 0] 43 false false)=Q at*;have D:AX 8 0 (Q.c h.a)=some (.agg #[.string nm,b,f,g,j,k,l,iv s.c]):=IY gA rfl;have O:AX 2 0 (Q.c (h.a+1))=some (.agg #[iv size,p]):=by rw[gB];rfl
 have r:CG lo Q (.agg #[.string nm,b,f,g,j,k,l,iv s.c]) nm s:=K.a (by omega) fun i _ t=>B i t;have E:F6 lc Q (.agg #[iv size,p]) size C:=L.a (by omega) fun i _ t=>B i t;have a:=oR (n:=n) r d M S (by omega) (by grind) (by omega) (by omega);have c:=F3 (n:=n) r E U M.2.1 (by omega);have o:∀e:Int,∃q,BD prog Q 43 (qP (h.a+2) 0) (EE e 0)=some q/\AX 2 0 (q.c (h.a+2))=some (EE e 0)/\∀i,i<h.a->q.c i=h.c i:=fun e=>by
  refine⟨_,GQ MR (vs:=[iv e,iv 0]) gF rfl rfl rfl (by omega),?_,fun i t=>?_⟩;.rw[BE rfl (by omega)];rfl
  .rw[AP (by omega) (by omega)];exact B i t
 have F:h.a+1+1=h.a+2:=rfl;cases G:(DQ nm s !=0)with
 |true=>
  have P:EU nm s size C=DQ nm s:=by unfold EU;rw[ag (by grind)]
  obtain⟨q,u,v,w⟩:=o (DQ nm s);rw[P];simp only[eE,seval,↓eP,A,F,C7,D,a,G,OC,u,FD,v];exact w|false=>
 have P:DQ nm s=0:=by grind
 cases H:OY size C s.b with
 |false=>
  have I:EU nm s size C=45:=by unfold EU;rw[ad (by omega),ad (by grind)]
  obtain⟨q,u,v,w⟩:=o 45;rw[I];simp only[eE,seval,↓eP,A,F,C7,G7,D,O,a,G,c,H,OC,u,FD,v];exact w|true=>
  have I:EU nm s size C=0:=by unfold EU;rw[ad (by omega),ag H]
  obtain⟨q,u,v,w⟩:=o 0;rw[I];simp only[eE,seval,↓eP,A,F,C7,G7,D,O,a,G,c,H,QV,u,FD,v];exact w
theorem Rn{nm:ByteArray}{s:AS}{b f:Value}{lo lc:Nat}{size:Int}{C:List Int}(i:CG lo h b nm s)(j:F6 lc h f size C)(a:∀c g k l o p q m,b=.agg #[.string c,g,k,l,o,p,q,m]->M8 g s.a.length)(r:s.a.length<2932031007403)(t:h.c 0=EM)(d:0<h.a)(u:F7 s)(v:C.length<17592186044416)(e:h.b<=h.a)(w:2*DS s+400+C.length+10<n):AN n 70 [b,f] h=some (EE (EU nm s size C) 0,h):=by obtain⟨n,rfl⟩:=BX w;exact HF BF rfl (Tq (n:=n) (N:=n) i j a r t d u v e (by omega))
theorem Rz{nm:ByteArray}{s:AS}{H I:Value}{lo lc:Nat}{size:Int}{C:List Int}(J:CG lo h H nm s)(K:F6 lc h I size C)(w:∀x∈s.a,x.b<=9223372036854775807)(P:s.a.length<2932031007403)(L:F7 s)(S:C.length<17592186044416)(T:h.b<=h.a)(hn:DS s+100400+C.length<n):∃v,AW prog (AN n) N 99 [H,I] h=some (EE (EU nm s size C) 0,v)/\∀i,i<h.a->v.c i=h.c i:=by
 obtain⟨g,j,k,l,m,o,rfl,U,V,W,X,Y,Z⟩:=id J;obtain⟨d,rfl,pc⟩:=id K;refine EA (R:=fun v=>∀i,i<h.a->v.c i=h.c i) func99 rfl (by simp) ?_;have y:f99.results.toList=[.cell 4 43]:=rfl;have ca:=C9 [.string nm,g,j,k,l,m,o,iv s.c];have oa:=IV (nm:=nm) U V W X Y Z;have cb:=C9 [iv size,d];have ob:[iv size,d].all one=true:=by simp only[az,bd,AL.a pc,JQ,ao]
 obtain⟨gA,gB,gF,nG,fG,z⟩:=kY h (.row [.string nm,g,j,k,l,m,o,iv s.c] 27 false false) (.row [iv size,d] 32 false false) (.row [iv 0,iv 0] 43 false false);simp only[eE,seval,DJ,ca,oa,cb,ob,EQ,HQ,GO,GS,I3];generalize((h.d (.row [.string nm,g,j,k,l,m,o,iv s.c] 27 false false)).d (.row [iv size,d] 32 false false)).d (.row [iv 0,iv 0] 43 false false)=Q at*;have A:AX 8 0 (Q.c h.a)=some (.agg #[.string nm,g,j,k,l,m,o,iv s.c]):=IY gA rfl;have M:AX 2 0 (Q.c (h.a+1))=some (.agg #[iv size,d]):=by rw[gB];rfl
 have p:CG lo Q (.agg #[.string nm,g,j,k,l,m,o,iv s.c]) nm s:=J.a (by omega) fun i _ q=>z i q;have B:F6 lc Q (.agg #[iv size,d]) size C:=K.a (by omega) fun i _ q=>z i q;have a:=lM (n:=n) p w L P (by omega) (by omega);have b:=Gf (n:=n) p B S L.2.1 (by omega);have c:∀e:Int,∃f,BD prog Q 43 (qP (h.a+2) 0) (EE e 0)=some f/\AX 2 0 (f.c (h.a+2))=some (EE e 0)/\∀i,i<h.a->f.c i=h.c i:=fun e=>by
  refine⟨_,GQ MR (vs:=[iv e,iv 0]) gF rfl rfl rfl (by omega),?_,fun i q=>?_⟩
  .rw[BE rfl (by omega)];rfl
  .rw[AP (by omega) (by omega)];exact z i q
 have D:h.a+1+1=h.a+2:=rfl;cases E:(DQ nm s !=0)with
 |true=>
  have O:EU nm s size C=DQ nm s:=by unfold EU;rw[ag (by grind)]
  obtain⟨f,r,t,u⟩:=c (DQ nm s);rw[O];simp only[eE,seval,↓eP,y,D,C7,A,a,E,OC,r,FD,t];exact u|false=>
 have O:DQ nm s=0:=by grind
 cases F:OY size C s.b with
 |false=>
  have G:EU nm s size C=45:=by unfold EU;rw[ad (by omega),ad (by grind)]
  obtain⟨f,r,t,u⟩:=c 45;rw[G];simp only[eE,seval,↓eP,y,D,C7,G7,A,M,a,E,b,F,OC,r,FD,t];exact u|true=>
  have G:EU nm s size C=0:=by unfold EU;rw[ad (by omega),ag F]
  obtain⟨f,r,t,u⟩:=c 0;rw[G];simp only[eE,seval,↓eP,y,D,C7,G7,A,M,a,E,b,F,QV,r,FD,t];exact u
theorem RH{nm:ByteArray}{s:AS}{c d:Value}{lo lc:Nat}{size:Int}{C:List Int}(e:CG lo h c nm s)(f:F6 lc h d size C)(a:∀x∈s.a,x.b<=9223372036854775807)(g:s.a.length<2932031007403)(i:F7 s)(j:C.length<17592186044416)(b:h.b<=h.a)(k:DS s+100400+C.length+10<n):AN n 99 [c,d] h=some (EE (EU nm s size C) 0,h):=by obtain⟨n,rfl⟩:=BX k;exact HF BF rfl (Rz (n:=n) (N:=n) e f a g i j b (by omega))
end
theorem wU{nm:ByteArray}{s:AS}{size:Int}{C:List Int}(h:EU nm s size C=0):UL s size C:=by
 unfold EU at h;split at h;.omega
 .split at h;.rename_i a;exact BT a
  .cases h
section
variable {n N:Nat} {h:AA}
theorem Yd{nm:ByteArray}{s:AS}{Z:List AF}{b c:Value}{lo lc:Nat}{size:Int}{C:List Int}(e:FH Z s)(f:UL s size C)(g:CG lo h b nm s)(i:F6 lc h c size C)(j:s.a.length<2932031007403)(a:h.b<=h.a)(k:s.a.length+100<n):∃d,AN n 71 [b,c] h=some (.tuple #[qS (h.a+2) s.a.length s.a.length,qS (h.a+3) s.a.length s.a.length],d)/\∃P l V I,MV h d P l V I/\UK s.a (DX s.a (AE Z) size C) 0 V I:=by obtain⟨n,rfl⟩:=BX k;exact PW BF (by simp[E5,flat,B7]) (OI (n:=n) (N:=n) e f g i j a (by omega) (by omega))
end
end Go.Proofs.YtjailoenloejbaaGreatDoor




