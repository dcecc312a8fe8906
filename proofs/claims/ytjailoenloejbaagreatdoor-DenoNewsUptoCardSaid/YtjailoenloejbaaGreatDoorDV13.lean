/- Part 13. -/
import Derived.Test.YtjailoenloejbaaGreatDoorDV12
set_option linter.all false
namespace Go.Proofs.YtjailoenloejbaaGreatDoor
open Go Go.Sx Go.Proofs.Tryz
set_option maxRecDepth 100000
set_option maxHeartbeats 0
theorem m8{l:List AF}{m:Nat}{x:AF}(a:l[0]?=some x):JD BG l m=if(CX 8 x.a&&EW BG x)=true then GG BG l m x.b.toNat false 1 else(0,false):=by rw[JD,a]
theorem yV{l:List AF}{m:Nat}(a:l[0]?=none):JD BG l m=(0,false):=by rw[JD,a]
section
variable {call:AY} {n:Nat}
theorem Yw(j:C_ call){l:List AF}{v:Value}{m at_ a b:Nat}{x:AF}{T:Tr}{h:AA}{k:DH}{ga0 gb0:Bool}(K:EW BG x=true->call 187 [v,iv at_] h=some (.tuple #[iv ((GG BG l m x.b.toNat false (at_+1)).1:Int),.bool (GG BG l m x.b.toNat false (at_+1)).2],h))(hn:l.length+3<n)(V:l.length<30000000000000)(h0:at_<l.length)(L:∀z,z.c 0=EM->call 186 [.string x.c] z=some (.bool (BG x.c),z))(hv:A8 h v l)(hg:h.c 0=EM)(h1:0<h.a)(h2:h.b<=h.a)(M:1<=x.a/\x.a<=54)(N:x.a=1)(t0:T.a 0=v)(t1:T.a 1=iv at_)(F:T.a 8=qP a 0)(G:T.a 9=qP b 0)(f:h.c a=.row [.int .i64 x.a,.string x.c,.int .i64 x.d,.int .i64 x.n,.int .i64 x.b] 125 ga0 false)(o:h.c b=.row [.bool (KD x.a),.bool (MP x.a),.bool (x.a==27),.int .i64 (F8 x.a),.int .i64 (DV x.a)] 243 gb0 false)(O:b<h.a)(hk:∀d(p:Nat)W,(p,W)=(if EW BG x=true then GG BG l m x.b.toNat false (at_+1)else(at_,false))->d.a 6=iv p->d.a 7=.bool W->k.a prog call n .ret ⟨d,h⟩):WK prog call n Y3 ⟨T,h⟩ k:=by
 show WK _ _ _ (.seq (.region _ _ true) _) _ _;rw[NB];refine WK.a (ops:=GA) Nt ?_;refine BV.a ?_;refine Bp j F G f o (by simpa using O) (fun z e=>L z (by rw[e];exact hg)) fun T1 H A=>?_;refine Qf j (by rw[A 8 (by decide)];exact F) (by rw[A 9 (by decide)];exact G) f o (by simpa using O) H fun T2 X P=>?_;refine Px j (by rw[P 8 (by decide),A 8 (by decide)];exact F) (by rw[P 9 (by decide),A 9 (by decide)];exact G) f o (by simpa using O) X fun T3 s k3=>?_;refine BV.b (i:=49) (by kernel_rfl) ?_;rw[aI];have B:∀t:Nat,t<10->T3.a t=T.a t:=by grind
 have Y:=(B 0 (by decide)).trans t0;have C:=(B 1 (by decide)).trans t1;have u:=(B 8 (by decide)).trans F;have I:=(B 9 (by decide)).trans G;clear A P k3 B H X;generalize Q:(((BG x.c==KD x.a)&&(KD x.a||x.c==⟨#[]⟩))&&(x.d==0||MP x.a&&x.d==1)&&(x.n==0||(x.a==27)&&decide (x.n>0)&&decide (x.n<=1073741824)))=Z at s;have c:EW BG x=(Z&&decide (x.b>=F8 x.a)&&(decide (DV x.a<0)||decide (x.b<=DV x.a))):=by rw[<-Q];rfl
 have q:EW BG x=false->∀d,d.a 6=iv at_->d.a 7=.bool false->k.a prog call n .ret ⟨d,h⟩:=by grind
 have H:(x.a==1)=true:=by simpa using N
 have R:EW BG x=true->0<=x.b/\(decide (DV x.a<0)||decide (x.b<=DV x.a))=true:=fun w=>by
  rw[c]at w;simp only[ah,am]at w;have:=XX x.a;exact⟨by omega,w.2⟩
 have g:EW BG x=true->∀d,d.a 0=v->d.a 1=iv at_->d.a 8=qP a 0->WK prog call n (rt (rt Y3)) ⟨d,h⟩ k:=by
  intro w d w0 w1 w8;have D:=K w;show WK _ _ _ (.seq _ _) _ _;simp only[eE,seval,↓eP,rP,w0,w1,w8,f,H,D];refine hk _ _ _ (by rw[ag w]) ?_ ?_;.simp only[eE,seval]
  .simp only[eE,seval]
 show WK _ _ _ (.seq _ (rt (rt Y3))) _ _;cases Z with
 |false=>
  simp only[eE,seval,↓eP,s,C];refine q (by rw[c];rfl) _ ?_ ?_;.simp only[eE,seval]
  .simp only[eE,seval]|true=>cases y:decide (x.b<F8 x.a)with
  |true=>
   simp only[eE,seval,↓eP,rP,s,C,u,I,f,o,y];refine q (by rw[c,bp (by simp only[am]at y;omega)];rfl) _ ?_ ?_;.simp only[eE,seval]
   .simp only[eE,seval]|false=>
   have S:decide (x.b>=F8 x.a)=true:=by simp only[bk]at y;simp only[am];omega
   cases E:decide (DV x.a>=0)with
   |false=>
    have U:decide (DV x.a<0)=true:=by simp only[bk]at E;simp only[am];omega
    simp only[eE,seval,↓eP,rP,s,u,I,f,o,y,E];refine g (by rw[c,S,U];rfl) _ ?_ ?_ ?_;.simp only[eE,seval,Y]
    .simp only[eE,seval,C]
    .simp only[eE,seval,u]|true=>cases J:decide (x.b>DV x.a)with
    |true=>
     have U:decide (DV x.a<0)=false:=by simp only[am]at E;simp only[bk];omega
     have r:decide (x.b<=DV x.a)=false:=by simp only[am]at J;simp only[bk];omega
     simp only[eE,seval,↓eP,rP,s,C,u,I,f,o,y,E,J];refine q (by rw[c,S,U,r];rfl) _ ?_ ?_;.simp only[eE,seval]
     .simp only[eE,seval]|false=>
     have r:decide (x.b<=DV x.a)=true:=by simp only[bk]at J;simp only[am];omega
     simp only[eE,seval,↓eP,rP,s,u,I,f,o,y,E,J];refine g (by rw[c,S,r,js];rfl) _ ?_ ?_ ?_;.simp only[eE,seval,Y]
     .simp only[eE,seval,C]
     .simp only[eE,seval,u]
theorem Im(c:C_ call){l:List AF}{v:Value}{m:Nat}{h:AA}(K:∀x h,l[0]?=some x->EW BG x=true->x.a=1->A8 h v l->h.c 0=EM->0<h.a->h.b<=h.a->call 187 [v,iv 0] h=some (.tuple #[iv ((GG BG l m x.b.toNat false 1).1:Int),.bool (GG BG l m x.b.toNat false 1).2],h))(T:l.length+3<n)(r:l.length<30000000000000)(t:∀w k h,call 184 [iv w,iv k] h=some (.bool (CX w k),h))(u:∀k h,1<=k/\k<=54->call 185 [iv k] h=some (.agg #[.bool (KD k),.bool (MP k),.bool (k==27),iv (F8 k),iv (DV k)],h))(L:∀s o,o.c 0=EM->call 186 [.string s] o=some (.bool (BG s),o))(F:A8 h v l)(hg:h.c 0=EM)(U:0<h.a)(V:h.b<=h.a):∃G,AW prog call n 122 [v,iv 0,iv 8] h=some (.tuple #[iv ((JD BG l m).1:Int),.bool (JD BG l m).2],G)/\∀i,i<h.a->G.c i=h.c i:=by
 refine EA (R:=fun G=>∀i,i<h.a->G.c i=h.c i) func122 rfl (by simp) ?_;have M:f122.results.toList=[.tmp 6,.tmp 7]:=rfl;have d:∀o,CU prog o 22 v=some (.int .i64 l.length):=fun o=>F.c;have N:((0:Nat):Int)=0:=rfl;cases H:l[0]? with
 |none=>
  rw[yV H];have W:l.length<=0:=by grind
  have I:decide ((0:Int)>=(l.length:Int))=true:=by grind
  simp only[eE,↓reduceIte,Nat.reduceEqDiff,reduceCtorEq,↓eP,Nat.reduceAdd,M,d,I];exact⟨rfl,fun i O=>cj⟩|some x=>
  have P:0<l.length:=by grind
  have I:decide ((0:Int)>=(l.length:Int))=false:=by grind
  obtain⟨X,p,y,Y,Q,l1,l2,l3,l4,Z⟩:=F.b H;rw[m8 H];rw[N]at y;cases J:CX 8 x.a with
  |false=>simp only[eE,↓reduceIte,Nat.reduceEqDiff,reduceCtorEq,↓eP,rP,Nat.reduceAdd,M,d,I,y,Q,t,J,bz];exact⟨rfl,fun i O=>cj⟩|true=>
  have e:=XP J;have z:x.a=1:=by simpa[CX]using J
  have S:=fun h=>u x.a h e;have f:(X<h.a)=True:=by grind
  have g:(h.a=h.a+1)=False:=by simp
  have A:(h.a+1=h.a)=False:=by simp
  have B:(h.b<=h.a)=True:=by grind
  have C:(h.b<=h.a+1)=True:=by grind
  have D:(h.a<h.a+1+1)=True:=by grind
  have E:(h.a+1<h.a+1+1)=True:=by simp
  simp only[fk];simp only[eE,seval,↓eP,rP,M,d,I,y,Q,t,J];refine WK.a (ops:=vU) Su ?_;refine BV.a ?_;refine AG c 0 (some 29) (.move (.tmp 0)) none ?_;simp only[eE,seval,rP,AC,AB,AD,rF];refine AG c 1 (some 30) (.move (.tmp 1)) none ?_;simp only[eE,seval,rP,AC,AB,AD,rF];refine AG c 2 (some 31) (.indexAddr 22 (.tmp 29) (.tmp 30)) none ?_;simp only[eE,seval,rP,AC,AB,AD,rF,y];refine AG c 3 (some 32) (.load 125 (.tmp 31)) none ?_;simp only[eE,seval,rP,AC,AB,rF,Z,f];refine AG c 4 (some 33) (.move (.tmp 0)) none ?_;simp only[eE,seval,rP,AC,AB,AD,rF];refine AG c 5 (some 34) (.move (.tmp 1)) none ?_;simp only[eE,seval,rP,AC,AB,AD,rF];refine AG c 6 (some 35) (.indexAddr 22 (.tmp 33) (.tmp 34)) none ?_;simp only[eE,seval,rP,AC,AB,AD,rF,y];refine AG c 7 (some 36) (.fieldAddr 125 (.tmp 35) 0) none ?_;simp only[eE,seval,rP,AC,AB,AD,rF];refine AG c 8 (some 37) (.load 3 (.tmp 36)) none ?_;simp only[eE,seval,rP,AC,AB,rF,Q,f];refine AG c 9 (some 38) (.call {callee:=.value (.func 185),args:=#[.tmp 37],argTypes:=#[3]}) none ?_;simp only[eE,seval,rP,AC,AB,rF,S];refine AG c 10 (some 8) (.alloc 125) none ?_;simp only[eE,seval,rP,AC,AB];refine AG c 11 (some 9) (.alloc 243) none ?_;simp only[eE,seval,rP,AC,AB,rF];refine AG c 12 (none) (.store 125 (.tmp 8) (.tmp 32)) none ?_;simp only[eE,seval,rP,AC,AB,rF,g,B];refine AG c 13 (none) (.store 243 (.tmp 9) (.tmp 38)) none ?_;simp only[eE,seval,rP,AC,AB,rF,A,C];refine BV.b (i:=14) (by kernel_rfl) ?_;rw[aI];have j:∀i,i<h.a->((((h.d (.row FG 125 false false)).d (.row [.bool false,.bool false,.bool false,.int .i64 0,.int .i64 0] 243 false false)).e h.a (.row [.int .i64 x.a,.string x.c,.int .i64 x.d,.int .i64 x.n,.int .i64 x.b] 125 false false)).e (h.a+1)
    (.row [.bool (KD x.a),.bool (MP x.a),.bool (x.a==27),iv (F8 x.a),iv (DV x.a)] 243 false false)).c i=h.c i:=fun i O=>by rw[ZF,ad (by omega),ZF,ad (by omega),OT,ad (by rw[BU];omega),OT,ad (by omega)]
  refine Yw c (m:=m) (at_:=0) (l:=l) (v:=v) (fun hf=>K x _ H hf z (F.a (by simp only[D_,BU];omega) j) (by grind) (by simp only[D_,BU];omega) (by simp only[D_,BU,EJ,CE];omega)) T r P (L x.c) (F.a (by simp only[D_,BU];omega) j) (by grind) (by simp only[D_,BU];omega) (by simp only[D_,BU,EJ,CE];omega) e z (a:=h.a) (b:=h.a+1) (ga0:=false) (gb0:=false) ?_ ?_ ?_ ?_ ?_ ?_ (by simp only[D_,BU];omega) ?_;.simp only[eE,seval]
  .simp only[eE,↓reduceIte,Nat.reduceEqDiff,reduceCtorEq];rfl
  .simp only[eE,seval]
  .simp only[eE,seval]
  .simp only[seval,rP,g,D]
  .simp only[seval,rP,E]
  .intro T' q ok hq h6 h7;simp only[eE,seval,rP,h6,h7,<-hq];intro i O;rw[ad (by omega),ad (by omega),ad (by omega),ad (by omega)]
def YP(a:Bool):Int:=if a=true then 1 else 0
theorem Rt{l:List AF}{v:Value}{m:Nat}{x:AF}{h:AA}(hx:l[0]?=some x)(h5:0<=x.b)(hn:l.length+3<n)(h0:l.length<30000000000000)(L:A8 h v l)(E:∀w k h,call 184 [iv w,iv k] h=some (.bool (CX w k),h))(M:∀(p:Nat)(w:Int),0<p->p<=l.length->w≠8->call 122 [v,iv p,iv w] h=some (.tuple #[iv ((C6 BG l m p w).1:Int),.bool (C6 BG l m p w).2],h)):AW prog call n 187 [v,iv 0] h=some (.tuple #[iv ((GG BG l m x.b.toNat false 1).1:Int),.bool (GG BG l m x.b.toNat false 1).2],h):=by
 refine DO func187 rfl (by simp) ?_;have N:f187.results.toList=[.tmp 4,.tmp 5]:=rfl;have e:∀h',CU prog h' 22 v=some (.int .i64 l.length):=fun h'=>L.c;have h2:0<l.length:=by grind
 obtain⟨id,q,O,h6,l0,l1,l2,l3,F,lr⟩:=L.b hx;have G:BW prog 22 v (.int .i64 0)=some (qP id q):=O;have w1:IntKind.i64.wrap (0+1)=((1:Nat):Int):=rfl;simp only[eE,↓reduceIte,Nat.reduceEqDiff,Nat.reduceAdd,N,w1];generalize h7:GG BG l m x.b.toNat false 1=R;refine WK.b (fun i s=>s.h=h/\s.T.a 0=v/\s.T.a 1=iv 0/\s.T.a 9=iv i/\∃p:Nat,∃g d:Bool,s.T.a 6=iv p/\s.T.a 7=.bool g/\s.T.a 8=iv (YP d)/\p<=l.length/\0<p/\i<=l.length+1/\((g=true/\i<=x.b.toNat/\1+i<=p/\GG BG l m (x.b.toNat-i) d p=R)\/(g=false/\R=(p,false)))) (l.length+2) (by omega) ?_ ?_
 .simp only[eE,↓reduceIte,Nat.reduceEqDiff,reduceCtorEq,rP,Nat.reduceAdd];exact⟨rfl,1,true,false,rfl,rfl,rfl,by omega,by omega,.inl ⟨rfl,by omega,by assumption⟩⟩
 .rintro i⟨T1,h1⟩hi⟨rfl,u,z,A,p,g,d,B,C,P,hp,S,h8,j⟩;simp only at u z A B C P;rcases j with⟨rfl,h9,g0,I⟩|⟨rfl,I⟩
  .by_cases g1:i<x.b.toNat
   .have o:decide ((i:Int)<x.b)=true:=by simp_all
    have T:=DU i;have U:GG BG l m (x.b.toNat-i) d p=if(C6 BG l m p (KC d l[p]?)).2=true then GG BG l m (x.b.toNat-(i+1)) (d||RR l[p]?) (C6 BG l m p (KC d l[p]?)).1 else((C6 BG l m p (KC d l[p]?)).1,false):=by
     obtain⟨r,N⟩:∃r,x.b.toNat-i=r+1:=⟨x.b.toNat-i-1,by omega⟩;rw[N,show x.b.toNat-(i+1)=r by omega];rfl
    have V:KC d l[p]?≠8:=by unfold KC;split<;>decide
    have a:=M p (KC d l[p]?) S hp V;have c:KC d l[p]?=YP (d||RR l[p]?):=by unfold KC YP;cases d<;>cases RR l[p]?<;>rfl
    have b:i<l.length+2/\∃D:Nat,∃g H:Bool,(((C6 BG l m p (KC d l[p]?)).1:Nat):Int)=(D:Int)/\Value.bool (C6 BG l m p (KC d l[p]?)).2=.bool g/\YP (d||RR l[p]?)=YP H/\D<=l.length/\0<D/\i+1<=l.length+1/\((g=true/\i+1<=x.b.toNat/\1+(i+1)<=D/\GG BG l m (x.b.toNat-(i+1)) H D=R)\/(g=false/\R=(D,false))):=by
     generalize W:C6 BG l m p (KC d l[p]?)=Q at*;have X:Q.1<=l.length:=by rw[<-W];exact oT m p _ hp
     have g2:p<=Q.1:=by rw[<-W];exact XW m p _
     have g3:Q.2=true->p<Q.1:=fun h=>by
      have:=aP (isName:=BG) (l:=l) m p (KC d l[p]?);rw[W]at this;exact(this h).1
     refine⟨by omega,Q.1,Q.2,(d||RR l[p]?),rfl,rfl,rfl,X,by omega,by omega,?_⟩;cases g4:Q.2 with|true=>grind|false=>grind
    cases t:l[p]? with
    |none=>
     have g5:l.length<=p:=by grind
     have J:decide ((p:Int)<(l.length:Int))=false:=by grind
     have f:RR (none:Option AF)=false:=rfl;rw[t]at a b c;rw[f,dC]at c b;rw[c]at a b;simp only[eE,↓reduceIte,Nat.reduceEqDiff,reduceCtorEq,↓eP,rP,u,z,A,B,C,P,G,F,o,e,J,a,T];exact b|some y=>
     have h3:p<l.length:=by grind
     have J:decide ((p:Int)<(l.length:Int))=true:=by grind
     obtain⟨g6,q2,f0,h4,m0,m1,m2,m3,m4,mr⟩:=L.b t;have f:RR (some y)=CX 1 y.a:=rfl;rw[t]at a b c;rw[f]at c b;rw[c]at a b;cases K:CX 1 y.a with|false=>rw[K,dC]at a b;simp only[eE,↓reduceIte,Nat.reduceEqDiff,reduceCtorEq,↓eP,rP,u,z,A,B,C,P,G,F,o,e,J,f0,m0,E,K,a,T];exact b|true=>
      have Y:YP true=1:=rfl;rw[K,js,Y]at a b;simp only[eE,↓reduceIte,Nat.reduceEqDiff,reduceCtorEq,↓eP,rP,u,z,A,B,C,G,F,o,e,J,f0,m0,E,K,a,T];exact b
   .have o:decide ((i:Int)<x.b)=false:=by simp_all
    have f:x.b.toNat-i=0:=by omega
    rw[f]at I;have Z:R=(p,true):=by rw[<-I];rfl
    simp only[eE,seval,↓eP,rP,u,z,A,B,C,G,F,o,Z]
  .cases o:decide ((i:Int)<x.b)<;>simp only[eE,seval,↓eP,rP,u,z,A,B,C,G,F,o,I]
end
def R_(a b:Int)(k:Nat):Bool:=if b=0 then false else if 1<=a/\a<=5 then(decide (b<a)||(b==a&&((k:Int)==1||a==3)))else if a=6 then decide (b<6)else false
def JT(a b:Int)(k:Nat):Int:=if R_ a b k=true then 1 else 0
def MN(g:Nat->Int×Nat)(l:List AF)(kind:Int):Nat->Nat->Int->Nat->Int×Nat
 |0,_,b,a=>(b,a)|r+1,k,b,a=>match l[a]? with
  |none=>(b,a)|some y=>MN g l kind r (k+1) (if(g a).1+JT (EG kind) (EG y.a) k>b then(g a).1+JT (EG kind) (EG y.a) k else b) (g a).2
def FL(l:List AF):Nat->Nat->Int×Nat|0,a=>(0,a)|m+1,a=>match l[a]? with|none=>(0,a)|some x=>((MN (FL l m) l x.a x.b.toNat 0 0 (a+1)).1+G0 x.a,(MN (FL l m) l x.a x.b.toNat 0 0 (a+1)).2)
theorem fS(k:Int):0<=G0 k/\G0 k<=1:=by unfold G0;split<;>omega
theorem uW(a b:Int)(k:Nat):0<=JT a b k/\JT a b k<=1:=by unfold JT;omega
theorem Qq{g:Nat->Int×Nat}{l:List AF}{kind B:Int}(e:∀p,0<=(g p).1/\(g p).1<=B):∀r k a b,0<=a->a<=B+1->0<=(MN g l kind r k a b).1/\(MN g l kind r k a b).1<=B+1:=by
 intro r;induction r with
 |zero=>intro k a b c d;exact⟨c,d⟩|succ r f=>
  intro k a b c d;unfold MN;split;.omega
  .rename_i y h;have:=e b;have:=uW (EG kind) (EG y.a) k;grind
theorem Sm{l:List AF}:∀m a,0<=(FL l m a).1/\(FL l m a).1<=2*(m:Int):=by
 intro m;induction m with
 |zero=>intro a;exact⟨Int.le_refl 0,by show(0:Int)<=_;omega⟩|succ m b=>
  intro a;unfold FL;split;.omega
  .rename_i x c;have:=Qq (g:=FL l m) (l:=l) (kind:=x.a) (B:=2*(m:Int)) b x.b.toNat 0 0 (a+1) (Int.le_refl 0) (by omega);have:=fS x.a;omega
theorem Xx{g:Nat->Int×Nat}{l:List AF}{kind:Int}(c:∀p,p<l.length->p<=(g p).2/\(g p).2<=l.length):∀r k b a,a<=l.length->a<=(MN g l kind r k b a).2/\(MN g l kind r k b a).2<=l.length:=by
 intro r;induction r with
 |zero=>intro k b a h;exact⟨af _,h⟩|succ r d=>intro k b a h;unfold MN;grind
theorem Ue{l:List AF}:∀m a,a<l.length->a<=(FL l m a).2/\(FL l m a).2<=l.length/\(0<m->a<(FL l m a).2):=by
 intro m;induction m with
 |zero=>intro a h;exact⟨af _,by show a<=_;omega,fun h=>absurd h (by omega)⟩|succ m b=>
  intro a h;unfold FL;rw[aa h];have:=Xx (g:=FL l m) (l:=l) (kind:=l[a].a) (fun p c=>⟨(b p c).1,(b p c).2.1⟩) l[a].b.toNat 0 0 (a+1) h;simp only;omega
section
variable {call:AY} {n:Nat} {h:AA}
theorem Pw(k:Int)(h:AA)(a:1<=k/\k<=54):L1 246 [iv k] h=some (iv (G0 k),h):=JO (HJ rfl rfl rfl rfl (LV Wa a))
theorem re{P K:Int}{k:Nat}{a b:Int}(c:call 289 [iv P] h=some (iv a,h))(d:call 289 [iv K] h=some (iv b,h)):AW prog call n 245 [iv P,iv k,iv K] h=some (.bool (R_ a b k),h):=by
 refine DO func245 rfl (by simp) ?_;have e:f245.results.toList=[.tmp 6]:=rfl;unfold R_;by_cases q:b=0
 .subst q;simp only[eE,seval,↓eP,e,c,d]
 have f:(b==0)=false:=by grind
 rw[ad q];by_cases l:1<=a/\a<=5
 .rw[ag l];have g:decide (a>=1)=true:=by grind
  have j:decide (a<=5)=true:=by grind
  cases m:decide (b<a)with|true=>simp only[eE,seval,↓eP,e,c,d,f,g,j,m,fa]|false=>cases o:(b==a)with|false=>simp only[eE,seval,↓eP,e,c,d,f,g,j,m,o,eg,bz]|true=>cases r:((k:Int)==1)with
    |true=>simp only[eE,seval,↓eP,rP,e,c,d,f,g,j,m,o,r,eg,fa]|false=>simp only[eE,seval,↓eP,rP,e,c,d,f,g,j,m,o,r,eg]
 .rw[ad l];cases g:decide (a>=1)with
  |false=>
   simp only[bk]at g;have i:decide (a>=1)=false:=by grind
   have p:(a==6)=false:=by grind
   rw[ad (by omega)];simp only[eE,seval,↓eP,e,c,d,f,i,p]|true=>
   simp only[am]at g;have i:decide (a>=1)=true:=by grind
   have j:decide (a<=5)=false:=by grind
   by_cases s:a=6;.subst s;simp only[eE,seval,↓eP,e,c,d,f]
   .have p:(a==6)=false:=by grind
    rw[ad s];simp only[eE,seval,↓eP,e,c,d,f,i,j,p]
noncomputable def Lz:Array Oper:=B9 f189 6
def fs94:List (Bool×Bool×List Operand):=[AO,AO,AO,AO,AO,AH [.tmp 30],AH [.tmp 30],AH [.tmp 30],AH [.tmp 30],AH [.tmp 30],AH [.tmp 30],AJ]
theorem rf:CA Lz=fs94:=by kernel_rfl
theorem Mp(b:C_ call){l:List AF}{v:Value}{m at_:Nat}(hn:l.length+3<n)(h0:l.length<30000000000000)(hm:m<30000000000000)(N:at_<l.length)(h7:l.length<at_+1+m)(O:A8 h v l)(e:∀(i:Nat)x,l[i]?=some x->1<=x.a/\x.a<=54)(A:∀P K(k:Nat)h,1<=P/\P<=54->1<=K/\K<=54->call 245 [iv P,iv k,iv K] h=some (.bool (R_ (EG P) (EG K) k),h))(C:∀k h,1<=k/\k<=54->call 246 [iv k] h=some (iv (G0 k),h))(Q:∀p:Nat,at_<p->p<l.length->call 189 [v,iv p] h=some (.tuple #[iv (FL l m p).1,iv ((FL l m p).2:Int)],h)):AW prog call n 189 [v,iv at_] h=some (.tuple #[iv (FL l (m+1) at_).1,iv ((FL l (m+1) at_).2:Int)],h):=by
 refine DO func189 rfl (by simp[f189]) ?_;have hr:f189.results.toList=[.tmp 4,.tmp 5]:=rfl;have f:∀h',CU prog h' 22 v=some (.int .i64 l.length):=fun h'=>O.c;obtain⟨x,S⟩:∃x,l[at_]?=some x:=⟨_,aa N⟩;obtain⟨id,q,I,h8,T,l1,l2,l3,U,lr⟩:=O.b S;have D:=e at_ x S;have w1:=DU at_;have E:FL l (m+1) at_=((MN (FL l m) l x.a x.b.toNat 0 0 (at_+1)).1+G0 x.a,(MN (FL l m) l x.a x.b.toNat 0 0 (at_+1)).2):=by rw[FL,S]
 rw[E];have F:=fun h=>C x.a h D;have h2:=fS x.a;have h3:=Qq (g:=FL l m) (l:=l) (kind:=x.a) (B:=2*(m:Int)) (Sm m) x.b.toNat 0 0 (at_+1) (Int.le_refl 0) (by omega);simp only[eE,seval,hr,w1];generalize V:MN (FL l m) l x.a x.b.toNat 0 0 (at_+1)=R at*;refine WK.b (fun i s=>s.h=h/\s.T.a 0=v/\s.T.a 1=iv at_/\s.T.a 6=iv i/\∃(a:Int)(p:Nat),s.T.a 4=iv a/\s.T.a 5=iv p/\at_+1+i<=p/\p<=l.length/\0<=a/\a<=2*(m:Int)+1/\i<=x.b.toNat/\MN (FL l m) l x.a (x.b.toNat-i) i a p=R) (l.length+2) (by omega) ?_ ?_;.simp only[eE,↓reduceIte,Nat.reduceEqDiff,reduceCtorEq,rP];exact⟨rfl,0,at_+1,rfl,rfl,by omega,by omega,by omega,by omega,by rw[Nat.sub_zero];exact V⟩
 .rintro i⟨T1,h1⟩hi⟨rfl,j,t,u,a,p,G,w,h9,hp,g0,g1,g2,J⟩;simp only at j t G w u;have h4:∀T':Tr,T'.a 4=iv a->T'.a 5=iv p->R=(a,p)->True:=by simp
  by_cases g3:i<x.b.toNat
  .have L:decide ((i:Int)<x.b)=true:=by simp only[am];omega
   obtain⟨r,W⟩:∃r,x.b.toNat-i=r+1:=⟨x.b.toNat-i-1,by omega⟩;rw[W]at J;by_cases d:p<l.length
   .have X:decide ((p:Int)<(l.length:Int))=true:=by simp only[am];omega
    obtain⟨y,Y⟩:∃y,l[p]?=some y:=⟨_,aa d⟩;obtain⟨g4,q2,f0,h5,m0,m1,m2,m3,m4,mr⟩:=O.b Y;have Z:=e p y Y;have hL:=fun hh=>A x.a y.a i hh D Z;have o:=Q p (by omega) d;have g5:=Sm (l:=l) m p;have g6:=Ue (l:=l) m p d;have w5:=DU i;have h6:=uW (EG x.a) (EG y.a) i;have M:IntKind.i64.wrap ((FL l m p).1+JT (EG x.a) (EG y.a) i)=(FL l m p).1+JT (EG x.a) (EG y.a) i:=BR;have c:MN (FL l m) l x.a (x.b.toNat-(i+1)) (i+1) (if(FL l m p).1+JT (EG x.a) (EG y.a) i>a then(FL l m p).1+JT (EG x.a) (EG y.a) i else a) (FL l m p).2=R:=by
     rw[<-J,show x.b.toNat-(i+1)=r by omega];simp only[MN,Y]
    simp only[eE,seval,↓eP,rP,j,t,w,u,I,U,L,f,X];refine WK.a (ops:=Lz) rf ?_;refine BV.a ?_;refine AG b 0 (some 27) (.move (.tmp 0)) none ?_;simp only[eE,seval,rP,AC,AB,AD,rF,j];refine AG b 1 (some 28) (.move (.tmp 1)) none ?_;simp only[eE,seval,rP,AC,AB,AD,rF,t];refine AG b 2 (some 29) (.indexAddr 22 (.tmp 27) (.tmp 28)) none ?_;simp only[eE,seval,rP,AC,AB,AD,rF,I];refine AG b 3 (some 30) (.fieldAddr 125 (.tmp 29) 0) none ?_;simp only[eE,seval,rP,AC,AB,AD,rF];refine AG b 4 (some 31) (.load 3 (.tmp 30)) none ?_;simp only[eE,seval,rP,AC,AB,rF,T];refine AG b 5 (some 32) (.move (.tmp 6)) none ?_;simp only[eE,seval,rP,AC,AB,AD,rF,u];refine AG b 6 (some 33) (.move (.tmp 0)) none ?_;simp only[eE,seval,rP,AC,AB,AD,rF,j];refine AG b 7 (some 34) (.move (.tmp 5)) none ?_;simp only[eE,seval,rP,AC,AB,AD,rF,w];refine AG b 8 (some 35) (.indexAddr 22 (.tmp 33) (.tmp 34)) none ?_;simp only[eE,seval,rP,AC,AB,AD,rF,f0];refine AG b 9 (some 36) (.fieldAddr 125 (.tmp 35) 0) none ?_;simp only[eE,seval,rP,AC,AB,AD,rF];refine AG b 10 (some 37) (.load 3 (.tmp 36)) none ?_;simp only[eE,seval,rP,AC,AB,rF,m0];refine AG b 11 (some 38) (.call {callee:=.value (.func 245),args:=#[.tmp 31,.tmp 32,.tmp 37],argTypes:=#[3,3,3]}) none ?_;simp only[eE,seval,rP,AC,AB,rF,hL];refine BV.b (i:=12) (by kernel_rfl) ?_;cases H:R_ (EG x.a) (EG y.a) i with
    |false=>
     have hI:JT (EG x.a) (EG y.a) i=0:=by unfold JT;rw[H];rfl
     rw[hI]at M c;simp only[eE,seval,↓eP,j,t,G,w,u,o,w5,M];exact⟨by omega,_,_,rfl,rfl,by omega,by omega,by split<;>omega,by split<;>omega,by omega,c⟩|true=>
     have hI:JT (EG x.a) (EG y.a) i=1:=by unfold JT;rw[H];rfl
     rw[hI]at M c;simp only[eE,seval,↓eP,j,t,G,w,u,o,w5,M];exact⟨by omega,_,_,rfl,rfl,by omega,by omega,by split<;>omega,by split<;>omega,by omega,c⟩
   .have X:decide ((p:Int)<(l.length:Int))=false:=by simp only[bk];omega
    have z:R=(a,p):=by rw[<-J];simp only[MN,de (Nat.le_of_not_lt d)]
    subst z;have w7:IntKind.i64.wrap (a+G0 x.a)=a+G0 x.a:=BR;simp only[eE,seval,↓eP,rP,j,t,G,w,u,I,T,U,L,f,X,F,w7]
  .have L:decide ((i:Int)<x.b)=false:=by simp only[bk];omega
   have z:R=(a,p):=by
    rw[<-J,show x.b.toNat-i=0 by omega];rfl
   subst z;have w7:IntKind.i64.wrap (a+G0 x.a)=a+G0 x.a:=BR;simp only[eE,seval,↓eP,rP,j,t,G,w,u,I,T,U,L,F,w7]
end
def wH(l:List AF)(i:Nat):Prop:=∃x,l[i]?=some x/\1<=x.a/\x.a<=54
theorem vB{g:Nat->Nat->Nat×Bool}{V:Nat->Prop}(c:∀k p,(g k p).2=true->∀i,p<=i->i<(g k p).1->V i):∀r k p,(G9 g r k p).2=true->∀i,p<=i->i<(G9 g r k p).1->V i:=by
 intro r;induction r with
 |zero=>intro k p _ i b a;exact absurd (show i<p from a) (by omega)|succ r d=>intro k p h i b a;unfold G9 at h a;grind
theorem rg{l:List AF}:∀m a b,(C6 BG l m a b).2=true->∀i,a<=i->i<(C6 BG l m a b).1->wH l i:=by intro m;induction m with|zero=>intro a b h;cases h|succ m f=>intro a b;unfold C6;cases g:l[a]? with|none=>simp|some x=>
   simp only;split
   .rename_i j;intro h i d c;rcases ar a i with e|e;.exact vB (V:=wH l) (fun k p n i d c=>f p (CH x.a k) n i d c) x.b.toNat 0 (a+1) h i e c
    .have:i=a:=by omega
     subst this;exact⟨x,g,XP (ey.1 j).1⟩
   omega
theorem Tm{l:List AF}{m:Nat}:∀r a p,(GG BG l m r a p).2=true->∀i,p<=i->i<(GG BG l m r a p).1->wH l i:=by intro r;induction r with|zero=>intro a p _ i c b;exact absurd (show i<p from b) (by omega)|succ r f=>
  intro a p h i c b;unfold GG at h b;split at h
  .rename_i d;rw[ag d]at b;rcases ar i (C6 BG l m p (KC a l[p]?)).1 with e|e;.exact rg m p _ d i c e
   grind
  .cases h
theorem Dy{l:List AF}(h:KK BG l=none):∀(i:Nat)x,l[i]?=some x->1<=x.a/\x.a<=54:=by
 unfold KK at h;split at h;.rename_i b;obtain⟨a,c⟩:=b;intro i x d;have f:=(ae.1 d).1;unfold JD at a c;cases e:l[0]? with|none=>grind|some y=>
   rw[e]at a c;simp only at a c;split at a
   .rename_i b;rw[ag b]at c;rcases gN i with rfl|g
    .rw[e]at d;cases d;exact XP (ey.1 b).1
    .obtain⟨z,j,k⟩:=Tm y.b.toNat false 1 a i g (by omega);grind
   grind
 .cases h
theorem iN{l:List AF}(h:KK BG l=none):0<l.length:=by
 rcases gN l.length with a|a
 .have:=fb.1 a;subst this;revert h;unfold KK JD;simp
 .exact a
theorem MR:BN prog 43=some 2:=by kernel_rfl
theorem Tb:HC prog 43=some true:=by kernel_rfl
theorem GO:DK prog 43=some (.agg #[.int .i64 0,.int .i64 0]):=by kernel_rfl
theorem tU:HN prog (match prog.underlying 43 with|some (.struct a)=>a.toList|_=>[])=some [(0,1),(1,1)]:=by kernel_rfl
abbrev EE(e a:Int):Value:=.agg #[.int .i64 e,.int .i64 a]
theorem GS{e a:Int}:flat (EE e a)=true:=rfl
theorem II{e a:Int}:CL prog 43 [(0,.int .i64 e),(1,.int .i64 a)]=some (EE e a):=by have h:=tU;rw[gz]at h;simp only at h;simp only[CL,GO,GS,ai,gz,h];rfl
theorem OC{e:Int}:CL prog 43 [(0,.int .i64 e)]=some (EE e 0):=by have h:=tU;rw[gz]at h;simp only at h;simp only[CL,GO,GS,ai,gz,h];rfl
theorem QV:CL prog 43 []=some (EE 0 0):=by have h:=tU;rw[gz]at h;simp only at h;simp only[CL,GO,GS,ai,gz,h];rfl
noncomputable def yD(h:AA)(id:Nat)(a b:Int):BO->Option AA|.row [_,_] c g false=>if h.b<=id then some (h.e id (.row [.int .i64 a,.int .i64 b] c g false))else none|_=>BD prog h 43 (qP id 0) (EE a b)
theorem W3{h:AA}{id:Nat}{a b:Int}:BD prog h 43 (qP id 0) (EE a b)=yD h id a b (h.c id):=by cases j:h.c id with
 |dead=>rfl|map _=>rfl|row k m g f=>match k,f with
  |[c,d],false=>
   simp only[yD];split
   .rename_i i;simp[BD,MR,HW,j,i,Go.Sx.lay,Value.cells,one]
   .rename_i i;simp[BD,MR,HW,j,i,Value.cells,one]|[c,d],true=>rfl|[],f=>rfl|[c],f=>rfl|c::d::e::l,f=>rfl
theorem XZ{h:AA}{id:Nat}{a b:Int}{x y:Value}{ty:TypeId}{g:Bool}:yD h id a b (.row [x,y] ty g false)=if h.b<=id then some (h.e id (.row [.int .i64 a,.int .i64 b] ty g false))else none:=rfl
theorem FD{h:AA}{id off:Nat}:EP prog h 43 (qP id off)=AX 2 off (h.c id):=NF Tb MR
theorem XU{a b:Value}{ty:TypeId}{g ro:Bool}:AX 2 0 (.row [a,b] ty g ro)=some (.agg #[a,b]):=rfl
theorem Nm(k:Int)(h:AA)(a:1<=k/\k<=54):L0 289 [iv k] h=some (iv (EG k),h):=HJ rfl rfl rfl rfl (LV Hd a)
theorem Sa(P Q:Int)(k:Nat)(h:AA)(a:1<=P/\P<=54)(b:1<=Q/\Q<=54):L1 245 [iv P,iv k,iv Q] h=some (.bool (R_ (EG P) (EG Q) k),h):=HJ (JP rfl rfl) rfl rfl rfl ⟨_,re (IL (Nm P _ a)) (IL (Nm Q _ b))⟩
theorem rh{l:List AF}{m:Nat}:(JD BG l m).1<=l.length:=by
 unfold JD;split;.omega
 .rename_i x a;have:=(ae.1 a).1;split;.exact Oq _ _ _ this
  omega
def CY(l:List AF):Int×Int:=match KK BG l with|some p=>(23,(p:Int))|none=>if(FL l (l.length+1) 0).1>64 then(22,0)else(0,0)
section
variable {call:AY} {n:Nat}
theorem Mv{l:List AF}{v:Value}{h:AA}{m:Nat}(e:A8 h v l)(c:0<l.length)(b:call 189 [v,iv 0] h=some (.tuple #[iv (FL l m 0).1,iv ((FL l m 0).2:Int)],h)):AW prog call n 123 [v] h=some (iv (FL l m 0).1,h):=by
 refine DO func123 rfl (by simp) ?_;have f:f123.results.toList=[.tmp 2]:=rfl;have a:∀d,CU prog d 22 v=some (.int .i64 l.length):=fun d=>e.c;have g:((l.length:Int)==0)=false:=by grind
 simp only[eE,seval,↓eP,f,a,g,b]
theorem Ip{l:List AF}{v:Value}{h:AA}(A:A8 h v l)(G:h.c 0=EM)(C:0<h.a)(D:h.b<=h.a)(x:∀b,A8 b v l->b.c 0=EM->0<b.a->b.b<=b.a->call 122 [v,iv 0,iv 8] b=some (.tuple #[iv ((JD BG l (l.length+1)).1:Int),.bool (JD BG l (l.length+1)).2],b))(y:KK BG l=none->∀b,A8 b v l->call 123 [v] b=some (iv (FL l (l.length+1) 0).1,b)):∃s,AW prog call n 61 [v] h=some (EE (CY l).1 (CY l).2,s)/\∀i,i<h.a->s.c i=h.c i:=by
 refine EA (R:=fun s=>∀i,i<h.a->s.c i=h.c i) func61 rfl (by simp) ?_;have t:f61.results.toList=[.cell 2 43]:=rfl;have e:∀b,CU prog b 22 v=some (.int .i64 l.length):=fun b=>A.c;have k:∀o:BO,∀i,i<h.a->(h.d o).c i=h.c i:=fun o i r=>AV r;have j:=A.a (h':=h.d (.row [.int .i64 0,.int .i64 0] 43 false false)) (by show h.a<=h.a+1;omega) (k _);have a:=x _ j (by grind) (by show 0<h.a+1;omega) (by show h.b<=h.a+1;omega);have c:(h.b<=h.a)=True:=by grind
 have d:(h.a<h.a+1)=True:=by simp
 have E:=fun o=>(j.a (h':=(h.d (.row [.int .i64 0,.int .i64 0] 43 false false)).e h.a o) (by show h.a+1<=h.a+1;omega));have F:=rh (l:=l) (m:=l.length+1);unfold CY;cases f:KK BG l with
 |some p=>
  unfold KK at f;split at f;.cases f
  .rename_i z;generalize JD BG l (l.length+1)=q at*;cases f;cases u:q.2 with
   |false=>rw[u]at a;simp only[eE,seval,↓eP,rP,t,GO,GS,a,II,W3,XZ,FD,XU,c,d];intro i r;rw[ad (by omega),ad (by omega)]|true=>
    rw[u]at a z;have w:decide ((q.1:Int)<(l.length:Int))=true:=by grind
    simp only[eE,seval,↓eP,rP,t,e,w,GO,GS,a,II,W3,XZ,FD,XU,c,d];intro i r;rw[ad (by omega),ad (by omega)]
 |none=>
  have g:=y f _ j;unfold KK at f;split at f
  .rename_i z;generalize JD BG l (l.length+1)=q at*;obtain⟨u,H⟩:=z;rw[u]at a;have w:decide ((q.1:Int)<(l.length:Int))=false:=by grind
   cases B:decide ((FL l (l.length+1) 0).1>64)with
   |true=>rw[ag (by grind)];simp only[eE,seval,↓eP,rP,t,e,w,B,GO,GS,a,g,OC,W3,XZ,FD,XU,c,d];intro i r;rw[ad (by omega),ad (by omega)]|false=>
    rw[ad (by grind)];simp only[eE,seval,↓eP,rP,t,e,w,B,GO,GS,a,g,QV,W3,XZ,FD,XU,c,d];intro i r;rw[ad (by omega),ad (by omega)]
  .cases f
end
def FQ(l:List AF)(at_ q:Nat):Prop:=(∃m a,C6 BG l m at_ a=(q,true))\/(at_=0/\∃m,JD BG l m=(q,true))
def F_(l:List AF):Nat->Nat->Nat->Prop|0,p,q=>p=q|r+1,p,q=>∃a,FQ l p a/\p<a/\a<=l.length/\F_ l r a q
theorem ri{l:List AF}{m:Nat}{c:Int}:∀r k p q,G9 (fun k a=>C6 BG l m a (CH c k)) r k p=(q,true)->F_ l r p q:=by intro r;induction r with|zero=>intro k p q h;exact jj (·.1) h|succ r e=>
  intro k p q h;unfold G9 at h;split at h
  .rename_i d;have b:=aP (isName:=BG) (l:=l) m p (CH c k) d;refine⟨(C6 BG l m p (CH c k)).1,.inl ⟨m,CH c k,Prod.ext rfl d⟩,b.1,b.2,e _ _ _ h⟩
  .cases h
theorem rj{l:List AF}{m:Nat}:∀r a p q,GG BG l m r a p=(q,true)->F_ l r p q:=by
 intro r;induction r with
 |zero=>intro a p q h;exact jj (·.1) h|succ r d=>
  intro a p q h;unfold GG at h;split at h
  .rename_i c;have b:=aP (isName:=BG) (l:=l) m p (KC a l[p]?) c;exact⟨(C6 BG l m p (KC a l[p]?)).1,.inl ⟨m,_,Prod.ext rfl c⟩,b.1,b.2,d _ _ _ h⟩
  .cases h
theorem HM{l:List AF}:∀r p q,F_ l r p q->p+r<=q:=by intro r;induction r with|zero=>intro p q h;have:p=q:=h;omega|succ r a=>intro p q⟨b,_,c,_,d⟩;grind
theorem Tw{l:List AF}:∀r p q,p<=l.length->F_ l r p q->q<=l.length:=by intro r;induction r with|zero=>intro p q a h;have:p=q:=h;omega|succ r b=>intro p q a⟨c,_,d,e,f⟩;grind
theorem FQ.a{l:List AF}{at_ q:Nat}(h:FQ l at_ q):∃x,l[at_]?=some x/\0<=x.b/\(1<=x.a/\x.a<=54)/\F_ l x.b.toNat (at_+1) q:=by
 have a:∀x,EW BG x=true->0<=x.b:=fun x d=>by
  unfold EW at d;simp only[ah,am]at d;have:=XX x.a;omega
 rcases h with⟨m,e,h⟩|⟨rfl,m,h⟩;.cases m with|zero=>cases h|succ m=>cases c:l[at_]? with|none=>rw[zW c]at h;cases h|some x=>
    rw[fY c]at h;split at h
    .rename_i b;simp only[ah]at b;exact⟨x,rfl,a x b.2,XP b.1,ri _ _ _ _ h⟩
    .cases h
 .cases c:l[0]? with
  |none=>rw[yV c]at h;cases h|some x=>
   rw[m8 c]at h;split at h
   .rename_i b;simp only[ah]at b;exact⟨x,rfl,a x b.2,XP b.1,rj _ _ _ _ h⟩
   .cases h
theorem FQ.b{l:List AF}{at_ q:Nat}(h:FQ l at_ q):at_<q/\q<=l.length:=by obtain⟨x,c,_,_,b⟩:=h.a;have a:=(ae.1 c).1;have:=HM _ _ _ b;exact⟨by omega,Tw _ _ _ a b⟩
theorem FQ.d{l:List AF}:∀(n at_:Nat){q c:Nat},l.length<=at_+n->FQ l at_ q->FQ l at_ c->q=c:=by
 intro n;induction n with
 |zero=>intro at_ q c f h d;have:=h.b;omega|succ n s=>
  intro at_ q c f h d;obtain⟨x,g,_,_,t⟩:=h.a;obtain⟨y,e,_,_,i⟩:=d.a;rw[g]at e;cases e;have j:∀r p a b,at_<p->F_ l r p a->F_ l r p b->a=b:=by
   intro r;induction r with
   |zero=>intro p a b _ k m;exact(show p=a from k).symm.trans (show p=b from m)|succ r o=>
    intro p a b u⟨v,w,_,_,z⟩⟨A,B,_,_,C⟩;grind
  grind
theorem FQ.c{l:List AF}:∀(n:Nat){at_ q:Nat},q<=at_+n->FQ l at_ q->∀i,at_<=i->i<q->∃a,FQ l i a/\a<=q:=by
 intro n;induction n with
 |zero=>omega|succ n f=>
  intro at_ q v h i g w;rcases gY g with rfl|y;.grind
  .obtain⟨x,z,_,_,b⟩:=h.a;have j:∀r p,at_<p->p<=i->F_ l r p q->∃a,FQ l i a/\a<=q:=by
    intro r;induction r with
    |zero=>intro p _ d b;have:p=q:=b;omega|succ r k=>
     intro p m d⟨o,s,t,_,c⟩;have u:=HM _ _ _ c;rcases ar i o with e|e
     .obtain⟨a,A,B⟩:=f (by omega) s i d e;grind
     grind
   grind
def DM(l:List AF):Prop:=FQ l 0 l.length
theorem jG{l:List AF}(h:KK BG l=none):DM l:=by
 unfold KK at h;split at h;.rename_i a;exact .inr ⟨rfl,l.length+1,Prod.ext a.2 a.1⟩
 .cases h
theorem DM.V{l:List AF}(h:DM l):0<l.length:=h.b.1
theorem DM.k{l:List AF}(h:DM l){i:Nat}(hi:i<l.length):∃q,FQ l i q:=by obtain⟨q,a,_⟩:=FQ.c l.length (by omega) h i (bg i) hi;grind
open Classical in
noncomputable def AE(l:List AF)(i:Nat):Nat:=if h:∃q,FQ l i q then h.choose else 0
theorem JN{l:List AF}{i q:Nat}(h:FQ l i q):AE l i=q:=by unfold AE;have a:∃q,FQ l i q:=⟨q,h⟩;rw[dif_pos a];exact FQ.d l.length i (by omega) a.choose_spec h
theorem DM.U{l:List AF}(h:DM l){i:Nat}(hi:i<l.length):FQ l i (AE l i):=by obtain⟨q,a⟩:=h.k hi;rw[JN a];exact a
noncomputable def AZ(l:List AF):List Int:=(List.range l.length).map fun i=>(AE l i:Int)
theorem NU{l:List AF}{i:Nat}(hi:i<l.length):(AZ l)[i]?=some (AE l i:Int):=by simp[AZ,hi]
theorem UC{l:List AF}:(AZ l).length=l.length:=by simp[AZ]
def ints(l:List Int):List Value:=l.map (.int .i64 .)
theorem cZ(l:List Int)(i:Nat):(ints l)[i]?=(l[i]?).map (.int .i64 .):=by simp[ints]
theorem IE(l:List Int):(ints l).length=l.length:=by simp[ints]
theorem MJ(l:List Int):(ints l).all one=true:=by simp[ints,one]
theorem kU(l:List Int)(i:Nat)(x:Int):(ints l).set i (.int .i64 x)=ints (l.set i x):=by simp[ints,List.map_set]
theorem IZ:HL prog 3=some 8:=by kernel_rfl
theorem GD:DK prog 3=some (.int .i64 0):=by kernel_rfl
theorem WQ:∀n,CF [Value.int .i64 0] n=ints (List.replicate n 0)|0=>rfl|n+1=>by rw[CF,WQ n];simp[ints,List.replicate_succ]
theorem TO{h:AA}{n:Nat}(b:n<30000000000000):J7 prog h 25 (.int .i64 (n:Int)) (.int .i64 (n:Int))=some (qS h.a n n,h.d (.row (ints (List.replicate n 0)) 3 false false)):=by have a:(Value.int .i64 0).cells=#[.int .i64 0]:=rfl;simp only[J7,au,B_,GD,IZ,a,UM];rw[ag (by simp;omega)];simp[WQ]
theorem FO{id n c i:Nat}(hi:i<n):BW prog 25 (qS id n c) (.int .i64 (i:Int))=some (qP id i):=by simp only[BW,au,B_,CB];grind
theorem KM{l:List Int}{i:Nat}{x:Int}{ty:TypeId}{g ro:Bool}(a:l[i]?=some x):AI i (.row (ints l) ty g ro)=some (.int .i64 x):=by simp[AI,cZ,a]
theorem qT{cs:List Value}{off:Nat}{v:Value}(h:off<cs.length):Go.Sx.lay cs off [v]=cs.set off v:=by apply eh;intro k;rw[ZQ (by simp;omega),List.getElem?_set];grind
theorem LZ{h:AA}{id i:Nat}{l:List Int}{x:Int}{ty:TypeId}{g:Bool}(b:h.c id=.row (ints l) ty g false)(hi:i<l.length)(d:h.b<=id):BD prog h 3 (qP id i) (.int .i64 x)=some (h.e id (.row (ints (l.set i x)) ty g false)):=by
 have c:(Value.int .i64 x).cells=#[.int .i64 x]:=rfl;simp only[BD,c,B_,HW,b];have a:(some 1:Option Nat)=some (#[Value.int .i64 x]:Array Value).size:=rfl;rw[ag a,ag (by simp[one,IE];omega),qT (by rw[IE];exact hi),kU]
def KW(L l:List AF):Prop:=L.length=l.length/\∀(i:Nat)x,l[i]?=some x->∃y,L[i]?=some y/\y.b=x.b
theorem Hk(l:List AF):KW l l:=⟨rfl,fun i x h=>⟨x,h,rfl⟩⟩
section
variable {call:AY} {n:Nat}
theorem Dz{l L:List AF}{v:Value}{h:AA}(ht:DM l)(A:KW L l)(hv:A8 h v L)(B:l.length<30000000000000)(hn:l.length+3<n)(h8:h.b<=h.a):∃c,AW prog call n 63 [v] h=some (qS h.a l.length l.length,c)/\(c.c h.a=.row (ints (AZ l)) 3 false false/\c.a=h.a+1/\c.b=h.b/\∀i,i<h.a->c.c i=h.c i):=by
 refine EA (R:=fun c=>c.c h.a=.row (ints (AZ l)) 3 false false/\c.a=h.a+1/\c.b=h.b/\∀i,i<h.a->c.c i=h.c i) func63 rfl (by simp) ?_;have hr:f63.results.toList=[.tmp 2]:=rfl;have C:∀c,CU prog c 22 v=some (.int .i64 l.length):=fun c=>by rw[<-A.1];exact hv.c
 have h5:=ht.V;have w0:IntKind.i64.wrap ((l.length:Int)-1)=(l.length:Int)-1:=BR;simp only[eE,seval,hr,C,TO B,w0];refine WK.b (fun j s=>s.T.a 0=v/\s.T.a 3=qS h.a l.length l.length/\s.T.a 4=iv ((l.length:Int)-1-(j:Int))/\s.h.a=h.a+1/\s.h.b=h.b/\(∀i,i<h.a->s.h.c i=h.c i)/\∃E:List Int,E.length=l.length/\s.h.c h.a=.row (ints E) 3 false false/\∀i,l.length-j<=i->i<l.length->E[i]?=some (AE l i:Int)) l.length (by omega) ?_ ?_;.simp only[eE,seval,rP];refine⟨by omega,fun i J=>by grind,List.replicate l.length 0,by simp,rfl,fun i K M=>by omega⟩
 .rintro j⟨T1,K⟩hj⟨N,O,D,e,u,d,E,hE,f,F⟩;simp only at N O D e u d f;by_cases P:j<l.length
  .obtain⟨b,Q⟩:∃a:Nat,(l.length:Int)-1-(j:Int)=(a:Int):=⟨l.length-1-j,by omega⟩;have o:b<l.length:=by omega
   rw[Q]at D;have S:decide ((b:Int)>=0)=true:=by simp
   have w1:=DU b;have w2:IntKind.i64.wrap ((b:Int)-1)=(l.length:Int)-1-((j+1:Nat):Int):=by rw[BR];omega
   have t:=ht.U o;obtain⟨x,hx,h9,g0,g⟩:=t.a;have T:A8 K v L:=hv.a (by omega) d;obtain⟨y,hy,U⟩:=A.2 b x hx;obtain⟨id,q,e0,g1,l0,l1,l2,l3,l4,lr⟩:=T.b hy;rw[U]at l4;have g2:=HM _ _ _ g;have g3:=t.b;simp only[eE,seval,↓eP,rP,N,D,S,w1,e0,l4];refine WK.b (fun k s=>s.h=K/\s.T.a 0=v/\s.T.a 3=qS h.a l.length l.length/\s.T.a 4=iv b/\s.T.a 23=iv k/\s.T.a 22=.int .i64 x.b/\∃p:Nat,s.T.a 5=iv p/\b<p/\k<=x.b.toNat/\F_ l (x.b.toNat-k) p (AE l b)) x.b.toNat (by omega) ?_ ?_
   .simp only[eE,↓reduceIte,Nat.reduceEqDiff,reduceCtorEq,rP,N,O,D];refine⟨rfl,b+1,rfl,by omega,by assumption⟩
   .rintro k⟨T2,M⟩hk⟨rfl,V,W,X,w,z,p,Y,hp,h6,m⟩;simp only at V W X w z Y;by_cases G:k<x.b.toNat
    .have Z:decide ((k:Int)<x.b)=true:=by grind
     obtain⟨r,h0⟩:∃r,x.b.toNat-k=r+1:=⟨x.b.toNat-k-1,by omega⟩;rw[h0]at m;obtain⟨p',s1,s2,s3,s4⟩:=m;have H:=F p (by omega) (by omega);rw[JN s1]at H;have w5:=DU k;simp only[eE,seval,↓eP,rP,V,W,X,w,z,Y,Z,FO (show p<l.length by omega),f,KM H,w5];exact⟨G,p',rfl,by omega,by omega,by grind⟩
    .have Z:decide ((k:Int)<x.b)=false:=by grind
     rw[show x.b.toNat-k=0 by omega]at m;have g4:p=AE l b:=m;have h3:=LZ (x:=(p:Int)) f (show b<E.length by omega) (by omega);have h7:M.a=h.a+1:=e;have I:(h.a<M.a)=True:=by grind
     simp only[eE,seval,↓eP,rP,V,W,X,w,z,Y,Z,FO o,h3,w2,I];refine⟨P,e,u,fun i J=>by grind,E.set b (p:Int),by grind,rfl,fun i K M=>?_⟩;rw[List.getElem?_set];by_cases g5:b=i;.grind
     .grind
  .have S:decide ((l.length:Int)-1-(j:Int)>=0)=false:=by grind
   have h4:E=AZ l:=by
    apply eh;intro i;by_cases J:i<l.length;.rw[F i (by omega) J,NU J]
    .rw[de (by omega),de (by rw[UC];omega)]
   subst h4;simp only[eE,seval,↓eP,O,D,S];exact⟨f,e,u,d⟩
theorem Cz{l L:List AF}{v:Value}{h:AA}(ht:DM l)(w:KW L l)(hv:A8 h v L)(z:l.length<30000000000000)(hn:l.length+3<n)(h7:h.b<=h.a):∃c,AW prog call n 88 [v] h=some (qS h.a l.length l.length,c)/\(c.c h.a=.row (ints (AZ l)) 3 false false/\c.a=h.a+1/\c.b=h.b/\∀i,i<h.a->c.c i=h.c i):=by
 refine EA (R:=fun c=>c.c h.a=.row (ints (AZ l)) 3 false false/\c.a=h.a+1/\c.b=h.b/\∀i,i<h.a->c.c i=h.c i) func88 rfl (by simp) ?_;have hr:f88.results.toList=[.tmp 2]:=rfl;have A:∀c,CU prog c 22 v=some (.int .i64 l.length):=fun c=>by rw[<-w.1];exact hv.c
 have h4:=ht.V;have w0:IntKind.i64.wrap ((l.length:Int)-1)=(l.length:Int)-1:=BR;simp only[eE,seval,hr,A,TO z,w0];refine WK.b (fun j s=>s.T.a 0=v/\s.T.a 3=qS h.a l.length l.length/\s.T.a 4=iv ((l.length:Int)-1-(j:Int))/\s.h.a=h.a+1/\s.h.b=h.b/\(∀i,i<h.a->s.h.c i=h.c i)/\∃E:List Int,E.length=l.length/\s.h.c h.a=.row (ints E) 3 false false/\∀i,l.length-j<=i->i<l.length->E[i]?=some (AE l i:Int)) l.length (by omega) ?_ ?_;.simp only[eE,seval,rP];refine⟨by omega,fun i H=>by grind,List.replicate l.length 0,by simp,rfl,fun i I J=>by omega⟩
 .rintro j⟨T1,I⟩hj⟨t0,K,B,e,u,d,E,hE,f,C⟩;simp only at t0 K B e u d f;by_cases M:j<l.length
  .obtain⟨b,N⟩:∃a:Nat,(l.length:Int)-1-(j:Int)=(a:Int):=⟨l.length-1-j,by omega⟩;have o:b<l.length:=by omega
   rw[N]at B;have O:decide ((b:Int)>=0)=true:=by simp
   have w1:=DU b;have w2:IntKind.i64.wrap ((b:Int)-1)=(l.length:Int)-1-((j+1:Nat):Int):=by rw[BR];omega
   have t:=ht.U o;obtain⟨x,hx,h8,h9,g⟩:=t.a;have P:A8 I v L:=hv.a (by omega) d;obtain⟨y,hy,Q⟩:=w.2 b x hx;obtain⟨id,q,e0,g0,l0,l1,l2,l3,S,lr⟩:=P.b hy;rw[Q]at S;have g1:=HM _ _ _ g;have g2:=t.b;simp only[eE,↓reduceIte,Nat.reduceEqDiff,↓eP,B,O,w1];refine WK.b (fun k s=>s.h=I/\s.T.a 0=v/\s.T.a 3=qS h.a l.length l.length/\s.T.a 4=iv b/\s.T.a 6=iv k/\∃p:Nat,s.T.a 5=iv p/\b<p/\k<=x.b.toNat/\F_ l (x.b.toNat-k) p (AE l b)) x.b.toNat (by omega) ?_ ?_
   .simp only[eE,↓reduceIte,Nat.reduceEqDiff,reduceCtorEq,rP,t0,K,B];refine⟨rfl,b+1,rfl,by omega,by assumption⟩
   .rintro k⟨T2,J⟩hk⟨rfl,T,U,V,W,p,X,hp,h5,m⟩;simp only at T U V W X;by_cases D:k<x.b.toNat
    .have Y:decide ((k:Int)<x.b)=true:=by grind
     obtain⟨r,Z⟩:∃r,x.b.toNat-k=r+1:=⟨x.b.toNat-k-1,by omega⟩;rw[Z]at m;obtain⟨p',s1,s2,s3,s4⟩:=m;have F:=C p (by omega) (by omega);rw[JN s1]at F;have w5:=DU k;simp only[eE,seval,↓eP,rP,T,U,V,W,X,Y,e0,S,FO (show p<l.length by omega),f,KM F,w5];exact⟨D,p',rfl,by omega,by omega,by grind⟩
    .have Y:decide ((k:Int)<x.b)=false:=by grind
     rw[show x.b.toNat-k=0 by omega]at m;have g3:p=AE l b:=m;have h0:=LZ (x:=(p:Int)) f (show b<E.length by omega) (by omega);have h6:J.a=h.a+1:=e;have G:(h.a<J.a)=True:=by grind
     simp only[eE,seval,↓eP,rP,T,U,V,W,X,Y,e0,S,FO o,h0,w2,G];refine⟨M,e,u,fun i H=>by grind,E.set b (p:Int),by grind,rfl,fun i I J=>?_⟩;rw[List.getElem?_set];by_cases g4:b=i;.grind
     .grind
  .have O:decide ((l.length:Int)-1-(j:Int)>=0)=false:=by grind
   have h3:E=AZ l:=by
    apply eh;intro i;by_cases H:i<l.length;.rw[C i (by omega) H,NU H]
    .rw[de (by omega),de (by rw[UC];omega)]
   subst h3;simp only[eE,seval,↓eP,K,B,O];exact⟨f,e,u,d⟩
theorem rk{l:List AF}{v:Value}{h:AA}(d:DM l)(e:A8 h v l)(a:l.length<30000000000000)(f:l.length+3<n)(c:h.b<=h.a):∃b,AW prog call n 63 [v] h=some (qS h.a l.length l.length,b)/\(b.c h.a=.row (ints (AZ l)) 3 false false/\b.a=h.a+1/\b.b=h.b/\∀i,i<h.a->b.c i=h.c i):=Dz d (Hk l) e a f c
theorem rm{l:List AF}{v:Value}{h:AA}(d:DM l)(e:A8 h v l)(a:l.length<30000000000000)(f:l.length+3<n)(c:h.b<=h.a):∃b,AW prog call n 88 [v] h=some (qS h.a l.length l.length,b)/\(b.c h.a=.row (ints (AZ l)) 3 false false/\b.a=h.a+1/\b.b=h.b/\∀i,i<h.a->b.c i=h.c i):=Cz d (Hk l) e a f c
end
def KB(w:Int):Int:=if w=8 then 0 else if w=9 then 1 else w
def RD(w:Int):Prop:=w=8\/w=9\/w=2\/w=3\/w=4\/w=5\/w=6\/w=7
theorem Pz{w k:Int}(h:IB w k=true):1<=k/\k<=54:=by
 unfold IB at h;split at h;.grind
 .exact XP h
theorem L8{P:Program}{t:TypeId}{x y:Operand}{a b:ByteArray}:CT P .neq t x y (.string a) (.string b)=some (.bool (!(a==b))):=by
 have e:BZ P (do eqGuard .neq t x y (.string a) (.string b);binOp .neq t (.string a) (.string b))=some (.bool (!(a==b))):=by
  rw[EF];have g:BZ P (eqGuard .neq t x y (.string a) (.string b))=some ():=rfl;rw[g,<-Ig];simp[binOp,Op.stringOp,Option.bind];rfl
 assumption
theorem rn{s:ByteArray}(h:(s==⟨#[]⟩)=true):BG s=false:=by have:=OA h;subst this;rfl
section
variable {call:AY} {n:Nat} {h:AA}
theorem rp{k:Int}:AW prog call n 221 [iv k] h=some (.bool (decide (k>=2)&&decide (k<=7)),h):=by refine DO func221 rfl (by simp) ?_;have a:f221.results.toList=[.tmp 2]:=rfl;cases d:decide (k>=2)<;>simp only[eE,seval,rP,a,d,bz]
theorem rq{k:Int}:AW prog call n 222 [iv k] h=some (.bool (E9 k),h):=by refine DO func222 rfl (by simp) ?_;have a:f222.results.toList=[.tmp 2]:=rfl;unfold E9;cases d:decide (k>=8)<;>simp only[eE,seval,rP,a,d,bz]
theorem rr{k:Int}:AW prog call n 290 [iv k] h=some (.bool (decide (k>=11)&&decide (k<=23)),h):=by refine DO func290 rfl (by simp) ?_;have a:f290.results.toList=[.tmp 2]:=rfl;cases d:decide (k>=11)<;>simp only[eE,seval,rP,a,d,bz]
theorem rs{k:Int}:AW prog call n 291 [iv k] h=some (.bool (decide (k>=27)&&decide (k<=54)),h):=by refine DO func291 rfl (by simp) ?_;have a:f291.results.toList=[.tmp 2]:=rfl;cases d:decide (k>=27)<;>simp only[eE,seval,rP,a,d,bz]
theorem rv{w k:Int}(g:RD w)(c:call 221 [iv k] h=some (.bool (decide (k>=2)&&decide (k<=7)),h))(f:call 222 [iv k] h=some (.bool (E9 k),h))(i:call 290 [iv k] h=some (.bool (decide (k>=11)&&decide (k<=23)),h))(j:call 291 [iv k] h=some (.bool (decide (k>=27)&&decide (k<=54)),h)):AW prog call n 251 [iv k,iv (KB w)] h=some (.bool (IB w k),h):=by
 refine DO func251 rfl (by simp) ?_;have b:f251.results.toList=[.tmp 4]:=rfl;unfold E9 at f;rcases g with rfl|rfl|rfl|rfl|rfl|rfl|rfl|rfl;.have e:KB 8=0:=rfl;have a:IB 8 k=(k==1):=rfl;rw[e,a];simp only[eE,seval,↓eP,b]
 .have e:KB 9=1:=rfl;have a:IB 9 k=(decide (k>=2)&&decide (k<=10)):=rfl;rw[e,a];cases d:(decide (k>=2)&&decide (k<=7))with
  |true=>
   rw[d]at c;have:(decide (k>=2)&&decide (k<=10))=true:=by grind
   simp only[eE,seval,↓eP,Int.reduceBEq,b,c,this]|false=>
   rw[d]at c;have:(decide (k>=2)&&decide (k<=10))=(decide (k>=8)&&decide (k<=10)):=by grind
   simp only[eE,seval,↓eP,Int.reduceBEq,b,c,f,this]
 .have e:KB 2=2:=rfl;have a:IB 2 k=(k==11):=rfl;rw[e,a];simp only[eE,seval,↓eP,Int.reduceBEq,b]
 .have e:KB 3=3:=rfl;have a:IB 3 k=(decide (k>=11)&&decide (k<=23)):=rfl;rw[e,a];simp only[eE,seval,↓eP,Int.reduceBEq,b,i]
 .have e:KB 4=4:=rfl;have a:IB 4 k=(k==11||k==12):=rfl;rw[e,a];cases d:(k==11)<;>simp only[eE,seval,↓eP,Int.reduceBEq,b,d,fa,eg]
 .have e:KB 5=5:=rfl;have a:IB 5 k=(k==25||k==26):=rfl;rw[e,a];cases d:(k==25)<;>simp only[eE,seval,↓eP,Int.reduceBEq,b,d,fa,eg]
 .have e:KB 6=6:=rfl;have a:IB 6 k=(k==24):=rfl;rw[e,a];simp only[eE,seval,↓eP,Int.reduceBEq,b]
 .have e:KB 7=7:=rfl;have a:IB 7 k=(decide (k>=27)&&decide (k<=54)):=rfl;rw[e,a];simp only[eE,seval,↓eP,Int.reduceBEq,b,j]
abbrev CW(x:AF):Value:=.agg #[iv x.a,.string x.c,iv x.d,iv x.n,iv x.b]
theorem rx{w:Int}{x:AF}(v:∀h,call 251 [iv x.a,iv (KB w)] h=some (.bool (IB w x.a),h))(M:∀h,1<=x.a/\x.a<=54->call 252 [iv x.a] h=some (.bool (MP x.a),h))(N:∀h,1<=x.a/\x.a<=54->call 253 [iv x.a] h=some (.bool (KD x.a),h))(E:∀h,call 254 [.string x.c] h=some (.bool (BG x.c),h))(O:∀h,1<=x.a/\x.a<=54->call 255 [iv x.a] h=some (.tuple #[iv (F8 x.a),iv (DV x.a)],h)):∃Y,AW prog call n 220 [CW x,iv (KB w)] (GK 1 0)=some (.bool (IB w x.a&&EW BG x),Y)/\True:=by
 refine EA (R:=fun _=>True) func220 rfl (by simp[f220]) ?_;have P:f220.results.toList=[.tmp 4]:=rfl;have i:([iv x.a,.string x.c,iv x.d,iv x.n,iv x.b]:List Value).all one=true:=rfl;generalize y:(IB w x.a&&EW BG x)=V;cases G:IB w x.a with
 |false=>
  rw[G]at y v;rw[bz]at y;subst y;simp only[eE,seval,↓eP,rP,P,i,GC,v]|true=>
  rw[G]at y v;rw[fk]at y;have I:=Pz G;have t:=fun h=>M h I;have q:=fun h=>N h I;have z:=fun h=>O h I;clear M N O;have Z:(x.c==ByteArray.empty)=(x.c==⟨#[]⟩):=rfl;unfold EW at y;rw[Z]at y;have J:(x.c==⟨#[]⟩)=true->BG x.c=false:=rn;generalize L:DH.top (fun e s=>(e=FJ.normal\/e=FJ.ret)/\∃Q,F5 prog s f220.results.toList=some Q/\GU Q=Value.bool V/\True)=K;have A:∀(k:Tr)H b,k.a 4=.bool b->b=V->K.a prog call n .ret ⟨k,H⟩:=fun k H b h4 hb=>by
   subst hb;rw[<-L];simp only[eE,seval,P,h4]
  have f:∀(k:Tr)H,k.a 4=.bool false->V=false->K.a prog call n .ret ⟨k,H⟩:=by grind
  have S:∀k:Tr,k.a 2=qP 1 0->(decide (x.b>=F8 x.a)&&(decide (DV x.a<0)||decide (x.b<=DV x.a)))=V->WK prog call n (rt (rt (rt (rt (f220.body.getD .skip))))) ⟨k,(GK 1 0).d (.row [iv x.a,.string x.c,iv x.d,iv x.n,iv x.b] 125 false false)⟩ K:=by intro k l d;show WK _ _ _ (.seq _ _) _ _;cases g:decide (x.b>=F8 x.a)with|false=>rw[g,bz]at d;simp only[eE,seval,rP,l,z,g];exact A _ _ false (by simp only[Tr.b,ai]) d|true=>rw[g,fk]at d;cases m:decide (DV x.a<0)with|true=>rw[m,fa]at d;simp only[eE,seval,rP,l,z,g,m];exact A _ _ true (by simp only[Tr.b,ai]) d|false=>
     rw[m,eg]at d;simp only[eE,seval,rP,l,z,g,m];exact A _ _ _ (by simp only[Tr.b,ai]) d
  have T:∀k:Tr,k.a 2=qP 1 0->((x.n==0||x.a==27&&decide (x.n>0)&&decide (x.n<=1073741824))&&(decide (x.b>=F8 x.a)&&(decide (DV x.a<0)||decide (x.b<=DV x.a))))=V->WK prog call n (rt (rt (rt (f220.body.getD .skip)))) ⟨k,(GK 1 0).d (.row [iv x.a,.string x.c,iv x.d,iv x.n,iv x.b] 125 false false)⟩ K:=by intro k l d;show WK _ _ _ (.seq _ (rt (rt (rt (rt (f220.body.getD .skip)))))) _ _;cases j:(x.a==27)with
   |true=>
    have p:(x.a !=27)=false:=by rw[bne,j];rfl
    cases g:decide (x.n<0)with
    |true=>
     have r:(x.n==0)=false:=by rw[ax];simp only[am]at g;omega
     have u:decide (x.n>0)=false:=by simp only[am]at g;simp only[bk];omega
     rw[r,u]at d;simp only[eE,seval,↓eP,rP,l,j,g];exact f _ _ (by simp only[Tr.b,ai]) (by rw[<-d];simp)|false=>cases m:decide (x.n>1073741824)with
     |true=>
      have r:(x.n==0)=false:=by rw[ax];simp only[am]at m;omega
      have u:decide (x.n<=1073741824)=false:=by simp only[am]at m;simp only[bk];omega
      rw[r,u]at d;simp only[eE,seval,↓eP,rP,l,j,g,m];exact f _ _ (by simp only[Tr.b,ai]) (by rw[<-d];simp)|false=>
      have u:(x.n==0||decide (x.n>0)&&decide (x.n<=1073741824))=true:=by
       simp only[bk]at g m;simp only[bu,ah,am,ak];omega
      rw[j,fk,u,fk]at d;simp only[eE,seval,↓eP,rP,l,j,p,g,m];exact S _ (by simp only[Tr.b,aj,Nat.reduceEqDiff,bi,l]) d
   |false=>
    have p:(x.a !=27)=true:=by rw[bne,j];rfl
    cases g:(x.n==0)with
    |false=>
     have o:(x.n !=0)=true:=by rw[bne,g];rfl
     rw[g,j]at d;simp only[eE,seval,↓eP,rP,l,j,p,o];exact f _ _ (by simp only[Tr.b,ai]) (by rw[<-d];simp)|true=>
     have o:(x.n !=0)=false:=by rw[bne,g];rfl
     rw[g,fa,fk]at d;simp only[eE,seval,↓eP,rP,l,j,p,o];exact S _ (by simp only[Tr.b,aj,Nat.reduceEqDiff,bi,l]) d
  have U:∀k:Tr,k.a 2=qP 1 0->(((BG x.c==KD x.a)&&(KD x.a||x.c==⟨#[]⟩))&&((x.n==0||x.a==27&&decide (x.n>0)&&decide (x.n<=1073741824))&&(decide (x.b>=F8 x.a)&&(decide (DV x.a<0)||decide (x.b<=DV x.a)))))=V->WK prog call n (rt (rt (f220.body.getD .skip))) ⟨k,(GK 1 0).d (.row [iv x.a,.string x.c,iv x.d,iv x.n,iv x.b] 125 false false)⟩ K:=by
   intro k l d;show WK _ _ _ (.seq _ (rt (rt (rt (f220.body.getD .skip))))) _ _;cases W:KD x.a with
   |true=>rw[W]at d q;cases X:BG x.c with
    |true=>
     rw[X]at d E;simp only[eE,seval,↓eP,rP,l,q,E];exact T _ (by simp only[Tr.b,aj,Nat.reduceEqDiff,bi,l]) (by rw[<-d];simp)|false=>
     rw[X]at d E;simp only[eE,seval,↓eP,rP,l,q,E];exact f _ _ (by simp only[Tr.b,ai]) (by rw[<-d];simp)
   |false=>
    rw[W]at d q;cases D:(x.c==⟨#[]⟩)with
    |true=>
     rw[D,J D]at d;simp only[eE,seval,↓eP,rP,l,q,L8,D];exact T _ (by simp only[Tr.b,aj,Nat.reduceEqDiff,bi,l]) (by rw[<-d];simp)|false=>
     rw[D]at d;simp only[eE,seval,↓eP,rP,l,q,L8,D];exact f _ _ (by simp only[Tr.b,ai]) (by rw[<-d];simp)
  have d:((x.d==0||MP x.a&&x.d==1)&&(((BG x.c==KD x.a)&&(KD x.a||x.c==⟨#[]⟩))&&((x.n==0||x.a==27&&decide (x.n>0)&&decide (x.n<=1073741824))&&(decide (x.b>=F8 x.a)&&(decide (DV x.a<0)||decide (x.b<=DV x.a))))))=V:=by
   rw[<-y];generalize(BG x.c==KD x.a&&(KD x.a||x.c=={data:=#[]}))=a;generalize(x.d==0||MP x.a&&x.d==1)=b;generalize(x.n==0||x.a==27&&decide (x.n>0)&&decide (x.n<=1073741824))=c;cases a<;>cases b<;>cases c<;>simp
  show WK _ _ _ (.seq _ (.seq _ (rt (rt (f220.body.getD .skip))))) _ _;cases g:decide (x.d<0)with
  |true=>
   have r:(x.d==0)=false:=by rw[ax];simp only[am]at g;omega
   have u:(x.d==1)=false:=by rw[ax];simp only[am]at g;omega
   rw[r,u]at d;simp only[eE,seval,↓eP,rP,i,GC,v,g];exact f _ _ (by simp only[Tr.b,ai]) (by rw[<-d];simp)|false=>cases m:decide (x.d>1)with
   |true=>
    have r:(x.d==0)=false:=by rw[ax];simp only[am]at m;omega
    have u:(x.d==1)=false:=by rw[ax];simp only[am]at m;omega
    rw[r,u]at d;simp only[eE,seval,↓eP,rP,i,GC,v,g,m];exact f _ _ (by simp only[Tr.b,ai]) (by rw[<-d];simp)|false=>
    simp only[bk]at g m;have o:decide (x.d<0)=false:=by grind
    have B:decide (x.d>1)=false:=by grind
    cases C:(x.d==1)with
    |false=>
     have r:(x.d==0)=true:=by rw[ak];rw[ax]at C;omega
     rw[r,fa,fk]at d;simp only[eE,seval,↓eP,rP,i,GC,v,o,B,C];exact U _ (by simp only[Tr.b,aj,Nat.reduceEqDiff,bi,ai]) d|true=>
     have r:(x.d==0)=false:=by rw[ax];rw[ak]at C;omega
     cases F:MP x.a with
     |true=>
      rw[r,C,F]at d;rw[F]at t;simp only[eE,seval,↓eP,rP,i,GC,v,o,B,C,t];exact U _ (by simp only[Tr.b,aj,Nat.reduceEqDiff,bi,ai]) (by rw[<-d];simp)|false=>rw[r,F]at d;rw[F]at t;simp only[eE,seval,↓eP,rP,i,GC,v,o,B,C,t];exact f _ _ (by simp only[Tr.b,ai]) (by rw[<-d];simp)
end
end Go.Proofs.YtjailoenloejbaaGreatDoor




