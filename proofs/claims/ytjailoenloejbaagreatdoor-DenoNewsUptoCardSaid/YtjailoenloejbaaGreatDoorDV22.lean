/- Part 22. -/
import Derived.Test.YtjailoenloejbaaGreatDoorDV21
import Derived.OpenShut
import Derived.WalkKit
import Derived.Carry
import Derived.ChangeArms
set_option linter.all false
namespace Go.Proofs.YtjailoenloejbaaGreatDoor
open Go Go.Sx Go.ChangeShapes Go.WideShapes Go.ChangeAt Go.RowKit Go.Proofs.Tryz
set_option maxRecDepth 100000
set_option maxHeartbeats 0
theorem lI:prog.cellsOf 125=5:=by kernel_rfl
theorem OQ:prog.cellsOf 3=1:=by kernel_rfl
theorem bK:prog.cellsOf 9=1:=by kernel_rfl
def W6(x:AF):Prop:=(-9223372036854775808<=x.a/\x.a<=9223372036854775807)/\(-9223372036854775808<=x.d/\x.d<=9223372036854775807)/\(-9223372036854775808<=x.n/\x.n<=9223372036854775807)/\(-9223372036854775808<=x.b/\x.b<=9223372036854775807)
section
variable {H:Type} {enc:TypeId × Value->H} {W:World} {base:Nat} {sp:Nat->Bool} {hd:Bool}
theorem pU{n:Nat}{cs:List Value}{y:DataW H×List MemPlace}(h:DataW.trod enc prog W base sp hd n 125 cs=some y):∃x:AF,cs=AQ x/\W6 x:=by
 obtain⟨f,m,_,_,s,q,r⟩:=gi ez h;rw[lI]at s;obtain⟨j,k,l,o,p,rfl⟩:∃j k l o p,cs=[j,k,l,o,p]:=by match cs,s with|[a,b,c,d,e],_=>simp
 have q:f.length=5:=q;have g:∀i,i<5->∃y,f[i]?=some y:=by grind
 obtain⟨O,A⟩:=g 0 (by omega);obtain⟨P,B⟩:=g 1 (by omega);obtain⟨Q,C⟩:=g 2 (by omega);obtain⟨R,D⟩:=g 3 (by omega);obtain⟨S,E⟩:=g 4 (by omega);have t:DataW.trod enc prog W base sp hd m 3 (([j,k,l,o,p].drop 0).take (prog.cellsOf 3))=f[0]?:=r 0 _ rfl;rw[OQ,A]at t;have u:DataW.trod enc prog W base sp hd m 9 (([j,k,l,o,p].drop 1).take (prog.cellsOf 9))=f[1]?:=r 1 _ rfl;rw[bK,B]at u;have v:DataW.trod enc prog W base sp hd m 3 (([j,k,l,o,p].drop 2).take (prog.cellsOf 3))=f[2]?:=r 2 _ rfl;rw[OQ,C]at v;have w:DataW.trod enc prog W base sp hd m 3 (([j,k,l,o,p].drop 3).take (prog.cellsOf 3))=f[3]?:=r 3 _ rfl;rw[OQ,D]at w;have z:DataW.trod enc prog W base sp hd m 3 (([j,k,l,o,p].drop 4).take (prog.cellsOf 3))=f[4]?:=r 4 _ rfl;rw[OQ,E]at z;obtain⟨a,F,_,G⟩:=gK dc t;obtain⟨b,I,_,T⟩:=DataW.trod_string fh u;obtain⟨c,J,_,K⟩:=gK dc v;obtain⟨d,hd,_,L⟩:=gK dc w;obtain⟨e,M,_,N⟩:=gK dc z;cases F;cases I;cases J;cases hd;cases M;exact⟨⟨a,b,c,d,e⟩,rfl,bounds_i64 G,bounds_i64 K,bounds_i64 L,bounds_i64 N⟩
end
theorem sO{b off k:Nat}:(⟨b,off,none⟩:Addr).add k=⟨b,off+k,none⟩:=by unfold Addr.add;simp
theorem Bz{W:World}{base b off n:Nat}{cs:List Value}(h:W.cells? base ⟨b,off,none⟩ n=some cs):cs.length=n/\∀i,i<n->W.cell? ⟨b,off+i,none⟩=cs[i]?:=by
 unfold World.cells? at h;split at h
 .refine⟨by simpa using mapM_some_length h,fun i a=>?_⟩;have:=mapM_some_get h i i (by simp[a]);rw[<-this,sO]
 .cases h
theorem Z1{x:AF}{j:Nat}{v:Value}(h:(AQ x)[j]?=some v):B7 v=true:=by match j,h with
 |0,h=>cases h;rfl|1,h=>cases h;rfl|2,h=>cases h;rfl|3,h=>cases h;rfl|4,h=>cases h;rfl
end Go.Proofs.YtjailoenloejbaaGreatDoor
namespace Go.Proofs.YtjailoenloejbaaGreatDoor
open Go Go.Sx Go.Proofs.Tryz
set_option maxRecDepth 100000
set_option maxHeartbeats 0
def O3(a b:AF):Bool:=a.a==b.a&&(a.c==b.c&&(a.d==b.d&&(a.n==b.n&&a.b==b.b)))
theorem XK{P:Program}{t:TypeId}{a b:ByteArray}(h:P.underlying t=some .string)(d:Nat):BZ P (Op.equalIn (d+1) t (.string a) (.string b))=some (a==b):=by rw[Op.equalIn,EF,R3 h];simp[KU]
theorem Rg{P:Program}{t:TypeId}{a b:Bool}(h:P.underlying t=some .bool)(d:Nat):BZ P (Op.equalIn (d+1) t (.bool a) (.bool b))=some (a==b):=by rw[Op.equalIn,EF,R3 h];simp[KU]
theorem zq:prog.stoodInHeld 125=false:=by simp
theorem zt:prog.stoodInHeld 158=false:=by simp
theorem bH{a c d e:Int}{b:ByteArray}:BZ prog (part 3 #[.int .i64 a,.string b,.int .i64 c,.int .i64 d,.int .i64 e] 0)=some (.int .i64 a)/\BZ prog (part 9 #[.int .i64 a,.string b,.int .i64 c,.int .i64 d,.int .i64 e] 1)=some (.string b)/\BZ prog (part 3 #[.int .i64 a,.string b,.int .i64 c,.int .i64 d,.int .i64 e] 2)=some (.int .i64 c)/\BZ prog (part 3 #[.int .i64 a,.string b,.int .i64 c,.int .i64 d,.int .i64 e] 3)=some (.int .i64 d)/\BZ prog (part 3 #[.int .i64 a,.string b,.int .i64 c,.int .i64 d,.int .i64 e] 4)=some (.int .i64 e):=⟨rfl,rfl,rfl,rfl,rfl⟩
theorem Oo{a:ByteArray}{b:Bool}:BZ prog (part 9 #[.string a,.bool b] 0)=some (.string a)/\BZ prog (part 4 #[.string a,.bool b] 1)=some (.bool b):=⟨rfl,rfl⟩
theorem zu{a b:AF}(n:Nat):BZ prog (Op.equalIn (n+2) 125 (CW a) (CW b))=some (O3 a b):=by
 obtain⟨c,d,e,f,g⟩:=a;obtain⟨h,i,j,k,l⟩:=b;show BZ prog (Op.equalIn (n+2) 125 (.agg #[.int .i64 c,.string d,.int .i64 e,.int .i64 f,.int .i64 g]) (.agg #[.int .i64 h,.string i,.int .i64 j,.int .i64 k,.int .i64 l]))=some (c==h&&(d==i&&(e==j&&(f==k&&g==l))));rw[Op.equalIn,EF,R3 ez];simp only[cp,EF,OS,zq,aV,bi];simp only[List.forIn_toArray,List.forIn_cons,List.forIn_nil,ne_eq,String.reduceEq,not_false_eq_true,ai,EF,bH.1,cp,O8 dc];cases m:(c==h)<;>simp[EF,KU,bH.2.1,XK fh,-beq_iff_eq,-beq_eq_false_iff_ne];cases o:(d==i)<;>simp[EF,KU,bH.2.2.1,O8 dc,-beq_iff_eq,-beq_eq_false_iff_ne];cases p:(e==j)<;>simp[EF,KU,bH.2.2.2.1,O8 dc,-beq_iff_eq,-beq_eq_false_iff_ne];cases q:(f==k)<;>simp[EF,KU,bH.2.2.2.2,O8 dc,-beq_iff_eq,-beq_eq_false_iff_ne];cases r:(g==l)<;>simp[KU,-beq_iff_eq,-beq_eq_false_iff_ne]
theorem zv{a c:ByteArray}{b d:Bool}(n:Nat):BZ prog (Op.equalIn (n+2) 158 (.agg #[.string a,.bool b]) (.agg #[.string c,.bool d]))=some (a==c&&b==d):=by rw[Op.equalIn,EF,R3 fo];simp only[cp,EF,OS,zt,aV,bi];simp only[List.forIn_toArray,List.forIn_cons,List.forIn_nil,ne_eq,String.reduceEq,not_false_eq_true,ai,EF,Oo.1,cp,XK fh];cases e:(a==c)<;>simp[EF,KU,Oo.2,Rg gm,-beq_iff_eq,-beq_eq_false_iff_ne];cases f:(b==d)<;>simp[KU,-beq_iff_eq,-beq_eq_false_iff_ne]
theorem Cd{a:AF}:flat (CW a)=true:=rfl
theorem Bv{a:ByteArray}{b:Bool}:flat (.agg #[.string a,.bool b])=true:=rfl
section
variable {x y:Operand}
theorem Fv(f:BinOp)(c:Bool)(d:f=if c then .neq else .eql){a b:AF}:CT prog f 125 x y (CW a) (CW b)=some (.bool (if c then !(O3 a b)else O3 a b)):=by have k:BZ prog (Op.equal 125 (CW a) (CW b))=some (O3 a b):=zu 9998;cases c with
 |true=>
  subst d;have e:BZ prog (do eqGuard .neq 125 x y (CW a) (CW b);binOp .neq 125 (CW a) (CW b))=some (.bool (!(O3 a b))):=by
   rw[EF];have g:BZ prog (eqGuard .neq 125 x y (CW a) (CW b))=some ():=by
    unfold eqGuard;simp[EF,OS,KU]
   rw[g];show BZ prog ((do pure (.bool (!(<-Op.equal 125 (CW a) (CW b))))):Sem Value)=_;rw[EF,k];rfl
  simp only[CT,Cd,ao,ai,e,OL]|false=>
  subst d;have e:BZ prog (do eqGuard .eql 125 x y (CW a) (CW b);binOp .eql 125 (CW a) (CW b))=some (.bool (O3 a b)):=by
   rw[EF];have g:BZ prog (eqGuard .eql 125 x y (CW a) (CW b))=some ():=by
    unfold eqGuard;simp[EF,OS,KU]
   rw[g];show BZ prog ((do pure (.bool (<-Op.equal 125 (CW a) (CW b)))):Sem Value)=_;rw[EF,k];rfl
  simp only[aV,bi,CT,Cd,ao,ai,e,OL]
theorem eq46{a b:AF}:CT prog .eql 125 x y (CW a) (CW b)=some (.bool (O3 a b)):=Fv .eql false rfl
theorem Ao{a b:AF}:CT prog .neq 125 x y (CW a) (CW b)=some (.bool (!(O3 a b))):=Fv .neq true rfl
theorem Kj(i:BinOp)(f:Bool)(h:i=if f then .neq else .eql){a c:ByteArray}{b d:Bool}:CT prog i 158 x y (.agg #[.string a,.bool b]) (.agg #[.string c,.bool d])=some (.bool (if f then !(a==c&&b==d)else(a==c&&b==d))):=by
 have k:BZ prog (Op.equal 158 (.agg #[.string a,.bool b]) (.agg #[.string c,.bool d]))=some (a==c&&b==d):=zv 9998;cases f with
 |true=>
  subst h;have e:BZ prog (do eqGuard .neq 158 x y (.agg #[.string a,.bool b]) (.agg #[.string c,.bool d]);binOp .neq 158 (.agg #[.string a,.bool b]) (.agg #[.string c,.bool d]))=some (.bool (!(a==c&&b==d))):=by
   rw[EF];have g:BZ prog (eqGuard .neq 158 x y (.agg #[.string a,.bool b]) (.agg #[.string c,.bool d]))=some ():=by
    unfold eqGuard;simp[EF,OS,KU]
   rw[g];show BZ prog ((do pure (.bool (!(<-Op.equal 158 (.agg #[.string a,.bool b]) (.agg #[.string c,.bool d]))))):Sem Value)=_;rw[EF,k];rfl
  simp only[CT,Bv,ao,ai,e,OL]|false=>
  subst h;have e:BZ prog (do eqGuard .eql 158 x y (.agg #[.string a,.bool b]) (.agg #[.string c,.bool d]);binOp .eql 158 (.agg #[.string a,.bool b]) (.agg #[.string c,.bool d]))=some (.bool (a==c&&b==d)):=by
   rw[EF];have g:BZ prog (eqGuard .eql 158 x y (.agg #[.string a,.bool b]) (.agg #[.string c,.bool d]))=some ():=by unfold eqGuard;simp[EF,OS,KU]
   rw[g];show BZ prog ((do pure (.bool (<-Op.equal 158 (.agg #[.string a,.bool b]) (.agg #[.string c,.bool d])))):Sem Value)=_;rw[EF,k];rfl
  simp only[aV,bi,CT,Bv,ao,ai,e,OL]
theorem eq57{a c:ByteArray}{b d:Bool}:CT prog .eql 158 x y (.agg #[.string a,.bool b]) (.agg #[.string c,.bool d])=some (.bool (a==c&&b==d)):=Kj .eql false rfl
theorem zN{a c:ByteArray}{b d:Bool}:CT prog .neq 158 x y (.agg #[.string a,.bool b]) (.agg #[.string c,.bool d])=some (.bool (!(a==c&&b==d))):=Kj .neq true rfl
end
theorem zw{a b:ByteArray}:(a==b)=true↔a=b:=by obtain⟨a⟩:=a;obtain⟨b⟩:=b;show(a==b)=true↔_;simp
theorem VP{a b:AF}:O3 a b=true↔a=b:=by obtain⟨c,d,e,f,g⟩:=a;obtain⟨h,i,j,k,l⟩:=b;unfold O3;simp only[ah,ak,zw,AF.mk.injEq]
theorem J8{lo:Nat}{h:AA}{v:Value}{n w:Nat}{cs:List Value}(a:AL lo h v n w cs)(h':AA):CU prog h' 25 v=some (iv (n:Int)):=AL.c a au
theorem QI{lo:Nat}{h:AA}{v:Value}{n w:Nat}{cs:List Value}(a:AL lo h v n w cs)(h':AA):CU prog h' 24 v=some (iv (n:Int)):=AL.c a cN
theorem P8{lo:Nat}{h:AA}{v:Value}{n w:Nat}{cs:List Value}(a:AL lo h v n w cs)(h':AA):CU prog h' 23 v=some (iv (n:Int)):=AL.c a ci
theorem Q6{lo:Nat}{h:AA}{v:Value}{n w:Nat}{cs:List Value}(a:AL lo h v n w cs)(h':AA):CU prog h' 22 v=some (iv (n:Int)):=AL.c a bq
theorem YX{l:List ByteArray}{i:Nat}{x:ByteArray}(b:l[i]?=some x){lo:Nat}{h:AA}{v:Value}(c:AL lo h v l.length 1 (DN l)):∃a p,BW prog 24 v (iv (i:Int))=some (qP a p)/\a<h.a/\AI p (h.c a)=some (.string x):=by
 obtain⟨a,p,d,e,f⟩:=AL.j c cN KN (ae.1 b).1;refine⟨a,p,d,e,?_⟩;have:=f 0 (by decide);rw[fe]at this;rw[this,cy,fe,DN,bT,b];rfl
theorem x_:∀{l:List (ByteArray×Bool)}{i:Nat}{x:ByteArray×Bool},l[i]?=some x->((EH l).drop (i*2)).take 2=[.string x.1,.bool x.2]
 |[],i,x,h=>by simp at h|q::l,0,x,h=>by simp only[dl,aj]at h;subst h;rfl|q::l,i+1,x,h=>by
  have:=x_ (l:=l) (i:=i) (x:=x) (by assumption);rw[<-this,show(i+1)*2=i*2+2 by omega];rfl
theorem aD{l:List (ByteArray×Bool)}{i:Nat}{x:ByteArray×Bool}(b:l[i]?=some x){lo:Nat}{h:AA}{v:Value}(c:AL lo h v l.length 2 (EH l)):∃a p,BW prog 23 v (iv (i:Int))=some (qP a p)/\a<h.a/\AX 2 p (h.c a)=some (.agg #[.string x.1,.bool x.2]):=by obtain⟨a,p,e,f,d⟩:=AL.i c ci PS (ae.1 b).1;rw[x_ b]at d;grind
theorem QQ{a:Type}{A B:List a}(b:A.length=B.length)(h:∀j,j<A.length->A[j]?=B[j]?):A=B:=by apply eh;grind
theorem Vo:HC prog 158=some true:=by kernel_rfl
theorem jV{h:AA}{id off:Nat}:EP prog h 158 (qP id off)=AX 2 off (h.c id):=NF Vo PS
def xM:List (Bool×Bool×List Operand):=[AO,AO,AO,AO,AH [.tmp 19],AH [.tmp 19],AH [.tmp 19],AH [.tmp 19],AJ]
section
variable {call:AY} {N:Nat} {h:AA}
theorem zx(m:C_ call){n o:Value}{A B:List Int}{D E:Nat}(v:AK D h n A)(w:AK E h o B)(T:A.length+3<N:=by omega)(U:A.length<30000000000000:=by omega):AW prog call N 241 [n,o] h=some (.bool (decide (A=B)),h):=by
 refine DO func241 rfl (by simp) ?_;have p:f241.results.toList=[.tmp 4]:=rfl;have k:=fun q=>J8 v q;have z:=fun q=>J8 w q;cases d:((A.length:Int)!=(B.length:Int))with
 |true=>
  have a:A≠B:=by grind
  rw[bp a];simp only[eE,↓reduceIte,Nat.reduceEqDiff,reduceCtorEq,↓eP,p,k,z,d]|false=>
  have c:A.length=B.length:=by grind
  simp only[eE,↓reduceIte,Nat.reduceEqDiff,reduceCtorEq,↓eP,k,z,d];refine WK.b (fun i l=>l.T.a 0=n/\l.T.a 1=o/\l.T.a 5=iv i/\l.h=h/\i<=A.length/\∀j,j<i->A[j]?=B[j]?) A.length (by omega) ?_ ?_;.simp only[eE,↓reduceIte,Nat.reduceEqDiff,reduceCtorEq,rP,Nat.reduceAdd];exact⟨rfl,fun j F=>by omega⟩
  .rintro i⟨V,W⟩X⟨f,r,g,C,G,b⟩;simp only at f r g C;subst C;by_cases s:i<A.length
   .have t:decide ((i:Int)<(A.length:Int))=true:=by grind
    obtain⟨x,H⟩:∃x,A[i]?=some x:=⟨_,aa s⟩;obtain⟨y,I⟩:∃y,B[i]?=some y:=⟨_,aa (by omega)⟩;obtain⟨J,Y,K,_,L⟩:=AK.V v H;obtain⟨M,Z,O,_,P⟩:=AK.V w I;have Q:=DU i;simp only[eE,seval,↓eP,f,g,k,t];refine WK.a (fs:=xM) (by kernel_rfl) ?_;unfold xM;iterate 9 refine DG m ?_;simp only[rG,seval,AB,AD,AC,A7,C8,f,r,g,K,O,AM,L,P]
    refine DF ?_;cases e:(x !=y)with
    |true=>
     have a:A≠B:=fun h9=>by grind
     rw[bp a];simp only[eE,seval,↓eP,p]|false=>
     have R:x=y:=by grind
     simp only[eE,seval,↓eP,f,r,g,Q];refine⟨by omega,by omega,fun j F=>?_⟩;rcases ar j i with S|S;.grind
     .grind
   .have t:decide ((i:Int)<(A.length:Int))=false:=by grind
    have:i=A.length:=by omega
    subst this;have u:A=B:=QQ c b;rw[bh u];simp only[eE,seval,↓eP,p,f,g,k,t]
end
def wN:List (Bool×Bool×List Operand):=[AO,AO,AO,AO,AH [.tmp 19],AH [.tmp 19],AH [.tmp 19],AH [.tmp 19],AJ]
section
variable {call:AY} {N:Nat} {h:AA}
theorem Zl(m:C_ call){n o:Value}{A B:List ByteArray}{F G:Nat}(w:AL F h n A.length 1 (DN A))(z:AL G h o B.length 1 (DN B))(U:A.length+3<N:=by omega)(V:A.length<30000000000000:=by omega):AW prog call N 240 [n,o] h=some (.bool (decide (A=B)),h):=by
 refine DO func240 rfl (by simp) ?_;have p:f240.results.toList=[.tmp 4]:=rfl;have k:=fun q=>QI w q;have C:=fun q=>QI z q;cases d:((A.length:Int)!=(B.length:Int))with
 |true=>
  have a:A≠B:=by grind
  rw[bp a];simp only[eE,↓reduceIte,Nat.reduceEqDiff,reduceCtorEq,↓eP,p,k,C,d]|false=>
  have c:A.length=B.length:=by grind
  simp only[eE,↓reduceIte,Nat.reduceEqDiff,reduceCtorEq,↓eP,k,C,d];refine WK.b (fun i l=>l.T.a 0=n/\l.T.a 1=o/\l.T.a 5=iv i/\l.h=h/\i<=A.length/\∀j,j<i->A[j]?=B[j]?) A.length (by omega) ?_ ?_;.simp only[eE,↓reduceIte,Nat.reduceEqDiff,reduceCtorEq,rP,Nat.reduceAdd];exact⟨rfl,fun j H=>by omega⟩
  .rintro i⟨W,X⟩Y⟨f,r,g,D,I,b⟩;simp only at f r g D;subst D;by_cases s:i<A.length
   .have t:decide ((i:Int)<(A.length:Int))=true:=by grind
    obtain⟨x,E⟩:∃x,A[i]?=some x:=⟨_,aa s⟩;obtain⟨y,u⟩:∃y,B[i]?=some y:=⟨_,aa (by omega)⟩;obtain⟨J,Z,K,_,L⟩:=YX E w;obtain⟨M,pb,O,_,P⟩:=YX u z;have Q:=DU i;simp only[eE,seval,↓eP,f,g,k,t];refine WK.a (fs:=wN) (by kernel_rfl) ?_;unfold wN;iterate 9 refine DG m ?_;simp only[rG,seval,AB,AD,AC,A7,f,r,g,K,O,HS,L,P,L8]
    refine DF ?_;cases e:(!(x==y))with
    |true=>
     have a:A≠B:=fun R=>by
      subst R;rw[E]at u;cases u;rw[OZ]at e;cases e
     rw[bp a];simp only[eE,seval,↓eP,p]|false=>
     have S:x=y:=OA (by grind);simp only[eE,seval,↓eP,f,r,g,Q];refine⟨by omega,by omega,fun j H=>?_⟩;rcases ar j i with T|T;.grind
     .grind
   .have t:decide ((i:Int)<(A.length:Int))=false:=by grind
    have:i=A.length:=by omega
    subst this;have v:A=B:=QQ c b;rw[bh v];simp only[eE,seval,↓eP,p,f,g,k,t]
end
theorem Qm{n:Nat}{h:AA}{a b:Value}{A B:List Int}{c d:Nat}(e:AK c h a A)(f:AK d h b B)(i:A.length<2932031007403)(g:A.length+5<n):AN n 241 [a,b] h=some (.bool (decide (A=B)),h):=by obtain⟨n,rfl⟩:=BX g;exact FA BF rfl (zx (EC n).2 e f)
theorem Dl{n:Nat}{h:AA}{a b:Value}{A B:List ByteArray}{c d:Nat}(e:AL c h a A.length 1 (DN A))(f:AL d h b B.length 1 (DN B))(i:A.length<2932031007403)(g:A.length+5<n):AN n 240 [a,b] h=some (.bool (decide (A=B)),h):=by obtain⟨n,rfl⟩:=BX g;exact FA BF rfl (Zl (EC n).2 e f)
def vY:List (Bool×Bool×List Operand):=[AO,AO,AH [.tmp 44],AO,AO,AH [.tmp 44,.tmp 47],AH [.tmp 44,.tmp 47],AH [.tmp 44,.tmp 47,.tmp 49],AH [.tmp 44,.tmp 47],AH [.tmp 44,.tmp 47],AJ]
def qV:List (Bool×Bool×List Operand):=[AO,AO,AH [.tmp 62],AO,AO,AH [.tmp 62,.tmp 65],AH [.tmp 62,.tmp 65],AH [.tmp 62,.tmp 65,.tmp 67],AH [.tmp 62,.tmp 65],AH [.tmp 62,.tmp 65],AJ]
def SD(nm a:ByteArray)(s s':AS):Prop:=nm=a/\s.c=s'.c/\s.a=s'.a/\s.b=s'.b/\s.f=s'.f/\s.g=s'.g/\s.d=s'.d/\s.h=s'.h
noncomputable def S3:Code:=rt (rt (f179.body.getD .skip))
noncomputable def S8:Code:=rt S3
noncomputable def S13:Code:=rt S8
theorem YN{a b c d e f g i:Value}{ty:TypeId}{x y:Bool}:AI 0 (.row [a,b,c,d,e,f,g,i] ty x y)=some a/\AI 1 (.row [a,b,c,d,e,f,g,i] ty x y)=some b/\AI 2 (.row [a,b,c,d,e,f,g,i] ty x y)=some c/\AI 3 (.row [a,b,c,d,e,f,g,i] ty x y)=some d/\AI 4 (.row [a,b,c,d,e,f,g,i] ty x y)=some e/\AI 5 (.row [a,b,c,d,e,f,g,i] ty x y)=some f/\AI 6 (.row [a,b,c,d,e,f,g,i] ty x y)=some g/\AI 7 (.row [a,b,c,d,e,f,g,i] ty x y)=some i:=⟨rfl,rfl,rfl,rfl,rfl,rfl,rfl,rfl⟩
def F7(s:AS):Prop:=s.a.length<2932031007403/\s.b.length<2932031007403/\s.f.length<2932031007403/\s.g.length<2932031007403/\s.d.length<2932031007403/\s.h.length<2932031007403
def DS(s:AS):Nat:=s.a.length+s.b.length+s.f.length+s.g.length+s.d.length+s.h.length
section
variable {n N:Nat}
theorem zy(h2:C_ (AN n)){nm l:ByteArray}{s s':AS}{pa pb:Value}{la lb:Nat}{h:AA}(ha:CG la h pa nm s)(hb:CG lb h pb l s')(hs:F7 s)(hn:DS s+10<n)(hN:DS s+10<N):∃b z,AW prog (AN n) N 179 [pa,pb] h=some (.bool b,z)/\(b=true↔SD nm l s s')/\∀i,i<h.a->z.c i=h.c i:=by
 obtain⟨D,E,F,r,G,I,rfl,a1,a2,a3,a4,a5,a6⟩:=ha;obtain⟨J,L,M,O,P,Q,rfl,b1,b2,b3,b4,b5,b6⟩:=hb;suffices h3:∃v z,AW prog (AN n) N 179 [.agg #[.string nm,D,E,F,r,G,I,iv s.c],.agg #[.string l,J,L,M,O,P,Q,iv s'.c]] h=some (v,z)/\(∃b,v=.bool b/\(b=true↔SD nm l s s')/\∀i,i<h.a->z.c i=h.c i)by obtain⟨v,z,e1,b,rfl,e2⟩:=h3;exact⟨b,z,e1,e2⟩
 refine G_ (R:=fun v z=>∃b,v=.bool b/\(b=true↔SD nm l s s')/\∀i,i<h.a->z.c i=h.c i) func179 rfl (by simp[f179]) ?_;have hr:f179.results.toList=[.tmp 4]:=rfl;unfold DS at hn hN;obtain⟨q1,q2,q3,q4,q5,q6⟩:=hs;have ca:=C9 [.string nm,D,E,F,r,G,I,iv s.c];have cb:=C9 [.string l,J,L,M,O,P,Q,iv s'.c];have oa:([.string nm,D,E,F,r,G,I,iv s.c]:List Value).all one=true:=by simp only[az,bd,a1.2.a,a2.a,a3.a,a4.a,AL.a a5,AL.a a6,TL,JQ,ao]
 have ob:([.string l,J,L,M,O,P,Q,iv s'.c]:List Value).all one=true:=by simp only[az,bd,b1.2.a,b2.a,b3.a,b4.a,AL.a b5,AL.a b6,TL,JQ,ao]
 have gA:=JG (h:=h) (o:=.row [.string nm,D,E,F,r,G,I,iv s.c] 27 false false) (o':=.row [.string l,J,L,M,O,P,Q,iv s'.c] 27 false false);have gB:=MG (h:=h) (o:=.row [.string nm,D,E,F,r,G,I,iv s.c] 27 false false) (o':=.row [.string l,J,L,M,O,P,Q,iv s'.c] 27 false false);have A:∀i,i<h.a->((h.d (.row [.string nm,D,E,F,r,G,I,iv s.c] 27 false false)).d (.row [.string l,J,L,M,O,P,Q,iv s'.c] 27 false false)).c i=h.c i:=fun i m=>by rw[AV (by show i<h.a+1;omega),AV m]
 show WK _ _ _ (.seq _ (.seq _ S3)) _ _;simp only[eE,seval,DJ,ca,cb,oa,ob,EQ];have nH:((h.d (.row [.string nm,D,E,F,r,G,I,iv s.c] 27 false false)).d (.row [.string l,J,L,M,O,P,Q,iv s'.c] 27 false false)).a=h.a+2:=rfl;generalize(h.d (.row [.string nm,D,E,F,r,G,I,iv s.c] 27 false false)).d (.row [.string l,J,L,M,O,P,Q,iv s'.c] 27 false false)=H at*;generalize h5:DH.top _=K;have g0:∀(T':Tr)b,T'.a 4=.bool b->(b=true↔SD nm l s s')->K.a prog (AN n) N .ret ⟨T',H⟩:=by
  intro T' b h4 hb;rw[<-h5];simp only[eE,seval,hr,h4];exact⟨b,rfl,hb,A⟩
 have t:∀(T':Tr),T'.a 4=.bool false->¬SD nm l s s'->K.a prog (AN n) N .ret ⟨T',H⟩:=by grind
 clear h5;have p:h.a<=H.a:=by omega
 have A1:=a1.a p fun i _ m=>A i m;have A2:=a2.b p fun i _ m=>A i m;have A3:=a3.b p fun i _ m=>A i m;have A4:=a4.b p fun i _ m=>A i m;have A5:=AK.U a5 p fun i _ m=>A i m;have A6:=AK.U a6 p fun i _ m=>A i m;have B1:=b1.a p fun i _ m=>A i m;have B2:=b2.b p fun i _ m=>A i m;have B3:=b3.b p fun i _ m=>A i m;have B4:=b4.b p fun i _ m=>A i m;have B5:=AK.U b5 p fun i _ m=>A i m;have B6:=AK.U b6 p fun i _ m=>A i m;obtain⟨x0,V,x2,x3,x4,x5,x6,x7⟩:=YN (a:=.string nm) (b:=D) (c:=E) (d:=F) (e:=r) (f:=G) (g:=I) (i:=iv s.c) (ty:=27) (x:=false) (y:=false);obtain⟨y0,y1,y2,y3,y4,y5,y6,y7⟩:=YN (a:=.string l) (b:=J) (c:=L) (d:=M) (e:=O) (f:=P) (g:=Q) (i:=iv s'.c) (ty:=27) (x:=false) (y:=false);rw[<-gA]at x0 V x2 x3 x4 x5 x6 x7;rw[<-gB]at y0 y1 y2 y3 y4 y5 y6 y7;have C:=fun W=>Q6 A1.2 W;have X:=fun W=>Q6 B1.2 W;have S:=fun W=>P8 A2 W;have h6:=fun W=>P8 B2 W;cases U:(!(nm==l))with
 |true=>
  simp only[eE,seval,↓eP,MY,HS,x0,y0,L8,U];refine t _ (by simp only[eE,seval]) fun k=>?_;rw[k.1,OZ]at U;cases U|false=>
 have e1:nm=l:=OA (by simpa using U);cases Y:(s.c !=s'.c)with|true=>simp only[eE,seval,↓eP,ab,MY,JV,HS,AM,x0,x7,y0,y7,L8,U,Y];refine t _ (by simp only[eE,seval]) fun k=>?_;rw[k.2.1]at Y;simp at Y|false=>
 have e2:s.c=s'.c:=by simpa using Y
 cases d3:((s.a.length:Int)!=(s'.a.length:Int))with
 |true=>simp only[eE,seval,↓eP,ab,MY,CK,JV,HS,AM,CJ,x0,V,x7,y0,y1,y7,C,X,L8,U,Y,d3];refine t _ (by simp only[eE,seval]) fun k=>?_;rw[k.2.2.1]at d3;simp at d3|false=>
 have e3:s.a.length=s'.a.length:=by
  have h9:(s.a.length:Int)=(s'.a.length:Int):=by simpa using d3
  omega
 cases d4:((s.b.length:Int)!=(s'.b.length:Int))with
 |true=>
  simp only[eE,seval,↓eP,ab,MY,CK,DY,JV,HS,AM,CJ,DZ,x0,V,x2,x7,y0,y1,y2,y7,C,X,S,h6,L8,U,Y,d3,d4];refine t _ (by simp only[eE,seval]) fun k=>?_;rw[k.2.2.2.1]at d4;simp at d4|false=>
 have e4:s.b.length=s'.b.length:=by
  have h9:(s.b.length:Int)=(s'.b.length:Int):=by simpa using d4
  omega
 simp only[eE,seval,↓eP,ab,MY,CK,DY,JV,HS,AM,CJ,DZ,x0,V,x2,x7,y0,y1,y2,y7,C,X,S,h6,L8,U,Y,d3,d4];show WK _ _ _ (.seq (.seq _ (.block 0 (.loop (.seq _ (.seq (.block 1 (.seq (.region _ _ true) _)) _))))) S8) _ _;simp only[eE,seval];refine WK.b (fun i u=>u.T.a 2=qP h.a 0/\u.T.a 3=qP (h.a+1) 0/\u.T.a 5=iv i/\u.h=H/\i<=s.a.length/\∀j,j<i->s.a[j]?=s'.a[j]?) s.a.length (by omega) ?_ ?_;.exact⟨by simp only[eE,↓reduceIte,Nat.reduceEqDiff],by simp only[eE,↓reduceIte,Nat.reduceEqDiff],by simp only[eE,↓reduceIte];rfl,rfl,by omega,fun j hj=>by omega⟩
 rintro i⟨T1,H1⟩m⟨w,B,t5,hh,g1,q⟩;simp only at w B t5 hh;subst hh;by_cases Z:i<s.a.length
 .have c1:decide ((i:Int)<(s.a.length:Int))=true:=by simp;omega
  obtain⟨x,T⟩:∃x,s.a[i]?=some x:=⟨_,aa Z⟩;obtain⟨y,hy⟩:∃y,s'.a[i]?=some y:=⟨_,aa (by omega)⟩;obtain⟨h7,pa,ea,_,_,_,_,_,_,xa⟩:=A1.1.b T;obtain⟨h8,pb,eb,_,_,_,_,_,_,xb⟩:=B1.1.b hy;have w1:=DU i;have g2:AX 5 pa (H1.c h7)=some (CW x):=xa;have g3:AX 5 pb (H1.c h8)=some (CW y):=xb;simp only[eE,seval,↓eP,ab,w,t5,CK,CJ,V,C,c1];refine WK.a (fs:=vY) (by kernel_rfl) ?_;unfold vY;iterate 11
   refine DG h2 ?_;simp only[rG,seval,AB,AD,AC,A7,w,B,t5,CK,CJ,V,y1,ea,eb,FX,g2,g3,Ao]
  refine DF ?_;cases e:(!(O3 x y))with
  |true=>
   simp only[eE,seval,↓eP];refine t _ (by simp only[eE,seval]) fun k=>?_;rw[k.2.2.1,hy]at T;cases T;rw[(VP (a:=x) (b:=x)).2 rfl]at e;cases e|false=>
   have h0:x=y:=VP.1 (by simpa using e);simp only[eE,seval,↓eP,w,B,t5,w1];refine⟨by omega,by omega,fun j hj=>?_⟩;rcases ar j i with z|z;.exact q j z
   .have:j=i:=by omega
    subst this;rw[T,hy,h0]
 have c1:decide ((i:Int)<(s.a.length:Int))=false:=by simp;omega
 have:i=s.a.length:=by omega
 subst this;have e5:s.a=s'.a:=QQ e3 q;simp only[eE,seval,↓eP,ab,w,t5,CK,CJ,V,C,c1];show WK _ _ _ (.seq (.seq _ (.block 2 (.loop (.seq _ (.seq (.block 3 (.seq (.region _ _ true) _)) _))))) S13) _ _;simp only[eE,seval];refine WK.b (fun i u=>u.T.a 2=qP h.a 0/\u.T.a 3=qP (h.a+1) 0/\u.T.a 6=iv i/\u.h=H1/\i<=s.b.length/\∀j,j<i->s.b[j]?=s'.b[j]?) s.b.length (by omega) ?_ ?_;.exact⟨by simp only[eE,↓reduceIte,Nat.reduceEqDiff,w],by simp only[eE,↓reduceIte,Nat.reduceEqDiff,B],by simp only[eE,↓reduceIte];rfl,rfl,by omega,fun j hj=>by omega⟩
 rintro i⟨T2,H2⟩m⟨w,B,t6,hh,g1,q⟩;simp only at w B t6 hh;subst hh;by_cases Z:i<s.b.length
 .have c1:decide ((i:Int)<(s.b.length:Int))=true:=by simp;omega
  obtain⟨x,T⟩:∃x,s.b[i]?=some x:=⟨_,aa Z⟩;obtain⟨y,hy⟩:∃y,s'.b[i]?=some y:=⟨_,aa (by omega)⟩;obtain⟨h7,pa,ea,_,xa⟩:=aD T A2;obtain⟨h8,pb,eb,_,xb⟩:=aD hy B2;have w1:=DU i;simp only[eE,seval,↓eP,ab,w,t6,DY,DZ,x2,S,c1];refine WK.a (fs:=qV) (by kernel_rfl) ?_;unfold qV;iterate 11
   refine DG h2 ?_;simp only[rG,seval,AB,AD,AC,A7,w,B,t6,DY,DZ,x2,y2,ea,eb,jV,xa,xb,zN]
  refine DF ?_;cases e:(!(x.1==y.1&&x.2==y.2))with|true=>simp only[eE,seval,↓eP];refine t _ (by simp only[eE,seval]) fun k=>?_;rw[k.2.2.2.1,hy]at T;cases T;rw[OZ]at e;simp at e|false=>
   have h0:x=y:=by
    simp only[Bool.not_eq_false',ah]at e;exact Prod.ext (OA e.1) (by simpa using e.2)
   simp only[eE,seval,↓eP,w,B,t6,w1];refine⟨by omega,by omega,fun j hj=>?_⟩;rcases ar j i with z|z;.exact q j z
   .have:j=i:=by omega
    subst this;rw[T,hy,h0]
 have c1:decide ((i:Int)<(s.b.length:Int))=false:=by simp;omega
 have:i=s.b.length:=by omega
 subst this;have e6:s.b=s'.b:=QQ e4 q;simp only[eE,seval,↓eP,ab,w,t6,DY,DZ,x2,S,c1];have hV:=Dl (n:=n) (h:=H2) A3 B3 (by omega) (by omega);have hT:=Dl (n:=n) (h:=H2) A4 B4 (by omega) (by omega);have hU:=Qm (n:=n) (h:=H2) A5 B5 (by omega) (by omega);have hO:=Qm (n:=n) (h:=H2) A6 B6 (by omega) (by omega);show WK _ _ _ (.seq _ .ret) _ _;cases dV:decide (s.f=s'.f)with
 |false=>
  rw[dV]at hV;simp only[eE,seval,ab,w,B,KS,I7,x3,y3,hV];exact t _ (by simp only[eE,seval]) fun k=>(fq dV) k.2.2.2.2.1|true=>
 rw[dV]at hV;cases dT:decide (s.g=s'.g)with
 |false=>
  rw[dT]at hT;simp only[eE,seval,ab,w,B,KS,KG,I7,x3,x4,y3,y4,hV,hT];exact t _ (by simp only[eE,seval]) fun k=>(fq dT) k.2.2.2.2.2.1|true=>
 rw[dT]at hT;cases dU:decide (s.d=s'.d)with
 |false=>
  rw[dU]at hU;simp only[eE,seval,ab,w,B,KS,KG,GF,I7,BH,x3,x4,x5,y3,y4,y5,hV,hT,hU];exact t _ (by simp only[eE,seval]) fun k=>(fq dU) k.2.2.2.2.2.2.1|true=>
 rw[dU]at hU;simp only[eE,seval,ab,w,B,KS,KG,GF,I_,I7,BH,x3,x4,x5,x6,y3,y4,y5,y6,hV,hT,hU,hO];refine g0 _ (decide (s.h=s'.h)) (by simp only[eE,seval]) ⟨fun h=>⟨e1,e2,e5,e6,fj dV,fj dT,fj dU,fj h⟩,fun k=>bh k.2.2.2.2.2.2.2⟩
theorem Zh{nm a:ByteArray}{s s':AS}{d pb:Value}{e f:Nat}{h:AA}(g:CG e h d nm s)(c:CG f h pb a s')(i:F7 s)(j:DS s+20<n):∃b,AN n 179 [d,pb] h=some (.bool b,h)/\(b=true↔SD nm a s s'):=by obtain⟨n,rfl⟩:=BX j;obtain⟨b,k,l,c,m⟩:=zy (EC n).2 (N:=n) g c i (by omega) (by omega);exact⟨b,HF BF rfl ⟨k,l,m⟩,c⟩
end
instance:DecidableEq AF:=fun _ _=>decidable_of_decidable_of_iff VP
def QF:List (Bool×Bool×List Operand):=[AO,AO,AO,AO,AH [.tmp 18],AH [.tmp 18],AH [.tmp 18],AH [.tmp 18],AJ]
theorem zC{call:AY}{N:Nat}{h:AA}(l:C_ call){m n:Value}{A B:List Int}{E F:Nat}(v:AK E h m A)(w:AK F h n B)(U:A.length+3<N:=by omega)(V:A.length<30000000000000:=by omega):AW prog call N 107 [m,n] h=some (.bool (decide (A=B)),h):=by
 refine DO func107 rfl (by simp) ?_;have o:f107.results.toList=[.tmp 4]:=rfl;have z:=fun p=>J8 v p;have C:=fun p=>J8 w p;cases d:((A.length:Int)!=(B.length:Int))with
 |true=>
  have c:A≠B:=by grind
  rw[bp c];simp only[eE,↓reduceIte,Nat.reduceEqDiff,reduceCtorEq,↓eP,o,z,C,d]|false=>
  have g:A.length=B.length:=by grind
  simp only[eE,↓reduceIte,Nat.reduceEqDiff,reduceCtorEq,↓eP,z,C,d];refine WK.b (fun i k=>k.T.a 0=m/\k.T.a 1=n/\k.T.a 12=iv A.length/\k.T.a 13=iv i/\k.h=h/\i<=A.length/\∀j,j<i->A[j]?=B[j]?) A.length (by omega) ?_ ?_;.exact⟨by simp only[eE,↓reduceIte,reduceCtorEq,Nat.reduceAdd],by simp only[eE,↓reduceIte,Nat.reduceEqDiff,Nat.reduceAdd],by simp only[eE,↓reduceIte,Nat.reduceEqDiff,Nat.reduceAdd],by simp only[eE,↓reduceIte,Nat.reduceAdd];rfl,rfl,by omega,fun j G=>by omega⟩
  .rintro i⟨W,X⟩Y⟨q,r,a,b,D,H,f⟩;simp only at q r a b D;subst D;by_cases s:i<A.length
   .have t:decide ((i:Int)<(A.length:Int))=true:=by grind
    obtain⟨x,I⟩:∃x,A[i]?=some x:=⟨_,aa s⟩;obtain⟨y,J⟩:∃y,B[i]?=some y:=⟨_,aa (by omega)⟩;obtain⟨K,Z,L,_,M⟩:=AK.V v I;obtain⟨O,pb,P,_,Q⟩:=AK.V w J;have R:=DU i;simp only[eE,seval,↓eP,a,b,t];refine WK.a (fs:=QF) (by kernel_rfl) ?_;unfold QF;iterate 9
     refine DG l ?_;simp only[rG,seval,AB,AD,AC,A7,C8,q,r,L,P,AM,M,Q]
    refine DF ?_;cases e:(x !=y)with
    |true=>
     have c:A≠B:=fun h9=>by grind
     rw[bp c];simp only[eE,seval,↓eP,o]|false=>
     have S:x=y:=by grind
     simp only[eE,seval,↓eP,q,r,a,b,R];refine⟨by omega,by omega,fun j G=>?_⟩;rcases ar j i with T|T;.grind
     .grind
   .have t:decide ((i:Int)<(A.length:Int))=false:=by grind
    have:i=A.length:=by omega
    subst this;have u:A=B:=QQ g f;rw[bh u];simp only[eE,seval,↓eP,o,a,b,t]
theorem Pl{n:Nat}{h:AA}{a b:Value}{A B:List Int}{c d:Nat}(e:AK c h a A)(f:AK d h b B)(i:A.length<2932031007403)(g:A.length+5<n):AN n 107 [a,b] h=some (.bool (decide (A=B)),h):=by obtain⟨n,rfl⟩:=BX g;exact FA BF rfl (zC (EC n).2 e f)
theorem zE{call:AY}{N:Nat}{h:AA}(l:C_ call){m n:Value}{A B:List ByteArray}{G H:Nat}(w:AL G h m A.length 1 (DN A))(z:AL H h n B.length 1 (DN B))(V:A.length+3<N:=by omega)(W:A.length<30000000000000:=by omega):AW prog call N 172 [m,n] h=some (.bool (decide (A=B)),h):=by
 refine DO func172 rfl (by simp) ?_;have o:f172.results.toList=[.tmp 4]:=rfl;have C:=fun p=>QI w p;have D:=fun p=>QI z p;cases d:((A.length:Int)!=(B.length:Int))with
 |true=>
  have c:A≠B:=by grind
  rw[bp c];simp only[eE,↓reduceIte,Nat.reduceEqDiff,reduceCtorEq,↓eP,o,C,D,d]|false=>
  have g:A.length=B.length:=by grind
  simp only[eE,↓reduceIte,Nat.reduceEqDiff,reduceCtorEq,↓eP,C,D,d];refine WK.b (fun i k=>k.T.a 0=m/\k.T.a 1=n/\k.T.a 12=iv A.length/\k.T.a 13=iv i/\k.h=h/\i<=A.length/\∀j,j<i->A[j]?=B[j]?) A.length (by omega) ?_ ?_;.exact⟨by simp only[eE,↓reduceIte,reduceCtorEq,Nat.reduceAdd],by simp only[eE,↓reduceIte,Nat.reduceEqDiff,Nat.reduceAdd],by simp only[eE,↓reduceIte,Nat.reduceEqDiff,Nat.reduceAdd],by simp only[eE,↓reduceIte,Nat.reduceAdd];rfl,rfl,by omega,fun j I=>by omega⟩
  .rintro i⟨X,Y⟩Z⟨q,r,a,b,E,J,f⟩;simp only at q r a b E;subst E;by_cases s:i<A.length
   .have t:decide ((i:Int)<(A.length:Int))=true:=by grind
    obtain⟨x,F⟩:∃x,A[i]?=some x:=⟨_,aa s⟩;obtain⟨y,u⟩:∃y,B[i]?=some y:=⟨_,aa (by omega)⟩;obtain⟨K,pa,L,_,M⟩:=YX F w;obtain⟨O,pb,P,_,Q⟩:=YX u z;have R:=DU i;simp only[eE,seval,↓eP,a,b,t];refine WK.a (fs:=QF) (by kernel_rfl) ?_;unfold QF;iterate 9
     refine DG l ?_;simp only[rG,seval,AB,AD,AC,A7,q,r,L,P,HS,M,Q,L8]
    refine DF ?_;cases e:(!(x==y))with
    |true=>
     have c:A≠B:=fun S=>by
      subst S;rw[F]at u;cases u;rw[OZ]at e;cases e
     rw[bp c];simp only[eE,seval,↓eP,o]|false=>
     have T:x=y:=OA (by grind);simp only[eE,seval,↓eP,q,r,a,b,R];refine⟨by omega,by omega,fun j I=>?_⟩;rcases ar j i with U|U;.grind
     .grind
   .have t:decide ((i:Int)<(A.length:Int))=false:=by grind
    have:i=A.length:=by omega
    subst this;have v:A=B:=QQ g f;rw[bh v];simp only[eE,seval,↓eP,o,a,b,t]
theorem Hl{n:Nat}{h:AA}{a b:Value}{A B:List ByteArray}{c d:Nat}(e:AL c h a A.length 1 (DN A))(f:AL d h b B.length 1 (DN B))(i:A.length<2932031007403)(g:A.length+5<n):AN n 172 [a,b] h=some (.bool (decide (A=B)),h):=by obtain⟨n,rfl⟩:=BX g;exact FA BF rfl (zE (EC n).2 e f)
theorem zJ{call:AY}{N:Nat}{h:AA}(l:C_ call){m n:Value}{A B:List (ByteArray×Bool)}{G H:Nat}(w:AL G h m A.length 2 (EH A))(z:AL H h n B.length 2 (EH B))(V:A.length+3<N:=by omega)(W:A.length<30000000000000:=by omega):AW prog call N 171 [m,n] h=some (.bool (decide (A=B)),h):=by refine DO func171 rfl (by simp) ?_;have o:f171.results.toList=[.tmp 4]:=rfl;have C:=fun p=>P8 w p;have D:=fun p=>P8 z p;cases d:((A.length:Int)!=(B.length:Int))with
 |true=>
  have c:A≠B:=by grind
  rw[bp c];simp only[eE,↓reduceIte,Nat.reduceEqDiff,reduceCtorEq,↓eP,o,C,D,d]|false=>
  have g:A.length=B.length:=by grind
  simp only[eE,↓reduceIte,Nat.reduceEqDiff,reduceCtorEq,↓eP,C,D,d];refine WK.b (fun i k=>k.T.a 0=m/\k.T.a 1=n/\k.T.a 12=iv A.length/\k.T.a 13=iv i/\k.h=h/\i<=A.length/\∀j,j<i->A[j]?=B[j]?) A.length (by omega) ?_ ?_;.exact⟨by simp only[eE,↓reduceIte,reduceCtorEq,Nat.reduceAdd],by simp only[eE,↓reduceIte,Nat.reduceEqDiff,Nat.reduceAdd],by simp only[eE,↓reduceIte,Nat.reduceEqDiff,Nat.reduceAdd],by simp only[eE,↓reduceIte,Nat.reduceAdd];rfl,rfl,by omega,fun j I=>by omega⟩
  .rintro i⟨X,Y⟩Z⟨q,r,a,b,E,J,f⟩;simp only at q r a b E;subst E;by_cases s:i<A.length
   .have t:decide ((i:Int)<(A.length:Int))=true:=by grind
    obtain⟨x,F⟩:∃x,A[i]?=some x:=⟨_,aa s⟩;obtain⟨y,u⟩:∃y,B[i]?=some y:=⟨_,aa (by omega)⟩;obtain⟨K,pa,L,_,M⟩:=aD F w;obtain⟨O,pb,P,_,Q⟩:=aD u z;have R:=DU i;simp only[eE,seval,↓eP,a,b,t];refine WK.a (fs:=QF) (by kernel_rfl) ?_;unfold QF;iterate 9
     refine DG l ?_;simp only[rG,seval,AB,AD,AC,A7,q,r,L,P,jV,M,Q,zN]
    refine DF ?_;cases e:(!(x.1==y.1&&x.2==y.2))with
    |true=>
     have c:A≠B:=fun S=>by
      subst S;rw[F]at u;cases u;rw[OZ]at e;simp at e
     rw[bp c];simp only[eE,seval,↓eP,o]|false=>
     have T:x=y:=(by simp only[Bool.not_eq_false',ah]at e;exact Prod.ext (OA e.1) (by grind));simp only[eE,seval,↓eP,q,r,a,b,R];refine⟨by omega,by omega,fun j I=>?_⟩;rcases ar j i with U|U;.grind
     .grind
   .have t:decide ((i:Int)<(A.length:Int))=false:=by grind
    have:i=A.length:=by omega
    subst this;have v:A=B:=QQ g f;rw[bh v];simp only[eE,seval,↓eP,o,a,b,t]
theorem zS{n:Nat}{h:AA}{a b:Value}{A B:List (ByteArray×Bool)}{c d:Nat}(e:AL c h a A.length 2 (EH A))(f:AL d h b B.length 2 (EH B))(i:A.length<2932031007403)(g:A.length+5<n):AN n 171 [a,b] h=some (.bool (decide (A=B)),h):=by
 obtain⟨n,rfl⟩:=BX g;exact FA BF rfl (zJ (EC n).2 e f)
theorem Ke{h:AA}{v:Value}{l:List AF}(a:A8 h v l)(h':AA):CU prog h' 22 v=some (iv (l.length:Int)):=a.c
theorem d9{call:AY}{N:Nat}{h:AA}(l:C_ call){m n:Value}{A B:List AF}(E:A8 h m A)(F:A8 h n B)(Y:A.length+3<N:=by omega)(Z:A.length<30000000000000:=by omega):AW prog call N 170 [m,n] h=some (.bool (decide (A=B)),h):=by
 refine DO func170 rfl (by simp) ?_;have o:f170.results.toList=[.tmp 4]:=rfl;have G:=fun p=>Ke E p;have H:=fun p=>Ke F p;cases d:((A.length:Int)!=(B.length:Int))with
 |true=>
  have c:A≠B:=by grind
  rw[bp c];simp only[eE,↓reduceIte,Nat.reduceEqDiff,reduceCtorEq,↓eP,o,G,H,d]|false=>
  have g:A.length=B.length:=by grind
  simp only[eE,↓reduceIte,Nat.reduceEqDiff,reduceCtorEq,↓eP,G,H,d];refine WK.b (fun i k=>k.T.a 0=m/\k.T.a 1=n/\k.T.a 12=iv A.length/\k.T.a 13=iv i/\k.h=h/\i<=A.length/\∀j,j<i->A[j]?=B[j]?) A.length (by omega) ?_ ?_;.exact⟨by simp only[eE,↓reduceIte,reduceCtorEq,Nat.reduceAdd],by simp only[eE,↓reduceIte,Nat.reduceEqDiff,Nat.reduceAdd],by simp only[eE,↓reduceIte,Nat.reduceEqDiff,Nat.reduceAdd],by simp only[eE,↓reduceIte,Nat.reduceAdd];rfl,rfl,by omega,fun j L=>by omega⟩
  .rintro i⟨T1,I⟩hi⟨q,r,a,b,J,M,f⟩;simp only at q r a b J;subst J;by_cases s:i<A.length
   .have t:decide ((i:Int)<(A.length:Int))=true:=by grind
    obtain⟨x,K⟩:∃x,A[i]?=some x:=⟨_,aa s⟩;obtain⟨y,u⟩:∃y,B[i]?=some y:=⟨_,aa (by omega)⟩;obtain⟨v,O,P,_,_,_,_,_,_,w⟩:=A8.b E K;have Q:AX 5 O (I.c v)=some (CW x):=w;obtain⟨z,R,S,_,_,_,_,_,_,C⟩:=A8.b F u;have T:AX 5 R (I.c z)=some (CW y):=C;have U:=DU i;simp only[eE,seval,↓eP,a,b,t];refine WK.a (fs:=QF) (by kernel_rfl) ?_;unfold QF;iterate 9 refine DG l ?_;simp only[rG,seval,AB,AD,AC,A7,q,r,P,S,FX,Q,T,Ao]
    refine DF ?_;cases e:(!(O3 x y))with
    |true=>
     have c:A≠B:=fun V=>by subst V;rw[K]at u;cases u;rw[VP.2 rfl]at e;cases e
     rw[bp c];simp only[eE,seval,↓eP,o]|false=>
     have W:x=y:=VP.1 (by grind);simp only[eE,seval,↓eP,q,r,a,b,U];refine⟨by omega,by omega,fun j L=>?_⟩;rcases ar j i with X|X;.grind
     .grind
   .have t:decide ((i:Int)<(A.length:Int))=false:=by grind
    have:i=A.length:=by omega
    subst this;have D:A=B:=QQ g f;rw[bh D];simp only[eE,seval,↓eP,o,a,b,t]
theorem e8{n:Nat}{h:AA}{a b:Value}{A B:List AF}(c:A8 h a A)(d:A8 h b B)(f:A.length<2932031007403)(e:A.length+5<n):AN n 170 [a,b] h=some (.bool (decide (A=B)),h):=by obtain⟨n,rfl⟩:=BX e;exact FA BF rfl (d9 (EC n).2 c d)
theorem Hq:∀(l:List AF)(k:Nat),(l.flatMap AQ).take (k*5)=(l.take k).flatMap AQ
 |l,0=>by simp|[],k+1=>by simp|r::l,k+1=>by
  rw[dh,List.take_succ_cons,dh,<-Hq l k,show(k+1)*5=k*5+5 by omega];rfl
theorem j0{L:List AF}{i:Nat}{x:AF}(hi:i<L.length):Go.Sx.lay (L.flatMap AQ) (i*5) (AQ x)=(L.set i x).flatMap AQ:=by have a:(AQ x).length=5:=rfl;rw[List.set_eq_take_append_cons_drop,ag hi,List.flatMap_append,dh,<-Hq,<-mY];simp only[Go.Sx.lay,a];grind
abbrev DL:AF:=⟨0,ByteArray.empty,0,0,0⟩
theorem zr:(Value.agg #[.int .i64 0,.string ByteArray.empty,.int .i64 0,.int .i64 0,.int .i64 0]).cells.toList=AQ DL:=rfl
abbrev SS:ByteArray:=⟨#[108,101,110,116]⟩
abbrev kT:ByteArray:=⟨#[115,112,111,105,108,116]⟩
def mark(i:Nat):AF:=⟨-7,SS,0,0,i⟩
theorem tV:∀n,CF FG n=(List.replicate n DL).flatMap AQ|0=>rfl|n+1=>by rw[CF,tV n,List.replicate_succ,dh];rfl
theorem TZ{h:AA}{id i off:Nat}{L:List AF}{x:AF}{ty:TypeId}{g:Bool}(b:off=i*5)(c:h.c id=.row (L.flatMap AQ) ty g false)(hi:i<L.length)(f:h.b<=id):BD prog h 125 (qP id off) (CW x)=some (h.e id (.row ((L.set i x).flatMap AQ) ty g false)):=by
 subst b;have d:(CW x).cells=(AQ x).toArray:=rfl;have e:(AQ x).length=5:=rfl;have a:(AQ x).all one=true:=rfl;have j:=MT L;simp only[BD,d,GC,HW,c];rw[ag (by simp[e]),ag (by grind),j0 hi]
theorem kF:HN prog (match prog.underlying 125 with|some (.struct a)=>a.toList|_=>[])=some [(0,1),(1,1),(2,1),(3,1),(4,1)]:=by kernel_rfl
theorem iX{id n c i:Nat}(hi:i<n):BW prog 22 (qS id n c) (iv (i:Int))=some (.pointer (some ⟨id,i*5,none⟩)):=NE hi
structure WH (h:AA) (o:Nat) (l:List AF) (L:List AF):Prop where
 g:h.c o=.row (L.flatMap AQ) 125 false false
 c:L.length=l.length+9
 b:∀ j,j<l.length->L[j]?=l[j]?
 a:∀ q,q<9->L[l.length+q]?=some (mark (l.length+q))
theorem Va(x:AF):O3 x x=true:=VP.2 rfl
theorem VR{l:List AF}(h:(DA l).1.1=0):DM l/\(CY l).1=0/\(ED (AZ l) l.length 0 (DC l)).1=0/\¬LI (ED (AZ l) l.length 0 (DC l)).2.2.a (AZ l) (ED (AZ l) l.length 0 (DC l)).2.2.d>=0/\DA l=((0,0),(ED (AZ l) l.length 0 (DC l)).2.2)/\JI l l.length (DA l).2:=by
 by_cases f:(CY l).1≠0
 .unfold DA at h;grind
 .by_cases g:(ED (AZ l) l.length 0 (DC l)).1≠0
  .unfold DA at h;grind
  .by_cases d:LI (ED (AZ l) l.length 0 (DC l)).2.2.a (AZ l) (ED (AZ l) l.length 0 (DC l)).2.2.d>=0;.unfold DA at h;grind
   .have a:(CY l).1=0:=by omega
    have b:(ED (AZ l) l.length 0 (DC l)).1=0:=by omega
    have e:DA l=((0,0),(ED (AZ l) l.length 0 (DC l)).2.2):=by
     unfold DA;grind
    have c:=jG (qC a);refine⟨c,a,b,d,e,?_⟩;rw[e];exact Na c aM l.length 0 (DC l) (by omega) (VO l) b
theorem WB{l:List AF}(h:(DA l).1.1=0):FE l=(PJ l,(DA l).2):=by unfold FE;grind
def J9(x:AF):AF:=if x.a≠27 then{x with n:=0}else x
def AU(l:List AF):List AF:=l.map J9
def WM(nm:ByteArray)(s:AS):Prop:=(DA (AU s.a)).1.1=0/\SD nm (FE (AU s.a)).1 s (FE (AU s.a)).2
open Classical in
noncomputable def DQ(nm:ByteArray)(s:AS):Int:=if WM nm s then 0 else 23
theorem Sr{H:AA}{cs:List Value}{e p:Int}(f:cs.length=8)(g:cs.all one=true)(s:H.b<=H.a):∃b:AA×AA,BD prog ((H.d (.row CO 27 false false)).d (.row [iv 0,iv 0] 43 false false)) 27 (qP H.a 0) (.agg cs.toArray)=some (b.1)/\BD prog b.1 43 (qP (H.a+1) 0) (EE e p)=some b.2/\GZ H.a b.2 cs e p/\b.2.a=H.a+2/\b.2.b=H.b/\∀i,i<H.a->b.2.c i=H.c i:=by
 have j:=JG (h:=H) (o:=.row CO 27 false false) (o':=.row [iv 0,iv 0] 43 false false);have k:=MG (h:=H) (o:=.row CO 27 false false) (o':=.row [iv 0,iv 0] 43 false false);have c:∀i,i<H.a->((H.d (.row CO 27 false false)).d (.row [iv 0,iv 0] 43 false false)).c i=H.c i:=fun i d=>by rw[AV (by show i<H.a+1;omega),AV d]
 have l:((H.d (.row CO 27 false false)).d (.row [iv 0,iv 0] 43 false false)).a=H.a+2:=rfl;have m:((H.d (.row CO 27 false false)).d (.row [iv 0,iv 0] 43 false false)).b=H.b:=rfl;generalize(H.d (.row CO 27 false false)).d (.row [iv 0,iv 0] 43 false false)=G at*;obtain⟨b,n,q,r,t,u,v⟩:=UA (a:=H.a) (H:=G) ⟨j,k⟩ rfl (by omega) (by omega) (cs':=cs) f g (e':=e) (p':=p);exact⟨⟨_,b⟩,n,q,r,by grind,by grind,fun i d=>by grind⟩
theorem IV{lo:Nat}{h:AA}{nm:ByteArray}{s:AS}{vr vq vv vt vu vo:Value}(h1:JZ lo h vr s.a)(a:AL lo h vq s.b.length 2 (EH s.b))(b:AL lo h vv s.f.length 1 (DN s.f))(c:AL lo h vt s.g.length 1 (DN s.g))(d:AK lo h vu s.d)(e:AK lo h vo s.h):([.string nm,vr,vq,vv,vt,vu,vo,iv s.c]:List Value).all one=true:=by simp only[az,bd,h1.2.a,a.a,b.a,c.a,AL.a d,AL.a e,TL,JQ,ao]
def M8(v:Value)(n:Nat):Prop:=∃b a c,v=.slice (some ⟨b,a,none⟩) n c
theorem j5{call:AY}{N:Nat}{h:AA}{l:List AF}{v:Value}(r:A8 h v l)(d:M8 v l.length)(f:l.length<2932031007403):∃p b,AW prog call N 62 [v] h=some (p,b)/\(∃o c g,p=qS o l.length c/\b.c o=.row (l.flatMap AQ) 125 g false/\h.a<=o/\o<b.a)/\b.b=h.b/\h.a<=b.a/\∀i,i<h.a->b.c i=h.c i:=by
 by_cases s:0<l.length
 .obtain⟨b,e,t,D,u,w⟩:=Ql (call:=call) (N:=N) r s f;exact⟨_,b,e,⟨h.a+1,AT,true,rfl,t,by omega,by omega⟩,u,by omega,w⟩
 .have x:l=[]:=by grind
  subst x;obtain⟨j,a,c,rfl⟩:=d;refine⟨qS h.a 0 0,h.d (.row [] 125 false false),?_,⟨h.a,0,false,rfl,BJ,af _,by show h.a<h.a+1;omega⟩,rfl,by show h.a<=h.a+1;omega,fun i y=>AV y⟩;refine DO func62 rfl (by simp) ?_;have z:f62.results.toList=[.tmp 2]:=rfl;have A:CT prog .eql 22 (.tmp 3) (.const (Z0)) (.slice (some ⟨j,a,none⟩) ([]:List AF).length c) (Z0)=some (.bool false):=by
   have B:flat (.slice (some ⟨j,a,none⟩) ([]:List AF).length c)=false:=rfl;simp only[CT,B,bz,aV,bi,bq]
  have k:FP prog h 22 0 []=some (qS h.a 0 0,h.d (.row [] 125 false false)):=by simp[FP,bq,GC,FC,flat,B7,GW,I6,CF]
  have q:EL (h.d (.row [] 125 false false)) 5 ([]:List AF).length (.slice (some ⟨j,a,none⟩) ([]:List AF).length c)=some []:=by simp[EL]
  have m:DR prog (h.d (.row [] 125 false false)) 22 (qS h.a 0 0) (.slice (some ⟨j,a,none⟩) ([]:List AF).length c)=some (qS h.a 0 0,h.d (.row [] 125 false false)):=by
   have C:(0:Nat)≠AT:=by unfold AT;omega
   have n:(Value.agg #[.int .i64 0,.string ByteArray.empty,.int .i64 0,.int .i64 0,.int .i64 0]).cells.size=5:=rfl;simp[DR,bq,GC,WO,FC,n,EL,C]
  simp only[eE,seval,↓eP,z,A,k,m]
theorem j6{n:Nat}{h:AA}{l:List AF}{v:Value}(j:A8 h v l)(a:M8 v l.length)(d:l.length<2932031007403)(k:0<n):∃e b,AN n 62 [v] h=some (e,b)/\(∃o c g,e=qS o l.length c/\b.c o=.row (l.flatMap AQ) 125 g false/\h.a<=o/\o<b.a)/\b.b=h.b/\h.a<=b.a/\∀i,i<h.a->b.c i=h.c i:=by obtain⟨n,rfl⟩:=BX k;refine GY BF (j5 (call:=AN n) (N:=n) j a d) fun e p f q⟨⟨o,c,g,m,_⟩,_⟩=>?_;rw[m]at f;cases f
section
variable {n N:Nat}
theorem Zw{nm:ByteArray}{s:AS}{pv:Value}{lo:Nat}{h:AA}(hp:CG lo h pv nm s)(h0:∀x8 z E F G I J m,pv=.agg #[.string x8,z,E,F,G,I,J,m]->M8 z s.a.length)(hs:F7 s)(hl:s.a.length<2932031007403)(z7:h.b<=h.a)(hg:h.c 0=EM)(x9:0<h.a)(hn:2*DS s+200<n:=by omega)(hN:DS s+200<N:=by omega):∃h',AW prog (AN n) N 102 [pv] h=some (iv (DQ nm s),h')/\∀i,i<h.a->h'.c i=h.c i:=by
 obtain⟨z,E,F,G,I,J,rfl,p1,p2,p3,p4,p5,p6⟩:=hp;have y8:=h0 _ _ _ _ _ _ _ _ rfl;refine EA (R:=fun h'=>∀i,i<h.a->h'.c i=h.c i) func102 rfl (by simp[f102]) ?_;have M:f102.results.toList=[.tmp 2]:=rfl;unfold DS at hn hN;obtain⟨q1,q2,q3,q4,q5,q6⟩:=hs;have ca:=C9 [.string nm,z,E,F,G,I,J,iv s.c];have oa:=IV (nm:=nm) p1 p2 p3 p4 p5 p6;have gA:(h.d (.row [.string nm,z,E,F,G,I,J,iv s.c] 27 false false)).c h.a=.row [.string nm,z,E,F,G,I,J,iv s.c] 27 false false:=BJ;have gO:∀i,i<h.a->(h.d (.row [.string nm,z,E,F,G,I,J,iv s.c] 27 false false)).c i=h.c i:=fun i q=>AV q;have nA:(h.d (.row [.string nm,z,E,F,G,I,J,iv s.c] 27 false false)).a=h.a+1:=rfl;have fA:(h.d (.row [.string nm,z,E,F,G,I,J,iv s.c] 27 false false)).b=h.b:=rfl;show WK _ _ _ (.seq _ (.seq _ (.seq (.seq _ _) (.seq _ (.seq _ _))))) _ _;simp only[eE,seval,ca,oa,EQ];generalize h.d (.row [.string nm,z,E,F,G,I,J,iv s.c] 27 false false)=A at*;have l1:AI 1 (A.c h.a)=some z:=by rw[gA];rfl
 have P1:A8 A z s.a:=p1.1.a (by omega) gO;obtain⟨v',h1,y9,⟨o,c,g,rfl,g1,g2,g3⟩,f1,n1,o1⟩:=j6 (n:=n) P1 y8 (by omega) (by omega);have h6:∀h':AA,CU prog h' 22 (qS o s.a.length c)=some (iv (s.a.length:Int)):=fun h'=>WU;simp only[eE,seval,ab,CK,CJ,l1,y9,h6];refine WK.b (fun i Z=>Z.T.a 1=qP h.a 0/\Z.T.a 3=qS o s.a.length c/\Z.T.a 11=iv (s.a.length:Int)/\Z.T.a 12=iv i/\i<=s.a.length/\Z.h.a=h1.a/\Z.h.b=h1.b/\(∀i,i≠o->Z.h.c i=h1.c i)/\∃L:List AF,Z.h.c o=.row (L.flatMap AQ) 125 g false/\∀j,L[j]?=(s.a[j]?).map fun x=>if j<i then J9 x else x) s.a.length (by omega) ?_ ?_;.refine⟨by simp only[eE,↓reduceIte,Nat.reduceEqDiff],by simp only[eE,↓reduceIte,Nat.reduceEqDiff],by simp only[eE,↓reduceIte,Nat.reduceEqDiff],by simp only[eE,↓reduceIte];rfl,by omega,rfl,rfl,fun _ _=>rfl,s.a,g1,fun j=>?_⟩;simp
 rintro i⟨T1,H1⟩q⟨B,t3,T,U,z8,m1,m2,m3,L,gL,hL⟩;simp only at B t3 T U m1 m2 m3 gL;have z0:L.length=s.a.length:=by
  rcases jk L.length s.a.length with l|l|l;.have:=hL L.length;rw[de (af _),aa l]at this;cases this
  .exact l
  .have:=hL s.a.length;rw[aa l,de (af _)]at this;cases this
 by_cases V:i<s.a.length
 .have c1:decide ((i:Int)<(s.a.length:Int))=true:=by simp;omega
  obtain⟨x,hx⟩:∃x,s.a[i]?=some x:=⟨_,aa V⟩;have h4:L[i]?=some x:=by rw[hL,hx];simp
  have ea:=iX (id:=o) (n:=s.a.length) (c:=c) V;have lk:AI (i*5) (H1.c o)=some (iv x.a):=by
   have h5:=U_ h4;rw[gL];have:(L.flatMap AQ)[i*5]?=(AQ x)[0]?:=by rw[<-h5,List.getElem?_take_of_lt (by omega),jg,fe]
   simp only[AI,this];rfl
  have w1:=DU i;cases d:(x.a !=27)with
  |false=>
   have hz:J9 x=x:=by
    unfold J9;rw[ad (by simpa using d)]
   simp only[eE,seval,↓eP,B,t3,T,U,c1,ea,BB,AM,lk,d,w1];refine⟨V,by omega,m1,m2,m3,L,gL,fun j=>?_⟩;rw[hL j];by_cases hj:j=i
   .subst hj;rw[hx];simp[hz]
   .congr 1;funext y;by_cases l:j<i;.rw[ag l,ag (by omega)]
    .rw[ad l,ad (by omega)]|true=>
   have hz:J9 x={x with n:=0}:=by
    unfold J9;rw[ag (by simpa using d)]
   have h7:=EO (t:=3) (off:=i*5+3) (v:=iv 0) B_ rfl rfl gL (by rw[MT];omega) (by omega);rw[aW h4]at h7;simp only[eE,seval,↓eP,B,t3,T,U,c1,ea,BB,FY,AM,lk,d,h7,w1];refine⟨V,by omega,m1,m2,fun j hj=>by rw[AP (by omega) (bc hj)];exact m3 j hj,JF L i 0,BE rfl (by omega),fun j=>?_⟩;by_cases hj:j=i
   .subst hj;rw[OH h4,hx];simp[hz]
   .rw[SI hj,hL j];congr 1;funext y;by_cases l:j<i;.rw[ag l,ag (by omega)]
    .rw[ad l,ad (by omega)]
 have c1:decide ((i:Int)<(s.a.length:Int))=false:=by simp;omega
 have:i=s.a.length:=by omega
 subst this;have z1:L=AU s.a:=by
  apply eh;intro j;rw[hL j,AU,bT];rcases ar j s.a.length with l|l;.simp[l]
  .rw[de l];rfl
 subst z1;have z2:A8 H1 (qS o s.a.length c) (AU s.a):=by refine⟨_,_,by rw[z0],.inr ⟨o,0,_,_,_,_,rfl,gL,by omega,fun k r hk=>by rw[ab];exact U_ hk⟩⟩
 have z3:H1.c 0=EM:=by rw[m3 0 (by omega),o1 0 (by omega),gO 0 x9];exact hg
 obtain⟨v2,h2,g0,pv,rfl,z4,f2,n2,o2⟩:=yi (n:=n) (h:=H1) (by omega) z3 (by omega) z2 (by omega) (by omega);obtain⟨g4,g5,g6,g7,g8,g9,rfl,b1,b2,b3,b4,b5,b6⟩:=z4;obtain⟨⟨hb,O⟩,s1,s2,rO,n3,f3,o3⟩:=Sr (H:=h2) (cs:=[.string (FE (AU s.a)).1,g4,g5,g6,g7,g8,g9,iv (FE (AU s.a)).2.c]) (e:=(DA (AU s.a)).1.1) (p:=(DA (AU s.a)).1.2) rfl (IV b1 b2 b3 b4 b5 b6) (by omega);simp only at s1 s2 rO n3 f3 o3;have w:∀i,i<h.a->O.c i=h.c i:=by grind
 have HA:O.c h.a=.row [.string nm,z,E,F,G,I,J,iv s.c] 27 false false:=by rw[o3 _ (by omega),o2 _ (by omega),m3 _ (by omega),o1 _ (by omega)];exact gA
 obtain⟨P,x1,x2,x3,x4,x5,x6,W⟩:=YN (a:=.string nm) (b:=z) (c:=E) (d:=F) (e:=G) (f:=I) (g:=J) (i:=iv s.c) (ty:=27) (x:=false) (y:=false);obtain⟨Q,y1,y2,y3,y4,y5,y6,X⟩:=YN (a:=.string (FE (AU s.a)).1) (b:=g4) (c:=g5) (d:=g6) (e:=g7) (f:=g8) (g:=g9) (i:=iv (FE (AU s.a)).2.c) (ty:=27) (x:=false) (y:=false);rw[<-HA]at P x1 x2 x3 x4 x5 x6 W;rw[<-rO.1]at Q y1 y2 y3 y4 y5 y6 X;have S:AI 0 (O.c (h2.a+1))=some (iv (DA (AU s.a)).1.1):=by rw[rO.2];rfl
 have NN:h.a<=O.a:=by omega
 have A1:=p1.1.a NN w;have A2:=p2.b NN fun i _ q=>w i q;have A3:=p3.b NN fun i _ q=>w i q;have A4:=p4.b NN fun i _ q=>w i q;have A5:=AK.U p5 NN fun i _ q=>w i q;have A6:=AK.U p6 NN fun i _ q=>w i q;have B1:=(b1.a (h':=O) (by omega) fun i _ q=>o3 i q).1;have B2:=b2.b (h':=O) (by omega) fun i _ q=>o3 i q;have B3:=b3.b (h':=O) (by omega) fun i _ q=>o3 i q;have B4:=b4.b (h':=O) (by omega) fun i _ q=>o3 i q;have B5:=AK.U (h':=O) b5 (by omega) fun i _ q=>o3 i q;have B6:=AK.U (h':=O) b6 (by omega) fun i _ q=>o3 i q;have Y:=e8 (n:=n) A1 B1 (by omega) (by omega);have hQ:=zS (n:=n) A2 B2 (by omega) (by omega);have hV:=Hl (n:=n) A3 B3 (by omega) (by omega);have hT:=Hl (n:=n) A4 B4 (by omega) (by omega);have hU:=Pl (n:=n) A5 B5 (by omega) (by omega);have hO:=Pl (n:=n) A6 B6 (by omega) (by omega);have z5:(DA (AU s.a)).1.1=0->SD nm (FE (AU s.a)).1 s (FE (AU s.a)).2->DQ nm s=0:=fun h8 l=>ag ⟨h8,l⟩;have z6:(DA (AU s.a)).1.1≠0->DQ nm s=23:=fun h8=>ad fun l=>h8 l.1;have u:¬SD nm (FE (AU s.a)).1 s (FE (AU s.a)).2->DQ nm s=23:=fun h8=>ad fun l=>h8 l.2;simp only[eE,seval,↓eP,t3,T,U,c1,g0,NR,NQ,PK,GO,GS,I3,BU,s1,s2];cases C:((DA (AU s.a)).1.1 !=0)with
 |true=>
  rw[z6 (by simpa using C)];simp only[eE,seval,↓eP,M,gg,HX,HV,S,C];exact w|false=>cases D:(!(nm==(FE (AU s.a)).1))with|true=>rw[u fun l=>by rw[l.1,OZ]at D;cases D];simp only[eE,seval,↓eP,M,B,gg,HX,HV,S,MY,HS,P,Q,L8,C,D];exact w|false=>cases K:(s.c !=(FE (AU s.a)).2.c)with|true=>rw[u fun l=>by rw[l.2.1]at K;simp at K];simp only[eE,seval,↓eP,M,B,gg,ab,HX,HV,S,MY,JV,HS,AM,P,W,Q,X,L8,C,D,K];exact w|false=>cases d3:decide (s.a=(FE (AU s.a)).2.a)with
 |false=>
  rw[d3]at Y;rw[u fun l=>(fq d3) l.2.2.1];simp only[eE,seval,↓eP,M,B,gg,ab,HX,HV,S,MY,CK,JV,HS,AM,CJ,P,x1,W,Q,y1,X,L8,C,D,K,Y];exact w|true=>
 rw[d3]at Y;cases d4:decide (s.b=(FE (AU s.a)).2.b)with|false=>rw[d4]at hQ;rw[u fun l=>(fq d4) l.2.2.2.1];simp only[eE,seval,↓eP,M,B,gg,ab,HX,HV,S,MY,CK,DY,JV,HS,AM,CJ,DZ,P,x1,x2,W,Q,y1,y2,X,L8,C,D,K,Y,hQ];exact w|true=>rw[d4]at hQ;cases d5:decide (s.f=(FE (AU s.a)).2.f)with|false=>rw[d5]at hV;rw[u fun l=>(fq d5) l.2.2.2.2.1];simp only[eE,seval,↓eP,M,B,gg,ab,HX,HV,S,MY,CK,DY,KS,JV,HS,AM,CJ,DZ,I7,P,x1,x2,x3,W,Q,y1,y2,y3,X,L8,C,D,K,Y,hQ,hV];exact w|true=>
 rw[d5]at hV;cases d6:decide (s.g=(FE (AU s.a)).2.g)with
 |false=>rw[d6]at hT;rw[u fun l=>(fq d6) l.2.2.2.2.2.1];simp only[eE,seval,↓eP,M,B,gg,ab,HX,HV,S,MY,CK,DY,KS,KG,JV,HS,AM,CJ,DZ,I7,P,x1,x2,x3,x4,W,Q,y1,y2,y3,y4,X,L8,C,D,K,Y,hQ,hV,hT];exact w|true=>rw[d6]at hT;cases d7:decide (s.d=(FE (AU s.a)).2.d)with
 |false=>
  rw[d7]at hU;rw[u fun l=>(fq d7) l.2.2.2.2.2.2.1];simp only[eE,seval,↓eP,M,B,gg,ab,HX,HV,S,MY,CK,DY,KS,KG,GF,JV,HS,AM,CJ,DZ,I7,BH,P,x1,x2,x3,x4,x5,W,Q,y1,y2,y3,y4,y5,X,L8,C,D,K,Y,hQ,hV,hT,hU];exact w|true=>rw[d7]at hU;cases d8:decide (s.h=(FE (AU s.a)).2.h)with
 |false=>
  rw[d8]at hO;rw[u fun l=>(fq d8) l.2.2.2.2.2.2.2];simp only[eE,seval,↓eP,M,B,gg,ab,HX,HV,S,MY,CK,DY,KS,KG,GF,I_,JV,HS,AM,CJ,DZ,I7,BH,P,x1,x2,x3,x4,x5,x6,W,Q,y1,y2,y3,y4,y5,y6,X,L8,C,D,K,Y,hQ,hV,hT,hU,hO];exact w|true=>rw[d8]at hO;rw[z5 (by simpa using C) ⟨OA (by simpa using D),by simpa using K,fj d3,fj d4,fj d5,fj d6,fj d7,fj d8⟩];simp only[eE,seval,↓eP,M,B,gg,ab,HX,HV,S,MY,CK,DY,KS,KG,GF,I_,JV,HS,AM,CJ,DZ,I7,BH,P,x1,x2,x3,x4,x5,x6,W,Q,y1,y2,y3,y4,y5,y6,X,L8,C,D,K,Y,hQ,hV,hT,hU,hO];exact w
theorem oR{nm:ByteArray}{s:AS}{b:Value}{lo:Nat}{h:AA}(g:CG lo h b nm s)(a:∀c f i j k l o m,b=.agg #[.string c,f,i,j,k,l,o,m]->M8 f s.a.length)(p:F7 s)(q:s.a.length<2932031007403)(d:h.b<=h.a)(r:h.c 0=EM)(e:0<h.a)(t:2*DS s+300<n):AN n 102 [b] h=some (iv (DQ nm s),h):=by obtain⟨n,rfl⟩:=BX t;exact HF BF rfl (Zw g a p q d r e)
end
end Go.Proofs.YtjailoenloejbaaGreatDoor




