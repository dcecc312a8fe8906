/- Part 12 of what the claim leans on: 22 texts laid one behind another. -/
import Derived.Test.YtipekdhneagdbaaDoorCG11
import Derived.OpenShut
import Derived.WalkKit
import Derived.Carry
import Derived.ChangeArms
namespace Go.Proofs.YtipekdhneagdbaaDoor
open Go Go.Sx Go.ChangeShapes Go.WideShapes Go.ChangeAt Go.RowKit
set_option maxRecDepth 100000
set_option linter.unusedSimpArgs false
set_option linter.unusedVariables false
set_option maxHeartbeats 64000000
theorem VN:Tryd.prog.cellsOf 46=5:=by kernel_rfl
theorem OY:Tryd.prog.cellsOf 3=1:=by kernel_rfl
theorem UR:Tryd.prog.cellsOf 9=1:=by kernel_rfl
def QK (x:AC):Prop:=(-9223372036854775808≤x.kind∧x.kind≤9223372036854775807)∧(-9223372036854775808≤x.ends∧x.ends≤9223372036854775807)∧(-9223372036854775808≤x.n∧x.n≤9223372036854775807)∧(-9223372036854775808≤x.kids∧x.kids≤9223372036854775807)
section
variable {H:Type} {enc:TypeId × Value→H} {W:World} {base:Nat} {sp:Nat→Bool} {hd:Bool}
theorem bN {n:Nat} {cs:List Value} {y:DataW H × List MemPlace} (h:DataW.trod enc Tryd.prog W base sp hd n 46 cs=some y):∃ x:AC,cs=AI x∧QK x:=by
 obtain⟨xs,m,_,_,hl,hxl,hf⟩:=DataW.trod_struct Tryd.underlying46 h
 rw[VN] at hl
 obtain⟨c0,c1,c2,c3,c4,rfl⟩:∃ c0 c1 c2 c3 c4,cs=[c0,c1,c2,c3,c4]:=by
  match cs,hl with
  | [a,b,c,d,e],_=>exact⟨a,b,c,d,e,rfl⟩
 have hxl:xs.length=5:=hxl
 have g:∀ i,i<5→∃ y,xs[i]?=some y:=fun i hi=>⟨_,List.getElem?_eq_getElem (by omega)⟩
 obtain⟨y0,e0⟩:=g 0 (by omega)
 obtain⟨y1,e1⟩:=g 1 (by omega)
 obtain⟨y2,e2⟩:=g 2 (by omega)
 obtain⟨y3,e3⟩:=g 3 (by omega)
 obtain⟨y4,e4⟩:=g 4 (by omega)
 have f0:DataW.trod enc Tryd.prog W base sp hd m 3 (([c0,c1,c2,c3,c4].drop 0).take (Tryd.prog.cellsOf 3))=xs[0]?:=hf 0 _ rfl
 rw[OY,e0] at f0
 have f1:DataW.trod enc Tryd.prog W base sp hd m 9 (([c0,c1,c2,c3,c4].drop 1).take (Tryd.prog.cellsOf 9))=xs[1]?:=hf 1 _ rfl
 rw[UR,e1] at f1
 have f2:DataW.trod enc Tryd.prog W base sp hd m 3 (([c0,c1,c2,c3,c4].drop 2).take (Tryd.prog.cellsOf 3))=xs[2]?:=hf 2 _ rfl
 rw[OY,e2] at f2
 have f3:DataW.trod enc Tryd.prog W base sp hd m 3 (([c0,c1,c2,c3,c4].drop 3).take (Tryd.prog.cellsOf 3))=xs[3]?:=hf 3 _ rfl
 rw[OY,e3] at f3
 have f4:DataW.trod enc Tryd.prog W base sp hd m 3 (([c0,c1,c2,c3,c4].drop 4).take (Tryd.prog.cellsOf 3))=xs[4]?:=hf 4 _ rfl
 rw[OY,e4] at f4
 obtain⟨a,ha,_,wa⟩:=DataW.trod_int Tryd.underlying3 f0
 obtain⟨b,hb,_,wb⟩:=DataW.trod_string Tryd.underlying9 f1
 obtain⟨c,hc,_,wc⟩:=DataW.trod_int Tryd.underlying3 f2
 obtain⟨d,hd,_,wd⟩:=DataW.trod_int Tryd.underlying3 f3
 obtain⟨e,he,_,we⟩:=DataW.trod_int Tryd.underlying3 f4
 cases ha
 cases hb
 cases hc
 cases hd
 cases he
 exact⟨⟨a,b,c,d,e⟩,rfl,bounds_i64 wa,bounds_i64 wc,bounds_i64 wd,bounds_i64 we⟩
end
theorem e_ {b off k:Nat}:(⟨b,off,none⟩:Addr).add k=⟨b,off+k,none⟩:=by
 unfold Addr.add
 split
 ·rename_i e;subst e;rfl
 ·rfl
theorem pI {W:World} {base b off n:Nat} {cs:List Value} (h:W.cells? base ⟨b,off,none⟩ n=some cs):cs.length=n∧∀ i,i<n→W.cell? ⟨b,off+i,none⟩=cs[i]?:=by
 unfold World.cells? at h
 split at h
 ·refine⟨by simpa using mapM_some_length h,fun i hi=>?_⟩
  have:=mapM_some_get h i i (by simp[hi])
  rw[← this,e_]
 ·cases h
theorem XF {x:AC} {j:Nat} {v:Value} (h:(AI x)[j]?=some v):B7 v=true:=by
 match j,h with
 | 0,h=>cases h;rfl
 | 1,h=>cases h;rfl
 | 2,h=>cases h;rfl
 | 3,h=>cases h;rfl
 | 4,h=>cases h;rfl
end Go.Proofs.YtipekdhneagdbaaDoor
namespace Go.Proofs.YtipekdhneagdbaaDoor
open Go Go.Sx
set_option maxRecDepth 100000
set_option linter.unusedSimpArgs false
set_option linter.unusedVariables false
set_option maxHeartbeats 64000000
def K0 (a b:AC):Bool:=a.kind==b.kind&&(a.name==b.name&&(a.ends==b.ends&&(a.n==b.n&&a.kids==b.kids)))
theorem PX {P:Program} {t:TypeId} {a b:ByteArray} (h:P.underlying t=some .string) (d:Nat):BH P (Op.equalIn (d+1) t (.string a) (.string b))=some (a==b):=by
 rw[Op.equalIn,C4,NR h]
 simp[IL]
theorem i7 {P:Program} {t:TypeId} {a b:Bool} (h:P.underlying t=some .bool) (d:Nat):BH P (Op.equalIn (d+1) t (.bool a) (.bool b))=some (a==b):=by
 rw[Op.equalIn,C4,NR h]
 simp[IL]
theorem Pz:Tryd.prog.stoodInHeld 46=false:=by kernel_rfl
theorem Pm:Tryd.prog.stoodInHeld 57=false:=by kernel_rfl
theorem UA {a c d e:Int} {b:ByteArray}:BH Tryd.prog (part 3 #[.int .i64 a,.string b,.int .i64 c,.int .i64 d,.int .i64 e] 0)=some (.int .i64 a)∧BH Tryd.prog (part 9 #[.int .i64 a,.string b,.int .i64 c,.int .i64 d,.int .i64 e] 1)=some (.string b)∧BH Tryd.prog (part 3 #[.int .i64 a,.string b,.int .i64 c,.int .i64 d,.int .i64 e] 2)=some (.int .i64 c) ∧
  BH Tryd.prog (part 3 #[.int .i64 a,.string b,.int .i64 c,.int .i64 d,.int .i64 e] 3)=some (.int .i64 d)∧BH Tryd.prog (part 3 #[.int .i64 a,.string b,.int .i64 c,.int .i64 d,.int .i64 e] 4)=some (.int .i64 e):=⟨rfl,rfl,rfl,rfl,rfl⟩
theorem gS {a:ByteArray} {b:Bool}:BH Tryd.prog (part 9 #[.string a,.bool b] 0)=some (.string a)∧BH Tryd.prog (part 4 #[.string a,.bool b] 1)=some (.bool b):=⟨rfl,rfl⟩
theorem xO {a b:AC} (n:Nat):BH Tryd.prog (Op.equalIn (n+2) 46 (DN a) (DN b))=some (K0 a b):=by
 obtain⟨a1,a2,a3,a4,a5⟩:=a
 obtain⟨b1,b2,b3,b4,b5⟩:=b
 show BH Tryd.prog (Op.equalIn (n+2) 46 (.agg #[.int .i64 a1,.string a2,.int .i64 a3,.int .i64 a4,.int .i64 a5]) (.agg #[.int .i64 b1,.string b2,.int .i64 b3,.int .i64 b4,.int .i64 b5]))=some (a1==b1&&(a2==b2&&(a3==b3&&(a4==b4&&a5==b5))))
 rw[Op.equalIn,C4,NR Tryd.underlying46]
 simp only[Option.bind_some,C4,MI,Pz,Bool.false_eq_true,if_false]
 simp only[List.forIn_toArray,List.forIn_cons,List.forIn_nil,ne_eq,String.reduceEq,not_false_eq_true,if_true,C4,UA.1,Option.bind_some,LL Tryd.underlying3,PX Tryd.underlying9]
 cases h1:(a1==b1) <;> simp[C4,IL,UA.2.1,LL Tryd.underlying3,PX Tryd.underlying9,-beq_iff_eq,-beq_eq_false_iff_ne]
 cases h2:(a2==b2) <;> simp[C4,IL,UA.2.2.1,LL Tryd.underlying3,PX Tryd.underlying9,-beq_iff_eq,-beq_eq_false_iff_ne]
 cases h3:(a3==b3) <;> simp[C4,IL,UA.2.2.2.1,LL Tryd.underlying3,PX Tryd.underlying9,-beq_iff_eq,-beq_eq_false_iff_ne]
 cases h4:(a4==b4) <;> simp[C4,IL,UA.2.2.2.2,LL Tryd.underlying3,PX Tryd.underlying9,-beq_iff_eq,-beq_eq_false_iff_ne]
 cases h5:(a5==b5) <;> simp[IL,-beq_iff_eq,-beq_eq_false_iff_ne]
theorem wS {a c:ByteArray} {b d:Bool} (n:Nat):BH Tryd.prog (Op.equalIn (n+2) 57 (.agg #[.string a,.bool b]) (.agg #[.string c,.bool d]))=some (a==c&&b==d):=by
 rw[Op.equalIn,C4,NR Tryd.underlying57]
 simp only[Option.bind_some,C4,MI,Pm,Bool.false_eq_true,if_false]
 simp only[List.forIn_toArray,List.forIn_cons,List.forIn_nil,ne_eq,String.reduceEq,not_false_eq_true,if_true,C4,gS.1,Option.bind_some,PX Tryd.underlying9,i7 Tryd.underlying4]
 cases h1:(a==c) <;> simp[C4,IL,gS.2,PX Tryd.underlying9,i7 Tryd.underlying4,-beq_iff_eq,-beq_eq_false_iff_ne]
 cases h2:(b==d) <;> simp[IL,-beq_iff_eq,-beq_eq_false_iff_ne]
theorem iG {a:AC}:flat (DN a)=true:=rfl
theorem rM {a:ByteArray} {b:Bool}:flat (.agg #[.string a,.bool b])=true:=rfl
section
variable {x y:Operand}
theorem mX (op:BinOp) (neg:Bool) (hop:op=if neg then .neq else .eql) {a b:AC}:CR Tryd.prog op 46 x y (DN a) (DN b)=some (.bool (if neg then !(K0 a b) else K0 a b)):=by
 have k:BH Tryd.prog (Op.equal 46 (DN a) (DN b))=some (K0 a b):=xO 9998
 cases neg with
 | true=>
  subst hop
  have e:BH Tryd.prog (do eqGuard .neq 46 x y (DN a) (DN b);binOp .neq 46 (DN a) (DN b))=some (.bool (!(K0 a b))):=by
   rw[C4]
   have g:BH Tryd.prog (eqGuard .neq 46 x y (DN a) (DN b))=some ():=by
    unfold eqGuard
    simp[C4,MI,IL]
   rw[g]
   show BH Tryd.prog ((do pure (.bool (!(← Op.equal 46 (DN a) (DN b))))):Sem Value)=_
   rw[C4,k]
   rfl
  simp only[CR,iG,Bool.and_self,if_true,e,LN]
 | false=>
  subst hop
  have e:BH Tryd.prog (do eqGuard .eql 46 x y (DN a) (DN b);binOp .eql 46 (DN a) (DN b))=some (.bool (K0 a b)):=by
   rw[C4]
   have g:BH Tryd.prog (eqGuard .eql 46 x y (DN a) (DN b))=some ():=by
    unfold eqGuard
    simp[C4,MI,IL]
   rw[g]
   show BH Tryd.prog ((do pure (.bool (← Op.equal 46 (DN a) (DN b)))):Sem Value)=_
   rw[C4,k]
   rfl
  simp only[Bool.false_eq_true,if_false,CR,iG,Bool.and_self,if_true,e,LN]
theorem rJ {a b:AC}:CR Tryd.prog .neq 46 x y (DN a) (DN b)=some (.bool (!(K0 a b))):=mX .neq true rfl
theorem mN (op:BinOp) (neg:Bool) (hop:op=if neg then .neq else .eql) {a c:ByteArray} {b d:Bool}:CR Tryd.prog op 57 x y (.agg #[.string a,.bool b]) (.agg #[.string c,.bool d])=some (.bool (if neg then !(a==c&&b==d) else (a==c&&b==d))):=by
 have k:BH Tryd.prog (Op.equal 57 (.agg #[.string a,.bool b]) (.agg #[.string c,.bool d]))=some (a==c&&b==d):=wS 9998
 cases neg with
 | true=>
  subst hop
  have e:BH Tryd.prog (do eqGuard .neq 57 x y (.agg #[.string a,.bool b]) (.agg #[.string c,.bool d]);binOp .neq 57 (.agg #[.string a,.bool b]) (.agg #[.string c,.bool d]))=some (.bool (!(a==c&&b==d))):=by
   rw[C4]
   have g:BH Tryd.prog (eqGuard .neq 57 x y (.agg #[.string a,.bool b]) (.agg #[.string c,.bool d]))=some ():=by
    unfold eqGuard
    simp[C4,MI,IL]
   rw[g]
   show BH Tryd.prog ((do pure (.bool (!(← Op.equal 57 (.agg #[.string a,.bool b]) (.agg #[.string c,.bool d]))))):Sem Value)=_
   rw[C4,k]
   rfl
  simp only[CR,rM,Bool.and_self,if_true,e,LN]
 | false=>
  subst hop
  have e:BH Tryd.prog (do eqGuard .eql 57 x y (.agg #[.string a,.bool b]) (.agg #[.string c,.bool d]);binOp .eql 57 (.agg #[.string a,.bool b]) (.agg #[.string c,.bool d]))=some (.bool (a==c&&b==d)):=by
   rw[C4]
   have g:BH Tryd.prog (eqGuard .eql 57 x y (.agg #[.string a,.bool b]) (.agg #[.string c,.bool d]))=some ():=by
    unfold eqGuard
    simp[C4,MI,IL]
   rw[g]
   show BH Tryd.prog ((do pure (.bool (← Op.equal 57 (.agg #[.string a,.bool b]) (.agg #[.string c,.bool d])))):Sem Value)=_
   rw[C4,k]
   rfl
  simp only[Bool.false_eq_true,if_false,CR,rM,Bool.and_self,if_true,e,LN]
theorem sA {a c:ByteArray} {b d:Bool}:CR Tryd.prog .neq 57 x y (.agg #[.string a,.bool b]) (.agg #[.string c,.bool d])=some (.bool (!(a==c&&b==d))):=mN .neq true rfl
end
theorem Cr {a b:ByteArray}:(a==b)=true↔a=b:=by
 obtain⟨a⟩:=a
 obtain⟨b⟩:=b
 show (a==b)=true↔_
 rw[beq_iff_eq,ByteArray.mk.injEq]
theorem R5 {a b:AC}:K0 a b=true↔a=b:=by
 obtain⟨a1,a2,a3,a4,a5⟩:=a
 obtain⟨b1,b2,b3,b4,b5⟩:=b
 unfold K0
 simp only[Bool.and_eq_true,beq_iff_eq,Cr,AC.mk.injEq]
theorem IX {lo:Nat} {h:AA} {v:Value} {n w:Nat} {cs:List Value} (hc:AZ lo h v n w cs) (h':AA):CC Tryd.prog h' 28 v=some (iv (n:Int)):=AZ.len hc Tryd.underlying28
theorem NJ {lo:Nat} {h:AA} {v:Value} {n w:Nat} {cs:List Value} (hc:AZ lo h v n w cs) (h':AA):CC Tryd.prog h' 27 v=some (iv (n:Int)):=AZ.len hc Tryd.underlying27
theorem OT {lo:Nat} {h:AA} {v:Value} {n w:Nat} {cs:List Value} (hc:AZ lo h v n w cs) (h':AA):CC Tryd.prog h' 26 v=some (iv (n:Int)):=AZ.len hc Tryd.underlying26
theorem dF {lo:Nat} {h:AA} {v:Value} {n w:Nat} {cs:List Value} (hc:AZ lo h v n w cs) (h':AA):CC Tryd.prog h' 22 v=some (iv (n:Int)):=AZ.len hc Tryd.underlying22
theorem XE {l:List ByteArray} {i:Nat} {x:ByteArray} (hx:l[i]?=some x) {lo:Nat} {h:AA} {v:Value} (hc:AZ lo h v l.length 1 (D3 l)):∃ id p,CU Tryd.prog 27 v (iv (i:Int))=some (qP id p)∧id<h.next∧AS p (h.get id)=some (.string x):=by
 obtain⟨id,p,h1,h2,h3⟩:=AZ.idx hc Tryd.underlying27 GH (List.getElem?_eq_some_iff.1 hx).1
 refine⟨id,p,h1,h2,?_⟩
 have:=h3 0 (by decide)
 rw[Nat.add_zero] at this
 rw[this,Nat.mul_one,Nat.add_zero,D3,List.getElem?_map,hx]
 rfl
theorem s9:∀ {l:List (ByteArray × Bool)} {i:Nat} {x:ByteArray × Bool},l[i]?=some x→((IF l).drop (i*2)).take 2=[.string x.1,.bool x.2]
 | [],i,x,h=>by simp at h
 | q :: l,0,x,h=>by
  simp only[List.getElem?_cons_zero,Option.some.injEq] at h
  subst h
  rfl
 | q :: l,i+1,x,h=>by
  have:=s9 (l:=l) (i:=i) (x:=x) (by simpa using h)
  rw[← this,show (i+1)*2=i*2+2 by omega]
  rfl
theorem WI {l:List (ByteArray × Bool)} {i:Nat} {x:ByteArray × Bool} (hx:l[i]?=some x) {lo:Nat} {h:AA} {v:Value} (hc:AZ lo h v l.length 2 (IF l)):∃ id p,CU Tryd.prog 26 v (iv (i:Int))=some (qP id p)∧id<h.next∧CB 2 p (h.get id)=some (.agg #[.string x.1,.bool x.2]):=by
 obtain⟨id,p,h1,h2,h3⟩:=AZ.whole hc Tryd.underlying26 MB (List.getElem?_eq_some_iff.1 hx).1
 rw[s9 hx] at h3
 exact⟨id,p,h1,h2,h3⟩
theorem O0 {α:Type} {A B:List α} (hl:A.length=B.length) (h:∀ j,j<A.length→A[j]?=B[j]?):A=B:=by
 apply List.ext_getElem?
 intro j
 rcases Nat.lt_or_ge j A.length with h1 | h1
 ·exact h j h1
 ·rw[List.getElem?_eq_none h1,List.getElem?_eq_none (by omega)]
theorem Gp:FI Tryd.prog 57=some true:=by kernel_rfl
theorem kL {h:AA} {id off:Nat}:EL Tryd.prog h 57 (qP id off)=CB 2 off (h.get id):=MV Gp MB
def dD:List (Bool × Bool × List Operand):=[AY,AY,AY,AY,AN [.tmp 19],AN [.tmp 19],AN [.tmp 19],AN [.tmp 19],AL]
section
variable {call:AQ} {N:Nat} {h:AA}
theorem Cn (hsn:CH call) {va vb:Value} {A B:List Int} {la lb:Nat} (ha:AK la h va A) (hb:AK lb h vb B) (hN:A.length+3<N) (hl:A.length<30000000000000):A8 Tryd.prog call N 35 [va,vb] h=some (.bool (decide (A=B)),h):=by
 refine D_ Tryd.func35 rfl (by simp[Tryd.f35]) ?_
 have hr:Tryd.f35.results.toList=[.tmp 4]:=rfl
 have lA:=fun h'=>IX ha h'
 have lB:=fun h'=>IX hb h'
 cases d:((A.length:Int) != (B.length:Int)) with
 | true=>
  have hne:A≠B:=fun e=>by subst e;simp at d
  rw[decide_eq_false hne]
  simp only[eE,↓reduceIte,Nat.reduceEqDiff,reduceCtorEq,↓eP,hr,lA,lB,d]
 | false=>
  have hlen:A.length=B.length:=by
   have h9:(A.length:Int)=(B.length:Int):=by simpa using d
   omega
  simp only[eE,↓reduceIte,Nat.reduceEqDiff,reduceCtorEq,↓eP,lA,lB,d]
  refine WK.loop (fun i s'=>s'.T.get 0=va∧s'.T.get 1=vb∧s'.T.get 5=iv i∧s'.h=h∧i≤A.length∧∀ j,j<i→A[j]?=B[j]?) A.length (by omega) ?_ ?_
  ·simp only[eE,↓reduceIte,Nat.reduceEqDiff,reduceCtorEq,↓eP,rP,Nat.reduceAdd,Nat.reduceLT]
   exact⟨rfl,fun j hj=>by omega⟩
  ·rintro i ⟨T1,H1⟩ hi ⟨t0,t1,t5,hh,hil,hsame⟩
   simp only at t0 t1 t5 hh
   subst hh
   by_cases hlt:i<A.length
   ·have c1:decide ((i:Int)<(A.length:Int))=true:=by simp;omega
    obtain⟨x,hx⟩:∃ x,A[i]?=some x:=⟨_,List.getElem?_eq_getElem hlt⟩
    obtain⟨y,hy⟩:∃ y,B[i]?=some y:=⟨_,List.getElem?_eq_getElem (by omega)⟩
    obtain⟨ida,pa,ea,_,xa⟩:=AK.get ha hx
    obtain⟨idb,pb,eb,_,xb⟩:=AK.get hb hy
    have w1:=DJ i (by omega)
    simp only[eE,seval,↓eP,t0,t1,t5,lA,c1]
    refine WK.flags (fs:=dD) (by kernel_rfl) ?_
    unfold dD
    iterate 9
     refine GN hsn ?_
     simp only[rG,seval,AB,AE,AD,B_,CO,DO,ED,Fsx,t0,t1,t5,ea,eb,A_,xa,xb,RS]
    refine GM ?_
    cases e:(x != y) with
    | true=>
     have hne:A≠B:=fun h9=>by
      subst h9
      rw[hx] at hy
      cases hy
      simp at e
     rw[decide_eq_false hne]
     simp only[eE,seval,↓eP,hr,e]
    | false=>
     have hxy:x=y:=by simpa using e
     simp only[eE,seval,↓eP,t0,t1,t5,e,w1]
     refine⟨by omega,by omega,fun j hj=>?_⟩
     rcases Nat.lt_or_ge j i with h1 | h1
     ·exact hsame j h1
     ·have:j=i:=by omega
      subst this
      rw[hx,hy,hxy]
   ·have c1:decide ((i:Int)<(A.length:Int))=false:=by simp;omega
    have:i=A.length:=by omega
    subst this
    have hAB:A=B:=O0 hlen hsame
    rw[decide_eq_true hAB]
    simp only[eE,seval,↓eP,hr,t0,t1,t5,lA,c1]
end
section
variable {call:AQ} {N:Nat} {h:AA}
end
theorem VW {n:Nat} {h:AA} {va vb:Value} {A B:List Int} {la lb:Nat} (ha:AK la h va A) (hb:AK lb h vb B) (hl:A.length<2932031007403) (hn:A.length+5<n):AX n 35 [va,vb] h=some (.bool (decide (A=B)),h):=by
 obtain⟨n,rfl⟩:=D7 hn
 exact JD (CN ⟨rfl,rfl,rfl⟩) rfl (Cn (FM n).2 ha hb (by omega) (by omega))
def NB (nm nm':ByteArray) (s s':AP):Prop:=nm=nm'∧s.miss=s'.miss∧s.rows=s'.rows∧s.queues=s'.queues∧s.vars=s'.vars∧s.tags=s'.tags∧s.rules=s'.rules∧s.on=s'.on
theorem O8 {a b c d e f g i:Value} {ty:TypeId} {x y:Bool}:AS 0 (.row [a,b,c,d,e,f,g,i] ty x y)=some a∧AS 1 (.row [a,b,c,d,e,f,g,i] ty x y)=some b∧AS 2 (.row [a,b,c,d,e,f,g,i] ty x y)=some c∧AS 3 (.row [a,b,c,d,e,f,g,i] ty x y)=some d∧AS 4 (.row [a,b,c,d,e,f,g,i] ty x y)=some e∧AS 5 (.row [a,b,c,d,e,f,g,i] ty x y)=some f∧AS 6 (.row [a,b,c,d,e,f,g,i] ty x y)=some g∧AS 7 (.row [a,b,c,d,e,f,g,i] ty x y)=some i:=⟨rfl,rfl,rfl,rfl,rfl,rfl,rfl,rfl⟩
def HV (s:AP):Prop:=s.rows.length<2932031007403∧s.queues.length<2932031007403∧s.vars.length<2932031007403∧s.tags.length<2932031007403∧s.rules.length<2932031007403∧s.on.length<2932031007403
def HM (s:AP):Nat:=s.rows.length+s.queues.length+s.vars.length+s.tags.length+s.rules.length+s.on.length
section
variable {n N:Nat}
end
instance:DecidableEq AC:=fun _ _=>decidable_of_decidable_of_iff R5
def LV:List (Bool × Bool × List Operand):=[AY,AY,AY,AY,AN [.tmp 18],AN [.tmp 18],AN [.tmp 18],AN [.tmp 18],AL]
theorem Co {call:AQ} {N:Nat} {h:AA} (hsn:CH call) {va vb:Value} {A B:List Int} {la lb:Nat} (ha:AK la h va A) (hb:AK lb h vb B) (hN:A.length+3<N) (hl:A.length<30000000000000):A8 Tryd.prog call N 69 [va,vb] h=some (.bool (decide (A=B)),h):=by
 refine D_ Tryd.func69 rfl (by simp[Tryd.f69]) ?_
 have hr:Tryd.f69.results.toList=[.tmp 4]:=rfl
 have lA:=fun h'=>IX ha h'
 have lB:=fun h'=>IX hb h'
 cases d:((A.length:Int) != (B.length:Int)) with
 | true=>
  have hne:A≠B:=fun e=>by subst e;simp at d
  rw[decide_eq_false hne]
  simp only[eE,↓reduceIte,Nat.reduceEqDiff,reduceCtorEq,↓eP,hr,lA,lB,d]
 | false=>
  have hlen:A.length=B.length:=by
   have h9:(A.length:Int)=(B.length:Int):=by simpa using d
   omega
  simp only[eE,↓reduceIte,Nat.reduceEqDiff,reduceCtorEq,↓eP,lA,lB,d]
  refine WK.loop (fun i s'=>s'.T.get 0=va∧s'.T.get 1=vb∧s'.T.get 12=iv A.length∧s'.T.get 13=iv i∧s'.h=h∧i≤A.length∧∀ j,j<i→A[j]?=B[j]?) A.length (by omega) ?_ ?_
  ·exact⟨by simp only[eE,↓reduceIte,Nat.reduceEqDiff,reduceCtorEq,↓eP,rP,Nat.reduceAdd,Nat.reduceLT],by simp only[eE,↓reduceIte,Nat.reduceEqDiff,reduceCtorEq,↓eP,rP,Nat.reduceAdd,Nat.reduceLT],by simp only[eE,↓reduceIte,Nat.reduceEqDiff,reduceCtorEq,↓eP,rP,Nat.reduceAdd,Nat.reduceLT],by simp only[eE,↓reduceIte,Nat.reduceEqDiff,reduceCtorEq,↓eP,rP,Nat.reduceAdd,Nat.reduceLT];rfl,rfl,by omega,fun j hj=>by omega⟩
  ·rintro i ⟨T1,H1⟩ hi ⟨t0,t1,t12,t13,hh,hil,hsame⟩
   simp only at t0 t1 t12 t13 hh
   subst hh
   by_cases hlt:i<A.length
   ·have c1:decide ((i:Int)<(A.length:Int))=true:=by simp;omega
    obtain⟨x,hx⟩:∃ x,A[i]?=some x:=⟨_,List.getElem?_eq_getElem hlt⟩
    obtain⟨y,hy⟩:∃ y,B[i]?=some y:=⟨_,List.getElem?_eq_getElem (by omega)⟩
    obtain⟨ida,pa,ea,_,xa⟩:=AK.get ha hx
    obtain⟨idb,pb,eb,_,xb⟩:=AK.get hb hy
    have w1:=DJ i (by omega)
    simp only[eE,seval,↓eP,t0,t1,t12,t13,c1]
    refine WK.flags (fs:=LV) (by kernel_rfl) ?_
    unfold LV
    iterate 9
     refine GN hsn ?_
     simp only[rG,seval,AB,AE,AD,B_,CO,DO,ED,Fsx,Option.bind_some,t0,t1,t12,t13,ea,eb,A_,xa,xb,RS]
    refine GM ?_
    cases e:(x != y) with
    | true=>
     have hne:A≠B:=fun h9=>by
      subst h9
      rw[hx] at hy
      cases hy
      simp at e
     rw[decide_eq_false hne]
     simp only[eE,seval,↓eP,hr,e]
    | false=>
     have hxy:x=y:=by simpa using e
     simp only[eE,seval,↓eP,t0,t1,t12,t13,e,w1]
     refine⟨by omega,by omega,fun j hj=>?_⟩
     rcases Nat.lt_or_ge j i with h1 | h1
     ·exact hsame j h1
     ·have:j=i:=by omega
      subst this
      rw[hx,hy,hxy]
   ·have c1:decide ((i:Int)<(A.length:Int))=false:=by simp;omega
    have:i=A.length:=by omega
    subst this
    have hAB:A=B:=O0 hlen hsame
    rw[decide_eq_true hAB]
    simp only[eE,seval,↓eP,hr,t0,t1,t12,t13,c1]
theorem n_ {n:Nat} {h:AA} {va vb:Value} {A B:List Int} {la lb:Nat} (ha:AK la h va A) (hb:AK lb h vb B) (hl:A.length<2932031007403) (hn:A.length+5<n):AX n 69 [va,vb] h=some (.bool (decide (A=B)),h):=by
 obtain⟨n,rfl⟩:=D7 hn
 exact JD (CN ⟨rfl,rfl,rfl⟩) rfl (Co (FM n).2 ha hb (by omega) (by omega))
theorem Re {call:AQ} {N:Nat} {h:AA} (hsn:CH call) {va vb:Value} {A B:List ByteArray} {la lb:Nat} (ha:AZ la h va A.length 1 (D3 A)) (hb:AZ lb h vb B.length 1 (D3 B)) (hN:A.length+3<N) (hl:A.length<30000000000000):A8 Tryd.prog call N 68 [va,vb] h=some (.bool (decide (A=B)),h):=by
 refine D_ Tryd.func68 rfl (by simp[Tryd.f68]) ?_
 have hr:Tryd.f68.results.toList=[.tmp 4]:=rfl
 have lA:=fun h'=>NJ ha h'
 have lB:=fun h'=>NJ hb h'
 cases d:((A.length:Int) != (B.length:Int)) with
 | true=>
  have hne:A≠B:=fun e=>by subst e;simp at d
  rw[decide_eq_false hne]
  simp only[eE,↓reduceIte,Nat.reduceEqDiff,reduceCtorEq,↓eP,hr,lA,lB,d]
 | false=>
  have hlen:A.length=B.length:=by
   have h9:(A.length:Int)=(B.length:Int):=by simpa using d
   omega
  simp only[eE,↓reduceIte,Nat.reduceEqDiff,reduceCtorEq,↓eP,lA,lB,d]
  refine WK.loop (fun i s'=>s'.T.get 0=va∧s'.T.get 1=vb∧s'.T.get 12=iv A.length∧s'.T.get 13=iv i∧s'.h=h∧i≤A.length∧∀ j,j<i→A[j]?=B[j]?) A.length (by omega) ?_ ?_
  ·exact⟨by simp only[eE,↓reduceIte,Nat.reduceEqDiff,reduceCtorEq,↓eP,rP,Nat.reduceAdd,Nat.reduceLT],by simp only[eE,↓reduceIte,Nat.reduceEqDiff,reduceCtorEq,↓eP,rP,Nat.reduceAdd,Nat.reduceLT],by simp only[eE,↓reduceIte,Nat.reduceEqDiff,reduceCtorEq,↓eP,rP,Nat.reduceAdd,Nat.reduceLT],by simp only[eE,↓reduceIte,Nat.reduceEqDiff,reduceCtorEq,↓eP,rP,Nat.reduceAdd,Nat.reduceLT];rfl,rfl,by omega,fun j hj=>by omega⟩
  ·rintro i ⟨T1,H1⟩ hi ⟨t0,t1,t12,t13,hh,hil,hsame⟩
   simp only at t0 t1 t12 t13 hh
   subst hh
   by_cases hlt:i<A.length
   ·have c1:decide ((i:Int)<(A.length:Int))=true:=by simp;omega
    obtain⟨x,hx⟩:∃ x,A[i]?=some x:=⟨_,List.getElem?_eq_getElem hlt⟩
    obtain⟨y,hy⟩:∃ y,B[i]?=some y:=⟨_,List.getElem?_eq_getElem (by omega)⟩
    obtain⟨ida,pa,ea,_,xa⟩:=XE hx ha
    obtain⟨idb,pb,eb,_,xb⟩:=XE hy hb
    have w1:=DJ i (by omega)
    simp only[eE,seval,↓eP,t0,t1,t12,t13,c1]
    refine WK.flags (fs:=LV) (by kernel_rfl) ?_
    unfold LV
    iterate 9
     refine GN hsn ?_
     simp only[rG,seval,AB,AE,AD,B_,CO,DO,ED,Fsx,Option.bind_some,t0,t1,t12,t13,ea,eb,FQ,xa,xb,I4]
    refine GM ?_
    cases e:(!(x==y)) with
    | true=>
     have hne:A≠B:=fun h9=>by
      subst h9
      rw[hx] at hy
      cases hy
      rw[MN] at e;cases e
     rw[decide_eq_false hne]
     simp only[eE,seval,↓eP,hr,e]
    | false=>
     have hxy:x=y:=LK (by simpa using e)
     simp only[eE,seval,↓eP,t0,t1,t12,t13,e,w1]
     refine⟨by omega,by omega,fun j hj=>?_⟩
     rcases Nat.lt_or_ge j i with h1 | h1
     ·exact hsame j h1
     ·have:j=i:=by omega
      subst this
      rw[hx,hy,hxy]
   ·have c1:decide ((i:Int)<(A.length:Int))=false:=by simp;omega
    have:i=A.length:=by omega
    subst this
    have hAB:A=B:=O0 hlen hsame
    rw[decide_eq_true hAB]
    simp only[eE,seval,↓eP,hr,t0,t1,t12,t13,c1]
theorem tU {n:Nat} {h:AA} {va vb:Value} {A B:List ByteArray} {la lb:Nat} (ha:AZ la h va A.length 1 (D3 A)) (hb:AZ lb h vb B.length 1 (D3 B)) (hl:A.length<2932031007403) (hn:A.length+5<n):AX n 68 [va,vb] h=some (.bool (decide (A=B)),h):=by
 obtain⟨n,rfl⟩:=D7 hn
 exact JD (CN ⟨rfl,rfl,rfl⟩) rfl (Re (FM n).2 ha hb (by omega) (by omega))
theorem xA {call:AQ} {N:Nat} {h:AA} (hsn:CH call) {va vb:Value} {A B:List (ByteArray × Bool)} {la lb:Nat} (ha:AZ la h va A.length 2 (IF A)) (hb:AZ lb h vb B.length 2 (IF B)) (hN:A.length+3<N) (hl:A.length<30000000000000):A8 Tryd.prog call N 67 [va,vb] h=some (.bool (decide (A=B)),h):=by
 refine D_ Tryd.func67 rfl (by simp[Tryd.f67]) ?_
 have hr:Tryd.f67.results.toList=[.tmp 4]:=rfl
 have lA:=fun h'=>OT ha h'
 have lB:=fun h'=>OT hb h'
 cases d:((A.length:Int) != (B.length:Int)) with
 | true=>
  have hne:A≠B:=fun e=>by subst e;simp at d
  rw[decide_eq_false hne]
  simp only[eE,↓reduceIte,Nat.reduceEqDiff,reduceCtorEq,↓eP,hr,lA,lB,d]
 | false=>
  have hlen:A.length=B.length:=by
   have h9:(A.length:Int)=(B.length:Int):=by simpa using d
   omega
  simp only[eE,↓reduceIte,Nat.reduceEqDiff,reduceCtorEq,↓eP,lA,lB,d]
  refine WK.loop (fun i s'=>s'.T.get 0=va∧s'.T.get 1=vb∧s'.T.get 12=iv A.length∧s'.T.get 13=iv i∧s'.h=h∧i≤A.length∧∀ j,j<i→A[j]?=B[j]?) A.length (by omega) ?_ ?_
  ·exact⟨by simp only[eE,↓reduceIte,Nat.reduceEqDiff,reduceCtorEq,↓eP,rP,Nat.reduceAdd,Nat.reduceLT],by simp only[eE,↓reduceIte,Nat.reduceEqDiff,reduceCtorEq,↓eP,rP,Nat.reduceAdd,Nat.reduceLT],by simp only[eE,↓reduceIte,Nat.reduceEqDiff,reduceCtorEq,↓eP,rP,Nat.reduceAdd,Nat.reduceLT],by simp only[eE,↓reduceIte,Nat.reduceEqDiff,reduceCtorEq,↓eP,rP,Nat.reduceAdd,Nat.reduceLT];rfl,rfl,by omega,fun j hj=>by omega⟩
  ·rintro i ⟨T1,H1⟩ hi ⟨t0,t1,t12,t13,hh,hil,hsame⟩
   simp only at t0 t1 t12 t13 hh
   subst hh
   by_cases hlt:i<A.length
   ·have c1:decide ((i:Int)<(A.length:Int))=true:=by simp;omega
    obtain⟨x,hx⟩:∃ x,A[i]?=some x:=⟨_,List.getElem?_eq_getElem hlt⟩
    obtain⟨y,hy⟩:∃ y,B[i]?=some y:=⟨_,List.getElem?_eq_getElem (by omega)⟩
    obtain⟨ida,pa,ea,_,xa⟩:=WI hx ha
    obtain⟨idb,pb,eb,_,xb⟩:=WI hy hb
    have w1:=DJ i (by omega)
    simp only[eE,seval,↓eP,t0,t1,t12,t13,c1]
    refine WK.flags (fs:=LV) (by kernel_rfl) ?_
    unfold LV
    iterate 9
     refine GN hsn ?_
     simp only[rG,seval,AB,AE,AD,B_,CO,DO,ED,Fsx,Option.bind_some,t0,t1,t12,t13,ea,eb,kL,xa,xb,sA]
    refine GM ?_
    cases e:(!(x.1==y.1&&x.2==y.2)) with
    | true=>
     have hne:A≠B:=fun h9=>by
      subst h9
      rw[hx] at hy
      cases hy
      rw[MN] at e;simp at e
     rw[decide_eq_false hne]
     simp only[eE,seval,↓eP,hr,e]
    | false=>
     have hxy:x=y:=(by simp only[Bool.not_eq_false',Bool.and_eq_true] at e;exact Prod.ext (LK e.1) (by simpa using e.2))
     simp only[eE,seval,↓eP,t0,t1,t12,t13,e,w1]
     refine⟨by omega,by omega,fun j hj=>?_⟩
     rcases Nat.lt_or_ge j i with h1 | h1
     ·exact hsame j h1
     ·have:j=i:=by omega
      subst this
      rw[hx,hy,hxy]
   ·have c1:decide ((i:Int)<(A.length:Int))=false:=by simp;omega
    have:i=A.length:=by omega
    subst this
    have hAB:A=B:=O0 hlen hsame
    rw[decide_eq_true hAB]
    simp only[eE,seval,↓eP,hr,t0,t1,t12,t13,c1]
theorem Mp {n:Nat} {h:AA} {va vb:Value} {A B:List (ByteArray × Bool)} {la lb:Nat} (ha:AZ la h va A.length 2 (IF A)) (hb:AZ lb h vb B.length 2 (IF B)) (hl:A.length<2932031007403) (hn:A.length+5<n):AX n 67 [va,vb] h=some (.bool (decide (A=B)),h):=by
 obtain⟨n,rfl⟩:=D7 hn
 exact JD (CN ⟨rfl,rfl,rfl⟩) rfl (xA (FM n).2 ha hb (by omega) (by omega))
theorem nE {h:AA} {v:Value} {l:List AC} (hv:AV h v l) (h':AA):CC Tryd.prog h' 22 v=some (iv (l.length:Int)):=hv.len
theorem Fw {call:AQ} {N:Nat} {h:AA} (hsn:CH call) {va vb:Value} {A B:List AC} (ha:AV h va A) (hb:AV h vb B) (hN:A.length+3<N) (hl:A.length<30000000000000):A8 Tryd.prog call N 66 [va,vb] h=some (.bool (decide (A=B)),h):=by
 refine D_ Tryd.func66 rfl (by simp[Tryd.f66]) ?_
 have hr:Tryd.f66.results.toList=[.tmp 4]:=rfl
 have lA:=fun h'=>nE ha h'
 have lB:=fun h'=>nE hb h'
 cases d:((A.length:Int) != (B.length:Int)) with
 | true=>
  have hne:A≠B:=fun e=>by subst e;simp at d
  rw[decide_eq_false hne]
  simp only[eE,↓reduceIte,Nat.reduceEqDiff,reduceCtorEq,↓eP,hr,lA,lB,d]
 | false=>
  have hlen:A.length=B.length:=by
   have h9:(A.length:Int)=(B.length:Int):=by simpa using d
   omega
  simp only[eE,↓reduceIte,Nat.reduceEqDiff,reduceCtorEq,↓eP,lA,lB,d]
  refine WK.loop (fun i s'=>s'.T.get 0=va∧s'.T.get 1=vb∧s'.T.get 12=iv A.length∧s'.T.get 13=iv i∧s'.h=h∧i≤A.length∧∀ j,j<i→A[j]?=B[j]?) A.length (by omega) ?_ ?_
  ·exact⟨by simp only[eE,↓reduceIte,Nat.reduceEqDiff,reduceCtorEq,↓eP,rP,Nat.reduceAdd,Nat.reduceLT],by simp only[eE,↓reduceIte,Nat.reduceEqDiff,reduceCtorEq,↓eP,rP,Nat.reduceAdd,Nat.reduceLT],by simp only[eE,↓reduceIte,Nat.reduceEqDiff,reduceCtorEq,↓eP,rP,Nat.reduceAdd,Nat.reduceLT],by simp only[eE,↓reduceIte,Nat.reduceEqDiff,reduceCtorEq,↓eP,rP,Nat.reduceAdd,Nat.reduceLT];rfl,rfl,by omega,fun j hj=>by omega⟩
  ·rintro i ⟨T1,H1⟩ hi ⟨t0,t1,t12,t13,hh,hil,hsame⟩
   simp only at t0 t1 t12 t13 hh
   subst hh
   by_cases hlt:i<A.length
   ·have c1:decide ((i:Int)<(A.length:Int))=true:=by simp;omega
    obtain⟨x,hx⟩:∃ x,A[i]?=some x:=⟨_,List.getElem?_eq_getElem hlt⟩
    obtain⟨y,hy⟩:∃ y,B[i]?=some y:=⟨_,List.getElem?_eq_getElem (by omega)⟩
    obtain⟨ida,pa,ea,_,_,_,_,_,_,xa9⟩:=AV.row ha hx
    have xa:CB 5 pa (H1.get ida)=some (DN x):=xa9
    obtain⟨idb,pb,eb,_,_,_,_,_,_,xb9⟩:=AV.row hb hy
    have xb:CB 5 pb (H1.get idb)=some (DN y):=xb9
    have w1:=DJ i (by omega)
    simp only[eE,seval,↓eP,t0,t1,t12,t13,c1]
    refine WK.flags (fs:=LV) (by kernel_rfl) ?_
    unfold LV
    iterate 9
     refine GN hsn ?_
     simp only[rG,seval,AB,AE,AD,B_,CO,DO,ED,Fsx,Option.bind_some,t0,t1,t12,t13,ea,eb,ID,xa,xb,rJ]
    refine GM ?_
    cases e:(!(K0 x y)) with
    | true=>
     have hne:A≠B:=fun h9=>by
      subst h9
      rw[hx] at hy
      cases hy
      rw[R5.2 rfl] at e;cases e
     rw[decide_eq_false hne]
     simp only[eE,seval,↓eP,hr,e]
    | false=>
     have hxy:x=y:=R5.1 (by simpa using e)
     simp only[eE,seval,↓eP,t0,t1,t12,t13,e,w1]
     refine⟨by omega,by omega,fun j hj=>?_⟩
     rcases Nat.lt_or_ge j i with h1 | h1
     ·exact hsame j h1
     ·have:j=i:=by omega
      subst this
      rw[hx,hy,hxy]
   ·have c1:decide ((i:Int)<(A.length:Int))=false:=by simp;omega
    have:i=A.length:=by omega
    subst this
    have hAB:A=B:=O0 hlen hsame
    rw[decide_eq_true hAB]
    simp only[eE,seval,↓eP,hr,t0,t1,t12,t13,c1]
theorem Er {n:Nat} {h:AA} {va vb:Value} {A B:List AC} (ha:AV h va A) (hb:AV h vb B) (hl:A.length<2932031007403) (hn:A.length+5<n):AX n 66 [va,vb] h=some (.bool (decide (A=B)),h):=by
 obtain⟨n,rfl⟩:=D7 hn
 exact JD (CN ⟨rfl,rfl,rfl⟩) rfl (Fw (FM n).2 ha hb (by omega) (by omega))
theorem jL:∀ (l:List AC) (k:Nat),(l.flatMap AI).take (k*5)=(l.take k).flatMap AI
 | l,0=>by simp
 | [],k+1=>by simp
 | r :: l,k+1=>by
  rw[List.flatMap_cons,List.take_succ_cons,List.flatMap_cons,← jL l k,show (k+1)*5=k*5+5 by omega]
  rfl
theorem Gy {L:List AC} {i:Nat} {x:AC} (hi:i<L.length):Go.Sx.lay (L.flatMap AI) (i*5) (AI x)=(L.set i x).flatMap AI:=by
 have h5:(AI x).length=5:=rfl
 rw[List.set_eq_take_append_cons_drop,if_pos hi,List.flatMap_append,List.flatMap_cons,← jL,← UC]
 simp only[Go.Sx.lay,h5]
 rw[show (i+1)*5=i*5+5 by omega,List.append_assoc]
abbrev EI:AC:=⟨0,ByteArray.empty,0,0,0⟩
abbrev J7:ByteArray:=⟨#[108,101,110,116]⟩
def mark (i:Nat):AC:=⟨-7,J7,0,0,i⟩
theorem sX:∀ n,C0 DC n=(List.replicate n EI).flatMap AI
 | 0=>rfl
 | n+1=>by rw[C0,sX n,List.replicate_succ,List.flatMap_cons];rfl
theorem Nz {h:AA} {n:Nat} (hn:n<5000000000000):L_ Tryd.prog h 22 (.int .i64 (n:Int)) (.int .i64 (n:Int))=some (qS h.next n n,h.push (.row ((List.replicate n EI).flatMap AI) 46 false false)):=by
 have hz:(Value.agg #[.int .i64 0,.string ByteArray.empty,.int .i64 0,.int .i64 0,.int .i64 0]).cells=#[.int .i64 0,.string ByteArray.empty,.int .i64 0,.int .i64 0,.int .i64 0]:=rfl
 have hf:flat (.agg #[.int .i64 0,.string ByteArray.empty,.int .i64 0,.int .i64 0,.int .i64 0])=true:=rfl
 simp only[L_,Tryd.underlying22,HF,GO,UK,hz,hf]
 rw[if_pos (by simp;omega)]
 simp[sX]
theorem UJ {h:AA} {id i off:Nat} {L:List AC} {x:AC} {ty:TypeId} {g:Bool} (ho:off=i*5) (hg:h.get id=.row (L.flatMap AI) ty g false) (hi:i<L.length) (hf:h.floor≤id):BJ Tryd.prog h 46 (qP id off) (DN x)=some (h.put id (.row ((L.set i x).flatMap AI) ty g false)):=by
 subst ho
 have hc:(DN x).cells=(AI x).toArray:=rfl
 have h5:(AI x).length=5:=rfl
 have hone:(AI x).all one=true:=rfl
 have hl:=JN L
 simp only[BJ,hc,HF,G4,hg]
 rw[if_pos (by simp[h5]),if_pos (by simp only[h5,hone,hl];simp;omega),Gy hi]
theorem mC:G7 Tryd.prog (match Tryd.prog.underlying 46 with | some (.struct fs)=>fs.toList | _=>[])=some [(0,1),(1,1),(2,1),(3,1),(4,1)]:=by kernel_rfl
theorem s_ {i:Int}:DB Tryd.prog 46 [(0,iv (-7)),(1,.string J7),(4,iv i)]=some (DN ⟨-7,J7,0,0,i⟩):=by
 have h:=mC
 rw[Tryd.underlying46] at h
 simp only at h
 have hf:flat (.agg #[.int .i64 0,.string ByteArray.empty,.int .i64 0,.int .i64 0,.int .i64 0])=true:=rfl
 simp only[DB,GO,hf,if_true,Tryd.underlying46,h]
 rfl
theorem Ec {h:AA} {id n c:Nat} {L l:List AC} {v:Value} {ty:TypeId} (hv:AV h v l) (hg:h.get id=.row (L.flatMap AI) ty false false) (hl:L.length=n) (hn:l.length≤n) (hid:id<h.next) (hf:h.floor≤id) :
  ∃ h',OW Tryd.prog h 22 (qS id n c) v=some (iv l.length,h')∧h'.get id=.row ((l++L.drop l.length).flatMap AI) ty false false∧h'.next=h.next∧h'.floor=h.floor∧∀ i,i≠id→h'.get i=h.get i:=by
 have hsrc:=hv.src
 obtain⟨a,c',rfl,h1⟩:=hv
 have hm:min l.length n=l.length:=by omega
 by_cases h0:l.length=0
 ·refine⟨h,?_,?_,rfl,rfl,fun _ _=>rfl⟩
  ·simp only[OW,Tryd.underlying22,HF,hm,hsrc]
   rw[if_pos h0]
  ·rw[List.length_eq_zero_iff.1 h0]
   exact hg
 ·have hlen:=JN L
  have hll:=JN l
  refine⟨_,?_,BN rfl hid,rfl,rfl,fun i hi=>AM hid (Ne.symm hi)⟩
  simp only[OW,Tryd.underlying22,HF,hm,hsrc,G4,hg]
  rw[if_neg h0,if_pos (by simp only[UY,hlen,hll,Bool.and_true,Nat.zero_add,Bool.and_eq_true,decide_eq_true_eq];omega)]
  have:Go.Sx.lay (L.flatMap AI) 0 (l.flatMap AI)=(l++L.drop l.length).flatMap AI:=by
   rw[List.flatMap_append,← UC]
   simp only[Go.Sx.lay,List.take_zero,List.nil_append,Nat.zero_add,hll]
  rw[this]
theorem RP {id n c i:Nat} (hi:i<n):CU Tryd.prog 22 (qS id n c) (iv (i:Int))=some (.pointer (some ⟨id,i*5,none⟩)):=JG hi
theorem iX {h:AA} {id n m c:Nat} (hm:m≤c) (hc:c≠AJ):GG Tryd.prog h 22 (qS id n c) none (some (iv (m:Int))) none=some (qS id m c):=by
 simp only[GG,Tryd.underlying22,HF,EW,hc,if_false]
 rw[if_pos (by omega)]
 simp only[Int.toNat_natCast]
 by_cases h0:c=0
 ·subst h0
  simp[CF]
 ·simp[CF]
structure M3 (h:AA) (o:Nat) (l:List AC) (L:List AC):Prop where
 g:h.get o=.row (L.flatMap AI) 46 false false
 len:L.length=l.length+9
 own:∀ j,j<l.length→L[j]?=l[j]?
 marks:∀ q,q<9→L[l.length+q]?=some (mark (l.length+q))
theorem J8 {l:List AC} (h:(AU l).1.1=0):B8 l∧(BR l).1=0∧(CE (AR l) l.length 0 (BU l)).1=0∧¬ IM (CE (AR l) l.length 0 (BU l)).2.2.rows (AR l) (CE (AR l) l.length 0 (BU l)).2.2.rules≥0 ∧
  AU l=((0,0),(CE (AR l) l.length 0 (BU l)).2.2)∧G9 l l.length (AU l).2:=by
 by_cases h1:(BR l).1≠0
 ·unfold AU at h
  rw[if_pos h1] at h
  exact absurd h h1
 ·by_cases h2:(CE (AR l) l.length 0 (BU l)).1≠0
  ·unfold AU at h
   rw[if_neg h1] at h
   simp only at h
   rw[if_pos h2] at h
   exact absurd h h2
  ·by_cases h3:IM (CE (AR l) l.length 0 (BU l)).2.2.rows (AR l) (CE (AR l) l.length 0 (BU l)).2.2.rules≥0
   ·unfold AU at h
    rw[if_neg h1] at h
    simp only at h
    rw[if_neg h2,if_pos h3] at h
    cases h
   ·have e1:(BR l).1=0:=by simpa using h1
    have e2:(CE (AR l) l.length 0 (BU l)).1=0:=by simpa using h2
    have e:AU l=((0,0),(CE (AR l) l.length 0 (BU l)).2.2):=by
     unfold AU
     rw[if_neg h1]
     simp only
     rw[if_neg h2,if_neg h3]
    have ht:=YS (dL e1)
    refine⟨ht,e1,e2,h3,e,?_⟩
    rw[e]
    exact qU ht TF l.length 0 (BU l) (by omega) (PT l) e2
theorem SX {l:List AC} (h:(AU l).1.1=0):C7 l=(C6 l,(AU l).2):=by unfold C7;rw[if_neg (by rw[h];simp)]
theorem jG (nm:ByteArray) (s:AP):NB nm nm s s:=⟨rfl,rfl,rfl,rfl,rfl,rfl,rfl,rfl⟩
def JC (x:AC):AC:=if x.kind≠27 then { x with n:=0 } else x
def A9 (l:List AC):List AC:=l.map JC
def W5 (nm:ByteArray) (s:AP):Prop:=(AU (A9 s.rows)).1.1=0∧NB nm (C7 (A9 s.rows)).1 s (C7 (A9 s.rows)).2
open Classical in
noncomputable def GR (nm:ByteArray) (s:AP):Int:=if W5 nm s then 0 else 23
theorem W7 {H:AA} {cs:List Value} {e p:Int} (hl:cs.length=8) (ho:cs.all one=true) (hf:H.floor≤H.next) :
  ∃ H':AA × AA,BJ Tryd.prog ((H.push (.row BT 30 false false)).push (.row [iv 0,iv 0] 33 false false)) 30 (qP H.next 0) (.agg cs.toArray)=some (H'.1)∧BJ Tryd.prog H'.1 33 (qP (H.next+1) 0) (FY e p)=some H'.2 ∧
   EP H.next H'.2 cs e p∧H'.2.next=H.next+2∧H'.2.floor=H.floor∧∀ i,i<H.next→H'.2.get i=H.get i:=by
 have ga:=LY (h:=H) (o:=.row BT 30 false false) (o':=.row [iv 0,iv 0] 33 false false)
 have gb:=MJ (h:=H) (o:=.row BT 30 false false) (o':=.row [iv 0,iv 0] 33 false false)
 have gold:∀ i,i<H.next→((H.push (.row BT 30 false false)).push (.row [iv 0,iv 0] 33 false false)).get i=H.get i:=fun i hi=>by rw[AT (by show i<H.next+1;omega),AT hi]
 have hnx:((H.push (.row BT 30 false false)).push (.row [iv 0,iv 0] 33 false false)).next=H.next+2:=rfl
 have hfx:((H.push (.row BT 30 false false)).push (.row [iv 0,iv 0] 33 false false)).floor=H.floor:=rfl
 generalize (H.push (.row BT 30 false false)).push (.row [iv 0,iv 0] 33 false false)=G at *
 obtain⟨H',s1,s2,r1,r2,r3,r4⟩:=OC (a:=H.next) (H:=G) ⟨ga,gb⟩ rfl (by omega) (by omega) (cs':=cs) hl ho (e':=e) (p':=p)
 exact⟨⟨_,H'⟩,s1,s2,r1,by show H'.next=_;omega,by show H'.floor=_;omega,fun i hi=>by show H'.get i=_;rw[r4 i (by omega) (by omega),gold i hi]⟩
theorem K_ {lo:Nat} {h:AA} {nm:ByteArray} {s:AP} {vr vq vv vt vu vo:Value} (h1:HT lo h vr s.rows) (h2:AZ lo h vq s.queues.length 2 (IF s.queues)) (h3:AZ lo h vv s.vars.length 1 (D3 s.vars)) (h4:AZ lo h vt s.tags.length 1 (D3 s.tags)) (h5:AK lo h vu s.rules) (h6:AK lo h vo s.on) :
  ([.string nm,vr,vq,vv,vt,vu,vo,iv s.miss]:List Value).all one=true:=by
 simp only[List.all_cons,List.all_nil,h1.2.one,h2.one,h3.one,h4.one,AZ.one h5,AZ.one h6,N7,LE,Bool.and_self]
def PK (v:Value) (n:Nat):Prop:=∃ id off c,v=.slice (some ⟨id,off,none⟩) n c
theorem Fb {call:AQ} {N:Nat} {h:AA} {l:List AC} {v:Value} (hv:AV h v l) (hlies:PK v l.length) (hlen:l.length<2932031007403) :
  ∃ v' h',A8 Tryd.prog call N 48 [v] h=some (v',h')∧(∃ o c g,v'=qS o l.length c∧h'.get o=.row (l.flatMap AI) 46 g false∧h.next≤o∧o<h'.next)∧h'.floor=h.floor∧h.next≤h'.next∧∀ i,i<h.next→h'.get i=h.get i:=by
 by_cases h0:0<l.length
 ·obtain⟨h',e,g1,g2,g3,g4⟩:=uU (call:=call) (N:=N) hv h0 hlen
  exact⟨_,h',e,⟨h.next+1,AJ,true,rfl,g1,by omega,by omega⟩,g3,by omega,g4⟩
 ·have hl:l=[]:=List.length_eq_zero_iff.1 (by omega)
  subst hl
  obtain⟨id,off,c,rfl⟩:=hlies
  refine⟨qS h.next 0 0,h.push (.row [] 46 false false),?_,⟨h.next,0,false,rfl,BP,Nat.le_refl _,by show h.next<h.next+1;omega⟩,rfl,by show h.next≤h.next+1;omega,fun i hi=>AT hi⟩
  refine D_ Tryd.func48 rfl (by simp[Tryd.f48]) ?_
  have hr:Tryd.f48.results.toList=[.tmp 2]:=rfl
  have hb:CR Tryd.prog .eql 22 (.tmp 3) (.const (Z0)) (.slice (some ⟨id,off,none⟩) ([]:List AC).length c) (Z0)=some (.bool false):=by
   have hf:flat (.slice (some ⟨id,off,none⟩) ([]:List AC).length c)=false:=rfl
   simp only[CR,hf,Bool.false_and,Bool.false_eq_true,if_false,Tryd.underlying22]
  have hbs:FN Tryd.prog h 22 0 []=some (qS h.next 0 0,h.push (.row [] 46 false false)):=by
   simp[FN,Tryd.underlying22,HF,GO,flat,B7,E9,I5,C0]
  have hsrc:C_ (h.push (.row [] 46 false false)) 5 ([]:List AC).length (.slice (some ⟨id,off,none⟩) ([]:List AC).length c)=some []:=by simp[C_]
  have hap:DF Tryd.prog (h.push (.row [] 46 false false)) 22 (qS h.next 0 0) (.slice (some ⟨id,off,none⟩) ([]:List AC).length c)=some (qS h.next 0 0,h.push (.row [] 46 false false)):=by
   have hu:(0:Nat)≠AJ:=by unfold AJ;omega
   have hzs:(Value.agg #[.int .i64 0,.string ByteArray.empty,.int .i64 0,.int .i64 0,.int .i64 0]).cells.size=5:=rfl
   simp[DF,Tryd.underlying22,HF,UK,GO,hzs,C_,hu]
  simp only[eE,seval,↓eP,hr,hb,hbs,hap]
theorem Cz {n:Nat} {h:AA} {l:List AC} {v:Value} (hv:AV h v l) (hlies:PK v l.length) (hlen:l.length<2932031007403) (hn:0<n) :
  ∃ v' h',AX n 48 [v] h=some (v',h')∧(∃ o c g,v'=qS o l.length c∧h'.get o=.row (l.flatMap AI) 46 g false∧h.next≤o∧o<h'.next)∧h'.floor=h.floor∧h.next≤h'.next∧∀ i,i<h.next→h'.get i=h.get i:=by
 obtain⟨n,rfl⟩:=D7 hn
 refine NG (CN ⟨rfl,rfl,rfl⟩) (Fb (call:=AX n) (N:=n) hv hlies hlen) fun v' h1 hf ho ⟨⟨o,c,g,e1,_⟩,_⟩=>?_
 rw[e1] at hf
 cases hf
section
variable {n N:Nat}
theorem Bh {nm:ByteArray} {s:AP} {pv:Value} {lo:Nat} {h:AA} (hp:C1 lo h pv nm s) (hlies:∀ nm' vr vq vv vt vu vo m,pv=.agg #[.string nm',vr,vq,vv,vt,vu,vo,m]→PK vr s.rows.length) (hs:HV s) (hl:s.rows.length<2932031007403) (hfl:h.floor≤h.next) (hg:h.get 0=DZ) (hn0:0<h.next) (hn:2*HM s+200<n) (hN:HM s+200<N) :
  ∃ h',A8 Tryd.prog (AX n) N 22 [pv] h=some (iv (GR nm s),h')∧∀ i,i<h.next→h'.get i=h.get i:=by
 obtain⟨vr,vq,vv,vt,vu,vo,rfl,p1,p2,p3,p4,p5,p6⟩:=hp
 have hlv:=hlies _ _ _ _ _ _ _ _ rfl
 refine FE (R:=fun h'=>∀ i,i<h.next→h'.get i=h.get i) Tryd.func22 rfl (by simp[Tryd.f22]) ?_
 have hr:Tryd.f22.results.toList=[.tmp 2]:=rfl
 unfold HM at hn hN
 obtain⟨q1,q2,q3,q4,q5,q6⟩:=hs
 have ca:=GJ [.string nm,vr,vq,vv,vt,vu,vo,iv s.miss]
 have oa:=K_ (nm:=nm) p1 p2 p3 p4 p5 p6
 have gA:(h.push (.row [.string nm,vr,vq,vv,vt,vu,vo,iv s.miss] 30 false false)).get h.next=.row [.string nm,vr,vq,vv,vt,vu,vo,iv s.miss] 30 false false:=BP
 have gO:∀ i,i<h.next→(h.push (.row [.string nm,vr,vq,vv,vt,vu,vo,iv s.miss] 30 false false)).get i=h.get i:=fun i hi=>AT hi
 have nA:(h.push (.row [.string nm,vr,vq,vv,vt,vu,vo,iv s.miss] 30 false false)).next=h.next+1:=rfl
 have fA:(h.push (.row [.string nm,vr,vq,vv,vt,vu,vo,iv s.miss] 30 false false)).floor=h.floor:=rfl
 show WK _ _ _ (.seq _ (.seq _ (.seq (.seq _ _) (.seq _ (.seq _ _))))) _ _
 simp only[eE,seval,↓eP,DG,DA,C9,ca,oa,HR]
 generalize h.push (.row [.string nm,vr,vq,vv,vt,vu,vo,iv s.miss] 30 false false)=A at *
 have l1:AS 1 (A.get h.next)=some vr:=by rw[gA];rfl
 have P1:AV A vr s.rows:=p1.1.mono (by omega) gO
 obtain⟨v',h1,hcl,⟨o,c,g,rfl,g1,g2,g3⟩,f1,n1,o1⟩:=Cz (n:=n) P1 hlv (by omega) (by omega)
 have hlen:∀ h':AA,CC Tryd.prog h' 22 (qS o s.rows.length c)=some (iv (s.rows.length:Int)):=fun h'=>OI
 simp only[eE,seval,↓eP,Nat.zero_add,CL,CK,l1,hcl,hlen]
 refine WK.loop (fun i s'=>s'.T.get 1=qP h.next 0∧s'.T.get 3=qS o s.rows.length c∧s'.T.get 11=iv (s.rows.length:Int)∧s'.T.get 12=iv i∧i≤s.rows.length∧s'.h.next=h1.next∧s'.h.floor=h1.floor∧(∀ i,i≠o→s'.h.get i=h1.get i) ∧
  ∃ L:List AC,s'.h.get o=.row (L.flatMap AI) 46 g false∧∀ j,L[j]?=(s.rows[j]?).map fun x=>if j<i then JC x else x) s.rows.length (by omega) ?_ ?_
 ·refine⟨by simp only[eE,↓reduceIte,Nat.reduceEqDiff,reduceCtorEq,↓eP,rP,Nat.reduceAdd,Nat.reduceLT],by simp only[eE,↓reduceIte,Nat.reduceEqDiff,reduceCtorEq,↓eP,rP,Nat.reduceAdd,Nat.reduceLT],by simp only[eE,↓reduceIte,Nat.reduceEqDiff,reduceCtorEq,↓eP,rP,Nat.reduceAdd,Nat.reduceLT],by simp only[eE,↓reduceIte,Nat.reduceEqDiff,reduceCtorEq,↓eP,rP,Nat.reduceAdd,Nat.reduceLT];rfl,by omega,rfl,rfl,fun _ _=>rfl,s.rows,g1,fun j=>?_⟩
  simp
 rintro i ⟨T1,H1⟩ hi ⟨t1,t3,t11,t12,hil,m1,m2,m3,L,gL,hL⟩
 simp only at t1 t3 t11 t12 m1 m2 m3 gL
 have hLl:L.length=s.rows.length:=by
  rcases Nat.lt_trichotomy L.length s.rows.length with h9 | h9 | h9
  ·have:=hL L.length
   rw[List.getElem?_eq_none (Nat.le_refl _),List.getElem?_eq_getElem h9] at this
   cases this
  ·exact h9
  ·have:=hL s.rows.length
   rw[List.getElem?_eq_getElem h9,List.getElem?_eq_none (Nat.le_refl _)] at this
   cases this
 by_cases hlt:i<s.rows.length
 ·have c1:decide ((i:Int)<(s.rows.length:Int))=true:=by simp;omega
  obtain⟨x,hx⟩:∃ x,s.rows[i]?=some x:=⟨_,List.getElem?_eq_getElem hlt⟩
  have hLx:L[i]?=some x:=by rw[hL,hx];simp
  have ea:=RP (id:=o) (n:=s.rows.length) (c:=c) hlt
  have lk:AS (i*5) (H1.get o)=some (iv x.kind):=by
   have h5:=N5 hLx
   rw[gL]
   have:(L.flatMap AI)[i*5]?=(AI x)[0]?:=by
    rw[← h5,List.getElem?_take_of_lt (by omega),List.getElem?_drop,Nat.add_zero]
   simp only[AS,this]
   rfl
  have w1:=DJ i (by omega)
  cases d:(x.kind != 27) with
  | false=>
   have hz:JC x=x:=by
    unfold JC
    rw[if_neg (by simpa using d)]
   simp only[eE,seval,↓eP,t1,t3,t11,t12,c1,ea,DP,A_,lk,d,w1]
   refine⟨hlt,by omega,m1,m2,m3,L,gL,fun j=>?_⟩
   rw[hL j]
   by_cases hj:j=i
   ·subst hj
    rw[hx]
    simp[hz]
   ·congr 1
    funext y
    by_cases h9:j<i
    ·rw[if_pos h9,if_pos (by omega)]
    ·rw[if_neg h9,if_neg (by omega)]
  | true=>
   have hz:JC x={ x with n:=0 }:=by
    unfold JC
    rw[if_pos (by simpa using d)]
   have hst:=F5 (t:=3) (off:=i*5+3) (v:=iv 0) CQ rfl rfl gL (by rw[JN];omega) (by omega)
   rw[TM hLx] at hst
   simp only[eE,seval,↓eP,t1,t3,t11,t12,c1,ea,DP,JP,A_,lk,d,hst,w1]
   refine⟨hlt,by omega,m1,m2,fun j hj=>by rw[AM (by omega) (Ne.symm hj)];exact m3 j hj,E_ L i 0,BN rfl (by omega),fun j=>?_⟩
   by_cases hj:j=i
   ·subst hj
    rw[JB hLx,hx]
    simp[hz]
   ·rw[JL hj,hL j]
    congr 1
    funext y
    by_cases h9:j<i
    ·rw[if_pos h9,if_pos (by omega)]
    ·rw[if_neg h9,if_neg (by omega)]
 have c1:decide ((i:Int)<(s.rows.length:Int))=false:=by simp;omega
 have:i=s.rows.length:=by omega
 subst this
 have hLz:L=A9 s.rows:=by
  apply List.ext_getElem?
  intro j
  rw[hL j,A9,List.getElem?_map]
  rcases Nat.lt_or_ge j s.rows.length with h9 | h9
  ·simp[h9]
  ·rw[List.getElem?_eq_none h9]
   rfl
 subst hLz
 have hvz:AV H1 (qS o s.rows.length c) (A9 s.rows):=by
  refine⟨_,_,by rw[hLl],.inr ⟨o,0,_,_,_,_,rfl,gL,by omega,fun k r hk=>by rw[Nat.zero_add];exact N5 hk⟩⟩
 have hw1:H1.get 0=DZ:=by rw[m3 0 (by omega),o1 0 (by omega),gO 0 hn0];exact hg
 obtain⟨v2,h2,hres,pv,rfl,hp',f2,n2,o2⟩:=Na (n:=n) (h:=H1) (by omega) hw1 (by omega) hvz (by omega) (by omega)
 obtain⟨vr',vq',vv',vt',vu',vo',rfl,b1,b2,b3,b4,b5,b6⟩:=hp'
 obtain⟨⟨hb,h3⟩,s1,s2,rO,n3,f3,o3⟩:=W7 (H:=h2) (cs:=[.string (C7 (A9 s.rows)).1,vr',vq',vv',vt',vu',vo',iv (C7 (A9 s.rows)).2.miss]) (e:=(AU (A9 s.rows)).1.1) (p:=(AU (A9 s.rows)).1.2) rfl (K_ b1 b2 b3 b4 b5 b6) (by omega)
 simp only at s1 s2 rO n3 f3 o3
 have HO:∀ i,i<h.next→h3.get i=h.get i:=fun i hi=>by rw[o3 i (by omega),o2 i (by omega),m3 i (by omega),o1 i (by omega),gO i hi]
 have HA:h3.get h.next=.row [.string nm,vr,vq,vv,vt,vu,vo,iv s.miss] 30 false false:=by rw[o3 _ (by omega),o2 _ (by omega),m3 _ (by omega),o1 _ (by omega)];exact gA
 obtain⟨x0,x1,x2,x3,x4,x5,x6,x7⟩:=O8 (a:=.string nm) (b:=vr) (c:=vq) (d:=vv) (e:=vt) (f:=vu) (g:=vo) (i:=iv s.miss) (ty:=30) (x:=false) (y:=false)
 obtain⟨y0,y1,y2,y3,y4,y5,y6,y7⟩:=O8 (a:=.string (C7 (A9 s.rows)).1) (b:=vr') (c:=vq') (d:=vv') (e:=vt') (f:=vu') (g:=vo') (i:=iv (C7 (A9 s.rows)).2.miss) (ty:=30) (x:=false) (y:=false)
 rw[← HA] at x0 x1 x2 x3 x4 x5 x6 x7
 rw[← rO.1] at y0 y1 y2 y3 y4 y5 y6 y7
 have lF:AS 0 (h3.get (h2.next+1))=some (iv (AU (A9 s.rows)).1.1):=by rw[rO.2];rfl
 have NN:h.next≤h3.next:=by omega
 have A1:=p1.1.mono NN HO
 have A2:=p2.mono NN fun i _ hi=>HO i hi
 have A3:=p3.mono NN fun i _ hi=>HO i hi
 have A4:=p4.mono NN fun i _ hi=>HO i hi
 have A5:=AK.mono p5 NN fun i _ hi=>HO i hi
 have A6:=AK.mono p6 NN fun i _ hi=>HO i hi
 have B1:=(b1.mono (h':=h3) (by omega) fun i _ hi=>o3 i hi).1
 have B2:=b2.mono (h':=h3) (by omega) fun i _ hi=>o3 i hi
 have B3:=b3.mono (h':=h3) (by omega) fun i _ hi=>o3 i hi
 have B4:=b4.mono (h':=h3) (by omega) fun i _ hi=>o3 i hi
 have B5:=AK.mono (h':=h3) b5 (by omega) fun i _ hi=>o3 i hi
 have B6:=AK.mono (h':=h3) b6 (by omega) fun i _ hi=>o3 i hi
 have hR:=Er (n:=n) A1 B1 (by omega) (by omega)
 have hQ:=Mp (n:=n) A2 B2 (by omega) (by omega)
 have hV:=tU (n:=n) A3 B3 (by omega) (by omega)
 have hT:=tU (n:=n) A4 B4 (by omega) (by omega)
 have hU:=n_ (n:=n) A5 B5 (by omega) (by omega)
 have hO:=n_ (n:=n) A6 B6 (by omega) (by omega)
 have yes:(AU (A9 s.rows)).1.1=0→NB nm (C7 (A9 s.rows)).1 s (C7 (A9 s.rows)).2→GR nm s=0:=fun h8 h9=>if_pos ⟨h8,h9⟩
 have no1:(AU (A9 s.rows)).1.1≠0→GR nm s=23:=fun h8=>if_neg fun h9=>h8 h9.1
 have no2:¬ NB nm (C7 (A9 s.rows)).1 s (C7 (A9 s.rows)).2→GR nm s=23:=fun h8=>if_neg fun h9=>h8 h9.2
 simp only[eE,seval,↓eP,t1,t3,t11,t12,c1,hres,MF,MH,NL,IA,IG,M0,DL,s1,s2]
 cases d0:((AU (A9 s.rows)).1.1 != 0) with
 | true=>
  rw[no1 (by simpa using d0)]
  simp only[eE,seval,↓eP,hr,t1,List.append_eq,List.toList_toArray,Nat.zero_add,HJ,HC,lF,J3,CL,FB,GE,GF,GU,HN,HP,FQ,A_,CK,FL,FH,CX,x0,x1,x2,x3,x4,x5,x6,x7,y0,y1,y2,y3,y4,y5,y6,y7,I4,d0]
  exact HO
 | false=>
 cases d1:(!(nm==(C7 (A9 s.rows)).1)) with
 | true=>
  rw[no2 fun h9=>by rw[h9.1,MN] at d1;cases d1]
  simp only[eE,seval,↓eP,hr,t1,List.append_eq,List.toList_toArray,Nat.zero_add,HJ,HC,lF,J3,CL,FB,GE,GF,GU,HN,HP,FQ,A_,CK,FL,FH,CX,x0,x1,x2,x3,x4,x5,x6,x7,y0,y1,y2,y3,y4,y5,y6,y7,I4,d0,d1]
  exact HO
 | false=>
 cases d2:(s.miss != (C7 (A9 s.rows)).2.miss) with
 | true=>
  rw[no2 fun h9=>by rw[h9.2.1] at d2;simp at d2]
  simp only[eE,seval,↓eP,hr,t1,List.append_eq,List.toList_toArray,Nat.zero_add,HJ,HC,lF,J3,CL,FB,GE,GF,GU,HN,HP,FQ,A_,CK,FL,FH,CX,x0,x1,x2,x3,x4,x5,x6,x7,y0,y1,y2,y3,y4,y5,y6,y7,I4,d0,d1,d2]
  exact HO
 | false=>
 cases d3:decide (s.rows=(C7 (A9 s.rows)).2.rows) with
 | false=>
  rw[d3] at hR
  rw[no2 fun h9=>(of_decide_eq_false d3) h9.2.2.1]
  simp only[eE,seval,↓eP,hr,t1,List.append_eq,List.toList_toArray,Nat.zero_add,HJ,HC,lF,J3,CL,FB,GE,GF,GU,HN,HP,FQ,A_,CK,FL,FH,CX,x0,x1,x2,x3,x4,x5,x6,x7,y0,y1,y2,y3,y4,y5,y6,y7,I4,d0,d1,d2,hR]
  exact HO
 | true=>
 rw[d3] at hR
 cases d4:decide (s.queues=(C7 (A9 s.rows)).2.queues) with
 | false=>
  rw[d4] at hQ
  rw[no2 fun h9=>(of_decide_eq_false d4) h9.2.2.2.1]
  simp only[eE,seval,↓eP,hr,t1,List.append_eq,List.toList_toArray,Nat.zero_add,HJ,HC,lF,J3,CL,FB,GE,GF,GU,HN,HP,FQ,A_,CK,FL,FH,CX,x0,x1,x2,x3,x4,x5,x6,x7,y0,y1,y2,y3,y4,y5,y6,y7,I4,d0,d1,d2,hR,hQ]
  exact HO
 | true=>
 rw[d4] at hQ
 cases d5:decide (s.vars=(C7 (A9 s.rows)).2.vars) with
 | false=>
  rw[d5] at hV
  rw[no2 fun h9=>(of_decide_eq_false d5) h9.2.2.2.2.1]
  simp only[eE,seval,↓eP,hr,t1,List.append_eq,List.toList_toArray,Nat.zero_add,HJ,HC,lF,J3,CL,FB,GE,GF,GU,HN,HP,FQ,A_,CK,FL,FH,CX,x0,x1,x2,x3,x4,x5,x6,x7,y0,y1,y2,y3,y4,y5,y6,y7,I4,d0,d1,d2,hR,hQ,hV]
  exact HO
 | true=>
 rw[d5] at hV
 cases d6:decide (s.tags=(C7 (A9 s.rows)).2.tags) with
 | false=>
  rw[d6] at hT
  rw[no2 fun h9=>(of_decide_eq_false d6) h9.2.2.2.2.2.1]
  simp only[eE,seval,↓eP,hr,t1,List.append_eq,List.toList_toArray,Nat.zero_add,HJ,HC,lF,J3,CL,FB,GE,GF,GU,HN,HP,FQ,A_,CK,FL,FH,CX,x0,x1,x2,x3,x4,x5,x6,x7,y0,y1,y2,y3,y4,y5,y6,y7,I4,d0,d1,d2,hR,hQ,hV,hT]
  exact HO
 | true=>
 rw[d6] at hT
 cases d7:decide (s.rules=(C7 (A9 s.rows)).2.rules) with
 | false=>
  rw[d7] at hU
  rw[no2 fun h9=>(of_decide_eq_false d7) h9.2.2.2.2.2.2.1]
  simp only[eE,seval,↓eP,hr,t1,List.append_eq,List.toList_toArray,Nat.zero_add,HJ,HC,lF,J3,CL,FB,GE,GF,GU,HN,HP,FQ,A_,CK,FL,FH,CX,x0,x1,x2,x3,x4,x5,x6,x7,y0,y1,y2,y3,y4,y5,y6,y7,I4,d0,d1,d2,hR,hQ,hV,hT,hU]
  exact HO
 | true=>
 rw[d7] at hU
 cases d8:decide (s.on=(C7 (A9 s.rows)).2.on) with
 | false=>
  rw[d8] at hO
  rw[no2 fun h9=>(of_decide_eq_false d8) h9.2.2.2.2.2.2.2]
  simp only[eE,seval,↓eP,hr,t1,List.append_eq,List.toList_toArray,Nat.zero_add,HJ,HC,lF,J3,CL,FB,GE,GF,GU,HN,HP,FQ,A_,CK,FL,FH,CX,x0,x1,x2,x3,x4,x5,x6,x7,y0,y1,y2,y3,y4,y5,y6,y7,I4,d0,d1,d2,hR,hQ,hV,hT,hU,hO]
  exact HO
 | true=>
 rw[d8] at hO
 rw[yes (by simpa using d0) ⟨LK (by simpa using d1),by simpa using d2,of_decide_eq_true d3,of_decide_eq_true d4,of_decide_eq_true d5,of_decide_eq_true d6,of_decide_eq_true d7,of_decide_eq_true d8⟩]
 simp only[eE,seval,↓eP,hr,t1,List.append_eq,List.toList_toArray,Nat.zero_add,HJ,HC,lF,J3,CL,FB,GE,GF,GU,HN,HP,FQ,A_,CK,FL,FH,CX,x0,x1,x2,x3,x4,x5,x6,x7,y0,y1,y2,y3,y4,y5,y6,y7,I4,d0,d1,d2,hR,hQ,hV,hT,hU,hO]
 exact HO
theorem Fh {nm:ByteArray} {s:AP} {pv:Value} {lo:Nat} {h:AA} (hp:C1 lo h pv nm s) (hlies:∀ nm' vr vq vv vt vu vo m,pv=.agg #[.string nm',vr,vq,vv,vt,vu,vo,m]→PK vr s.rows.length) (hs:HV s) (hl:s.rows.length<2932031007403) (hfl:h.floor≤h.next) (hg:h.get 0=DZ) (hn0:0<h.next) (hn:2*HM s+300<n) :
  AX n 22 [pv] h=some (iv (GR nm s),h):=by
 obtain⟨n,rfl⟩:=D7 hn
 exact J6 (CN ⟨rfl,rfl,rfl⟩) rfl (Bh hp hlies hs hl hfl hg hn0 (by omega) (by omega))
end
theorem pQ {l:List AC}:∀ (a b p q r:Nat),EM l a p q→EM l b q r→EM l (a+b) p r
 | 0,b,p,q,r,h,h2=>by
  have:p=q:=h
  subst this
  rw[Nat.zero_add]
  exact h2
 | a+1,b,p,q,r,⟨p',h1,h3,h4,h5⟩,h2=>by
  rw[show a+1+b=(a+b)+1 by omega]
  exact⟨p',h1,h3,h4,pQ a b p' q r h5 h2⟩
section
variable {call:AQ} {N:Nat} {h:AA}
theorem Oy {Z L:List AC} {v:Value} {at_ q:Nat} (hsk:GV L Z) (hv:AV h v L) (hs:DX Z at_ q) (hlen:L.length<30000000000000) (hN:L.length+3<N) :
  A8 Tryd.prog call N 110 [v,iv at_] h=some (iv q,h):=by
 refine D_ Tryd.func110 rfl (by simp[Tryd.f110]) ?_
 have hr:Tryd.f110.results.toList=[.tmp 4]:=rfl
 have hl:=fun h'=>hv.len (h':=h')
 have hq:=hs.lt
 have hZ:=hsk.1
 simp only[eE,seval,↓eP,rP,hr]
 refine WK.loop (fun i s'=>s'.h=h∧s'.T.get 0=v∧s'.T.get 1=iv ((at_+i:Nat):Int)∧∃ r:Nat,s'.T.get 5=iv r∧EM Z r (at_+i) q) (q-at_) (by omega) ?_ ?_
 ·exact⟨rfl,by simp only[eE,seval,↓eP,rP],by simp only[eE,seval,↓eP,rP,Nat.add_zero],1,by simp only[eE,seval,↓eP,rP],q,hs,hq.1,hq.2,rfl⟩
 rintro i ⟨T1,H1⟩ hi ⟨rfl,t0,t1,r,t5,hc⟩
 simp only at t0 t1 t5
 cases r with
 | zero=>
  have hpq:at_+i=q:=hc
  have c1:decide (((0:Nat):Int)>0)=false:=rfl
  rw[hpq] at t1
  simp only[eE,seval,↓eP,rP,hr,t0,t1,t5,c1]
 | succ r=>
  obtain⟨p',h1,h2,h3,h4⟩:=hc
  have hle:=HE _ _ _ h4
  have c1:decide (((r+1:Nat):Int)>0)=true:=decide_eq_true (by omega)
  have c2:decide (((at_+i:Nat):Int)≥0)=true:=decide_eq_true (by omega)
  have c3:decide (((at_+i:Nat):Int)<(L.length:Int))=true:=by simp;omega
  obtain⟨x,hx,hk0,_,hch⟩:=h1.kids
  obtain⟨y,hy,hyk⟩:=hsk.2 _ x hx
  obtain⟨id,p,e0,hid,l0,l1,l2,l3,l4,lr⟩:=hv.row hy
  rw[hyk] at l4
  have hcl:=HE _ _ _ hch
  have m1:(if (L.length:Int)<x.kids then (L.length:Int) else x.kids)=x.kids:=if_neg (by omega)
  have m2:(if x.kids>0 then x.kids else 0)=x.kids:=by split <;> omega
  have w1:IntKind.i64.wrap (x.kids-1)=x.kids-1:=B0 (by omega) (by omega)
  have w2:IntKind.i64.wrap (((r+1:Nat):Int)+(x.kids-1))=((x.kids.toNat+r:Nat):Int):=by rw[B0 (by omega) (by omega)];omega
  have w3:IntKind.i64.wrap (((at_+i:Nat):Int)+1)=((at_+(i+1):Nat):Int):=by rw[B0 (by omega) (by omega)];omega
  simp only[eE,seval,↓eP,rP,t0,t1,t5,c1,c2,hl,c3,e0,l4,m1,m2,w1,w2,w3]
  exact⟨by omega,_,rfl,pQ _ _ _ _ _ hch h4⟩
theorem Cl {n:Nat} {Z L:List AC} {v:Value} {at_ q:Nat} (hsk:GV L Z) (hv:AV h v L) (hs:DX Z at_ q) (hlen:L.length<30000000000000) (hn:L.length+5<n) :
  AX n 110 [v,iv at_] h=some (iv q,h):=by
 obtain⟨n,rfl⟩:=D7 hn
 exact JD (CN ⟨rfl,rfl,rfl⟩) rfl (Oy hsk hv hs hlen (by omega))
def BW (e:Nat→Nat):Nat→Nat→List Nat
 | 0,_=>[]
 | k+1,p=>p :: BW e k (e p)
theorem WP {e:Nat→Nat}:∀ k p,(BW e k p).length=k
 | 0,p=>rfl
 | k+1,p=>by show (BW e k (e p)).length+1=_;rw[WP k (e p)]
def HQ (h:AA) (lo:Nat) (v:Value) (l:List Int):Prop:=
 (v=Z0∧l=[])∨∃ id c,v=qS id l.length c∧lo≤id∧id<h.next∧((c=AJ∧h.get id=.row (ints l) 3 true false)∨(c=l.length∧h.get id=.row (ints l) 3 false false))
theorem HQ.ints {lo lo':Nat} {v:Value} {l:List Int} (hl:HQ h lo v l) (hle:lo'≤lo):AK lo' h v l:=by
 rcases hl with⟨rfl,rfl⟩ | ⟨id,c,rfl,h1,h2,⟨_,h3⟩ | ⟨_,h3⟩⟩
 ·exact AZ.nil lo' h 1
 ·exact AK.row' h3 ⟨by omega,h2⟩ rfl
 ·exact AK.row' h3 ⟨by omega,h2⟩ rfl
theorem HQ.mono {h':AA} {lo:Nat} {v:Value} {l:List Int} (hl:HQ h lo v l) (hn:h.next≤h'.next) (hg:∀ i,lo≤i→i<h.next→h'.get i=h.get i):HQ h' lo v l:=by
 rcases hl with h1 | ⟨id,c,h1,h2,h3,h4⟩
 ·exact .inl h1
 ·exact .inr ⟨id,c,h1,h2,by omega,by rw[hg id h2 h3];exact h4⟩
theorem aK:(Value.int .i64 0).cells.size=1:=rfl
theorem ZE {lo:Nat} {v:Value} {l:List Int} {x:Int} (hl:HQ h lo v l) (hlo:lo≤h.next) (hf:h.floor≤lo) (hb:l.length<17592186044415) :
  ∃ v' h',DF Tryd.prog (h.push (.row [iv x] 3 false false)) 28 v (qS h.next 1 1)=some (v',h')∧HQ h' lo v' (l++[x])∧h'.floor=h.floor∧h.next≤h'.next∧∀ i,i<lo→h'.get i=h.get i:=by
 have hsrc:C_ (h.push (.row [iv x] 3 false false)) 1 1 (qS h.next 1 1)=some [iv x]:=by
  simp only[C_,BP]
  rfl
 have hone:([iv x]:List Value).all one=true:=rfl
 have hi1:ints (l++[x])=ints l++[iv x]:=by simp[ints]
 rcases hl with⟨rfl,rfl⟩ | ⟨id,c,rfl,h1,h2,h3⟩
 ·have hnu:(0:Nat)≠AJ:=by unfold AJ;omega
  refine⟨.slice (some ⟨(h.push (.row [iv x] 3 false false)).next,0,none⟩) 1 AJ,(h.push (.row [iv x] 3 false false)).push (.row [iv x] 3 true false),?_,.inr ⟨_,AJ,rfl,?_,?_,.inl ⟨rfl,BP⟩⟩,rfl,by show h.next≤h.next+1+1;omega,fun i hi=>?_⟩
  ·have h0:C_ (h.push (.row [iv x] 3 false false)) 1 0 (Z0)=some []:=by simp[C_]
   simp only[DF,Tryd.underlying28,CQ,LC,JM,aK,hsrc,hone,h0]
   rw[if_pos (by simp),if_pos trivial,if_neg hnu,if_neg (by omega),if_pos (by simp)]
   rfl
  ·show lo≤h.next+1;omega
  ·show h.next+1<h.next+1+1;omega
  ·rw[AT (by show i<h.next+1;omega),AT (by omega)]
 ·have hll:(ints l).length=l.length:=FP l
  rcases h3 with⟨rfl,hg⟩ | ⟨rfl,hg⟩
  ·have hu:l.length≤AJ:=by unfold AJ;omega
   have hg':(h.push (.row [iv x] 3 false false)).get id=.row (ints l) 3 true false:=by rw[AT h2];exact hg
   have hcut:F2 (ints l) 0 (l.length*1)=some (ints l):=by
    simp only[F2,List.drop_zero]
    rw[List.take_of_length_le (by omega),if_pos (by omega)]
   refine⟨.slice (some ⟨(h.push (.row [iv x] 3 false false)).next,0,none⟩) (l.length+1) AJ,((h.push (.row [iv x] 3 false false)).put id .dead).push (.row (ints l++[iv x]) 3 true false),?_,.inr ⟨_,AJ,by rw[List.length_append];rfl,?_,?_,.inl ⟨rfl,?_⟩⟩,rfl,by show h.next≤h.next+1+1;omega,fun i hi=>?_⟩
   ·simp only[DF,Tryd.underlying28,CQ,LC,JM,aK,hsrc,hone,hg',hcut,PE]
    rw[if_pos (by simp;omega),if_pos trivial,if_pos trivial,if_pos (by rw[DK,decide_eq_true (show (l.length+1)*8≤140737488355328 by omega),decide_eq_true (show l.length+1≤140737488355328 by omega),decide_eq_true (show h.floor≤id by omega)];rfl),if_neg (by decide),if_pos trivial,if_pos trivial]
   ·show lo≤h.next+1;omega
   ·show h.next+1<h.next+1+1;omega
   ·rw[hi1]
    exact BP
   ·rw[AT (by show i<h.next+1;omega),AM (by show id<h.next+1;omega) (by omega),AT (by omega)]
  ·have hcut:C_ (h.push (.row [iv x] 3 false false)) 1 l.length (qS id l.length l.length)=some (ints l):=by
    by_cases h0:l.length=0
    ·rw[List.length_eq_zero_iff.1 h0]
     rfl
    ·simp only[C_,AT h2,hg,F2,List.drop_zero]
     rw[if_neg h0,List.take_of_length_le (by omega),if_pos (by omega)]
   refine⟨.slice (some ⟨(h.push (.row [iv x] 3 false false)).next,0,none⟩) (l.length+1) AJ,(h.push (.row [iv x] 3 false false)).push (.row (ints l++[iv x]) 3 true false),?_,.inr ⟨_,AJ,by rw[List.length_append];rfl,?_,?_,.inl ⟨rfl,?_⟩⟩,rfl,by show h.next≤h.next+1+1;omega,fun i hi=>?_⟩
   ·simp only[DF,Tryd.underlying28,CQ,LC,JM,aK,hsrc,hone,hcut]
    rw[if_pos (by simp),if_pos trivial,if_neg (by unfold AJ;omega),if_neg (by omega),if_pos (by simp only[Bool.and_eq_true,decide_eq_true_eq];omega)]
   ·show lo≤h.next+1;omega
   ·show h.next+1<h.next+1+1;omega
   ·rw[hi1]
    exact BP
   ·rw[AT (by show i<h.next+1;omega),AT (by omega)]
theorem vZ {n:Nat} {Z L:List AC} {v:Value} {at_:Nat} {x:AC} (ht:B8 Z) (hsk:GV L Z) (hv:AV h v L) (hx:Z[at_]?=some x) (hlen:L.length<2932031007403) (hn:L.length+10<n) (hN:L.length+3<N) (hfl:h.floor≤h.next) :
  ∃ v' h',A8 Tryd.prog (AX n) N 96 [v,iv at_] h=some (v',h')∧(HQ h' h.next v' ((BW (AG Z) x.kids.toNat (at_+1)).map (fun (k:Nat)=>(k:Int)))∧h'.floor=h.floor∧h.next≤h'.next∧∀ i,i<h.next→h'.get i=h.get i):=by
 refine M8 (R:=fun v' h'=>HQ h' h.next v' ((BW (AG Z) x.kids.toNat (at_+1)).map (fun (k:Nat)=>(k:Int)))∧h'.floor=h.floor∧h.next≤h'.next∧∀ i,i<h.next→h'.get i=h.get i) Tryd.func96 rfl (by simp[Tryd.f96]) ?_
 have hr:Tryd.f96.results.toList=[.tmp 4]:=rfl
 have hl:=fun (h':AA)=>hv.len (h':=h')
 have hal:=(List.getElem?_eq_some_iff.1 hx).1
 have hZ:=hsk.1
 have hs:=ht.end hal
 obtain⟨x',hx',hk0,_,hch⟩:=hs.kids
 rw[hx] at hx'
 cases hx'
 have hq:=hs.lt
 have hcl:=HE _ _ _ hch
 obtain⟨y,hy,hyk⟩:=hsk.2 _ x hx
 obtain⟨id,p,e0,hid,l0,l1,l2,l3,l4,lr⟩:=hv.row hy
 rw[hyk] at l4
 have c1:decide ((at_:Int)<0)=false:=by simp
 have c2:decide ((at_:Int)≥(L.length:Int))=false:=by simp;omega
 have w1:=DJ at_ (by omega)
 simp only[eE,seval,↓eP,rP,hr,c1,hl,c2,w1,e0,l4]
 refine WK.loop (fun i s'=>s'.T.get 0=v∧s'.T.get 21=iv x.kids∧s'.T.get 22=iv i∧i≤x.kids.toNat∧h.next≤s'.h.next∧s'.h.floor=h.floor∧(∀ j,j<h.next→s'.h.get j=h.get j)∧∃ p l w,s'.T.get 6=iv ((p:Nat):Int)∧s'.T.get 5=w∧HQ s'.h h.next w (l.map (fun (k:Nat)=>(k:Int)))∧l.length=i∧l++BW (AG Z) (x.kids.toNat-i) p=BW (AG Z) x.kids.toNat (at_+1)∧EM Z (x.kids.toNat-i) p (AG Z at_)) x.kids.toNat (by omega) ?_ ?_
 ·exact⟨by simp only[eE,seval,↓eP,rP],by simp only[eE,seval,↓eP,rP],by simp only[eE,seval,↓eP,rP],by omega,Nat.le_refl _,rfl,fun _ _=>rfl,at_+1,[],Z0,by simp only[eE,seval,↓eP,rP],by simp only[eE,seval,↓eP,rP],.inl ⟨rfl,rfl⟩,rfl,rfl,hch⟩
 rintro i ⟨T1,H1⟩ hi ⟨t0,t21,t22,hil,m1,m2,m3,p,l,w,t6,t5,hL,hll,hlk,hc⟩
 simp only at t0 t21 t22 m1 m2 m3 t6 t5 hL
 by_cases hlt:i<x.kids.toNat
 ·have d1:decide ((i:Int)<x.kids)=true:=by simp;omega
  obtain⟨r,hr1⟩:∃ r,x.kids.toNat-i=r+1:=⟨x.kids.toNat-i-1,by omega⟩
  rw[hr1] at hc hlk
  obtain⟨p',s1,s2,s3,s4⟩:=hc
  have hle:=HE _ _ _ s4
  have d2:decide ((p:Int)≥(L.length:Int))=false:=by simp;omega
  have hep:=IY s1
  obtain⟨w',H',happ,hL',fH,nH,oH⟩:=ZE (x:=(p:Int)) hL m1 (by omega) (by rw[List.length_map];omega)
  have hvH:AV H' v L:=hv.mono (by omega) fun j hj=>(oH j hj).trans (m3 j hj)
  have hend:=Cl (n:=n) hsk hvH s1 (by omega) (by omega)
  have w2:=DJ i (by omega)
  simp only[eE,seval,↓eP,t0,t21,t22,t5,t6,d1,hl,d2,K9,happ,hend,w2]
  refine⟨hlt,by omega,by omega,by omega,fun j hj=>(oH j hj).trans (m3 j hj),p',l++[p],w',rfl,rfl,?_,by rw[List.length_append,hll];rfl,?_,?_⟩
  ·rw[List.map_append]
   exact hL'
  ·rw[List.append_assoc,← hlk,show x.kids.toNat-(i+1)=r by omega]
   show l++(p :: BW (AG Z) r p')=l++(p :: BW (AG Z) r (AG Z p))
   rw[hep]
  ·rw[show x.kids.toNat-(i+1)=r by omega]
   exact s4
 ·have d1:decide ((i:Int)<x.kids)=false:=by simp;omega
  rw[show x.kids.toNat-i=0 by omega] at hlk
  have hl9:l=BW (AG Z) x.kids.toNat (at_+1):=by
   rw[← hlk]
   exact(List.append_nil l).symm
  subst hl9
  simp only[eE,seval,↓eP,hr,t0,t21,t22,t5,t6,d1]
  exact⟨hL,m2,m1,m3⟩
theorem HQ.flat {lo:Nat} {v:Value} {l:List Int} (hl:HQ h lo v l) (hf:FO v=true) (h':AA) (lo':Nat):HQ h' lo' v l:=by
 rcases hl with h1 | ⟨id,c,rfl,_⟩
 ·exact .inl h1
 ·cases hf
theorem Lf {n:Nat} {Z L:List AC} {v:Value} {at_:Nat} {x:AC} (ht:B8 Z) (hsk:GV L Z) (hv:AV h v L) (hx:Z[at_]?=some x) (hlen:L.length<2932031007403) (hn:L.length+20<n) (hfl:h.floor≤h.next) :
  ∃ v' h',AX n 96 [v,iv at_] h=some (v',h')∧(HQ h' h.next v' ((BW (AG Z) x.kids.toNat (at_+1)).map (fun (k:Nat)=>(k:Int)))∧h'.floor=h.floor∧h.next≤h'.next∧∀ i,i<h.next→h'.get i=h.get i):=by
 obtain⟨n,rfl⟩:=D7 hn
 exact NG (CN ⟨rfl,rfl,rfl⟩) (vZ (n:=n) (N:=n) ht hsk hv hx hlen (by omega) (by omega) hfl) fun v' h1 hf _ ht=>⟨ht.1.flat hf _ _,rfl,Nat.le_refl _,fun _ _=>rfl⟩
end
def HY:List Int→Int
 | []=>0
 | x :: l=>(if x<0 then 0 else x)+HY l
def T9 (l:List Int):Int:=if HY l>4611686018427387904 then 4611686018427387904 else HY l
theorem sQ (a b:List Int):HY (a++b)=HY a+HY b:=by
 induction a with
 | nil=>simp[HY]
 | cons x a ih=>simp only[List.cons_append,HY,ih];omega
theorem Y_ (a:List Int):0≤HY a:=by
 induction a with
 | nil=>simp[HY]
 | cons x a ih=>simp only[HY];split <;> omega
theorem Jo {l:List Int} {k:Nat} {x:Int} (hk:l[k]?=some x):HY (l.take (k+1))=HY (l.take k)+(if x<0 then 0 else x):=by
 rw[List.take_add_one,hk,sQ]
 simp[HY]
theorem Lr {l:List Int} (k:Nat):HY (l.take k)≤HY l:=by
 have h:=sQ (l.take k) (l.drop k)
 rw[List.take_append_drop] at h
 have:=Y_ (l.drop k)
 omega
def V1 (l:List Int):Prop:=∀ x∈l,-9223372036854775808≤x∧x<9223372036854775808
section
variable {call:AQ} {n:Nat} {h:AA} {v:Value} {l:List Int}
theorem Mm (hv:P9 h v l) (hl:V1 l) (hlen:l.length<9223372036854775807) (hn:l.length<n):A8 Tryd.prog call n 75 [v] h=some (.int .i64 (T9 l),h):=by
 refine D_ Tryd.func75 rfl (by simp[Tryd.f75]) ?_
 have hr:Tryd.f75.results.toList=[.tmp 2]:=rfl
 simp only[eE,↓reduceIte,Nat.reduceEqDiff,reduceCtorEq,hv.len Tryd.underlying28,hr]
 refine WK.loop (fun k s=>s.h=h∧s.T.get 6=v∧s.T.get 7=.int .i64 l.length∧s.T.get 8=.int .i64 k∧∃ acc,s.T.get 3=.int .i64 acc∧acc=HY (l.take k)∧acc≤4611686018427387904) l.length hn ?_ ?_
 ·simp only[eE,↓reduceIte,Nat.reduceEqDiff,reduceCtorEq]
  exact⟨rfl,by simp[HY],by omega⟩
 ·rintro k ⟨T,h1⟩ hk ⟨rfl,h6,h7,h8,acc,h3,ha,hb⟩
  simp only at h6 h7 h8 h3
  have hacc:=Y_ (l.take k)
  simp only[eE,↓reduceIte,Nat.reduceEqDiff,reduceCtorEq,h6,h7,h8,h3]
  refine⟨fun hlt=>?_,fun hge=>?_⟩
  ·have hlt':k<l.length:=by omega
   have hx:l[k]?=some l[k]:=List.getElem?_eq_getElem hlt'
   have hin:=hl l[k] (List.getElem_mem hlt')
   have htk:=Jo hx
   have hle:=Lr (l:=l) (k+1)
   generalize l[k]=x at hx hin htk
   obtain⟨p,hp1,hp2⟩:=hv.idx Tryd.underlying28 CQ ZC hx (kd:=.i64)
   simp only[eE,↓reduceIte,Nat.reduceEqDiff,reduceCtorEq,hp1,hp2,h3,h6,h7,h8]
   have hm:(if (0:Int)>x then 0 else x)=(if x<0 then 0 else x):=rfl
   rw[hm]
   have hm0:0≤(if x<0 then (0:Int) else x)∧(if x<0 then (0:Int) else x)<9223372036854775808:=by split <;> omega
   generalize (if x<0 then (0:Int) else x)=m at htk hm0
   rw[B0 (x:=4611686018427387904-acc) (by omega) (by omega)]
   refine⟨fun hgt=>?_,fun hle'=>⟨hlt',?_,?_,?_⟩⟩
   ·unfold T9
    rw[if_pos (by omega)]
   ·rw[B0 (by omega) (by omega)];rfl
   ·rw[B0 (by omega) (by omega)];omega
   ·rw[B0 (by omega) (by omega)];omega
  ·have:k=l.length:=by omega
   subst this
   rw[List.take_length] at ha
   unfold T9
   rw[if_neg (by omega),ha]
end
section
variable {call:AQ} {n:Nat} {h:AA} {v:Value} {l:List Int}
end
theorem aN (a:Nat) (ha:a<18446744073709551616):bits .and .u64 (a:Int) 4294967295=((a%4294967296:Nat):Int):=by
 have h:=bits_and_u64_nat a 4294967295 ha (by omega)
 have e:a &&& 4294967295=a%4294967296:=Nat.and_two_pow_sub_one_eq_mod a 32
 rw[e] at h
 exact h
theorem V8 (a:Nat):(a:Int).fdiv (2 ^ min ((32:Int).toNat) IntKind.u64.bits)=((a/4294967296:Nat):Int):=by
 rw[Int.fdiv_eq_ediv_of_nonneg _ (by decide)]
 rfl
theorem L9 (a:Nat) (ha:a<18446744073709551616):IntKind.u64.wrap (a:Int)=(a:Int):=Qx (by omega) (by omega)
theorem mO (a b:Nat):(a:Int)*(b:Int)=((a*b:Nat):Int):=(Int.natCast_mul a b).symm
theorem XC (a b:Nat):(a:Int)+(b:Int)=((a+b:Nat):Int):=(Int.natCast_add a b).symm
section
variable {call:AQ} {n:Nat} {h:AA} {v:Value} {l:List Int}
theorem Bx (x y:Nat) (hx:x<18446744073709551616) (hy:y<18446744073709551616) :
  A8 Tryd.prog call n 95 [.int .u64 x,.int .u64 y] h=some (.tuple #[.int .u64 ((x*y/18446744073709551616:Nat):Int),.int .u64 ((x*y%18446744073709551616:Nat):Int)],h):=by
 refine D_ Tryd.func95 rfl (by simp[Tryd.f95]) ?_
 have hr:Tryd.f95.results.toList=[.tmp 4,.tmp 5]:=rfl
 obtain⟨bd,bt,bw,hhi⟩:=Lib.mul64_hi x y hx hy
 have ba:=Lib.half_mul_le (a:=x/4294967296) (b:=y/4294967296) (by omega) (by omega)
 have h32:¬ (32:Int)<0:=by omega
 simp only[eE,↓reduceIte,Nat.reduceEqDiff,reduceCtorEq,hr,Jd,zV h32,aN x hx,aN y hy,V8,mO]
 have b1:=Lib.half_mul_le (a:=x/4294967296) (b:=y%4294967296) (by omega) (by omega)
 have b2:=Lib.half_mul_le (a:=x%4294967296) (b:=y/4294967296) (by omega) (by omega)
 have hq:x*y/18446744073709551616<18446744073709551616:=by
  refine Nat.div_lt_of_lt_mul ?_
  exact Nat.lt_of_le_of_lt (Nat.mul_le_mul_right y (Nat.le_of_lt hx)) (Nat.mul_lt_mul_of_pos_left hy (by omega))
 rw[L9 (x%4294967296*(y%4294967296)) bd,V8,L9 (x/4294967296*(y%4294967296)) (by omega),XC,L9 _ bt,V8,aN _ bt,L9 (x%4294967296*(y/4294967296)) (by omega),XC,L9 _ bw,V8,
  L9 (x/4294967296*(y/4294967296)) (by omega),XC,L9 _ (by omega),XC,L9 _ (by omega),hhi,Da]
def OD (l:List Int):Int:=l.foldl (fun n x=>if n*x>4611686018427387904 then 4611686018427387904 else n*x) 1
def JS (l:List Int):Bool:=l.all fun x=>decide (0<x)
def R9 (l:List Int):Int:=if JS l then OD l else 0
theorem Lg {l:List Int} {k:Nat} {x:Int} (hk:l[k]?=some x):OD (l.take (k+1))=if OD (l.take k)*x>4611686018427387904 then 4611686018427387904 else OD (l.take k)*x:=by
 unfold OD
 rw[List.take_add_one,hk,List.foldl_append]
 rfl
theorem Gu {l:List Int} {k:Nat} {x:Int} (hk:l[k]?=some x):JS (l.take (k+1))=(JS (l.take k)&&decide (0<x)):=by
 unfold JS
 rw[List.take_add_one,hk,List.all_append]
 simp
theorem Et {l:List Int} (h:JS l=true):1≤OD l∧OD l≤4611686018427387904:=by
 have key:∀ (l:List Int) (a:Int),JS l=true→1≤a∧a≤4611686018427387904→1≤l.foldl (fun n x=>if n*x>4611686018427387904 then 4611686018427387904 else n*x) a∧l.foldl (fun n x=>if n*x>4611686018427387904 then 4611686018427387904 else n*x) a≤4611686018427387904:=by
  intro l
  induction l with
  | nil=>intro a _ ha;exact ha
  | cons x l ih=>
   intro a hl ha
   simp only[JS,List.all_cons,Bool.and_eq_true,decide_eq_true_eq] at hl
   rw[List.foldl_cons]
   refine ih _ hl.2 ?_
   have:0<a*x:=Int.mul_pos (by omega) hl.1
   split <;> omega
 exact key l 1 h (by omega)
theorem Kq {l:List Int} {k:Nat} {x:Int} (hk:l[k]?=some x) (hx:x≤0):JS l=false:=by
 unfold JS
 rw[List.all_eq_false]
 exact⟨x,List.mem_of_getElem? hk,by simp;omega⟩
theorem Jq (hm:∀ x y h,x<18446744073709551616→y<18446744073709551616→call 95 [.int .u64 (x:Nat),.int .u64 (y:Nat)] h=some (.tuple #[.int .u64 ((x*y/18446744073709551616:Nat):Int),.int .u64 ((x*y%18446744073709551616:Nat):Int)],h))
  (hv:P9 h v l) (hl:V1 l) (hlen:l.length<9223372036854775807) (hn:l.length<n):A8 Tryd.prog call n 76 [v] h=some (.int .i64 (R9 l),h):=by
 refine D_ Tryd.func76 rfl (by simp[Tryd.f76]) ?_
 have hr:Tryd.f76.results.toList=[.tmp 2]:=rfl
 simp only[eE,↓reduceIte,Nat.reduceEqDiff,reduceCtorEq,hv.len Tryd.underlying28,hr]
 refine WK.loop (fun k s=>s.h=h∧s.T.get 0=v∧s.T.get 10=v∧s.T.get 11=.int .i64 l.length∧s.T.get 12=.int .i64 k∧s.T.get 3=.int .i64 1∧JS (l.take k)=true) l.length hn ?_ ?_
 ·simp only[eE,↓reduceIte,Nat.reduceEqDiff,reduceCtorEq]
  exact⟨rfl,rfl⟩
 ·rintro k ⟨T,h1⟩ hk ⟨rfl,h0,h10,h11,h12,h3,ha⟩
  simp only at h0 h10 h11 h12 h3
  simp only[eE,↓reduceIte,Nat.reduceEqDiff,reduceCtorEq,h0,h10,h11,h12,h3]
  refine⟨fun hlt=>?_,fun hge=>?_⟩
  ·have hlt':k<l.length:=by omega
   have hx:l[k]?=some l[k]:=List.getElem?_eq_getElem hlt'
   have htk:=Gu hx
   have hz:=fun h=>Kq hx h
   generalize l[k]=x at hx htk hz
   obtain⟨p,hp1,hp2⟩:=hv.idx Tryd.underlying28 CQ ZC hx (kd:=.i64)
   simp only[eE,↓reduceIte,Nat.reduceEqDiff,reduceCtorEq,hp1,hp2,h0,h10,h11,h12,h3]
   refine⟨fun hle=>?_,fun hgt=>⟨hlt',?_,?_⟩⟩
   ·unfold R9
    rw[hz hle]
    rfl
   ·rw[B0 (by omega) (by omega)];rfl
   ·rw[htk,ha];simp;omega
  ·have hkl:k=l.length:=by omega
   subst hkl
   rw[List.take_length] at ha
   simp only[eE,↓reduceIte,Nat.reduceEqDiff,reduceCtorEq,h0,h3,hv.len Tryd.underlying28]
   refine WK.loop (fun k s=>s.h=h1∧s.T.get 19=v∧s.T.get 20=.int .i64 l.length∧s.T.get 21=.int .i64 k∧s.T.get 3=.int .i64 (OD (l.take k))) l.length hn ?_ ?_
   ·simp only[eE,↓reduceIte,Nat.reduceEqDiff,reduceCtorEq,h3]
    exact⟨rfl,rfl⟩
   ·rintro k ⟨T2,h2⟩ hk2 ⟨rfl,h19,h20,h21,h3'⟩
    simp only at h19 h20 h21 h3'
    simp only[eE,↓reduceIte,Nat.reduceEqDiff,reduceCtorEq,h19,h20,h21,h3']
    refine⟨fun hlt=>?_,fun hge=>?_⟩
    ·have hlt':k<l.length:=by omega
     have hx:l[k]?=some l[k]:=List.getElem?_eq_getElem hlt'
     have htk:=Lg hx
     have hin:=hl l[k] (List.getElem_mem hlt')
     have hpos:0<l[k]:=by
      have:=List.all_eq_true.1 ha l[k] (List.getElem_mem hlt')
      simpa using this
     have hfr:=Et (l:=l.take k) (by
      unfold JS at ha ⊢
      rw[List.all_eq_true] at ha ⊢
      exact fun x hx=>ha x (List.mem_of_mem_take hx))
     generalize l[k]=x at hx htk hin hpos
     generalize OD (l.take k)=a at htk hfr h3'
     obtain⟨p,hp1,hp2⟩:=hv.idx Tryd.underlying28 CQ ZC hx (kd:=.i64)
     obtain⟨a,rfl⟩:∃ m:Nat,a=m:=⟨a.toNat,by omega⟩
     obtain⟨x,rfl⟩:∃ m:Nat,x=m:=⟨x.toNat,by omega⟩
     have hma:=hm a x h2 (by omega) (by omega)
     have hcast:(a:Int)*(x:Int)=((a*x:Nat):Int):=mO a x
     rw[hcast] at htk
     generalize hhi:a*x/18446744073709551616=hi at hma
     generalize hlo:a*x%18446744073709551616=lo at hma
     generalize a*x=ax at hhi hlo htk
     by_cases hc:(hi:Int)>0
     ·simp only[eE,↓reduceIte,Nat.reduceEqDiff,reduceCtorEq,hp1,hp2,h19,h20,h21,h3',XS Tryd.underlying3 Tryd.underlying129,L9 a (by omega),L9 x (by omega),hma,XS Tryd.underlying129 Tryd.underlying3,hc]
      refine⟨hlt',?_,?_⟩
      ·rw[B0 (by omega) (by omega)];rfl
      ·rw[htk,if_pos (by omega)]
     ·simp only[eE,↓reduceIte,Nat.reduceEqDiff,reduceCtorEq,hp1,hp2,h19,h20,h21,h3',XS Tryd.underlying3 Tryd.underlying129,L9 a (by omega),L9 x (by omega),hma,XS Tryd.underlying129 Tryd.underlying3,hc]
      refine⟨fun hgt=>⟨hlt',?_,?_⟩,fun hle=>⟨hlt',?_,?_⟩⟩
      ·rw[B0 (by omega) (by omega)];rfl
      ·rw[htk,if_pos (by omega)]
      ·rw[B0 (by omega) (by omega)];rfl
      ·rw[htk,if_neg (by omega),B0 (by omega) (by omega)];omega
    ·have hkl:k=l.length:=by omega
     subst hkl
     rw[List.take_length] at h3'
     unfold R9
     rw[ha,List.take_length]
     rfl
end
theorem AK.at_ {lo:Nat} {h:AA} {v:Value} {l:List Int} (hc:AK lo h v l):P9 h v l:=by
 obtain⟨hl,a,c,rfl,⟨h0,rfl⟩ | ⟨id,off,row,ty,g,ro,rfl,h1,h2,h3,h4⟩⟩:=hc
 ·refine⟨none,c,by rw[h0],fun b hb=>(by cases hb),fun k x hk=>?_⟩
  rw[List.length_eq_zero_iff.1 h0] at hk
  simp at hk
 ·refine⟨_,c,rfl,fun b hb=>(by cases hb;rfl),fun k x hk=>⟨id,off,row,ty,g,ro,rfl,h1,?_⟩⟩
  have hkl:=(List.getElem?_eq_some_iff.1 hk).1
  have:(ints l)[k]?=some (.int .i64 x):=by rw[TX,hk];rfl
  rw[← h3,List.getElem?_take_of_lt (by omega),List.getElem?_drop] at this
  exact this
def KH (a b:Int):Int:=if a>0∧b>4611686018427387904/a then 4611686018427387904 else a*b
def HU (l:List Int):Int:=l.foldl BF 0
theorem XY:∀ (l:List Int) (a:Int),CZ l→0≤a→a≤4611686018427387904→0≤l.foldl BF a∧l.foldl BF a≤4611686018427387904
 | [],a,_,h1,h2=>⟨h1,h2⟩
 | x :: l,a,hs,h1,h2=>by
  have hx:=hs x (by simp)
  have p:=IN h1 hx.1 hx.2
  exact XY l _ (fun y hy=>hs y (by simp[hy])) p.1 p.2
theorem YG:∀ (l:List Int) (a:Int),CZ l→0≤a→a≤4611686018427387904→l.foldl BF a=if a+HY l>4611686018427387904 then 4611686018427387904 else a+HY l
 | [],a,_,h1,h2=>by
  show a=if a+0>4611686018427387904 then 4611686018427387904 else a+0
  rw[Int.add_zero,if_neg (by omega)]
 | x :: l,a,hs,h1,h2=>by
  have hx:=hs x (by simp)
  have p:=IN h1 hx.1 hx.2
  have hp:=Y_ l
  show l.foldl BF (BF a x)=_
  rw[YG l _ (fun y hy=>hs y (by simp[hy])) p.1 p.2]
  show _=if a+((if x<0 then 0 else x)+HY l)>4611686018427387904 then 4611686018427387904 else a+((if x<0 then 0 else x)+HY l)
  rw[if_neg (show ¬ x<0 by omega)]
  unfold BF
  (repeat' split) <;> omega
theorem Qu {l:List Int} (hs:CZ l):T9 l=HU l:=by
 unfold HU T9
 rw[YG l 0 hs (by decide) (by decide),Int.zero_add]
theorem cZ {a b:Int} (ha:0≤a∧a≤4611686018427387904) (hb:0≤b∧b≤4611686018427387904):0≤KH a b∧KH a b≤4611686018427387904:=by
 unfold KH
 by_cases h:a>0∧b>4611686018427387904/a
 ·rw[if_pos h]
  omega
 ·rw[if_neg h]
  refine⟨Int.mul_nonneg ha.1 hb.1,?_⟩
  by_cases h0:a>0
  ·have h1:=Int.mul_le_mul_of_nonneg_left (show b≤4611686018427387904/a by omega) (show 0≤a by omega)
   have h2:=Int.mul_ediv_self_le (x:=4611686018427387904) (k:=a) (by omega)
   omega
  ·rw[show a=0 by omega,Int.zero_mul]
   decide
theorem Mj {a b:Int} (ha:0≤a∧a≤4611686018427387904) (hb:0≤b∧b≤4611686018427387904):R9 [a,b]=KH a b:=by
 unfold R9 KH
 by_cases h1:0<a
 ·by_cases h2:0<b
  ·have e1:JS [a,b]=true:=by simp[JS,h1,h2]
   rw[e1,if_pos rfl]
   show (if (if 1*a>4611686018427387904 then 4611686018427387904 else 1*a)*b>4611686018427387904 then 4611686018427387904 else (if 1*a>4611686018427387904 then 4611686018427387904 else 1*a)*b)=_
   rw[Int.one_mul]
   simp only[if_neg (show ¬ a>4611686018427387904 by omega)]
   have hd:b>4611686018427387904/a↔a*b>4611686018427387904:=by
    have:=Int.ediv_lt_iff_lt_mul (a:=4611686018427387904) (b:=b) (c:=a) (by omega)
    rw[Int.mul_comm a b]
    exact this
   by_cases h3:a*b>4611686018427387904
   ·rw[if_pos h3,if_pos ⟨by omega,hd.2 h3⟩]
   ·rw[if_neg h3,if_neg (fun h=>h3 (hd.1 h.2))]
  ·have e1:JS [a,b]=false:=by simp[JS];omega
   have h0:0≤4611686018427387904/a:=Int.ediv_nonneg (by omega) (by omega)
   rw[e1,if_neg (by decide),if_neg (fun h=>by omega),show b=0 by omega,Int.mul_zero]
 ·have e1:JS [a,b]=false:=by simp[JS];omega
  rw[e1,if_neg (by decide),if_neg (fun h=>by omega),show a=0 by omega,Int.zero_mul]
section
variable {n lo:Nat} {h:AA} {v:Value} {l:List Int}
theorem tZ {l:List Int} (hs:CZ l):V1 l:=fun x hx=>by have:=hs x hx;omega
theorem bH (hv:AK lo h v l) (hs:CZ l) (hlen:l.length<17592186044415) (hn:l.length+5<n):AX n 75 [v] h=some (iv (HU l),h):=by
 obtain⟨n,rfl⟩:=D7 hn
 rw[← Qu hs]
 exact JD (CN ⟨rfl,rfl,rfl⟩) rfl (Mm hv.at_ (tZ hs) (by omega) (by omega))
theorem vX {x y:Nat} (hx:x<18446744073709551616) (hy:y<18446744073709551616) (hn:0<n) :
  AX n 95 [.int .u64 x,.int .u64 y] h=some (.tuple #[.int .u64 ((x*y/18446744073709551616:Nat):Int),.int .u64 ((x*y%18446744073709551616:Nat):Int)],h):=by
 obtain⟨n,rfl⟩:=D7 hn
 exact JD (CN ⟨rfl,rfl,rfl⟩) (by simp[FO,flat,B7]) (Bx x y hx hy)
theorem Nv (hv:AK lo h v l) (hs:V1 l) (hlen:l.length<17592186044415) (hn:l.length+5<n):AX n 76 [v] h=some (iv (R9 l),h):=by
 obtain⟨n,rfl⟩:=D7 hn
 exact JD (CN ⟨rfl,rfl,rfl⟩) rfl (Jq (fun x y h hx hy=>vX hx hy (by omega)) hv.at_ hs (by omega) (by omega))
end
def IC (vs:List Int) (i:Nat):Int:=(vs[i]?).getD 0
def I0 (k:Int) (vs:List Int) (r q:Int):Int:=
 if k=24 then 0
 else BF (if k=12 then BF (IC vs 0) (if IC vs 2>IC vs 1 then IC vs 2 else IC vs 1)
  else if k=13 then KH r (BF (IC vs 1) (IC vs 2)) else if k=22 then q else HU vs) 1
def KU (R:List AC) (e:Nat→Nat) (rd S:List Int):Nat→Nat→Int
 | 0,_=>0
 | m+1,at_=>match R[at_]? with
  | none=>0
  | some x=>I0 x.kind ((BW e x.kids.toNat (at_+1)).map (KU R e rd S m)) ((rd[at_]?).getD 0) (FG S x.n)
def A7 (R:List AC) (e:Nat→Nat) (rd S:List Int) (at_:Nat):Int:=KU R e rd S R.length at_
theorem QC {vs:List Int} (hs:CZ vs) (i:Nat):0≤IC vs i∧IC vs i≤4611686018427387904:=by
 unfold IC
 cases h:vs[i]? with
 | none=>exact⟨by simp,by simp⟩
 | some x=>exact hs x (List.mem_of_getElem? h)
theorem Mu {k:Int} {vs:List Int} {r q:Int} (hs:CZ vs) (hr:0≤r∧r≤4611686018427387904) (hq:0≤q∧q≤4611686018427387904):0≤I0 k vs r q∧I0 k vs r q≤4611686018427387904:=by
 have v0:=QC hs 0
 have v1:=QC hs 1
 have v2:=QC hs 2
 unfold I0
 by_cases h24:k=24
 ·rw[if_pos h24]
  exact⟨by decide,by decide⟩
 rw[if_neg h24]
 refine IN ?_ (by decide) (by decide) |>.imp id id
 by_cases h12:k=12
 ·rw[if_pos h12]
  exact(IN v0.1 (by split <;> omega) (by split <;> omega)).1
 rw[if_neg h12]
 by_cases h13:k=13
 ·rw[if_pos h13]
  have p:=IN v1.1 v2.1 v2.2
  exact(cZ hr p).1
 rw[if_neg h13]
 by_cases h22:k=22
 ·rw[if_pos h22];exact hq.1
 ·rw[if_neg h22]
  exact(XY vs 0 hs (by decide) (by decide)).1
def F7 (rd:List Int):Prop:=∀ x∈rd,0≤x∧x≤4194304
theorem T0 {rd:List Int} (h:F7 rd) (i:Nat):0≤(rd[i]?).getD 0∧(rd[i]?).getD 0≤4611686018427387904:=by
 cases hx:rd[i]? with
 | none=>exact⟨by simp,by simp⟩
 | some x=>have:=h x (List.mem_of_getElem? hx);simp only[Option.getD_some];omega
section
variable {R Z:List AC} {e:Nat→Nat} {rd S:List Int}
theorem bP (hr:F7 rd) (hs:CZ S):∀ m at_,0≤KU R e rd S m at_∧KU R e rd S m at_≤4611686018427387904
 | 0,at_=>(by decide:(0:Int)≤0∧(0:Int)≤4611686018427387904)
 | m+1,at_=>by
  unfold KU
  cases R[at_]? with
  | none=>exact(by decide:(0:Int)≤0∧(0:Int)≤4611686018427387904)
  | some x=>
   refine Mu (fun y hy=>?_) (T0 hr at_) (mK hs x.n)
   obtain⟨k,_,rfl⟩:=List.mem_map.1 hy
   exact bP hr hs m k
theorem UZ (hr:F7 rd) (hs:CZ S) (m:Nat) (ks:List Nat):CZ (ks.map (KU R e rd S m)):=fun y hy=>by
 obtain⟨k,_,rfl⟩:=List.mem_map.1 hy
 exact bP hr hs m k
theorem RY:∀ (c p q:Nat),EM Z c p q→∀ k∈BW (AG Z) c p,∃ qk,DX Z k qk∧p≤k∧qk≤q
 | 0,p,q,_,k,hk=>by simp[BW] at hk
 | c+1,p,q,⟨p',h1,h2,h3,h4⟩,k,hk=>by
  have hle:=HE _ _ _ h4
  simp only[BW,List.mem_cons] at hk
  rcases hk with rfl | hk
  ·exact⟨p',h1,Nat.le_refl _,by omega⟩
  ·rw[IY h1] at hk
   obtain⟨qk,a,b,d⟩:=RY c p' q h4 k hk
   exact⟨qk,a,by omega,d⟩
theorem Fd (hsk:GV R Z):∀ d m at_ q,DX Z at_ q→q-at_≤d→d≤m→KU R (AG Z) rd S m at_=KU R (AG Z) rd S d at_:=by
 intro d
 induction d with
 | zero=>intro m at_ q h hd;have:=h.lt;omega
 | succ d ih=>
  intro m at_ q h hd hm
  obtain⟨m,rfl⟩:∃ j,m=j+1:=⟨m-1,by omega⟩
  obtain⟨x,hx,_,_,hc⟩:=h.kids
  obtain⟨y,hy,hyk⟩:=hsk.2 _ x hx
  unfold KU
  rw[hy]
  simp only
  congr 1
  refine List.map_congr_left fun k hk=>?_
  rw[hyk] at hk
  obtain⟨qk,a,b,c⟩:=RY _ _ _ hc k hk
  exact ih m k qk a (by omega) (by omega)
theorem QO (ht:B8 Z) (hsk:GV R Z) {at_:Nat} {x:AC} (hx:R[at_]?=some x):A7 R (AG Z) rd S at_=I0 x.kind ((BW (AG Z) x.kids.toNat (at_+1)).map (A7 R (AG Z) rd S)) ((rd[at_]?).getD 0) (FG S x.n):=by
 have hl:=(List.getElem?_eq_some_iff.1 hx).1
 have hZ:=hsk.1
 have hs:=ht.end (show at_<Z.length by omega)
 have hq:=hs.lt
 have e1:A7 R (AG Z) rd S at_=KU R (AG Z) rd S (R.length+1) at_:=(Fd hsk R.length (R.length+1) at_ _ hs (by omega) (by omega)).symm
 rw[e1]
 unfold KU
 rw[hx]
 rfl
theorem QB (hr:F7 rd) (hs:CZ S) (at_:Nat):0≤A7 R e rd S at_∧A7 R e rd S at_≤4611686018427387904:=bP hr hs _ _
end
theorem XD {vs:List Int} (hs:CZ vs):HU (1 :: vs)=BF (HU vs) 1:=by
 have p:=Y_ vs
 show vs.foldl BF (BF 0 1)=BF (vs.foldl BF 0) 1
 rw[YG vs (BF 0 1) hs (by decide) (by decide),YG vs 0 hs (by decide) (by decide),show BF 0 1=1 by decide]
 unfold BF
 (repeat' split) <;> omega
theorem rT {a b:Int} (ha:0≤a∧a≤4611686018427387904) (hb:0≤b∧b≤4611686018427387904):HU [1,a,b]=BF (BF a b) 1:=by
 rw[XD (fun x hx=>by simp only[List.mem_cons,List.not_mem_nil,or_false] at hx;rcases hx with rfl | rfl <;> omega)]
 show BF (BF (BF 0 a) b) 1=_
 rw[show BF 0 a=a by unfold BF;rw[if_neg (by omega),Int.zero_add]]
theorem oL {a:Int} (ha:0≤a∧a≤4611686018427387904):HU [1,a]=BF a 1:=by
 rw[XD (fun x hx=>by simp only[List.mem_cons,List.not_mem_nil,or_false] at hx;subst hx;exact ha)]
 show BF (BF 0 a) 1=_
 rw[show BF 0 a=a by unfold BF;rw[if_neg (by omega),Int.zero_add]]
theorem qA {a b:Int} (ha:0≤a∧a≤4611686018427387904):HU [a,b]=BF a b:=by
 show BF (BF 0 a) b=_
 rw[show BF 0 a=a by unfold BF;rw[if_neg (by omega),Int.zero_add]]
theorem qX {a b r q:Int} (hb:0≤b):I0 12 [a,b] r q=BF (BF a b) 1:=by
 show BF (BF a (if (0:Int)>b then 0 else b)) 1=_
 rw[if_neg (show ¬ (0:Int)>b by omega)]
theorem kM {a b c r q:Int}:I0 12 [a,b,c] r q=BF (BF a (if c>b then c else b)) 1:=rfl
theorem lJ {a b c r q:Int}:I0 13 [a,b,c] r q=BF (KH r (BF b c)) 1:=rfl
theorem jB {vs:List Int} {r q:Int}:I0 22 vs r q=BF q 1:=rfl
theorem bG {k:Int} {vs:List Int} {r q:Int} (h1:k≠24) (h2:k≠12) (h3:k≠13) (h4:k≠22):I0 k vs r q=BF (HU vs) 1:=by
 unfold I0
 rw[if_neg h1,if_neg h2,if_neg h3,if_neg h4]
theorem Mh:BQ Tryd.prog 108=some 12:=by kernel_rfl
theorem O4:BQ Tryd.prog 70=some 3:=by kernel_rfl
theorem Lh:FI Tryd.prog 70=some true:=by kernel_rfl
theorem R6:DV Tryd.prog 70=some (.agg #[Z0,Z0,Z0]):=by kernel_rfl
section
variable {h:AA} {id off:Nat}
theorem UH:EL Tryd.prog h 70 (qP id off)=CB 3 off (h.get id):=MV Lh O4
theorem tS:BC Tryd.prog 108 (qP id off) 0=some (qP id off):=by simp[BC,Tryd.underlying108,HR,CF]
theorem Hv:BC Tryd.prog 108 (qP id off) 1=some (qP id (off+8)):=by simp[BC,Tryd.underlying108,O4,CF]
theorem aA:BC Tryd.prog 108 (qP id off) 2=some (qP id (off+11)):=by simp[BC,Tryd.underlying108,JI,CF]
theorem TC:BC Tryd.prog 70 (qP id off) 2=some (qP id (off+2)):=by simp[BC,Tryd.underlying70,JI,CF]
theorem WB {a b:Int}:FN Tryd.prog h 28 2 [(0,iv a),(1,iv b)]=some (qS h.next 2 2,h.push (.row [iv a,iv b] 3 false false)):=by
 have hc:∀ x:Int,(iv x).cells=#[iv x]:=fun _=>rfl
 simp[FN,Tryd.underlying28,CQ,JM,flat,B7,hc,I5,C0,Go.Sx.lay]
theorem uW {a b c:Int}:FN Tryd.prog h 28 3 [(0,iv a),(1,iv b),(2,iv c)]=some (qS h.next 3 3,h.push (.row [iv a,iv b,iv c] 3 false false)):=by
 have hc:∀ x:Int,(iv x).cells=#[iv x]:=fun _=>rfl
 simp[FN,Tryd.underlying28,CQ,JM,flat,B7,hc,I5,C0,Go.Sx.lay]
theorem pG {a b:Int} {f:Nat}:AK 0 ((h.push (.row [iv a,iv b] 3 false false)).fl f) (qS h.next 2 2) [a,b]:=AK.row' (l:=[a,b]) (h:=(h.push (.row [iv a,iv b] 3 false false)).fl f) (r:=h.next) BP ⟨Nat.zero_le _,by show h.next<h.next+1;omega⟩ rfl
theorem Jj {a b c:Int} {f:Nat}:AK 0 ((h.push (.row [iv a,iv b,iv c] 3 false false)).fl f) (qS h.next 3 3) [a,b,c]:=AK.row' (l:=[a,b,c]) (h:=(h.push (.row [iv a,iv b,iv c] 3 false false)).fl f) (r:=h.next) BP ⟨Nat.zero_le _,by show h.next<h.next+1;omega⟩ rfl
end
structure MO (h:AA) (b:Nat) (vr tr vS:Value) (R:List AC) (rd S:List Int):Prop where
 x1:AS 1 (h.get b)=some vr
 x10:AS 10 (h.get b)=some tr
 x11:AS 11 (h.get b)=some vS
 bl:b<h.next
 rows:AV h vr R
 rd:AK 0 h tr rd
 s:AK 0 h vS S
theorem MO.mono {h h':AA} {b:Nat} {vr tr vS:Value} {R:List AC} {rd S:List Int} (hb:MO h b vr tr vS R rd S) (hn:h.next≤h'.next) (hg:∀ i,i<h.next→h'.get i=h.get i):MO h' b vr tr vS R rd S:=
 ⟨by rw[hg b hb.bl];exact hb.x1,by rw[hg b hb.bl];exact hb.x10,by rw[hg b hb.bl];exact hb.x11,by have:=hb.bl;omega,hb.rows.mono hn hg,AK.mono hb.rd hn fun i _ hi=>hg i hi,AK.mono hb.s hn fun i _ hi=>hg i hi⟩
noncomputable def vA:Array Oper:=DR Tryd.f77 1
def yG:List (Bool × Bool × List Operand):=[FW,FW,FW,FW,FW,C3 [.tmp 14],FW,FW,AN [.tmp 14,.tmp 17],AN [.tmp 14,.tmp 17],AN [.tmp 14,.tmp 17],AN [.tmp 14,.tmp 17],AN [.tmp 14,.tmp 17],AN [.tmp 14,.tmp 17,.tmp 22],AN [.tmp 14,.tmp 17],C3 [.tmp 14,.tmp 17,.tmp 22],AL,AL]
theorem xY:DS vA=yG:=by kernel_rfl
noncomputable def dZ:Array Oper:=DR Tryd.f77 9
def Ik:List (Bool × Bool × List Operand):=[AY,AY,AY,AY,AY,C3 [.tmp 42],C3 [.tmp 42],C3 [.tmp 42],C3 [.tmp 42],AL,C3 [.tmp 42,.tmp 47],AL,AL,AL,AL]
theorem uJ:DS dZ=Ik:=by kernel_rfl
noncomputable def m7:Array Oper:=DR Tryd.f77 11
def Fz:List (Bool × Bool × List Operand):=[FW,FW,FW,FW,FW,C3 [.tmp 59],FW,FW,AN [.tmp 59,.tmp 62],AN [.tmp 59,.tmp 62],AN [.tmp 59,.tmp 62],AN [.tmp 59,.tmp 62],AN [.tmp 59,.tmp 62],C3 [.tmp 59,.tmp 62,.tmp 66],C3 [.tmp 59,.tmp 62,.tmp 66],C3 [.tmp 59,.tmp 62,.tmp 66],C3 [.tmp 59,.tmp 62,.tmp 66],AN [.tmp 59,.tmp 62],AN [.tmp 59,.tmp 62],AN [.tmp 59,.tmp 62],AL,AL,AL,AL,AL]
theorem vV:DS m7=Fz:=by kernel_rfl
noncomputable def gT:Array Oper:=DR Tryd.f77 13
def Ga:List (Bool × Bool × List Operand):=[AY,AY,AY,AY,AN [.tmp 84],AN [.tmp 84],AL,AL,AL,AL,AL]
theorem Fv:DS gT=Ga:=by kernel_rfl
theorem r8 {Z:List AC} {i:Nat} {x:AC} (ht:B8 Z) (hx:Z[i]?=some x):(x.kind=12→x.kids=2∨x.kids=3)∧(x.kind=13→x.kids=3):=by
 have hf:=(ht.row hx).1
 unfold DU at hf
 simp only[Bool.and_eq_true,Bool.or_eq_true,decide_eq_true_eq] at hf
 obtain⟨⟨_,h1⟩,h2⟩:=hf
 constructor
 ·intro hk
  rw[hk] at h1 h2
  have l12:FC 12=2:=by decide
  have m12:CT 12=3:=by decide
  rw[l12] at h1
  rw[m12] at h2
  omega
 ·intro hk
  rw[hk] at h1 h2
  have l12:FC 13=3:=by decide
  have m12:CT 13=3:=by decide
  rw[l12] at h1
  rw[m12] at h2
  omega
section
variable {n N:Nat}
theorem Bt {Z R:List AC} {rd S:List Int} {vr tr vS:Value} {b at_:Nat} {x:AC} {h:AA} (ht:B8 Z) (hsk:GV R Z) (hx:Z[at_]?=some x) {y:AC} (hy:R[at_]?=some y) (hky:y.kind=x.kind) (hrd:F7 rd) (hrl:rd.length=R.length) (hS:CZ S)
  (hcall:y.kind=22→0≤y.n∧y.n<S.length) (hlen:R.length<2932031007403) (hn:R.length+30<n) (hN:R.length+30<N) (hb:MO h b vr tr vS R rd S) (hfl:h.floor≤h.next)
  (hrec:∀ k∈BW (AG Z) x.kids.toNat (at_+1),∀ h',MO h' b vr tr vS R rd S→h'.floor≤h'.next→AX n 77 [qP b 0,iv k] h'=some (iv (A7 R (AG Z) rd S k),h')) :
  ∃ h',A8 Tryd.prog (AX n) N 77 [qP b 0,iv at_] h=some (iv (A7 R (AG Z) rd S at_),h')∧∀ i,i<h.next→h'.get i=h.get i:=by
 have hsn:=(FM n).2
 refine FE (R:=fun h'=>∀ i,i<h.next→h'.get i=h.get i) Tryd.func77 rfl (by simp[Tryd.f77]) ?_
 have hr:Tryd.f77.results.toList=[.tmp 4]:=rfl
 obtain⟨x',hx',hyk⟩:∃ z,R[at_]?=some z∧z.kids=x.kids:=hsk.2 _ x hx
 rw[hy] at hx'
 cases hx'
 have hkl:(BW (AG Z) x.kids.toNat (at_+1)).length=x.kids.toNat:=WP _ _
 have hval:=QO (rd:=rd) (S:=S) ht hsk hy
 rw[hyk] at hval
 rw[hval]
 obtain⟨fit12,fit13⟩:=r8 ht hx
 rw[← hky] at fit12 fit13
 obtain⟨idr,pr,e0,hid,l0,l1,l2,l3,l4,lr⟩:=hb.rows.row hy
 have hbl:=hb.bl
 have hidT:(idr<h.next)=True:=by simp[hid]
 have hbT:(b<h.next)=True:=by simp[hbl]
 have B1:MO (h.fl (max h.floor h.next)) b vr tr vS R rd S:=hb.mono (Nat.le_refl _) fun _ _=>rfl
 obtain⟨kv,K1,hkids,hL,fK,nK,oK⟩:=Lf (n:=n) (h:=h.fl (max h.floor h.next)) ht hsk B1.rows hx hlen (by omega) (by rw[DD,C8];omega)
 rw[DD] at hL nK oK
 have gI:=HQ.ints hL (Nat.zero_le _)
 have hzx:(Value.agg #[iv 0,.string ByteArray.empty,iv 0,iv 0,iv 0]).cells.toList=AI EI:=rfl
 have hst:BJ Tryd.prog ((K1.fl h.floor).push (.row (AI EI) 46 false false)) 46 (qP K1.next 0) (DN y)=some (((K1.fl h.floor).push (.row (AI EI) 46 false false)).put K1.next (.row (AI y) 46 false false)):=UJ (h:=(K1.fl h.floor).push (.row (AI EI) 46 false false)) (i:=0) (off:=0) (L:=[EI]) rfl (BP (h:=K1.fl h.floor)) (by decide) (by show h.floor≤K1.next;omega)
 have gA:(((K1.fl h.floor).push (.row (AI EI) 46 false false)).put K1.next (.row (AI y) 46 false false)).get K1.next=.row (AI y) 46 false false:=BN rfl (by show K1.next<K1.next+1;omega)
 have oA:∀ i,i<K1.next→(((K1.fl h.floor).push (.row (AI EI) 46 false false)).put K1.next (.row (AI y) 46 false false)).get i=K1.get i:=fun i hi=>by rw[AM (by show K1.next<K1.next+1;omega) (by omega)];exact AT (h:=K1.fl h.floor) hi
 have nA:(((K1.fl h.floor).push (.row (AI EI) 46 false false)).put K1.next (.row (AI y) 46 false false)).next=K1.next+1:=rfl
 have fA:(((K1.fl h.floor).push (.row (AI EI) 46 false false)).put K1.next (.row (AI y) 46 false false)).floor=h.floor:=rfl
 have hfs:h.fl h.floor=h:=rfl
 simp only[eE,seval,↓eP,hr]
 refine WK.flags (ops:=vA) xY ?_
 refine BV.begin ?_
 refine AF hsn 0 (some 11) (.move (.tmp 0)) none ?_
 simp only[rG,seval,AB,AE,AD,hfs,Nat.zero_add]
 refine AF hsn 1 (some 12) (.nilCheck (.tmp 11)) none ?_
 simp only[rG,seval,AB,AE,AD,hfs]
 refine AF hsn 2 (some 13) (.fieldAddr 108 (.tmp 12) 0) none ?_
 simp only[rG,seval,AB,AE,AD,hfs,tS]
 refine AF hsn 3 (some 14) (.fieldAddr 30 (.tmp 13) 1) none ?_
 simp only[rG,seval,AB,AE,AD,Nat.zero_add,hfs,Nat.zero_add,CL]
 refine AF hsn 4 (some 15) (.load 22 (.tmp 14)) none ?_
 simp only[rG,seval,AB,AE,AD,B_,hb.x1,hbT,hfs,CK]
 refine AF hsn 5 (some 16) (.move (.tmp 1)) none ?_
 simp only[rG,seval,AB,AE,AD,hfs]
 refine AF hsn 6 (some 17) (.indexAddr 22 (.tmp 15) (.tmp 16)) none ?_
 simp only[rG,seval,AB,AE,AD,hfs,e0]
 refine AF hsn 7 (some 18) (.load 46 (.tmp 17)) none ?_
 simp only[rG,seval,AB,AE,AD,B_,hidT,hfs,ID,lr]
 refine AF hsn 8 (some 19) (.move (.tmp 0)) none ?_
 simp only[rG,seval,AB,AE,AD,hfs]
 refine AF hsn 9 (some 20) (.nilCheck (.tmp 19)) none ?_
 simp only[rG,seval,AB,AE,AD,hfs]
 refine AF hsn 10 (some 21) (.fieldAddr 108 (.tmp 20) 0) none ?_
 simp only[rG,seval,AB,AE,AD,hfs,tS]
 refine AF hsn 11 (some 22) (.fieldAddr 30 (.tmp 21) 1) none ?_
 simp only[rG,seval,AB,AE,AD,Nat.zero_add,hfs,Nat.zero_add,CL]
 refine AF hsn 12 (some 23) (.load 22 (.tmp 22)) none ?_
 simp only[rG,seval,AB,AE,AD,B_,hb.x1,hbT,hfs,CK]
 refine AF hsn 13 (some 24) (.move (.tmp 1)) none ?_
 simp only[rG,seval,AB,AE,AD,hfs]
 refine AF hsn 14 (some 25) (.call { callee:=.value (.func 96),args:=#[.tmp 23,.tmp 24],argTypes:=#[22,3] }) none ?_
 simp only[rG,seval,AB,AE,AD,CO,hkids]
 refine AF hsn 15 (some 5) (.alloc 46) none ?_
 simp only[rG,seval,AB,AE,AD,SV,C8,DD,D4,GO,hzx,C9,LW,PW,Bool.and_self]
 refine AF hsn 16 (none) (.store 46 (.tmp 5) (.tmp 18)) none ?_
 simp only[rG,seval,AB,AE,AD,DO,ED,NI,C8,D4,hst]
 refine AF hsn 17 (some 6) (.assign (.tmp 25)) none ?_
 simp only[rG,seval,AB,AE,AD]
 refine BV.done (i:=18) (by kernel_rfl) ?_
 generalize ((K1.fl h.floor).push (.row (AI EI) 46 false false)).put K1.next (.row (AI y) 46 false false)=A at *
 have y0:AS 0 (A.get K1.next)=some (iv y.kind):=by rw[gA];rfl
 have y3:AS 3 (A.get K1.next)=some (iv y.n):=by rw[gA];rfl
 have oAh:∀ i,i<h.next→A.get i=h.get i:=fun i hi=>(oA i (by omega)).trans (oK i hi)
 have BA:MO A b vr tr vS R rd S:=hb.mono (by omega) oAh
 have hfA:A.floor≤A.next:=by omega
 have kA:AK 0 A kv ((BW (AG Z) x.kids.toNat (at_+1)).map (fun (k:Nat)=>(k:Int))):=AK.mono gI (by omega) fun i _ hi=>oA i hi
 have vle:=fun k=>QB (R:=R) (e:=AG Z) (at_:=k) hrd hS
 have len1:∀ h':AA,CC Tryd.prog h' 28 kv=some (iv (x.kids.toNat:Int)):=fun h'=>by
  have:=IX (n:=((BW (AG Z) x.kids.toNat (at_+1)).map (fun (k:Nat)=>(k:Int))).length) kA h'
  rw[List.length_map,hkl] at this
  exact this
 have hff:A.fl A.floor=A:=rfl
 have hAfl:∀ f,(A.fl f).next=A.next:=fun _=>rfl
 have recf:∀ k∈BW (AG Z) x.kids.toNat (at_+1),AX n 77 [qP b 0,iv k] A=some (iv (A7 R (AG Z) rd S k),A)∧AX n 77 [qP b 0,iv k] (A.fl (max A.floor A.next))=some (iv (A7 R (AG Z) rd S k),A.fl (max A.floor A.next)):=fun k hk=>
  ⟨hrec k hk A BA hfA,hrec k hk (A.fl (max A.floor A.next)) (BA.mono (Nat.le_refl _) fun _ _=>rfl) (by rw[C8,DD];omega)⟩
 have bAT:(b<A.next)=True:=by simp;omega
 have sum3:∀ (H:AA) (a c d:Int),CZ [a,c,d]→AX n 75 [qS H.next 3 3] (H.push (.row [iv a,iv c,iv d] 3 false false))=some (iv (HU [a,c,d]),H.push (.row [iv a,iv c,iv d] 3 false false)):=fun H a c d hs=>bH (Jj (f:=H.floor)) hs (by show 3<_;omega) (by show 3+5<_;omega)
 have sum2:∀ (H:AA) (a c:Int),CZ [a,c]→AX n 75 [qS H.next 2 2] (H.push (.row [iv a,iv c] 3 false false))=some (iv (HU [a,c]),H.push (.row [iv a,iv c] 3 false false)):=fun H a c hs=>bH (pG (f:=H.floor)) hs (by show 2<_;omega) (by show 2+5<_;omega)
 have tim2:∀ (H:AA) (a c:Int),0≤a∧a≤4611686018427387904→0≤c∧c≤4611686018427387904→AX n 76 [qS H.next 2 2] (H.push (.row [iv a,iv c] 3 false false))=some (iv (KH a c),H.push (.row [iv a,iv c] 3 false false)):=fun H a c ha hc=>by
  rw[← Mj ha hc]
  exact Nv (pG (f:=H.floor)) (tZ fun z hz=>by simp only[List.mem_cons,List.not_mem_nil,or_false] at hz;rcases hz with rfl | rfl <;> assumption) (by show 2<_;omega) (by show 2+5<_;omega)
 have small2:∀ {a c:Int},0≤a∧a≤4611686018427387904→0≤c∧c≤4611686018427387904→CZ [a,c]:=fun ha hc z hz=>by simp only[List.mem_cons,List.not_mem_nil,or_false] at hz;rcases hz with rfl | rfl <;> assumption
 have small3:∀ {a c d:Int},0≤a∧a≤4611686018427387904→0≤c∧c≤4611686018427387904→0≤d∧d≤4611686018427387904→CZ [a,c,d]:=fun ha hc hd z hz=>by simp only[List.mem_cons,List.not_mem_nil,or_false] at hz;rcases hz with rfl | rfl | rfl <;> assumption
 have old1:∀ (o:BE) (i:Nat),i<h.next→(A.push o).get i=h.get i:=fun o i hi=>(AT (by omega)).trans (oAh i hi)
 have one1:(0:Int)≤1∧(1:Int)≤4611686018427387904:=by omega
 cases d24:(y.kind==24) with
 | true=>
  have hk:y.kind=24:=by simpa using d24
  have hv:I0 y.kind ((BW (AG Z) x.kids.toNat (at_+1)).map (A7 R (AG Z) rd S)) ((rd[at_]?).getD 0) (FG S y.n)=0:=if_pos hk
  rw[hv]
  simp only[eE,seval,↓eP,DP,A_,y0,d24]
  exact oAh
 | false=>
 have k24:y.kind≠24:=by simpa using d24
 cases d12:(y.kind==12) with
 | true=>
  have k12:y.kind=12:=by simpa using d12
  rcases fit12 k12 with hc | hc
  ·have hc2:x.kids.toNat=2:=by omega
   rw[hc2] at recf kA len1
   obtain⟨i0,p0,a0,b0,g0⟩:=AK.get kA (i:=0) (x:=((at_+1:Nat):Int)) rfl
   obtain⟨i1,p1,a1,b1,g1⟩:=AK.get kA (i:=1) (x:=((AG Z (at_+1):Nat):Int)) rfl
   obtain⟨r0,r0'⟩:=recf (at_+1) (by simp[BW])
   obtain⟨r1,r1'⟩:=recf (AG Z (at_+1)) (by simp[BW])
   have a0':CU Tryd.prog 28 kv (iv 0)=some (qP i0 p0):=a0
   have a1':CU Tryd.prog 28 kv (iv 1)=some (qP i1 p1):=a1
   have len1':∀ h':AA,CC Tryd.prog h' 28 kv=some (iv 2):=len1
   have t0:(i0<A.next)=True:=by simp[b0]
   have t1:(i1<A.next)=True:=by simp[b1]
   have u0:=vle (at_+1)
   have u1:=vle (AG Z (at_+1))
   have mx:(if (0:Int)>A7 R (AG Z) rd S (AG Z (at_+1)) then 0 else A7 R (AG Z) rd S (AG Z (at_+1)))=A7 R (AG Z) rd S (AG Z (at_+1)):=if_neg (by omega)
   have hs3:=sum3 A 1 _ _ (small3 one1 u0 u1)
   have hv:I0 y.kind ((BW (AG Z) x.kids.toNat (at_+1)).map (A7 R (AG Z) rd S)) ((rd[at_]?).getD 0) (FG S y.n)=HU [1,A7 R (AG Z) rd S (at_+1),A7 R (AG Z) rd S (AG Z (at_+1))]:=by
    rw[hc2,k12,rT u0 u1]
    exact qX u1.1
   rw[hv]
   simp only[eE,seval,↓eP,DP,A_,y0,d24,d12,len1']
   refine WK.flags (ops:=dZ) uJ ?_
   refine BV.begin ?_
   refine AF hsn 0 (some 40) (.move (.tmp 0)) none ?_
   simp only[rG,seval,AB,AE,AD,hff]
   refine AF hsn 1 (some 41) (.move (.tmp 6)) none ?_
   simp only[rG,seval,AB,AE,AD,hff]
   refine AF hsn 2 (some 42) (.indexAddr 28 (.tmp 41) (.const (Value.int IntKind.i64 0))) none ?_
   simp only[rG,seval,AB,AE,AD,hff,a0']
   refine AF hsn 3 (some 43) (.load 3 (.tmp 42)) none ?_
   simp only[rG,seval,AB,AE,AD,B_,hff,g0,t0,A_]
   refine AF hsn 4 (some 44) (.call { callee:=.value (.func 77),args:=#[.tmp 40,.tmp 43],argTypes:=#[106,3] }) none ?_
   simp only[rG,seval,AB,AE,AD,CO,hff,r0',D4]
   refine AF hsn 5 (some 45) (.move (.tmp 0)) none ?_
   simp only[rG,seval,AB,AE,AD,hff]
   refine AF hsn 6 (some 46) (.move (.tmp 6)) none ?_
   simp only[rG,seval,AB,AE,AD,hff]
   refine AF hsn 7 (some 47) (.indexAddr 28 (.tmp 46) (.const (Value.int IntKind.i64 1))) none ?_
   simp only[rG,seval,AB,AE,AD,hff,a1']
   refine AF hsn 8 (some 48) (.load 3 (.tmp 47)) none ?_
   simp only[rG,seval,AB,AE,AD,B_,hff,g1,t1,A_]
   refine AF hsn 9 (some 49) (.call { callee:=.value (.func 77),args:=#[.tmp 45,.tmp 48],argTypes:=#[106,3] }) none ?_
   simp only[rG,seval,AB,AE,AD,CO,hff,r1]
   refine AF hsn 10 (some 50) (.move (.tmp 7)) none ?_
   simp only[rG,seval,AB,AE,AD,hff]
   refine AF hsn 11 (some 51) (.call { callee:=.builtin .max,args:=#[.tmp 49,.tmp 50],argTypes:=#[3,3] }) none ?_
   simp only[rG,seval,AB,AE,AD,CO,hff,max2,mx]
   refine AF hsn 12 (some 52) (.buildSlice 28 3 #[(0,.const (Value.int IntKind.i64 1)),(1,.tmp 44),(2,.tmp 51)]) none ?_
   simp only[rG,seval,AB,AE,AD,List.map_cons,List.map_nil,hff,uW,EE]
   refine AF hsn 13 (some 53) (.call { callee:=.value (.func 75),args:=#[.tmp 52],argTypes:=#[28] }) none ?_
   simp only[rG,seval,AB,AE,AD,CO,hs3]
   refine AF hsn 14 (some 4) (.assign (.tmp 53)) none ?_
   simp only[rG,seval,AB,AE,AD]
   refine BV.done (i:=15) (by kernel_rfl) ?_
   simp only[eE,seval,↓eP]
   exact old1 _
  ·have hc3:x.kids.toNat=3:=by omega
   rw[hc3] at recf kA len1
   obtain⟨i0,p0,a0,b0,g0⟩:=AK.get kA (i:=0) (x:=((at_+1:Nat):Int)) rfl
   obtain⟨i1,p1,a1,b1,g1⟩:=AK.get kA (i:=1) (x:=((AG Z (at_+1):Nat):Int)) rfl
   obtain⟨i2,p2,a2,b2,g2⟩:=AK.get kA (i:=2) (x:=((AG Z (AG Z (at_+1)):Nat):Int)) rfl
   obtain⟨r0,r0'⟩:=recf (at_+1) (by simp[BW])
   obtain⟨r1,r1'⟩:=recf (AG Z (at_+1)) (by simp[BW])
   obtain⟨r2,r2'⟩:=recf (AG Z (AG Z (at_+1))) (by simp[BW])
   have a0':CU Tryd.prog 28 kv (iv 0)=some (qP i0 p0):=a0
   have a1':CU Tryd.prog 28 kv (iv 1)=some (qP i1 p1):=a1
   have a2':CU Tryd.prog 28 kv (iv 2)=some (qP i2 p2):=a2
   have len1':∀ h':AA,CC Tryd.prog h' 28 kv=some (iv 3):=len1
   have t0:(i0<A.next)=True:=by simp[b0]
   have t1:(i1<A.next)=True:=by simp[b1]
   have u0:=vle (at_+1)
   have u1:=vle (AG Z (at_+1))
   have u2:=vle (AG Z (AG Z (at_+1)))
   have u3:0≤(if A7 R (AG Z) rd S (AG Z (AG Z (at_+1)))>A7 R (AG Z) rd S (AG Z (at_+1)) then A7 R (AG Z) rd S (AG Z (AG Z (at_+1))) else A7 R (AG Z) rd S (AG Z (at_+1)))∧(if A7 R (AG Z) rd S (AG Z (AG Z (at_+1)))>A7 R (AG Z) rd S (AG Z (at_+1)) then A7 R (AG Z) rd S (AG Z (AG Z (at_+1))) else A7 R (AG Z) rd S (AG Z (at_+1)))≤4611686018427387904:=by split <;> assumption
   have hv:I0 y.kind ((BW (AG Z) x.kids.toNat (at_+1)).map (A7 R (AG Z) rd S)) ((rd[at_]?).getD 0) (FG S y.n)=HU [1,A7 R (AG Z) rd S (at_+1),if A7 R (AG Z) rd S (AG Z (AG Z (at_+1)))>A7 R (AG Z) rd S (AG Z (at_+1)) then A7 R (AG Z) rd S (AG Z (AG Z (at_+1))) else A7 R (AG Z) rd S (AG Z (at_+1))]:=by
    rw[hc3,k12,rT u0 u3]
    exact kM
   rw[hv]
   generalize hmx:(if A7 R (AG Z) rd S (AG Z (AG Z (at_+1)))>A7 R (AG Z) rd S (AG Z (at_+1)) then A7 R (AG Z) rd S (AG Z (AG Z (at_+1))) else A7 R (AG Z) rd S (AG Z (at_+1)))=mx at *
   have hs3:=sum3 A 1 _ _ (small3 one1 u0 u3)
   simp only[eE,seval,↓eP,DP,A_,y0,d24,d12,len1',a2',g2,r2]
   refine WK.flags (ops:=dZ) uJ ?_
   refine BV.begin ?_
   refine AF hsn 0 (some 40) (.move (.tmp 0)) none ?_
   simp only[rG,seval,AB,AE,AD,hff]
   refine AF hsn 1 (some 41) (.move (.tmp 6)) none ?_
   simp only[rG,seval,AB,AE,AD,hff]
   refine AF hsn 2 (some 42) (.indexAddr 28 (.tmp 41) (.const (Value.int IntKind.i64 0))) none ?_
   simp only[rG,seval,AB,AE,AD,hff,a0']
   refine AF hsn 3 (some 43) (.load 3 (.tmp 42)) none ?_
   simp only[rG,seval,AB,AE,AD,B_,hff,g0,t0,A_]
   refine AF hsn 4 (some 44) (.call { callee:=.value (.func 77),args:=#[.tmp 40,.tmp 43],argTypes:=#[106,3] }) none ?_
   simp only[rG,seval,AB,AE,AD,CO,hff,r0',D4]
   refine AF hsn 5 (some 45) (.move (.tmp 0)) none ?_
   simp only[rG,seval,AB,AE,AD,hff]
   refine AF hsn 6 (some 46) (.move (.tmp 6)) none ?_
   simp only[rG,seval,AB,AE,AD,hff]
   refine AF hsn 7 (some 47) (.indexAddr 28 (.tmp 46) (.const (Value.int IntKind.i64 1))) none ?_
   simp only[rG,seval,AB,AE,AD,hff,a1']
   refine AF hsn 8 (some 48) (.load 3 (.tmp 47)) none ?_
   simp only[rG,seval,AB,AE,AD,B_,hff,g1,t1,A_]
   refine AF hsn 9 (some 49) (.call { callee:=.value (.func 77),args:=#[.tmp 45,.tmp 48],argTypes:=#[106,3] }) none ?_
   simp only[rG,seval,AB,AE,AD,CO,hff,r1]
   refine AF hsn 10 (some 50) (.move (.tmp 7)) none ?_
   simp only[rG,seval,AB,AE,AD,hff]
   refine AF hsn 11 (some 51) (.call { callee:=.builtin .max,args:=#[.tmp 49,.tmp 50],argTypes:=#[3,3] }) none ?_
   simp only[rG,seval,AB,AE,AD,CO,hff,max2,hmx]
   refine AF hsn 12 (some 52) (.buildSlice 28 3 #[(0,.const (Value.int IntKind.i64 1)),(1,.tmp 44),(2,.tmp 51)]) none ?_
   simp only[rG,seval,AB,AE,AD,List.map_cons,List.map_nil,hff,uW,EE]
   refine AF hsn 13 (some 53) (.call { callee:=.value (.func 75),args:=#[.tmp 52],argTypes:=#[28] }) none ?_
   simp only[rG,seval,AB,AE,AD,CO,hs3]
   refine AF hsn 14 (some 4) (.assign (.tmp 53)) none ?_
   simp only[rG,seval,AB,AE,AD]
   refine BV.done (i:=15) (by kernel_rfl) ?_
   simp only[eE,seval,↓eP]
   exact old1 _
 | false=>
 have k12:y.kind≠12:=by simpa using d12
 cases d13:(y.kind==13) with
 | true=>
  have k13:y.kind=13:=by simpa using d13
  have hc3:x.kids.toNat=3:=by have:=fit13 k13;omega
  rw[hc3] at recf kA len1
  obtain⟨i1,p1,a1,b1,g1⟩:=AK.get kA (i:=1) (x:=((AG Z (at_+1):Nat):Int)) rfl
  obtain⟨i2,p2,a2,b2,g2⟩:=AK.get kA (i:=2) (x:=((AG Z (AG Z (at_+1)):Nat):Int)) rfl
  obtain⟨r1,r1'⟩:=recf (AG Z (at_+1)) (by simp[BW])
  obtain⟨r2,r2'⟩:=recf (AG Z (AG Z (at_+1))) (by simp[BW])
  have a1':CU Tryd.prog 28 kv (iv 1)=some (qP i1 p1):=a1
  have a2':CU Tryd.prog 28 kv (iv 2)=some (qP i2 p2):=a2
  have hal:at_<rd.length:=by rw[hrl];exact(List.getElem?_eq_some_iff.1 hy).1
  obtain⟨ro,hro⟩:∃ ro,rd[at_]?=some ro:=⟨_,List.getElem?_eq_getElem hal⟩
  have u0:=T0 hrd at_
  rw[hro] at u0
  simp only[Option.getD_some] at u0
  obtain⟨i3,p3,a3,b3,g3⟩:=AK.get BA.rd hro
  have t1:(i1<A.next)=True:=by simp[b1]
  have t2:(i2<A.next)=True:=by simp[b2]
  have t3:(i3<A.next)=True:=by simp[b3]
  have u1:=vle (AG Z (at_+1))
  have u2:=vle (AG Z (AG Z (at_+1)))
  have hs1:=sum2 A _ _ (small2 u1 u2)
  rw[qA u1] at hs1
  have hs1':AX n 75 [qS A.next 2 2] ((A.fl (max A.floor A.next)).push (.row [iv (A7 R (AG Z) rd S (AG Z (at_+1))),iv (A7 R (AG Z) rd S (AG Z (AG Z (at_+1))))] 3 false false))=some (iv (BF (A7 R (AG Z) rd S (AG Z (at_+1))) (A7 R (AG Z) rd S (AG Z (AG Z (at_+1))))),(A.fl (max A.floor A.next)).push (.row [iv (A7 R (AG Z) rd S (AG Z (at_+1))),iv (A7 R (AG Z) rd S (AG Z (AG Z (at_+1))))] 3 false false)):=by
   rw[← qA u1]
   exact sum2 (A.fl (max A.floor A.next)) _ _ (small2 u1 u2)
  have u3:=IN u1.1 u2.1 u2.2
  have u4:=cZ u0 u3
  have hv:I0 y.kind ((BW (AG Z) x.kids.toNat (at_+1)).map (A7 R (AG Z) rd S)) ((rd[at_]?).getD 0) (FG S y.n)=HU [1,KH ro (BF (A7 R (AG Z) rd S (AG Z (at_+1))) (A7 R (AG Z) rd S (AG Z (AG Z (at_+1)))))]:=by
   rw[hc3,k13,hro,oL u4]
   exact lJ
  rw[hv]
  have hs2:=fun H=>tim2 H ro _ u0 u3
  have hs3:=fun H=>sum2 H 1 _ (small2 one1 u4)
  simp only[eE,seval,↓eP,DP,A_,y0,d24,d12,d13]
  refine WK.flags (ops:=m7) vV ?_
  refine BV.begin ?_
  refine AF hsn 0 (some 56) (.move (.tmp 0)) none ?_
  simp only[rG,seval,AB,AE,AD,hff,Nat.zero_add]
  refine AF hsn 1 (some 57) (.nilCheck (.tmp 56)) none ?_
  simp only[rG,seval,AB,AE,AD,hff,Nat.reduceAdd]
  refine AF hsn 2 (some 58) (.fieldAddr 108 (.tmp 57) 1) none ?_
  simp only[rG,seval,AB,AE,AD,Nat.zero_add,hff,Hv,Nat.zero_add,Nat.reduceAdd]
  refine AF hsn 3 (some 59) (.fieldAddr 70 (.tmp 58) 2) none ?_
  simp only[rG,seval,AB,AE,AD,hff,TC,Nat.reduceAdd]
  refine AF hsn 4 (some 60) (.load 28 (.tmp 59)) none ?_
  simp only[rG,seval,AB,AE,AD,B_,hff,bAT,BA.x10,CX,Nat.reduceAdd]
  refine AF hsn 5 (some 61) (.move (.tmp 1)) none ?_
  simp only[rG,seval,AB,AE,AD,hff,Nat.reduceAdd]
  refine AF hsn 6 (some 62) (.indexAddr 28 (.tmp 60) (.tmp 61)) none ?_
  simp only[rG,seval,AB,AE,AD,hff,Nat.reduceAdd,a3]
  refine AF hsn 7 (some 63) (.load 3 (.tmp 62)) none ?_
  simp only[rG,seval,AB,AE,AD,B_,hff,Nat.reduceAdd,g3,t3,A_]
  refine AF hsn 8 (some 64) (.move (.tmp 0)) none ?_
  simp only[rG,seval,AB,AE,AD,hff,Nat.reduceAdd]
  refine AF hsn 9 (some 65) (.move (.tmp 6)) none ?_
  simp only[rG,seval,AB,AE,AD,hff,Nat.reduceAdd]
  refine AF hsn 10 (some 66) (.indexAddr 28 (.tmp 65) (.const (Value.int IntKind.i64 1))) none ?_
  simp only[rG,seval,AB,AE,AD,hff,Nat.reduceAdd,a1']
  refine AF hsn 11 (some 67) (.load 3 (.tmp 66)) none ?_
  simp only[rG,seval,AB,AE,AD,B_,hff,Nat.reduceAdd,g1,t1,A_]
  refine AF hsn 12 (some 68) (.call { callee:=.value (.func 77),args:=#[.tmp 64,.tmp 67],argTypes:=#[106,3] }) none ?_
  simp only[rG,seval,AB,AE,AD,CO,hff,Nat.reduceAdd,r1',D4]
  refine AF hsn 13 (some 69) (.move (.tmp 0)) none ?_
  simp only[rG,seval,AB,AE,AD,hff,Nat.reduceAdd]
  refine AF hsn 14 (some 70) (.move (.tmp 6)) none ?_
  simp only[rG,seval,AB,AE,AD,hff,Nat.reduceAdd]
  refine AF hsn 15 (some 71) (.indexAddr 28 (.tmp 70) (.const (Value.int IntKind.i64 2))) none ?_
  simp only[rG,seval,AB,AE,AD,hff,Nat.reduceAdd,a2']
  refine AF hsn 16 (some 72) (.load 3 (.tmp 71)) none ?_
  simp only[rG,seval,AB,AE,AD,B_,hff,Nat.reduceAdd,g2,t2,A_]
  refine AF hsn 17 (some 73) (.call { callee:=.value (.func 77),args:=#[.tmp 69,.tmp 72],argTypes:=#[106,3] }) none ?_
  simp only[rG,seval,AB,AE,AD,CO,hff,Nat.reduceAdd,r2',D4]
  refine AF hsn 18 (some 74) (.buildSlice 28 2 #[(0,.tmp 68),(1,.tmp 73)]) none ?_
  simp only[rG,seval,AB,AE,AD,List.map_cons,List.map_nil,hff,Nat.reduceAdd,WB,EE]
  refine AF hsn 19 (some 75) (.call { callee:=.value (.func 75),args:=#[.tmp 74],argTypes:=#[28] }) none ?_
  simp only[rG,seval,AB,AE,AD,CO,hff,Nat.reduceAdd,hs1',EE,DK,D4]
  refine AF hsn 20 (some 76) (.buildSlice 28 2 #[(0,.tmp 63),(1,.tmp 75)]) none ?_
  simp only[rG,seval,AB,AE,AD,List.map_cons,List.map_nil,hff,Nat.reduceAdd,WB,EE,DK]
  refine AF hsn 21 (some 77) (.call { callee:=.value (.func 76),args:=#[.tmp 76],argTypes:=#[28] }) none ?_
  simp only[rG,seval,AB,AE,AD,CO,hff,Nat.reduceAdd,hs2,EE,DK]
  refine AF hsn 22 (some 78) (.buildSlice 28 2 #[(0,.const (Value.int IntKind.i64 1)),(1,.tmp 77)]) none ?_
  simp only[rG,seval,AB,AE,AD,List.map_cons,List.map_nil,hff,Nat.reduceAdd,WB,EE,DK]
  refine AF hsn 23 (some 79) (.call { callee:=.value (.func 75),args:=#[.tmp 78],argTypes:=#[28] }) none ?_
  simp only[rG,seval,AB,AE,AD,CO,hff,Nat.reduceAdd,hs3,EE,DK]
  refine AF hsn 24 (some 4) (.assign (.tmp 79)) none ?_
  simp only[rG,seval,AB,AE,AD,hff,Nat.reduceAdd,EE,DK]
  refine BV.done (i:=25) (by kernel_rfl) ?_
  simp only[eE,seval,↓eP]
  exact fun i hi=>by rw[AT (by show i<A.next+1+1;omega),AT (by show i<A.next+1;omega),AT (by omega)];exact oAh i hi
 | false=>
 have k13:y.kind≠13:=by simpa using d13
 cases d22:(y.kind==22) with
 | true=>
  have k22:y.kind=22:=by simpa using d22
  obtain⟨c0,c1⟩:=hcall k22
  obtain⟨k,hk⟩:∃ k:Nat,y.n=(k:Int):=⟨y.n.toNat,by omega⟩
  rw[hk] at y3 c1
  obtain⟨q,hq⟩:∃ q,S[k]?=some q:=⟨_,List.getElem?_eq_getElem (by omega)⟩
  obtain⟨i3,p3,a3,b3,g3⟩:=AK.get BA.s hq
  have u1:=hS q (List.mem_of_getElem? hq)
  have t3:(i3<A.next)=True:=by simp[b3]
  have KT:(K1.next<A.next)=True:=by simp;omega
  have hs2:=fun H=>sum2 H 1 q (small2 one1 u1)
  have hsq:FG S y.n=q:=by unfold FG;rw[hk,Int.toNat_natCast,hq];rfl
  have hv:I0 y.kind ((BW (AG Z) x.kids.toNat (at_+1)).map (A7 R (AG Z) rd S)) ((rd[at_]?).getD 0) (FG S y.n)=HU [1,q]:=by
   rw[hsq,k22,oL u1]
   exact jB
  rw[hv]
  simp only[eE,seval,↓eP,DP,A_,y0,d24,d12,d13,d22]
  refine WK.flags (ops:=gT) Fv ?_
  refine BV.begin ?_
  refine AF hsn 0 (some 82) (.move (.tmp 0)) none ?_
  simp only[rG,seval,AB,AE,AD,hff,Nat.zero_add]
  refine AF hsn 1 (some 83) (.nilCheck (.tmp 82)) none ?_
  simp only[rG,seval,AB,AE,AD,hff,Nat.reduceAdd]
  refine AF hsn 2 (some 84) (.fieldAddr 108 (.tmp 83) 2) none ?_
  simp only[rG,seval,AB,AE,AD,Nat.zero_add,hff,aA,Nat.zero_add,Nat.reduceAdd]
  refine AF hsn 3 (some 85) (.load 28 (.tmp 84)) none ?_
  simp only[rG,seval,AB,AE,AD,B_,hff,bAT,BA.x11,CX,Nat.reduceAdd]
  refine AF hsn 4 (some 86) (.fieldAddr 46 (.tmp 5) 3) none ?_
  simp only[rG,seval,AB,AE,AD,Nat.zero_add,hff,JP,Nat.zero_add,Nat.reduceAdd]
  refine AF hsn 5 (some 87) (.load 3 (.tmp 86)) none ?_
  simp only[rG,seval,AB,AE,AD,B_,hff,KT,y3,Nat.reduceAdd,A_]
  refine AF hsn 6 (some 88) (.indexAddr 28 (.tmp 85) (.tmp 87)) none ?_
  simp only[rG,seval,AB,AE,AD,hff,Nat.reduceAdd,a3]
  refine AF hsn 7 (some 89) (.load 3 (.tmp 88)) none ?_
  simp only[rG,seval,AB,AE,AD,B_,hff,Nat.reduceAdd,g3,t3,A_]
  refine AF hsn 8 (some 90) (.buildSlice 28 2 #[(0,.const (Value.int IntKind.i64 1)),(1,.tmp 89)]) none ?_
  simp only[rG,seval,AB,AE,AD,List.map_cons,List.map_nil,hff,Nat.reduceAdd,WB,EE]
  refine AF hsn 9 (some 91) (.call { callee:=.value (.func 75),args:=#[.tmp 90],argTypes:=#[28] }) none ?_
  simp only[rG,seval,AB,AE,AD,CO,hff,Nat.reduceAdd,hs2,EE,DK]
  refine AF hsn 10 (some 4) (.assign (.tmp 91)) none ?_
  simp only[rG,seval,AB,AE,AD,hff,Nat.reduceAdd,EE,DK]
  refine BV.done (i:=11) (by kernel_rfl) ?_
  simp only[eE,seval,↓eP]
  exact old1 _
 | false=>
 have k22:y.kind≠22:=by simpa using d22
 have hsv:CZ ((BW (AG Z) x.kids.toNat (at_+1)).map (A7 R (AG Z) rd S)):=UZ hrd hS R.length _
 rw[bG k24 k12 k13 k22,← XD hsv]
 simp only[eE,seval,↓eP,DP,A_,y0,d24,d12,d13,d22,K9,len1]
 have hkb:x.kids.toNat≤R.length:=by
  obtain⟨x',hx',_,_,hch⟩:=(ht.end (List.getElem?_eq_some_iff.1 hx).1).kids
  rw[hx] at hx'
  cases hx'
  have h1:=HE _ _ _ hch
  have h2:=(ht.end (List.getElem?_eq_some_iff.1 hx).1).lt
  have h3:=hsk.1
  omega
 generalize hks:BW (AG Z) x.kids.toNat (at_+1)=ks at *
 refine WK.loop (fun i s'=>s'.T.get 0=qP b 0∧s'.T.get 93=kv∧s'.T.get 94=iv (x.kids.toNat:Int)∧s'.T.get 95=iv i∧i≤x.kids.toNat∧A.next≤s'.h.next∧s'.h.floor=A.floor∧(∀ j,j<A.next→s'.h.get j=A.get j)∧∃ w,s'.T.get 8=w∧HQ s'.h A.next w (1 :: (ks.take i).map (A7 R (AG Z) rd S))) x.kids.toNat (by omega) ?_ ?_
 ·refine⟨by simp only[eE,seval,↓eP,rP],by simp only[eE,seval,↓eP,rP],by simp only[eE,seval,↓eP,rP],by simp only[eE,seval,↓eP,rP],by omega,by show A.next≤A.next+1;omega,rfl,fun j hj=>AT hj,qS A.next 1 1,by simp only[eE,seval,↓eP,rP],.inr ⟨A.next,1,rfl,Nat.le_refl _,by show A.next<A.next+1;omega,.inr ⟨rfl,BP⟩⟩⟩
 rintro i ⟨T1,H1⟩ hi ⟨t0,t93,t94,t95,hil,m1,m2,m3,w,t8,hL8⟩
 simp only at t0 t93 t94 t95 m1 m2 m3 t8 hL8
 have B1':MO H1 b vr tr vS R rd S:=BA.mono m1 m3
 by_cases hlt:i<x.kids.toNat
 ·have c1:decide ((i:Int)<(x.kids.toNat:Int))=true:=by simp;omega
  have w1:=DJ i (by omega)
  obtain⟨k,hk⟩:∃ k,ks[i]?=some k:=⟨_,List.getElem?_eq_getElem (by omega)⟩
  obtain⟨i3,p3,a3,b3,g3⟩:=AK.get (AK.mono kA m1 fun j _ hj=>m3 j hj) (i:=i) (x:=(k:Int)) (by rw[List.getElem?_map,hk];rfl)
  have hrk:=hrec k (List.mem_of_getElem? hk) H1 B1' (by omega)
  obtain⟨w',H',happ,hL',fH,nH,oH⟩:=ZE (x:=A7 R (AG Z) rd S k) hL8 m1 (by omega) (by rw[List.length_cons,List.length_map,List.length_take];omega)
  simp only[eE,seval,↓eP,t0,t93,t94,t95,t8,c1,a3,A_,g3,hrk,K9,happ,w1]
  refine⟨hlt,by omega,by omega,by omega,fun j hj=>(oH j hj).trans (m3 j hj),?_⟩
  rw[List.take_add_one,hk]
  simpa using hL'
 ·have c1:decide ((i:Int)<(x.kids.toNat:Int))=false:=by simp;omega
  have hti:ks.take i=ks:=List.take_of_length_le (by omega)
  rw[hti] at hL8
  have hs1:CZ (1 :: ks.map (A7 R (AG Z) rd S)):=fun z hz=>by
   simp only[List.mem_cons] at hz
   rcases hz with rfl | hz
   ·exact one1
   ·exact hsv z hz
  have hsum:=bH (n:=n) (HQ.ints hL8 (Nat.zero_le _)) hs1 (by rw[List.length_cons,List.length_map];omega) (by rw[List.length_cons,List.length_map];omega)
  simp only[eE,seval,↓eP,t94,t95,t8,c1,hsum]
  exact fun i hi=>(m3 i (by omega)).trans (oAh i hi)
end
def U4 (R:List AC) (S:List Int) (p q:Nat):Prop:=∀ (i:Nat) (x:AC),p≤i→i<q→R[i]?=some x→x.kind=22→0≤x.n∧x.n<S.length
def WU (R Z:List AC):Prop:=∀ (i:Nat) (x:AC),Z[i]?=some x→∃ y,R[i]?=some y∧y.kind=x.kind
theorem uZ {Z R:List AC} {rd S:List Int} {vr tr vS:Value} {b:Nat} (ht:B8 Z) (hsk:GV R Z) (hkk:WU R Z) (hrd:F7 rd) (hrl:rd.length=R.length) (hS:CZ S) (hlen:R.length<2932031007403) :
  ∀ (d n at_ q:Nat) (h:AA),DX Z at_ q→q-at_≤d→U4 R S at_ q→R.length+40+d<n→MO h b vr tr vS R rd S→h.floor≤h.next→AX n 77 [qP b 0,iv at_] h=some (iv (A7 R (AG Z) rd S at_),h):=by
 intro d
 induction d with
 | zero=>intro n at_ q h hs hd;have:=hs.lt;omega
 | succ d ih=>
  intro n at_ q h hs hd hc hn hb hfl
  obtain⟨n,rfl⟩:∃ j,n=j+1:=⟨n-1,by omega⟩
  obtain⟨x,hx,_,_,hch⟩:=hs.kids
  obtain⟨y,hy,hyk⟩:=hkk at_ x hx
  have hl:=hs.lt
  refine J6 (CN ⟨rfl,rfl,rfl⟩) rfl (Bt (n:=n) (N:=n) ht hsk hx hy hyk hrd hrl hS (fun h22=>hc at_ y (Nat.le_refl _) (by omega) hy h22) hlen (by omega) (by omega) hb hfl fun k hk h' hb' hf'=>?_)
  obtain⟨qk,s1,s2,s3⟩:=RY _ _ _ hch k hk
  exact ih n k qk h' s1 (by omega) (fun i z h1 h2=>hc i z (by omega) (by omega)) (by omega) hb' hf'
def OB (s:AP) (k n:Int) (nm:ByteArray):Prop:=
 0≤n∧((k=1∧∃ b,s.queues[n.toNat]?=some (nm,b))∨(k=2∧s.vars[n.toNat]?=some nm)∨(k=3∧s.tags[n.toNat]?=some nm)∨(k=4∧∃ ru:Nat,s.rules[n.toNat]?=some ((ru:Int)+1)∧∃ y:AC,s.rows[ru]?=some y∧y.name=nm))
structure QX (s s':AP):Prop where
 q:∀ (i:Nat) x,s.queues[i]?=some x→s'.queues[i]?=some x
 v:∀ (i:Nat) x,s.vars[i]?=some x→s'.vars[i]?=some x
 t:∀ (i:Nat) x,s.tags[i]?=some x→s'.tags[i]?=some x
 u:∀ (i:Nat) x,s.rules[i]?=some x→s'.rules[i]?=some x
 r:∀ (i:Nat) (y:AC),s.rows[i]?=some y→∃ y':AC,s'.rows[i]?=some y'∧y'.name=y.name
theorem OB.up {s s':AP} {k n:Int} {nm:ByteArray} (h:OB s k n nm) (hu:QX s s'):OB s' k n nm:=by
 refine⟨h.1,?_⟩
 rcases h.2 with⟨h1,b,h2⟩ | ⟨h1,h2⟩ | ⟨h1,h2⟩ | ⟨h1,ru,h2,y,h3,h4⟩
 ·exact .inl ⟨h1,b,hu.q _ _ h2⟩
 ·exact .inr (.inl ⟨h1,hu.v _ _ h2⟩)
 ·exact .inr (.inr (.inl ⟨h1,hu.t _ _ h2⟩))
 ·obtain⟨y',h5,h6⟩:=hu.r _ _ h3
  exact .inr (.inr (.inr ⟨h1,ru,hu.u _ _ h2,y',h5,h6.trans h4⟩))
theorem XJ {α:Type} {l:List α} {i:Nat} {x y:α} (h:l[i]?=some x):(l++[y])[i]?=some x:=by rw[List.getElem?_append_left (List.getElem?_eq_some_iff.1 h).1];exact h
theorem p_ {l:List AC} {k i:Nat} {n:Int} {y:AC} (h:l[i]?=some y):∃ y':AC,(E_ l k n)[i]?=some y'∧y'.name=y.name:=by
 by_cases hi:i=k
 ·subst hi
  exact⟨_,JB h,rfl⟩
 ·exact⟨y,(JL hi).trans h,rfl⟩
theorem My {k:Int} (h:DI k≠0):BM k=0:=by
 unfold BM
 unfold DI at h
 split
 ·rename_i h1
  simp only[List.contains_cons,List.contains_nil,Bool.or_false,Bool.or_eq_true,beq_iff_eq] at h1
  rcases h1 with rfl | rfl <;> exact absurd rfl h
 split
 ·subst k;exact absurd rfl h
 split
 ·subst k;exact absurd rfl h
 split
 ·subst k;exact absurd rfl h
 rfl
def LH (k:Int):Int:=DI k+BM k
theorem Dg {k:Int} (h:LH k=0):DI k=0∧BM k=0:=by
 have:=iI k
 have:=QS k
 unfold LH at h
 omega
structure LQ (l:List AC) (at_:Nat) (s:AP):Prop where
 rows:∀ (i:Nat) (x:AC),i<at_→s.rows[i]?=some x→(LH x.kind=0→l[i]?=some x)∧(LH x.kind≠0→OB s (LH x.kind) x.n x.name)
 things:∀ t∈s.things,OB s t.kind t.num t.name
theorem LQ.up {l:List AC} {at_:Nat} {s s':AP} (h:LQ l at_ s) (hu:QX s s') (hr:∀ i,i<at_→s'.rows[i]?=s.rows[i]?) (ht:∀ t∈s'.things,t∈s.things∨OB s' t.kind t.num t.name):LQ l at_ s' where
 rows:=fun i x hi hx=>by
  rw[hr i hi] at hx
  obtain⟨h1,h2⟩:=h.rows i x hi hx
  exact⟨h1,fun h3=>(h2 h3).up hu⟩
 things:=fun t h1=>by
  rcases ht t h1 with h2 | h2
  ·exact(h.things t h2).up hu
  ·exact h2
theorem Jv {at_:Nat} {end_:Int} {x:AC} {s:AP}:QX s (EX at_ end_ x s) where
 q:=fun i y h=>by simp only[EX];split;(first | exact XJ h | exact h);exact h
 v:=fun i y h=>by simp only[EX];split;(first | exact XJ h | exact h);exact h
 t:=fun i y h=>by simp only[EX];split;(first | exact XJ h | exact h);exact h
 u:=fun i y h=>by simp only[EX];split;(first | exact XJ h | exact h);exact h
 r:=fun i y h=>p_ h
theorem Eb (s:AP):QX s s:=⟨fun _ _ h=>h,fun _ _ h=>h,fun _ _ h=>h,fun _ _ h=>h,fun _ y h=>⟨y,h,rfl⟩⟩
theorem XG {α:Type} (l:List α) (y:α):(l++[y])[l.length]?=some y:=by simp
theorem Jz {at_:Nat} {end_:Int} {x:AC} {s:AP} (hx:s.rows[at_]?=some x) (hd:BM x.kind≠0):OB (EX at_ end_ x s) (BM x.kind) (BD s (BM x.kind)) x.name:=by
 have hk:=QS x.kind
 refine⟨by omega,?_⟩
 rw[Int.toNat_natCast]
 have hc:BM x.kind=1∨BM x.kind=2∨BM x.kind=3∨BM x.kind=4:=by omega
 rcases hc with e | e | e | e
 ·refine .inl ⟨e,x.kind==3,?_⟩
  simp only[EX,BD,e]
  exact XG _ _
 ·refine .inr (.inl ⟨e,?_⟩)
  simp only[EX,BD,e]
  exact XG _ _
 ·refine .inr (.inr (.inl ⟨e,?_⟩))
  simp only[EX,BD,e]
  exact XG _ _
 ·refine .inr (.inr (.inr ⟨e,at_,?_,_,JB hx,rfl⟩))
  simp only[EX,BD,e]
  exact XG _ _
theorem wK {l:List AC} {at_:Nat} {end_:Int} {x:AC} {s:AP} (h:LQ l at_ s) (hx:s.rows[at_]?=some x) :
  LQ l at_ (BI at_ end_ x s)∧∃ n,(BI at_ end_ x s).rows[at_]?=some { x with n:=n }∧(BM x.kind=0→n=x.n)∧(BM x.kind≠0→OB (BI at_ end_ x s) (BM x.kind) n x.name):=by
 unfold BI
 by_cases d0:BM x.kind=0
 ·rw[if_pos d0]
  exact⟨h,x.n,hx,fun _=>rfl,fun h1=>absurd d0 h1⟩
 ·rw[if_neg d0]
  have hs:=Jz (end_:=end_) hx d0
  refine⟨h.up Jv (fun i hi=>JL (by omega)) fun t ht=>?_,_,JB hx,fun h1=>absurd h1 d0,fun _=>hs⟩
  simp only[EX,List.mem_append,List.mem_cons,List.not_mem_nil,or_false] at ht
  rcases ht with h1 | rfl
  ·exact .inl h1
  ·exact .inr hs
theorem wY {l:List AC} {at_:Nat} {x:AC} {s:AP} (h:LQ l at_ s) (hx:s.rows[at_]?=some x) (hc:CJ at_ x s=0) :
  LQ l at_ (BO at_ x s)∧QX s (BO at_ x s)∧∃ n,(BO at_ x s).rows[at_]?=some { x with n:=n }∧(DI x.kind=0→n=x.n)∧(DI x.kind≠0→OB (BO at_ x s) (DI x.kind) n x.name):=by
 unfold BO
 unfold CJ at hc
 by_cases d0:DI x.kind=0
 ·rw[if_pos d0]
  exact⟨h,Eb s,x.n,hx,fun _=>rfl,fun h1=>absurd d0 h1⟩
 ·rw [if_neg d0] at hc ⊢
  cases hf:E5 s.things x.name with
  | none=>simp only[hf] at hc;cases hc
  | some t=>
   simp only[hf] at hc ⊢
   have hk:t.kind=DI x.kind:=by
    split at hc
    ·cases hc
    ·split at hc
     ·cases hc
     ·rename_i h;simpa using h
   have hnm:t.name=x.name:=by
    have:=List.find?_some hf
    exact(LK this).symm
   have hu:QX s { s with rows:=E_ s.rows at_ t.num }:=⟨fun _ _ h=>h,fun _ _ h=>h,fun _ _ h=>h,fun _ _ h=>h,fun _ y h=>p_ h⟩
   have hs:=(h.things t (cW hf)).up hu
   rw[hk,hnm] at hs
   exact⟨h.up hu (fun i hi=>JL (by omega)) fun t ht=>.inl ht,hu,_,JB hx,fun h1=>absurd h1 d0,fun _=>hs⟩
theorem Kn {l:List AC} {E:List Int} {at_:Nat} {s:AP} (hat:at_<l.length) (hi:G9 l at_ s) (h:LQ l at_ s) (h0:(DE E at_ s).1=0):LQ l (at_+1) (DE E at_ s).2:=by
 obtain⟨x,hx⟩:∃ x,s.rows[at_]?=some x:=⟨_,List.getElem?_eq_getElem (by rw[hi.len];exact hat)⟩
 have hxl:l[at_]?=some x:=by rw[← hi.later at_ (Nat.le_refl _)];exact hx
 unfold DE at h0 ⊢
 rw[hx] at h0 ⊢
 simp only at h0 ⊢
 by_cases hd:DQ x s=0
 case neg=>rw[if_pos hd] at h0;exact absurd h0 hd
 rw[if_neg (by simpa using hd)] at h0 ⊢
 obtain⟨t1,k1,r1,a1,b1⟩:=wK (end_:=(E[at_]?).getD 0) h hx
 generalize BI at_ ((E[at_]?).getD 0) x s=s1 at *
 rw[r1] at h0 ⊢
 simp only at h0 ⊢
 by_cases hc:CJ at_ { x with n:=k1 } s1=0
 case neg=>rw[if_pos hc] at h0;exact absurd h0 hc
 rw[if_neg (by simpa using hc)] at h0 ⊢
 obtain⟨t2,u2,k2,r2,a2,b2⟩:=wY t1 r1 hc
 simp only at r2 a2 b2
 generalize BO at_ { x with n:=k1 } s1=s2 at *
 rw[r2] at h0 ⊢
 simp only at h0 ⊢
 by_cases hv:CV { x with n:=k2 } s2=0
 case neg=>rw[if_pos hv] at h0;exact absurd h0 hv
 rw[if_neg (by simpa using hv)] at h0 ⊢
 have hev:(CY at_ { x with n:=k2 } s2).queues=s2.queues∧(CY at_ { x with n:=k2 } s2).vars=s2.vars∧(CY at_ { x with n:=k2 } s2).tags=s2.tags∧(CY at_ { x with n:=k2 } s2).rules=s2.rules∧(CY at_ { x with n:=k2 } s2).rows=s2.rows∧(CY at_ { x with n:=k2 } s2).things=s2.things:=by
  unfold CY
  split
  ·exact⟨rfl,rfl,rfl,rfl,rfl,rfl⟩
  ·split <;> exact⟨rfl,rfl,rfl,rfl,rfl,rfl⟩
 obtain⟨e1,e2,e3,e4,e5,e6⟩:=hev
 generalize CY at_ { x with n:=k2 } s2=s3 at *
 have hu3:QX s2 s3:=⟨fun i y h=>by rw[e1];exact h,fun i y h=>by rw[e2];exact h,fun i y h=>by rw[e3];exact h,fun i y h=>by rw[e4];exact h,fun i y h=>⟨y,by rw[e5];exact h,rfl⟩⟩
 have t3:LQ l at_ s3:=t2.up hu3 (fun i _=>by rw[e5]) fun t ht=>.inl (by rw[← e6];exact ht)
 refine⟨fun i y hi' hy=>?_,t3.things⟩
 by_cases hia:i=at_
 ·subst hia
  rw[e5,r2] at hy
  cases hy
  simp only
  refine⟨fun h1=>?_,fun h1=>?_⟩
  ·obtain⟨h2,h3⟩:=Dg h1
   rw[a2 h2,a1 h3]
   exact hxl
  ·by_cases c0:DI x.kind=0
   ·have d0:BM x.kind≠0:=fun h2=>h1 (by unfold LH;omega)
    rw[show LH x.kind=BM x.kind by unfold LH;omega,a2 c0]
    exact((b1 d0).up u2).up hu3
   ·rw[show LH x.kind=DI x.kind by unfold LH;rw[My c0];omega]
    exact(b2 c0).up hu3
 ·exact t3.rows i y (by omega) hy
theorem j8 {l:List AC} {E:List Int} (ht:B8 l) (hE:∀ i:Nat,0≤(E[i]?).getD 0):∀ r at_ s,at_+r=l.length→G9 l at_ s→LQ l at_ s→(CE E r at_ s).1=0→LQ l l.length (CE E r at_ s).2.2
 | 0,at_,s,hr,hi,h,_=>by
  have:at_=l.length:=by omega
  subst this
  exact h
 | r+1,at_,s,hr,hi,h,h0=>by
  unfold CE at h0 ⊢
  by_cases h9:(DE E at_ s).1=0
  ·rw[if_neg (by simpa using h9)] at h0 ⊢
   exact j8 ht hE r (at_+1) _ (by omega) (TD ht (hE at_) (by omega) hi h9) (Kn (by omega) hi h h9) h0
  ·rw[if_pos h9] at h0
   exact absurd h0 h9
theorem qW {l:List AC} (h:(AU l).1.1=0):LQ l l.length (AU l).2:=by
 obtain⟨ht,_,hg,_,he,_⟩:=J8 h
 rw[he]
 exact j8 ht TF l.length 0 (BU l) (by omega) (PT l) ⟨fun i x hi=>by omega,fun t ht=>by simp[BU] at ht⟩ hg
theorem Si {x:AC} (h:DU AW x=true):(x.kind≠27→x.n=0)∧0≤x.n:=by
 unfold DU at h
 simp only[Bool.and_eq_true,Bool.or_eq_true,beq_iff_eq,decide_eq_true_eq] at h
 obtain⟨⟨⟨⟨⟨_,_⟩,_⟩,h1⟩,_⟩,_⟩:=h
 rcases h1 with h1 | ⟨⟨h1,h2⟩,_⟩
 ·exact⟨fun _=>h1,by omega⟩
 ·exact⟨fun h3=>absurd h1 h3,by omega⟩
theorem YA {l:List AC} (h:(AU l).1.1=0):A9 (AU l).2.rows=l:=by
 have hm:=qW h
 obtain⟨ht,_,_,_,_,hi⟩:=J8 h
 apply List.ext_getElem?
 intro i
 rw[A9,List.getElem?_map]
 rcases Nat.lt_or_ge i l.length with h1 | h1
 ·obtain⟨x,hx⟩:∃ x,(AU l).2.rows[i]?=some x:=⟨_,List.getElem?_eq_getElem (by rw[hi.len];exact h1)⟩
  obtain⟨y,hy,hxy⟩:=hi.same i x hx
  rw[hx,hy]
  simp only[Option.map_some,Option.some.injEq]
  have hkind:x.kind=y.kind:=by rw[hxy]
  unfold JC
  by_cases h27:x.kind=27
  ·rw[if_neg (by simpa using h27)]
   have:=(hm.rows i x h1 hx).1 (by rw[h27];rfl)
   rw[hy] at this
   exact(Option.some.inj this).symm
  ·rw[if_pos h27,hxy]
   have:=(Si (ht.row hy).1).1 (by rw[← hkind];exact h27)
   show { y with n:=0 }=y
   rw[← this]
 ·rw[List.getElem?_eq_none (by rw[hi.len];exact h1),List.getElem?_eq_none h1]
  rfl
theorem Sd {l:List AC} (h:(AU l).1.1=0):W5 (C6 l) (AU l).2:=by
 unfold W5
 rw[YA h,SX h]
 exact⟨h,jG _ _⟩
theorem SE {l:List AC} (h:(AU l).1.1=0):GR (C6 l) (AU l).2=0:=if_pos (Sd h)
structure IJ where
 on:List Int
 miss:Int
def zC:IJ:=⟨[],0⟩
def F8 (R:List AC) (e:Nat→Nat) (rd:List Int):List Int→List Int→List Int
 | [],S=>S
 | ru :: rest,S=>F8 R e rd rest (S++[A7 R e rd S ru.toNat])
def EF (R:List AC) (V:Nat→Int):Nat→Nat→IJ→(Int × Int) × IJ
 | 0,_,c=>((0,0),c)
 | r+1,at_,c=>match R[at_]? with
  | none=>((0,0),c)
  | some x=>if C2 x.kind=false then EF R V r (at_+1) c
   else if V (at_+1)>72057594037927936 then ((61,(at_:Int)),zC)
   else EF R V r (at_+1) (if x.kind=10 then ⟨c.on,V (at_+1)⟩ else ⟨c.on.set x.n.toNat (V (at_+1)),c.miss⟩)
open Classical in
noncomputable def DY (nm:ByteArray) (s:AP) (rd:List Int):(Int × Int) × IJ:=
 if GR nm s≠0 then ((GR nm s,0),zC)
 else if ¬ (rd.length=s.rows.length∧F7 rd) then ((43,0),zC)
 else EF s.rows (A7 s.rows (AG (A9 s.rows)) rd (F8 s.rows (AG (A9 s.rows)) rd s.rules [])) s.rows.length 0 ⟨List.replicate s.queues.length 0,0⟩
structure Jl (Z:List AC) (s:AP):Prop where
 t:B8 Z
 sk:GV s.rows Z
 kk:WU s.rows Z
 on:s.on.length=s.queues.length
 nq:s.queues.length≤16
 nr:s.rules.length≤64
 kindsG:∀ (i:Nat) (x:AC),s.rows[i]?=some x→1≤x.kind∧x.kind≤54
 rules:∀ (i:Nat) (ru:Int),s.rules[i]?=some ru→0≤ru∧ru.toNat<Z.length∧∀ S:List Int,S.length=i→U4 s.rows S ru.toNat (AG Z ru.toNat)
 evs:∀ (i:Nat) (x:AC),s.rows[i]?=some x→C2 x.kind=true→i+1<Z.length∧(x.kind≠10→0≤x.n∧x.n<s.on.length)
 calls:∀ (S:List Int) (p q:Nat),S.length=s.rules.length→U4 s.rows S p q
theorem tT (x:AC):(JC x).kind=x.kind∧(JC x).kids=x.kids:=by unfold JC;split <;> exact⟨rfl,rfl⟩
theorem uI {l:List AC} {i:Nat} {z:AC} (h:(A9 l)[i]?=some z):∃ x,l[i]?=some x∧z=JC x:=by
 unfold A9 at h
 rw[List.getElem?_map] at h
 cases hx:l[i]? with
 | none=>rw[hx] at h;cases h
 | some x=>rw[hx] at h;cases h;exact⟨x,rfl,rfl⟩
theorem Pt {nm:ByteArray} {s:AP} (h:GR nm s=0) (hlen:s.rows.length<2932031007403):Jl (A9 s.rows) s:=by
 have hm:W5 nm s:=by
  unfold GR at h
  split at h
  ·assumption
  ·cases h
 obtain⟨hok,hsame⟩:=hm
 rw[SX hok] at hsame
 obtain⟨_,e1,e2,e3,e4,e5,e6,e7⟩:=hsame
 simp only at e1 e2 e3 e4 e5 e6 e7
 obtain⟨ht,_,hgo,_,hres,hi⟩:=J8 hok
 have hzl:(A9 s.rows).length=s.rows.length:=by unfold A9;rw[List.length_map]
 have hL:PJ (A9 s.rows) (A9 s.rows).length (AU (A9 s.rows)).2:=by
  rw[hres]
  exact YL ht (A9 s.rows).length 0 (BU (A9 s.rows)) (by omega) (PT _) (bK _) hgo
 have hR:=tC ht (by omega) hi hL
 have hT:=qW hok
 have hw:=hi.wf
 have hq:=hw.q;have hu:=hw.u;have ho:=hw.o
 have hkinds:=UV ht hi
 have hevs:=fL ht hi
 generalize (AU (A9 s.rows)).2=s' at *
 have hc0:∀ (i:Nat) (x:AC),s.rows[i]?=some x→x.kind=22→0≤x.n∧x.n<s.rules.length:=fun i x hx h22=>by
  rw[e2] at hx
  rw[e6]
  exact hi.calls i x (by rw[← hi.len];exact(List.getElem?_eq_some_iff.1 hx).1) hx h22
 refine⟨ht,⟨hzl.symm,fun i z hz=>?_⟩,fun i z hz=>?_,by rw[e7,e3];exact ho,by rw[e3];omega,by rw[e6];omega,fun i x hx=>?_,fun i ru hru=>?_,fun i x hx hev=>?_,fun S p q hS i x _ _ hx h22=>by rw[hS];exact hc0 i x hx h22⟩
 ·obtain⟨x,hx,rfl⟩:=uI hz
  exact⟨x,hx,(tT x).2.symm⟩
 ·obtain⟨x,hx,rfl⟩:=uI hz
  exact⟨x,hx,(tT x).1.symm⟩
 ·rw[e2] at hx
  exact hkinds x (List.mem_of_getElem? hx)
 ·rw[e6] at hru
  have hb:=hi.rl ru (List.mem_of_getElem? hru)
  refine⟨hb.1,by omega,fun S hS j x h1 h2 hx h22=>⟨(hc0 j x hx h22).1,?_⟩⟩
  rw[hS]
  refine hR.ahead i ru hru x ?_ h22
  unfold blk
  rw[KR (by omega)]
  simp only[Option.getD_some,Int.toNat_natCast]
  rw[e2] at hx
  have:((s'.rows.drop ru.toNat).take (AG (A9 s.rows) ru.toNat-ru.toNat))[j-ru.toNat]?=some x:=by
   rw[List.getElem?_take_of_lt (by omega),List.getElem?_drop,show ru.toNat+(j-ru.toNat)=j by omega]
   exact hx
  exact List.mem_of_getElem? this
 ·rw[e2] at hx
  have h1:=hevs i x hx hev
  refine⟨by rw[← hi.len];exact h1,fun h10=>?_⟩
  have hk:DI x.kind=1∧BM x.kind=0:=eM hev h10
  have hs:LH x.kind=1:=by unfold LH;omega
  have:=(hT.rows i x (by rw[← hi.len];omega) hx).2 (by rw[hs];decide)
  rw[hs] at this
  obtain⟨h0,h2⟩:=this
  rcases h2 with⟨_,b,h2⟩ | ⟨h3,_⟩ | ⟨h3,_⟩ | ⟨h3,_⟩
  ·have:=(List.getElem?_eq_some_iff.1 h2).1
   rw[e7]
   omega
  ·omega
  ·omega
  ·omega
theorem bL {R:List AC} {e:Nat→Nat} {rd:List Int}:∀ (l S:List Int),(F8 R e rd l S).length=S.length+l.length
 | [],S=>rfl
 | ru :: l,S=>by
  show (F8 R e rd l (S++[_])).length=_
  rw[bL l,List.length_append,List.length_cons]
  simp only[List.length_cons,List.length_nil]
  omega
theorem RI {R:List AC} {e:Nat→Nat} {rd:List Int} (hr:F7 rd):∀ (l S:List Int),CZ S→CZ (F8 R e rd l S)
 | [],S,hs=>hs
 | ru :: l,S,hs=>RI hr l _ fun x hx=>by
  simp only[List.mem_append,List.mem_cons,List.not_mem_nil,or_false] at hx
  rcases hx with hx | rfl
  ·exact hs x hx
  ·exact QB hr hs _
theorem uH {R:List AC} {e:Nat→Nat} {rd:List Int}:∀ (i:Nat) (l S:List Int) {ru:Int},l[i]?=some ru→F8 R e rd (l.take (i+1)) S=F8 R e rd (l.take i) S++[A7 R e rd (F8 R e rd (l.take i) S) ru.toNat]
 | _,[],S,ru,h=>by simp at h
 | 0,r0 :: l,S,ru,h=>by cases h;rfl
 | i+1,r0 :: l,S,ru,h=>uH i l _ h
theorem cE {R:List AC} {V:Nat→Int}:∀ (r at_:Nat) (c:IJ),(EF R V r at_ c).2.on.length=c.on.length∨(EF R V r at_ c).2.on=[]
 | 0,_,c=>.inl rfl
 | r + 1,at_,c=>by
  unfold EF
  split
  ·exact .inl rfl
  ·rename_i x hx
   split
   ·exact cE r (at_+1) c
   ·split
    ·exact .inr rfl
    ·have:=cE (R:=R) (V:=V) r (at_+1) (if x.kind=10 then ⟨c.on,V (at_+1)⟩ else ⟨c.on.set x.n.toNat (V (at_+1)),c.miss⟩)
     have e:(if x.kind=10 then (⟨c.on,V (at_+1)⟩:IJ) else ⟨c.on.set x.n.toNat (V (at_+1)),c.miss⟩).on.length=c.on.length:=by split <;> simp
     rw[e] at this
     exact this
theorem SP:BQ Tryd.prog 65=some 2:=by kernel_rfl
theorem Od:FI Tryd.prog 65=some true:=by kernel_rfl
abbrev cV (v:Value) (m:Int):Value:=.agg #[v,iv m]
theorem QL:DV Tryd.prog 65=some (cV (Z0) 0):=by kernel_rfl
theorem ZA:flat (cV (Z0) 0)=true:=rfl
theorem mR:G7 Tryd.prog (match Tryd.prog.underlying 65 with | some (.struct fs)=>fs.toList | _=>[])=some [(0,1),(1,1)]:=by kernel_rfl
theorem U_:DB Tryd.prog 65 []=some (cV (Z0) 0):=by
 have h:=mR
 rw[Tryd.underlying65] at h
 simp only at h
 simp only[DB,QL,ZA,if_true,Tryd.underlying65,h]
 rfl
theorem vK {a:Option Addr} {n c:Nat}:DB Tryd.prog 65 [(0,.slice a n c)]=some (cV (.slice a n c) 0):=by
 have h:=mR
 rw[Tryd.underlying65] at h
 simp only at h
 simp only[DB,QL,ZA,if_true,Tryd.underlying65,h]
 rfl
theorem Rv:DV Tryd.prog 108=some (.agg #[.string ByteArray.empty,Z0,Z0,Z0,Z0,Z0,Z0,iv 0,Z0,Z0,Z0,Z0]):=by kernel_rfl
theorem Ae:G7 Tryd.prog (match Tryd.prog.underlying 108 with | some (.struct fs)=>fs.toList | _=>[])=some [(0,8),(8,3),(11,1)]:=by kernel_rfl
theorem Dh {nm:ByteArray} {vr vq vv vt vu vo a b c:Value} {m:Int}:DB Tryd.prog 108 [(0,.agg #[.string nm,vr,vq,vv,vt,vu,vo,iv m]),(1,.agg #[a,b,c])]=some (.agg #[.string nm,vr,vq,vv,vt,vu,vo,iv m,a,b,c,Z0]):=by
 have h:=Ae
 rw[Tryd.underlying108] at h
 simp only at h
 have hf:flat (.agg #[.string ByteArray.empty,Z0,Z0,Z0,Z0,Z0,Z0,iv 0,Z0,Z0,Z0,Z0])=true:=rfl
 simp only[DB,Rv,hf,if_true,Tryd.underlying108,h]
 rfl
section
variable {h:AA} {id off:Nat}
theorem eV:EL Tryd.prog h 65 (qP id off)=CB 2 off (h.get id):=MV Od SP
theorem QT:BC Tryd.prog 65 (qP id off) 0=some (qP id off):=by simp[BC,Tryd.underlying65,JI,CF]
theorem TU:BC Tryd.prog 65 (qP id off) 1=some (qP id (off+1)):=by simp[BC,Tryd.underlying65,CQ,CF]
end
def vcells (l:List (Int × Int × Int)):List Value:=l.flatMap fun x=>[iv x.1,iv x.2.1,iv x.2.2]
def QZ (lo:Nat) (h:AA) (tv:Value) (W:List (Int × Int × Int)) (G rd:List Int):Prop:=
 ∃ vv vg vr,tv=.agg #[vv,vg,vr]∧AZ lo h vv W.length 3 (vcells W)∧AK lo h vg G∧AK lo h vr rd
theorem QZ.mono {lo:Nat} {h h':AA} {tv:Value} {W:List (Int × Int × Int)} {G rd:List Int} (ht:QZ lo h tv W G rd) (hn:h.next≤h'.next) (hg:∀ i,lo≤i→i<h.next→h'.get i=h.get i):QZ lo h' tv W G rd:=by
 obtain⟨vv,vg,vr,h1,h2,h3,h4⟩:=ht
 exact⟨vv,vg,vr,h1,h2.mono hn hg,AK.mono h3 hn hg,AK.mono h4 hn hg⟩
def KX (lo:Nat) (h:AA) (cv:Value) (c:IJ):Prop:=
 ∃ vo,cv=cV vo c.miss∧((vo=Z0∧c.on=[])∨∃ id,vo=qS id c.on.length c.on.length∧lo≤id∧id<h.next∧h.get id=.row (ints c.on) 3 false false)
theorem KX.mono {lo:Nat} {h h':AA} {cv:Value} {c:IJ} (hc:KX lo h cv c) (hn:h.next≤h'.next) (hg:∀ i,lo≤i→i<h.next→h'.get i=h.get i):KX lo h' cv c:=by
 obtain⟨vo,h1,h2 | ⟨id,h2,h3,h4,h5⟩⟩:=hc
 ·exact⟨vo,h1,.inl h2⟩
 ·exact⟨vo,h1,.inr ⟨id,h2,h3,by omega,(hg id h3 h4).trans h5⟩⟩
theorem KX.weak {lo lo':Nat} {h:AA} {cv:Value} {c:IJ} (hc:KX lo h cv c) (hl:lo'≤lo):KX lo' h cv c:=by
 obtain⟨vo,h1,h2 | ⟨id,h2,h3,h4,h5⟩⟩:=hc
 ·exact⟨vo,h1,.inl h2⟩
 ·exact⟨vo,h1,.inr ⟨id,h2,by omega,h4,h5⟩⟩
theorem U5 (lo:Nat) (h:AA):KX lo h (cV (Z0) 0) zC:=⟨_,rfl,.inl ⟨rfl,rfl⟩⟩
def SY (h:AA) (nm:ByteArray) (s:AP) (rd:List Int) (v:Value) (h':AA):Prop:=
 ∃ cv,v=.tuple #[cv,FY (DY nm s rd).1.1 (DY nm s rd).1.2]∧KX h.next h' cv (DY nm s rd).2∧h'.floor=h.floor∧h.next≤h'.next∧∀ i,i<h.next→h'.get i=h.get i
noncomputable def mH:Array Oper:=DR Tryd.f41 16
def Sj:List (Bool × Bool × List Operand):=[FW,(true,false,[]),(true,false,[]),(true,false,[]),(true,false,[]),AN [.tmp 62],AN [.tmp 62],AN [.tmp 62],AN [.tmp 62],AL,AL,AL,AL]
theorem y_:DS mH=Sj:=by kernel_rfl
theorem Qe {R:List AC} {V:Nat→Int} {r at_:Nat} {c:IJ} {x:AC} (h:R[at_]?=some x):EF R V (r+1) at_ c=if C2 x.kind=false then EF R V r (at_+1) c
   else if V (at_+1)>72057594037927936 then ((61,(at_:Int)),zC)
   else EF R V r (at_+1) (if x.kind=10 then ⟨c.on,V (at_+1)⟩ else ⟨c.on.set x.n.toNat (V (at_+1)),c.miss⟩):=by
 conv=>lhs;unfold EF
 rw[h]
theorem HQ.one {h:AA} {lo:Nat} {v:Value} {l:List Int} (hl:HQ h lo v l):one v=true∧v.cells=#[v]:=by
 rcases hl with⟨rfl,_⟩ | ⟨id,c,rfl,_⟩ <;> exact⟨rfl,rfl⟩
section
variable {n N:Nat}
theorem Hm {nm:ByteArray} {s:AP} {W:List (Int × Int × Int)} {G rd:List Int} {pv tv:Value} {lo lt:Nat} {h:AA} (hp:C1 lo h pv nm s) (hlies:∀ nm' vr vq vv vt vu vo m,pv=.agg #[.string nm',vr,vq,vv,vt,vu,vo,m]→PK vr s.rows.length) (hty:QZ lt h tv W G rd) (hs:HV s) (hl:s.rows.length<2932031007403) (hrl:rd.length<2932031007403)
  (hfl:h.floor≤h.next) (hg:h.get 0=DZ) (hn0:0<h.next) (hn:2*HM s+300<n) (hN:HM s+rd.length+200<N) :
  ∃ v' h',A8 Tryd.prog (AX n) N 41 [pv,tv] h=some (v',h')∧SY h nm s rd v' h':=by
 have hsn:=(FM n).2
 refine M8 (R:=SY h nm s rd) Tryd.func41 rfl (by simp[Tryd.f41]) ?_
 have hr:Tryd.f41.results.toList=[.cell 4 65,.cell 5 33]:=rfl
 obtain⟨vr,vq,vv,vt,vu,vo,rfl,p1,p2,p3,p4,p5,p6⟩:=id hp
 obtain⟨tw,tg,td,rfl,y1,y2,y3⟩:=id hty
 have ca:=GJ [.string nm,vr,vq,vv,vt,vu,vo,iv s.miss]
 have oa:=K_ (nm:=nm) p1 p2 p3 p4 p5 p6
 have cy:=GJ [tw,tg,td]
 have oy:[tw,tg,td].all one=true:=by simp only[List.all_cons,List.all_nil,y1.one,AZ.one y2,AZ.one y3,Bool.and_self]
 have zcC:(cV (Z0) 0).cells.toList=[Z0,iv 0]:=rfl
 generalize hKK:B9.top (fun e s_1=>(e=DT.normal∨e=DT.ret)∧∃ vs,FA Tryd.prog s_1 Tryd.f41.results.toList=some vs∧SY h nm s rd (GW vs) s_1.h)=K
 have fin:∀ (T':Tr) (H':AA) vo' m e p,T'.get 4=qP (h.next+2) 0→T'.get 5=qP (h.next+3) 0→H'.get (h.next+2)=.row [vo',iv m] 65 false false→H'.get (h.next+3)=.row [iv e,iv p] 33 false false→KX h.next H' (cV vo' m) (DY nm s rd).2→(DY nm s rd).1=(e,p)→h.next≤H'.next→H'.floor=h.floor→(∀ i,i<h.next→H'.get i=h.get i)→K.ap Tryd.prog (AX n) N .ret ⟨T',H'⟩:=by
  intro T' H' vo' m e p t4 t5 g4 g5 hc he hnx hf hold
  have l4:CB 2 0 (H'.get (h.next+2))=some (cV vo' m):=by rw[g4];rfl
  have l5:CB 2 0 (H'.get (h.next+3))=some (FY e p):=by rw[g5];rfl
  rw[← hKK]
  simp only[eE,seval,↓eP,hr,t4,t5,eV,LX,l4,l5]
  exact⟨_,by rw[he],hc,hf,hnx,hold⟩
 obtain⟨gA,gB,gC,gD,nA,fA,oA⟩:=Mv h (.row [.string nm,vr,vq,vv,vt,vu,vo,iv s.miss] 30 false false) (.row [tw,tg,td] 70 false false) (.row [Z0,iv 0] 65 false false) (.row [iv 0,iv 0] 33 false false)
 simp only[eE,seval,↓eP,DG,DA,C9,ca,oa,cy,oy,HR,O4,QL,ZA,zcC,IA,IG,M0]
 generalize (((h.push (.row [.string nm,vr,vq,vv,vt,vu,vo,iv s.miss] 30 false false)).push (.row [tw,tg,td] 70 false false)).push (.row [Z0,iv 0] 65 false false)).push (.row [iv 0,iv 0] 33 false false)=A at *
 have lP:CB 8 0 (A.get h.next)=some (.agg #[.string nm,vr,vq,vv,vt,vu,vo,iv s.miss]):=M4 gA rfl
 have lY:CB 3 0 (A.get (h.next+1))=some (.agg #[tw,tg,td]):=by rw[gB];rfl
 have lY2:AS 2 (A.get (h.next+1))=some td:=by rw[gB];rfl
 have lP1:AS 1 (A.get h.next)=some vr:=by rw[gA];rfl
 have hpA:=hp.mono (h':=A) (by omega) fun i _ hi=>oA i hi
 have hchk:=Fh (n:=n) hpA hlies hs (by omega) (by omega) (by rw[oA 0 hn0];exact hg) (by omega) hn
 have st2:∀ (H:AA) vo' m e p,one vo'=true→H.get (h.next+2)=.row [Z0,iv 0] 65 false false→H.get (h.next+3)=.row [iv 0,iv 0] 33 false false→H.floor=h.floor→h.next+4≤H.next →
   ∃ H':AA × AA,BJ Tryd.prog H 65 (qP (h.next+2) 0) (cV vo' m)=some H'.1∧BJ Tryd.prog H'.1 33 (qP (h.next+3) 0) (FY e p)=some H'.2∧H'.2.get (h.next+2)=.row [vo',iv m] 65 false false∧H'.2.get (h.next+3)=.row [iv e,iv p] 33 false false∧H'.2.next=H.next∧H'.2.floor=H.floor∧∀ i,i≠h.next+2→i≠h.next+3→H'.2.get i=H.get i:=fun H vo' m e p ho g2 g3 hf hx=>by
  have a1:=H_ (t:=65) SP (vs:=[vo',iv m]) g2 rfl rfl (by simp only[List.all_cons,List.all_nil,ho,LE,Bool.and_self]) (by omega)
  have g3':(H.put (h.next+2) (.row [vo',iv m] 65 false false)).get (h.next+3)=.row [iv 0,iv 0] 33 false false:=by rw[AM (by omega) (by omega)];exact g3
  have a2:=H_ (t:=33) M7 (vs:=[iv e,iv p]) g3' rfl rfl rfl (by show H.floor≤_;omega)
  refine⟨⟨_,_⟩,a1,a2,?_,BN rfl (by show h.next+3<H.next;omega),rfl,rfl,fun i h1 h2=>?_⟩
  ·show ((H.put _ _).put _ _).get _=_
   rw[AM (by show h.next+3<H.next;omega) (by omega)]
   exact BN rfl (by omega)
  ·show ((H.put _ _).put _ _).get _=_
   rw[AM (by show h.next+3<H.next;omega) (Ne.symm h2),AM (by omega) (Ne.symm h1)]
 cases dc:(GR nm s != 0) with
 | true=>
  have hcn:GR nm s≠0:=by simpa using dc
  have hbn:DY nm s rd=((GR nm s,0),zC):=by unfold DY;rw[if_pos hcn]
  obtain⟨⟨H1,H2⟩,s1,s2,q1,q2,q3,q4,q5⟩:=st2 A (Z0) 0 (GR nm s) 0 rfl gC gD fA (by omega)
  simp only at s1 s2 q1 q2 q3 q4 q5
  simp only[eE,seval,↓eP,I1,lP,hchk,dc,U_,SA,s1,s2]
  exact fin _ _ _ _ _ _ (by simp only[eE,seval,↓eP,rP]) (by simp only[eE,seval,↓eP,rP]) q1 q2 (by rw[hbn];exact U5 _ _) (by rw[hbn]) (by omega) (by omega) fun i hi=>(q5 i (by omega) (by omega)).trans (oA i hi)
 | false=>
 have hck:GR nm s=0:=by simpa using dc
 have lenR:=fun h'=>dF p1.2 h'
 have lenD:=fun h'=>IX y3 h'
 cases dl:((rd.length:Int) != (s.rows.length:Int)) with
 | true=>
  have hne:rd.length≠s.rows.length:=fun e=>by rw[e] at dl;simp at dl
  have hbn:DY nm s rd=((43,0),zC):=by unfold DY;rw[if_neg (by rw[hck];decide),if_pos fun h9=>hne h9.1]
  obtain⟨⟨H1,H2⟩,s1,s2,q1,q2,q3,q4,q5⟩:=st2 A (Z0) 0 43 0 rfl gC gD fA (by omega)
  simp only at s1 s2 q1 q2 q3 q4 q5
  simp only[eE,seval,↓eP,Nat.zero_add,I1,lP,hchk,dc,TC,CX,lY2,lenD,CL,CK,lP1,lenR,dl,U_,SA,s1,s2]
  exact fin _ _ _ _ _ _ (by simp only[eE,seval,↓eP,rP]) (by simp only[eE,seval,↓eP,rP]) q1 q2 (by rw[hbn];exact U5 _ _) (by rw[hbn]) (by omega) (by omega) fun i hi=>(q5 i (by omega) (by omega)).trans (oA i hi)
 | false=>
 have hlen:rd.length=s.rows.length:=by
  have h9:(rd.length:Int)=(s.rows.length:Int):=by simpa using dl
  omega
 simp only[eE,seval,↓eP,Nat.zero_add,I1,lP,hchk,dc,TC,CX,lY2,lenD,CL,CK,lP1,lenR,dl]
 refine WK.loop (fun i s'=>s'.h=A∧s'.T.get 2=qP h.next 0∧s'.T.get 3=qP (h.next+1) 0∧s'.T.get 4=qP (h.next+2) 0∧s'.T.get 5=qP (h.next+3) 0∧s'.T.get 33=td∧s'.T.get 34=iv (rd.length:Int)∧s'.T.get 35=iv i∧i≤rd.length∧∀ x∈rd.take i,0≤x∧x≤4194304) rd.length (by omega) ?_ ?_
 ·exact⟨rfl,by simp only[eE,seval,↓eP,rP],by simp only[eE,seval,↓eP,rP],by simp only[eE,seval,↓eP,rP],by simp only[eE,seval,↓eP,rP],by simp only[eE,seval,↓eP,rP],by simp only[eE,seval,↓eP,rP],by simp only[eE,seval,↓eP,rP],by omega,fun x hx=>by simp at hx⟩
 rintro i ⟨T1,H1⟩ hi ⟨hH1,t2,t3,t4,t5,t33,t34,t35,hil,hrs⟩
 simp only at t2 t3 t4 t5 t33 t34 t35 hH1
 subst hH1
 have y3A:AK lt H1 td rd:=AK.mono y3 (by omega) fun i _ hi=>oA i hi
 by_cases hlt:i<rd.length
 ·have c1:decide ((i:Int)<(rd.length:Int))=true:=by simp;omega
  obtain⟨x,hx⟩:∃ x,rd[i]?=some x:=⟨_,List.getElem?_eq_getElem hlt⟩
  obtain⟨id,p,a1,a2,a3⟩:=AK.get y3A hx
  have bad:¬ (0≤x∧x≤4194304)→DY nm s rd=((43,0),zC):=fun h9=>by
   unfold DY
   rw[if_neg (by rw[hck];decide),if_pos fun h8=>h9 (h8.2 x (List.mem_of_getElem? hx))]
  obtain⟨⟨H2,H3⟩,s1,s2,q1,q2,q3,q4,q5⟩:=st2 H1 (Z0) 0 43 0 rfl gC gD fA (by omega)
  simp only at s1 s2 q1 q2 q3 q4 q5
  have w1:=DJ i (by omega)
  cases d1:decide (x<0) with
  | true=>
   have hbn:=bad (by have:=of_decide_eq_true d1;omega)
   simp only[eE,seval,↓eP,t4,t5,t33,t34,t35,c1,a1,A_,a3,d1,U_,SA,s1,s2]
   exact fin _ _ _ _ _ _ (by simp only[eE,seval,↓eP,rP,t4]) (by simp only[eE,seval,↓eP,rP,t5]) q1 q2 (by rw[hbn];exact U5 _ _) (by rw[hbn]) (by omega) (by omega) fun i hi=>(q5 i (by omega) (by omega)).trans (oA i hi)
  | false=>
  cases d2:decide (x>4194304) with
  | true=>
   have hbn:=bad (by have:=of_decide_eq_true d2;omega)
   simp only[eE,seval,↓eP,t4,t5,t33,t34,t35,c1,a1,A_,a3,d1,d2,U_,SA,s1,s2]
   exact fin _ _ _ _ _ _ (by simp only[eE,seval,↓eP,rP,t4]) (by simp only[eE,seval,↓eP,rP,t5]) q1 q2 (by rw[hbn];exact U5 _ _) (by rw[hbn]) (by omega) (by omega) fun i hi=>(q5 i (by omega) (by omega)).trans (oA i hi)
  | false=>
   simp only[eE,seval,↓eP,t2,t3,t4,t5,t33,t34,t35,c1,a1,A_,a3,d1,d2,w1]
   refine⟨hlt,hlt,fun z hz=>?_⟩
   rw[List.take_add_one,hx] at hz
   simp only[Option.toList_some,List.mem_append,List.mem_cons,List.not_mem_nil,or_false] at hz
   rcases hz with hz | rfl
   ·exact hrs z hz
   ·have:=of_decide_eq_false d1
    have:=of_decide_eq_false d2
    omega
 have c1:decide ((i:Int)<(rd.length:Int))=false:=by simp;omega
 have hRd:F7 rd:=by rw[List.take_of_length_le (by omega)] at hrs;exact hrs
 have hgood:=Pt hck (by omega)
 have hbn:DY nm s rd=EF s.rows (A7 s.rows (AG (A9 s.rows)) rd (F8 s.rows (AG (A9 s.rows)) rd s.rules [])) s.rows.length 0 ⟨List.replicate s.queues.length 0,0⟩:=by
  unfold DY
  rw[if_neg (by rw[hck];decide),if_neg fun h9=>h9 ⟨hlen,hRd⟩]
 clear hchk hil hi
 have hcb:=GJ [.string nm,vr,vq,vv,vt,vu,vo,iv s.miss,tw,tg,td,Z0]
 have hob:[.string nm,vr,vq,vv,vt,vu,vo,iv s.miss,tw,tg,td,Z0].all one=true:=by
  have h9:([.string nm,vr,vq,vv,vt,vu,vo,iv s.miss]++[tw,tg,td]++[Z0]:List Value).all one=true:=by rw[List.all_append,List.all_append,oa,oy];rfl
  exact h9
 have lP5:AS 5 (H1.get h.next)=some vu:=by rw[gA];rfl
 have lenU:=fun h'=>IX p5 h'
 have gBd:(H1.push (.row [.string nm,vr,vq,vv,vt,vu,vo,iv s.miss,tw,tg,td,Z0] 108 false false)).get H1.next=.row [.string nm,vr,vq,vv,vt,vu,vo,iv s.miss,tw,tg,td,Z0] 108 false false:=BP
 have oB:∀ i,i<h.next+4→(H1.push (.row [.string nm,vr,vq,vv,vt,vu,vo,iv s.miss,tw,tg,td,Z0] 108 false false)).get i=H1.get i:=fun i hi=>AT (by omega)
 have nB:(H1.push (.row [.string nm,vr,vq,vv,vt,vu,vo,iv s.miss,tw,tg,td,Z0] 108 false false)).next=h.next+5:=by rw[DL,nA]
 have fB:(H1.push (.row [.string nm,vr,vq,vv,vt,vu,vo,iv s.miss,tw,tg,td,Z0] 108 false false)).floor=h.floor:=by rw[DK,fA]
 have lP5B:AS 5 ((H1.push (.row [.string nm,vr,vq,vv,vt,vu,vo,iv s.miss,tw,tg,td,Z0] 108 false false)).get h.next)=some vu:=by rw[oB _ (by omega)];exact lP5
 simp only[eE,seval,↓eP,Nat.zero_add,t2,t3,t34,t35,c1,I1,lP,UH,lY,Dh,hcb,hob,Mh,GU,CX,lP5B,lenU]
 generalize H1.push (.row [.string nm,vr,vq,vv,vt,vu,vo,iv s.miss,tw,tg,td,Z0] 108 false false)=B at *
 unfold HM at hn hN
 have hsmall:=hs
 unfold HV at hsmall
 generalize hb:H1.next=b at *
 have hRl:(A9 s.rows).length=s.rows.length:=by unfold A9;rw[List.length_map]
 refine WK.loop (fun i s'=>s'.T.get 2=qP h.next 0∧s'.T.get 4=qP (h.next+2) 0∧s'.T.get 5=qP (h.next+3) 0∧s'.T.get 9=qP b 0∧s'.T.get 53=vu∧s'.T.get 54=iv (s.rules.length:Int)∧s'.T.get 55=iv i∧i≤s.rules.length∧h.next+5≤s'.h.next∧s'.h.floor=h.floor∧(∀ j,j<b→s'.h.get j=B.get j) ∧
  ∃ w,s'.h.get b=.row [.string nm,vr,vq,vv,vt,vu,vo,iv s.miss,tw,tg,td,w] 108 false false∧HQ s'.h (h.next+5) w (F8 s.rows (AG (A9 s.rows)) rd (s.rules.take i) [])) s.rules.length (by omega) ?_ ?_
 ·exact⟨by simp only[eE,seval,↓eP,rP,t2],by simp only[eE,seval,↓eP,rP,t4],by simp only[eE,seval,↓eP,rP,t5],by simp only[eE,seval,↓eP,rP],by simp only[eE,seval,↓eP,rP],by simp only[eE,seval,↓eP,rP],by simp only[eE,seval,↓eP,rP],by omega,by show h.next+5≤B.next;omega,fB,fun _ _=>rfl,Z0,gBd,.inl ⟨rfl,rfl⟩⟩
 rintro i ⟨T2,C⟩ hi ⟨t2,t4,t5,t9,t53,t54,t55,hil,m1,m2,m3,w,gw,hL⟩
 simp only at t2 t4 t5 t9 t53 t54 t55 m1 m2 m3 gw hL
 have oC:∀ j,j<h.next→C.get j=h.get j:=fun j hj=>by rw[m3 j (by omega),oB j (by omega),oA j hj]
 have lw:AS 11 (C.get b)=some w:=by rw[gw];rfl
 have hbC:MO C b vr td w s.rows rd (F8 s.rows (AG (A9 s.rows)) rd (s.rules.take i) []):=⟨by rw[gw];rfl,by rw[gw];rfl,lw,by omega,p1.1.mono (by omega) oC,AK.mono (AK.weak y3 (Nat.zero_le _)) (by omega) fun j _ hj=>oC j hj,HQ.ints hL (Nat.zero_le _)⟩
 have hSi:CZ (F8 s.rows (AG (A9 s.rows)) rd (s.rules.take i) []):=RI hRd _ _ fun x hx=>by simp at hx
 by_cases hlt:i<s.rules.length
 ·have c1:decide ((i:Int)<(s.rules.length:Int))=true:=by simp;omega
  obtain⟨ru,hru⟩:∃ ru,s.rules[i]?=some ru:=⟨_,List.getElem?_eq_getElem hlt⟩
  obtain⟨r0,r1,r2⟩:=hgood.rules i ru hru
  obtain⟨r,rfl⟩:∃ r:Nat,ru=(r:Int):=⟨ru.toNat,by omega⟩
  rw[Int.toNat_natCast] at r1 r2
  have hsub:=hgood.t.end r1
  have hsl:=hsub.lt
  have hSl:(F8 s.rows (AG (A9 s.rows)) rd (s.rules.take i) []).length=i:=by rw[bL,List.length_take];simp;omega
  obtain⟨iu,pu,a1,a2,a3⟩:=AK.get (AK.mono (AK.weak p5 (Nat.zero_le _)) (by omega) fun j _ hj=>oC j hj) hru
  have hbd:=uZ hgood.t hgood.sk hgood.kk hRd hlen hSi (by omega) s.rows.length n r _ (C.fl (max C.floor C.next)) hsub (by omega) (r2 _ hSl) (by omega) (hbC.mono (h':=C.fl (max C.floor C.next)) (Nat.le_refl _) fun _ _=>rfl) (by rw[C8,DD];omega)
  obtain⟨w',D,happ,hL',fD,nD,oD⟩:=ZE (x:=A7 s.rows (AG (A9 s.rows)) rd (F8 s.rows (AG (A9 s.rows)) rd (s.rules.take i) []) r) hL m1 (by omega) (by omega)
  have hst:=F5 (off:=11) (v:=w') JI hL'.one.2 hL'.one.1 ((oD b (by omega)).trans gw) (by show 11<12;omega) (by omega)
  have hst':BJ Tryd.prog D 28 (qP b 11) w'=some (D.put b (.row [.string nm,vr,vq,vv,vt,vu,vo,iv s.miss,tw,tg,td,w'] 108 false false)):=hst
  have bT:(b<C.next)=True:=by simp;omega
  have hff:C.fl C.floor=C:=rfl
  have hfD:∀ o,(D.put b o).fl C.floor=D.put b o:=fun o=>by rw[show C.floor=(D.put b o).floor by show C.floor=D.floor;omega];rfl
  have hfD':D.fl C.floor=D:=by rw[show C.floor=D.floor by omega];rfl
  have w1:=DJ i (by omega)
  simp only[eE,seval,↓eP,t53,t54,t55,c1,a1,A_,a3]
  refine WK.flags (ops:=mH) y_ ?_
  refine BV.begin ?_
  refine AF hsn 0 (some 59) (.move (.tmp 9)) none ?_
  simp only[rG,seval,AB,AE,AD,hff,t9,Nat.zero_add]
  refine AF hsn 1 (some 60) (.move (.tmp 9)) none ?_
  simp only[rG,seval,AB,AE,AD,hff,t9]
  refine AF hsn 2 (some 61) (.nilCheck (.tmp 60)) none ?_
  simp only[rG,seval,AB,AE,AD,hff]
  refine AF hsn 3 (some 62) (.fieldAddr 108 (.tmp 61) 2) none ?_
  simp only[rG,seval,AB,AE,AD,Nat.zero_add,hff,aA,Nat.zero_add]
  refine AF hsn 4 (some 63) (.load 28 (.tmp 62)) none ?_
  simp only[rG,seval,AB,AE,AD,B_,hff,bT,lw,CX]
  refine AF hsn 5 (some 64) (.move (.tmp 9)) none ?_
  simp only[rG,seval,AB,AE,AD,hff,t9]
  refine AF hsn 6 (some 65) (.move (.tmp 11)) none ?_
  simp only[rG,seval,AB,AE,AD,hff]
  refine AF hsn 7 (some 66) (.call { callee:=.value (.func 77),args:=#[.tmp 64,.tmp 65],argTypes:=#[106,3] }) none ?_
  simp only[rG,seval,AB,AE,AD,CO,hff,hbd,D4]
  refine AF hsn 8 (some 67) (.buildSlice 28 1 #[(0,.tmp 66)]) none ?_
  simp only[rG,seval,AB,AE,AD,List.map_cons,List.map_nil,hff,K9,EE]
  refine AF hsn 9 (some 68) (.call { callee:=.builtin .append,args:=#[.tmp 63,.tmp 67],argTypes:=#[28,28] }) none ?_
  simp only[rG,seval,AB,AE,AD,CO,DK,happ,hfD']
  refine AF hsn 10 (some 69) (.nilCheck (.tmp 59)) none ?_
  simp only[rG,seval,AB,AE,AD]
  refine AF hsn 11 (some 70) (.fieldAddr 108 (.tmp 69) 2) none ?_
  simp only[rG,seval,AB,AE,AD,Nat.zero_add,aA,Nat.zero_add]
  refine AF hsn 12 (none) (.store 28 (.tmp 70) (.tmp 68)) none ?_
  simp only[rG,seval,AB,AE,AD,DO,ED,NI,hst',QH]
  refine BV.done (i:=13) (by kernel_rfl) ?_
  simp only[eE,seval,↓eP,t2,t4,t5,t9,t53,t54,t55,w1]
  refine⟨hlt,by omega,by show h.next+5≤D.next;omega,by show D.floor=_;omega,fun j hj=>?_,w',BN rfl (by omega),?_⟩
  ·rw[AM (by omega) (by omega),oD j (by omega)]
   exact m3 j hj
  ·rw[uH i _ _ hru,Int.toNat_natCast]
   exact hL'.mono (Nat.le_refl _) fun j h1 h2=>AM (by omega) (by omega)
 have c2:decide ((i:Int)<(s.rules.length:Int))=false:=by simp;omega
 rw[List.take_of_length_le (show s.rules.length≤i by omega)] at hL hbC hSi
 have hSl:(F8 s.rows (AG (A9 s.rows)) rd s.rules []).length=s.rules.length:=by rw[bL];simp
 have hcalls:=fun p q=>hgood.calls _ p q hSl
 generalize F8 s.rows (AG (A9 s.rows)) rd s.rules []=S at *
 have lP2:AS 2 (C.get h.next)=some vq:=by rw[m3 _ (by omega),oB _ (by omega),gA];rfl
 have lP1C:AS 1 (C.get h.next)=some vr:=by rw[m3 _ (by omega),oB _ (by omega)];exact lP1
 have gC2:C.get (h.next+2)=.row [Z0,iv 0] 65 false false:=by rw[m3 _ (by omega),oB _ (by omega)];exact gC
 have gD2:C.get (h.next+3)=.row [iv 0,iv 0] 33 false false:=by rw[m3 _ (by omega),oB _ (by omega)];exact gD
 have lenQ:=fun h'=>OT p2 h'
 have hmk:=OH (h:=C) (n:=s.queues.length) (by omega)
 have g1:∀ (a:BE) (x y:List Value),let D:=((C.push a).push (.row x 65 false false)).put (C.next+1) (.row y 65 false false)
   D.get C.next=a∧D.get (C.next+1)=.row y 65 false false∧D.next=C.next+2∧D.floor=C.floor∧∀ i,i<C.next→D.get i=C.get i:=fun a x y=>by
  have q1:(C.push a).next=C.next+1:=rfl
  have q2:((C.push a).push (.row x 65 false false)).next=C.next+2:=rfl
  refine⟨?_,BN rfl (by omega),rfl,rfl,fun i hi=>?_⟩
  ·rw[AM (by omega) (by omega),AT (by omega),BP]
  ·rw[AM (by omega) (by omega),AT (by omega),AT hi]
 obtain⟨gon,gco,nD,fD,oD⟩:=g1 (.row (ints (List.replicate s.queues.length 0)) 3 false false) [Z0,iv 0] [qS C.next s.queues.length s.queues.length,iv 0]
 have hstc:=H_ (t:=65) SP (h:=(C.push (.row (ints (List.replicate s.queues.length 0)) 3 false false)).push (.row [Z0,iv 0] 65 false false)) (id:=C.next+1) (vs:=[qS C.next s.queues.length s.queues.length,iv 0]) (cs:=[Z0,iv 0]) (ty:=65) (g:=false) (by exact BP (h:=C.push _)) rfl rfl rfl (by show C.floor≤_;omega)
 have hstc':BJ Tryd.prog ((C.push (.row (ints (List.replicate s.queues.length 0)) 3 false false)).push (.row [Z0,iv 0] 65 false false)) 65 (qP (C.next+1) 0) (cV (qS C.next s.queues.length s.queues.length) 0)=_:=hstc
 have lP1D:AS 1 ((((C.push (.row (ints (List.replicate s.queues.length 0)) 3 false false)).push (.row [Z0,iv 0] 65 false false)).put (C.next+1) (.row [qS C.next s.queues.length s.queues.length,iv 0] 65 false false)).get h.next)=some vr:=by rw[oD _ (by omega)];exact lP1C
 simp only[eE,seval,↓eP,Nat.zero_add,t2,t54,t55,c2,FB,FL,lP2,lenQ,hmk,vK,QL,ZA,zcC,DL,hstc',CL,CK,lP1D,lenR]
 generalize ((C.push (.row (ints (List.replicate s.queues.length 0)) 3 false false)).push (.row [Z0,iv 0] 65 false false)).put (C.next+1) (.row [qS C.next s.queues.length s.queues.length,iv 0] 65 false false)=D at *
 refine WK.loop (fun i s'=>s'.T.get 4=qP (h.next+2) 0∧s'.T.get 5=qP (h.next+3) 0∧s'.T.get 9=qP b 0∧s'.T.get 12=qP (C.next+1) 0∧s'.T.get 78=vr∧s'.T.get 79=iv (s.rows.length:Int)∧s'.T.get 80=iv i∧i≤s.rows.length∧C.next+2≤s'.h.next∧s'.h.floor=h.floor∧(∀ j,j<C.next→s'.h.get j=C.get j) ∧
  ∃ c:IJ,c.on.length=s.queues.length∧s'.h.get C.next=.row (ints c.on) 3 false false∧s'.h.get (C.next+1)=.row [qS C.next s.queues.length s.queues.length,iv c.miss] 65 false false∧EF s.rows (A7 s.rows (AG (A9 s.rows)) rd S) (s.rows.length-i) i c=EF s.rows (A7 s.rows (AG (A9 s.rows)) rd S) s.rows.length 0 ⟨List.replicate s.queues.length 0,0⟩) s.rows.length (by omega) ?_ ?_
 ·exact⟨by simp only[eE,seval,↓eP,rP,t4],by simp only[eE,seval,↓eP,rP,t5],by simp only[eE,seval,↓eP,rP,t9],by simp only[eE,seval,↓eP,rP],by simp only[eE,seval,↓eP,rP],by simp only[eE,seval,↓eP,rP],by simp only[eE,seval,↓eP,rP],by omega,by show C.next+2≤D.next;omega,by show D.floor=_;omega,oD,⟨List.replicate s.queues.length 0,0⟩,List.length_replicate ..,gon,gco,rfl⟩
 rintro k ⟨T3,E⟩ hk ⟨t4,t5,t9,t12,t78,t79,t80,hkl,k1,k2,k3,c,hcl,gon,gco,hgo⟩
 simp only at t4 t5 t9 t12 t78 t79 t80 k1 k2 k3 gon gco
 have oE:∀ j,j<h.next→E.get j=h.get j:=fun j hj=>by rw[k3 j (by omega),oC j hj]
 have hbE:MO E b vr td w s.rows rd S:=hbC.mono (by omega) fun j hj=>by
  rw[k3 j hj]
 have gCE:E.get (h.next+2)=.row [Z0,iv 0] 65 false false:=by rw[k3 _ (by omega)];exact gC2
 have gDE:E.get (h.next+3)=.row [iv 0,iv 0] 33 false false:=by rw[k3 _ (by omega)];exact gD2
 by_cases hlk:k<s.rows.length
 ·have c3:decide ((k:Int)<(s.rows.length:Int))=true:=by simp;omega
  obtain⟨x,hx⟩:∃ x,s.rows[k]?=some x:=⟨_,List.getElem?_eq_getElem hlk⟩
  obtain⟨idr,pr,b0,bid,l0,l1,l2,l3,l4,lr⟩:=hbE.rows.row hx
  have hzx:(Value.agg #[iv 0,.string ByteArray.empty,iv 0,iv 0,iv 0]).cells.toList=AI EI:=rfl
  have hst:BJ Tryd.prog (E.push (.row (AI EI) 46 false false)) 46 (qP E.next 0) (DN x)=some ((E.push (.row (AI EI) 46 false false)).put E.next (.row (AI x) 46 false false)):=UJ (i:=0) (off:=0) (L:=[EI]) rfl BP (by decide) (by rw[DK];omega)
  have gX:((E.push (.row (AI EI) 46 false false)).put E.next (.row (AI x) 46 false false)).get E.next=.row (AI x) 46 false false:=BN rfl (by rw[DL];omega)
  have oX:∀ i,i<E.next→((E.push (.row (AI EI) 46 false false)).put E.next (.row (AI x) 46 false false)).get i=E.get i:=fun i hi=>by rw[AM (by rw[DL];omega) (by omega),AT hi]
  have nX:((E.push (.row (AI EI) 46 false false)).put E.next (.row (AI x) 46 false false)).next=E.next+1:=rfl
  have fX:((E.push (.row (AI EI) 46 false false)).put E.next (.row (AI x) 46 false false)).floor=E.floor:=rfl
  have hlx0:AS 0 (((E.push (.row (AI EI) 46 false false)).put E.next (.row (AI x) 46 false false)).get E.next)=some (iv x.kind):=by rw[gX];rfl
  have w1:=DJ k (by omega)
  have hr1:s.rows.length-k=(s.rows.length-(k+1))+1:=by omega
  rw[hr1,Qe hx] at hgo
  have keepC:∀ G:AA,(∀ i,i<E.next→G.get i=E.get i)→(∀ j,j<C.next→G.get j=C.get j)∧G.get C.next=.row (ints c.on) 3 false false∧G.get (C.next+1)=.row [qS C.next s.queues.length s.queues.length,iv c.miss] 65 false false:=fun G hG=>
   ⟨fun j hj=>(hG j (by omega)).trans (k3 j hj),(hG _ (by omega)).trans gon,(hG _ (by omega)).trans gco⟩
  have notEv:C2 x.kind=false→k<s.rows.length∧k+1≤s.rows.length∧C.next+2≤((E.push (.row (AI EI) 46 false false)).put E.next (.row (AI x) 46 false false)).next∧((E.push (.row (AI EI) 46 false false)).put E.next (.row (AI x) 46 false false)).floor=h.floor∧(∀ j,j<C.next→((E.push (.row (AI EI) 46 false false)).put E.next (.row (AI x) 46 false false)).get j=C.get j) ∧
    ∃ c:IJ,c.on.length=s.queues.length∧((E.push (.row (AI EI) 46 false false)).put E.next (.row (AI x) 46 false false)).get C.next=.row (ints c.on) 3 false false∧((E.push (.row (AI EI) 46 false false)).put E.next (.row (AI x) 46 false false)).get (C.next+1)=.row [qS C.next s.queues.length s.queues.length,iv c.miss] 65 false false∧EF s.rows (A7 s.rows (AG (A9 s.rows)) rd S) (s.rows.length-(k+1)) (k+1) c=EF s.rows (A7 s.rows (AG (A9 s.rows)) rd S) s.rows.length 0 ⟨List.replicate s.queues.length 0,0⟩:=fun hne=>by
   obtain⟨q1,q2,q3⟩:=keepC _ oX
   rw[if_pos hne] at hgo
   exact⟨hlk,by omega,by omega,by omega,q1,c,hcl,q2,q3,hgo⟩
  cases d8:decide (x.kind<8) with
  | true=>
   have hne:C2 x.kind=false:=by
    have:=of_decide_eq_true d8
    unfold C2
    rw[decide_eq_false (by omega)]
    rfl
   simp only[eE,seval,↓eP,t4,t5,t9,t12,t78,t79,t80,c3,b0,ID,lr,GO,hzx,C9,LW,PW,Bool.and_self,hst,DP,A_,hlx0,d8,w1]
   exact notEv hne
  | false=>
  cases d10:decide (x.kind>10) with
  | true=>
   have hne:C2 x.kind=false:=by
    have:=of_decide_eq_true d10
    unfold C2
    rw[decide_eq_false (show ¬ x.kind≤10 by omega),Bool.and_false]
   simp only[eE,seval,↓eP,t4,t5,t9,t12,t78,t79,t80,c3,b0,ID,lr,GO,hzx,C9,LW,PW,Bool.and_self,hst,DP,A_,hlx0,d8,d10,w1]
   exact notEv hne
  | false=>
  have hev:C2 x.kind=true:=by
   have:=of_decide_eq_false d8
   have:=of_decide_eq_false d10
   unfold C2
   rw[decide_eq_true (show x.kind≥8 by omega),decide_eq_true (show x.kind≤10 by omega)]
   rfl
  rw[if_neg (by rw[hev];decide)] at hgo
  obtain⟨v1,v2⟩:=hgood.evs k x hx hev
  have hsub:=hgood.t.end v1
  have hsl:=hsub.lt
  have w2:IntKind.i64.wrap ((k:Int)+1)=((k+1:Nat):Int):=w1
  have hlx3:AS 3 (((E.push (.row (AI EI) 46 false false)).put E.next (.row (AI x) 46 false false)).get E.next)=some (iv x.n):=by rw[gX];rfl
  have vle:=QB (R:=s.rows) (e:=AG (A9 s.rows)) (at_:=k+1) hRd hSi
  simp only[eE,seval,↓eP,t9,t78,t79,t80,c3,b0,ID,lr,GO,hzx,C9,LW,PW,Bool.and_self,hst,DP,A_,hlx0,d8,d10,w1]
  generalize (E.push (.row (AI EI) 46 false false)).put E.next (.row (AI x) 46 false false)=X at *
  obtain⟨kk1,kk2,kk3⟩:=keepC X oX
  have hbd:=uZ hgood.t hgood.sk hgood.kk hRd hlen hSi (by omega) s.rows.length n (k+1) _ X hsub (by omega) (hcalls _ _) (by omega) (hbE.mono (by omega) oX) (by omega)
  cases dm:decide (A7 s.rows (AG (A9 s.rows)) rd S (k+1)>72057594037927936) with
  | true=>
   rw[if_pos (of_decide_eq_true dm)] at hgo
   rw[← hgo] at hbn
   obtain⟨⟨H2,H3⟩,s1,s2,q1,q2,q3,q4,q5⟩:=st2 X (Z0) 0 61 k rfl (by rw[oX _ (by omega)];exact gCE) (by rw[oX _ (by omega)];exact gDE) (by omega) (by omega)
   simp only at s1 s2 q1 q2 q3 q4 q5
   simp only[eE,seval,↓eP,t4,t5,hbd,dm,U_,OL,s1,s2]
   exact fin _ _ _ _ _ _ (by simp only[eE,seval,↓eP,rP,t4]) (by simp only[eE,seval,↓eP,rP,t5]) q1 q2 (by rw[hbn];exact U5 _ _) (by rw[hbn]) (by omega) (by omega) fun i hi=>by rw[q5 i (by omega) (by omega),oX i (by omega),oE i hi]
  | false=>
  rw[if_neg (of_decide_eq_false dm)] at hgo
  have ET:(E.next<X.next)=True:=by simp;omega
  cases de:(x.kind==10) with
  | true=>
   have h10:x.kind=10:=by simpa using de
   rw[if_pos h10] at hgo
   have hst2:=F5 (off:=1) (t:=3) (v:=iv (A7 s.rows (AG (A9 s.rows)) rd S (k+1))) CQ rfl rfl kk3 (by show 1<2;decide) (by omega)
   have hst3:BJ Tryd.prog X 3 (qP (C.next+1) 1) (iv (A7 s.rows (AG (A9 s.rows)) rd S (k+1)))=some (X.put (C.next+1) (.row [qS C.next s.queues.length s.queues.length,iv (A7 s.rows (AG (A9 s.rows)) rd S (k+1))] 65 false false)):=hst2
   simp only[eE,seval,↓eP,t4,t5,t9,t12,t78,t79,t80,hbd,dm,DP,A_,hlx0,de,Nat.zero_add,TU,hst3,w1]
   refine⟨hlk,by omega,by show C.next+2≤X.next;omega,by show X.floor=_;omega,fun j hj=>by rw[AM (by omega) (by omega)];exact kk1 j hj,⟨c.on,A7 s.rows (AG (A9 s.rows)) rd S (k+1)⟩,hcl,by rw[AM (by omega) (by omega)];exact kk2,BN rfl (by omega),hgo⟩
  | false=>
   have h10:x.kind≠10:=by simpa using de
   rw[if_neg h10] at hgo
   obtain⟨v3,v4⟩:=v2 h10
   obtain⟨kn,hkn⟩:∃ kn:Nat,x.n=(kn:Int):=⟨x.n.toNat,by omega⟩
   have hon:=hgood.on
   rw[hkn] at hlx3 v4
   rw[hkn,Int.toNat_natCast] at hgo
   have lon:AS 0 (X.get (C.next+1))=some (qS C.next s.queues.length s.queues.length):=by rw[kk3];rfl
   have ix:=GQ (id:=C.next) (n:=s.queues.length) (c:=s.queues.length) (i:=kn) (by omega)
   have hst3:=MG (x:=A7 s.rows (AG (A9 s.rows)) rd S (k+1)) kk2 (show kn<c.on.length by omega) (by omega)
   simp only[eE,seval,↓eP,t4,t5,t9,t12,t78,t79,t80,hbd,dm,DP,A_,hlx0,de,Nat.zero_add,QT,CX,lon,JP,hlx3,ix,hst3,w1]
   refine⟨hlk,by omega,by show C.next+2≤X.next;omega,by show X.floor=_;omega,fun j hj=>by rw[AM (by omega) (by omega)];exact kk1 j hj,⟨c.on.set kn (A7 s.rows (AG (A9 s.rows)) rd S (k+1)),c.miss⟩,by rw[List.length_set];exact hcl,BN rfl (by omega),by rw[AM (by omega) (by omega)];exact kk3,hgo⟩
 ·have c3:decide ((k:Int)<(s.rows.length:Int))=false:=by simp;omega
  rw[show s.rows.length-k=0 by omega] at hgo
  have hgo':EF s.rows (A7 s.rows (AG (A9 s.rows)) rd S) s.rows.length 0 ⟨List.replicate s.queues.length 0,0⟩=((0,0),c):=hgo.symm
  rw[hgo'] at hbn
  have lco:CB 2 0 (E.get (C.next+1))=some (cV (qS C.next s.queues.length s.queues.length) c.miss):=by rw[gco];rfl
  obtain⟨⟨H2,H3⟩,s1,s2,q1,q2,q3,q4,q5⟩:=st2 E (qS C.next s.queues.length s.queues.length) c.miss 0 0 rfl gCE gDE k2 (by omega)
  simp only at s1 s2 q1 q2 q3 q4 q5
  simp only[eE,seval,↓eP,t4,t5,t12,t79,t80,c3,eV,lco,UQ,s1,s2]
  exact fin _ _ _ _ _ _ (by simp only[eE,seval,↓eP,rP,t4]) (by simp only[eE,seval,↓eP,rP,t5]) q1 q2 (by rw[hbn];exact⟨_,rfl,.inr ⟨C.next,by rw[hcl],by omega,by omega,(q5 _ (by omega) (by omega)).trans gon⟩⟩) (by rw[hbn]) (by omega) (by omega) fun i hi=>by rw[q5 i (by omega) (by omega),oE i hi]
theorem Af {h h1:AA} {nm:ByteArray} {s:AP} {rd:List Int} {v:Value} (hf:FO v=true) (ht:SY h nm s rd v h1):SY h nm s rd v h:=by
 obtain⟨cv,rfl,⟨vo,rfl,h2⟩,_⟩:=ht
 refine⟨_,rfl,⟨vo,rfl,?_⟩,rfl,Nat.le_refl _,fun _ _=>rfl⟩
 rcases h2 with h2 | ⟨id,rfl,_⟩
 ·exact .inl h2
 ·simp[FO,flat,B7] at hf
theorem Ar {nm:ByteArray} {s:AP} {W:List (Int × Int × Int)} {G rd:List Int} {pv tv:Value} {lo lt:Nat} {h:AA} (hp:C1 lo h pv nm s) (hlies:∀ nm' vr vq vv vt vu vo m,pv=.agg #[.string nm',vr,vq,vv,vt,vu,vo,m]→PK vr s.rows.length) (hty:QZ lt h tv W G rd) (hs:HV s) (hl:s.rows.length<2932031007403) (hrl:rd.length<2932031007403)
  (hfl:h.floor≤h.next) (hg:h.get 0=DZ) (hn0:0<h.next) (hn:2*HM s+rd.length+400<n):∃ v' h',AX n 41 [pv,tv] h=some (v',h')∧SY h nm s rd v' h':=by
 obtain⟨n,rfl⟩:∃ j,n=j+1:=⟨n-1,by omega⟩
 exact NG (CN ⟨rfl,rfl,rfl⟩) (Hm (n:=n) (N:=n) hp hlies hty hs hl hrl hfl hg hn0 (by omega) (by omega)) fun v' h1 hf _ ht=>Af hf ht
end
theorem RM:flat (.agg #[Z0,Z0,Z0])=true:=rfl
noncomputable def Z9:Array Oper:=DR Tryd.f42 7
def Sq:List (Bool × Bool × List Operand):=[AY,AY,AN [.tmp 32],AN [.tmp 32],AN [.tmp 32],AN [.tmp 32],AN [.tmp 32],AN [.tmp 32],AN [.tmp 32],AN [.tmp 32],AL,AL]
theorem vC:DS Z9=Sq:=by kernel_rfl
theorem Fp:G7 Tryd.prog (match Tryd.prog.underlying 70 with | some (.struct fs)=>fs.toList | _=>[])=some [(0,1),(1,1),(2,1)]:=by kernel_rfl
theorem iZ {a:Option Addr} {n c:Nat}:DB Tryd.prog 70 [(2,.slice a n c)]=some (.agg #[Z0,Z0,.slice a n c]):=by
 have h:=Fp
 rw[Tryd.underlying70] at h
 simp only at h
 simp only[DB,R6,RM,if_true,Tryd.underlying70,h]
 rfl
section
variable {n N:Nat} {h:AA}
end
theorem YB {a b c d:Int} (h1:a≤c) (h2:b≤d):BF a b≤BF c d:=by
 unfold BF
 split <;> split <;> omega
theorem jE {a b:Int} (ha:0≤a∧a≤4611686018427387904) (hb:0≤b∧b≤4611686018427387904):KH a b=if a*b>4611686018427387904 then 4611686018427387904 else a*b:=by
 unfold KH
 by_cases h1:0<a
 ·have hd:b>4611686018427387904/a↔a*b>4611686018427387904:=by
   have:=Int.ediv_lt_iff_lt_mul (a:=4611686018427387904) (b:=b) (c:=a) (by omega)
   rw[Int.mul_comm a b]
   exact this
  by_cases h3:a*b>4611686018427387904
  ·rw[if_pos h3,if_pos ⟨by omega,hd.2 h3⟩]
  ·rw[if_neg h3,if_neg (fun h=>h3 (hd.1 h.2))]
 ·have e:a=0:=by omega
  subst e
  rw[Int.zero_mul,if_neg (by omega),if_neg (by decide)]
theorem Iy {a b c d:Int} (ha:0≤a∧a≤4611686018427387904) (hb:0≤b∧b≤4611686018427387904) (hc:c≤4611686018427387904) (hd:d≤4611686018427387904) (h1:a≤c) (h2:b≤d):KH a b≤KH c d:=by
 rw[jE ha hb,jE ⟨by omega,hc⟩ ⟨by omega,hd⟩]
 have:a*b≤c*d:=Int.mul_le_mul h1 h2 hb.1 (by omega)
 split <;> split <;> omega
theorem sJ {f g:Nat→Int}:∀ (ks:List Nat) (a b:Int),a≤b→(∀ k∈ks,f k≤g k)→(ks.map f).foldl BF a≤(ks.map g).foldl BF b
 | [],a,b,h,_=>h
 | k :: ks,a,b,h,hk=>sJ ks _ _ (YB h (hk k (by simp))) fun j hj=>hk j (by simp[hj])
theorem fU {f g:Nat→Int} {ks:List Nat} (hk:∀ k∈ks,f k≤g k) (i:Nat):IC (ks.map f) i≤IC (ks.map g) i:=by
 unfold IC
 rw[List.getElem?_map,List.getElem?_map]
 cases h:ks[i]? with
 | none=>exact Int.le_refl _
 | some k=>exact hk k (List.mem_of_getElem? h)
theorem Le {k:Int} {f g:Nat→Int} {ks:List Nat} {r r' q q':Int} (hk:∀ j∈ks,f j≤g j) (hf:CZ (ks.map f)) (hg:CZ (ks.map g)) (hr:0≤r∧r≤4611686018427387904) (hr':r'≤4611686018427387904) (h1:r≤r') (h2:q≤q'):I0 k (ks.map f) r q≤I0 k (ks.map g) r' q':=by
 have v0:=fU hk 0
 have v1:=fU hk 1
 have v2:=fU hk 2
 unfold I0
 by_cases h24:k=24
 ·rw[if_pos h24,if_pos h24]
  exact Int.le_refl _
 rw[if_neg h24,if_neg h24]
 refine YB ?_ (Int.le_refl _)
 by_cases h12:k=12
 ·rw[if_pos h12,if_pos h12]
  refine YB v0 ?_
  split <;> split <;> omega
 rw[if_neg h12,if_neg h12]
 by_cases h13:k=13
 ·rw[if_pos h13,if_pos h13]
  have f1:=QC hf 1;have f2:=QC hf 2;have g1:=QC hg 1;have g2:=QC hg 2
  exact Iy hr (IN f1.1 f2.1 f2.2) hr' (IN g1.1 g2.1 g2.2).2 h1 (YB v1 v2)
 rw[if_neg h13,if_neg h13]
 by_cases h22:k=22
 ·rw[if_pos h22,if_pos h22]
  exact h2
 rw[if_neg h22,if_neg h22]
 exact sJ ks 0 0 (Int.le_refl _) hk
section
variable {R:List AC} {e:Nat→Nat} {rd rd' S S':List Int}
theorem cK (hr:F7 rd) (hr':F7 rd') (hs:CZ S) (hs':CZ S') (h1:∀ i:Nat,(rd[i]?).getD 0≤(rd'[i]?).getD 0) (h2:∀ k:Int,FG S k≤FG S' k):∀ m at_,KU R e rd S m at_≤KU R e rd' S' m at_
 | 0,at_=>Int.le_refl _
 | m+1,at_=>by
  unfold KU
  cases R[at_]? with
  | none=>exact Int.le_refl _
  | some x=>exact Le (fun j _=>cK hr hr' hs hs' h1 h2 m j) (UZ hr hs m _) (UZ hr' hs' m _) (T0 hr at_) (T0 hr' at_).2 (h1 at_) (h2 x.n)
theorem iM {S:List Int} {v:Int} (k:Int):FG (S++[v]) k=if k.toNat=S.length then v else FG S k:=by
 unfold FG
 by_cases h:k.toNat=S.length
 ·rw[if_pos h,h,List.getElem?_concat_length]
  rfl
 ·rw[if_neg h]
  rcases Nat.lt_or_ge k.toNat S.length with h1 | h1
  ·rw[List.getElem?_append_left h1]
  ·rw[List.getElem?_eq_none (by simp;omega),List.getElem?_eq_none (by omega)]
theorem uQ (hr:F7 rd) (hr':F7 rd') (h1:∀ i:Nat,(rd[i]?).getD 0≤(rd'[i]?).getD 0):∀ (l S S':List Int),CZ S→CZ S'→S.length=S'.length→(∀ k:Int,FG S k≤FG S' k)→∀ k:Int,FG (F8 R e rd l S) k≤FG (F8 R e rd' l S') k
 | [],S,S',_,_,_,h=>h
 | ru :: l,S,S',hs,hs',hl,h=>uQ hr hr' h1 l _ _ (fun x hx=>by
   simp only[List.mem_append,List.mem_cons,List.not_mem_nil,or_false] at hx
   rcases hx with hx | rfl
   ·exact hs x hx
   ·exact QB hr hs _) (fun x hx=>by
   simp only[List.mem_append,List.mem_cons,List.not_mem_nil,or_false] at hx
   rcases hx with hx | rfl
   ·exact hs' x hx
   ·exact QB hr' hs' _) (by simp[hl]) fun k=>by
   rw[iM,iM,hl]
   split
   ·exact cK hr hr' hs hs' h1 h _ _
   ·exact h k
end
structure bV (a b:IJ):Prop where
 len:a.on.length=b.on.length
 on:∀ i:Nat,IC a.on i≤IC b.on i
 miss:a.miss≤b.miss
theorem lI {l:List Int} {i j:Nat} {v:Int}:IC (l.set i v) j=if i=j∧j<l.length then v else IC l j:=by
 unfold IC
 rw[List.getElem?_set]
 by_cases h:i=j
 ·subst h
  by_cases h2:i<l.length
  ·simp[h2]
  ·have h3:=List.getElem?_eq_none (show l.length≤i by omega)
   simp[h2,h3]
 ·simp[h]
theorem YW {R:List AC} {V:Nat→Int}:∀ (r at_:Nat) (c:IJ),(EF R V r at_ c).1.1=0∨(EF R V r at_ c).1.1=61
 | 0,_,c=>.inl rfl
 | r+1,at_,c=>by
  unfold EF
  split
  ·exact .inl rfl
  ·split
   ·exact YW r (at_+1) c
   ·split
    ·exact .inr rfl
    ·exact YW r (at_+1) _
theorem ZY {R:List AC} {V W:Nat→Int} (hV:∀ i,V i≤W i):∀ (r at_:Nat) (c d:IJ),bV c d→(EF R W r at_ d).1.1=0→(EF R V r at_ c).1.1=0∧bV (EF R V r at_ c).2 (EF R W r at_ d).2
 | 0,_,c,d,h,_=>⟨rfl,h⟩
 | r + 1,at_,c,d,h,h0=>by
  unfold EF at h0 ⊢
  cases hx:R[at_]? with
  | none=>exact⟨rfl,h⟩
  | some x=>
   rw[hx] at h0
   simp only at h0 ⊢
   have hv:=hV (at_+1)
   by_cases h1:C2 x.kind=false
   ·rw[if_pos h1] at h0
    rw[if_pos h1,if_pos h1]
    exact ZY hV r (at_+1) c d h h0
   ·rw[if_neg h1] at h0
    rw[if_neg h1,if_neg h1]
    by_cases h2:W (at_+1)>72057594037927936
    ·rw[if_pos h2] at h0
     cases h0
    ·rw[if_neg h2] at h0
     rw[if_neg (by omega),if_neg h2]
     refine ZY hV r (at_+1) _ _ ?_ h0
     by_cases h3:x.kind=10
     ·rw[if_pos h3,if_pos h3]
      exact⟨h.len,h.on,hv⟩
     ·rw[if_neg h3,if_neg h3]
      refine⟨by simp[h.len],fun i=>?_,h.miss⟩
      show IC (c.on.set _ _) i≤IC (d.on.set _ _) i
      rw[lI,lI,h.len]
      split
      ·exact hv
      ·exact h.on i
theorem P8 {nm:ByteArray} {s:AP} {rd:List Int} (hc:GR nm s=0) (hl:rd.length=s.rows.length) (hr:F7 rd) :
  DY nm s rd=EF s.rows (A7 s.rows (AG (A9 s.rows)) rd (F8 s.rows (AG (A9 s.rows)) rd s.rules [])) s.rows.length 0 ⟨List.replicate s.queues.length 0,0⟩:=by
 unfold DY
 rw[if_neg (by rw[hc];decide),if_neg (by simp[hl,hr])]
theorem RN:CZ []:=fun x hx=>by simp at hx
theorem Hi {nm:ByteArray} {s:AP} {rd rd':List Int} (hc:GR nm s=0) (hl:rd.length=s.rows.length) (hl':rd'.length=s.rows.length) (hr:F7 rd) (hr':F7 rd') (h1:∀ i:Nat,(rd[i]?).getD 0≤(rd'[i]?).getD 0) :
  ((DY nm s rd).1.1=0∨(DY nm s rd).1.1=61)∧((DY nm s rd').1.1=0→(DY nm s rd).1.1=0∧bV (DY nm s rd).2 (DY nm s rd').2):=by
 rw[P8 hc hl hr,P8 hc hl' hr']
 refine⟨YW _ _ _,ZY (fun i=>?_) _ _ _ _ ⟨rfl,fun _=>Int.le_refl _,Int.le_refl _⟩⟩
 exact cK hr hr' (RI hr _ _ RN) (RI hr' _ _ RN) h1 (uQ hr hr' h1 _ _ _ RN RN rfl fun _=>Int.le_refl _) _ _
section
variable {l:List AC} {m:Nat}
theorem cS {p:Nat} {what:Int} (h:(BS AW l m p what).2=true):∃ y:AC,l[p]?=some y∧CD what y.kind=true∧DU AW y=true:=by
 cases m with
 | zero=>cases h
 | succ m=>
  unfold BS at h
  cases hx:l[p]? with
  | none=>rw[hx] at h;cases h
  | some y=>
   rw[hx] at h
   simp only at h
   split at h
   ·rename_i hc
    rw[Bool.and_eq_true] at hc
    exact⟨y,rfl,hc.1,hc.2⟩
   ·cases h
theorem Qc {κ:Int}:∀ r k p q,EQ (fun k next=>BS AW l m next (BY κ k)) r k p=(q,true)→∀ (j p':Nat),(BW (AG l) r p)[j]?=some p'→∃ y:AC,l[p']?=some y∧CD (BY κ (k+j)) y.kind=true:=by
 intro r
 induction r with
 | zero=>intro k p q _ j p' h;simp[BW] at h
 | succ r ih=>
  intro k p q h j p' hj
  unfold EQ at h
  split at h
  ·rename_i hc
   have he:AG l p=(BS AW l m p (BY κ k)).1:=IY (.inl ⟨m,BY κ k,Prod.ext rfl hc⟩)
   cases j with
   | zero=>
    have:p=p':=by simpa [BW] using hj
    subst this
    obtain⟨y,h1,h2,_⟩:=cS hc
    exact⟨y,h1,h2⟩
   | succ j=>
    have hj':(BW (AG l) r (AG l p))[j]?=some p':=by simpa [BW] using hj
    rw[he] at hj'
    have:=ih (k+1) _ _ h j p' hj'
    rwa [show k+1+j=k+(j+1) by omega] at this
  ·cases h
theorem Pr:∀ (r:Nat) (ev:Bool) (p q:Nat),EG AW l m r ev p=(q,true)→∀ (j p':Nat),(BW (AG l) r p)[j]?=some p'→∃ y:AC,l[p']?=some y∧2≤y.kind∧y.kind≤10:=by
 intro r
 induction r with
 | zero=>intro k p q _ j p' h;simp[BW] at h
 | succ r ih=>
  intro ev p q h j p' hj
  unfold EG at h
  split at h
  ·rename_i hc
   have he:AG l p=(BS AW l m p (HH ev l[p]?)).1:=IY (.inl ⟨m,_,Prod.ext rfl hc⟩)
   cases j with
   | zero=>
    have:p=p':=by simpa [BW] using hj
    subst this
    obtain⟨y,h1,h2,_⟩:=cS hc
    refine⟨y,h1,?_⟩
    unfold HH at h2
    split at h2
    ·unfold CD at h2
     simp at h2
     omega
    ·unfold CD at h2
     simp at h2
     omega
   | succ j=>
    have hj':(BW (AG l) r (AG l p))[j]?=some p':=by simpa [BW] using hj
    rw[he] at hj'
    exact ih _ _ _ h j p' hj'
  ·cases h
theorem B8.kid {i:Nat} {x:AC} (ht:B8 l) (hx:l[i]?=some x) {k p:Nat} (hk:(BW (AG l) x.kids.toNat (i+1))[k]?=some p):∃ y:AC,l[p]?=some y∧(CD (BY x.kind k) y.kind=true∨(2≤y.kind∧y.kind≤10)):=by
 obtain⟨q,hq⟩:∃ q,DX l i q:=⟨_,ht.end (List.getElem?_eq_some_iff.1 hx).1⟩
 rcases hq with⟨m,what,h⟩ | ⟨rfl,m,h⟩
 ·cases m with
  | zero=>cases h
  | succ m=>
   unfold BS at h
   rw[hx] at h
   simp only at h
   split at h
   ·obtain⟨y,h1,h2⟩:=Qc _ _ _ _ h k p hk
    rw[Nat.zero_add] at h2
    exact⟨y,h1,.inl h2⟩
   ·cases h
 ·unfold G5 at h
  rw[hx] at h
  simp only at h
  split at h
  ·obtain⟨y,h1,h2⟩:=Pr _ _ _ _ h k p hk
   exact⟨y,h1,.inr h2⟩
  ·cases h
theorem B8.fit {i:Nat} {x:AC} (ht:B8 l) (hx:l[i]?=some x):DU AW x=true:=by
 obtain⟨q,hq⟩:∃ q,DX l i q:=⟨_,ht.end (List.getElem?_eq_some_iff.1 hx).1⟩
 rcases hq with⟨m,what,h⟩ | ⟨rfl,m,h⟩
 ·obtain⟨y,h1,_,h3⟩:=cS (congrArg (·.2) h)
  rw[hx] at h1
  cases h1
  exact h3
 ·unfold G5 at h
  rw[hx] at h
  simp only at h
  split at h
  ·rename_i hc
   rw[Bool.and_eq_true] at hc
   exact hc.2
  ·cases h
theorem B8.place {i:Nat} {x y:AC} (ht:B8 l) (hx:l[i]?=some x) {k p:Nat} (hk:(BW (AG l) x.kids.toNat (i+1))[k]?=some p) (hy:l[p]?=some y) (hp:y.kind=24):p=i+1∧(x.kind=19∨x.kind=20):=by
 obtain⟨y',h1,h2⟩:=ht.kid hx hk
 rw[hy] at h1
 cases h1
 have hf:=ht.fit hx
 unfold DU at hf
 simp only[Bool.and_eq_true,decide_eq_true_eq,Bool.or_eq_true] at hf
 obtain⟨⟨_,hl⟩,hm⟩:=hf
 have h19:x.kind=19∨x.kind=20:=by
  rcases h2 with h2 | h2
  ·rw[hp] at h2
   unfold BY at h2
   by_cases e1:x.kind=19
   ·exact .inl e1
   ·by_cases e2:x.kind=20
    ·exact .inr e2
    ·exfalso
     have c6:([19,20]:List Int).contains x.kind=false:=by simp[e1,e2]
     rw[c6] at h2
     (repeat' split at h2) <;> first | (simp[CD] at h2;done) | simp_all [CD]
  ·omega
 have hm1:x.kids≤1:=by
  rcases h19 with e | e <;> (rw[e] at hm;rcases hm with hm | hm <;> simp[CT] at hm <;> omega)
 have hkl:=(List.getElem?_eq_some_iff.1 hk).1
 rw[WP] at hkl
 have hk0:k=0:=by omega
 subst hk0
 obtain⟨r,hr⟩:∃ r,x.kids.toNat=r+1:=⟨x.kids.toNat-1,by omega⟩
 rw[hr] at hk
 have:i+1=p:=by simpa [BW] using hk
 exact⟨this.symm,h19⟩
end
def BX (a i:Nat):Nat:=if i≤a then i else i+1
def KI (a:Nat) (v:Int):Int:=if v≤(a:Int) then v else v+1
theorem MC {a i:Nat} (h:i≤a):BX a i=i:=if_pos h
theorem ON {a i:Nat} (h:a<i):BX a i=i+1:=if_neg (by omega)
theorem MD {a i:Nat} (h:i≠a):BX a (i+1)=BX a i+1:=by
 unfold BX
 split <;> split <;> omega
theorem Dv {a i j:Nat} (h:BX a i=BX a j):i=j:=by
 unfold BX at h
 split at h <;> split at h <;> omega
theorem yQ {a i:Nat} (h:i≠a):BX a i≠a∧BX a i≠a+1:=by
 unfold BX
 split <;> omega
theorem j7 {a i:Nat} (h:i≠a):KI a ((i:Int)+1)=(BX a i:Int)+1:=by
 unfold KI BX
 split <;> split <;> omega
theorem Gm {a:Nat} {v:Int} (h:0≤v):0≤KI a v∧(KI a v).toNat=BX a v.toNat:=by
 unfold KI BX
 split <;> split <;> omega
def ML:AC:=⟨23,ByteArray.empty,0,0,0⟩
structure HB (a:Nat) (l m:List AC):Prop where
 len:m.length=l.length+1
 lt:a<l.length
 at_:∀ x,l[a]?=some x→m[a]?=some { x with kids:=x.kids+1 }
 pass:m[a+1]?=some ML
 rest:∀ (i:Nat) (x:AC),i≠a→l[i]?=some x→m[BX a i]?=some x
section
variable {a:Nat} {l m:List AC}
theorem HB.set (h:HB a l m) {i:Nat} (hi:i≠a) (n:Int):HB a (E_ l i n) (E_ m (BX a i) n):=by
 obtain⟨n1,n2⟩:=yQ hi
 refine⟨by rw[LG,LG];exact h.len,by rw[LG];exact h.lt,fun x hx=>?_,?_,fun j x hj hx=>?_⟩
 ·rw[JL (Ne.symm hi)] at hx
  rw[JL (Ne.symm n1)]
  exact h.at_ x hx
 ·rw[JL (Ne.symm n2)]
  exact h.pass
 ·by_cases hij:j=i
  ·subst hij
   have hl:=(List.getElem?_eq_some_iff.1 hx).1
   rw[LG] at hl
   obtain⟨y,hy⟩:∃ y,l[j]?=some y:=⟨_,List.getElem?_eq_getElem hl⟩
   rw[JB hy] at hx
   cases hx
   exact JB (h.rest j y hj hy)
  ·rw[JL hij] at hx
   rw[JL (fun e=>hij (Dv e))]
   exact h.rest j x hj hx
end
def O6 (t:F_):ByteArray × Int × Int:=(t.name,t.kind,t.num)
theorem p7 {nm:ByteArray}:∀ {A B:List F_},A.map O6=B.map O6→(E5 A nm).map O6=(E5 B nm).map O6
 | [],[],_=>rfl
 | [],_ :: _,h=>by simp at h
 | _ :: _,[],h=>by simp at h
 | t :: A,u :: B,h=>by
  simp only[List.map_cons,List.cons.injEq] at h
  obtain⟨h1,h2⟩:=h
  have hn:t.name=u.name:=congrArg (·.1) h1
  have ih:=p7 (nm:=nm) h2
  unfold E5 at ih ⊢
  rw[List.find?_cons,List.find?_cons,hn]
  split
  ·exact congrArg some h1
  ·exact ih
structure I6 (a:Nat) (s t:AP):Prop where
 rows:HB a s.rows t.rows
 ka:∀ x,s.rows[a]?=some x→x.kind=11
 q:t.queues=s.queues
 v:t.vars=s.vars
 g:t.tags=s.tags
 u:t.rules=s.rules.map (KI a)
 o:t.on=s.on.map (KI a)
 m:t.miss=KI a s.miss
 th:t.things.map O6=s.things.map O6
section
variable {a:Nat} {s t:AP}
theorem I6.cnt (h:I6 a s t) (k:Int):BD t k=BD s k:=by
 unfold BD
 rw[h.q,h.v,h.g,h.u,List.length_map]
theorem I6.setRows (h:I6 a s t) {i:Nat} (hi:i≠a) (n:Int):HB a (E_ s.rows i n) (E_ t.rows (BX a i) n)∧∀ x,(E_ s.rows i n)[a]?=some x→x.kind=11:=
 ⟨h.rows.set hi n,fun x hx=>h.ka x (by rw[JL (Ne.symm hi)] at hx;exact hx)⟩
theorem I6.decl (h:I6 a s t) {i:Nat} (hi:i≠a) (x:AC) (e e':Int):I6 a (BI i e x s) (BI (BX a i) e' x t):=by
 unfold BI
 by_cases h0:BM x.kind=0
 ·rw[if_pos h0,if_pos h0]
  exact h
 rw[if_neg h0,if_neg h0]
 have hz:=j7 hi
 have hm1:KI a (-1)=-1:=by unfold KI;rw[if_pos (by omega)]
 obtain⟨r1,r2⟩:=h.setRows hi (BD s (BM x.kind))
 unfold EX
 refine⟨by show HB a _ (E_ t.rows (BX a i) (BD t (BM x.kind)));rw[h.cnt];exact r1,r2,?_,?_,?_,?_,?_,h.m,?_⟩
 ·show (if _ then _ else _)=if _ then _ else _
  rw[h.q]
 ·show (if _ then _ else _)=if _ then _ else _
  rw[h.v]
 ·show (if _ then _ else _)=if _ then _ else _
  rw[h.g]
 ·show (if _ then _ else _)=List.map _ (if _ then _ else _)
  rw[h.u]
  split
  ·rw[List.map_append,List.map_cons,List.map_nil,hz]
  ·rfl
 ·show (if _ then _ else _)=List.map _ (if _ then _ else _)
  rw[h.o]
  split
  ·rw[List.map_append,List.map_cons,List.map_nil,hm1]
  ·rfl
 ·show List.map O6 (t.things++_)=List.map O6 (s.things++_)
  rw[List.map_append,List.map_append,h.th,h.cnt]
  rfl
theorem I6.call (h:I6 a s t) {i:Nat} (hi:i≠a) (x:AC):I6 a (BO i x s) (BO (BX a i) x t):=by
 unfold BO
 by_cases h0:DI x.kind=0
 ·rw[if_pos h0,if_pos h0]
  exact h
 rw[if_neg h0,if_neg h0]
 have hf:=p7 (nm:=x.name) h.th
 cases h1:E5 s.things x.name with
 | none=>
  rw[h1] at hf
  cases h2:E5 t.things x.name with
  | none=>exact h
  | some w=>rw[h2] at hf;cases hf
 | some w=>
  rw[h1] at hf
  cases h2:E5 t.things x.name with
  | none=>rw[h2] at hf;cases hf
  | some w'=>
   rw[h2] at hf
   have hn:w'.num=w.num:=congrArg (fun z=>z.2.2) (Option.some.inj hf)
   obtain⟨r1,r2⟩:=h.setRows hi w.num
   exact⟨by show HB a _ (E_ t.rows (BX a i) w'.num);rw[hn];exact r1,r2,h.q,h.v,h.g,h.u,h.o,h.m,h.th⟩
theorem I6.ev (h:I6 a s t) {i:Nat} (hi:i≠a) (x:AC):I6 a (CY i x s) (CY (BX a i) x t):=by
 unfold CY
 have hz:=j7 hi
 split
 ·exact h
 split
 ·exact⟨h.rows,h.ka,h.q,h.v,h.g,h.u,h.o,hz.symm,h.th⟩
 ·refine⟨h.rows,h.ka,h.q,h.v,h.g,h.u,?_,h.m,h.th⟩
  show t.on.set _ _=List.map _ (s.on.set _ _)
  rw[h.o,← hz,List.map_set]
theorem eK {E:List Int} {i:Nat} {x:AC} (hx:s.rows[i]?=some x) (h1:BM x.kind=0) (h2:DI x.kind=0) (h3:C2 x.kind=false):DE E i s=(0,s):=by
 rw[P7 hx h1]
 have e1:CJ i x s=0:=by unfold CJ;rw[if_pos h2]
 have e2:BO i x s=s:=by unfold BO;rw[if_pos h2]
 have e3:CV x s=0:=by unfold CV;rw[if_pos h3]
 have e4:CY i x s=s:=by unfold CY;rw[if_pos h3]
 rw[e1,e2,hx]
 simp only
 rw[e3,e4]
 rfl
theorem Ko {E E':List Int} (h:I6 a s t) {i:Nat} (hi:i≠a) {x:AC} (hx:s.rows[i]?=some x) (h0:(DE E i s).1=0) (h1:(DE E' (BX a i) t).1=0):I6 a (DE E i s).2 (DE E' (BX a i) t).2:=by
 have hy:=h.rows.rest i x hi hx
 by_cases hd:BM x.kind=0
 ·rw[P7 hx hd] at h0 ⊢
  rw[P7 hy hd] at h1 ⊢
  by_cases c0:CJ i x s=0
  case neg=>rw[if_pos c0] at h0;exact absurd h0 c0
  by_cases c1:CJ (BX a i) x t=0
  case neg=>rw[if_pos c1] at h1;exact absurd h1 c1
  rw[if_neg (by simpa using c0)] at h0 ⊢
  rw[if_neg (by simpa using c1)] at h1 ⊢
  have hc:=h.call hi x
  obtain⟨n,hn,_⟩:=QN hx c0
  have hn':=hc.rows.rest i _ hi hn
  generalize BO i x s=s1 at *
  generalize BO (BX a i) x t=t1 at *
  rw[hn] at h0 ⊢
  rw[hn'] at h1 ⊢
  simp only at h0 h1 ⊢
  by_cases d0:CV { x with n:=n } s1=0
  case neg=>rw[if_pos d0] at h0;exact absurd h0 d0
  by_cases d1:CV { x with n:=n } t1=0
  case neg=>rw[if_pos d1] at h1;exact absurd h1 d1
  rw[if_neg (by simpa using d0),if_neg (by simpa using d1)]
  exact hc.ev hi _
 ·rw[SH hx hd] at h0 ⊢
  rw[SH hy hd] at h1 ⊢
  by_cases c0:DQ x s=0
  case neg=>rw[if_pos c0] at h0;exact absurd h0 c0
  by_cases c1:DQ x t=0
  case neg=>rw[if_pos c1] at h1;exact absurd h1 c1
  rw[if_neg (by simpa using c0),if_neg (by simpa using c1)]
  exact h.decl hi x _ _
theorem kF {E:List Int} {i:Nat} {x:AC} (hx:s.rows[i]?=some x) (h0:(DE E i s).1=0):(DE E i s).2.rows.length=s.rows.length:=by
 by_cases hd:BM x.kind=0
 ·rw[P7 hx hd] at h0 ⊢
  by_cases c0:CJ i x s=0
  case neg=>rw[if_pos c0] at h0;exact absurd h0 c0
  rw[if_neg (by simpa using c0)] at h0 ⊢
  have hl:(BO i x s).rows.length=s.rows.length:=by
   unfold BO
   split
   ·rfl
   ·split
    ·rfl
    ·exact LG
  obtain⟨n,hn,_⟩:=QN hx c0
  rw[hn] at h0 ⊢
  simp only at h0 ⊢
  split
  ·rfl
  ·rw[← hl]
   unfold CY
   (repeat' split) <;> rfl
 ·rw[SH hx hd] at h0 ⊢
  split
  ·rfl
  ·rw[TL,if_neg hd]
   exact LG
end
theorem VZ {E:List Int} {r i:Nat} {s:AP} (h:(CE E (r+1) i s).1=0):(DE E i s).1=0∧CE E (r+1) i s=CE E r (i+1) (DE E i s).2∧(CE E r (i+1) (DE E i s).2).1=0:=by
 have e:CE E (r+1) i s=if (DE E i s).1≠0 then ((DE E i s).1,i,s) else CE E r (i+1) (DE E i s).2:=rfl
 rw[e] at h ⊢
 by_cases c:(DE E i s).1=0
 ·rw[if_neg (by simpa using c)] at h ⊢
  exact⟨c,rfl,h⟩
 ·rw[if_pos c] at h
  exact absurd h c
theorem dI {a:Nat} {E E':List Int}:∀ (r i r':Nat) (s t:AP),I6 a s t→i+r=s.rows.length→BX a i+r'=s.rows.length+1→(CE E r i s).1=0→(CE E' r' (BX a i) t).1=0→I6 a (CE E r i s).2.2 (CE E' r' (BX a i) t).2.2
 | 0,i,r',s,t,h,hr,hr',_,_=>by
  have hlt:=h.rows.lt
  have:r'=0:=by
   rw[ON (by omega)] at hr'
   omega
  subst this
  exact h
 | r+1,i,r',s,t,h,hr,hr',h0,h1=>by
  obtain⟨c0,e0,g0⟩:=VZ h0
  obtain⟨x,hx⟩:∃ x,s.rows[i]?=some x:=⟨_,List.getElem?_eq_getElem (by omega)⟩
  have hle:BX a i≤i+1:=by unfold BX;split <;> omega
  obtain⟨r1,rfl⟩:∃ j,r'=j+1:=⟨r'-1,by omega⟩
  obtain⟨c1,e1,g1⟩:=VZ h1
  rw[e0,e1]
  by_cases hi:i=a
  ·subst hi
   have hk:=h.ka x hx
   have hy:=h.rows.at_ x hx
   rw[MC (Nat.le_refl _)] at e1 g1 c1 hr' ⊢
   have q0:DE E i s=(0,s):=eK hx (by rw[hk];rfl) (by rw[hk];rfl) (by rw[hk];rfl)
   have q1:DE E' i t=(0,t):=eK hy (by show BM x.kind=0;rw[hk];rfl) (by show DI x.kind=0;rw[hk];rfl) (by show C2 x.kind=false;rw[hk];rfl)
   rw[q0] at g0 ⊢
   rw[q1] at g1 ⊢
   obtain⟨r2,rfl⟩:∃ j,r1=j+1:=⟨r1-1,by omega⟩
   obtain⟨c2,e2,g2⟩:=VZ g1
   have q2:DE E' (i+1) t=(0,t):=eK h.rows.pass rfl rfl rfl
   rw[e2]
   rw[q2] at g2 ⊢
   have:=dI (E:=E) (E':=E') r (i+1) r2 s t h (by omega) (by rw[ON (by omega)];omega) g0
   rw[ON (by omega)] at this
   exact this g2
  ·have hs:=Ko (E:=E) (E':=E') h hi hx c0 c1
   have hl:=kF hx c0
   have:=dI (E:=E) (E':=E') r (i+1) r1 _ _ hs (by omega) (by rw[MD hi,hl];omega) g0
   rw[MD hi] at this
   exact this g1
structure RQ (pos:Nat) (s:AP):Prop where
 no:s.miss<0∨∃ (j:Nat) (x:AC),s.miss=(j:Int)+1∧j<pos∧s.rows[j]?=some x∧x.kind=10
 one:∀ (j:Nat) (x:AC),j<pos→s.rows[j]?=some x→x.kind=10→s.miss=(j:Int)+1
theorem rS {l:List AC} {k:Nat} {n:Int} {j:Nat} {x:AC} (h:(E_ l k n)[j]?=some x):∃ y:AC,l[j]?=some y∧y.kind=x.kind:=by
 by_cases e:j=k
 ·subst e
  have hl:=(List.getElem?_eq_some_iff.1 h).1
  rw[LG] at hl
  obtain⟨y,hy⟩:∃ y,l[j]?=some y:=⟨_,List.getElem?_eq_getElem hl⟩
  rw[JB hy] at h
  cases h
  exact⟨y,hy,rfl⟩
 ·rw[JL e] at h
  exact⟨x,h,rfl⟩
theorem l_ {l:List AC} {k:Nat} {n:Int} {j:Nat} {x:AC} (h:l[j]?=some x):∃ y:AC,(E_ l k n)[j]?=some y∧y.kind=x.kind:=by
 by_cases e:j=k
 ·subst e
  exact⟨_,JB h,rfl⟩
 ·exact⟨x,(JL e).trans h,rfl⟩
def RW (s t:AP):Prop:=∀ (j:Nat) (x:AC),t.rows[j]?=some x→∃ y:AC,s.rows[j]?=some y∧y.kind=x.kind
theorem Bb {E:List Int} {i:Nat} {s:AP} {x:AC} (h:RQ i s) (hx:s.rows[i]?=some x) (h0:(DE E i s).1=0):RQ (i+1) (DE E i s).2:=by
 have quiet:∀ t:AP,t.miss=s.miss→RW s t→RW t s→x.kind≠10→RQ (i+1) t:=fun t hm k1 k2 hk=>by
  refine⟨?_,fun j y hj hy h10=>?_⟩
  ·rcases h.no with h1 | ⟨j,y,h1,h2,h3,h4⟩
   ·exact .inl (by omega)
   ·obtain⟨z,hz,hzk⟩:=k2 j y h3
    exact .inr ⟨j,z,by omega,by omega,hz,by omega⟩
  ·obtain⟨z,hz,hzk⟩:=k1 j y hy
   rcases Nat.eq_or_lt_of_le (Nat.lt_succ_iff.1 hj) with e | e
   ·subst e
    rw[hx] at hz
    cases hz
    exact absurd (hzk.trans h10) hk
   ·rw[hm]
    exact h.one j z e hz (hzk.trans h10)
 by_cases hd:BM x.kind=0
 ·rw [P7 hx hd] at h0 ⊢
  by_cases c0:CJ i x s=0
  case neg=>rw[if_pos c0] at h0;exact absurd h0 c0
  rw[if_neg (by simpa using c0)] at h0 ⊢
  have hr:(BO i x s).miss=s.miss∧RW s (BO i x s)∧RW (BO i x s) s:=by
   unfold BO
   split
   ·exact⟨rfl,fun j y hy=>⟨y,hy,rfl⟩,fun j y hy=>⟨y,hy,rfl⟩⟩
   ·split
    ·exact⟨rfl,fun j y hy=>⟨y,hy,rfl⟩,fun j y hy=>⟨y,hy,rfl⟩⟩
    ·exact⟨rfl,fun j y hy=>rS hy,fun j y hy=>l_ hy⟩
  obtain⟨hm,k1,k2⟩:=hr
  obtain⟨n,hn,_⟩:=QN hx c0
  generalize BO i x s=s1 at *
  rw[hn] at h0 ⊢
  simp only at h0 ⊢
  by_cases d0:CV { x with n:=n } s1=0
  case neg=>rw[if_pos d0] at h0;exact absurd h0 d0
  rw[if_neg (by simpa using d0)]
  unfold CY
  split
  ·rename_i hev
   refine quiet s1 hm k1 k2 fun h10=>?_
   simp only[h10] at hev
   cases hev
  ·rename_i hev
   split
   ·rename_i h10
    simp only at h10
    have hneg:s1.miss<0:=by
     unfold CV at d0
     rw[if_neg hev,if_pos h10] at d0
     split at d0
     ·cases d0
     ·omega
    refine⟨.inr ⟨i,_,rfl,by omega,hn,h10⟩,fun j y hj hy hk=>?_⟩
    rcases Nat.eq_or_lt_of_le (Nat.lt_succ_iff.1 hj) with e | e
    ·subst e;rfl
    ·obtain⟨z,hz,hzk⟩:=k1 j y hy
     have:=h.one j z e hz (hzk.trans hk)
     omega
   ·rename_i h10
    exact quiet _ hm k1 k2 h10
 ·rw[SH hx hd] at h0 ⊢
  by_cases c0:DQ x s=0
  case neg=>rw[if_pos c0] at h0;exact absurd h0 c0
  rw[if_neg (by simpa using c0)]
  have hm:(BI i ((E[i]?).getD 0) x s).miss=s.miss:=by unfold BI;split <;> rfl
  have k1:RW s (BI i ((E[i]?).getD 0) x s):=fun j y hy=>by
   rw[TL,if_neg hd] at hy
   exact rS hy
  have k2:RW (BI i ((E[i]?).getD 0) x s) s:=fun j y hy=>by
   rw[TL,if_neg hd]
   exact l_ hy
  exact quiet _ hm k1 k2 fun h10=>hd (by rw[h10];rfl)
theorem oR {E:List Int}:∀ (r i:Nat) (s:AP),RQ i s→i+r=s.rows.length→(CE E r i s).1=0→RQ (i+r) (CE E r i s).2.2
 | 0,i,s,h,_,_=>h
 | r+1,i,s,h,hl,h0=>by
  obtain⟨c0,e0,g0⟩:=VZ h0
  obtain⟨x,hx⟩:∃ x,s.rows[i]?=some x:=⟨_,List.getElem?_eq_getElem (by omega)⟩
  rw[e0,show i+(r+1)=i+1+r by omega]
  exact oR r (i+1) _ (Bb h hx c0) (by rw[kF hx c0];omega) g0
def GB (R:List AC):Nat→Nat
 | 0=>0
 | i+1=>GB R i+(match R[i]? with | some x=>if x.kind=13 then 1 else 0 | none=>0)
def LI (A:List Int) (R:List AC) (j:Nat):Int:=match R[j]? with | some x=>if x.kind=13 then (A[GB R j%A.length]?).getD 0 else 0 | none=>0
def GC (A:List Int) (R:List AC):List Int:=(List.range R.length).map (LI A R)
def K8 (A:List Int) (R:List AC) (i:Nat):List Int:=(List.range R.length).map fun j=>if j<i then LI A R j else 0
section
variable {A B:List Int} {R R':List AC}
theorem mV:∀ i,GB R i≤i
 | 0=>Nat.le_refl _
 | i+1=>by
  have:=mV i
  unfold GB
  split
  ·split <;> omega
  ·omega
theorem PB:(GC A R).length=R.length:=by simp[GC]
theorem TE {i:Nat}:(K8 A R i).length=R.length:=by simp[K8]
theorem XR (j:Nat):((GC A R)[j]?).getD 0=LI A R j:=by
 unfold GC
 rw[List.getElem?_map]
 rcases Nat.lt_or_ge j R.length with h | h
 ·rw[List.getElem?_range h]
  rfl
 ·rw[List.getElem?_eq_none (by simp;omega)]
  unfold LI
  rw[List.getElem?_eq_none h]
  rfl
theorem ZI (i:Nat) {j:Nat} (h:j<R.length):(K8 A R i)[j]?=some (if j<i then LI A R j else 0):=by
 unfold K8
 rw[List.getElem?_map,List.getElem?_range h]
 rfl
theorem TH {i:Nat} {l:List Int} (hl:l.length=R.length) (h:∀ j,j<R.length→l[j]?=some (if j<i then LI A R j else 0)):K8 A R i=l:=by
 apply List.ext_getElem?
 intro j
 rcases Nat.lt_or_ge j R.length with h1 | h1
 ·rw[ZI i h1,h j h1]
 ·rw[List.getElem?_eq_none (by rw[TE];exact h1),List.getElem?_eq_none (by omega)]
theorem Di:K8 A R 0=List.replicate R.length 0:=TH (by simp) fun j hj=>by rw[List.getElem?_replicate,if_pos hj,if_neg (by omega)]
theorem i5:K8 A R R.length=GC A R:=TH PB fun j hj=>by
 rw[if_pos hj]
 unfold GC
 rw[List.getElem?_map,List.getElem?_range hj]
 rfl
theorem Ha {i:Nat} {x:AC} (hx:R[i]?=some x) (hk:x.kind≠13):K8 A R (i+1)=K8 A R i∧GB R (i+1)=GB R i:=by
 refine⟨TH TE fun j hj=>?_,?_⟩
 ·rw[ZI i hj]
  by_cases e:j=i
  ·subst e
   rw[if_neg (by omega),if_pos (by omega)]
   unfold LI
   rw[hx]
   simp only
   rw[if_neg hk]
  ·by_cases h:j<i
   ·rw[if_pos h,if_pos (by omega)]
   ·rw[if_neg h,if_neg (by omega)]
 ·show GB R i+_=_
  rw[hx]
  simp only
  rw[if_neg hk]
  rfl
theorem Rm {i:Nat} {x:AC} {a:Int} (hx:R[i]?=some x) (hk:x.kind=13) (ha:A[GB R i%A.length]?=some a):(K8 A R i).set i a=K8 A R (i+1)∧GB R (i+1)=GB R i+1:=by
 refine⟨(TH (by rw[List.length_set,TE]) fun j hj=>?_).symm,?_⟩
 ·rw[List.getElem?_set,TE,ZI i hj]
  by_cases e:i=j
  ·subst e
   rw[if_pos rfl,if_pos hj,if_pos (by omega)]
   unfold LI
   rw[hx]
   simp only
   rw[if_pos hk,ha]
   rfl
  ·rw[if_neg e]
   by_cases h:j<i
   ·rw[if_pos h,if_pos (by omega)]
   ·rw[if_neg h,if_neg (by omega)]
 ·show GB R i+_=_
  rw[hx]
  simp only
  rw[if_pos hk]
theorem lT {i:Nat}:K8 [] R i=List.replicate R.length 0:=TH (by simp) fun j hj=>by
 rw[List.getElem?_replicate,if_pos hj]
 have:LI [] R j=0:=by
  unfold LI
  split
  ·split <;> rfl
  ·rfl
 rw[this]
 split <;> rfl
theorem XO (hA:∀ x∈A,0≤x∧x≤4194304):F7 (GC A R):=fun y hy=>by
 obtain⟨j,_,rfl⟩:=List.mem_map.1 hy
 unfold LI
 split
 ·split
  ·cases h:A[GB R j%A.length]? with
   | none=>exact⟨by simp,by simp⟩
   | some x=>exact hA x (List.mem_of_getElem? h)
  ·exact⟨by simp,by simp⟩
 ·exact⟨by simp,by simp⟩
theorem Ai (hl:A.length=B.length) (h:∀ i:Nat,(A[i]?).getD 0≤(B[i]?).getD 0) (i:Nat):((GC A R)[i]?).getD 0≤((GC B R)[i]?).getD 0:=by
 rw[XR,XR]
 unfold LI
 split
 ·split
  ·rw[hl];exact h _
  ·exact Int.le_refl _
 ·exact Int.le_refl _
theorem rD {a:Nat} (hR:HB a R R') (h11:∀ x,R[a]?=some x→x.kind=11):∀ i,i≤R.length→GB R' (BX a i)=GB R i
 | 0,_=>by rw[MC (Nat.zero_le _)];rfl
 | i+1,hi=>by
  have ih:=rD hR h11 i (by omega)
  obtain⟨x,hx⟩:∃ x,R[i]?=some x:=⟨_,List.getElem?_eq_getElem (by omega)⟩
  have e1:GB R (i+1)=GB R i+(if x.kind=13 then 1 else 0):=by
   show GB R i+_=_
   rw[hx]
  by_cases h:i=a
  ·subst h
   have hk:=h11 x hx
   have e2:GB R' (i+1)=GB R' i:=by
    show GB R' i+_=_
    rw[hR.at_ x hx]
    simp only[hk]
    rfl
   have e3:GB R' (i+1+1)=GB R' (i+1):=by
    show GB R' (i+1)+_=_
    rw[hR.pass]
    rfl
   rw[MC (Nat.le_refl _)] at ih
   rw[ON (Nat.lt_succ_self i),e3,e2,ih,e1,if_neg (by rw[hk];decide)]
   rfl
  ·rw[MD h,e1,← ih]
   show GB R' (BX a i)+_=_
   rw[hR.rest i x h hx]
theorem Bq {a:Nat} (hR:HB a R R') (h11:∀ x,R[a]?=some x→x.kind=11) (i:Nat) (hi:i≠a) (hl:i<R.length):((GC A R')[BX a i]?).getD 0=((GC A R)[i]?).getD 0:=by
 obtain⟨x,hx⟩:∃ x,R[i]?=some x:=⟨_,List.getElem?_eq_getElem hl⟩
 rw[XR,XR]
 unfold LI
 rw[hx,hR.rest i x hi hx,rD hR h11 i (by omega)]
end
def TG (h:AA) (R:List AC) (A:List Int) (v:Value) (h':AA):Prop:=
 ∃ id,v=.agg #[Z0,Z0,qS id R.length R.length]∧QZ h.next h' v [] [] (GC A R)∧h'.floor=h.floor∧h.next≤h'.next∧∀ i,i<h.next→h'.get i=h.get i
section
variable {n N:Nat} {h:AA}
theorem vG {nm:ByteArray} {s:AP} {pv w:Value} {A:List Int} {lo lw:Nat} (hp:C1 lo h pv nm s) (hw:AK lw h w A) (hl:s.rows.length<2932031007403) (hfl:h.floor≤h.next) (hN:s.rows.length+10<N) :
  ∃ v' h',A8 Tryd.prog (AX n) N 42 [pv,w] h=some (v',h')∧TG h s.rows A v' h':=by
 have hsn:=(FM n).2
 refine M8 (R:=TG h s.rows A) Tryd.func42 rfl (by simp[Tryd.f42]) ?_
 have hr:Tryd.f42.results.toList=[.cell 4 70]:=rfl
 obtain⟨vr,vq,vv,vt,vu,vo,rfl,p1,p2,p3,p4,p5,p6⟩:=id hp
 obtain⟨ar,cr,hvr,_⟩:=id p1.2.2
 obtain⟨aw,cw,hwv,_⟩:=id hw.2
 subst hvr
 subst hwv
 have ca:=GJ [.string nm,.slice ar s.rows.length cr,vq,vv,vt,vu,vo,iv s.miss]
 have oa:=K_ (nm:=nm) p1 p2 p3 p4 p5 p6
 have len1:∀ h':AA,CC Tryd.prog h' 22 (.slice ar s.rows.length cr)=some (iv (s.rows.length:Int)):=fun h'=>OI
 have len2:=fun h'=>IX hw h'
 have zcY:=GJ [Z0,Z0,Z0]
 obtain⟨gA,gZ,n0,f0,gO⟩:=eU h (.row [.string nm,.slice ar s.rows.length cr,vq,vv,vt,vu,vo,iv s.miss] 30 false false) (.row [Z0,Z0,Z0] 70 false false)
 simp only[eE,seval,↓eP,DG,DA,C9,ca,oa,HR,O4,R6,RM,zcY]
 generalize (h.push (.row [.string nm,.slice ar s.rows.length cr,vq,vv,vt,vu,vo,iv s.miss] 30 false false)).push (.row [Z0,Z0,Z0] 70 false false)=H0 at *
 have lP1:AS 1 (H0.get h.next)=some (.slice ar s.rows.length cr):=by rw[gA];rfl
 have hst:=H_ (t:=70) O4 (h:=(H0.push (.row (ints (List.replicate s.rows.length 0)) 3 false false)).push (.row [Z0,Z0,Z0] 70 false false)) (id:=H0.next+1) (vs:=[Z0,Z0,qS H0.next s.rows.length s.rows.length]) (MJ (h:=H0)) rfl rfl rfl (by rw[DK,DK];omega)
 simp only[eE,seval,↓eP,CL,CK,lP1,len1,OH (show s.rows.length<30000000000000 by omega),iZ,R6,RM,zcY,DL]
 have hst':BJ Tryd.prog ((H0.push (.row (ints (List.replicate s.rows.length 0)) 3 false false)).push (.row [Z0,Z0,Z0] 70 false false)) 70 (qP (H0.next+1) 0) (.agg #[Z0,Z0,qS H0.next s.rows.length s.rows.length])=some (((H0.push (.row (ints (List.replicate s.rows.length 0)) 3 false false)).push (.row [Z0,Z0,Z0] 70 false false)).put (H0.next+1) (.row [Z0,Z0,qS H0.next s.rows.length s.rows.length] 70 false false)):=hst
 simp only[eE,seval,↓eP,hst']
 have gR:(((H0.push (.row (ints (List.replicate s.rows.length 0)) 3 false false)).push (.row [Z0,Z0,Z0] 70 false false)).put (H0.next+1) (.row [Z0,Z0,qS H0.next s.rows.length s.rows.length] 70 false false)).get H0.next=.row (ints (List.replicate s.rows.length 0)) 3 false false:=by
  rw[AM (by show H0.next+1<H0.next+2;omega) (by omega)];exact LY
 have gY:(((H0.push (.row (ints (List.replicate s.rows.length 0)) 3 false false)).push (.row [Z0,Z0,Z0] 70 false false)).put (H0.next+1) (.row [Z0,Z0,qS H0.next s.rows.length s.rows.length] 70 false false)).get (H0.next+1)=.row [Z0,Z0,qS H0.next s.rows.length s.rows.length] 70 false false:=
  BN rfl (by show H0.next+1<H0.next+2;omega)
 have gO1:∀ i,i<H0.next→(((H0.push (.row (ints (List.replicate s.rows.length 0)) 3 false false)).push (.row [Z0,Z0,Z0] 70 false false)).put (H0.next+1) (.row [Z0,Z0,qS H0.next s.rows.length s.rows.length] 70 false false)).get i=H0.get i:=fun i hi=>by
  rw[AM (by show H0.next+1<H0.next+2;omega) (by omega),AT (by show i<H0.next+1;omega),AT hi]
 have n1:(((H0.push (.row (ints (List.replicate s.rows.length 0)) 3 false false)).push (.row [Z0,Z0,Z0] 70 false false)).put (H0.next+1) (.row [Z0,Z0,qS H0.next s.rows.length s.rows.length] 70 false false)).next=H0.next+2:=rfl
 have f1:(((H0.push (.row (ints (List.replicate s.rows.length 0)) 3 false false)).push (.row [Z0,Z0,Z0] 70 false false)).put (H0.next+1) (.row [Z0,Z0,qS H0.next s.rows.length s.rows.length] 70 false false)).floor=H0.floor:=rfl
 generalize ((H0.push (.row (ints (List.replicate s.rows.length 0)) 3 false false)).push (.row [Z0,Z0,Z0] 70 false false)).put (H0.next+1) (.row [Z0,Z0,qS H0.next s.rows.length s.rows.length] 70 false false)=H1 at *
 refine WK.loop (fun i s'=>s'.T.get 1=.slice aw A.length cw∧s'.T.get 2=qP h.next 0∧s'.T.get 4=qP (h.next+1) 0∧s'.T.get 5=qP (H0.next+1) 0∧s'.T.get 7=iv (i:Int)∧i≤s.rows.length∧s'.h.next=H1.next∧s'.h.floor=H1.floor∧s'.T.get 6=iv (GB s.rows i:Int)∧s'.h.get H0.next=.row (ints (K8 A s.rows i)) 3 false false∧∀ j,j<H1.next→j≠H0.next→s'.h.get j=H1.get j) s.rows.length (by omega) ?_ ?_
 ·exact⟨by simp only[eE,seval,↓eP,rP],by simp only[eE,seval,↓eP,rP],by simp only[eE,seval,↓eP,rP],by simp only[eE,seval,↓eP,rP],by simp only[eE,seval,↓eP,rP],by omega,rfl,rfl,by simp only[eE,seval,↓eP,rP] <;> rfl,by rw[Di];exact gR,fun _ _ _=>rfl⟩
 rintro i ⟨T1,H2⟩ hi ⟨t1,t2,t4,t5,t7,hil,m1,m2,t6,gI,m3⟩
 obtain⟨c,hcd⟩:∃ c,c=GB s.rows i:=⟨_,rfl⟩
 obtain⟨rd,hrdd⟩:∃ rd,rd=K8 A s.rows i:=⟨_,rfl⟩
 rw[← hcd] at t6
 rw[← hrdd] at gI
 have hci:c≤i:=by rw[hcd];exact mV i
 have hrd:rd.length=s.rows.length:=by rw[hrdd];exact TE
 simp only at t1 t2 t4 t5 t7 m1 m2 t6 gI m3
 have oH2:∀ j,j<h.next→H2.get j=h.get j:=fun j hj=>by rw[m3 j (by omega) (by omega),gO1 j (by omega),gO j hj]
 have lP2:AS 1 (H2.get h.next)=some (.slice ar s.rows.length cr):=by rw[m3 _ (by omega) (by omega),gO1 _ (by omega)];exact lP1
 have g5:H2.get (H0.next+1)=.row [Z0,Z0,qS H0.next s.rows.length s.rows.length] 70 false false:=by rw[m3 _ (by omega) (by omega)];exact gY
 have l5:AS 2 (H2.get (H0.next+1))=some (qS H0.next s.rows.length s.rows.length):=by rw[g5];rfl
 have lw5:CB 3 0 (H2.get (H0.next+1))=some (.agg #[Z0,Z0,qS H0.next s.rows.length s.rows.length]):=by rw[g5];rfl
 have g4:H2.get (h.next+1)=.row [Z0,Z0,Z0] 70 false false:=by rw[m3 _ (by omega) (by omega),gO1 _ (by omega)];exact gZ
 have hst2:BJ Tryd.prog H2 70 (qP (h.next+1) 0) (.agg #[Z0,Z0,qS H0.next s.rows.length s.rows.length])=some (H2.put (h.next+1) (.row [Z0,Z0,qS H0.next s.rows.length s.rows.length] 70 false false)):=H_ (t:=70) O4 (vs:=[Z0,Z0,qS H0.next s.rows.length s.rows.length]) g4 rfl rfl rfl (by omega)
 have lE:CB 3 0 ((H2.put (h.next+1) (.row [Z0,Z0,qS H0.next s.rows.length s.rows.length] 70 false false)).get (h.next+1))=some (.agg #[Z0,Z0,qS H0.next s.rows.length s.rows.length]):=by rw[BN rfl (by omega)];rfl
 have fin:(i=s.rows.length∨A.length=0)→TG h s.rows A (.agg #[Z0,Z0,qS H0.next s.rows.length s.rows.length]) (H2.put (h.next+1) (.row [Z0,Z0,qS H0.next s.rows.length s.rows.length] 70 false false)):=by
  intro hfin
  have hre:rd=GC A s.rows:=by
   rw[hrdd]
   rcases hfin with h9 | h9
   ·rw[h9];exact i5
   ·have hA0:A=[]:=List.length_eq_zero_iff.1 h9
    rw[hA0,lT,← i5,lT]
  unfold TG
  rw[← hre]
  refine⟨H0.next,rfl,⟨_,_,_,rfl,AZ.nil _ _ _,AZ.nil _ _ _,?_⟩,by show H2.floor=_;omega,by show _≤H2.next;omega,fun j hj=>?_⟩
  ·rw[← hrd]
   exact AZ.row (ex:=[]) (by rw[AM (by omega) (by omega),List.append_nil];exact gI) ⟨by omega,by show _<H2.next;omega⟩ (by rw[FP];omega)
  ·rw[AM (by omega) (by omega),oH2 j hj]
 cases c1:decide ((i:Int)<(s.rows.length:Int)) with
 | false=>
  simp only[eE,seval,↓eP,hr,t1,t2,t4,t5,t6,t7,CL,CK,lP2,len1,c1,UH,lw5,hst2,lE]
  exact fin (.inl (by have:=of_decide_eq_false c1;omega))
 | true=>
 cases c2:decide ((A.length:Int)>0) with
 | false=>
  simp only[eE,seval,↓eP,hr,t1,t2,t4,t5,t6,t7,CL,CK,lP2,len1,len2,c1,c2,UH,lw5,hst2,lE]
  exact fin (.inr (by have:=of_decide_eq_false c2;omega))
 | true=>
 have d1:=of_decide_eq_true c1
 have d2:=of_decide_eq_true c2
 obtain⟨x,hx⟩:∃ x,s.rows[i]?=some x:=⟨_,List.getElem?_eq_getElem (by omega)⟩
 have p1':HT lo H2 (.slice ar s.rows.length cr) s.rows:=p1.mono (by omega) fun j _ hj=>oH2 j hj
 obtain⟨id,pk,b0,_,b2,_⟩:=p1'.1.row hx
 have w7:IntKind.i64.wrap ((i:Int)+1)=((i+1:Nat):Int):=by rw[B0 (by omega) (by omega)];omega
 cases c3:(x.kind==13) with
 | false=>
  simp only[eE,seval,↓eP,t1,t2,t4,t5,t6,t7,CL,CK,lP2,len1,len2,c1,c2,b0,DP,A_,b2,c3,w7]
  have hk9:x.kind≠13:=by simpa using c3
  obtain⟨k1,k2⟩:=Ha (A:=A) hx hk9
  exact⟨by omega,by omega,m1,m2,by rw[k2,← hcd],by rw[k1,← hrdd];exact gI,m3⟩
 | true=>
 have hwH:AK lw H2 (.slice aw A.length cw) A:=AK.mono hw (by omega) fun j _ hj=>oH2 j hj
 obtain⟨q,hq,hql⟩:∃ q:Nat,(c:Int).tmod (A.length:Int)=(q:Int)∧q<A.length:=by
  have h0:=Int.tmod_nonneg (A.length:Int) (show (0:Int)≤(c:Int) by omega)
  have h1:=Int.tmod_lt_of_pos (c:Int) d2
  exact⟨((c:Int).tmod (A.length:Int)).toNat,by omega,by omega⟩
 have hrem:=WH (P:=Tryd.prog) (t:=3) (x:=.tmp 36) (y:=.tmp 38) (k:=.i64) (a:=(c:Int)) (show (A.length:Int)≠0 by omega)
 rw[hq] at hrem
 obtain⟨a,ha⟩:∃ a,A[q]?=some a:=⟨_,List.getElem?_eq_getElem hql⟩
 obtain⟨ida,pa,ea,hida,la⟩:=AK.get hwH ha
 have e1:=GQ (id:=H0.next) (n:=s.rows.length) (c:=s.rows.length) (i:=i) (by omega)
 have hst3:BJ Tryd.prog H2 3 (qP H0.next i) (iv a)=some (H2.put H0.next (.row (ints (rd.set i a)) 3 false false)):=MG gI (by omega) (by omega)
 have w6:IntKind.i64.wrap ((c:Int)+1)=((c+1:Nat):Int):=by rw[B0 (by omega) (by omega)];omega
 have hA1:(H0.next+1<H2.next)=True:=by simp;omega
 have hA2:(ida<H2.next)=True:=by simp;exact hida
 simp only[eE,seval,↓eP,t1,t2,t4,t5,t6,t7,CL,CK,lP2,len1,len2,c1,c2,b0,DP,A_,b2,c3,w7]
 refine WK.flags (ops:=Z9) vC ?_
 refine BV.begin ?_
 have FF:=aQ @NI (aQ @t1 (aQ @t5 (aQ @t6 (aQ @t7 (aQ @TC (aQ @CX (aQ @l5 (aQ @len2 (aQ @hrem (aQ @ea (aQ @A_ (aQ @la (aQ @e1 (aQ @hst3 (aQ @hA1 (aQ @hA2 (aQ @C8 (aQ @GL (aQ @DD (aQ @D4 @IB))))))))))))))))))))
 refine AF hsn 0 (some 32) (.fieldAddr 70 (.tmp 5) 2) none ?_
 simp only[rG,seval,AB,AE,AD,Nat.zero_add,FF]
 refine AF hsn 1 (some 33) (.load 28 (.tmp 32)) none ?_
 simp only[rG,seval,AB,AE,AD,B_,FF]
 refine AF hsn 2 (some 34) (.move (.tmp 7)) none ?_
 simp only[rG,seval,AB,AE,AD,FF]
 refine AF hsn 3 (some 35) (.move (.tmp 1)) none ?_
 simp only[rG,seval,AB,AE,AD,FF]
 refine AF hsn 4 (some 36) (.move (.tmp 6)) none ?_
 simp only[rG,seval,AB,AE,AD,FF]
 refine AF hsn 5 (some 37) (.move (.tmp 1)) none ?_
 simp only[rG,seval,AB,AE,AD,FF]
 refine AF hsn 6 (some 38) (.call { callee:=.builtin .len,args:=#[.tmp 37],argTypes:=#[28] }) none ?_
 simp only[rG,seval,AB,AE,AD,CO,FF]
 refine AF hsn 7 (some 39) (.binOp .rem 3 (.tmp 36) (.tmp 38) 3) none ?_
 simp only[rG,seval,AB,AE,AD,Fsx,FF]
 refine AF hsn 8 (some 40) (.indexAddr 28 (.tmp 35) (.tmp 39)) none ?_
 simp only[rG,seval,AB,AE,AD,Nat.zero_add,FF]
 refine AF hsn 9 (some 41) (.load 3 (.tmp 40)) none ?_
 simp only[rG,seval,AB,AE,AD,B_,FF]
 refine AF hsn 10 (some 42) (.indexAddr 28 (.tmp 33) (.tmp 34)) none ?_
 simp only[rG,seval,AB,AE,AD,Nat.zero_add,FF]
 refine AF hsn 11 (none) (.store 3 (.tmp 42) (.tmp 41)) none ?_
 simp only[rG,seval,AB,AE,AD,DO,ED,FF]
 refine BV.done (i:=12) (by kernel_rfl) ?_
 clear FF
 simp only[eE,seval,↓eP,t6,t7,w6,w7]
 have hk9:x.kind=13:=by simpa using c3
 have hqc:q=GB s.rows i%A.length:=by
  rw[← hcd]
  have:((c%A.length:Nat):Int)=(q:Int):=by rw[← hq,Int.natCast_emod,Int.tmod_eq_emod_of_nonneg (by omega)]
  omega
 obtain⟨k1,k2⟩:=Rm (A:=A) hx hk9 (by rw[← hqc];exact ha)
 exact⟨by omega,t1,t2,t4,t5,by omega,m1,m2,by rw[k2,← hcd],by rw[← k1,← hrdd];exact BN rfl (by omega),fun j h1 h2=>by
  show (H2.put _ _).get j=_
  rw[AM (by omega) (Ne.symm h2),m3 j h1 h2]⟩
theorem Fc {nm:ByteArray} {s:AP} {pv w:Value} {A:List Int} {lo lw:Nat} (hp:C1 lo h pv nm s) (hw:AK lw h w A) (hl:s.rows.length<2932031007403) (hfl:h.floor≤h.next) (hn:s.rows.length+20<n) :
  ∃ v' h',AX n 42 [pv,w] h=some (v',h')∧TG h s.rows A v' h':=by
 obtain⟨n,rfl⟩:=D7 hn
 exact NG (CN ⟨rfl,rfl,rfl⟩) (vG (n:=n) (N:=n) hp hw hl hfl (by omega)) fun v' h1 hf _ ht=>by
  obtain⟨id,rfl,_⟩:=ht
  cases hf
end
end Go.Proofs.YtipekdhneagdbaaDoor
