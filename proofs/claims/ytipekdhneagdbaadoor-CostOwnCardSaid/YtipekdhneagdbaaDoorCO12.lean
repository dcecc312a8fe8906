/- Part 12 of what the claim leans on: 17 texts laid one behind another. -/
import Derived.Test.YtipekdhneagdbaaDoorCO11
import Derived.OpenShut
import Derived.WalkKit
import Derived.Carry
import Derived.ChangeArms
namespace Go.Proofs.YtipekdhneagdbaaDoor
open Go Go.Sx Go.ChangeShapes Go.WideShapes Go.ChangeAt Go.RowKit
set_option maxRecDepth 100000
set_option linter.unusedSimpArgs false
set_option linter.unusedVariables false
set_option maxHeartbeats 64000000
theorem RN:Tryd.prog.cellsOf 46=5:=by kernel_rfl
theorem PC:Tryd.prog.cellsOf 3=1:=by kernel_rfl
theorem TC:Tryd.prog.cellsOf 9=1:=by kernel_rfl
def LS (x:AE):Prop:=(-9223372036854775808≤x.kind∧x.kind≤9223372036854775807)∧(-9223372036854775808≤x.ends∧x.ends≤9223372036854775807)∧(-9223372036854775808≤x.n∧x.n≤9223372036854775807)∧(-9223372036854775808≤x.kids∧x.kids≤9223372036854775807)
section
variable {H:Type} {enc:TypeId × Value→H} {W:World} {base:Nat} {sp:Nat→Bool} {hd:Bool}
theorem ZE {n:Nat} {cs:List Value} {y:DataW H × List MemPlace} (h:DataW.trod enc Tryd.prog W base sp hd n 46 cs=some y):∃ x:AE,cs=AI x∧LS x:=by
 obtain⟨xs,m,_,_,hl,hxl,hf⟩:=DataW.trod_struct Tryd.underlying46 h
 rw[RN] at hl
 obtain⟨c0,c1,c2,c3,c4,rfl⟩:∃ c0 c1 c2 c3 c4,cs=[c0,c1,c2,c3,c4]:=by
  match cs,hl with
  | [a,b,c,d,e],_=>exact⟨a,b,c,d,e,rfl⟩
 have hxl:xs.length=5:=hxl
 have g:∀ i,i<5→∃ y,xs[i]?=some y:=fun i hi=>⟨_,List.getElem?_eq_getElem (by omega)⟩
 obtain⟨y0,e0⟩:=g 0 (by omega)
 obtain⟨y1,e1⟩:=g 1 (by omega)
 obtain⟨y2,e2⟩:=g 2 (by omega)
 obtain⟨y3,e3⟩:=g 3 (by omega)
 obtain⟨y4,e4⟩:=g 4 (by omega)
 have f0:DataW.trod enc Tryd.prog W base sp hd m 3 (([c0,c1,c2,c3,c4].drop 0).take (Tryd.prog.cellsOf 3))=xs[0]?:=hf 0 _ rfl
 rw[PC,e0] at f0
 have f1:DataW.trod enc Tryd.prog W base sp hd m 9 (([c0,c1,c2,c3,c4].drop 1).take (Tryd.prog.cellsOf 9))=xs[1]?:=hf 1 _ rfl
 rw[TC,e1] at f1
 have f2:DataW.trod enc Tryd.prog W base sp hd m 3 (([c0,c1,c2,c3,c4].drop 2).take (Tryd.prog.cellsOf 3))=xs[2]?:=hf 2 _ rfl
 rw[PC,e2] at f2
 have f3:DataW.trod enc Tryd.prog W base sp hd m 3 (([c0,c1,c2,c3,c4].drop 3).take (Tryd.prog.cellsOf 3))=xs[3]?:=hf 3 _ rfl
 rw[PC,e3] at f3
 have f4:DataW.trod enc Tryd.prog W base sp hd m 3 (([c0,c1,c2,c3,c4].drop 4).take (Tryd.prog.cellsOf 3))=xs[4]?:=hf 4 _ rfl
 rw[PC,e4] at f4
 obtain⟨a,ha,_,wa⟩:=DataW.trod_int Tryd.underlying3 f0
 obtain⟨b,hb,_,wb⟩:=DataW.trod_string Tryd.underlying9 f1
 obtain⟨c,hc,_,wc⟩:=DataW.trod_int Tryd.underlying3 f2
 obtain⟨d,hd,_,wd⟩:=DataW.trod_int Tryd.underlying3 f3
 obtain⟨e,he,_,we⟩:=DataW.trod_int Tryd.underlying3 f4
 cases ha
 cases hb
 cases hc
 cases hd
 cases he
 exact⟨⟨a,b,c,d,e⟩,rfl,bounds_i64 wa,bounds_i64 wc,bounds_i64 wd,bounds_i64 we⟩
end
theorem XQ {b off k:Nat}:(⟨b,off,none⟩:Addr).add k=⟨b,off+k,none⟩:=by
 unfold Addr.add
 split
 ·rename_i e;subst e;rfl
 ·rfl
theorem eR {W:World} {base b off n:Nat} {cs:List Value} (h:W.cells? base ⟨b,off,none⟩ n=some cs):cs.length=n∧∀ i,i<n→W.cell? ⟨b,off+i,none⟩=cs[i]?:=by
 unfold World.cells? at h
 split at h
 ·refine⟨by simpa using mapM_some_length h,fun i hi=>?_⟩
  have:=mapM_some_get h i i (by simp[hi])
  rw[← this,XQ]
 ·cases h
theorem Y9 {x:AE} {j:Nat} {v:Value} (h:(AI x)[j]?=some v):B9 v=true:=by
 match j,h with
 | 0,h=>cases h;rfl
 | 1,h=>cases h;rfl
 | 2,h=>cases h;rfl
 | 3,h=>cases h;rfl
 | 4,h=>cases h;rfl
end Go.Proofs.YtipekdhneagdbaaDoor
namespace Go.Proofs.YtipekdhneagdbaaDoor
open Go Go.Sx
set_option maxRecDepth 100000
set_option linter.unusedSimpArgs false
set_option linter.unusedVariables false
set_option maxHeartbeats 64000000
def K0 (a b:AE):Bool:=a.kind==b.kind&&(a.name==b.name&&(a.ends==b.ends&&(a.n==b.n&&a.kids==b.kids)))
theorem QL {P:Program} {t:TypeId} {a b:ByteArray} (h:P.underlying t=some .string) (d:Nat):BE P (Op.equalIn (d+1) t (.string a) (.string b))=some (a==b):=by
 rw[Op.equalIn,CY,NC h]
 simp[IF]
theorem rB {P:Program} {t:TypeId} {a b:Bool} (h:P.underlying t=some .bool) (d:Nat):BE P (Op.equalIn (d+1) t (.bool a) (.bool b))=some (a==b):=by
 rw[Op.equalIn,CY,NC h]
 simp[IF]
theorem Ek:Tryd.prog.stoodInHeld 46=false:=by kernel_rfl
theorem Kj:Tryd.prog.stoodInHeld 57=false:=by kernel_rfl
theorem TW {a c d e:Int} {b:ByteArray}:BE Tryd.prog (part 3 #[.int .i64 a,.string b,.int .i64 c,.int .i64 d,.int .i64 e] 0)=some (.int .i64 a)∧BE Tryd.prog (part 9 #[.int .i64 a,.string b,.int .i64 c,.int .i64 d,.int .i64 e] 1)=some (.string b)∧BE Tryd.prog (part 3 #[.int .i64 a,.string b,.int .i64 c,.int .i64 d,.int .i64 e] 2)=some (.int .i64 c) ∧
  BE Tryd.prog (part 3 #[.int .i64 a,.string b,.int .i64 c,.int .i64 d,.int .i64 e] 3)=some (.int .i64 d)∧BE Tryd.prog (part 3 #[.int .i64 a,.string b,.int .i64 c,.int .i64 d,.int .i64 e] 4)=some (.int .i64 e):=⟨rfl,rfl,rfl,rfl,rfl⟩
theorem mL {a:ByteArray} {b:Bool}:BE Tryd.prog (part 9 #[.string a,.bool b] 0)=some (.string a)∧BE Tryd.prog (part 4 #[.string a,.bool b] 1)=some (.bool b):=⟨rfl,rfl⟩
theorem vR {a b:AE} (n:Nat):BE Tryd.prog (Op.equalIn (n+2) 46 (DM a) (DM b))=some (K0 a b):=by
 obtain⟨a1,a2,a3,a4,a5⟩:=a
 obtain⟨b1,b2,b3,b4,b5⟩:=b
 show BE Tryd.prog (Op.equalIn (n+2) 46 (.agg #[.int .i64 a1,.string a2,.int .i64 a3,.int .i64 a4,.int .i64 a5]) (.agg #[.int .i64 b1,.string b2,.int .i64 b3,.int .i64 b4,.int .i64 b5]))=some (a1==b1&&(a2==b2&&(a3==b3&&(a4==b4&&a5==b5))))
 rw[Op.equalIn,CY,NC Tryd.underlying46]
 simp only[Option.bind_some,CY,LR,Ek,Bool.false_eq_true,if_false]
 simp only[List.forIn_toArray,List.forIn_cons,List.forIn_nil,ne_eq,String.reduceEq,not_false_eq_true,if_true,CY,TW.1,Option.bind_some,LN Tryd.underlying3,QL Tryd.underlying9]
 cases h1:(a1==b1) <;> simp[CY,IF,TW.2.1,LN Tryd.underlying3,QL Tryd.underlying9,-beq_iff_eq,-beq_eq_false_iff_ne]
 cases h2:(a2==b2) <;> simp[CY,IF,TW.2.2.1,LN Tryd.underlying3,QL Tryd.underlying9,-beq_iff_eq,-beq_eq_false_iff_ne]
 cases h3:(a3==b3) <;> simp[CY,IF,TW.2.2.2.1,LN Tryd.underlying3,QL Tryd.underlying9,-beq_iff_eq,-beq_eq_false_iff_ne]
 cases h4:(a4==b4) <;> simp[CY,IF,TW.2.2.2.2,LN Tryd.underlying3,QL Tryd.underlying9,-beq_iff_eq,-beq_eq_false_iff_ne]
 cases h5:(a5==b5) <;> simp[IF,-beq_iff_eq,-beq_eq_false_iff_ne]
theorem wS {a c:ByteArray} {b d:Bool} (n:Nat):BE Tryd.prog (Op.equalIn (n+2) 57 (.agg #[.string a,.bool b]) (.agg #[.string c,.bool d]))=some (a==c&&b==d):=by
 rw[Op.equalIn,CY,NC Tryd.underlying57]
 simp only[Option.bind_some,CY,LR,Kj,Bool.false_eq_true,if_false]
 simp only[List.forIn_toArray,List.forIn_cons,List.forIn_nil,ne_eq,String.reduceEq,not_false_eq_true,if_true,CY,mL.1,Option.bind_some,QL Tryd.underlying9,rB Tryd.underlying4]
 cases h1:(a==c) <;> simp[CY,IF,mL.2,QL Tryd.underlying9,rB Tryd.underlying4,-beq_iff_eq,-beq_eq_false_iff_ne]
 cases h2:(b==d) <;> simp[IF,-beq_iff_eq,-beq_eq_false_iff_ne]
theorem j_ {a:AE}:flat (DM a)=true:=rfl
theorem rN {a:ByteArray} {b:Bool}:flat (.agg #[.string a,.bool b])=true:=rfl
section
variable {x y:Operand}
theorem pE (op:BinOp) (neg:Bool) (hop:op=if neg then .neq else .eql) {a b:AE}:CJ Tryd.prog op 46 x y (DM a) (DM b)=some (.bool (if neg then !(K0 a b) else K0 a b)):=by
 have k:BE Tryd.prog (Op.equal 46 (DM a) (DM b))=some (K0 a b):=vR 9998
 cases neg with
 | true=>
  subst hop
  have e:BE Tryd.prog (do eqGuard .neq 46 x y (DM a) (DM b);binOp .neq 46 (DM a) (DM b))=some (.bool (!(K0 a b))):=by
   rw[CY]
   have g:BE Tryd.prog (eqGuard .neq 46 x y (DM a) (DM b))=some ():=by
    unfold eqGuard
    simp[CY,LR,IF]
   rw[g]
   show BE Tryd.prog ((do pure (.bool (!(← Op.equal 46 (DM a) (DM b))))):Sem Value)=_
   rw[CY,k]
   rfl
  simp only[CJ,j_,Bool.and_self,if_true,e,KX]
 | false=>
  subst hop
  have e:BE Tryd.prog (do eqGuard .eql 46 x y (DM a) (DM b);binOp .eql 46 (DM a) (DM b))=some (.bool (K0 a b)):=by
   rw[CY]
   have g:BE Tryd.prog (eqGuard .eql 46 x y (DM a) (DM b))=some ():=by
    unfold eqGuard
    simp[CY,LR,IF]
   rw[g]
   show BE Tryd.prog ((do pure (.bool (← Op.equal 46 (DM a) (DM b)))):Sem Value)=_
   rw[CY,k]
   rfl
  simp only[Bool.false_eq_true,if_false,CJ,j_,Bool.and_self,if_true,e,KX]
theorem iO {a b:AE}:CJ Tryd.prog .neq 46 x y (DM a) (DM b)=some (.bool (!(K0 a b))):=pE .neq true rfl
theorem tA (op:BinOp) (neg:Bool) (hop:op=if neg then .neq else .eql) {a c:ByteArray} {b d:Bool}:CJ Tryd.prog op 57 x y (.agg #[.string a,.bool b]) (.agg #[.string c,.bool d])=some (.bool (if neg then !(a==c&&b==d) else (a==c&&b==d))):=by
 have k:BE Tryd.prog (Op.equal 57 (.agg #[.string a,.bool b]) (.agg #[.string c,.bool d]))=some (a==c&&b==d):=wS 9998
 cases neg with
 | true=>
  subst hop
  have e:BE Tryd.prog (do eqGuard .neq 57 x y (.agg #[.string a,.bool b]) (.agg #[.string c,.bool d]);binOp .neq 57 (.agg #[.string a,.bool b]) (.agg #[.string c,.bool d]))=some (.bool (!(a==c&&b==d))):=by
   rw[CY]
   have g:BE Tryd.prog (eqGuard .neq 57 x y (.agg #[.string a,.bool b]) (.agg #[.string c,.bool d]))=some ():=by
    unfold eqGuard
    simp[CY,LR,IF]
   rw[g]
   show BE Tryd.prog ((do pure (.bool (!(← Op.equal 57 (.agg #[.string a,.bool b]) (.agg #[.string c,.bool d]))))):Sem Value)=_
   rw[CY,k]
   rfl
  simp only[CJ,rN,Bool.and_self,if_true,e,KX]
 | false=>
  subst hop
  have e:BE Tryd.prog (do eqGuard .eql 57 x y (.agg #[.string a,.bool b]) (.agg #[.string c,.bool d]);binOp .eql 57 (.agg #[.string a,.bool b]) (.agg #[.string c,.bool d]))=some (.bool (a==c&&b==d)):=by
   rw[CY]
   have g:BE Tryd.prog (eqGuard .eql 57 x y (.agg #[.string a,.bool b]) (.agg #[.string c,.bool d]))=some ():=by
    unfold eqGuard
    simp[CY,LR,IF]
   rw[g]
   show BE Tryd.prog ((do pure (.bool (← Op.equal 57 (.agg #[.string a,.bool b]) (.agg #[.string c,.bool d])))):Sem Value)=_
   rw[CY,k]
   rfl
  simp only[Bool.false_eq_true,if_false,CJ,rN,Bool.and_self,if_true,e,KX]
theorem qJ {a c:ByteArray} {b d:Bool}:CJ Tryd.prog .neq 57 x y (.agg #[.string a,.bool b]) (.agg #[.string c,.bool d])=some (.bool (!(a==c&&b==d))):=tA .neq true rfl
end
theorem vF {a b:ByteArray}:(a==b)=true↔a=b:=by
 obtain⟨a⟩:=a
 obtain⟨b⟩:=b
 show (a==b)=true↔_
 rw[beq_iff_eq,ByteArray.mk.injEq]
theorem R5 {a b:AE}:K0 a b=true↔a=b:=by
 obtain⟨a1,a2,a3,a4,a5⟩:=a
 obtain⟨b1,b2,b3,b4,b5⟩:=b
 unfold K0
 simp only[Bool.and_eq_true,beq_iff_eq,vF,AE.mk.injEq]
theorem I7 {lo:Nat} {h:AA} {v:Value} {n w:Nat} {cs:List Value} (hc:A7 lo h v n w cs) (h':AA):BZ Tryd.prog h' 28 v=some (iv (n:Int)):=A7.len hc Tryd.underlying28
theorem NP {lo:Nat} {h:AA} {v:Value} {n w:Nat} {cs:List Value} (hc:A7 lo h v n w cs) (h':AA):BZ Tryd.prog h' 27 v=some (iv (n:Int)):=A7.len hc Tryd.underlying27
theorem PW {lo:Nat} {h:AA} {v:Value} {n w:Nat} {cs:List Value} (hc:A7 lo h v n w cs) (h':AA):BZ Tryd.prog h' 26 v=some (iv (n:Int)):=A7.len hc Tryd.underlying26
theorem YY {lo:Nat} {h:AA} {v:Value} {n w:Nat} {cs:List Value} (hc:A7 lo h v n w cs) (h':AA):BZ Tryd.prog h' 22 v=some (iv (n:Int)):=A7.len hc Tryd.underlying22
theorem Y_ {l:List ByteArray} {i:Nat} {x:ByteArray} (hx:l[i]?=some x) {lo:Nat} {h:AA} {v:Value} (hc:A7 lo h v l.length 1 (DZ l)):∃ id p,CO Tryd.prog 27 v (iv (i:Int))=some (qP id p)∧id<h.next∧AO p (h.get id)=some (.string x):=by
 obtain⟨id,p,h1,h2,h3⟩:=A7.idx hc Tryd.underlying27 GF (List.getElem?_eq_some_iff.1 hx).1
 refine⟨id,p,h1,h2,?_⟩
 have:=h3 0 (by decide)
 rw[Nat.add_zero] at this
 rw[this,Nat.mul_one,Nat.add_zero,DZ,List.getElem?_map,hx]
 rfl
theorem nZ:∀ {l:List (ByteArray × Bool)} {i:Nat} {x:ByteArray × Bool},l[i]?=some x→((IE l).drop (i*2)).take 2=[.string x.1,.bool x.2]
 | [],i,x,h=>by simp at h
 | q :: l,0,x,h=>by
  simp only[List.getElem?_cons_zero,Option.some.injEq] at h
  subst h
  rfl
 | q :: l,i+1,x,h=>by
  have:=nZ (l:=l) (i:=i) (x:=x) (by simpa using h)
  rw[← this,show (i+1)*2=i*2+2 by omega]
  rfl
theorem YI {l:List (ByteArray × Bool)} {i:Nat} {x:ByteArray × Bool} (hx:l[i]?=some x) {lo:Nat} {h:AA} {v:Value} (hc:A7 lo h v l.length 2 (IE l)):∃ id p,CO Tryd.prog 26 v (iv (i:Int))=some (qP id p)∧id<h.next∧BL 2 p (h.get id)=some (.agg #[.string x.1,.bool x.2]):=by
 obtain⟨id,p,h1,h2,h3⟩:=A7.whole hc Tryd.underlying26 LY (List.getElem?_eq_some_iff.1 hx).1
 rw[nZ hx] at h3
 exact⟨id,p,h1,h2,h3⟩
theorem PO {α:Type} {A B:List α} (hl:A.length=B.length) (h:∀ j,j<A.length→A[j]?=B[j]?):A=B:=by
 apply List.ext_getElem?
 intro j
 rcases Nat.lt_or_ge j A.length with h1 | h1
 ·exact h j h1
 ·rw[List.getElem?_eq_none h1,List.getElem?_eq_none (by omega)]
theorem Qg:FK Tryd.prog 57=some true:=by kernel_rfl
theorem lV {h:AA} {id off:Nat}:EI Tryd.prog h 57 (qP id off)=BL 2 off (h.get id):=MV Qg LY
def bS:List (Bool × Bool × List Operand):=[AW,AW,AW,AW,AJ [.tmp 19],AJ [.tmp 19],AJ [.tmp 19],AJ [.tmp 19],AL]
section
variable {call:AT} {N:Nat} {h:AA}
theorem Oj (hsn:CK call) {va vb:Value} {A B:List Int} {la lb:Nat} (ha:AN la h va A) (hb:AN lb h vb B) (hN:A.length+3<N) (hl:A.length<30000000000000):A9 Tryd.prog call N 35 [va,vb] h=some (.bool (decide (A=B)),h):=by
 refine EA Tryd.func35 rfl (by simp[Tryd.f35]) ?_
 have hr:Tryd.f35.results.toList=[.tmp 4]:=rfl
 have lA:=fun h'=>I7 ha h'
 have lB:=fun h'=>I7 hb h'
 cases d:((A.length:Int) != (B.length:Int)) with
 | true=>
  have hne:A≠B:=fun e=>by subst e;simp at d
  rw[decide_eq_false hne]
  simp only[eE,↓reduceIte,Nat.reduceEqDiff,reduceCtorEq,↓eP,hr,lA,lB,d]
 | false=>
  have hlen:A.length=B.length:=by
   have h9:(A.length:Int)=(B.length:Int):=by simpa using d
   omega
  simp only[eE,↓reduceIte,Nat.reduceEqDiff,reduceCtorEq,↓eP,lA,lB,d]
  refine WK.loop (fun i s'=>s'.T.get 0=va∧s'.T.get 1=vb∧s'.T.get 5=iv i∧s'.h=h∧i≤A.length∧∀ j,j<i→A[j]?=B[j]?) A.length (by omega) ?_ ?_
  ·simp only[eE,↓reduceIte,Nat.reduceEqDiff,reduceCtorEq,↓eP,rP,Nat.reduceAdd,Nat.reduceLT]
   exact⟨rfl,fun j hj=>by omega⟩
  ·rintro i ⟨T1,H1⟩ hi ⟨t0,t1,t5,hh,hil,hsame⟩
   simp only at t0 t1 t5 hh
   subst hh
   by_cases hlt:i<A.length
   ·have c1:decide ((i:Int)<(A.length:Int))=true:=by simp;omega
    obtain⟨x,hx⟩:∃ x,A[i]?=some x:=⟨_,List.getElem?_eq_getElem hlt⟩
    obtain⟨y,hy⟩:∃ y,B[i]?=some y:=⟨_,List.getElem?_eq_getElem (by omega)⟩
    obtain⟨ida,pa,ea,_,xa⟩:=AN.get ha hx
    obtain⟨idb,pb,eb,_,xb⟩:=AN.get hb hy
    have w1:=C6 i (by omega)
    simp only[eE,seval,↓eP,t0,t1,t5,lA,c1]
    refine WK.flags (fs:=bS) (by kernel_rfl) ?_
    unfold bS
    iterate 9
     refine HY hsn ?_
     simp only[rG,seval,AB,AD,AC,BU,CF,DP,EE,GN,t0,t1,t5,ea,eb,A_,xa,xb,S6]
    refine H8 ?_
    cases e:(x != y) with
    | true=>
     have hne:A≠B:=fun h9=>by
      subst h9
      rw[hx] at hy
      cases hy
      simp at e
     rw[decide_eq_false hne]
     simp only[eE,seval,↓eP,hr,e]
    | false=>
     have hxy:x=y:=by simpa using e
     simp only[eE,seval,↓eP,t0,t1,t5,e,w1]
     refine⟨by omega,by omega,fun j hj=>?_⟩
     rcases Nat.lt_or_ge j i with h1 | h1
     ·exact hsame j h1
     ·have:j=i:=by omega
      subst this
      rw[hx,hy,hxy]
   ·have c1:decide ((i:Int)<(A.length:Int))=false:=by simp;omega
    have:i=A.length:=by omega
    subst this
    have hAB:A=B:=PO hlen hsame
    rw[decide_eq_true hAB]
    simp only[eE,seval,↓eP,hr,t0,t1,t5,lA,c1]
end
def aJ:List (Bool × Bool × List Operand):=[AW,AW,AW,AW,AJ [.tmp 19],AJ [.tmp 19],AJ [.tmp 19],AJ [.tmp 19],AL]
section
variable {call:AT} {N:Nat} {h:AA}
theorem Ao (hsn:CK call) {va vb:Value} {A B:List ByteArray} {la lb:Nat} (ha:A7 la h va A.length 1 (DZ A)) (hb:A7 lb h vb B.length 1 (DZ B)) (hN:A.length+3<N) (hl:A.length<30000000000000):A9 Tryd.prog call N 64 [va,vb] h=some (.bool (decide (A=B)),h):=by
 refine EA Tryd.func64 rfl (by simp[Tryd.f64]) ?_
 have hr:Tryd.f64.results.toList=[.tmp 4]:=rfl
 have lA:=fun h'=>NP ha h'
 have lB:=fun h'=>NP hb h'
 cases d:((A.length:Int) != (B.length:Int)) with
 | true=>
  have hne:A≠B:=fun e=>by subst e;simp at d
  rw[decide_eq_false hne]
  simp only[eE,↓reduceIte,Nat.reduceEqDiff,reduceCtorEq,↓eP,hr,lA,lB,d]
 | false=>
  have hlen:A.length=B.length:=by
   have h9:(A.length:Int)=(B.length:Int):=by simpa using d
   omega
  simp only[eE,↓reduceIte,Nat.reduceEqDiff,reduceCtorEq,↓eP,lA,lB,d]
  refine WK.loop (fun i s'=>s'.T.get 0=va∧s'.T.get 1=vb∧s'.T.get 5=iv i∧s'.h=h∧i≤A.length∧∀ j,j<i→A[j]?=B[j]?) A.length (by omega) ?_ ?_
  ·simp only[eE,↓reduceIte,Nat.reduceEqDiff,reduceCtorEq,↓eP,rP,Nat.reduceAdd,Nat.reduceLT]
   exact⟨rfl,fun j hj=>by omega⟩
  ·rintro i ⟨T1,H1⟩ hi ⟨t0,t1,t5,hh,hil,hsame⟩
   simp only at t0 t1 t5 hh
   subst hh
   by_cases hlt:i<A.length
   ·have c1:decide ((i:Int)<(A.length:Int))=true:=by simp;omega
    obtain⟨x,hx⟩:∃ x,A[i]?=some x:=⟨_,List.getElem?_eq_getElem hlt⟩
    obtain⟨y,hy⟩:∃ y,B[i]?=some y:=⟨_,List.getElem?_eq_getElem (by omega)⟩
    obtain⟨ida,pa,ea,_,xa⟩:=Y_ hx ha
    obtain⟨idb,pb,eb,_,xb⟩:=Y_ hy hb
    have w1:=C6 i (by omega)
    simp only[eE,seval,↓eP,t0,t1,t5,lA,c1]
    refine WK.flags (fs:=aJ) (by kernel_rfl) ?_
    unfold aJ
    iterate 9
     refine HY hsn ?_
     simp only[rG,seval,AB,AD,AC,BU,CF,DP,EE,GN,t0,t1,t5,ea,eb,FN,xa,xb,I5]
    refine H8 ?_
    cases e:(!(x==y)) with
    | true=>
     have hne:A≠B:=fun h9=>by
      subst h9
      rw[hx] at hy
      cases hy
      rw[M4] at e;cases e
     rw[decide_eq_false hne]
     simp only[eE,seval,↓eP,hr,e]
    | false=>
     have hxy:x=y:=LK (by simpa using e)
     simp only[eE,seval,↓eP,t0,t1,t5,e,w1]
     refine⟨by omega,by omega,fun j hj=>?_⟩
     rcases Nat.lt_or_ge j i with h1 | h1
     ·exact hsame j h1
     ·have:j=i:=by omega
      subst this
      rw[hx,hy,hxy]
   ·have c1:decide ((i:Int)<(A.length:Int))=false:=by simp;omega
    have:i=A.length:=by omega
    subst this
    have hAB:A=B:=PO hlen hsame
    rw[decide_eq_true hAB]
    simp only[eE,seval,↓eP,hr,t0,t1,t5,lA,c1]
end
theorem ZA {n:Nat} {h:AA} {va vb:Value} {A B:List Int} {la lb:Nat} (ha:AN la h va A) (hb:AN lb h vb B) (hl:A.length<2932031007403) (hn:A.length+5<n):AX n 35 [va,vb] h=some (.bool (decide (A=B)),h):=by
 obtain⟨n,rfl⟩:=D3 hn
 exact JJ (CP ⟨rfl,rfl,rfl⟩) rfl (Oj (FH n).2 ha hb (by omega) (by omega))
theorem sJ {n:Nat} {h:AA} {va vb:Value} {A B:List ByteArray} {la lb:Nat} (ha:A7 la h va A.length 1 (DZ A)) (hb:A7 lb h vb B.length 1 (DZ B)) (hl:A.length<2932031007403) (hn:A.length+5<n):AX n 64 [va,vb] h=some (.bool (decide (A=B)),h):=by
 obtain⟨n,rfl⟩:=D3 hn
 exact JJ (CP ⟨rfl,rfl,rfl⟩) rfl (Ao (FH n).2 ha hb (by omega) (by omega))
def cP:List (Bool × Bool × List Operand):=[AW,AW,AJ [.tmp 44],AW,AW,AJ [.tmp 44,.tmp 47],AJ [.tmp 44,.tmp 47],AJ [.tmp 44,.tmp 47,.tmp 49],AJ [.tmp 44,.tmp 47],AJ [.tmp 44,.tmp 47],AL]
def dO:List (Bool × Bool × List Operand):=[AW,AW,AJ [.tmp 62],AW,AW,AJ [.tmp 62,.tmp 65],AJ [.tmp 62,.tmp 65],AJ [.tmp 62,.tmp 65,.tmp 67],AJ [.tmp 62,.tmp 65],AJ [.tmp 62,.tmp 65],AL]
def NL (nm nm':ByteArray) (s s':AS):Prop:=nm=nm'∧s.miss=s'.miss∧s.rows=s'.rows∧s.queues=s'.queues∧s.vars=s'.vars∧s.tags=s'.tags∧s.rules=s'.rules∧s.on=s'.on
noncomputable def S3:Code:=rt (rt (Tryd.f19.body.getD .skip))
noncomputable def S8:Code:=rt S3
noncomputable def Gl:Code:=rt S8
theorem O3 {a b c d e f g i:Value} {ty:TypeId} {x y:Bool}:AO 0 (.row [a,b,c,d,e,f,g,i] ty x y)=some a∧AO 1 (.row [a,b,c,d,e,f,g,i] ty x y)=some b∧AO 2 (.row [a,b,c,d,e,f,g,i] ty x y)=some c∧AO 3 (.row [a,b,c,d,e,f,g,i] ty x y)=some d∧AO 4 (.row [a,b,c,d,e,f,g,i] ty x y)=some e∧AO 5 (.row [a,b,c,d,e,f,g,i] ty x y)=some f∧AO 6 (.row [a,b,c,d,e,f,g,i] ty x y)=some g∧AO 7 (.row [a,b,c,d,e,f,g,i] ty x y)=some i:=⟨rfl,rfl,rfl,rfl,rfl,rfl,rfl,rfl⟩
def IJ (s:AS):Prop:=s.rows.length<2932031007403∧s.queues.length<2932031007403∧s.vars.length<2932031007403∧s.tags.length<2932031007403∧s.rules.length<2932031007403∧s.on.length<2932031007403
def F8 (s:AS):Nat:=s.rows.length+s.queues.length+s.vars.length+s.tags.length+s.rules.length+s.on.length
section
variable {n N:Nat}
theorem xI (hsn:CK (AX n)) {nm nm':ByteArray} {s s':AS} {pa pb:Value} {la lb:Nat} {h:AA} (ha:DJ la h pa nm s) (hb:DJ lb h pb nm' s') (hs:IJ s) (hn:F8 s+10<n) (hN:F8 s+10<N) :
  ∃ b h1,A9 Tryd.prog (AX n) N 19 [pa,pb] h=some (.bool b,h1)∧(b=true↔NL nm nm' s s')∧∀ i,i<h.next→h1.get i=h.get i:=by
 obtain⟨ar,aq,av,at_,au,ao,rfl,a1,a2,a3,a4,a5,a6⟩:=ha
 obtain⟨br,bq,bv,bt,bu,bo,rfl,b1,b2,b3,b4,b5,b6⟩:=hb
 suffices hsuf:∃ v h1,A9 Tryd.prog (AX n) N 19 [.agg #[.string nm,ar,aq,av,at_,au,ao,iv s.miss],.agg #[.string nm',br,bq,bv,bt,bu,bo,iv s'.miss]] h=some (v,h1)∧(∃ b,v=.bool b∧(b=true↔NL nm nm' s s')∧∀ i,i<h.next→h1.get i=h.get i) by
  obtain⟨v,h1,e1,b,rfl,e2⟩:=hsuf
  exact⟨b,h1,e1,e2⟩
 refine MO (R:=fun v h1=>∃ b,v=.bool b∧(b=true↔NL nm nm' s s')∧∀ i,i<h.next→h1.get i=h.get i) Tryd.func19 rfl (by simp[Tryd.f19]) ?_
 have hr:Tryd.f19.results.toList=[.tmp 4]:=rfl
 unfold F8 at hn hN
 obtain⟨q1,q2,q3,q4,q5,q6⟩:=hs
 have ca:=F7 [.string nm,ar,aq,av,at_,au,ao,iv s.miss]
 have cb:=F7 [.string nm',br,bq,bv,bt,bu,bo,iv s'.miss]
 have oa:([.string nm,ar,aq,av,at_,au,ao,iv s.miss]:List Value).all one=true:=by
  simp only[List.all_cons,List.all_nil,a1.2.one,a2.one,a3.one,a4.one,A7.one a5,A7.one a6,OL,JY,Bool.and_self]
 have ob:([.string nm',br,bq,bv,bt,bu,bo,iv s'.miss]:List Value).all one=true:=by
  simp only[List.all_cons,List.all_nil,b1.2.one,b2.one,b3.one,b4.one,A7.one b5,A7.one b6,OL,JY,Bool.and_self]
 have gA:=MM (h:=h) (o:=.row [.string nm,ar,aq,av,at_,au,ao,iv s.miss] 30 false false) (o':=.row [.string nm',br,bq,bv,bt,bu,bo,iv s'.miss] 30 false false)
 have gB:=MN (h:=h) (o:=.row [.string nm,ar,aq,av,at_,au,ao,iv s.miss] 30 false false) (o':=.row [.string nm',br,bq,bv,bt,bu,bo,iv s'.miss] 30 false false)
 have gO:∀ i,i<h.next→((h.push (.row [.string nm,ar,aq,av,at_,au,ao,iv s.miss] 30 false false)).push (.row [.string nm',br,bq,bv,bt,bu,bo,iv s'.miss] 30 false false)).get i=h.get i:=fun i hi=>by rw[AP (by show i<h.next+1;omega),AP hi]
 show WK _ _ _ (.seq _ (.seq _ S3)) _ _
 simp only[eE,seval,↓eP,DC,C8,C4,ca,cb,oa,ob,HM]
 have nH:((h.push (.row [.string nm,ar,aq,av,at_,au,ao,iv s.miss] 30 false false)).push (.row [.string nm',br,bq,bv,bt,bu,bo,iv s'.miss] 30 false false)).next=h.next+2:=rfl
 generalize (h.push (.row [.string nm,ar,aq,av,at_,au,ao,iv s.miss] 30 false false)).push (.row [.string nm',br,bq,bv,bt,bu,bo,iv s'.miss] 30 false false)=H at *
 generalize hKK:B7.top _=K
 have fin:∀ (T':Tr) b,T'.get 4=.bool b→(b=true↔NL nm nm' s s')→K.ap Tryd.prog (AX n) N .ret ⟨T',H⟩:=by
  intro T' b h4 hb
  rw[← hKK]
  simp only[eE,seval,↓eP,hr,h4]
  exact⟨b,rfl,hb,gO⟩
 have fno:∀ (T':Tr),T'.get 4=.bool false→¬ NL nm nm' s s'→K.ap Tryd.prog (AX n) N .ret ⟨T',H⟩:=fun T' h4 hn=>fin T' false h4 ⟨fun h=>(by cases h),fun h=>absurd h hn⟩
 clear hKK
 have hN':h.next≤H.next:=by omega
 have A1:=a1.mono hN' fun i _ hi=>gO i hi
 have A2:=a2.mono hN' fun i _ hi=>gO i hi
 have A3:=a3.mono hN' fun i _ hi=>gO i hi
 have A4:=a4.mono hN' fun i _ hi=>gO i hi
 have A5:=AN.mono a5 hN' fun i _ hi=>gO i hi
 have A6:=AN.mono a6 hN' fun i _ hi=>gO i hi
 have B1:=b1.mono hN' fun i _ hi=>gO i hi
 have B2:=b2.mono hN' fun i _ hi=>gO i hi
 have B3:=b3.mono hN' fun i _ hi=>gO i hi
 have B4:=b4.mono hN' fun i _ hi=>gO i hi
 have B5:=AN.mono b5 hN' fun i _ hi=>gO i hi
 have B6:=AN.mono b6 hN' fun i _ hi=>gO i hi
 obtain⟨x0,x1,x2,x3,x4,x5,x6,x7⟩:=O3 (a:=.string nm) (b:=ar) (c:=aq) (d:=av) (e:=at_) (f:=au) (g:=ao) (i:=iv s.miss) (ty:=30) (x:=false) (y:=false)
 obtain⟨y0,y1,y2,y3,y4,y5,y6,y7⟩:=O3 (a:=.string nm') (b:=br) (c:=bq) (d:=bv) (e:=bt) (f:=bu) (g:=bo) (i:=iv s'.miss) (ty:=30) (x:=false) (y:=false)
 rw[← gA] at x0 x1 x2 x3 x4 x5 x6 x7
 rw[← gB] at y0 y1 y2 y3 y4 y5 y6 y7
 have lr1:=fun h'=>YY A1.2 h'
 have lr2:=fun h'=>YY B1.2 h'
 have lq1:=fun h'=>PW A2 h'
 have lq2:=fun h'=>PW B2 h'
 cases d1:(!(nm==nm')) with
 | true=>
  simp only[eE,seval,↓eP,Nat.zero_add,JX,CR,FD,ID,FN,A_,CI,FM,x0,x1,x2,x7,y0,y1,y2,y7,lr1,lr2,lq1,lq2,I5,d1]
  refine fno _ (by simp only[eE,seval,↓eP,rP]) fun hsp=>?_
  rw[hsp.1,M4] at d1
  cases d1
 | false=>
 have e1:nm=nm':=LK (by simpa using d1)
 cases d2:(s.miss != s'.miss) with
 | true=>
  simp only[eE,seval,↓eP,Nat.zero_add,JX,CR,FD,ID,FN,A_,CI,FM,x0,x1,x2,x7,y0,y1,y2,y7,lr1,lr2,lq1,lq2,I5,d1,d2]
  refine fno _ (by simp only[eE,seval,↓eP,rP]) fun hsp=>?_
  rw[hsp.2.1] at d2
  simp at d2
 | false=>
 have e2:s.miss=s'.miss:=by simpa using d2
 cases d3:((s.rows.length:Int) != (s'.rows.length:Int)) with
 | true=>
  simp only[eE,seval,↓eP,Nat.zero_add,JX,CR,FD,ID,FN,A_,CI,FM,x0,x1,x2,x7,y0,y1,y2,y7,lr1,lr2,lq1,lq2,I5,d1,d2,d3]
  refine fno _ (by simp only[eE,seval,↓eP,rP]) fun hsp=>?_
  rw[hsp.2.2.1] at d3
  simp at d3
 | false=>
 have e3:s.rows.length=s'.rows.length:=by
  have h9:(s.rows.length:Int)=(s'.rows.length:Int):=by simpa using d3
  omega
 cases d4:((s.queues.length:Int) != (s'.queues.length:Int)) with
 | true=>
  simp only[eE,seval,↓eP,Nat.zero_add,JX,CR,FD,ID,FN,A_,CI,FM,x0,x1,x2,x7,y0,y1,y2,y7,lr1,lr2,lq1,lq2,I5,d1,d2,d3,d4]
  refine fno _ (by simp only[eE,seval,↓eP,rP]) fun hsp=>?_
  rw[hsp.2.2.2.1] at d4
  simp at d4
 | false=>
 have e4:s.queues.length=s'.queues.length:=by
  have h9:(s.queues.length:Int)=(s'.queues.length:Int):=by simpa using d4
  omega
 simp only[eE,seval,↓eP,Nat.zero_add,JX,CR,FD,ID,FN,A_,CI,FM,x0,x1,x2,x7,y0,y1,y2,y7,lr1,lr2,lq1,lq2,I5,d1,d2,d3,d4]
 show WK _ _ _ (.seq (.seq _ (.block 0 (.loop (.seq _ (.seq (.block 1 (.seq (.region _ _ true) _)) _))))) S8) _ _
 simp only[eE,seval,↓eP]
 refine WK.loop (fun i s''=>s''.T.get 2=qP h.next 0∧s''.T.get 3=qP (h.next+1) 0∧s''.T.get 5=iv i∧s''.h=H∧i≤s.rows.length∧∀ j,j<i→s.rows[j]?=s'.rows[j]?) s.rows.length (by omega) ?_ ?_
 ·exact⟨by simp only[eE,↓reduceIte,Nat.reduceEqDiff,reduceCtorEq,↓eP,rP,Nat.reduceAdd,Nat.reduceLT],by simp only[eE,↓reduceIte,Nat.reduceEqDiff,reduceCtorEq,↓eP,rP,Nat.reduceAdd,Nat.reduceLT],by simp only[eE,↓reduceIte,Nat.reduceEqDiff,reduceCtorEq,↓eP,rP,Nat.reduceAdd,Nat.reduceLT];rfl,rfl,by omega,fun j hj=>by omega⟩
 rintro i ⟨T1,H1⟩ hi ⟨t2,t3,t5,hh,hil,hsame⟩
 simp only at t2 t3 t5 hh
 subst hh
 by_cases hlt:i<s.rows.length
 ·have c1:decide ((i:Int)<(s.rows.length:Int))=true:=by simp;omega
  obtain⟨x,hx⟩:∃ x,s.rows[i]?=some x:=⟨_,List.getElem?_eq_getElem hlt⟩
  obtain⟨y,hy⟩:∃ y,s'.rows[i]?=some y:=⟨_,List.getElem?_eq_getElem (by omega)⟩
  obtain⟨ida,pa,ea,_,_,_,_,_,_,xa⟩:=A1.1.row hx
  obtain⟨idb,pb,eb,_,_,_,_,_,_,xb⟩:=B1.1.row hy
  have w1:=C6 i (by omega)
  have xa':BL 5 pa (H1.get ida)=some (DM x):=xa
  have xb':BL 5 pb (H1.get idb)=some (DM y):=xb
  simp only[eE,seval,↓eP,Nat.zero_add,t2,t3,t5,CR,CI,x1,lr1,c1]
  refine WK.flags (fs:=cP) (by kernel_rfl) ?_
  unfold cP
  iterate 11
   refine HY hsn ?_
   simp only[rG,seval,AB,AD,AC,BU,CF,DP,EE,GN,Option.bind_some,t2,t3,t5,CR,CI,x1,y1,ea,eb,HX,xa',xb',iO]
  refine H8 ?_
  cases e:(!(K0 x y)) with
  | true=>
   simp only[eE,seval,↓eP,e]
   refine fno _ (by simp only[eE,seval,↓eP,rP]) fun hsp=>?_
   rw[hsp.2.2.1,hy] at hx
   cases hx
   rw[(R5 (a:=x) (b:=x)).2 rfl] at e
   cases e
  | false=>
   have hxy:x=y:=R5.1 (by simpa using e)
   simp only[eE,seval,↓eP,t2,t3,t5,e,w1]
   refine⟨by omega,by omega,fun j hj=>?_⟩
   rcases Nat.lt_or_ge j i with h1 | h1
   ·exact hsame j h1
   ·have:j=i:=by omega
    subst this
    rw[hx,hy,hxy]
 have c1:decide ((i:Int)<(s.rows.length:Int))=false:=by simp;omega
 have:i=s.rows.length:=by omega
 subst this
 have e5:s.rows=s'.rows:=PO e3 hsame
 simp only[eE,seval,↓eP,Nat.zero_add,t2,t3,t5,CR,CI,x1,lr1,c1]
 show WK _ _ _ (.seq (.seq _ (.block 2 (.loop (.seq _ (.seq (.block 3 (.seq (.region _ _ true) _)) _))))) Gl) _ _
 simp only[eE,seval,↓eP]
 refine WK.loop (fun i s''=>s''.T.get 2=qP h.next 0∧s''.T.get 3=qP (h.next+1) 0∧s''.T.get 6=iv i∧s''.h=H1∧i≤s.queues.length∧∀ j,j<i→s.queues[j]?=s'.queues[j]?) s.queues.length (by omega) ?_ ?_
 ·exact⟨by simp only[eE,↓reduceIte,Nat.reduceEqDiff,reduceCtorEq,↓eP,rP,Nat.reduceAdd,Nat.reduceLT,t2],by simp only[eE,↓reduceIte,Nat.reduceEqDiff,reduceCtorEq,↓eP,rP,Nat.reduceAdd,Nat.reduceLT,t3],by simp only[eE,↓reduceIte,Nat.reduceEqDiff,reduceCtorEq,↓eP,rP,Nat.reduceAdd,Nat.reduceLT];rfl,rfl,by omega,fun j hj=>by omega⟩
 rintro i ⟨T2,H2⟩ hi ⟨t2,t3,t6,hh,hil,hsame⟩
 simp only at t2 t3 t6 hh
 subst hh
 by_cases hlt:i<s.queues.length
 ·have c1:decide ((i:Int)<(s.queues.length:Int))=true:=by simp;omega
  obtain⟨x,hx⟩:∃ x,s.queues[i]?=some x:=⟨_,List.getElem?_eq_getElem hlt⟩
  obtain⟨y,hy⟩:∃ y,s'.queues[i]?=some y:=⟨_,List.getElem?_eq_getElem (by omega)⟩
  obtain⟨ida,pa,ea,_,xa⟩:=YI hx A2
  obtain⟨idb,pb,eb,_,xb⟩:=YI hy B2
  have w1:=C6 i (by omega)
  simp only[eE,seval,↓eP,Nat.zero_add,t2,t3,t6,FD,FM,x2,lq1,c1]
  refine WK.flags (fs:=dO) (by kernel_rfl) ?_
  unfold dO
  iterate 11
   refine HY hsn ?_
   simp only[rG,seval,AB,AD,AC,BU,CF,DP,EE,GN,Option.bind_some,t2,t3,t6,FD,FM,x2,y2,ea,eb,lV,xa,xb,qJ]
  refine H8 ?_
  cases e:(!(x.1==y.1&&x.2==y.2)) with
  | true=>
   simp only[eE,seval,↓eP,e]
   refine fno _ (by simp only[eE,seval,↓eP,rP]) fun hsp=>?_
   rw[hsp.2.2.2.1,hy] at hx
   cases hx
   rw[M4] at e
   simp at e
  | false=>
   have hxy:x=y:=by
    simp only[Bool.not_eq_false',Bool.and_eq_true] at e
    exact Prod.ext (LK e.1) (by simpa using e.2)
   simp only[eE,seval,↓eP,t2,t3,t6,e,w1]
   refine⟨by omega,by omega,fun j hj=>?_⟩
   rcases Nat.lt_or_ge j i with h1 | h1
   ·exact hsame j h1
   ·have:j=i:=by omega
    subst this
    rw[hx,hy,hxy]
 have c1:decide ((i:Int)<(s.queues.length:Int))=false:=by simp;omega
 have:i=s.queues.length:=by omega
 subst this
 have e6:s.queues=s'.queues:=PO e4 hsame
 simp only[eE,seval,↓eP,Nat.zero_add,t2,t3,t6,FD,FM,x2,lq1,c1]
 have hV:=sJ (n:=n) (h:=H2) A3 B3 (by omega) (by omega)
 have hT:=sJ (n:=n) (h:=H2) A4 B4 (by omega) (by omega)
 have hU:=ZA (n:=n) (h:=H2) A5 B5 (by omega) (by omega)
 have hO:=ZA (n:=n) (h:=H2) A6 B6 (by omega) (by omega)
 show WK _ _ _ (.seq _ .ret) _ _
 cases dV:decide (s.vars=s'.vars) with
 | false=>
  rw[dV] at hV
  simp only[eE,seval,↓eP,Nat.zero_add,t2,t3,GB,GI,F2,HG,FE,CC,x3,x4,x5,x6,y3,y4,y5,y6,hV]
  exact fno _ (by simp only[eE,seval,↓eP,rP]) fun hsp=>(of_decide_eq_false dV) hsp.2.2.2.2.1
 | true=>
 rw[dV] at hV
 cases dT:decide (s.tags=s'.tags) with
 | false=>
  rw[dT] at hT
  simp only[eE,seval,↓eP,Nat.zero_add,t2,t3,GB,GI,F2,HG,FE,CC,x3,x4,x5,x6,y3,y4,y5,y6,hV,hT]
  exact fno _ (by simp only[eE,seval,↓eP,rP]) fun hsp=>(of_decide_eq_false dT) hsp.2.2.2.2.2.1
 | true=>
 rw[dT] at hT
 cases dU:decide (s.rules=s'.rules) with
 | false=>
  rw[dU] at hU
  simp only[eE,seval,↓eP,Nat.zero_add,t2,t3,GB,GI,F2,HG,FE,CC,x3,x4,x5,x6,y3,y4,y5,y6,hV,hT,hU]
  exact fno _ (by simp only[eE,seval,↓eP,rP]) fun hsp=>(of_decide_eq_false dU) hsp.2.2.2.2.2.2.1
 | true=>
 rw[dU] at hU
 simp only[eE,seval,↓eP,Nat.zero_add,t2,t3,GB,GI,F2,HG,FE,CC,x3,x4,x5,x6,y3,y4,y5,y6,hV,hT,hU,hO]
 refine fin _ (decide (s.on=s'.on)) (by simp only[eE,seval,↓eP,rP]) ⟨fun h=>⟨e1,e2,e5,e6,of_decide_eq_true dV,of_decide_eq_true dT,of_decide_eq_true dU,of_decide_eq_true h⟩,fun hsp=>decide_eq_true hsp.2.2.2.2.2.2.2⟩
theorem tC {nm nm':ByteArray} {s s':AS} {pa pb:Value} {la lb:Nat} {h:AA} (ha:DJ la h pa nm s) (hb:DJ lb h pb nm' s') (hs:IJ s) (hn:F8 s+20<n) :
  ∃ b,AX n 19 [pa,pb] h=some (.bool b,h)∧(b=true↔NL nm nm' s s'):=by
 obtain⟨n,rfl⟩:=D3 hn
 obtain⟨b,h1,hw,hb,ho⟩:=xI (FH n).2 (N:=n) ha hb hs (by omega) (by omega)
 exact⟨b,JN (CP ⟨rfl,rfl,rfl⟩) rfl ⟨h1,hw,ho⟩,hb⟩
end
instance:DecidableEq AE:=fun _ _=>decidable_of_decidable_of_iff R5
def LX:List (Bool × Bool × List Operand):=[AW,AW,AW,AW,AJ [.tmp 18],AJ [.tmp 18],AJ [.tmp 18],AJ [.tmp 18],AL]
theorem zM {call:AT} {N:Nat} {h:AA} (hsn:CK call) {va vb:Value} {A B:List Int} {la lb:Nat} (ha:AN la h va A) (hb:AN lb h vb B) (hN:A.length+3<N) (hl:A.length<30000000000000):A9 Tryd.prog call N 69 [va,vb] h=some (.bool (decide (A=B)),h):=by
 refine EA Tryd.func69 rfl (by simp[Tryd.f69]) ?_
 have hr:Tryd.f69.results.toList=[.tmp 4]:=rfl
 have lA:=fun h'=>I7 ha h'
 have lB:=fun h'=>I7 hb h'
 cases d:((A.length:Int) != (B.length:Int)) with
 | true=>
  have hne:A≠B:=fun e=>by subst e;simp at d
  rw[decide_eq_false hne]
  simp only[eE,↓reduceIte,Nat.reduceEqDiff,reduceCtorEq,↓eP,hr,lA,lB,d]
 | false=>
  have hlen:A.length=B.length:=by
   have h9:(A.length:Int)=(B.length:Int):=by simpa using d
   omega
  simp only[eE,↓reduceIte,Nat.reduceEqDiff,reduceCtorEq,↓eP,lA,lB,d]
  refine WK.loop (fun i s'=>s'.T.get 0=va∧s'.T.get 1=vb∧s'.T.get 12=iv A.length∧s'.T.get 13=iv i∧s'.h=h∧i≤A.length∧∀ j,j<i→A[j]?=B[j]?) A.length (by omega) ?_ ?_
  ·exact⟨by simp only[eE,↓reduceIte,Nat.reduceEqDiff,reduceCtorEq,↓eP,rP,Nat.reduceAdd,Nat.reduceLT],by simp only[eE,↓reduceIte,Nat.reduceEqDiff,reduceCtorEq,↓eP,rP,Nat.reduceAdd,Nat.reduceLT],by simp only[eE,↓reduceIte,Nat.reduceEqDiff,reduceCtorEq,↓eP,rP,Nat.reduceAdd,Nat.reduceLT],by simp only[eE,↓reduceIte,Nat.reduceEqDiff,reduceCtorEq,↓eP,rP,Nat.reduceAdd,Nat.reduceLT];rfl,rfl,by omega,fun j hj=>by omega⟩
  ·rintro i ⟨T1,H1⟩ hi ⟨t0,t1,t12,t13,hh,hil,hsame⟩
   simp only at t0 t1 t12 t13 hh
   subst hh
   by_cases hlt:i<A.length
   ·have c1:decide ((i:Int)<(A.length:Int))=true:=by simp;omega
    obtain⟨x,hx⟩:∃ x,A[i]?=some x:=⟨_,List.getElem?_eq_getElem hlt⟩
    obtain⟨y,hy⟩:∃ y,B[i]?=some y:=⟨_,List.getElem?_eq_getElem (by omega)⟩
    obtain⟨ida,pa,ea,_,xa⟩:=AN.get ha hx
    obtain⟨idb,pb,eb,_,xb⟩:=AN.get hb hy
    have w1:=C6 i (by omega)
    simp only[eE,seval,↓eP,t0,t1,t12,t13,c1]
    refine WK.flags (fs:=LX) (by kernel_rfl) ?_
    unfold LX
    iterate 9
     refine HY hsn ?_
     simp only[rG,seval,AB,AD,AC,BU,CF,DP,EE,GN,Option.bind_some,t0,t1,t12,t13,ea,eb,A_,xa,xb,S6]
    refine H8 ?_
    cases e:(x != y) with
    | true=>
     have hne:A≠B:=fun h9=>by
      subst h9
      rw[hx] at hy
      cases hy
      simp at e
     rw[decide_eq_false hne]
     simp only[eE,seval,↓eP,hr,e]
    | false=>
     have hxy:x=y:=by simpa using e
     simp only[eE,seval,↓eP,t0,t1,t12,t13,e,w1]
     refine⟨by omega,by omega,fun j hj=>?_⟩
     rcases Nat.lt_or_ge j i with h1 | h1
     ·exact hsame j h1
     ·have:j=i:=by omega
      subst this
      rw[hx,hy,hxy]
   ·have c1:decide ((i:Int)<(A.length:Int))=false:=by simp;omega
    have:i=A.length:=by omega
    subst this
    have hAB:A=B:=PO hlen hsame
    rw[decide_eq_true hAB]
    simp only[eE,seval,↓eP,hr,t0,t1,t12,t13,c1]
theorem sU {n:Nat} {h:AA} {va vb:Value} {A B:List Int} {la lb:Nat} (ha:AN la h va A) (hb:AN lb h vb B) (hl:A.length<2932031007403) (hn:A.length+5<n):AX n 69 [va,vb] h=some (.bool (decide (A=B)),h):=by
 obtain⟨n,rfl⟩:=D3 hn
 exact JJ (CP ⟨rfl,rfl,rfl⟩) rfl (zM (FH n).2 ha hb (by omega) (by omega))
theorem Cg {call:AT} {N:Nat} {h:AA} (hsn:CK call) {va vb:Value} {A B:List ByteArray} {la lb:Nat} (ha:A7 la h va A.length 1 (DZ A)) (hb:A7 lb h vb B.length 1 (DZ B)) (hN:A.length+3<N) (hl:A.length<30000000000000):A9 Tryd.prog call N 68 [va,vb] h=some (.bool (decide (A=B)),h):=by
 refine EA Tryd.func68 rfl (by simp[Tryd.f68]) ?_
 have hr:Tryd.f68.results.toList=[.tmp 4]:=rfl
 have lA:=fun h'=>NP ha h'
 have lB:=fun h'=>NP hb h'
 cases d:((A.length:Int) != (B.length:Int)) with
 | true=>
  have hne:A≠B:=fun e=>by subst e;simp at d
  rw[decide_eq_false hne]
  simp only[eE,↓reduceIte,Nat.reduceEqDiff,reduceCtorEq,↓eP,hr,lA,lB,d]
 | false=>
  have hlen:A.length=B.length:=by
   have h9:(A.length:Int)=(B.length:Int):=by simpa using d
   omega
  simp only[eE,↓reduceIte,Nat.reduceEqDiff,reduceCtorEq,↓eP,lA,lB,d]
  refine WK.loop (fun i s'=>s'.T.get 0=va∧s'.T.get 1=vb∧s'.T.get 12=iv A.length∧s'.T.get 13=iv i∧s'.h=h∧i≤A.length∧∀ j,j<i→A[j]?=B[j]?) A.length (by omega) ?_ ?_
  ·exact⟨by simp only[eE,↓reduceIte,Nat.reduceEqDiff,reduceCtorEq,↓eP,rP,Nat.reduceAdd,Nat.reduceLT],by simp only[eE,↓reduceIte,Nat.reduceEqDiff,reduceCtorEq,↓eP,rP,Nat.reduceAdd,Nat.reduceLT],by simp only[eE,↓reduceIte,Nat.reduceEqDiff,reduceCtorEq,↓eP,rP,Nat.reduceAdd,Nat.reduceLT],by simp only[eE,↓reduceIte,Nat.reduceEqDiff,reduceCtorEq,↓eP,rP,Nat.reduceAdd,Nat.reduceLT];rfl,rfl,by omega,fun j hj=>by omega⟩
  ·rintro i ⟨T1,H1⟩ hi ⟨t0,t1,t12,t13,hh,hil,hsame⟩
   simp only at t0 t1 t12 t13 hh
   subst hh
   by_cases hlt:i<A.length
   ·have c1:decide ((i:Int)<(A.length:Int))=true:=by simp;omega
    obtain⟨x,hx⟩:∃ x,A[i]?=some x:=⟨_,List.getElem?_eq_getElem hlt⟩
    obtain⟨y,hy⟩:∃ y,B[i]?=some y:=⟨_,List.getElem?_eq_getElem (by omega)⟩
    obtain⟨ida,pa,ea,_,xa⟩:=Y_ hx ha
    obtain⟨idb,pb,eb,_,xb⟩:=Y_ hy hb
    have w1:=C6 i (by omega)
    simp only[eE,seval,↓eP,t0,t1,t12,t13,c1]
    refine WK.flags (fs:=LX) (by kernel_rfl) ?_
    unfold LX
    iterate 9
     refine HY hsn ?_
     simp only[rG,seval,AB,AD,AC,BU,CF,DP,EE,GN,Option.bind_some,t0,t1,t12,t13,ea,eb,FN,xa,xb,I5]
    refine H8 ?_
    cases e:(!(x==y)) with
    | true=>
     have hne:A≠B:=fun h9=>by
      subst h9
      rw[hx] at hy
      cases hy
      rw[M4] at e;cases e
     rw[decide_eq_false hne]
     simp only[eE,seval,↓eP,hr,e]
    | false=>
     have hxy:x=y:=LK (by simpa using e)
     simp only[eE,seval,↓eP,t0,t1,t12,t13,e,w1]
     refine⟨by omega,by omega,fun j hj=>?_⟩
     rcases Nat.lt_or_ge j i with h1 | h1
     ·exact hsame j h1
     ·have:j=i:=by omega
      subst this
      rw[hx,hy,hxy]
   ·have c1:decide ((i:Int)<(A.length:Int))=false:=by simp;omega
    have:i=A.length:=by omega
    subst this
    have hAB:A=B:=PO hlen hsame
    rw[decide_eq_true hAB]
    simp only[eE,seval,↓eP,hr,t0,t1,t12,t13,c1]
theorem pX {n:Nat} {h:AA} {va vb:Value} {A B:List ByteArray} {la lb:Nat} (ha:A7 la h va A.length 1 (DZ A)) (hb:A7 lb h vb B.length 1 (DZ B)) (hl:A.length<2932031007403) (hn:A.length+5<n):AX n 68 [va,vb] h=some (.bool (decide (A=B)),h):=by
 obtain⟨n,rfl⟩:=D3 hn
 exact JJ (CP ⟨rfl,rfl,rfl⟩) rfl (Cg (FH n).2 ha hb (by omega) (by omega))
theorem Kl {call:AT} {N:Nat} {h:AA} (hsn:CK call) {va vb:Value} {A B:List (ByteArray × Bool)} {la lb:Nat} (ha:A7 la h va A.length 2 (IE A)) (hb:A7 lb h vb B.length 2 (IE B)) (hN:A.length+3<N) (hl:A.length<30000000000000):A9 Tryd.prog call N 67 [va,vb] h=some (.bool (decide (A=B)),h):=by
 refine EA Tryd.func67 rfl (by simp[Tryd.f67]) ?_
 have hr:Tryd.f67.results.toList=[.tmp 4]:=rfl
 have lA:=fun h'=>PW ha h'
 have lB:=fun h'=>PW hb h'
 cases d:((A.length:Int) != (B.length:Int)) with
 | true=>
  have hne:A≠B:=fun e=>by subst e;simp at d
  rw[decide_eq_false hne]
  simp only[eE,↓reduceIte,Nat.reduceEqDiff,reduceCtorEq,↓eP,hr,lA,lB,d]
 | false=>
  have hlen:A.length=B.length:=by
   have h9:(A.length:Int)=(B.length:Int):=by simpa using d
   omega
  simp only[eE,↓reduceIte,Nat.reduceEqDiff,reduceCtorEq,↓eP,lA,lB,d]
  refine WK.loop (fun i s'=>s'.T.get 0=va∧s'.T.get 1=vb∧s'.T.get 12=iv A.length∧s'.T.get 13=iv i∧s'.h=h∧i≤A.length∧∀ j,j<i→A[j]?=B[j]?) A.length (by omega) ?_ ?_
  ·exact⟨by simp only[eE,↓reduceIte,Nat.reduceEqDiff,reduceCtorEq,↓eP,rP,Nat.reduceAdd,Nat.reduceLT],by simp only[eE,↓reduceIte,Nat.reduceEqDiff,reduceCtorEq,↓eP,rP,Nat.reduceAdd,Nat.reduceLT],by simp only[eE,↓reduceIte,Nat.reduceEqDiff,reduceCtorEq,↓eP,rP,Nat.reduceAdd,Nat.reduceLT],by simp only[eE,↓reduceIte,Nat.reduceEqDiff,reduceCtorEq,↓eP,rP,Nat.reduceAdd,Nat.reduceLT];rfl,rfl,by omega,fun j hj=>by omega⟩
  ·rintro i ⟨T1,H1⟩ hi ⟨t0,t1,t12,t13,hh,hil,hsame⟩
   simp only at t0 t1 t12 t13 hh
   subst hh
   by_cases hlt:i<A.length
   ·have c1:decide ((i:Int)<(A.length:Int))=true:=by simp;omega
    obtain⟨x,hx⟩:∃ x,A[i]?=some x:=⟨_,List.getElem?_eq_getElem hlt⟩
    obtain⟨y,hy⟩:∃ y,B[i]?=some y:=⟨_,List.getElem?_eq_getElem (by omega)⟩
    obtain⟨ida,pa,ea,_,xa⟩:=YI hx ha
    obtain⟨idb,pb,eb,_,xb⟩:=YI hy hb
    have w1:=C6 i (by omega)
    simp only[eE,seval,↓eP,t0,t1,t12,t13,c1]
    refine WK.flags (fs:=LX) (by kernel_rfl) ?_
    unfold LX
    iterate 9
     refine HY hsn ?_
     simp only[rG,seval,AB,AD,AC,BU,CF,DP,EE,GN,Option.bind_some,t0,t1,t12,t13,ea,eb,lV,xa,xb,qJ]
    refine H8 ?_
    cases e:(!(x.1==y.1&&x.2==y.2)) with
    | true=>
     have hne:A≠B:=fun h9=>by
      subst h9
      rw[hx] at hy
      cases hy
      rw[M4] at e;simp at e
     rw[decide_eq_false hne]
     simp only[eE,seval,↓eP,hr,e]
    | false=>
     have hxy:x=y:=(by simp only[Bool.not_eq_false',Bool.and_eq_true] at e;exact Prod.ext (LK e.1) (by simpa using e.2))
     simp only[eE,seval,↓eP,t0,t1,t12,t13,e,w1]
     refine⟨by omega,by omega,fun j hj=>?_⟩
     rcases Nat.lt_or_ge j i with h1 | h1
     ·exact hsame j h1
     ·have:j=i:=by omega
      subst this
      rw[hx,hy,hxy]
   ·have c1:decide ((i:Int)<(A.length:Int))=false:=by simp;omega
    have:i=A.length:=by omega
    subst this
    have hAB:A=B:=PO hlen hsame
    rw[decide_eq_true hAB]
    simp only[eE,seval,↓eP,hr,t0,t1,t12,t13,c1]
theorem zN {n:Nat} {h:AA} {va vb:Value} {A B:List (ByteArray × Bool)} {la lb:Nat} (ha:A7 la h va A.length 2 (IE A)) (hb:A7 lb h vb B.length 2 (IE B)) (hl:A.length<2932031007403) (hn:A.length+5<n):AX n 67 [va,vb] h=some (.bool (decide (A=B)),h):=by
 obtain⟨n,rfl⟩:=D3 hn
 exact JJ (CP ⟨rfl,rfl,rfl⟩) rfl (Kl (FH n).2 ha hb (by omega) (by omega))
theorem iB {h:AA} {v:Value} {l:List AE} (hv:AU h v l) (h':AA):BZ Tryd.prog h' 22 v=some (iv (l.length:Int)):=hv.len
theorem v_ {call:AT} {N:Nat} {h:AA} (hsn:CK call) {va vb:Value} {A B:List AE} (ha:AU h va A) (hb:AU h vb B) (hN:A.length+3<N) (hl:A.length<30000000000000):A9 Tryd.prog call N 66 [va,vb] h=some (.bool (decide (A=B)),h):=by
 refine EA Tryd.func66 rfl (by simp[Tryd.f66]) ?_
 have hr:Tryd.f66.results.toList=[.tmp 4]:=rfl
 have lA:=fun h'=>iB ha h'
 have lB:=fun h'=>iB hb h'
 cases d:((A.length:Int) != (B.length:Int)) with
 | true=>
  have hne:A≠B:=fun e=>by subst e;simp at d
  rw[decide_eq_false hne]
  simp only[eE,↓reduceIte,Nat.reduceEqDiff,reduceCtorEq,↓eP,hr,lA,lB,d]
 | false=>
  have hlen:A.length=B.length:=by
   have h9:(A.length:Int)=(B.length:Int):=by simpa using d
   omega
  simp only[eE,↓reduceIte,Nat.reduceEqDiff,reduceCtorEq,↓eP,lA,lB,d]
  refine WK.loop (fun i s'=>s'.T.get 0=va∧s'.T.get 1=vb∧s'.T.get 12=iv A.length∧s'.T.get 13=iv i∧s'.h=h∧i≤A.length∧∀ j,j<i→A[j]?=B[j]?) A.length (by omega) ?_ ?_
  ·exact⟨by simp only[eE,↓reduceIte,Nat.reduceEqDiff,reduceCtorEq,↓eP,rP,Nat.reduceAdd,Nat.reduceLT],by simp only[eE,↓reduceIte,Nat.reduceEqDiff,reduceCtorEq,↓eP,rP,Nat.reduceAdd,Nat.reduceLT],by simp only[eE,↓reduceIte,Nat.reduceEqDiff,reduceCtorEq,↓eP,rP,Nat.reduceAdd,Nat.reduceLT],by simp only[eE,↓reduceIte,Nat.reduceEqDiff,reduceCtorEq,↓eP,rP,Nat.reduceAdd,Nat.reduceLT];rfl,rfl,by omega,fun j hj=>by omega⟩
  ·rintro i ⟨T1,H1⟩ hi ⟨t0,t1,t12,t13,hh,hil,hsame⟩
   simp only at t0 t1 t12 t13 hh
   subst hh
   by_cases hlt:i<A.length
   ·have c1:decide ((i:Int)<(A.length:Int))=true:=by simp;omega
    obtain⟨x,hx⟩:∃ x,A[i]?=some x:=⟨_,List.getElem?_eq_getElem hlt⟩
    obtain⟨y,hy⟩:∃ y,B[i]?=some y:=⟨_,List.getElem?_eq_getElem (by omega)⟩
    obtain⟨ida,pa,ea,_,_,_,_,_,_,xa9⟩:=AU.row ha hx
    have xa:BL 5 pa (H1.get ida)=some (DM x):=xa9
    obtain⟨idb,pb,eb,_,_,_,_,_,_,xb9⟩:=AU.row hb hy
    have xb:BL 5 pb (H1.get idb)=some (DM y):=xb9
    have w1:=C6 i (by omega)
    simp only[eE,seval,↓eP,t0,t1,t12,t13,c1]
    refine WK.flags (fs:=LX) (by kernel_rfl) ?_
    unfold LX
    iterate 9
     refine HY hsn ?_
     simp only[rG,seval,AB,AD,AC,BU,CF,DP,EE,GN,Option.bind_some,t0,t1,t12,t13,ea,eb,HX,xa,xb,iO]
    refine H8 ?_
    cases e:(!(K0 x y)) with
    | true=>
     have hne:A≠B:=fun h9=>by
      subst h9
      rw[hx] at hy
      cases hy
      rw[R5.2 rfl] at e;cases e
     rw[decide_eq_false hne]
     simp only[eE,seval,↓eP,hr,e]
    | false=>
     have hxy:x=y:=R5.1 (by simpa using e)
     simp only[eE,seval,↓eP,t0,t1,t12,t13,e,w1]
     refine⟨by omega,by omega,fun j hj=>?_⟩
     rcases Nat.lt_or_ge j i with h1 | h1
     ·exact hsame j h1
     ·have:j=i:=by omega
      subst this
      rw[hx,hy,hxy]
   ·have c1:decide ((i:Int)<(A.length:Int))=false:=by simp;omega
    have:i=A.length:=by omega
    subst this
    have hAB:A=B:=PO hlen hsame
    rw[decide_eq_true hAB]
    simp only[eE,seval,↓eP,hr,t0,t1,t12,t13,c1]
theorem Gg {n:Nat} {h:AA} {va vb:Value} {A B:List AE} (ha:AU h va A) (hb:AU h vb B) (hl:A.length<2932031007403) (hn:A.length+5<n):AX n 66 [va,vb] h=some (.bool (decide (A=B)),h):=by
 obtain⟨n,rfl⟩:=D3 hn
 exact JJ (CP ⟨rfl,rfl,rfl⟩) rfl (v_ (FH n).2 ha hb (by omega) (by omega))
theorem tX:∀ (l:List AE) (k:Nat),(l.flatMap AI).take (k*5)=(l.take k).flatMap AI
 | l,0=>by simp
 | [],k+1=>by simp
 | r :: l,k+1=>by
  rw[List.flatMap_cons,List.take_succ_cons,List.flatMap_cons,← tX l k,show (k+1)*5=k*5+5 by omega]
  rfl
theorem Il {L:List AE} {i:Nat} {x:AE} (hi:i<L.length):Go.Sx.lay (L.flatMap AI) (i*5) (AI x)=(L.set i x).flatMap AI:=by
 have h5:(AI x).length=5:=rfl
 rw[List.set_eq_take_append_cons_drop,if_pos hi,List.flatMap_append,List.flatMap_cons,← tX,← WC]
 simp only[Go.Sx.lay,h5]
 rw[show (i+1)*5=i*5+5 by omega,List.append_assoc]
abbrev DF:AE:=⟨0,ByteArray.empty,0,0,0⟩
abbrev KB:ByteArray:=⟨#[108,101,110,116]⟩
def mark (i:Nat):AE:=⟨-7,KB,0,0,i⟩
theorem qE:∀ n,C0 C_ n=(List.replicate n DF).flatMap AI
 | 0=>rfl
 | n+1=>by rw[C0,qE n,List.replicate_succ,List.flatMap_cons];rfl
theorem Nn {h:AA} {n:Nat} (hn:n<5000000000000):MK Tryd.prog h 22 (.int .i64 (n:Int)) (.int .i64 (n:Int))=some (qS h.next n n,h.push (.row ((List.replicate n DF).flatMap AI) 46 false false)):=by
 have hz:(Value.agg #[.int .i64 0,.string ByteArray.empty,.int .i64 0,.int .i64 0,.int .i64 0]).cells=#[.int .i64 0,.string ByteArray.empty,.int .i64 0,.int .i64 0,.int .i64 0]:=rfl
 have hf:flat (.agg #[.int .i64 0,.string ByteArray.empty,.int .i64 0,.int .i64 0,.int .i64 0])=true:=rfl
 simp only[MK,Tryd.underlying22,G_,GA,TJ,hz,hf]
 rw[if_pos (by simp;omega)]
 simp[qE]
theorem RK {h:AA} {id i off:Nat} {L:List AE} {x:AE} {ty:TypeId} {g:Bool} (ho:off=i*5) (hg:h.get id=.row (L.flatMap AI) ty g false) (hi:i<L.length) (hf:h.floor≤id):BH Tryd.prog h 46 (qP id off) (DM x)=some (h.put id (.row ((L.set i x).flatMap AI) ty g false)):=by
 subst ho
 have hc:(DM x).cells=(AI x).toArray:=rfl
 have h5:(AI x).length=5:=rfl
 have hone:(AI x).all one=true:=rfl
 have hl:=JL L
 simp only[BH,hc,G_,GW,hg]
 rw[if_pos (by simp[h5]),if_pos (by simp only[h5,hone,hl];simp;omega),Il hi]
theorem jI:HC Tryd.prog (match Tryd.prog.underlying 46 with | some (.struct fs)=>fs.toList | _=>[])=some [(0,1),(1,1),(2,1),(3,1),(4,1)]:=by kernel_rfl
theorem k_ {i:Int}:DG Tryd.prog 46 [(0,iv (-7)),(1,.string KB),(4,iv i)]=some (DM ⟨-7,KB,0,0,i⟩):=by
 have h:=jI
 rw[Tryd.underlying46] at h
 simp only at h
 have hf:flat (.agg #[.int .i64 0,.string ByteArray.empty,.int .i64 0,.int .i64 0,.int .i64 0])=true:=rfl
 simp only[DG,GA,hf,if_true,Tryd.underlying46,h]
 rfl
theorem Ap {h:AA} {id n c:Nat} {L l:List AE} {v:Value} {ty:TypeId} (hv:AU h v l) (hg:h.get id=.row (L.flatMap AI) ty false false) (hl:L.length=n) (hn:l.length≤n) (hid:id<h.next) (hf:h.floor≤id) :
  ∃ h',PP Tryd.prog h 22 (qS id n c) v=some (iv l.length,h')∧h'.get id=.row ((l++L.drop l.length).flatMap AI) ty false false∧h'.next=h.next∧h'.floor=h.floor∧∀ i,i≠id→h'.get i=h.get i:=by
 have hsrc:=hv.src
 obtain⟨a,c',rfl,h1⟩:=hv
 have hm:min l.length n=l.length:=by omega
 by_cases h0:l.length=0
 ·refine⟨h,?_,?_,rfl,rfl,fun _ _=>rfl⟩
  ·simp only[PP,Tryd.underlying22,G_,hm,hsrc]
   rw[if_pos h0]
  ·rw[List.length_eq_zero_iff.1 h0]
   exact hg
 ·have hlen:=JL L
  have hll:=JL l
  refine⟨_,?_,BI rfl hid,rfl,rfl,fun i hi=>AK hid (Ne.symm hi)⟩
  simp only[PP,Tryd.underlying22,G_,hm,hsrc,GW,hg]
  rw[if_neg h0,if_pos (by simp only[V8,hlen,hll,Bool.and_true,Nat.zero_add,Bool.and_eq_true,decide_eq_true_eq];omega)]
  have:Go.Sx.lay (L.flatMap AI) 0 (l.flatMap AI)=(l++L.drop l.length).flatMap AI:=by
   rw[List.flatMap_append,← WC]
   simp only[Go.Sx.lay,List.take_zero,List.nil_append,Nat.zero_add,hll]
  rw[this]
theorem TI {id n c i:Nat} (hi:i<n):CO Tryd.prog 22 (qS id n c) (iv (i:Int))=some (.pointer (some ⟨id,i*5,none⟩)):=JK hi
theorem uF {h:AA} {id n m c:Nat} (hm:m≤c) (hc:c≠AM):H9 Tryd.prog h 22 (qS id n c) none (some (iv (m:Int))) none=some (qS id m c):=by
 simp only[H9,Tryd.underlying22,G_,F9,hc,if_false]
 rw[if_pos (by omega)]
 simp only[Int.toNat_natCast]
 by_cases h0:c=0
 ·subst h0
  simp[CH]
 ·simp[CH]
structure M2 (h:AA) (o:Nat) (l:List AE) (L:List AE):Prop where
 g:h.get o=.row (L.flatMap AI) 46 false false
 len:L.length=l.length+9
 own:∀ j,j<l.length→L[j]?=l[j]?
 marks:∀ q,q<9→L[l.length+q]?=some (mark (l.length+q))
theorem KR {l:List AE} (h:(A8 l).1.1=0):B_ l∧(BR l).1=0∧(CD (AR l) l.length 0 (BV l)).1=0∧¬ IT (CD (AR l) l.length 0 (BV l)).2.2.rows (AR l) (CD (AR l) l.length 0 (BV l)).2.2.rules≥0 ∧
  A8 l=((0,0),(CD (AR l) l.length 0 (BV l)).2.2)∧GV l l.length (A8 l).2:=by
 by_cases h1:(BR l).1≠0
 ·unfold A8 at h
  rw[if_pos h1] at h
  exact absurd h h1
 ·by_cases h2:(CD (AR l) l.length 0 (BV l)).1≠0
  ·unfold A8 at h
   rw[if_neg h1] at h
   simp only at h
   rw[if_pos h2] at h
   exact absurd h h2
  ·by_cases h3:IT (CD (AR l) l.length 0 (BV l)).2.2.rows (AR l) (CD (AR l) l.length 0 (BV l)).2.2.rules≥0
   ·unfold A8 at h
    rw[if_neg h1] at h
    simp only at h
    rw[if_neg h2,if_pos h3] at h
    cases h
   ·have e1:(BR l).1=0:=by simpa using h1
    have e2:(CD (AR l) l.length 0 (BV l)).1=0:=by simpa using h2
    have e:A8 l=((0,0),(CD (AR l) l.length 0 (BV l)).2.2):=by
     unfold A8
     rw[if_neg h1]
     simp only
     rw[if_neg h2,if_neg h3]
    have ht:=XI (eF e1)
    refine⟨ht,e1,e2,h3,e,?_⟩
    rw[e]
    exact lN ht VA l.length 0 (BV l) (by omega) (QU l) e2
theorem wH {l:List AE} (h:(A8 l).1.1≠0):C9 l=(ByteArray.empty,sZ):=by unfold C9;rw[if_pos h]
theorem UB {l:List AE} (h:(A8 l).1.1=0):C9 l=(HQ l,(A8 l).2):=by unfold C9;rw[if_neg (by rw[h];simp)]
theorem oU {l:List AE} (hl:l.length<2932031007403):IJ (C9 l).2∧F8 (C9 l).2≤l.length+200:=by
 by_cases h:(A8 l).1.1=0
 ·rw[UB h]
  obtain⟨_,_,_,_,_,hi⟩:=KR h
  have hw:=hi.wf
  have:=hw.q;have:=hw.v;have:=hw.t;have:=hw.u;have:=hw.o;have:=hi.len
  unfold IJ F8
  simp only
  omega
 ·rw[wH h]
  exact⟨⟨by decide,by decide,by decide,by decide,by decide,by decide⟩,by show 0≤_;omega⟩
def I9 (x:AE):AE:=if x.kind≠27 then { x with n:=0 } else x
def AY (l:List AE):List AE:=l.map I9
def X9 (nm:ByteArray) (s:AS):Prop:=(A8 (AY s.rows)).1.1=0∧NL nm (C9 (AY s.rows)).1 s (C9 (AY s.rows)).2
open Classical in
noncomputable def F3 (nm:ByteArray) (s:AS):Int:=if X9 nm s then 0 else 23
theorem eN {H:AA} {cs:List Value} {e p:Int} (hl:cs.length=8) (ho:cs.all one=true) (hf:H.floor≤H.next) :
  ∃ H':AA × AA,BH Tryd.prog ((H.push (.row BT 30 false false)).push (.row [iv 0,iv 0] 33 false false)) 30 (qP H.next 0) (.agg cs.toArray)=some (H'.1)∧BH Tryd.prog H'.1 33 (qP (H.next+1) 0) (EN e p)=some H'.2 ∧
   EP H.next H'.2 cs e p∧H'.2.next=H.next+2∧H'.2.floor=H.floor∧∀ i,i<H.next→H'.2.get i=H.get i:=by
 have ga:=MM (h:=H) (o:=.row BT 30 false false) (o':=.row [iv 0,iv 0] 33 false false)
 have gb:=MN (h:=H) (o:=.row BT 30 false false) (o':=.row [iv 0,iv 0] 33 false false)
 have gold:∀ i,i<H.next→((H.push (.row BT 30 false false)).push (.row [iv 0,iv 0] 33 false false)).get i=H.get i:=fun i hi=>by rw[AP (by show i<H.next+1;omega),AP hi]
 have hnx:((H.push (.row BT 30 false false)).push (.row [iv 0,iv 0] 33 false false)).next=H.next+2:=rfl
 have hfx:((H.push (.row BT 30 false false)).push (.row [iv 0,iv 0] 33 false false)).floor=H.floor:=rfl
 generalize (H.push (.row BT 30 false false)).push (.row [iv 0,iv 0] 33 false false)=G at *
 obtain⟨H',s1,s2,r1,r2,r3,r4⟩:=OG (a:=H.next) (H:=G) ⟨ga,gb⟩ rfl (by omega) (by omega) (cs':=cs) hl ho (e':=e) (p':=p)
 exact⟨⟨_,H'⟩,s1,s2,r1,by show H'.next=_;omega,by show H'.floor=_;omega,fun i hi=>by show H'.get i=_;rw[r4 i (by omega) (by omega),gold i hi]⟩
theorem MJ {lo:Nat} {h:AA} {nm:ByteArray} {s:AS} {vr vq vv vt vu vo:Value} (h1:IA lo h vr s.rows) (h2:A7 lo h vq s.queues.length 2 (IE s.queues)) (h3:A7 lo h vv s.vars.length 1 (DZ s.vars)) (h4:A7 lo h vt s.tags.length 1 (DZ s.tags)) (h5:AN lo h vu s.rules) (h6:AN lo h vo s.on) :
  ([.string nm,vr,vq,vv,vt,vu,vo,iv s.miss]:List Value).all one=true:=by
 simp only[List.all_cons,List.all_nil,h1.2.one,h2.one,h3.one,h4.one,A7.one h5,A7.one h6,OL,JY,Bool.and_self]
def PV (v:Value) (n:Nat):Prop:=∃ id off c,v=.slice (some ⟨id,off,none⟩) n c
theorem wO {call:AT} {N:Nat} {h:AA} {l:List AE} {v:Value} (hv:AU h v l) (hlies:PV v l.length) (hlen:l.length<2932031007403) :
  ∃ v' h',A9 Tryd.prog call N 48 [v] h=some (v',h')∧(∃ o c g,v'=qS o l.length c∧h'.get o=.row (l.flatMap AI) 46 g false∧h.next≤o∧o<h'.next)∧h'.floor=h.floor∧h.next≤h'.next∧∀ i,i<h.next→h'.get i=h.get i:=by
 by_cases h0:0<l.length
 ·obtain⟨h',e,g1,g2,g3,g4⟩:=sE (call:=call) (N:=N) hv h0 hlen
  exact⟨_,h',e,⟨h.next+1,AM,true,rfl,g1,by omega,by omega⟩,g3,by omega,g4⟩
 ·have hl:l=[]:=List.length_eq_zero_iff.1 (by omega)
  subst hl
  obtain⟨id,off,c,rfl⟩:=hlies
  refine⟨qS h.next 0 0,h.push (.row [] 46 false false),?_,⟨h.next,0,false,rfl,BO,Nat.le_refl _,by show h.next<h.next+1;omega⟩,rfl,by show h.next≤h.next+1;omega,fun i hi=>AP hi⟩
  refine EA Tryd.func48 rfl (by simp[Tryd.f48]) ?_
  have hr:Tryd.f48.results.toList=[.tmp 2]:=rfl
  have hb:CJ Tryd.prog .eql 22 (.tmp 3) (.const (Z0)) (.slice (some ⟨id,off,none⟩) ([]:List AE).length c) (Z0)=some (.bool false):=by
   have hf:flat (.slice (some ⟨id,off,none⟩) ([]:List AE).length c)=false:=rfl
   simp only[CJ,hf,Bool.false_and,Bool.false_eq_true,if_false,Tryd.underlying22]
  have hbs:FI Tryd.prog h 22 0 []=some (qS h.next 0 0,h.push (.row [] 46 false false)):=by
   simp[FI,Tryd.underlying22,G_,GA,flat,B9,E6,IL,C0]
  have hsrc:DX (h.push (.row [] 46 false false)) 5 ([]:List AE).length (.slice (some ⟨id,off,none⟩) ([]:List AE).length c)=some []:=by simp[DX]
  have hap:DE Tryd.prog (h.push (.row [] 46 false false)) 22 (qS h.next 0 0) (.slice (some ⟨id,off,none⟩) ([]:List AE).length c)=some (qS h.next 0 0,h.push (.row [] 46 false false)):=by
   have hu:(0:Nat)≠AM:=by unfold AM;omega
   have hzs:(Value.agg #[.int .i64 0,.string ByteArray.empty,.int .i64 0,.int .i64 0,.int .i64 0]).cells.size=5:=rfl
   simp[DE,Tryd.underlying22,G_,TJ,GA,hzs,DX,hu]
  simp only[eE,seval,↓eP,hr,hb,hbs,hap]
theorem xZ {n:Nat} {h:AA} {l:List AE} {v:Value} (hv:AU h v l) (hlies:PV v l.length) (hlen:l.length<2932031007403) (hn:0<n) :
  ∃ v' h',AX n 48 [v] h=some (v',h')∧(∃ o c g,v'=qS o l.length c∧h'.get o=.row (l.flatMap AI) 46 g false∧h.next≤o∧o<h'.next)∧h'.floor=h.floor∧h.next≤h'.next∧∀ i,i<h.next→h'.get i=h.get i:=by
 obtain⟨n,rfl⟩:=D3 hn
 refine M5 (CP ⟨rfl,rfl,rfl⟩) (wO (call:=AX n) (N:=n) hv hlies hlen) fun v' h1 hf ho ⟨⟨o,c,g,e1,_⟩,_⟩=>?_
 rw[e1] at hf
 cases hf
section
variable {n N:Nat}
theorem Jn {nm:ByteArray} {s:AS} {pv:Value} {lo:Nat} {h:AA} (hp:DJ lo h pv nm s) (hlies:∀ nm' vr vq vv vt vu vo m,pv=.agg #[.string nm',vr,vq,vv,vt,vu,vo,m]→PV vr s.rows.length) (hs:IJ s) (hl:s.rows.length<2932031007403) (hfl:h.floor≤h.next) (hg:h.get 0=ED) (hn0:0<h.next) (hn:2*F8 s+200<n) (hN:F8 s+200<N) :
  ∃ h',A9 Tryd.prog (AX n) N 22 [pv] h=some (iv (F3 nm s),h')∧∀ i,i<h.next→h'.get i=h.get i:=by
 obtain⟨vr,vq,vv,vt,vu,vo,rfl,p1,p2,p3,p4,p5,p6⟩:=hp
 have hlv:=hlies _ _ _ _ _ _ _ _ rfl
 refine FB (R:=fun h'=>∀ i,i<h.next→h'.get i=h.get i) Tryd.func22 rfl (by simp[Tryd.f22]) ?_
 have hr:Tryd.f22.results.toList=[.tmp 2]:=rfl
 unfold F8 at hn hN
 obtain⟨q1,q2,q3,q4,q5,q6⟩:=hs
 have ca:=F7 [.string nm,vr,vq,vv,vt,vu,vo,iv s.miss]
 have oa:=MJ (nm:=nm) p1 p2 p3 p4 p5 p6
 have gA:(h.push (.row [.string nm,vr,vq,vv,vt,vu,vo,iv s.miss] 30 false false)).get h.next=.row [.string nm,vr,vq,vv,vt,vu,vo,iv s.miss] 30 false false:=BO
 have gO:∀ i,i<h.next→(h.push (.row [.string nm,vr,vq,vv,vt,vu,vo,iv s.miss] 30 false false)).get i=h.get i:=fun i hi=>AP hi
 have nA:(h.push (.row [.string nm,vr,vq,vv,vt,vu,vo,iv s.miss] 30 false false)).next=h.next+1:=rfl
 have fA:(h.push (.row [.string nm,vr,vq,vv,vt,vu,vo,iv s.miss] 30 false false)).floor=h.floor:=rfl
 show WK _ _ _ (.seq _ (.seq _ (.seq (.seq _ _) (.seq _ (.seq _ _))))) _ _
 simp only[eE,seval,↓eP,DC,C8,C4,ca,oa,HM]
 generalize h.push (.row [.string nm,vr,vq,vv,vt,vu,vo,iv s.miss] 30 false false)=A at *
 have l1:AO 1 (A.get h.next)=some vr:=by rw[gA];rfl
 have P1:AU A vr s.rows:=p1.1.mono (by omega) gO
 obtain⟨v',h1,hcl,⟨o,c,g,rfl,g1,g2,g3⟩,f1,n1,o1⟩:=xZ (n:=n) P1 hlv (by omega) (by omega)
 have hlen:∀ h':AA,BZ Tryd.prog h' 22 (qS o s.rows.length c)=some (iv (s.rows.length:Int)):=fun h'=>O5
 simp only[eE,seval,↓eP,Nat.zero_add,CR,CI,l1,hcl,hlen]
 refine WK.loop (fun i s'=>s'.T.get 1=qP h.next 0∧s'.T.get 3=qS o s.rows.length c∧s'.T.get 11=iv (s.rows.length:Int)∧s'.T.get 12=iv i∧i≤s.rows.length∧s'.h.next=h1.next∧s'.h.floor=h1.floor∧(∀ i,i≠o→s'.h.get i=h1.get i) ∧
  ∃ L:List AE,s'.h.get o=.row (L.flatMap AI) 46 g false∧∀ j,L[j]?=(s.rows[j]?).map fun x=>if j<i then I9 x else x) s.rows.length (by omega) ?_ ?_
 ·refine⟨by simp only[eE,↓reduceIte,Nat.reduceEqDiff,reduceCtorEq,↓eP,rP,Nat.reduceAdd,Nat.reduceLT],by simp only[eE,↓reduceIte,Nat.reduceEqDiff,reduceCtorEq,↓eP,rP,Nat.reduceAdd,Nat.reduceLT],by simp only[eE,↓reduceIte,Nat.reduceEqDiff,reduceCtorEq,↓eP,rP,Nat.reduceAdd,Nat.reduceLT],by simp only[eE,↓reduceIte,Nat.reduceEqDiff,reduceCtorEq,↓eP,rP,Nat.reduceAdd,Nat.reduceLT];rfl,by omega,rfl,rfl,fun _ _=>rfl,s.rows,g1,fun j=>?_⟩
  simp
 rintro i ⟨T1,H1⟩ hi ⟨t1,t3,t11,t12,hil,m1,m2,m3,L,gL,hL⟩
 simp only at t1 t3 t11 t12 m1 m2 m3 gL
 have hLl:L.length=s.rows.length:=by
  rcases Nat.lt_trichotomy L.length s.rows.length with h9 | h9 | h9
  ·have:=hL L.length
   rw[List.getElem?_eq_none (Nat.le_refl _),List.getElem?_eq_getElem h9] at this
   cases this
  ·exact h9
  ·have:=hL s.rows.length
   rw[List.getElem?_eq_getElem h9,List.getElem?_eq_none (Nat.le_refl _)] at this
   cases this
 by_cases hlt:i<s.rows.length
 ·have c1:decide ((i:Int)<(s.rows.length:Int))=true:=by simp;omega
  obtain⟨x,hx⟩:∃ x,s.rows[i]?=some x:=⟨_,List.getElem?_eq_getElem hlt⟩
  have hLx:L[i]?=some x:=by rw[hL,hx];simp
  have ea:=TI (id:=o) (n:=s.rows.length) (c:=c) hlt
  have lk:AO (i*5) (H1.get o)=some (iv x.kind):=by
   have h5:=PT hLx
   rw[gL]
   have:(L.flatMap AI)[i*5]?=(AI x)[0]?:=by
    rw[← h5,List.getElem?_take_of_lt (by omega),List.getElem?_drop,Nat.add_zero]
   simp only[AO,this]
   rfl
  have w1:=C6 i (by omega)
  cases d:(x.kind != 27) with
  | false=>
   have hz:I9 x=x:=by
    unfold I9
    rw[if_neg (by simpa using d)]
   simp only[eE,seval,↓eP,t1,t3,t11,t12,c1,ea,DI,A_,lk,d,w1]
   refine⟨hlt,by omega,m1,m2,m3,L,gL,fun j=>?_⟩
   rw[hL j]
   by_cases hj:j=i
   ·subst hj
    rw[hx]
    simp[hz]
   ·congr 1
    funext y
    by_cases h9:j<i
    ·rw[if_pos h9,if_pos (by omega)]
    ·rw[if_neg h9,if_neg (by omega)]
  | true=>
   have hz:I9 x={ x with n:=0 }:=by
    unfold I9
    rw[if_pos (by simpa using d)]
   have hst:=FU (t:=3) (off:=i*5+3) (v:=iv 0) CU rfl rfl gL (by rw[JL];omega) (by omega)
   rw[UK hLx] at hst
   simp only[eE,seval,↓eP,t1,t3,t11,t12,c1,ea,DI,I_,A_,lk,d,hst,w1]
   refine⟨hlt,by omega,m1,m2,fun j hj=>by rw[AK (by omega) (Ne.symm hj)];exact m3 j hj,E0 L i 0,BI rfl (by omega),fun j=>?_⟩
   by_cases hj:j=i
   ·subst hj
    rw[I8 hLx,hx]
    simp[hz]
   ·rw[JH hj,hL j]
    congr 1
    funext y
    by_cases h9:j<i
    ·rw[if_pos h9,if_pos (by omega)]
    ·rw[if_neg h9,if_neg (by omega)]
 have c1:decide ((i:Int)<(s.rows.length:Int))=false:=by simp;omega
 have:i=s.rows.length:=by omega
 subst this
 have hLz:L=AY s.rows:=by
  apply List.ext_getElem?
  intro j
  rw[hL j,AY,List.getElem?_map]
  rcases Nat.lt_or_ge j s.rows.length with h9 | h9
  ·simp[h9]
  ·rw[List.getElem?_eq_none h9]
   rfl
 subst hLz
 have hvz:AU H1 (qS o s.rows.length c) (AY s.rows):=by
  refine⟨_,_,by rw[hLl],.inr ⟨o,0,_,_,_,_,rfl,gL,by omega,fun k r hk=>by rw[Nat.zero_add];exact PT hk⟩⟩
 have hw1:H1.get 0=ED:=by rw[m3 0 (by omega),o1 0 (by omega),gO 0 hn0];exact hg
 obtain⟨v2,h2,hres,pv,rfl,hp',f2,n2,o2⟩:=Lm (n:=n) (h:=H1) (by omega) hw1 (by omega) hvz (by omega) (by omega)
 obtain⟨vr',vq',vv',vt',vu',vo',rfl,b1,b2,b3,b4,b5,b6⟩:=hp'
 obtain⟨⟨hb,h3⟩,s1,s2,rO,n3,f3,o3⟩:=eN (H:=h2) (cs:=[.string (C9 (AY s.rows)).1,vr',vq',vv',vt',vu',vo',iv (C9 (AY s.rows)).2.miss]) (e:=(A8 (AY s.rows)).1.1) (p:=(A8 (AY s.rows)).1.2) rfl (MJ b1 b2 b3 b4 b5 b6) (by omega)
 simp only at s1 s2 rO n3 f3 o3
 have HO:∀ i,i<h.next→h3.get i=h.get i:=fun i hi=>by rw[o3 i (by omega),o2 i (by omega),m3 i (by omega),o1 i (by omega),gO i hi]
 have HA:h3.get h.next=.row [.string nm,vr,vq,vv,vt,vu,vo,iv s.miss] 30 false false:=by rw[o3 _ (by omega),o2 _ (by omega),m3 _ (by omega),o1 _ (by omega)];exact gA
 obtain⟨x0,x1,x2,x3,x4,x5,x6,x7⟩:=O3 (a:=.string nm) (b:=vr) (c:=vq) (d:=vv) (e:=vt) (f:=vu) (g:=vo) (i:=iv s.miss) (ty:=30) (x:=false) (y:=false)
 obtain⟨y0,y1,y2,y3,y4,y5,y6,y7⟩:=O3 (a:=.string (C9 (AY s.rows)).1) (b:=vr') (c:=vq') (d:=vv') (e:=vt') (f:=vu') (g:=vo') (i:=iv (C9 (AY s.rows)).2.miss) (ty:=30) (x:=false) (y:=false)
 rw[← HA] at x0 x1 x2 x3 x4 x5 x6 x7
 rw[← rO.1] at y0 y1 y2 y3 y4 y5 y6 y7
 have lF:AO 0 (h3.get (h2.next+1))=some (iv (A8 (AY s.rows)).1.1):=by rw[rO.2];rfl
 have NN:h.next≤h3.next:=by omega
 have A1:=p1.1.mono NN HO
 have A2:=p2.mono NN fun i _ hi=>HO i hi
 have A3:=p3.mono NN fun i _ hi=>HO i hi
 have A4:=p4.mono NN fun i _ hi=>HO i hi
 have A5:=AN.mono p5 NN fun i _ hi=>HO i hi
 have A6:=AN.mono p6 NN fun i _ hi=>HO i hi
 have B1:=(b1.mono (h':=h3) (by omega) fun i _ hi=>o3 i hi).1
 have B2:=b2.mono (h':=h3) (by omega) fun i _ hi=>o3 i hi
 have B3:=b3.mono (h':=h3) (by omega) fun i _ hi=>o3 i hi
 have B4:=b4.mono (h':=h3) (by omega) fun i _ hi=>o3 i hi
 have B5:=AN.mono (h':=h3) b5 (by omega) fun i _ hi=>o3 i hi
 have B6:=AN.mono (h':=h3) b6 (by omega) fun i _ hi=>o3 i hi
 have hR:=Gg (n:=n) A1 B1 (by omega) (by omega)
 have hQ:=zN (n:=n) A2 B2 (by omega) (by omega)
 have hV:=pX (n:=n) A3 B3 (by omega) (by omega)
 have hT:=pX (n:=n) A4 B4 (by omega) (by omega)
 have hU:=sU (n:=n) A5 B5 (by omega) (by omega)
 have hO:=sU (n:=n) A6 B6 (by omega) (by omega)
 have yes:(A8 (AY s.rows)).1.1=0→NL nm (C9 (AY s.rows)).1 s (C9 (AY s.rows)).2→F3 nm s=0:=fun h8 h9=>if_pos ⟨h8,h9⟩
 have no1:(A8 (AY s.rows)).1.1≠0→F3 nm s=23:=fun h8=>if_neg fun h9=>h8 h9.1
 have no2:¬ NL nm (C9 (AY s.rows)).1 s (C9 (AY s.rows)).2→F3 nm s=23:=fun h8=>if_neg fun h9=>h8 h9.2
 simp only[eE,seval,↓eP,t1,t3,t11,t12,c1,hres,L_,MD,NS,HU,HT,ME,C7,s1,s2]
 cases d0:((A8 (AY s.rows)).1.1 != 0) with
 | true=>
  rw[no1 (by simpa using d0)]
  simp only[eE,seval,↓eP,hr,t1,List.append_eq,List.toList_toArray,Nat.zero_add,I6,IX,lF,JX,CR,FD,GB,GI,F2,HG,ID,FN,A_,CI,FM,FE,CC,x0,x1,x2,x3,x4,x5,x6,x7,y0,y1,y2,y3,y4,y5,y6,y7,I5,d0]
  exact HO
 | false=>
 cases d1:(!(nm==(C9 (AY s.rows)).1)) with
 | true=>
  rw[no2 fun h9=>by rw[h9.1,M4] at d1;cases d1]
  simp only[eE,seval,↓eP,hr,t1,List.append_eq,List.toList_toArray,Nat.zero_add,I6,IX,lF,JX,CR,FD,GB,GI,F2,HG,ID,FN,A_,CI,FM,FE,CC,x0,x1,x2,x3,x4,x5,x6,x7,y0,y1,y2,y3,y4,y5,y6,y7,I5,d0,d1]
  exact HO
 | false=>
 cases d2:(s.miss != (C9 (AY s.rows)).2.miss) with
 | true=>
  rw[no2 fun h9=>by rw[h9.2.1] at d2;simp at d2]
  simp only[eE,seval,↓eP,hr,t1,List.append_eq,List.toList_toArray,Nat.zero_add,I6,IX,lF,JX,CR,FD,GB,GI,F2,HG,ID,FN,A_,CI,FM,FE,CC,x0,x1,x2,x3,x4,x5,x6,x7,y0,y1,y2,y3,y4,y5,y6,y7,I5,d0,d1,d2]
  exact HO
 | false=>
 cases d3:decide (s.rows=(C9 (AY s.rows)).2.rows) with
 | false=>
  rw[d3] at hR
  rw[no2 fun h9=>(of_decide_eq_false d3) h9.2.2.1]
  simp only[eE,seval,↓eP,hr,t1,List.append_eq,List.toList_toArray,Nat.zero_add,I6,IX,lF,JX,CR,FD,GB,GI,F2,HG,ID,FN,A_,CI,FM,FE,CC,x0,x1,x2,x3,x4,x5,x6,x7,y0,y1,y2,y3,y4,y5,y6,y7,I5,d0,d1,d2,hR]
  exact HO
 | true=>
 rw[d3] at hR
 cases d4:decide (s.queues=(C9 (AY s.rows)).2.queues) with
 | false=>
  rw[d4] at hQ
  rw[no2 fun h9=>(of_decide_eq_false d4) h9.2.2.2.1]
  simp only[eE,seval,↓eP,hr,t1,List.append_eq,List.toList_toArray,Nat.zero_add,I6,IX,lF,JX,CR,FD,GB,GI,F2,HG,ID,FN,A_,CI,FM,FE,CC,x0,x1,x2,x3,x4,x5,x6,x7,y0,y1,y2,y3,y4,y5,y6,y7,I5,d0,d1,d2,hR,hQ]
  exact HO
 | true=>
 rw[d4] at hQ
 cases d5:decide (s.vars=(C9 (AY s.rows)).2.vars) with
 | false=>
  rw[d5] at hV
  rw[no2 fun h9=>(of_decide_eq_false d5) h9.2.2.2.2.1]
  simp only[eE,seval,↓eP,hr,t1,List.append_eq,List.toList_toArray,Nat.zero_add,I6,IX,lF,JX,CR,FD,GB,GI,F2,HG,ID,FN,A_,CI,FM,FE,CC,x0,x1,x2,x3,x4,x5,x6,x7,y0,y1,y2,y3,y4,y5,y6,y7,I5,d0,d1,d2,hR,hQ,hV]
  exact HO
 | true=>
 rw[d5] at hV
 cases d6:decide (s.tags=(C9 (AY s.rows)).2.tags) with
 | false=>
  rw[d6] at hT
  rw[no2 fun h9=>(of_decide_eq_false d6) h9.2.2.2.2.2.1]
  simp only[eE,seval,↓eP,hr,t1,List.append_eq,List.toList_toArray,Nat.zero_add,I6,IX,lF,JX,CR,FD,GB,GI,F2,HG,ID,FN,A_,CI,FM,FE,CC,x0,x1,x2,x3,x4,x5,x6,x7,y0,y1,y2,y3,y4,y5,y6,y7,I5,d0,d1,d2,hR,hQ,hV,hT]
  exact HO
 | true=>
 rw[d6] at hT
 cases d7:decide (s.rules=(C9 (AY s.rows)).2.rules) with
 | false=>
  rw[d7] at hU
  rw[no2 fun h9=>(of_decide_eq_false d7) h9.2.2.2.2.2.2.1]
  simp only[eE,seval,↓eP,hr,t1,List.append_eq,List.toList_toArray,Nat.zero_add,I6,IX,lF,JX,CR,FD,GB,GI,F2,HG,ID,FN,A_,CI,FM,FE,CC,x0,x1,x2,x3,x4,x5,x6,x7,y0,y1,y2,y3,y4,y5,y6,y7,I5,d0,d1,d2,hR,hQ,hV,hT,hU]
  exact HO
 | true=>
 rw[d7] at hU
 cases d8:decide (s.on=(C9 (AY s.rows)).2.on) with
 | false=>
  rw[d8] at hO
  rw[no2 fun h9=>(of_decide_eq_false d8) h9.2.2.2.2.2.2.2]
  simp only[eE,seval,↓eP,hr,t1,List.append_eq,List.toList_toArray,Nat.zero_add,I6,IX,lF,JX,CR,FD,GB,GI,F2,HG,ID,FN,A_,CI,FM,FE,CC,x0,x1,x2,x3,x4,x5,x6,x7,y0,y1,y2,y3,y4,y5,y6,y7,I5,d0,d1,d2,hR,hQ,hV,hT,hU,hO]
  exact HO
 | true=>
 rw[d8] at hO
 rw[yes (by simpa using d0) ⟨LK (by simpa using d1),by simpa using d2,of_decide_eq_true d3,of_decide_eq_true d4,of_decide_eq_true d5,of_decide_eq_true d6,of_decide_eq_true d7,of_decide_eq_true d8⟩]
 simp only[eE,seval,↓eP,hr,t1,List.append_eq,List.toList_toArray,Nat.zero_add,I6,IX,lF,JX,CR,FD,GB,GI,F2,HG,ID,FN,A_,CI,FM,FE,CC,x0,x1,x2,x3,x4,x5,x6,x7,y0,y1,y2,y3,y4,y5,y6,y7,I5,d0,d1,d2,hR,hQ,hV,hT,hU,hO]
 exact HO
theorem xL {nm:ByteArray} {s:AS} {pv:Value} {lo:Nat} {h:AA} (hp:DJ lo h pv nm s) (hlies:∀ nm' vr vq vv vt vu vo m,pv=.agg #[.string nm',vr,vq,vv,vt,vu,vo,m]→PV vr s.rows.length) (hs:IJ s) (hl:s.rows.length<2932031007403) (hfl:h.floor≤h.next) (hg:h.get 0=ED) (hn0:0<h.next) (hn:2*F8 s+300<n) :
  AX n 22 [pv] h=some (iv (F3 nm s),h):=by
 obtain⟨n,rfl⟩:=D3 hn
 exact JN (CP ⟨rfl,rfl,rfl⟩) rfl (Jn hp hlies hs hl hfl hg hn0 (by omega) (by omega))
end
theorem qO {h:AA} {x:AE}:FI Tryd.prog h 22 1 [(0,DM x)]=some (qS h.next 1 1,h.push (.row (AI x) 46 false false)):=by
 simp[FI,Tryd.underlying22,G_,GA,flat,B9,E6,IL,C0,Go.Sx.lay]
 rfl
theorem mZ {h:AA} {lo:Nat} {v:Value} {l:List AE} {x:AE} (hs:EK h lo (fun _=>1) 1 v l.length (l.flatMap AI) 46) (hlo:lo≤h.next) (hf:h.floor≤lo) (hb:l.length<2932031007402) :
  ∃ v' h',DE Tryd.prog (h.push (.row (AI x) 46 false false)) 22 v (qS h.next 1 1)=some (v',h')∧EK h' lo (fun _=>1) 1 v' (l++[x]).length ((l++[x]).flatMap AI) 46∧h'.floor=h.floor∧h.next≤h'.next∧∀ i,i<lo→h'.get i=h.get i:=by
 have hs':EK (h.push (.row (AI x) 46 false false)) lo (fun i=>if i=h.next then 0 else 1) 1 v l.length (l.flatMap AI) 46:=hs.mono (by show h.next≤h.next+1;omega) (fun i hi=>if_neg (by omega)) fun i _ hi _=>AP hi
 obtain⟨v',h1,a1,a2,a3,a4,a5,a6,a7⟩:=PB (et:=46) (w:=5) (c:=1) (sc:=1) (xs:=AI x) Tryd.underlying22 G_ TJ GA rfl (by decide) (by decide) hs' (JL l) (V8 l) rfl rfl (by decide) (by decide) (by omega) (src:=h.next) BO (by show h.next<h.next+1;omega) hf (by simp)
 have hnx:h1.next=h.next+2:=a4
 refine⟨v',h1,a1,?_,a3,by omega,fun i hi=>?_⟩
 ·rcases a2 with a2 | a2
  ·rcases a2 with⟨h2,_⟩ | ⟨id,ex,b1,b2,b3,b4,b5⟩
   ·omega
   ·refine .inr ⟨id,ex,?_,?_,b3,b4,rfl⟩
    ·rw[b1,List.length_append];rfl
    ·rw[b2,List.flatMap_append,List.flatMap_cons,List.flatMap_nil,List.append_nil]
  ·exact absurd (show lo≤h.next+1 by omega) a2
 ·rw[a7 i (by show i<h.next+1;omega) (by omega),AP (by omega)]
section
variable {call:AT} {n N:Nat} {h:AA}
theorem Ex {l:List AE} {v:Value} (hv:AU h v l) (hl:l.length<2932031007403) (hfl:h.floor≤h.next) (hN:l.length+5<N) :
  ∃ v' h',A9 Tryd.prog call N 71 [v] h=some (v',h')∧A7 h.next h' v' (AY l).length 5 ((AY l).flatMap AI)∧h'.floor=h.floor∧h.next≤h'.next∧∀ i,i<h.next→h'.get i=h.get i:=by
 refine MO (R:=fun v' h'=>A7 h.next h' v' (AY l).length 5 ((AY l).flatMap AI)∧h'.floor=h.floor∧h.next≤h'.next∧∀ i,i<h.next→h'.get i=h.get i) Tryd.func71 rfl (by simp[Tryd.f71]) ?_
 have hr:Tryd.f71.results.toList=[.tmp 2]:=rfl
 simp only[eE,seval,↓eP]
 refine WK.loop (fun i s'=>s'.T.get 0=v∧s'.T.get 4=iv i∧i≤l.length∧h.next≤s'.h.next∧s'.h.floor=h.floor∧(∀ i,i<h.next→s'.h.get i=h.get i)∧∃ u,s'.T.get 3=u∧EK s'.h h.next (fun _=>1) 1 u (AY (l.take i)).length ((AY (l.take i)).flatMap AI) 46) l.length (by omega) ?_ ?_
 ·exact⟨by simp only[eE,↓reduceIte,Nat.reduceEqDiff,reduceCtorEq,↓eP,rP,Nat.reduceAdd,Nat.reduceLT],by simp only[eE,↓reduceIte,Nat.reduceEqDiff,reduceCtorEq,↓eP,rP,Nat.reduceAdd,Nat.reduceLT];rfl,by omega,Nat.le_refl _,rfl,fun _ _=>rfl,_,by simp only[eE,↓reduceIte,Nat.reduceEqDiff,reduceCtorEq,↓eP,rP,Nat.reduceAdd,Nat.reduceLT],R6⟩
 rintro i ⟨T1,H1⟩ hi ⟨t0,t4,hil,n1,f1,o1,u,t3,hS⟩
 simp only at t0 t4 n1 f1 o1 t3 hS
 have hv1:AU H1 v l:=hv.mono n1 o1
 have hlen:=fun h'=>hv1.len (h':=h')
 by_cases hlt:i<l.length
 ·have c1:decide ((i:Int)<(l.length:Int))=true:=by simp;omega
  obtain⟨x,hx⟩:∃ x,l[i]?=some x:=⟨_,List.getElem?_eq_getElem hlt⟩
  obtain⟨rid,p,e0,hid,l0,l1,l2,l3,l4,lr⟩:=hv1.row hx
  have hz:flat (.agg #[.int .i64 0,.string ByteArray.empty,.int .i64 0,.int .i64 0,.int .i64 0])=true:=rfl
  have hzc:=F7 C_
  have hst:BH Tryd.prog (H1.push (.row C_ 46 false false)) 46 (qP H1.next 0) (.agg #[.int .i64 x.kind,.string x.name,.int .i64 x.ends,.int .i64 x.n,.int .i64 x.kids])=some ((H1.push (.row C_ 46 false false)).put H1.next (.row (AI x) 46 false false)):=bF (by omega)
  have gN:((H1.push (.row C_ 46 false false)).put H1.next (.row (AI x) 46 false false)).get H1.next=.row (AI x) 46 false false:=BI rfl (by show H1.next<H1.next+1;omega)
  have gO:∀ i,i<H1.next→((H1.push (.row C_ 46 false false)).put H1.next (.row (AI x) 46 false false)).get i=H1.get i:=fun i hi=>by rw[AK (by show H1.next<H1.next+1;omega) (by omega),AP hi]
  have nG:((H1.push (.row C_ 46 false false)).put H1.next (.row (AI x) 46 false false)).next=H1.next+1:=rfl
  have fG:((H1.push (.row C_ 46 false false)).put H1.next (.row (AI x) 46 false false)).floor=H1.floor:=rfl
  generalize (H1.push (.row C_ 46 false false)).put H1.next (.row (AI x) 46 false false)=G at *
  have w1:=C6 i (by omega)
  have lk:AO 0 (G.get H1.next)=some (iv x.kind):=by rw[gN];rfl
  have htk:AY (l.take (i+1))=AY (l.take i)++[I9 x]:=by
   rw[List.take_add_one,hx,AY,AY,List.map_append]
   rfl
  have hlt2:(AY (l.take i)).length<2932031007402:=by
   rw[AY,List.length_map,List.length_take]
   omega
  cases d:(x.kind != 27) with
  | false=>
   have hz1:I9 x=x:=by unfold I9;rw[if_neg (by simpa using d)]
   have lw:BL 5 0 (G.get H1.next)=some (DM x):=by rw[gN];rfl
   have hSG:EK G h.next (fun _=>1) 1 u (AY (l.take i)).length ((AY (l.take i)).flatMap AI) 46:=hS.mono (by omega) (fun _ _=>rfl) fun i _ hi _=>gO i hi
   obtain⟨v',H2,ha,hS2,f2,n2,o2⟩:=mZ (x:=x) hSG (by omega) (by omega) hlt2
   simp only[eE,seval,↓eP,t0,t3,t4,hlen,c1,e0,HX,lr,GA,hz,hzc,hst,DI,A_,lk,d,lw,qO,ha,w1]
   refine⟨hlt,by omega,by omega,by omega,fun i hi=>by rw[o2 i hi,gO i (by omega),o1 i hi],?_⟩
   rw[htk,hz1]
   exact hS2
  | true=>
   have hz1:I9 x={ x with n:=0 }:=by unfold I9;rw[if_pos (by simpa using d)]
   have hs3:=FU (t:=3) (off:=3) (v:=iv 0) CU rfl rfl gN (by show 3<5;omega) (by omega)
   have gN2:(G.put H1.next (.row ((AI x).set 3 (iv 0)) 46 false false)).get H1.next=.row (AI { x with n:=0 }) 46 false false:=BI rfl (by omega)
   have gO2:∀ i,i<H1.next→(G.put H1.next (.row ((AI x).set 3 (iv 0)) 46 false false)).get i=H1.get i:=fun i hi=>by rw[AK (by omega) (by omega),gO i hi]
   have nG2:(G.put H1.next (.row ((AI x).set 3 (iv 0)) 46 false false)).next=H1.next+1:=nG
   have fG2:(G.put H1.next (.row ((AI x).set 3 (iv 0)) 46 false false)).floor=H1.floor:=fG
   generalize G.put H1.next (.row ((AI x).set 3 (iv 0)) 46 false false)=G2 at *
   have lw:BL 5 0 (G2.get H1.next)=some (DM { x with n:=0 }):=by rw[gN2];rfl
   have hSG:EK G2 h.next (fun _=>1) 1 u (AY (l.take i)).length ((AY (l.take i)).flatMap AI) 46:=hS.mono (by omega) (fun _ _=>rfl) fun i _ hi _=>gO2 i hi
   obtain⟨v',H2,ha,hS2,f2,n2,o2⟩:=mZ (x:={ x with n:=0 }) hSG (by omega) (by omega) hlt2
   simp only[eE,seval,↓eP,Nat.zero_add,t0,t3,t4,hlen,c1,e0,HX,lr,GA,hz,hzc,hst,DI,I_,A_,lk,d,hs3,lw,qO,ha,w1]
   refine⟨hlt,by omega,by omega,by omega,fun i hi=>by rw[o2 i hi,gO2 i (by omega),o1 i hi],?_⟩
   rw[htk,hz1]
   exact hS2
 have c1:decide ((i:Int)<(l.length:Int))=false:=by simp;omega
 have:i=l.length:=by omega
 subst this
 rw[List.take_length] at hS
 simp only[eE,seval,↓eP,hr,t0,t3,t4,hlen,c1]
 exact⟨hS.cells (JL _),f1,n1,o1⟩
theorem Gw {l:List AE} {v:Value} (hv:AU h v l) (hl:l.length<2932031007403) (hfl:h.floor≤h.next) (hn:l.length+10<n) :
  ∃ v' h',AX n 71 [v] h=some (v',h')∧AU h' v' (AY l)∧h'.floor=h.floor∧h.next≤h'.next∧∀ i,i<h.next→h'.get i=h.get i:=by
 obtain⟨n,rfl⟩:=D3 hn
 have hex:=M5 (n:=n) (R:=fun v' h'=>A7 h.next h' v' (AY l).length 5 ((AY l).flatMap AI)∧h'.floor=h.floor∧h.next≤h'.next∧∀ i,i<h.next→h'.get i=h.get i) (CP (f:=71) (args:=[v]) (h:=h) ⟨rfl,rfl,rfl⟩) (Ex (call:=AX n) (N:=n) hv hl hfl (by omega)) fun v' h1 hf _ ⟨hc,_⟩=>⟨hc.flat ?_ _ _,rfl,Nat.le_refl _,fun _ _=>rfl⟩
 ·obtain⟨v',h',e,hc,a⟩:=hex
  exact⟨v',h',e,(IA.of hc).1,a⟩
 ·obtain⟨_,a,c,rfl,_⟩:=hc
  exact hf
theorem Hk {nm:ByteArray} {s:AS} {pv:Value} {lo:Nat} (hp:DJ lo h pv nm s) (h64:∀ x∈s.rows,x.kids≤9223372036854775807) (hs:IJ s) (hl:s.rows.length<2932031007403) (hfl:h.floor≤h.next) (hn:F8 s+100200<n) :
  ∃ h',A9 Tryd.prog (AX n) N 24 [pv] h=some (iv (F3 nm s),h')∧∀ i,i<h.next→h'.get i=h.get i:=by
 obtain⟨vr,vq,vv,vt,vu,vo,rfl,p1,p2,p3,p4,p5,p6⟩:=hp
 refine FB (R:=fun h'=>∀ i,i<h.next→h'.get i=h.get i) Tryd.func24 rfl (by simp[Tryd.f24]) ?_
 have hr:Tryd.f24.results.toList=[.tmp 2]:=rfl
 have htot:F8 s=s.rows.length+s.queues.length+s.vars.length+s.tags.length+s.rules.length+s.on.length:=rfl
 have ca:=F7 [.string nm,vr,vq,vv,vt,vu,vo,iv s.miss]
 have oa:=MJ (nm:=nm) p1 p2 p3 p4 p5 p6
 have gA:(h.push (.row [.string nm,vr,vq,vv,vt,vu,vo,iv s.miss] 30 false false)).get h.next=.row [.string nm,vr,vq,vv,vt,vu,vo,iv s.miss] 30 false false:=BO
 have gO:∀ i,i<h.next→(h.push (.row [.string nm,vr,vq,vv,vt,vu,vo,iv s.miss] 30 false false)).get i=h.get i:=fun i hi=>AP hi
 have nA:(h.push (.row [.string nm,vr,vq,vv,vt,vu,vo,iv s.miss] 30 false false)).next=h.next+1:=rfl
 have fA:(h.push (.row [.string nm,vr,vq,vv,vt,vu,vo,iv s.miss] 30 false false)).floor=h.floor:=rfl
 show WK _ _ _ (.seq _ (.seq _ (.seq _ _))) _ _
 simp only[eE,seval,↓eP,DC,C8,C4,ca,oa,HM]
 generalize h.push (.row [.string nm,vr,vq,vv,vt,vu,vo,iv s.miss] 30 false false)=A at *
 have l1:AO 1 (A.get h.next)=some vr:=by rw[gA];rfl
 have P1:AU A vr s.rows:=p1.1.mono (by omega) gO
 obtain⟨v',h1,hpl,hvz,f1,n1,o1⟩:=Gw (n:=n) P1 hl (by omega) (by omega)
 have hzl:(AY s.rows).length=s.rows.length:=by rw[AY,List.length_map]
 have hz64:∀ x∈AY s.rows,x.kids≤9223372036854775807:=fun x hx=>by
  obtain⟨y,hy,rfl⟩:=List.mem_map.1 hx
  have:=h64 y hy
  unfold I9
  split <;> exact this
 obtain⟨v2,h2,hres,pv,rfl,hp',f2,n2,o2⟩:=oR (n:=n) (h:=h1) (by omega) hvz (by omega) hz64 (by omega)
 obtain⟨vr',vq',vv',vt',vu',vo',rfl,b1,b2,b3,b4,b5,b6⟩:=hp'
 obtain⟨⟨hb,h3⟩,s1,s2,rO,n3,f3,o3⟩:=eN (H:=h2) (cs:=[.string (C9 (AY s.rows)).1,vr',vq',vv',vt',vu',vo',iv (C9 (AY s.rows)).2.miss]) (e:=(A8 (AY s.rows)).1.1) (p:=(A8 (AY s.rows)).1.2) rfl (MJ b1 b2 b3 b4 b5 b6) (by omega)
 simp only at s1 s2 rO n3 f3 o3
 have HO:∀ i,i<h.next→h3.get i=h.get i:=fun i hi=>by rw[o3 i (by omega),o2 i (by omega),o1 i (by omega),gO i hi]
 have HA:h3.get h.next=.row [.string nm,vr,vq,vv,vt,vu,vo,iv s.miss] 30 false false:=by rw[o3 _ (by omega),o2 _ (by omega),o1 _ (by omega)];exact gA
 have LA:BL 8 0 (h3.get h.next)=some (.agg #[.string nm,vr,vq,vv,vt,vu,vo,iv s.miss]):=by rw[HA];rfl
 have LB:BL 8 0 (h3.get h2.next)=some (.agg #[.string (C9 (AY s.rows)).1,vr',vq',vv',vt',vu',vo',iv (C9 (AY s.rows)).2.miss]):=by rw[rO.1];rfl
 have lF:AO 0 (h3.get (h2.next+1))=some (iv (A8 (AY s.rows)).1.1):=by rw[rO.2];rfl
 have NN:h.next≤h3.next:=by omega
 have hpA:DJ lo h3 (.agg #[.string nm,vr,vq,vv,vt,vu,vo,iv s.miss]) nm s:=⟨vr,vq,vv,vt,vu,vo,rfl,p1.mono NN fun i _ hi=>HO i hi,p2.mono NN fun i _ hi=>HO i hi,p3.mono NN fun i _ hi=>HO i hi,p4.mono NN fun i _ hi=>HO i hi,AN.mono p5 NN fun i _ hi=>HO i hi,AN.mono p6 NN fun i _ hi=>HO i hi⟩
 have hpB:DJ h1.next h3 (.agg #[.string (C9 (AY s.rows)).1,vr',vq',vv',vt',vu',vo',iv (C9 (AY s.rows)).2.miss]) (C9 (AY s.rows)).1 (C9 (AY s.rows)).2:=
  DJ.mono ⟨vr',vq',vv',vt',vu',vo',rfl,b1,b2,b3,b4,b5,b6⟩ (by omega) fun i _ hi=>o3 i hi
 obtain⟨b,hsame,hb'⟩:=tC (n:=n) (h:=h3) hpA hpB hs (by omega)
 simp only[eE,seval,↓eP,Nat.zero_add,CR,CI,l1,hpl,hres,L_,MD,NS,HU,HT,ME,C7,s1,s2]
 cases d0:((A8 (AY s.rows)).1.1 != 0) with
 | true=>
  rw[show F3 nm s=23 from if_neg fun h9=>absurd h9.1 (by simpa using d0)]
  simp only[eE,seval,↓eP,hr,I6,IX,lF,d0]
  exact HO
 | false=>
  cases b with
  | true=>
   rw[show F3 nm s=0 from if_pos ⟨by simpa using d0,hb'.1 rfl⟩]
   simp only[eE,seval,↓eP,hr,I6,IX,lF,d0,GX,LA,LB,hsame]
   exact HO
  | false=>
   rw[show F3 nm s=23 from if_neg fun h9=>by have:=hb'.2 h9.2;cases this]
   simp only[eE,seval,↓eP,hr,I6,IX,lF,d0,GX,LA,LB,hsame]
   exact HO
theorem Kn {nm:ByteArray} {s:AS} {pv:Value} {lo:Nat} (hp:DJ lo h pv nm s) (h64:∀ x∈s.rows,x.kids≤9223372036854775807) (hs:IJ s) (hl:s.rows.length<2932031007403) (hfl:h.floor≤h.next) (hn:F8 s+100300<n) :
  AX n 24 [pv] h=some (iv (F3 nm s),h):=by
 obtain⟨n,rfl⟩:=D3 hn
 exact JN (CP ⟨rfl,rfl,rfl⟩) rfl (Hk (N:=n) hp h64 hs hl hfl (by omega))
end
theorem kT {l:List AE}:∀ (a b p q r:Nat),EJ l a p q→EJ l b q r→EJ l (a+b) p r
 | 0,b,p,q,r,h,h2=>by
  have:p=q:=h
  subst this
  rw[Nat.zero_add]
  exact h2
 | a+1,b,p,q,r,⟨p',h1,h3,h4,h5⟩,h2=>by
  rw[show a+1+b=(a+b)+1 by omega]
  exact⟨p',h1,h3,h4,kT a b p' q r h5 h2⟩
section
variable {call:AT} {N:Nat} {h:AA}
theorem vU {Z L:List AE} {v:Value} {at_ q:Nat} (hsk:G0 L Z) (hv:AU h v L) (hs:DV Z at_ q) (hlen:L.length<30000000000000) (hN:L.length+3<N) :
  A9 Tryd.prog call N 110 [v,iv at_] h=some (iv q,h):=by
 refine EA Tryd.func110 rfl (by simp[Tryd.f110]) ?_
 have hr:Tryd.f110.results.toList=[.tmp 4]:=rfl
 have hl:=fun h'=>hv.len (h':=h')
 have hq:=hs.lt
 have hZ:=hsk.1
 simp only[eE,seval,↓eP,rP,hr]
 refine WK.loop (fun i s'=>s'.h=h∧s'.T.get 0=v∧s'.T.get 1=iv ((at_+i:Nat):Int)∧∃ r:Nat,s'.T.get 5=iv r∧EJ Z r (at_+i) q) (q-at_) (by omega) ?_ ?_
 ·exact⟨rfl,by simp only[eE,seval,↓eP,rP],by simp only[eE,seval,↓eP,rP,Nat.add_zero],1,by simp only[eE,seval,↓eP,rP],q,hs,hq.1,hq.2,rfl⟩
 rintro i ⟨T1,H1⟩ hi ⟨rfl,t0,t1,r,t5,hc⟩
 simp only at t0 t1 t5
 cases r with
 | zero=>
  have hpq:at_+i=q:=hc
  have c1:decide (((0:Nat):Int)>0)=false:=rfl
  rw[hpq] at t1
  simp only[eE,seval,↓eP,rP,hr,t0,t1,t5,c1]
 | succ r=>
  obtain⟨p',h1,h2,h3,h4⟩:=hc
  have hle:=HH _ _ _ h4
  have c1:decide (((r+1:Nat):Int)>0)=true:=decide_eq_true (by omega)
  have c2:decide (((at_+i:Nat):Int)≥0)=true:=decide_eq_true (by omega)
  have c3:decide (((at_+i:Nat):Int)<(L.length:Int))=true:=by simp;omega
  obtain⟨x,hx,hk0,_,hch⟩:=h1.kids
  obtain⟨y,hy,hyk⟩:=hsk.2 _ x hx
  obtain⟨id,p,e0,hid,l0,l1,l2,l3,l4,lr⟩:=hv.row hy
  rw[hyk] at l4
  have hcl:=HH _ _ _ hch
  have m1:(if (L.length:Int)<x.kids then (L.length:Int) else x.kids)=x.kids:=if_neg (by omega)
  have m2:(if x.kids>0 then x.kids else 0)=x.kids:=by split <;> omega
  have w1:IntKind.i64.wrap (x.kids-1)=x.kids-1:=B0 (by omega) (by omega)
  have w2:IntKind.i64.wrap (((r+1:Nat):Int)+(x.kids-1))=((x.kids.toNat+r:Nat):Int):=by rw[B0 (by omega) (by omega)];omega
  have w3:IntKind.i64.wrap (((at_+i:Nat):Int)+1)=((at_+(i+1):Nat):Int):=by rw[B0 (by omega) (by omega)];omega
  simp only[eE,seval,↓eP,rP,t0,t1,t5,c1,c2,hl,c3,e0,l4,m1,m2,w1,w2,w3]
  exact⟨by omega,_,rfl,kT _ _ _ _ _ hch h4⟩
theorem Ce {n:Nat} {Z L:List AE} {v:Value} {at_ q:Nat} (hsk:G0 L Z) (hv:AU h v L) (hs:DV Z at_ q) (hlen:L.length<30000000000000) (hn:L.length+5<n) :
  AX n 110 [v,iv at_] h=some (iv q,h):=by
 obtain⟨n,rfl⟩:=D3 hn
 exact JJ (CP ⟨rfl,rfl,rfl⟩) rfl (vU hsk hv hs hlen (by omega))
def BX (e:Nat→Nat):Nat→Nat→List Nat
 | 0,_=>[]
 | k+1,p=>p :: BX e k (e p)
theorem WX {e:Nat→Nat}:∀ k p,(BX e k p).length=k
 | 0,p=>rfl
 | k+1,p=>by show (BX e k (e p)).length+1=_;rw[WX k (e p)]
def GJ (h:AA) (lo:Nat) (v:Value) (l:List Int):Prop:=
 (v=Z0∧l=[])∨∃ id c,v=qS id l.length c∧lo≤id∧id<h.next∧((c=AM∧h.get id=.row (ints l) 3 true false)∨(c=l.length∧h.get id=.row (ints l) 3 false false))
theorem GJ.ints {lo lo':Nat} {v:Value} {l:List Int} (hl:GJ h lo v l) (hle:lo'≤lo):AN lo' h v l:=by
 rcases hl with⟨rfl,rfl⟩ | ⟨id,c,rfl,h1,h2,⟨_,h3⟩ | ⟨_,h3⟩⟩
 ·exact A7.nil lo' h 1
 ·exact AN.row' h3 ⟨by omega,h2⟩ rfl
 ·exact AN.row' h3 ⟨by omega,h2⟩ rfl
theorem GJ.mono {h':AA} {lo:Nat} {v:Value} {l:List Int} (hl:GJ h lo v l) (hn:h.next≤h'.next) (hg:∀ i,lo≤i→i<h.next→h'.get i=h.get i):GJ h' lo v l:=by
 rcases hl with h1 | ⟨id,c,h1,h2,h3,h4⟩
 ·exact .inl h1
 ·exact .inr ⟨id,c,h1,h2,by omega,by rw[hg id h2 h3];exact h4⟩
theorem b_:(Value.int .i64 0).cells.size=1:=rfl
theorem T0 {lo:Nat} {v:Value} {l:List Int} {x:Int} (hl:GJ h lo v l) (hlo:lo≤h.next) (hf:h.floor≤lo) (hb:l.length<17592186044415) :
  ∃ v' h',DE Tryd.prog (h.push (.row [iv x] 3 false false)) 28 v (qS h.next 1 1)=some (v',h')∧GJ h' lo v' (l++[x])∧h'.floor=h.floor∧h.next≤h'.next∧∀ i,i<lo→h'.get i=h.get i:=by
 have hsrc:DX (h.push (.row [iv x] 3 false false)) 1 1 (qS h.next 1 1)=some [iv x]:=by
  simp only[DX,BO]
  rfl
 have hone:([iv x]:List Value).all one=true:=rfl
 have hi1:ints (l++[x])=ints l++[iv x]:=by simp[ints]
 rcases hl with⟨rfl,rfl⟩ | ⟨id,c,rfl,h1,h2,h3⟩
 ·have hnu:(0:Nat)≠AM:=by unfold AM;omega
  refine⟨.slice (some ⟨(h.push (.row [iv x] 3 false false)).next,0,none⟩) 1 AM,(h.push (.row [iv x] 3 false false)).push (.row [iv x] 3 true false),?_,.inr ⟨_,AM,rfl,?_,?_,.inl ⟨rfl,BO⟩⟩,rfl,by show h.next≤h.next+1+1;omega,fun i hi=>?_⟩
  ·have h0:DX (h.push (.row [iv x] 3 false false)) 1 0 (Z0)=some []:=by simp[DX]
   simp only[DE,Tryd.underlying28,CU,LU,JI,b_,hsrc,hone,h0]
   rw[if_pos (by simp),if_pos trivial,if_neg hnu,if_neg (by omega),if_pos (by simp)]
   rfl
  ·show lo≤h.next+1;omega
  ·show h.next+1<h.next+1+1;omega
  ·rw[AP (by show i<h.next+1;omega),AP (by omega)]
 ·have hll:(ints l).length=l.length:=FZ l
  rcases h3 with⟨rfl,hg⟩ | ⟨rfl,hg⟩
  ·have hu:l.length≤AM:=by unfold AM;omega
   have hg':(h.push (.row [iv x] 3 false false)).get id=.row (ints l) 3 true false:=by rw[AP h2];exact hg
   have hcut:GQ (ints l) 0 (l.length*1)=some (ints l):=by
    simp only[GQ,List.drop_zero]
    rw[List.take_of_length_le (by omega),if_pos (by omega)]
   refine⟨.slice (some ⟨(h.push (.row [iv x] 3 false false)).next,0,none⟩) (l.length+1) AM,((h.push (.row [iv x] 3 false false)).put id .dead).push (.row (ints l++[iv x]) 3 true false),?_,.inr ⟨_,AM,by rw[List.length_append];rfl,?_,?_,.inl ⟨rfl,?_⟩⟩,rfl,by show h.next≤h.next+1+1;omega,fun i hi=>?_⟩
   ·simp only[DE,Tryd.underlying28,CU,LU,JI,b_,hsrc,hone,hg',hcut,PJ]
    rw[if_pos (by simp;omega),if_pos trivial,if_pos trivial,if_pos (by rw[DA,decide_eq_true (show (l.length+1)*8≤140737488355328 by omega),decide_eq_true (show l.length+1≤140737488355328 by omega),decide_eq_true (show h.floor≤id by omega)];rfl),if_neg (by decide),if_pos trivial,if_pos trivial]
   ·show lo≤h.next+1;omega
   ·show h.next+1<h.next+1+1;omega
   ·rw[hi1]
    exact BO
   ·rw[AP (by show i<h.next+1;omega),AK (by show id<h.next+1;omega) (by omega),AP (by omega)]
  ·have hcut:DX (h.push (.row [iv x] 3 false false)) 1 l.length (qS id l.length l.length)=some (ints l):=by
    by_cases h0:l.length=0
    ·rw[List.length_eq_zero_iff.1 h0]
     rfl
    ·simp only[DX,AP h2,hg,GQ,List.drop_zero]
     rw[if_neg h0,List.take_of_length_le (by omega),if_pos (by omega)]
   refine⟨.slice (some ⟨(h.push (.row [iv x] 3 false false)).next,0,none⟩) (l.length+1) AM,(h.push (.row [iv x] 3 false false)).push (.row (ints l++[iv x]) 3 true false),?_,.inr ⟨_,AM,by rw[List.length_append];rfl,?_,?_,.inl ⟨rfl,?_⟩⟩,rfl,by show h.next≤h.next+1+1;omega,fun i hi=>?_⟩
   ·simp only[DE,Tryd.underlying28,CU,LU,JI,b_,hsrc,hone,hcut]
    rw[if_pos (by simp),if_pos trivial,if_neg (by unfold AM;omega),if_neg (by omega),if_pos (by simp only[Bool.and_eq_true,decide_eq_true_eq];omega)]
   ·show lo≤h.next+1;omega
   ·show h.next+1<h.next+1+1;omega
   ·rw[hi1]
    exact BO
   ·rw[AP (by show i<h.next+1;omega),AP (by omega)]
theorem Aa {n:Nat} {Z L:List AE} {v:Value} {at_:Nat} {x:AE} (ht:B_ Z) (hsk:G0 L Z) (hv:AU h v L) (hx:Z[at_]?=some x) (hlen:L.length<2932031007403) (hn:L.length+10<n) (hN:L.length+3<N) (hfl:h.floor≤h.next) :
  ∃ v' h',A9 Tryd.prog (AX n) N 96 [v,iv at_] h=some (v',h')∧(GJ h' h.next v' ((BX (AG Z) x.kids.toNat (at_+1)).map (fun (k:Nat)=>(k:Int)))∧h'.floor=h.floor∧h.next≤h'.next∧∀ i,i<h.next→h'.get i=h.get i):=by
 refine MO (R:=fun v' h'=>GJ h' h.next v' ((BX (AG Z) x.kids.toNat (at_+1)).map (fun (k:Nat)=>(k:Int)))∧h'.floor=h.floor∧h.next≤h'.next∧∀ i,i<h.next→h'.get i=h.get i) Tryd.func96 rfl (by simp[Tryd.f96]) ?_
 have hr:Tryd.f96.results.toList=[.tmp 4]:=rfl
 have hl:=fun (h':AA)=>hv.len (h':=h')
 have hal:=(List.getElem?_eq_some_iff.1 hx).1
 have hZ:=hsk.1
 have hs:=ht.end hal
 obtain⟨x',hx',hk0,_,hch⟩:=hs.kids
 rw[hx] at hx'
 cases hx'
 have hq:=hs.lt
 have hcl:=HH _ _ _ hch
 obtain⟨y,hy,hyk⟩:=hsk.2 _ x hx
 obtain⟨id,p,e0,hid,l0,l1,l2,l3,l4,lr⟩:=hv.row hy
 rw[hyk] at l4
 have c1:decide ((at_:Int)<0)=false:=by simp
 have c2:decide ((at_:Int)≥(L.length:Int))=false:=by simp;omega
 have w1:=C6 at_ (by omega)
 simp only[eE,seval,↓eP,rP,hr,c1,hl,c2,w1,e0,l4]
 refine WK.loop (fun i s'=>s'.T.get 0=v∧s'.T.get 21=iv x.kids∧s'.T.get 22=iv i∧i≤x.kids.toNat∧h.next≤s'.h.next∧s'.h.floor=h.floor∧(∀ j,j<h.next→s'.h.get j=h.get j)∧∃ p l w,s'.T.get 6=iv ((p:Nat):Int)∧s'.T.get 5=w∧GJ s'.h h.next w (l.map (fun (k:Nat)=>(k:Int)))∧l.length=i∧l++BX (AG Z) (x.kids.toNat-i) p=BX (AG Z) x.kids.toNat (at_+1)∧EJ Z (x.kids.toNat-i) p (AG Z at_)) x.kids.toNat (by omega) ?_ ?_
 ·exact⟨by simp only[eE,seval,↓eP,rP],by simp only[eE,seval,↓eP,rP],by simp only[eE,seval,↓eP,rP],by omega,Nat.le_refl _,rfl,fun _ _=>rfl,at_+1,[],Z0,by simp only[eE,seval,↓eP,rP],by simp only[eE,seval,↓eP,rP],.inl ⟨rfl,rfl⟩,rfl,rfl,hch⟩
 rintro i ⟨T1,H1⟩ hi ⟨t0,t21,t22,hil,m1,m2,m3,p,l,w,t6,t5,hL,hll,hlk,hc⟩
 simp only at t0 t21 t22 m1 m2 m3 t6 t5 hL
 by_cases hlt:i<x.kids.toNat
 ·have d1:decide ((i:Int)<x.kids)=true:=by simp;omega
  obtain⟨r,hr1⟩:∃ r,x.kids.toNat-i=r+1:=⟨x.kids.toNat-i-1,by omega⟩
  rw[hr1] at hc hlk
  obtain⟨p',s1,s2,s3,s4⟩:=hc
  have hle:=HH _ _ _ s4
  have d2:decide ((p:Int)≥(L.length:Int))=false:=by simp;omega
  have hep:=I2 s1
  obtain⟨w',H',happ,hL',fH,nH,oH⟩:=T0 (x:=(p:Int)) hL m1 (by omega) (by rw[List.length_map];omega)
  have hvH:AU H' v L:=hv.mono (by omega) fun j hj=>(oH j hj).trans (m3 j hj)
  have hend:=Ce (n:=n) hsk hvH s1 (by omega) (by omega)
  have w2:=C6 i (by omega)
  simp only[eE,seval,↓eP,t0,t21,t22,t5,t6,d1,hl,d2,MB,happ,hend,w2]
  refine⟨hlt,by omega,by omega,by omega,fun j hj=>(oH j hj).trans (m3 j hj),p',l++[p],w',rfl,rfl,?_,by rw[List.length_append,hll];rfl,?_,?_⟩
  ·rw[List.map_append]
   exact hL'
  ·rw[List.append_assoc,← hlk,show x.kids.toNat-(i+1)=r by omega]
   show l++(p :: BX (AG Z) r p')=l++(p :: BX (AG Z) r (AG Z p))
   rw[hep]
  ·rw[show x.kids.toNat-(i+1)=r by omega]
   exact s4
 ·have d1:decide ((i:Int)<x.kids)=false:=by simp;omega
  rw[show x.kids.toNat-i=0 by omega] at hlk
  have hl9:l=BX (AG Z) x.kids.toNat (at_+1):=by
   rw[← hlk]
   exact(List.append_nil l).symm
  subst hl9
  simp only[eE,seval,↓eP,hr,t0,t21,t22,t5,t6,d1]
  exact⟨hL,m2,m1,m3⟩
theorem GJ.flat {lo:Nat} {v:Value} {l:List Int} (hl:GJ h lo v l) (hf:FP v=true) (h':AA) (lo':Nat):GJ h' lo' v l:=by
 rcases hl with h1 | ⟨id,c,rfl,_⟩
 ·exact .inl h1
 ·cases hf
theorem vA {n:Nat} {Z L:List AE} {v:Value} {at_:Nat} {x:AE} (ht:B_ Z) (hsk:G0 L Z) (hv:AU h v L) (hx:Z[at_]?=some x) (hlen:L.length<2932031007403) (hn:L.length+20<n) (hfl:h.floor≤h.next) :
  ∃ v' h',AX n 96 [v,iv at_] h=some (v',h')∧(GJ h' h.next v' ((BX (AG Z) x.kids.toNat (at_+1)).map (fun (k:Nat)=>(k:Int)))∧h'.floor=h.floor∧h.next≤h'.next∧∀ i,i<h.next→h'.get i=h.get i):=by
 obtain⟨n,rfl⟩:=D3 hn
 exact M5 (CP ⟨rfl,rfl,rfl⟩) (Aa (n:=n) (N:=n) ht hsk hv hx hlen (by omega) (by omega) hfl) fun v' h1 hf _ ht=>⟨ht.1.flat hf _ _,rfl,Nat.le_refl _,fun _ _=>rfl⟩
end
def GC (e:TypeId) (h:AA) (lo:Nat) (v:Value) (n:Nat) (cs:List Value):Prop:=
 (v=Z0∧n=0∧cs=[])∨∃ id,v=qS id n AM∧lo≤id∧id<h.next∧h.get id=.row cs e true false
theorem GC.mono {e:TypeId} {h h':AA} {lo:Nat} {v:Value} {n:Nat} {cs:List Value} (hl:GC e h lo v n cs) (hn:h.next≤h'.next) (hg:∀ i,i<h.next→(∃ cs' g,h.get i=.row cs' e g false)→lo≤i→h'.get i=h.get i):GC e h' lo v n cs:=by
 rcases hl with h1 | ⟨id,h1,h2,h3,h4⟩
 ·exact .inl h1
 ·exact .inr ⟨id,h1,h2,by omega,by rw[hg id h3 ⟨_,_,h4⟩ h2];exact h4⟩
theorem GC.cells {e:TypeId} {h:AA} {lo lo':Nat} {v:Value} {n w:Nat} {cs:List Value} (hl:GC e h lo v n cs) (hw:cs.length=n*w) (hle:lo'≤lo):A7 lo' h v n w cs:=by
 rcases hl with⟨rfl,rfl,rfl⟩ | ⟨id,rfl,h2,h3,h4⟩
 ·exact⟨by simp,_,_,rfl,.inl ⟨rfl,rfl⟩⟩
 ·exact⟨hw,_,_,rfl,.inr ⟨id,0,cs,e,true,false,rfl,h4,by omega,by rw[List.drop_zero,List.take_of_length_le (by omega)],fun _=>rfl⟩⟩
section
variable {P:Program} {t e:TypeId} {w b:Nat} {z:Value} {h:AA}
theorem Ja (ht:P.underlying t=some (.slice e)) (he:BN P e=some w) (hb:IB P e=some b) (hz:DQ P e=some z) (hzc:z.cells.size=w) (hw:0<w) (hbb:b≤32) {lo n:Nat} {v:Value} {cs new:List Value} (hl:GC e h lo v n cs) (hcl:cs.length=n*w) (hco:cs.all one=true) (hnl:new.length=w) (hno:new.all one=true) (hlo:lo≤h.next) (hf:h.floor≤lo) (hn:n<2932031007403) :
  ∃ v' h',DE P (h.push (.row new e false false)) t v (qS h.next 1 1)=some (v',h')∧GC e h' h.next v' (n+1) (cs++new)∧h'.floor=h.floor∧h.next≤h'.next∧∀ i,i<h.next→(∀ m c,v≠qS i m c)→h'.get i=h.get i:=by
 have hsrc:DX (h.push (.row new e false false)) w 1 (qS h.next 1 1)=some new:=by
  simp only[DX,BO,GQ,List.drop_zero,Nat.one_mul]
  rw[if_neg (by decide),List.take_of_length_le (by omega),if_pos hnl]
 have hb1:(n+1)*b≤(n+1)*32:=Nat.mul_le_mul_left _ hbb
 rcases hl with⟨rfl,rfl,rfl⟩ | ⟨id,rfl,h1,h2,hg⟩
 ·have hnu:(0:Nat)≠AM:=by unfold AM;omega
  refine⟨.slice (some ⟨(h.push (.row new e false false)).next,0,none⟩) (0+1) AM,(h.push (.row new e false false)).push (.row ([]++new) e true false),?_,.inr ⟨_,rfl,?_,?_,BO⟩,rfl,by show h.next≤h.next+1+1;omega,fun i hi _=>?_⟩
  ·have h0:DX (h.push (.row new e false false)) w 0 (Z0)=some []:=by simp[DX]
   simp only[DE,ht,he,hb,hz,hsrc,hno,h0]
   rw[if_pos (by simp[hzc,hw]),if_pos trivial,if_neg hnu,if_neg (by omega),if_pos (by simp;omega)]
  ·show h.next≤h.next+1;omega
  ·show h.next+1<h.next+1+1;omega
  ·rw[AP (by show i<h.next+1;omega),AP (by omega)]
 ·have hu:n≤AM:=by unfold AM;omega
  have hg':(h.push (.row new e false false)).get id=.row cs e true false:=by rw[AP h2];exact hg
  have hcut:GQ cs 0 (n*w)=some cs:=by
   simp only[GQ,List.drop_zero]
   rw[List.take_of_length_le (by omega),if_pos (by omega)]
  refine⟨.slice (some ⟨(h.push (.row new e false false)).next,0,none⟩) (n+1) AM,((h.push (.row new e false false)).put id .dead).push (.row (cs++new) e true false),?_,.inr ⟨_,rfl,?_,?_,BO⟩,rfl,by show h.next≤h.next+1+1;omega,fun i hi hi2=>?_⟩
  ·simp only[DE,ht,he,hb,hz,hsrc,hno,hg',hcut,hco]
   rw[if_pos (by simp[hzc,hw];omega),if_pos trivial,if_pos trivial,if_pos (by rw[DA,decide_eq_true (show (n+1)*b≤140737488355328 by omega),decide_eq_true (show n+1≤140737488355328 by omega),decide_eq_true (show h.floor≤id by omega)];rfl),if_neg (by decide),if_pos trivial,if_pos trivial]
  ·show h.next≤h.next+1;omega
  ·show h.next+1<h.next+1+1;omega
  ·have hne:id≠i:=by
    rintro rfl
    exact hi2 _ _ rfl
   rw[AP (by show i<h.next+1;omega),AK (by show id<h.next+1;omega) hne,AP (by omega)]
end
theorem GC.weak {e:TypeId} {h:AA} {lo lo':Nat} {v:Value} {n:Nat} {cs:List Value} (hl:GC e h lo v n cs) (hle:lo'≤lo):GC e h lo' v n cs:=by
 rcases hl with h1 | ⟨id,h1,h2,h3,h4⟩
 ·exact .inl h1
 ·exact .inr ⟨id,h1,by omega,h3,h4⟩
theorem GC.below {e:TypeId} {lo n:Nat} {h:AA} {v:Value} {cs:List Value} (ho:GC e h lo v n cs) {j:Nat} (hj:j<lo):∀ m c,v≠qS j m c:=by
 rintro m c rfl
 rcases ho with⟨h9,_⟩ | ⟨id,h1,h2,h3,_⟩
 ·cases h9
 ·cases h1;omega
theorem GC.above {e:TypeId} {lo n:Nat} {h:AA} {v:Value} {cs:List Value} (ho:GC e h lo v n cs) {j:Nat} (hj:h.next≤j):∀ m c,v≠qS j m c:=by
 rintro m c rfl
 rcases ho with⟨h9,_⟩ | ⟨id,h1,h2,h3,_⟩
 ·cases h9
 ·cases h1;omega
theorem GC.apart {e:TypeId} {lo n:Nat} {h:AA} {v:Value} {cs:List Value} (ho:GC e h lo v n cs) {i:Nat} {cs':List Value} {t:TypeId} {g r:Bool} (hi:h.get i=.row cs' t g r) (hne:t≠e):∀ m c,v≠qS i m c:=by
 rintro m c rfl
 rcases ho with⟨h9,_⟩ | ⟨id,h1,h2,h3,h4⟩
 ·cases h9
 ·cases h1
  rw[hi] at h4
  cases h4
  exact hne rfl
def H_:List Int→Int
 | []=>0
 | x :: l=>(if x<0 then 0 else x)+H_ l
def VC (l:List Int):Int:=if H_ l>4611686018427387904 then 4611686018427387904 else H_ l
theorem uK (a b:List Int):H_ (a++b)=H_ a+H_ b:=by
 induction a with
 | nil=>simp[H_]
 | cons x a ih=>simp only[List.cons_append,H_,ih];omega
theorem XK (a:List Int):0≤H_ a:=by
 induction a with
 | nil=>simp[H_]
 | cons x a ih=>simp only[H_];split <;> omega
theorem zU {l:List Int} {k:Nat} {x:Int} (hk:l[k]?=some x):H_ (l.take (k+1))=H_ (l.take k)+(if x<0 then 0 else x):=by
 rw[List.take_add_one,hk,uK]
 simp[H_]
theorem zB {l:List Int} (k:Nat):H_ (l.take k)≤H_ l:=by
 have h:=uK (l.take k) (l.drop k)
 rw[List.take_append_drop] at h
 have:=XK (l.drop k)
 omega
def ZG (l:List Int):Prop:=∀ x∈l,-9223372036854775808≤x∧x<9223372036854775808
section
variable {call:AT} {n:Nat} {h:AA} {v:Value} {l:List Int}
theorem vC (hv:QR h v l) (hl:ZG l) (hlen:l.length<9223372036854775807) (hn:l.length<n):A9 Tryd.prog call n 75 [v] h=some (.int .i64 (VC l),h):=by
 refine EA Tryd.func75 rfl (by simp[Tryd.f75]) ?_
 have hr:Tryd.f75.results.toList=[.tmp 2]:=rfl
 simp only[eE,↓reduceIte,Nat.reduceEqDiff,reduceCtorEq,hv.len Tryd.underlying28,hr]
 refine WK.loop (fun k s=>s.h=h∧s.T.get 6=v∧s.T.get 7=.int .i64 l.length∧s.T.get 8=.int .i64 k∧∃ acc,s.T.get 3=.int .i64 acc∧acc=H_ (l.take k)∧acc≤4611686018427387904) l.length hn ?_ ?_
 ·simp only[eE,↓reduceIte,Nat.reduceEqDiff,reduceCtorEq]
  exact⟨rfl,by simp[H_],by omega⟩
 ·rintro k ⟨T,h1⟩ hk ⟨rfl,h6,h7,h8,acc,h3,ha,hb⟩
  simp only at h6 h7 h8 h3
  have hacc:=XK (l.take k)
  simp only[eE,↓reduceIte,Nat.reduceEqDiff,reduceCtorEq,h6,h7,h8,h3]
  refine⟨fun hlt=>?_,fun hge=>?_⟩
  ·have hlt':k<l.length:=by omega
   have hx:l[k]?=some l[k]:=List.getElem?_eq_getElem hlt'
   have hin:=hl l[k] (List.getElem_mem hlt')
   have htk:=zU hx
   have hle:=zB (l:=l) (k+1)
   generalize l[k]=x at hx hin htk
   obtain⟨p,hp1,hp2⟩:=hv.idx Tryd.underlying28 CU VN hx (kd:=.i64)
   simp only[eE,↓reduceIte,Nat.reduceEqDiff,reduceCtorEq,hp1,hp2,h3,h6,h7,h8]
   have hm:(if (0:Int)>x then 0 else x)=(if x<0 then 0 else x):=rfl
   rw[hm]
   have hm0:0≤(if x<0 then (0:Int) else x)∧(if x<0 then (0:Int) else x)<9223372036854775808:=by split <;> omega
   generalize (if x<0 then (0:Int) else x)=m at htk hm0
   rw[B0 (x:=4611686018427387904-acc) (by omega) (by omega)]
   refine⟨fun hgt=>?_,fun hle'=>⟨hlt',?_,?_,?_⟩⟩
   ·unfold VC
    rw[if_pos (by omega)]
   ·rw[B0 (by omega) (by omega)];rfl
   ·rw[B0 (by omega) (by omega)];omega
   ·rw[B0 (by omega) (by omega)];omega
  ·have:k=l.length:=by omega
   subst this
   rw[List.take_length] at ha
   unfold VC
   rw[if_neg (by omega),ha]
end
def nM (a b:Int):Int:=if a>4611686018427387904-b then 4611686018427387904 else a+b
def bB (a b:Int):Int:=if a>0∧b>4611686018427387904/a then 4611686018427387904 else a*b
section
variable {call:AT} {n:Nat} {h:AA} {v:Value} {l:List Int}
theorem Gn {a b:Int} (ha:0≤a∧a≤4611686018427387904) (hb:0≤b∧b≤4611686018427387904):A9 Tryd.prog call n 97 [.int .i64 a,.int .i64 b] h=some (.int .i64 (nM a b),h):=by
 refine EA Tryd.func97 rfl (by simp[Tryd.f97]) ?_
 have hr:Tryd.f97.results.toList=[.tmp 4]:=rfl
 simp only[eE,↓reduceIte,Nat.reduceEqDiff,reduceCtorEq,hr,nM]
 rw[B0 (x:=4611686018427387904-b) (by omega) (by omega)]
 refine⟨fun h1=>?_,fun h1=>?_⟩
 ·rw[if_pos h1]
 ·rw[if_neg h1,B0 (by omega) (by omega)]
theorem Kh {a b:Int} (ha:0≤a∧a≤4611686018427387904) (hb:0≤b∧b≤4611686018427387904):A9 Tryd.prog call n 98 [.int .i64 a,.int .i64 b] h=some (.int .i64 (bB a b),h):=by
 refine EA Tryd.func98 rfl (by simp[Tryd.f98]) ?_
 have hr:Tryd.f98.results.toList=[.tmp 4]:=rfl
 by_cases h0:a>0
 ·simp only[eE,↓reduceIte,Nat.reduceEqDiff,reduceCtorEq,hr,bB,h0,Pc (show a≠0 by omega)]
  have hq:Int.tdiv 4611686018427387904 a=4611686018427387904/a:=Int.tdiv_eq_ediv_of_nonneg (by omega)
  have h1:4611686018427387904/a≤4611686018427387904:=Int.ediv_le_self _ (by omega)
  have h2:0≤4611686018427387904/a:=Int.ediv_nonneg (by omega) (by omega)
  rw[hq,B0 (x:=4611686018427387904/a) (by omega) (by omega)]
  refine⟨fun h3=>?_,fun h3=>?_⟩
  ·rw[if_pos h3]
  ·rw[if_neg h3]
   have h4:a*b≤4611686018427387904:=by
    have:=Int.mul_le_mul_of_nonneg_left (show b≤4611686018427387904/a by omega) (show 0≤a by omega)
    have:=Int.mul_ediv_self_le (x:=4611686018427387904) (k:=a) (by omega)
    omega
   have h5:0≤a*b:=Int.mul_nonneg (by omega) hb.1
   rw[B0 (by omega) (by omega)]
 ·have ha0:a=0:=by omega
  subst ha0
  simp only[eE,↓reduceIte,Nat.reduceEqDiff,reduceCtorEq,hr,bB,h0]
  rw[if_neg (fun h=>h.1.elim),Int.zero_mul,B0 (by omega) (by omega)]
end
theorem Z_ (a:Nat) (ha:a<18446744073709551616):bits .and .u64 (a:Int) 4294967295=((a%4294967296:Nat):Int):=by
 have h:=bits_and_u64_nat a 4294967295 ha (by omega)
 have e:a &&& 4294967295=a%4294967296:=Nat.and_two_pow_sub_one_eq_mod a 32
 rw[e] at h
 exact h
theorem XM (a:Nat):(a:Int).fdiv (2 ^ min ((32:Int).toNat) IntKind.u64.bits)=((a/4294967296:Nat):Int):=by
 rw[Int.fdiv_eq_ediv_of_nonneg _ (by decide)]
 rfl
theorem MG (a:Nat) (ha:a<18446744073709551616):IntKind.u64.wrap (a:Int)=(a:Int):=Es (by omega) (by omega)
theorem pL (a b:Nat):(a:Int)*(b:Int)=((a*b:Nat):Int):=(Int.natCast_mul a b).symm
theorem Y8 (a b:Nat):(a:Int)+(b:Int)=((a+b:Nat):Int):=(Int.natCast_add a b).symm
section
variable {call:AT} {n:Nat} {h:AA} {v:Value} {l:List Int}
theorem wE (x y:Nat) (hx:x<18446744073709551616) (hy:y<18446744073709551616) :
  A9 Tryd.prog call n 95 [.int .u64 x,.int .u64 y] h=some (.tuple #[.int .u64 ((x*y/18446744073709551616:Nat):Int),.int .u64 ((x*y%18446744073709551616:Nat):Int)],h):=by
 refine EA Tryd.func95 rfl (by simp[Tryd.f95]) ?_
 have hr:Tryd.f95.results.toList=[.tmp 4,.tmp 5]:=rfl
 obtain⟨bd,bt,bw,hhi⟩:=Lib.mul64_hi x y hx hy
 have ba:=Lib.half_mul_le (a:=x/4294967296) (b:=y/4294967296) (by omega) (by omega)
 have h32:¬ (32:Int)<0:=by omega
 simp only[eE,↓reduceIte,Nat.reduceEqDiff,reduceCtorEq,hr,Jy,uX h32,Z_ x hx,Z_ y hy,XM,pL]
 have b1:=Lib.half_mul_le (a:=x/4294967296) (b:=y%4294967296) (by omega) (by omega)
 have b2:=Lib.half_mul_le (a:=x%4294967296) (b:=y/4294967296) (by omega) (by omega)
 have hq:x*y/18446744073709551616<18446744073709551616:=by
  refine Nat.div_lt_of_lt_mul ?_
  exact Nat.lt_of_le_of_lt (Nat.mul_le_mul_right y (Nat.le_of_lt hx)) (Nat.mul_lt_mul_of_pos_left hy (by omega))
 rw[MG (x%4294967296*(y%4294967296)) bd,XM,MG (x/4294967296*(y%4294967296)) (by omega),Y8,MG _ bt,XM,Z_ _ bt,MG (x%4294967296*(y/4294967296)) (by omega),Y8,MG _ bw,XM,
  MG (x/4294967296*(y/4294967296)) (by omega),Y8,MG _ (by omega),Y8,MG _ (by omega),hhi,Dg]
def OB (l:List Int):Int:=l.foldl (fun n x=>if n*x>4611686018427387904 then 4611686018427387904 else n*x) 1
def JE (l:List Int):Bool:=l.all fun x=>decide (0<x)
def RR (l:List Int):Int:=if JE l then OB l else 0
theorem yO {l:List Int} {k:Nat} {x:Int} (hk:l[k]?=some x):OB (l.take (k+1))=if OB (l.take k)*x>4611686018427387904 then 4611686018427387904 else OB (l.take k)*x:=by
 unfold OB
 rw[List.take_add_one,hk,List.foldl_append]
 rfl
theorem uS {l:List Int} {k:Nat} {x:Int} (hk:l[k]?=some x):JE (l.take (k+1))=(JE (l.take k)&&decide (0<x)):=by
 unfold JE
 rw[List.take_add_one,hk,List.all_append]
 simp
theorem Da {l:List Int} (h:JE l=true):1≤OB l∧OB l≤4611686018427387904:=by
 have key:∀ (l:List Int) (a:Int),JE l=true→1≤a∧a≤4611686018427387904→1≤l.foldl (fun n x=>if n*x>4611686018427387904 then 4611686018427387904 else n*x) a∧l.foldl (fun n x=>if n*x>4611686018427387904 then 4611686018427387904 else n*x) a≤4611686018427387904:=by
  intro l
  induction l with
  | nil=>intro a _ ha;exact ha
  | cons x l ih=>
   intro a hl ha
   simp only[JE,List.all_cons,Bool.and_eq_true,decide_eq_true_eq] at hl
   rw[List.foldl_cons]
   refine ih _ hl.2 ?_
   have:0<a*x:=Int.mul_pos (by omega) hl.1
   split <;> omega
 exact key l 1 h (by omega)
theorem Ni {l:List Int} {k:Nat} {x:Int} (hk:l[k]?=some x) (hx:x≤0):JE l=false:=by
 unfold JE
 rw[List.all_eq_false]
 exact⟨x,List.mem_of_getElem? hk,by simp;omega⟩
theorem yB (hm:∀ x y h,x<18446744073709551616→y<18446744073709551616→call 95 [.int .u64 (x:Nat),.int .u64 (y:Nat)] h=some (.tuple #[.int .u64 ((x*y/18446744073709551616:Nat):Int),.int .u64 ((x*y%18446744073709551616:Nat):Int)],h))
  (hv:QR h v l) (hl:ZG l) (hlen:l.length<9223372036854775807) (hn:l.length<n):A9 Tryd.prog call n 76 [v] h=some (.int .i64 (RR l),h):=by
 refine EA Tryd.func76 rfl (by simp[Tryd.f76]) ?_
 have hr:Tryd.f76.results.toList=[.tmp 2]:=rfl
 simp only[eE,↓reduceIte,Nat.reduceEqDiff,reduceCtorEq,hv.len Tryd.underlying28,hr]
 refine WK.loop (fun k s=>s.h=h∧s.T.get 0=v∧s.T.get 10=v∧s.T.get 11=.int .i64 l.length∧s.T.get 12=.int .i64 k∧s.T.get 3=.int .i64 1∧JE (l.take k)=true) l.length hn ?_ ?_
 ·simp only[eE,↓reduceIte,Nat.reduceEqDiff,reduceCtorEq]
  exact⟨rfl,rfl⟩
 ·rintro k ⟨T,h1⟩ hk ⟨rfl,h0,h10,h11,h12,h3,ha⟩
  simp only at h0 h10 h11 h12 h3
  simp only[eE,↓reduceIte,Nat.reduceEqDiff,reduceCtorEq,h0,h10,h11,h12,h3]
  refine⟨fun hlt=>?_,fun hge=>?_⟩
  ·have hlt':k<l.length:=by omega
   have hx:l[k]?=some l[k]:=List.getElem?_eq_getElem hlt'
   have htk:=uS hx
   have hz:=fun h=>Ni hx h
   generalize l[k]=x at hx htk hz
   obtain⟨p,hp1,hp2⟩:=hv.idx Tryd.underlying28 CU VN hx (kd:=.i64)
   simp only[eE,↓reduceIte,Nat.reduceEqDiff,reduceCtorEq,hp1,hp2,h0,h10,h11,h12,h3]
   refine⟨fun hle=>?_,fun hgt=>⟨hlt',?_,?_⟩⟩
   ·unfold RR
    rw[hz hle]
    rfl
   ·rw[B0 (by omega) (by omega)];rfl
   ·rw[htk,ha];simp;omega
  ·have hkl:k=l.length:=by omega
   subst hkl
   rw[List.take_length] at ha
   simp only[eE,↓reduceIte,Nat.reduceEqDiff,reduceCtorEq,h0,h3,hv.len Tryd.underlying28]
   refine WK.loop (fun k s=>s.h=h1∧s.T.get 19=v∧s.T.get 20=.int .i64 l.length∧s.T.get 21=.int .i64 k∧s.T.get 3=.int .i64 (OB (l.take k))) l.length hn ?_ ?_
   ·simp only[eE,↓reduceIte,Nat.reduceEqDiff,reduceCtorEq,h3]
    exact⟨rfl,rfl⟩
   ·rintro k ⟨T2,h2⟩ hk2 ⟨rfl,h19,h20,h21,h3'⟩
    simp only at h19 h20 h21 h3'
    simp only[eE,↓reduceIte,Nat.reduceEqDiff,reduceCtorEq,h19,h20,h21,h3']
    refine⟨fun hlt=>?_,fun hge=>?_⟩
    ·have hlt':k<l.length:=by omega
     have hx:l[k]?=some l[k]:=List.getElem?_eq_getElem hlt'
     have htk:=yO hx
     have hin:=hl l[k] (List.getElem_mem hlt')
     have hpos:0<l[k]:=by
      have:=List.all_eq_true.1 ha l[k] (List.getElem_mem hlt')
      simpa using this
     have hfr:=Da (l:=l.take k) (by
      unfold JE at ha ⊢
      rw[List.all_eq_true] at ha ⊢
      exact fun x hx=>ha x (List.mem_of_mem_take hx))
     generalize l[k]=x at hx htk hin hpos
     generalize OB (l.take k)=a at htk hfr h3'
     obtain⟨p,hp1,hp2⟩:=hv.idx Tryd.underlying28 CU VN hx (kd:=.i64)
     obtain⟨a,rfl⟩:∃ m:Nat,a=m:=⟨a.toNat,by omega⟩
     obtain⟨x,rfl⟩:∃ m:Nat,x=m:=⟨x.toNat,by omega⟩
     have hma:=hm a x h2 (by omega) (by omega)
     have hcast:(a:Int)*(x:Int)=((a*x:Nat):Int):=pL a x
     rw[hcast] at htk
     generalize hhi:a*x/18446744073709551616=hi at hma
     generalize hlo:a*x%18446744073709551616=lo at hma
     generalize a*x=ax at hhi hlo htk
     by_cases hc:(hi:Int)>0
     ·simp only[eE,↓reduceIte,Nat.reduceEqDiff,reduceCtorEq,hp1,hp2,h19,h20,h21,h3',V6 Tryd.underlying3 Tryd.underlying129,MG a (by omega),MG x (by omega),hma,V6 Tryd.underlying129 Tryd.underlying3,hc]
      refine⟨hlt',?_,?_⟩
      ·rw[B0 (by omega) (by omega)];rfl
      ·rw[htk,if_pos (by omega)]
     ·simp only[eE,↓reduceIte,Nat.reduceEqDiff,reduceCtorEq,hp1,hp2,h19,h20,h21,h3',V6 Tryd.underlying3 Tryd.underlying129,MG a (by omega),MG x (by omega),hma,V6 Tryd.underlying129 Tryd.underlying3,hc]
      refine⟨fun hgt=>⟨hlt',?_,?_⟩,fun hle=>⟨hlt',?_,?_⟩⟩
      ·rw[B0 (by omega) (by omega)];rfl
      ·rw[htk,if_pos (by omega)]
      ·rw[B0 (by omega) (by omega)];rfl
      ·rw[htk,if_neg (by omega),B0 (by omega) (by omega)];omega
    ·have hkl:k=l.length:=by omega
     subst hkl
     rw[List.take_length] at h3'
     unfold RR
     rw[ha,List.take_length]
     rfl
end
theorem AN.at_ {lo:Nat} {h:AA} {v:Value} {l:List Int} (hc:AN lo h v l):QR h v l:=by
 obtain⟨hl,a,c,rfl,⟨h0,rfl⟩ | ⟨id,off,row,ty,g,ro,rfl,h1,h2,h3,h4⟩⟩:=hc
 ·refine⟨none,c,by rw[h0],fun b hb=>(by cases hb),fun k x hk=>?_⟩
  rw[List.length_eq_zero_iff.1 h0] at hk
  simp at hk
 ·refine⟨_,c,rfl,fun b hb=>(by cases hb;rfl),fun k x hk=>⟨id,off,row,ty,g,ro,rfl,h1,?_⟩⟩
  have hkl:=(List.getElem?_eq_some_iff.1 hk).1
  have:(ints l)[k]?=some (.int .i64 x):=by rw[U6,hk];rfl
  rw[← h3,List.getElem?_take_of_lt (by omega),List.getElem?_drop] at this
  exact this
def KI (a b:Int):Int:=if a>0∧b>4611686018427387904/a then 4611686018427387904 else a*b
def HR (l:List Int):Int:=l.foldl BG 0
theorem YC:∀ (l:List Int) (a:Int),C1 l→0≤a→a≤4611686018427387904→0≤l.foldl BG a∧l.foldl BG a≤4611686018427387904
 | [],a,_,h1,h2=>⟨h1,h2⟩
 | x :: l,a,hs,h1,h2=>by
  have hx:=hs x (by simp)
  have p:=IN h1 hx.1 hx.2
  exact YC l _ (fun y hy=>hs y (by simp[hy])) p.1 p.2
theorem YQ:∀ (l:List Int) (a:Int),C1 l→0≤a→a≤4611686018427387904→l.foldl BG a=if a+H_ l>4611686018427387904 then 4611686018427387904 else a+H_ l
 | [],a,_,h1,h2=>by
  show a=if a+0>4611686018427387904 then 4611686018427387904 else a+0
  rw[Int.add_zero,if_neg (by omega)]
 | x :: l,a,hs,h1,h2=>by
  have hx:=hs x (by simp)
  have p:=IN h1 hx.1 hx.2
  have hp:=XK l
  show l.foldl BG (BG a x)=_
  rw[YQ l _ (fun y hy=>hs y (by simp[hy])) p.1 p.2]
  show _=if a+((if x<0 then 0 else x)+H_ l)>4611686018427387904 then 4611686018427387904 else a+((if x<0 then 0 else x)+H_ l)
  rw[if_neg (show ¬ x<0 by omega)]
  unfold BG
  (repeat' split) <;> omega
theorem Cq {l:List Int} (hs:C1 l):VC l=HR l:=by
 unfold HR VC
 rw[YQ l 0 hs (by decide) (by decide),Int.zero_add]
theorem bG {a b:Int} (ha:0≤a∧a≤4611686018427387904) (hb:0≤b∧b≤4611686018427387904):0≤KI a b∧KI a b≤4611686018427387904:=by
 unfold KI
 by_cases h:a>0∧b>4611686018427387904/a
 ·rw[if_pos h]
  omega
 ·rw[if_neg h]
  refine⟨Int.mul_nonneg ha.1 hb.1,?_⟩
  by_cases h0:a>0
  ·have h1:=Int.mul_le_mul_of_nonneg_left (show b≤4611686018427387904/a by omega) (show 0≤a by omega)
   have h2:=Int.mul_ediv_self_le (x:=4611686018427387904) (k:=a) (by omega)
   omega
  ·rw[show a=0 by omega,Int.zero_mul]
   decide
theorem Je {a b:Int} (ha:0≤a∧a≤4611686018427387904) (hb:0≤b∧b≤4611686018427387904):RR [a,b]=KI a b:=by
 unfold RR KI
 by_cases h1:0<a
 ·by_cases h2:0<b
  ·have e1:JE [a,b]=true:=by simp[JE,h1,h2]
   rw[e1,if_pos rfl]
   show (if (if 1*a>4611686018427387904 then 4611686018427387904 else 1*a)*b>4611686018427387904 then 4611686018427387904 else (if 1*a>4611686018427387904 then 4611686018427387904 else 1*a)*b)=_
   rw[Int.one_mul]
   simp only[if_neg (show ¬ a>4611686018427387904 by omega)]
   have hd:b>4611686018427387904/a↔a*b>4611686018427387904:=by
    have:=Int.ediv_lt_iff_lt_mul (a:=4611686018427387904) (b:=b) (c:=a) (by omega)
    rw[Int.mul_comm a b]
    exact this
   by_cases h3:a*b>4611686018427387904
   ·rw[if_pos h3,if_pos ⟨by omega,hd.2 h3⟩]
   ·rw[if_neg h3,if_neg (fun h=>h3 (hd.1 h.2))]
  ·have e1:JE [a,b]=false:=by simp[JE];omega
   have h0:0≤4611686018427387904/a:=Int.ediv_nonneg (by omega) (by omega)
   rw[e1,if_neg (by decide),if_neg (fun h=>by omega),show b=0 by omega,Int.mul_zero]
 ·have e1:JE [a,b]=false:=by simp[JE];omega
  rw[e1,if_neg (by decide),if_neg (fun h=>by omega),show a=0 by omega,Int.zero_mul]
section
variable {n lo:Nat} {h:AA} {v:Value} {l:List Int}
theorem kY {l:List Int} (hs:C1 l):ZG l:=fun x hx=>by have:=hs x hx;omega
theorem aK (hv:AN lo h v l) (hs:C1 l) (hlen:l.length<17592186044415) (hn:l.length+5<n):AX n 75 [v] h=some (iv (HR l),h):=by
 obtain⟨n,rfl⟩:=D3 hn
 rw[← Cq hs]
 exact JJ (CP ⟨rfl,rfl,rfl⟩) rfl (vC hv.at_ (kY hs) (by omega) (by omega))
theorem Jb {x y:Nat} (hx:x<18446744073709551616) (hy:y<18446744073709551616) (hn:0<n) :
  AX n 95 [.int .u64 x,.int .u64 y] h=some (.tuple #[.int .u64 ((x*y/18446744073709551616:Nat):Int),.int .u64 ((x*y%18446744073709551616:Nat):Int)],h):=by
 obtain⟨n,rfl⟩:=D3 hn
 exact JJ (CP ⟨rfl,rfl,rfl⟩) (by simp[FP,flat,B9]) (wE x y hx hy)
theorem Pl (hv:AN lo h v l) (hs:ZG l) (hlen:l.length<17592186044415) (hn:l.length+5<n):AX n 76 [v] h=some (iv (RR l),h):=by
 obtain⟨n,rfl⟩:=D3 hn
 exact JJ (CP ⟨rfl,rfl,rfl⟩) rfl (yB (fun x y h hx hy=>Jb hx hy (by omega)) hv.at_ hs (by omega) (by omega))
theorem SD {a b:Int} (ha:0≤a∧a≤4611686018427387904) (hb:0≤b∧b≤4611686018427387904) (hn:0<n):AX n 97 [iv a,iv b] h=some (iv (BG a b),h):=by
 obtain⟨n,rfl⟩:=D3 hn
 exact JJ (CP ⟨rfl,rfl,rfl⟩) rfl (Gn ha hb)
theorem Sb {a b:Int} (ha:0≤a∧a≤4611686018427387904) (hb:0≤b∧b≤4611686018427387904) (hn:0<n):AX n 98 [iv a,iv b] h=some (iv (KI a b),h):=by
 obtain⟨n,rfl⟩:=D3 hn
 exact JJ (CP ⟨rfl,rfl,rfl⟩) rfl (Kh ha hb)
end
def IV (vs:List Int) (i:Nat):Int:=(vs[i]?).getD 0
def I1 (k:Int) (vs:List Int) (r q:Int):Int:=
 if k=24 then 0
 else BG (if k=12 then BG (IV vs 0) (if IV vs 2>IV vs 1 then IV vs 2 else IV vs 1)
  else if k=13 then KI r (BG (IV vs 1) (IV vs 2)) else if k=22 then q else HR vs) 1
def K7 (R:List AE) (e:Nat→Nat) (rd S:List Int):Nat→Nat→Int
 | 0,_=>0
 | m+1,at_=>match R[at_]? with
  | none=>0
  | some x=>I1 x.kind ((BX e x.kids.toNat (at_+1)).map (K7 R e rd S m)) ((rd[at_]?).getD 0) (FA S x.n)
def AZ (R:List AE) (e:Nat→Nat) (rd S:List Int) (at_:Nat):Int:=K7 R e rd S R.length at_
theorem RD {vs:List Int} (hs:C1 vs) (i:Nat):0≤IV vs i∧IV vs i≤4611686018427387904:=by
 unfold IV
 cases h:vs[i]? with
 | none=>exact⟨by simp,by simp⟩
 | some x=>exact hs x (List.mem_of_getElem? h)
theorem Hh {k:Int} {vs:List Int} {r q:Int} (hs:C1 vs) (hr:0≤r∧r≤4611686018427387904) (hq:0≤q∧q≤4611686018427387904):0≤I1 k vs r q∧I1 k vs r q≤4611686018427387904:=by
 have v0:=RD hs 0
 have v1:=RD hs 1
 have v2:=RD hs 2
 unfold I1
 by_cases h24:k=24
 ·rw[if_pos h24]
  exact⟨by decide,by decide⟩
 rw[if_neg h24]
 refine IN ?_ (by decide) (by decide) |>.imp id id
 by_cases h12:k=12
 ·rw[if_pos h12]
  exact(IN v0.1 (by split <;> omega) (by split <;> omega)).1
 rw[if_neg h12]
 by_cases h13:k=13
 ·rw[if_pos h13]
  have p:=IN v1.1 v2.1 v2.2
  exact(bG hr p).1
 rw[if_neg h13]
 by_cases h22:k=22
 ·rw[if_pos h22];exact hq.1
 ·rw[if_neg h22]
  exact(YC vs 0 hs (by decide) (by decide)).1
def GH (rd:List Int):Prop:=∀ x∈rd,0≤x∧x≤4194304
theorem TL {rd:List Int} (h:GH rd) (i:Nat):0≤(rd[i]?).getD 0∧(rd[i]?).getD 0≤4611686018427387904:=by
 cases hx:rd[i]? with
 | none=>exact⟨by simp,by simp⟩
 | some x=>have:=h x (List.mem_of_getElem? hx);simp only[Option.getD_some];omega
section
variable {R Z:List AE} {e:Nat→Nat} {rd S:List Int}
theorem cW (hr:GH rd) (hs:C1 S):∀ m at_,0≤K7 R e rd S m at_∧K7 R e rd S m at_≤4611686018427387904
 | 0,at_=>(by decide:(0:Int)≤0∧(0:Int)≤4611686018427387904)
 | m+1,at_=>by
  unfold K7
  cases R[at_]? with
  | none=>exact(by decide:(0:Int)≤0∧(0:Int)≤4611686018427387904)
  | some x=>
   refine Hh (fun y hy=>?_) (TL hr at_) (rR hs x.n)
   obtain⟨k,_,rfl⟩:=List.mem_map.1 hy
   exact cW hr hs m k
theorem UT (hr:GH rd) (hs:C1 S) (m:Nat) (ks:List Nat):C1 (ks.map (K7 R e rd S m)):=fun y hy=>by
 obtain⟨k,_,rfl⟩:=List.mem_map.1 hy
 exact cW hr hs m k
theorem S5:∀ (c p q:Nat),EJ Z c p q→∀ k∈BX (AG Z) c p,∃ qk,DV Z k qk∧p≤k∧qk≤q
 | 0,p,q,_,k,hk=>by simp[BX] at hk
 | c+1,p,q,⟨p',h1,h2,h3,h4⟩,k,hk=>by
  have hle:=HH _ _ _ h4
  simp only[BX,List.mem_cons] at hk
  rcases hk with rfl | hk
  ·exact⟨p',h1,Nat.le_refl _,by omega⟩
  ·rw[I2 h1] at hk
   obtain⟨qk,a,b,d⟩:=S5 c p' q h4 k hk
   exact⟨qk,a,by omega,d⟩
theorem Ms (hsk:G0 R Z):∀ d m at_ q,DV Z at_ q→q-at_≤d→d≤m→K7 R (AG Z) rd S m at_=K7 R (AG Z) rd S d at_:=by
 intro d
 induction d with
 | zero=>intro m at_ q h hd;have:=h.lt;omega
 | succ d ih=>
  intro m at_ q h hd hm
  obtain⟨m,rfl⟩:∃ j,m=j+1:=⟨m-1,by omega⟩
  obtain⟨x,hx,_,_,hc⟩:=h.kids
  obtain⟨y,hy,hyk⟩:=hsk.2 _ x hx
  unfold K7
  rw[hy]
  simp only
  congr 1
  refine List.map_congr_left fun k hk=>?_
  rw[hyk] at hk
  obtain⟨qk,a,b,c⟩:=S5 _ _ _ hc k hk
  exact ih m k qk a (by omega) (by omega)
theorem QF (ht:B_ Z) (hsk:G0 R Z) {at_:Nat} {x:AE} (hx:R[at_]?=some x):AZ R (AG Z) rd S at_=I1 x.kind ((BX (AG Z) x.kids.toNat (at_+1)).map (AZ R (AG Z) rd S)) ((rd[at_]?).getD 0) (FA S x.n):=by
 have hl:=(List.getElem?_eq_some_iff.1 hx).1
 have hZ:=hsk.1
 have hs:=ht.end (show at_<Z.length by omega)
 have hq:=hs.lt
 have e1:AZ R (AG Z) rd S at_=K7 R (AG Z) rd S (R.length+1) at_:=(Ms hsk R.length (R.length+1) at_ _ hs (by omega) (by omega)).symm
 rw[e1]
 unfold K7
 rw[hx]
 rfl
theorem SK (hr:GH rd) (hs:C1 S) (at_:Nat):0≤AZ R e rd S at_∧AZ R e rd S at_≤4611686018427387904:=cW hr hs _ _
end
theorem V5 {vs:List Int} (hs:C1 vs):HR (1 :: vs)=BG (HR vs) 1:=by
 have p:=XK vs
 show vs.foldl BG (BG 0 1)=BG (vs.foldl BG 0) 1
 rw[YQ vs (BG 0 1) hs (by decide) (by decide),YQ vs 0 hs (by decide) (by decide),show BG 0 1=1 by decide]
 unfold BG
 (repeat' split) <;> omega
theorem iJ {a b:Int} (ha:0≤a∧a≤4611686018427387904) (hb:0≤b∧b≤4611686018427387904):HR [1,a,b]=BG (BG a b) 1:=by
 rw[V5 (fun x hx=>by simp only[List.mem_cons,List.not_mem_nil,or_false] at hx;rcases hx with rfl | rfl <;> omega)]
 show BG (BG (BG 0 a) b) 1=_
 rw[show BG 0 a=a by unfold BG;rw[if_neg (by omega),Int.zero_add]]
theorem gM {a:Int} (ha:0≤a∧a≤4611686018427387904):HR [1,a]=BG a 1:=by
 rw[V5 (fun x hx=>by simp only[List.mem_cons,List.not_mem_nil,or_false] at hx;subst hx;exact ha)]
 show BG (BG 0 a) 1=_
 rw[show BG 0 a=a by unfold BG;rw[if_neg (by omega),Int.zero_add]]
theorem l7 {a b:Int} (ha:0≤a∧a≤4611686018427387904):HR [a,b]=BG a b:=by
 show BG (BG 0 a) b=_
 rw[show BG 0 a=a by unfold BG;rw[if_neg (by omega),Int.zero_add]]
theorem iE {a b r q:Int} (hb:0≤b):I1 12 [a,b] r q=BG (BG a b) 1:=by
 show BG (BG a (if (0:Int)>b then 0 else b)) 1=_
 rw[if_neg (show ¬ (0:Int)>b by omega)]
theorem qT {a b c r q:Int}:I1 12 [a,b,c] r q=BG (BG a (if c>b then c else b)) 1:=rfl
theorem gK {a b c r q:Int}:I1 13 [a,b,c] r q=BG (KI r (BG b c)) 1:=rfl
theorem rS {vs:List Int} {r q:Int}:I1 22 vs r q=BG q 1:=rfl
theorem aL {k:Int} {vs:List Int} {r q:Int} (h1:k≠24) (h2:k≠12) (h3:k≠13) (h4:k≠22):I1 k vs r q=BG (HR vs) 1:=by
 unfold I1
 rw[if_neg h1,if_neg h2,if_neg h3,if_neg h4]
theorem yP:BN Tryd.prog 108=some 12:=by kernel_rfl
theorem NT:BN Tryd.prog 70=some 3:=by kernel_rfl
theorem tB:BN Tryd.prog 68=some 1:=by kernel_rfl
theorem xP:FK Tryd.prog 68=some false:=by kernel_rfl
theorem Mv:FK Tryd.prog 70=some true:=by kernel_rfl
theorem QJ:DQ Tryd.prog 70=some (.agg #[Z0,Z0,Z0]):=by kernel_rfl
section
variable {h:AA} {id off:Nat}
theorem cF:EI Tryd.prog h 68 (qP id off)=AO off (h.get id):=K9 xP
theorem RS:EI Tryd.prog h 70 (qP id off)=BL 3 off (h.get id):=MV Mv NT
theorem mV:BC Tryd.prog 108 (qP id off) 0=some (qP id off):=by simp[BC,Tryd.underlying108,HM,CH]
theorem wJ:BC Tryd.prog 108 (qP id off) 1=some (qP id (off+8)):=by simp[BC,Tryd.underlying108,NT,CH]
theorem aZ:BC Tryd.prog 108 (qP id off) 2=some (qP id (off+11)):=by simp[BC,Tryd.underlying108,JG,CH]
theorem WB:BC Tryd.prog 70 (qP id off) 0=some (qP id off):=by simp[BC,Tryd.underlying70,tB,CH]
theorem uR:BC Tryd.prog 70 (qP id off) 1=some (qP id (off+1)):=by simp[BC,Tryd.underlying70,JG,CH]
theorem J_:BC Tryd.prog 70 (qP id off) 2=some (qP id (off+2)):=by simp[BC,Tryd.underlying70,JG,CH]
theorem VP {a b:Int}:FI Tryd.prog h 28 2 [(0,iv a),(1,iv b)]=some (qS h.next 2 2,h.push (.row [iv a,iv b] 3 false false)):=by
 have hc:∀ x:Int,(iv x).cells=#[iv x]:=fun _=>rfl
 simp[FI,Tryd.underlying28,CU,JI,flat,B9,hc,IL,C0,Go.Sx.lay]
theorem dY {a b c:Int}:FI Tryd.prog h 28 3 [(0,iv a),(1,iv b),(2,iv c)]=some (qS h.next 3 3,h.push (.row [iv a,iv b,iv c] 3 false false)):=by
 have hc:∀ x:Int,(iv x).cells=#[iv x]:=fun _=>rfl
 simp[FI,Tryd.underlying28,CU,JI,flat,B9,hc,IL,C0,Go.Sx.lay]
theorem kX {a b:Int} {f:Nat}:AN 0 ((h.push (.row [iv a,iv b] 3 false false)).fl f) (qS h.next 2 2) [a,b]:=AN.row' (l:=[a,b]) (h:=(h.push (.row [iv a,iv b] 3 false false)).fl f) (r:=h.next) BO ⟨Nat.zero_le _,by show h.next<h.next+1;omega⟩ rfl
theorem vM {a b c:Int} {f:Nat}:AN 0 ((h.push (.row [iv a,iv b,iv c] 3 false false)).fl f) (qS h.next 3 3) [a,b,c]:=AN.row' (l:=[a,b,c]) (h:=(h.push (.row [iv a,iv b,iv c] 3 false false)).fl f) (r:=h.next) BO ⟨Nat.zero_le _,by show h.next<h.next+1;omega⟩ rfl
end
structure M8 (h:AA) (b:Nat) (vr tr vS:Value) (R:List AE) (rd S:List Int):Prop where
 x1:AO 1 (h.get b)=some vr
 x10:AO 10 (h.get b)=some tr
 x11:AO 11 (h.get b)=some vS
 bl:b<h.next
 rows:AU h vr R
 rd:AN 0 h tr rd
 s:AN 0 h vS S
theorem M8.mono {h h':AA} {b:Nat} {vr tr vS:Value} {R:List AE} {rd S:List Int} (hb:M8 h b vr tr vS R rd S) (hn:h.next≤h'.next) (hg:∀ i,i<h.next→h'.get i=h.get i):M8 h' b vr tr vS R rd S:=
 ⟨by rw[hg b hb.bl];exact hb.x1,by rw[hg b hb.bl];exact hb.x10,by rw[hg b hb.bl];exact hb.x11,by have:=hb.bl;omega,hb.rows.mono hn hg,AN.mono hb.rd hn fun i _ hi=>hg i hi,AN.mono hb.s hn fun i _ hi=>hg i hi⟩
noncomputable def tS:Array Oper:=DR Tryd.f77 1
def zZ:List (Bool × Bool × List Operand):=[FT,FT,FT,FT,FT,CZ [.tmp 14],FT,FT,AJ [.tmp 14,.tmp 17],AJ [.tmp 14,.tmp 17],AJ [.tmp 14,.tmp 17],AJ [.tmp 14,.tmp 17],AJ [.tmp 14,.tmp 17],AJ [.tmp 14,.tmp 17,.tmp 22],AJ [.tmp 14,.tmp 17],CZ [.tmp 14,.tmp 17,.tmp 22],AL,AL]
theorem Ds:DU tS=zZ:=by kernel_rfl
noncomputable def bQ:Array Oper:=DR Tryd.f77 9
def Al:List (Bool × Bool × List Operand):=[AW,AW,AW,AW,AW,CZ [.tmp 42],CZ [.tmp 42],CZ [.tmp 42],CZ [.tmp 42],AL,CZ [.tmp 42,.tmp 47],AL,AL,AL,AL]
theorem kE:DU bQ=Al:=by kernel_rfl
noncomputable def mD:Array Oper:=DR Tryd.f77 11
def Fs:List (Bool × Bool × List Operand):=[FT,FT,FT,FT,FT,CZ [.tmp 59],FT,FT,AJ [.tmp 59,.tmp 62],AJ [.tmp 59,.tmp 62],AJ [.tmp 59,.tmp 62],AJ [.tmp 59,.tmp 62],AJ [.tmp 59,.tmp 62],CZ [.tmp 59,.tmp 62,.tmp 66],CZ [.tmp 59,.tmp 62,.tmp 66],CZ [.tmp 59,.tmp 62,.tmp 66],CZ [.tmp 59,.tmp 62,.tmp 66],AJ [.tmp 59,.tmp 62],AJ [.tmp 59,.tmp 62],AJ [.tmp 59,.tmp 62],AL,AL,AL,AL,AL]
theorem Ey:DU mD=Fs:=by kernel_rfl
noncomputable def iI:Array Oper:=DR Tryd.f77 13
def Dv:List (Bool × Bool × List Operand):=[AW,AW,AW,AW,AJ [.tmp 84],AJ [.tmp 84],AL,AL,AL,AL,AL]
theorem Hm:DU iI=Dv:=by kernel_rfl
theorem r8 {Z:List AE} {i:Nat} {x:AE} (ht:B_ Z) (hx:Z[i]?=some x):(x.kind=12→x.kids=2∨x.kids=3)∧(x.kind=13→x.kids=3):=by
 have hf:=(ht.row hx).1
 unfold DT at hf
 simp only[Bool.and_eq_true,Bool.or_eq_true,decide_eq_true_eq] at hf
 obtain⟨⟨_,h1⟩,h2⟩:=hf
 constructor
 ·intro hk
  rw[hk] at h1 h2
  have l12:FG 12=2:=by decide
  have m12:CV 12=3:=by decide
  rw[l12] at h1
  rw[m12] at h2
  omega
 ·intro hk
  rw[hk] at h1 h2
  have l12:FG 13=3:=by decide
  have m12:CV 13=3:=by decide
  rw[l12] at h1
  rw[m12] at h2
  omega
section
variable {n N:Nat}
theorem Ed {Z R:List AE} {rd S:List Int} {vr tr vS:Value} {b at_:Nat} {x:AE} {h:AA} (ht:B_ Z) (hsk:G0 R Z) (hx:Z[at_]?=some x) {y:AE} (hy:R[at_]?=some y) (hky:y.kind=x.kind) (hrd:GH rd) (hrl:rd.length=R.length) (hS:C1 S)
  (hcall:y.kind=22→0≤y.n∧y.n<S.length) (hlen:R.length<2932031007403) (hn:R.length+30<n) (hN:R.length+30<N) (hb:M8 h b vr tr vS R rd S) (hfl:h.floor≤h.next)
  (hrec:∀ k∈BX (AG Z) x.kids.toNat (at_+1),∀ h',M8 h' b vr tr vS R rd S→h'.floor≤h'.next→AX n 77 [qP b 0,iv k] h'=some (iv (AZ R (AG Z) rd S k),h')) :
  ∃ h',A9 Tryd.prog (AX n) N 77 [qP b 0,iv at_] h=some (iv (AZ R (AG Z) rd S at_),h')∧∀ i,i<h.next→h'.get i=h.get i:=by
 have hsn:=(FH n).2
 refine FB (R:=fun h'=>∀ i,i<h.next→h'.get i=h.get i) Tryd.func77 rfl (by simp[Tryd.f77]) ?_
 have hr:Tryd.f77.results.toList=[.tmp 4]:=rfl
 obtain⟨x',hx',hyk⟩:∃ z,R[at_]?=some z∧z.kids=x.kids:=hsk.2 _ x hx
 rw[hy] at hx'
 cases hx'
 have hkl:(BX (AG Z) x.kids.toNat (at_+1)).length=x.kids.toNat:=WX _ _
 have hval:=QF (rd:=rd) (S:=S) ht hsk hy
 rw[hyk] at hval
 rw[hval]
 obtain⟨fit12,fit13⟩:=r8 ht hx
 rw[← hky] at fit12 fit13
 obtain⟨idr,pr,e0,hid,l0,l1,l2,l3,l4,lr⟩:=hb.rows.row hy
 have hbl:=hb.bl
 have hidT:(idr<h.next)=True:=by simp[hid]
 have hbT:(b<h.next)=True:=by simp[hbl]
 have B1:M8 (h.fl (max h.floor h.next)) b vr tr vS R rd S:=hb.mono (Nat.le_refl _) fun _ _=>rfl
 obtain⟨kv,K1,hkids,hL,fK,nK,oK⟩:=vA (n:=n) (h:=h.fl (max h.floor h.next)) ht hsk B1.rows hx hlen (by omega) (by rw[CL,CA];omega)
 rw[CL] at hL nK oK
 have gI:=GJ.ints hL (Nat.zero_le _)
 have hzx:(Value.agg #[iv 0,.string ByteArray.empty,iv 0,iv 0,iv 0]).cells.toList=AI DF:=rfl
 have hst:BH Tryd.prog ((K1.fl h.floor).push (.row (AI DF) 46 false false)) 46 (qP K1.next 0) (DM y)=some (((K1.fl h.floor).push (.row (AI DF) 46 false false)).put K1.next (.row (AI y) 46 false false)):=RK (h:=(K1.fl h.floor).push (.row (AI DF) 46 false false)) (i:=0) (off:=0) (L:=[DF]) rfl (BO (h:=K1.fl h.floor)) (by decide) (by show h.floor≤K1.next;omega)
 have gA:(((K1.fl h.floor).push (.row (AI DF) 46 false false)).put K1.next (.row (AI y) 46 false false)).get K1.next=.row (AI y) 46 false false:=BI rfl (by show K1.next<K1.next+1;omega)
 have oA:∀ i,i<K1.next→(((K1.fl h.floor).push (.row (AI DF) 46 false false)).put K1.next (.row (AI y) 46 false false)).get i=K1.get i:=fun i hi=>by rw[AK (by show K1.next<K1.next+1;omega) (by omega)];exact AP (h:=K1.fl h.floor) hi
 have nA:(((K1.fl h.floor).push (.row (AI DF) 46 false false)).put K1.next (.row (AI y) 46 false false)).next=K1.next+1:=rfl
 have fA:(((K1.fl h.floor).push (.row (AI DF) 46 false false)).put K1.next (.row (AI y) 46 false false)).floor=h.floor:=rfl
 have hfs:h.fl h.floor=h:=rfl
 simp only[eE,seval,↓eP,hr]
 refine WK.flags (ops:=tS) Ds ?_
 refine BQ.begin ?_
 refine AF hsn 0 (some 11) (.move (.tmp 0)) none ?_
 simp only[rG,seval,AB,AD,AC,hfs,Nat.zero_add]
 refine AF hsn 1 (some 12) (.nilCheck (.tmp 11)) none ?_
 simp only[rG,seval,AB,AD,AC,hfs]
 refine AF hsn 2 (some 13) (.fieldAddr 108 (.tmp 12) 0) none ?_
 simp only[rG,seval,AB,AD,AC,hfs,mV]
 refine AF hsn 3 (some 14) (.fieldAddr 30 (.tmp 13) 1) none ?_
 simp only[rG,seval,AB,AD,AC,Nat.zero_add,hfs,Nat.zero_add,CR]
 refine AF hsn 4 (some 15) (.load 22 (.tmp 14)) none ?_
 simp only[rG,seval,AB,AD,AC,BU,hb.x1,hbT,hfs,CI]
 refine AF hsn 5 (some 16) (.move (.tmp 1)) none ?_
 simp only[rG,seval,AB,AD,AC,hfs]
 refine AF hsn 6 (some 17) (.indexAddr 22 (.tmp 15) (.tmp 16)) none ?_
 simp only[rG,seval,AB,AD,AC,hfs,e0]
 refine AF hsn 7 (some 18) (.load 46 (.tmp 17)) none ?_
 simp only[rG,seval,AB,AD,AC,BU,hidT,hfs,HX,lr]
 refine AF hsn 8 (some 19) (.move (.tmp 0)) none ?_
 simp only[rG,seval,AB,AD,AC,hfs]
 refine AF hsn 9 (some 20) (.nilCheck (.tmp 19)) none ?_
 simp only[rG,seval,AB,AD,AC,hfs]
 refine AF hsn 10 (some 21) (.fieldAddr 108 (.tmp 20) 0) none ?_
 simp only[rG,seval,AB,AD,AC,hfs,mV]
 refine AF hsn 11 (some 22) (.fieldAddr 30 (.tmp 21) 1) none ?_
 simp only[rG,seval,AB,AD,AC,Nat.zero_add,hfs,Nat.zero_add,CR]
 refine AF hsn 12 (some 23) (.load 22 (.tmp 22)) none ?_
 simp only[rG,seval,AB,AD,AC,BU,hb.x1,hbT,hfs,CI]
 refine AF hsn 13 (some 24) (.move (.tmp 1)) none ?_
 simp only[rG,seval,AB,AD,AC,hfs]
 refine AF hsn 14 (some 25) (.call { callee:=.value (.func 96),args:=#[.tmp 23,.tmp 24],argTypes:=#[22,3] }) none ?_
 simp only[rG,seval,AB,AD,AC,CF,hkids]
 refine AF hsn 15 (some 5) (.alloc 46) none ?_
 simp only[rG,seval,AB,AD,AC,N1,CA,CL,DB,GA,hzx,C4,LQ,PH,Bool.and_self]
 refine AF hsn 16 (none) (.store 46 (.tmp 5) (.tmp 18)) none ?_
 simp only[rG,seval,AB,AD,AC,DP,EE,S4,CA,DB,hst]
 refine AF hsn 17 (some 6) (.assign (.tmp 25)) none ?_
 simp only[rG,seval,AB,AD,AC]
 refine BQ.done (i:=18) (by kernel_rfl) ?_
 generalize ((K1.fl h.floor).push (.row (AI DF) 46 false false)).put K1.next (.row (AI y) 46 false false)=A at *
 have y0:AO 0 (A.get K1.next)=some (iv y.kind):=by rw[gA];rfl
 have y3:AO 3 (A.get K1.next)=some (iv y.n):=by rw[gA];rfl
 have oAh:∀ i,i<h.next→A.get i=h.get i:=fun i hi=>(oA i (by omega)).trans (oK i hi)
 have BA:M8 A b vr tr vS R rd S:=hb.mono (by omega) oAh
 have hfA:A.floor≤A.next:=by omega
 have kA:AN 0 A kv ((BX (AG Z) x.kids.toNat (at_+1)).map (fun (k:Nat)=>(k:Int))):=AN.mono gI (by omega) fun i _ hi=>oA i hi
 have vle:=fun k=>SK (R:=R) (e:=AG Z) (at_:=k) hrd hS
 have len1:∀ h':AA,BZ Tryd.prog h' 28 kv=some (iv (x.kids.toNat:Int)):=fun h'=>by
  have:=I7 (n:=((BX (AG Z) x.kids.toNat (at_+1)).map (fun (k:Nat)=>(k:Int))).length) kA h'
  rw[List.length_map,hkl] at this
  exact this
 have hff:A.fl A.floor=A:=rfl
 have hAfl:∀ f,(A.fl f).next=A.next:=fun _=>rfl
 have recf:∀ k∈BX (AG Z) x.kids.toNat (at_+1),AX n 77 [qP b 0,iv k] A=some (iv (AZ R (AG Z) rd S k),A)∧AX n 77 [qP b 0,iv k] (A.fl (max A.floor A.next))=some (iv (AZ R (AG Z) rd S k),A.fl (max A.floor A.next)):=fun k hk=>
  ⟨hrec k hk A BA hfA,hrec k hk (A.fl (max A.floor A.next)) (BA.mono (Nat.le_refl _) fun _ _=>rfl) (by rw[CA,CL];omega)⟩
 have bAT:(b<A.next)=True:=by simp;omega
 have sum3:∀ (H:AA) (a c d:Int),C1 [a,c,d]→AX n 75 [qS H.next 3 3] (H.push (.row [iv a,iv c,iv d] 3 false false))=some (iv (HR [a,c,d]),H.push (.row [iv a,iv c,iv d] 3 false false)):=fun H a c d hs=>aK (vM (f:=H.floor)) hs (by show 3<_;omega) (by show 3+5<_;omega)
 have sum2:∀ (H:AA) (a c:Int),C1 [a,c]→AX n 75 [qS H.next 2 2] (H.push (.row [iv a,iv c] 3 false false))=some (iv (HR [a,c]),H.push (.row [iv a,iv c] 3 false false)):=fun H a c hs=>aK (kX (f:=H.floor)) hs (by show 2<_;omega) (by show 2+5<_;omega)
 have tim2:∀ (H:AA) (a c:Int),0≤a∧a≤4611686018427387904→0≤c∧c≤4611686018427387904→AX n 76 [qS H.next 2 2] (H.push (.row [iv a,iv c] 3 false false))=some (iv (KI a c),H.push (.row [iv a,iv c] 3 false false)):=fun H a c ha hc=>by
  rw[← Je ha hc]
  exact Pl (kX (f:=H.floor)) (kY fun z hz=>by simp only[List.mem_cons,List.not_mem_nil,or_false] at hz;rcases hz with rfl | rfl <;> assumption) (by show 2<_;omega) (by show 2+5<_;omega)
 have small2:∀ {a c:Int},0≤a∧a≤4611686018427387904→0≤c∧c≤4611686018427387904→C1 [a,c]:=fun ha hc z hz=>by simp only[List.mem_cons,List.not_mem_nil,or_false] at hz;rcases hz with rfl | rfl <;> assumption
 have small3:∀ {a c d:Int},0≤a∧a≤4611686018427387904→0≤c∧c≤4611686018427387904→0≤d∧d≤4611686018427387904→C1 [a,c,d]:=fun ha hc hd z hz=>by simp only[List.mem_cons,List.not_mem_nil,or_false] at hz;rcases hz with rfl | rfl | rfl <;> assumption
 have old1:∀ (o:BF) (i:Nat),i<h.next→(A.push o).get i=h.get i:=fun o i hi=>(AP (by omega)).trans (oAh i hi)
 have one1:(0:Int)≤1∧(1:Int)≤4611686018427387904:=by omega
 cases d24:(y.kind==24) with
 | true=>
  have hk:y.kind=24:=by simpa using d24
  have hv:I1 y.kind ((BX (AG Z) x.kids.toNat (at_+1)).map (AZ R (AG Z) rd S)) ((rd[at_]?).getD 0) (FA S y.n)=0:=if_pos hk
  rw[hv]
  simp only[eE,seval,↓eP,DI,A_,y0,d24]
  exact oAh
 | false=>
 have k24:y.kind≠24:=by simpa using d24
 cases d12:(y.kind==12) with
 | true=>
  have k12:y.kind=12:=by simpa using d12
  rcases fit12 k12 with hc | hc
  ·have hc2:x.kids.toNat=2:=by omega
   rw[hc2] at recf kA len1
   obtain⟨i0,p0,a0,b0,g0⟩:=AN.get kA (i:=0) (x:=((at_+1:Nat):Int)) rfl
   obtain⟨i1,p1,a1,b1,g1⟩:=AN.get kA (i:=1) (x:=((AG Z (at_+1):Nat):Int)) rfl
   obtain⟨r0,r0'⟩:=recf (at_+1) (by simp[BX])
   obtain⟨r1,r1'⟩:=recf (AG Z (at_+1)) (by simp[BX])
   have a0':CO Tryd.prog 28 kv (iv 0)=some (qP i0 p0):=a0
   have a1':CO Tryd.prog 28 kv (iv 1)=some (qP i1 p1):=a1
   have len1':∀ h':AA,BZ Tryd.prog h' 28 kv=some (iv 2):=len1
   have t0:(i0<A.next)=True:=by simp[b0]
   have t1:(i1<A.next)=True:=by simp[b1]
   have u0:=vle (at_+1)
   have u1:=vle (AG Z (at_+1))
   have mx:(if (0:Int)>AZ R (AG Z) rd S (AG Z (at_+1)) then 0 else AZ R (AG Z) rd S (AG Z (at_+1)))=AZ R (AG Z) rd S (AG Z (at_+1)):=if_neg (by omega)
   have hs3:=sum3 A 1 _ _ (small3 one1 u0 u1)
   have hv:I1 y.kind ((BX (AG Z) x.kids.toNat (at_+1)).map (AZ R (AG Z) rd S)) ((rd[at_]?).getD 0) (FA S y.n)=HR [1,AZ R (AG Z) rd S (at_+1),AZ R (AG Z) rd S (AG Z (at_+1))]:=by
    rw[hc2,k12,iJ u0 u1]
    exact iE u1.1
   rw[hv]
   simp only[eE,seval,↓eP,DI,A_,y0,d24,d12,len1']
   refine WK.flags (ops:=bQ) kE ?_
   refine BQ.begin ?_
   refine AF hsn 0 (some 40) (.move (.tmp 0)) none ?_
   simp only[rG,seval,AB,AD,AC,hff]
   refine AF hsn 1 (some 41) (.move (.tmp 6)) none ?_
   simp only[rG,seval,AB,AD,AC,hff]
   refine AF hsn 2 (some 42) (.indexAddr 28 (.tmp 41) (.const (Value.int IntKind.i64 0))) none ?_
   simp only[rG,seval,AB,AD,AC,hff,a0']
   refine AF hsn 3 (some 43) (.load 3 (.tmp 42)) none ?_
   simp only[rG,seval,AB,AD,AC,BU,hff,g0,t0,A_]
   refine AF hsn 4 (some 44) (.call { callee:=.value (.func 77),args:=#[.tmp 40,.tmp 43],argTypes:=#[106,3] }) none ?_
   simp only[rG,seval,AB,AD,AC,CF,hff,r0',DB]
   refine AF hsn 5 (some 45) (.move (.tmp 0)) none ?_
   simp only[rG,seval,AB,AD,AC,hff]
   refine AF hsn 6 (some 46) (.move (.tmp 6)) none ?_
   simp only[rG,seval,AB,AD,AC,hff]
   refine AF hsn 7 (some 47) (.indexAddr 28 (.tmp 46) (.const (Value.int IntKind.i64 1))) none ?_
   simp only[rG,seval,AB,AD,AC,hff,a1']
   refine AF hsn 8 (some 48) (.load 3 (.tmp 47)) none ?_
   simp only[rG,seval,AB,AD,AC,BU,hff,g1,t1,A_]
   refine AF hsn 9 (some 49) (.call { callee:=.value (.func 77),args:=#[.tmp 45,.tmp 48],argTypes:=#[106,3] }) none ?_
   simp only[rG,seval,AB,AD,AC,CF,hff,r1]
   refine AF hsn 10 (some 50) (.move (.tmp 7)) none ?_
   simp only[rG,seval,AB,AD,AC,hff]
   refine AF hsn 11 (some 51) (.call { callee:=.builtin .max,args:=#[.tmp 49,.tmp 50],argTypes:=#[3,3] }) none ?_
   simp only[rG,seval,AB,AD,AC,CF,hff,max2,mx]
   refine AF hsn 12 (some 52) (.buildSlice 28 3 #[(0,.const (Value.int IntKind.i64 1)),(1,.tmp 44),(2,.tmp 51)]) none ?_
   simp only[rG,seval,AB,AD,AC,List.map_cons,List.map_nil,hff,dY,DS]
   refine AF hsn 13 (some 53) (.call { callee:=.value (.func 75),args:=#[.tmp 52],argTypes:=#[28] }) none ?_
   simp only[rG,seval,AB,AD,AC,CF,hs3]
   refine AF hsn 14 (some 4) (.assign (.tmp 53)) none ?_
   simp only[rG,seval,AB,AD,AC]
   refine BQ.done (i:=15) (by kernel_rfl) ?_
   simp only[eE,seval,↓eP]
   exact old1 _
  ·have hc3:x.kids.toNat=3:=by omega
   rw[hc3] at recf kA len1
   obtain⟨i0,p0,a0,b0,g0⟩:=AN.get kA (i:=0) (x:=((at_+1:Nat):Int)) rfl
   obtain⟨i1,p1,a1,b1,g1⟩:=AN.get kA (i:=1) (x:=((AG Z (at_+1):Nat):Int)) rfl
   obtain⟨i2,p2,a2,b2,g2⟩:=AN.get kA (i:=2) (x:=((AG Z (AG Z (at_+1)):Nat):Int)) rfl
   obtain⟨r0,r0'⟩:=recf (at_+1) (by simp[BX])
   obtain⟨r1,r1'⟩:=recf (AG Z (at_+1)) (by simp[BX])
   obtain⟨r2,r2'⟩:=recf (AG Z (AG Z (at_+1))) (by simp[BX])
   have a0':CO Tryd.prog 28 kv (iv 0)=some (qP i0 p0):=a0
   have a1':CO Tryd.prog 28 kv (iv 1)=some (qP i1 p1):=a1
   have a2':CO Tryd.prog 28 kv (iv 2)=some (qP i2 p2):=a2
   have len1':∀ h':AA,BZ Tryd.prog h' 28 kv=some (iv 3):=len1
   have t0:(i0<A.next)=True:=by simp[b0]
   have t1:(i1<A.next)=True:=by simp[b1]
   have u0:=vle (at_+1)
   have u1:=vle (AG Z (at_+1))
   have u2:=vle (AG Z (AG Z (at_+1)))
   have u3:0≤(if AZ R (AG Z) rd S (AG Z (AG Z (at_+1)))>AZ R (AG Z) rd S (AG Z (at_+1)) then AZ R (AG Z) rd S (AG Z (AG Z (at_+1))) else AZ R (AG Z) rd S (AG Z (at_+1)))∧(if AZ R (AG Z) rd S (AG Z (AG Z (at_+1)))>AZ R (AG Z) rd S (AG Z (at_+1)) then AZ R (AG Z) rd S (AG Z (AG Z (at_+1))) else AZ R (AG Z) rd S (AG Z (at_+1)))≤4611686018427387904:=by split <;> assumption
   have hv:I1 y.kind ((BX (AG Z) x.kids.toNat (at_+1)).map (AZ R (AG Z) rd S)) ((rd[at_]?).getD 0) (FA S y.n)=HR [1,AZ R (AG Z) rd S (at_+1),if AZ R (AG Z) rd S (AG Z (AG Z (at_+1)))>AZ R (AG Z) rd S (AG Z (at_+1)) then AZ R (AG Z) rd S (AG Z (AG Z (at_+1))) else AZ R (AG Z) rd S (AG Z (at_+1))]:=by
    rw[hc3,k12,iJ u0 u3]
    exact qT
   rw[hv]
   generalize hmx:(if AZ R (AG Z) rd S (AG Z (AG Z (at_+1)))>AZ R (AG Z) rd S (AG Z (at_+1)) then AZ R (AG Z) rd S (AG Z (AG Z (at_+1))) else AZ R (AG Z) rd S (AG Z (at_+1)))=mx at *
   have hs3:=sum3 A 1 _ _ (small3 one1 u0 u3)
   simp only[eE,seval,↓eP,DI,A_,y0,d24,d12,len1',a2',g2,r2]
   refine WK.flags (ops:=bQ) kE ?_
   refine BQ.begin ?_
   refine AF hsn 0 (some 40) (.move (.tmp 0)) none ?_
   simp only[rG,seval,AB,AD,AC,hff]
   refine AF hsn 1 (some 41) (.move (.tmp 6)) none ?_
   simp only[rG,seval,AB,AD,AC,hff]
   refine AF hsn 2 (some 42) (.indexAddr 28 (.tmp 41) (.const (Value.int IntKind.i64 0))) none ?_
   simp only[rG,seval,AB,AD,AC,hff,a0']
   refine AF hsn 3 (some 43) (.load 3 (.tmp 42)) none ?_
   simp only[rG,seval,AB,AD,AC,BU,hff,g0,t0,A_]
   refine AF hsn 4 (some 44) (.call { callee:=.value (.func 77),args:=#[.tmp 40,.tmp 43],argTypes:=#[106,3] }) none ?_
   simp only[rG,seval,AB,AD,AC,CF,hff,r0',DB]
   refine AF hsn 5 (some 45) (.move (.tmp 0)) none ?_
   simp only[rG,seval,AB,AD,AC,hff]
   refine AF hsn 6 (some 46) (.move (.tmp 6)) none ?_
   simp only[rG,seval,AB,AD,AC,hff]
   refine AF hsn 7 (some 47) (.indexAddr 28 (.tmp 46) (.const (Value.int IntKind.i64 1))) none ?_
   simp only[rG,seval,AB,AD,AC,hff,a1']
   refine AF hsn 8 (some 48) (.load 3 (.tmp 47)) none ?_
   simp only[rG,seval,AB,AD,AC,BU,hff,g1,t1,A_]
   refine AF hsn 9 (some 49) (.call { callee:=.value (.func 77),args:=#[.tmp 45,.tmp 48],argTypes:=#[106,3] }) none ?_
   simp only[rG,seval,AB,AD,AC,CF,hff,r1]
   refine AF hsn 10 (some 50) (.move (.tmp 7)) none ?_
   simp only[rG,seval,AB,AD,AC,hff]
   refine AF hsn 11 (some 51) (.call { callee:=.builtin .max,args:=#[.tmp 49,.tmp 50],argTypes:=#[3,3] }) none ?_
   simp only[rG,seval,AB,AD,AC,CF,hff,max2,hmx]
   refine AF hsn 12 (some 52) (.buildSlice 28 3 #[(0,.const (Value.int IntKind.i64 1)),(1,.tmp 44),(2,.tmp 51)]) none ?_
   simp only[rG,seval,AB,AD,AC,List.map_cons,List.map_nil,hff,dY,DS]
   refine AF hsn 13 (some 53) (.call { callee:=.value (.func 75),args:=#[.tmp 52],argTypes:=#[28] }) none ?_
   simp only[rG,seval,AB,AD,AC,CF,hs3]
   refine AF hsn 14 (some 4) (.assign (.tmp 53)) none ?_
   simp only[rG,seval,AB,AD,AC]
   refine BQ.done (i:=15) (by kernel_rfl) ?_
   simp only[eE,seval,↓eP]
   exact old1 _
 | false=>
 have k12:y.kind≠12:=by simpa using d12
 cases d13:(y.kind==13) with
 | true=>
  have k13:y.kind=13:=by simpa using d13
  have hc3:x.kids.toNat=3:=by have:=fit13 k13;omega
  rw[hc3] at recf kA len1
  obtain⟨i1,p1,a1,b1,g1⟩:=AN.get kA (i:=1) (x:=((AG Z (at_+1):Nat):Int)) rfl
  obtain⟨i2,p2,a2,b2,g2⟩:=AN.get kA (i:=2) (x:=((AG Z (AG Z (at_+1)):Nat):Int)) rfl
  obtain⟨r1,r1'⟩:=recf (AG Z (at_+1)) (by simp[BX])
  obtain⟨r2,r2'⟩:=recf (AG Z (AG Z (at_+1))) (by simp[BX])
  have a1':CO Tryd.prog 28 kv (iv 1)=some (qP i1 p1):=a1
  have a2':CO Tryd.prog 28 kv (iv 2)=some (qP i2 p2):=a2
  have hal:at_<rd.length:=by rw[hrl];exact(List.getElem?_eq_some_iff.1 hy).1
  obtain⟨ro,hro⟩:∃ ro,rd[at_]?=some ro:=⟨_,List.getElem?_eq_getElem hal⟩
  have u0:=TL hrd at_
  rw[hro] at u0
  simp only[Option.getD_some] at u0
  obtain⟨i3,p3,a3,b3,g3⟩:=AN.get BA.rd hro
  have t1:(i1<A.next)=True:=by simp[b1]
  have t2:(i2<A.next)=True:=by simp[b2]
  have t3:(i3<A.next)=True:=by simp[b3]
  have u1:=vle (AG Z (at_+1))
  have u2:=vle (AG Z (AG Z (at_+1)))
  have hs1:=sum2 A _ _ (small2 u1 u2)
  rw[l7 u1] at hs1
  have hs1':AX n 75 [qS A.next 2 2] ((A.fl (max A.floor A.next)).push (.row [iv (AZ R (AG Z) rd S (AG Z (at_+1))),iv (AZ R (AG Z) rd S (AG Z (AG Z (at_+1))))] 3 false false))=some (iv (BG (AZ R (AG Z) rd S (AG Z (at_+1))) (AZ R (AG Z) rd S (AG Z (AG Z (at_+1))))),(A.fl (max A.floor A.next)).push (.row [iv (AZ R (AG Z) rd S (AG Z (at_+1))),iv (AZ R (AG Z) rd S (AG Z (AG Z (at_+1))))] 3 false false)):=by
   rw[← l7 u1]
   exact sum2 (A.fl (max A.floor A.next)) _ _ (small2 u1 u2)
  have u3:=IN u1.1 u2.1 u2.2
  have u4:=bG u0 u3
  have hv:I1 y.kind ((BX (AG Z) x.kids.toNat (at_+1)).map (AZ R (AG Z) rd S)) ((rd[at_]?).getD 0) (FA S y.n)=HR [1,KI ro (BG (AZ R (AG Z) rd S (AG Z (at_+1))) (AZ R (AG Z) rd S (AG Z (AG Z (at_+1)))))]:=by
   rw[hc3,k13,hro,gM u4]
   exact gK
  rw[hv]
  have hs2:=fun H=>tim2 H ro _ u0 u3
  have hs3:=fun H=>sum2 H 1 _ (small2 one1 u4)
  simp only[eE,seval,↓eP,DI,A_,y0,d24,d12,d13]
  refine WK.flags (ops:=mD) Ey ?_
  refine BQ.begin ?_
  refine AF hsn 0 (some 56) (.move (.tmp 0)) none ?_
  simp only[rG,seval,AB,AD,AC,hff,Nat.zero_add]
  refine AF hsn 1 (some 57) (.nilCheck (.tmp 56)) none ?_
  simp only[rG,seval,AB,AD,AC,hff,Nat.reduceAdd]
  refine AF hsn 2 (some 58) (.fieldAddr 108 (.tmp 57) 1) none ?_
  simp only[rG,seval,AB,AD,AC,Nat.zero_add,hff,wJ,Nat.zero_add,Nat.reduceAdd]
  refine AF hsn 3 (some 59) (.fieldAddr 70 (.tmp 58) 2) none ?_
  simp only[rG,seval,AB,AD,AC,hff,J_,Nat.reduceAdd]
  refine AF hsn 4 (some 60) (.load 28 (.tmp 59)) none ?_
  simp only[rG,seval,AB,AD,AC,BU,hff,bAT,BA.x10,CC,Nat.reduceAdd]
  refine AF hsn 5 (some 61) (.move (.tmp 1)) none ?_
  simp only[rG,seval,AB,AD,AC,hff,Nat.reduceAdd]
  refine AF hsn 6 (some 62) (.indexAddr 28 (.tmp 60) (.tmp 61)) none ?_
  simp only[rG,seval,AB,AD,AC,hff,Nat.reduceAdd,a3]
  refine AF hsn 7 (some 63) (.load 3 (.tmp 62)) none ?_
  simp only[rG,seval,AB,AD,AC,BU,hff,Nat.reduceAdd,g3,t3,A_]
  refine AF hsn 8 (some 64) (.move (.tmp 0)) none ?_
  simp only[rG,seval,AB,AD,AC,hff,Nat.reduceAdd]
  refine AF hsn 9 (some 65) (.move (.tmp 6)) none ?_
  simp only[rG,seval,AB,AD,AC,hff,Nat.reduceAdd]
  refine AF hsn 10 (some 66) (.indexAddr 28 (.tmp 65) (.const (Value.int IntKind.i64 1))) none ?_
  simp only[rG,seval,AB,AD,AC,hff,Nat.reduceAdd,a1']
  refine AF hsn 11 (some 67) (.load 3 (.tmp 66)) none ?_
  simp only[rG,seval,AB,AD,AC,BU,hff,Nat.reduceAdd,g1,t1,A_]
  refine AF hsn 12 (some 68) (.call { callee:=.value (.func 77),args:=#[.tmp 64,.tmp 67],argTypes:=#[106,3] }) none ?_
  simp only[rG,seval,AB,AD,AC,CF,hff,Nat.reduceAdd,r1',DB]
  refine AF hsn 13 (some 69) (.move (.tmp 0)) none ?_
  simp only[rG,seval,AB,AD,AC,hff,Nat.reduceAdd]
  refine AF hsn 14 (some 70) (.move (.tmp 6)) none ?_
  simp only[rG,seval,AB,AD,AC,hff,Nat.reduceAdd]
  refine AF hsn 15 (some 71) (.indexAddr 28 (.tmp 70) (.const (Value.int IntKind.i64 2))) none ?_
  simp only[rG,seval,AB,AD,AC,hff,Nat.reduceAdd,a2']
  refine AF hsn 16 (some 72) (.load 3 (.tmp 71)) none ?_
  simp only[rG,seval,AB,AD,AC,BU,hff,Nat.reduceAdd,g2,t2,A_]
  refine AF hsn 17 (some 73) (.call { callee:=.value (.func 77),args:=#[.tmp 69,.tmp 72],argTypes:=#[106,3] }) none ?_
  simp only[rG,seval,AB,AD,AC,CF,hff,Nat.reduceAdd,r2',DB]
  refine AF hsn 18 (some 74) (.buildSlice 28 2 #[(0,.tmp 68),(1,.tmp 73)]) none ?_
  simp only[rG,seval,AB,AD,AC,List.map_cons,List.map_nil,hff,Nat.reduceAdd,VP,DS]
  refine AF hsn 19 (some 75) (.call { callee:=.value (.func 75),args:=#[.tmp 74],argTypes:=#[28] }) none ?_
  simp only[rG,seval,AB,AD,AC,CF,hff,Nat.reduceAdd,hs1',DS,DA,DB]
  refine AF hsn 20 (some 76) (.buildSlice 28 2 #[(0,.tmp 63),(1,.tmp 75)]) none ?_
  simp only[rG,seval,AB,AD,AC,List.map_cons,List.map_nil,hff,Nat.reduceAdd,VP,DS,DA]
  refine AF hsn 21 (some 77) (.call { callee:=.value (.func 76),args:=#[.tmp 76],argTypes:=#[28] }) none ?_
  simp only[rG,seval,AB,AD,AC,CF,hff,Nat.reduceAdd,hs2,DS,DA]
  refine AF hsn 22 (some 78) (.buildSlice 28 2 #[(0,.const (Value.int IntKind.i64 1)),(1,.tmp 77)]) none ?_
  simp only[rG,seval,AB,AD,AC,List.map_cons,List.map_nil,hff,Nat.reduceAdd,VP,DS,DA]
  refine AF hsn 23 (some 79) (.call { callee:=.value (.func 75),args:=#[.tmp 78],argTypes:=#[28] }) none ?_
  simp only[rG,seval,AB,AD,AC,CF,hff,Nat.reduceAdd,hs3,DS,DA]
  refine AF hsn 24 (some 4) (.assign (.tmp 79)) none ?_
  simp only[rG,seval,AB,AD,AC,hff,Nat.reduceAdd,DS,DA]
  refine BQ.done (i:=25) (by kernel_rfl) ?_
  simp only[eE,seval,↓eP]
  exact fun i hi=>by rw[AP (by show i<A.next+1+1;omega),AP (by show i<A.next+1;omega),AP (by omega)];exact oAh i hi
 | false=>
 have k13:y.kind≠13:=by simpa using d13
 cases d22:(y.kind==22) with
 | true=>
  have k22:y.kind=22:=by simpa using d22
  obtain⟨c0,c1⟩:=hcall k22
  obtain⟨k,hk⟩:∃ k:Nat,y.n=(k:Int):=⟨y.n.toNat,by omega⟩
  rw[hk] at y3 c1
  obtain⟨q,hq⟩:∃ q,S[k]?=some q:=⟨_,List.getElem?_eq_getElem (by omega)⟩
  obtain⟨i3,p3,a3,b3,g3⟩:=AN.get BA.s hq
  have u1:=hS q (List.mem_of_getElem? hq)
  have t3:(i3<A.next)=True:=by simp[b3]
  have KT:(K1.next<A.next)=True:=by simp;omega
  have hs2:=fun H=>sum2 H 1 q (small2 one1 u1)
  have hsq:FA S y.n=q:=by unfold FA;rw[hk,Int.toNat_natCast,hq];rfl
  have hv:I1 y.kind ((BX (AG Z) x.kids.toNat (at_+1)).map (AZ R (AG Z) rd S)) ((rd[at_]?).getD 0) (FA S y.n)=HR [1,q]:=by
   rw[hsq,k22,gM u1]
   exact rS
  rw[hv]
  simp only[eE,seval,↓eP,DI,A_,y0,d24,d12,d13,d22]
  refine WK.flags (ops:=iI) Hm ?_
  refine BQ.begin ?_
  refine AF hsn 0 (some 82) (.move (.tmp 0)) none ?_
  simp only[rG,seval,AB,AD,AC,hff,Nat.zero_add]
  refine AF hsn 1 (some 83) (.nilCheck (.tmp 82)) none ?_
  simp only[rG,seval,AB,AD,AC,hff,Nat.reduceAdd]
  refine AF hsn 2 (some 84) (.fieldAddr 108 (.tmp 83) 2) none ?_
  simp only[rG,seval,AB,AD,AC,Nat.zero_add,hff,aZ,Nat.zero_add,Nat.reduceAdd]
  refine AF hsn 3 (some 85) (.load 28 (.tmp 84)) none ?_
  simp only[rG,seval,AB,AD,AC,BU,hff,bAT,BA.x11,CC,Nat.reduceAdd]
  refine AF hsn 4 (some 86) (.fieldAddr 46 (.tmp 5) 3) none ?_
  simp only[rG,seval,AB,AD,AC,Nat.zero_add,hff,I_,Nat.zero_add,Nat.reduceAdd]
  refine AF hsn 5 (some 87) (.load 3 (.tmp 86)) none ?_
  simp only[rG,seval,AB,AD,AC,BU,hff,KT,y3,Nat.reduceAdd,A_]
  refine AF hsn 6 (some 88) (.indexAddr 28 (.tmp 85) (.tmp 87)) none ?_
  simp only[rG,seval,AB,AD,AC,hff,Nat.reduceAdd,a3]
  refine AF hsn 7 (some 89) (.load 3 (.tmp 88)) none ?_
  simp only[rG,seval,AB,AD,AC,BU,hff,Nat.reduceAdd,g3,t3,A_]
  refine AF hsn 8 (some 90) (.buildSlice 28 2 #[(0,.const (Value.int IntKind.i64 1)),(1,.tmp 89)]) none ?_
  simp only[rG,seval,AB,AD,AC,List.map_cons,List.map_nil,hff,Nat.reduceAdd,VP,DS]
  refine AF hsn 9 (some 91) (.call { callee:=.value (.func 75),args:=#[.tmp 90],argTypes:=#[28] }) none ?_
  simp only[rG,seval,AB,AD,AC,CF,hff,Nat.reduceAdd,hs2,DS,DA]
  refine AF hsn 10 (some 4) (.assign (.tmp 91)) none ?_
  simp only[rG,seval,AB,AD,AC,hff,Nat.reduceAdd,DS,DA]
  refine BQ.done (i:=11) (by kernel_rfl) ?_
  simp only[eE,seval,↓eP]
  exact old1 _
 | false=>
 have k22:y.kind≠22:=by simpa using d22
 have hsv:C1 ((BX (AG Z) x.kids.toNat (at_+1)).map (AZ R (AG Z) rd S)):=UT hrd hS R.length _
 rw[aL k24 k12 k13 k22,← V5 hsv]
 simp only[eE,seval,↓eP,DI,A_,y0,d24,d12,d13,d22,MB,len1]
 have hkb:x.kids.toNat≤R.length:=by
  obtain⟨x',hx',_,_,hch⟩:=(ht.end (List.getElem?_eq_some_iff.1 hx).1).kids
  rw[hx] at hx'
  cases hx'
  have h1:=HH _ _ _ hch
  have h2:=(ht.end (List.getElem?_eq_some_iff.1 hx).1).lt
  have h3:=hsk.1
  omega
 generalize hks:BX (AG Z) x.kids.toNat (at_+1)=ks at *
 refine WK.loop (fun i s'=>s'.T.get 0=qP b 0∧s'.T.get 93=kv∧s'.T.get 94=iv (x.kids.toNat:Int)∧s'.T.get 95=iv i∧i≤x.kids.toNat∧A.next≤s'.h.next∧s'.h.floor=A.floor∧(∀ j,j<A.next→s'.h.get j=A.get j)∧∃ w,s'.T.get 8=w∧GJ s'.h A.next w (1 :: (ks.take i).map (AZ R (AG Z) rd S))) x.kids.toNat (by omega) ?_ ?_
 ·refine⟨by simp only[eE,seval,↓eP,rP],by simp only[eE,seval,↓eP,rP],by simp only[eE,seval,↓eP,rP],by simp only[eE,seval,↓eP,rP],by omega,by show A.next≤A.next+1;omega,rfl,fun j hj=>AP hj,qS A.next 1 1,by simp only[eE,seval,↓eP,rP],.inr ⟨A.next,1,rfl,Nat.le_refl _,by show A.next<A.next+1;omega,.inr ⟨rfl,BO⟩⟩⟩
 rintro i ⟨T1,H1⟩ hi ⟨t0,t93,t94,t95,hil,m1,m2,m3,w,t8,hL8⟩
 simp only at t0 t93 t94 t95 m1 m2 m3 t8 hL8
 have B1':M8 H1 b vr tr vS R rd S:=BA.mono m1 m3
 by_cases hlt:i<x.kids.toNat
 ·have c1:decide ((i:Int)<(x.kids.toNat:Int))=true:=by simp;omega
  have w1:=C6 i (by omega)
  obtain⟨k,hk⟩:∃ k,ks[i]?=some k:=⟨_,List.getElem?_eq_getElem (by omega)⟩
  obtain⟨i3,p3,a3,b3,g3⟩:=AN.get (AN.mono kA m1 fun j _ hj=>m3 j hj) (i:=i) (x:=(k:Int)) (by rw[List.getElem?_map,hk];rfl)
  have hrk:=hrec k (List.mem_of_getElem? hk) H1 B1' (by omega)
  obtain⟨w',H',happ,hL',fH,nH,oH⟩:=T0 (x:=AZ R (AG Z) rd S k) hL8 m1 (by omega) (by rw[List.length_cons,List.length_map,List.length_take];omega)
  simp only[eE,seval,↓eP,t0,t93,t94,t95,t8,c1,a3,A_,g3,hrk,MB,happ,w1]
  refine⟨hlt,by omega,by omega,by omega,fun j hj=>(oH j hj).trans (m3 j hj),?_⟩
  rw[List.take_add_one,hk]
  simpa using hL'
 ·have c1:decide ((i:Int)<(x.kids.toNat:Int))=false:=by simp;omega
  have hti:ks.take i=ks:=List.take_of_length_le (by omega)
  rw[hti] at hL8
  have hs1:C1 (1 :: ks.map (AZ R (AG Z) rd S)):=fun z hz=>by
   simp only[List.mem_cons] at hz
   rcases hz with rfl | hz
   ·exact one1
   ·exact hsv z hz
  have hsum:=aK (n:=n) (GJ.ints hL8 (Nat.zero_le _)) hs1 (by rw[List.length_cons,List.length_map];omega) (by rw[List.length_cons,List.length_map];omega)
  simp only[eE,seval,↓eP,t94,t95,t8,c1,hsum]
  exact fun i hi=>(m3 i (by omega)).trans (oAh i hi)
end
def UO (R:List AE) (S:List Int) (p q:Nat):Prop:=∀ (i:Nat) (x:AE),p≤i→i<q→R[i]?=some x→x.kind=22→0≤x.n∧x.n<S.length
def YB (R Z:List AE):Prop:=∀ (i:Nat) (x:AE),Z[i]?=some x→∃ y,R[i]?=some y∧y.kind=x.kind
theorem r_ {Z R:List AE} {rd S:List Int} {vr tr vS:Value} {b:Nat} (ht:B_ Z) (hsk:G0 R Z) (hkk:YB R Z) (hrd:GH rd) (hrl:rd.length=R.length) (hS:C1 S) (hlen:R.length<2932031007403) :
  ∀ (d n at_ q:Nat) (h:AA),DV Z at_ q→q-at_≤d→UO R S at_ q→R.length+40+d<n→M8 h b vr tr vS R rd S→h.floor≤h.next→AX n 77 [qP b 0,iv at_] h=some (iv (AZ R (AG Z) rd S at_),h):=by
 intro d
 induction d with
 | zero=>intro n at_ q h hs hd;have:=hs.lt;omega
 | succ d ih=>
  intro n at_ q h hs hd hc hn hb hfl
  obtain⟨n,rfl⟩:∃ j,n=j+1:=⟨n-1,by omega⟩
  obtain⟨x,hx,_,_,hch⟩:=hs.kids
  obtain⟨y,hy,hyk⟩:=hkk at_ x hx
  have hl:=hs.lt
  refine JN (CP ⟨rfl,rfl,rfl⟩) rfl (Ed (n:=n) (N:=n) ht hsk hx hy hyk hrd hrl hS (fun h22=>hc at_ y (Nat.le_refl _) (by omega) hy h22) hlen (by omega) (by omega) hb hfl fun k hk h' hb' hf'=>?_)
  obtain⟨qk,s1,s2,s3⟩:=S5 _ _ _ hch k hk
  exact ih n k qk h' s1 (by omega) (fun i z h1 h2=>hc i z (by omega) (by omega)) (by omega) hb' hf'
noncomputable def jV:Array Oper:=DR Tryd.f78 20
def Qf:List (Bool × Bool × List Operand):=[FT,FT,FT,FT,AJ [.tmp 97],AJ [.tmp 97],AJ [.tmp 97],AJ [.tmp 97,.tmp 100],AJ [.tmp 97,.tmp 100],AJ [.tmp 97,.tmp 100],AJ [.tmp 97],AL,AL]
theorem Ii:DU jV=Qf:=by kernel_rfl
section
variable {n N:Nat}
theorem Rh {Z:List AE} {rd S:List Int} {vr vq vv vt vu vo ve vd vS:Value} {nm:ByteArray} {s:AS} {lo row q:Nat} {h:AA} (hp:DJ lo h (.agg #[.string nm,vr,vq,vv,vt,vu,vo,iv s.miss]) nm s) (he:AN 0 h ve (AR Z)) (hd:AN 0 h vd rd) (hs:AN 0 h vS S)
  (ht:B_ Z) (hsk:G0 s.rows Z) (hkk:YB s.rows Z) (hrd:GH rd) (hrl:rd.length=s.rows.length) (hS:C1 S) (hsub:DV Z row q) (hcall:UO s.rows S row q) (hlen:s.rows.length<2932031007403) (hn:0<n) (hN:s.rows.length+30<N) (hfl:h.floor≤h.next) :
  ∃ h',A9 Tryd.prog (AX n) N 78 [.agg #[.string nm,vr,vq,vv,vt,vu,vo,iv s.miss],vd,ve,vS,iv row] h=some (iv (AZ s.rows (AG Z) rd S row),h')∧∀ i,i<h.next→h'.get i=h.get i:=by
 have hsn:=(FH n).2
 refine FB (R:=fun h'=>∀ i,i<h.next→h'.get i=h.get i) Tryd.func78 rfl (by simp[Tryd.f78]) ?_
 have hr:Tryd.f78.results.toList=[.tmp 10]:=rfl
 obtain⟨vr',vq',vv',vt',vu',vo',e9,p1,p2,p3,p4,p5,p6⟩:=id hp
 cases e9
 have hZ:=hsk.1
 have hrq:=hsub.lt
 have ca:=F7 [.string nm,vr,vq,vv,vt,vu,vo,iv s.miss]
 have oa:=MJ (nm:=nm) p1 p2 p3 p4 p5 p6
 have hE:(AR Z)[row]?=some (q:Int):=by rw[KY (by omega),I2 hsub]
 obtain⟨ie,pe,e1,e2,e3⟩:=AN.get he hE
 have w0:IntKind.i64.wrap ((q:Int)-(row:Int))=((q-row:Nat):Int):=by rw[B0 (by omega) (by omega)];omega
 have w1:IntKind.i64.wrap ((q:Int)-1)=(q:Int)-1:=B0 (by omega) (by omega)
 have gP:(h.push (.row [.string nm,vr,vq,vv,vt,vu,vo,iv s.miss] 30 false false)).get h.next=.row [.string nm,vr,vq,vv,vt,vu,vo,iv s.miss] 30 false false:=BO
 have gO:∀ i,i<h.next→(h.push (.row [.string nm,vr,vq,vv,vt,vu,vo,iv s.miss] 30 false false)).get i=h.get i:=fun i hi=>AP hi
 have nP:(h.push (.row [.string nm,vr,vq,vv,vt,vu,vo,iv s.miss] 30 false false)).next=h.next+1:=rfl
 have fP:(h.push (.row [.string nm,vr,vq,vv,vt,vu,vo,iv s.miss] 30 false false)).floor=h.floor:=rfl
 simp only[eE,seval,↓eP,DC,C8,C4,hr,ca,oa,HM]
 generalize h.push (.row [.string nm,vr,vq,vv,vt,vu,vo,iv s.miss] 30 false false)=P at *
 have e3P:AO pe (P.get ie)=some (iv q):=by rw[gO _ e2];exact e3
 have hmk:=N4 (h:=P) (n:=q-row) (by omega)
 rw[nP] at hmk
 have gF:(P.push (.row (ints (List.replicate (q-row) 0)) 3 false false)).get (h.next+1)=.row (ints (List.replicate (q-row) 0)) 3 false false:=by rw[← nP];exact BO
 have gO2:∀ i,i<h.next+1→(P.push (.row (ints (List.replicate (q-row) 0)) 3 false false)).get i=P.get i:=fun i hi=>AP (by omega)
 have nF:(P.push (.row (ints (List.replicate (q-row) 0)) 3 false false)).next=h.next+2:=by rw[C7,nP]
 have fF:(P.push (.row (ints (List.replicate (q-row) 0)) 3 false false)).floor=h.floor:=by rw[DA,fP]
 have e3F:AO pe ((P.push (.row (ints (List.replicate (q-row) 0)) 3 false false)).get ie)=some (iv q):=by rw[gO2 _ (by omega)];exact e3P
 simp only[eE,seval,↓eP,e1,A_,e3P,w0,hmk,e3F,w1]
 generalize P.push (.row (ints (List.replicate (q-row) 0)) 3 false false)=F0 at *
 refine WK.loop (fun j s'=>s'.T.get 1=vd∧s'.T.get 2=ve∧s'.T.get 3=vS∧s'.T.get 4=iv row∧s'.T.get 5=qP h.next 0∧s'.T.get 11=qS (h.next+1) (q-row) (q-row)∧s'.T.get 12=iv ((q:Int)-1-(j:Int))∧j≤q-row∧h.next+2≤s'.h.next∧s'.h.floor=h.floor∧(∀ i,i<h.next+1→s'.h.get i=P.get i) ∧
  ∃ OF:List Int,OF.length=q-row∧s'.h.get (h.next+1)=.row (ints OF) 3 false false∧∀ i,q-j≤i→i<q→OF[i-row]?=some (AZ s.rows (AG Z) rd S i)) (q-row) (by omega) ?_ ?_
 ·exact⟨by simp only[eE,seval,↓eP,rP],by simp only[eE,seval,↓eP,rP],by simp only[eE,seval,↓eP,rP],by simp only[eE,seval,↓eP,rP],by simp only[eE,seval,↓eP,rP],by simp only[eE,seval,↓eP,rP],by simp only[eE,seval,↓eP,rP];omega,by omega,by show h.next+2≤F0.next;omega,fF,gO2,List.replicate (q-row) 0,List.length_replicate ..,gF,fun i h1 h2=>by omega⟩
 rintro j ⟨T1,H1⟩ hj ⟨t1,t2,t3,t4,t5,t11,t12,hjl,m1,m2,m3,OF,lF,gOF,hOF⟩
 simp only at t1 t2 t3 t4 t5 t11 t12 m1 m2 m3 gOF
 by_cases hlt:j<q-row
 ·obtain⟨at_,hat,hatq⟩:∃ a:Nat,(q:Int)-1-(j:Int)=(a:Int)∧a+1+j=q:=⟨q-1-j,by omega,by omega⟩
  rw[hat] at t12
  have c1:decide ((at_:Int)≥(row:Int))=true:=by simp;omega
  obtain⟨qa,sa,sb⟩:=DV.cover (q-row) (by omega) hsub at_ (by omega) (by omega)
  have hqa:=I2 sa
  obtain⟨x,hx,hk0,_,hch⟩:=sa.kids
  obtain⟨y,hy,hyk⟩:=hsk.2 _ x hx
  obtain⟨y',hy',hyk'⟩:=hkk _ x hx
  rw[hy] at hy'
  cases hy'
  have sal:=sa.lt
  have hk13:=r8 ht hx
  rw[← hyk'] at hk13
  obtain⟨fit12,fit13⟩:=hk13
  have hval:=QF (rd:=rd) (S:=S) ht hsk hy
  rw[hyk] at hval
  have hcl:=HH _ _ _ hch
  rw[← hqa] at hch hcl sal
  have hkl:(BX (AG Z) x.kids.toNat (at_+1)).length=x.kids.toNat:=WX _ _
  have hmem:=S5 _ _ _ hch
  have hkN:x.kids.toNat<N:=by clear hrl hrd;omega
  generalize hks:BX (AG Z) x.kids.toNat (at_+1)=ks at *
  have vle:=fun k=>SK (R:=s.rows) (e:=AG Z) (at_:=k) hrd hS
  have oH1:∀ i,i<h.next→H1.get i=h.get i:=fun i hi=>(m3 i (by omega)).trans (gO i hi)
  have r1:AU H1 vr s.rows:=p1.1.mono (by omega) oH1
  have E1:AN 0 H1 ve (AR Z):=AN.mono he (by omega) fun i _ hi=>oH1 i hi
  have D1:AN 0 H1 vd rd:=AN.mono hd (by omega) fun i _ hi=>oH1 i hi
  have S1:AN 0 H1 vS S:=AN.mono hs (by omega) fun i _ hi=>oH1 i hi
  have lP:AO 1 (H1.get h.next)=some vr:=by rw[m3 _ (by omega),gP];rfl
  obtain⟨idr,pr,b0,bid,l0,l1,l2,l3,l4,lr⟩:=r1.row hy
  have hEa:(AR Z)[at_]?=some ((AG Z at_:Nat):Int):=KY (by omega)
  obtain⟨ia,pa,a1,a2,a3⟩:=AN.get E1 hEa
  have hzx:(Value.agg #[iv 0,.string ByteArray.empty,iv 0,iv 0,iv 0]).cells.toList=AI DF:=rfl
  have hst:BH Tryd.prog (H1.push (.row (AI DF) 46 false false)) 46 (qP H1.next 0) (DM y)=some ((H1.push (.row (AI DF) 46 false false)).put H1.next (.row (AI y) 46 false false)):=RK (i:=0) (off:=0) (L:=[DF]) rfl BO (by decide) (by rw[DA];omega)
  have gA:((H1.push (.row (AI DF) 46 false false)).put H1.next (.row (AI y) 46 false false)).get H1.next=.row (AI y) 46 false false:=BI rfl (by rw[C7];omega)
  have oA:∀ i,i<H1.next→((H1.push (.row (AI DF) 46 false false)).put H1.next (.row (AI y) 46 false false)).get i=H1.get i:=fun i hi=>by rw[AK (by rw[C7];omega) (by omega),AP hi]
  have nA:((H1.push (.row (AI DF) 46 false false)).put H1.next (.row (AI y) 46 false false)).next=H1.next+1:=rfl
  have fA:((H1.push (.row (AI DF) 46 false false)).put H1.next (.row (AI y) 46 false false)).floor=H1.floor:=rfl
  have w2:=C6 at_ (by omega)
  simp only[eE,seval,↓eP,t4,t5,t12,c1,Nat.zero_add,CR,CI,lP,b0,HX,lr,GA,hzx,C4,LQ,PH,Bool.and_self,hst,w2]
  generalize (H1.push (.row (AI DF) 46 false false)).put H1.next (.row (AI y) 46 false false)=A at *
  refine WK.loop (fun i s'=>s'.T.get 1=vd∧s'.T.get 2=ve∧s'.T.get 3=vS∧s'.T.get 4=iv row∧s'.T.get 5=qP h.next 0∧s'.T.get 11=qS (h.next+1) (q-row) (q-row)∧s'.T.get 12=iv at_∧s'.T.get 13=qP H1.next 0∧i≤x.kids.toNat∧A.next≤s'.h.next∧s'.h.floor=A.floor∧(∀ i,i<A.next→s'.h.get i=A.get i)∧s'.T.get 14=iv (HR ((ks.take i).map (AZ s.rows (AG Z) rd S))) ∧
   ∃ p w,s'.T.get 16=iv ((p:Nat):Int)∧s'.T.get 15=w∧GJ s'.h A.next w ((ks.take i).map (AZ s.rows (AG Z) rd S))∧EJ Z (x.kids.toNat-i) p (AG Z at_)∧ks.drop i=BX (AG Z) (x.kids.toNat-i) p) x.kids.toNat hkN ?_ ?_
  ·exact⟨by simp only[eE,seval,↓eP,rP,t1],by simp only[eE,seval,↓eP,rP,t2],by simp only[eE,seval,↓eP,rP,t3],by simp only[eE,seval,↓eP,rP,t4],by simp only[eE,seval,↓eP,rP,t5],by simp only[eE,seval,↓eP,rP,t11],by simp only[eE,seval,↓eP,rP,t12],by simp only[eE,seval,↓eP,rP],by omega,Nat.le_refl _,rfl,fun _ _=>rfl,by simp only[eE,seval,↓eP,rP];rfl,at_+1,Z0,by simp only[eE,seval,↓eP,rP],by simp only[eE,seval,↓eP,rP],.inl ⟨rfl,rfl⟩,hch,by rw[List.drop_zero,Nat.sub_zero];exact hks.symm⟩
  rintro i ⟨T2,H2⟩ hi ⟨t1,t2,t3,t4,t5,t11,t12,t13,hil,k1,k2,k3,t14,p,w,t16,t15,hL,hcp,hdp⟩
  simp only at t1 t2 t3 t4 t5 t11 t12 t13 k1 k2 k3 t14 t16 t15 hL
  have oH2:∀ i,i<H1.next→H2.get i=H1.get i:=fun i hi=>(k3 i (by omega)).trans (oA i hi)
  have E2:AN 0 H2 ve (AR Z):=AN.mono E1 (by omega) fun i _ hi=>oH2 i hi
  obtain⟨ia,pa,a1,a2,a3⟩:=AN.get E2 hEa
  have vals:=fun m=>UT (e:=AG Z) (R:=s.rows) hrd hS s.rows.length m
  by_cases hik:i<x.kids.toNat
  ·obtain⟨r,hr1⟩:∃ r,x.kids.toNat-i=r+1:=⟨x.kids.toNat-i-1,by omega⟩
   rw[hr1] at hcp hdp
   obtain⟨p',s1,s2,s3,s4⟩:=hcp
   have hle:=HH _ _ _ s4
   have hep:=I2 s1
   have hkp:ks[i]?=some p:=by
    have:=congrArg (fun l:List Nat=>l[0]?) hdp
    simp only[List.getElem?_drop,Nat.add_zero] at this
    rw[this]
    rfl
   obtain⟨qk,n1,n2,n3⟩:=hmem p (List.mem_of_getElem? hkp)
   have c2:decide ((p:Int)<((AG Z at_:Nat):Int))=true:=by simp;omega
   have hEp:(AR Z)[p]?=some ((p':Nat):Int):=by rw[KY (by omega),hep]
   have w3:IntKind.i64.wrap ((p:Int)-(row:Int))=((p-row:Nat):Int):=by rw[B0 (by omega) (by omega)];omega
   have ip:=F6 (id:=h.next+1) (n:=q-row) (c:=q-row) (i:=p-row) (by omega)
   have hv:=hOF p (by omega) (by omega)
   have lp2:AO (p-row) (H2.get (h.next+1))=some (iv (AZ s.rows (AG Z) rd S p)):=by rw[oH2 _ (by omega),gOF];exact JO hv
   obtain⟨w',H3,happ,hL',f3,n3',o3⟩:=T0 (x:=AZ s.rows (AG Z) rd S p) hL k1 (by omega) (by rw[List.length_map,List.length_take];omega)
   have lp3:AO (p-row) (H3.get (h.next+1))=some (iv (AZ s.rows (AG Z) rd S p)):=by rw[o3 _ (by omega)];exact lp2
   have hsl:=YC ((ks.take i).map (AZ s.rows (AG Z) rd S)) 0 (vals _) (by decide) (by decide)
   have hpl:=SD (n:=n) (h:=H3) (a:=HR ((ks.take i).map (AZ s.rows (AG Z) rd S))) hsl (vle p) hn
   have E3:AN 0 H3 ve (AR Z):=AN.mono E1 (by omega) fun i _ hi=>by rw[o3 i (by omega),oH2 i hi]
   obtain⟨ib,pb,b1,b2,b3⟩:=AN.get E3 hEp
   simp only[eE,seval,↓eP,t1,t2,t3,t4,t5,t11,t12,t13,t14,t15,t16,a1,A_,a3,c2,w3,ip,lp2,MB,happ,lp3,hpl,b1,b3]
   refine⟨hik,by omega,by omega,by omega,fun j hj=>(o3 j (by omega)).trans (k3 j hj),?_,p',w',rfl,rfl,?_,?_,?_⟩
   ·rw[List.take_add_one,hkp,List.map_append]
    unfold HR
    rw[List.foldl_append]
    rfl
   ·rw[List.take_add_one,hkp,List.map_append]
    exact hL'
   ·rw[show x.kids.toNat-(i+1)=r by omega]
    exact s4
   ·rw[show x.kids.toNat-(i+1)=r by omega,← List.drop_drop,hdp,← hep]
    rfl
  ·obtain rfl:i=x.kids.toNat:=by omega
   rw[Nat.sub_self] at hcp
   obtain rfl:p=AG Z at_:=hcp
   have hti:ks.take x.kids.toNat=ks:=List.take_of_length_le (by omega)
   rw[hti] at t14 hL
   have c2:decide (((AG Z at_:Nat):Int)<((AG Z at_:Nat):Int))=false:=by simp
   have y0:AO 0 (H2.get H1.next)=some (iv y.kind):=by rw[k3 _ (by omega),gA];rfl
   have y3:AO 3 (H2.get H1.next)=some (iv y.n):=by rw[k3 _ (by omega),gA];rfl
   have gI:=GJ.ints hL (Nat.zero_le _)
   have D2:AN 0 H2 vd rd:=AN.mono D1 (by omega) fun i _ hi=>oH2 i hi
   have S2:AN 0 H2 vS S:=AN.mono S1 (by omega) fun i _ hi=>oH2 i hi
   have gOF2:H2.get (h.next+1)=.row (ints OF) 3 false false:=by rw[oH2 _ (by omega)];exact gOF
   have w4:IntKind.i64.wrap ((at_:Int)-(row:Int))=((at_-row:Nat):Int):=by rw[B0 (by omega) (by omega)];omega
   have w5:IntKind.i64.wrap ((at_:Int)-1)=(q:Int)-1-((j+1:Nat):Int):=by rw[B0 (by omega) (by omega)];omega
   have ip:=F6 (id:=h.next+1) (n:=q-row) (c:=q-row) (i:=at_-row) (by omega)
   have hst2:∀ v,BH Tryd.prog H2 3 (.pointer (some ⟨h.next+1,at_-row,none⟩)) (iv v)=some (H2.put (h.next+1) (.row (ints (OF.set (at_-row) v)) 3 false false)):=fun v=>LV gOF2 (by omega) (by omega)
   have pl:∀ (H:AA) (a:Int),0≤a∧a≤4611686018427387904→AX n 97 [iv a,iv 1] H=some (iv (BG a 1),H):=fun H a ha=>SD ha (by omega) hn
   have hsl:=YC (ks.map (AZ s.rows (AG Z) rd S)) 0 (vals _) (by decide) (by decide)
   have inj:∀ G:AA,(∀ i,i≠h.next+1→G.get i=H2.get i)→(∀ i,i<h.next+1→G.get i=P.get i):=fun G hG i hi=>by rw[hG i (by omega),oH2 i (by omega),m3 i hi]
   have fin:∀ (G:AA) (v:Int),v=AZ s.rows (AG Z) rd S at_→G.get (h.next+1)=.row (ints (OF.set (at_-row) v)) 3 false false→∃ OF:List Int,OF.length=q-row∧G.get (h.next+1)=.row (ints OF) 3 false false∧∀ i,q-(j+1)≤i→i<q→OF[i-row]?=some (AZ s.rows (AG Z) rd S i):=fun G v hv hG=>by
    refine⟨_,by rw[List.length_set];exact lF,hG,fun i h1 h2=>?_⟩
    rw[List.getElem?_set]
    by_cases hia:at_-row=i-row
    ·rw[if_pos hia,if_pos (by omega),hv,show i=at_ by omega]
    ·rw[if_neg hia]
     exact hOF i (by omega) h2
   have gput:∀ v,(H2.put (h.next+1) (.row (ints (OF.set (at_-row) v)) 3 false false)).get (h.next+1)=.row (ints (OF.set (at_-row) v)) 3 false false:=fun v=>BI rfl (by omega)
   have oput:∀ v i,i≠h.next+1→(H2.put (h.next+1) (.row (ints (OF.set (at_-row) v)) 3 false false)).get i=H2.get i:=fun v i hi=>AK (by omega) (Ne.symm hi)
   have yput:∀ v,AO 0 ((H2.put (h.next+1) (.row (ints (OF.set (at_-row) v)) 3 false false)).get H1.next)=some (iv y.kind):=fun v=>by rw[oput v _ (by omega)];exact y0
   have done:∀ v,v=AZ s.rows (AG Z) rd S at_→j<q-row∧(j+1≤q-row∧h.next+2≤H2.next∧H2.floor=h.floor∧(∀ i,i<h.next+1→(H2.put (h.next+1) (.row (ints (OF.set (at_-row) v)) 3 false false)).get i=P.get i)∧∃ OF':List Int,OF'.length=q-row∧(H2.put (h.next+1) (.row (ints (OF.set (at_-row) v)) 3 false false)).get (h.next+1)=.row (ints OF') 3 false false∧∀ i,q-(j+1)≤i→i<q→OF'[i-row]?=some (AZ s.rows (AG Z) rd S i)):=fun v hv=>
    ⟨hlt,by omega,by omega,by omega,inj _ (oput v),fin _ v hv (gput v)⟩
   have vS':∀ {k:Nat},(0:Int)≤AZ s.rows (AG Z) rd S k∧AZ s.rows (AG Z) rd S k≤4611686018427387904:=fun {k}=>vle k
   cases d12:(y.kind==12) with
   | true=>
    have k12:y.kind=12:=by simpa using d12
    have d13:(y.kind==13)=false:=by rw[k12];rfl
    have d22:(y.kind==22)=false:=by rw[k12];rfl
    have d24:(y.kind==24)=false:=by rw[k12];rfl
    rw[k12] at hval
    rcases fit12 k12 with hc | hc
    ·obtain⟨A0,A1,hAe⟩:∃ a b,ks=[a,b]:=by
      have:ks.length=2:=by omega
      match ks,this with
      | [a,b],_=>exact⟨a,b,rfl⟩
     subst hAe
     obtain⟨i0,q0,a0,b0,g0⟩:=AN.get gI (i:=0) rfl
     obtain⟨i1,q1,a1',b1,g1⟩:=AN.get gI (i:=1) rfl
     have a0':CO Tryd.prog 28 w (iv 0)=some (qP i0 q0):=a0
     have a1'':CO Tryd.prog 28 w (iv 1)=some (qP i1 q1):=a1'
     have lw:∀ h',BZ Tryd.prog h' 28 w=some (iv 2):=fun h'=>I7 gI h'
     have pp:=SD (n:=n) (h:=H2) (vle A0) (vle A1) hn
     have pr2:=IN (vle A0).1 (vle A1).1 (vle A1).2
     have pl1:=pl H2 _ pr2
     have hv:BG (BG (AZ s.rows (AG Z) rd S A0) (AZ s.rows (AG Z) rd S A1)) 1=AZ s.rows (AG Z) rd S at_:=by rw[hval];exact(iE (vle A1).1).symm
     simp only[eE,seval,↓eP,t1,t2,t3,t4,t5,t11,t12,t13,t15,t16,a1,A_,a3,c2,DI,y0,d12,a1'',g1,lw,a0',g0,pp,w4,pl1,ip,hst2,yput,d24,w5]
     exact done _ hv
    ·obtain⟨A0,A1,A2,hAe⟩:∃ a b c,ks=[a,b,c]:=by
      have:ks.length=3:=by omega
      match ks,this with
      | [a,b,c],_=>exact⟨a,b,c,rfl⟩
     subst hAe
     obtain⟨i0,q0,a0,b0,g0⟩:=AN.get gI (i:=0) rfl
     obtain⟨i1,q1,a1',b1,g1⟩:=AN.get gI (i:=1) rfl
     obtain⟨i2,q2,a2',b2,g2⟩:=AN.get gI (i:=2) rfl
     have a0':CO Tryd.prog 28 w (iv 0)=some (qP i0 q0):=a0
     have a1'':CO Tryd.prog 28 w (iv 1)=some (qP i1 q1):=a1'
     have a2'':CO Tryd.prog 28 w (iv 2)=some (qP i2 q2):=a2'
     have lw:∀ h',BZ Tryd.prog h' 28 w=some (iv 3):=fun h'=>I7 gI h'
     have hv0:BG (BG (AZ s.rows (AG Z) rd S A0) (if AZ s.rows (AG Z) rd S A2>AZ s.rows (AG Z) rd S A1 then AZ s.rows (AG Z) rd S A2 else AZ s.rows (AG Z) rd S A1)) 1=AZ s.rows (AG Z) rd S at_:=by rw[hval];exact qT.symm
     cases dm:decide (AZ s.rows (AG Z) rd S A2>AZ s.rows (AG Z) rd S A1) with
     | true=>
      rw[if_pos (of_decide_eq_true dm)] at hv0
      have pp:=SD (n:=n) (h:=H2) (vle A0) (vle A2) hn
      have pr2:=IN (vle A0).1 (vle A2).1 (vle A2).2
      have pl1:=pl H2 _ pr2
      simp only[eE,seval,↓eP,t1,t2,t3,t4,t5,t11,t12,t13,t15,t16,a1,A_,a3,c2,DI,y0,d12,a1'',g1,lw,a2'',g2,dm,a0',g0,pp,w4,pl1,ip,hst2,yput,d24,w5]
      exact done _ hv0
     | false=>
      rw[if_neg (of_decide_eq_false dm)] at hv0
      have pp:=SD (n:=n) (h:=H2) (vle A0) (vle A1) hn
      have pr2:=IN (vle A0).1 (vle A1).1 (vle A1).2
      have pl1:=pl H2 _ pr2
      simp only[eE,seval,↓eP,t1,t2,t3,t4,t5,t11,t12,t13,t15,t16,a1,A_,a3,c2,DI,y0,d12,a1'',g1,lw,a2'',g2,dm,a0',g0,pp,w4,pl1,ip,hst2,yput,d24,w5]
      exact done _ hv0
   | false=>
   have k12:y.kind≠12:=by simpa using d12
   cases d13:(y.kind==13) with
   | true=>
    have k13:y.kind=13:=by simpa using d13
    have d24:(y.kind==24)=false:=by rw[k13];rfl
    rw[k13] at hval
    obtain⟨A0,A1,A2,hAe⟩:∃ a b c,ks=[a,b,c]:=by
     have:ks.length=3:=by have:=fit13 k13;omega
     match ks,this with
     | [a,b,c],_=>exact⟨a,b,c,rfl⟩
    subst hAe
    obtain⟨i1,q1,a1',b1,g1⟩:=AN.get gI (i:=1) rfl
    obtain⟨i2,q2,a2',b2,g2⟩:=AN.get gI (i:=2) rfl
    have a1'':CO Tryd.prog 28 w (iv 1)=some (qP i1 q1):=a1'
    have a2'':CO Tryd.prog 28 w (iv 2)=some (qP i2 q2):=a2'
    obtain⟨ro,hro⟩:∃ ro,rd[at_]?=some ro:=⟨_,List.getElem?_eq_getElem (by omega)⟩
    have u0:=TL hrd at_
    rw[hro] at u0 hval
    simp only[Option.getD_some] at u0 hval
    obtain⟨i3,q3,a3',b3,g3⟩:=AN.get D2 hro
    have t1T:(i1<H2.next)=True:=by simp[b1]
    have t2T:(i2<H2.next)=True:=by simp[b2]
    have t3T:(i3<H2.next)=True:=by simp[b3]
    have u3:=IN (vle A1).1 (vle A2).1 (vle A2).2
    have u4:=bG u0 u3
    have pp:=fun H=>SD (n:=n) (h:=H) (vle A1) (vle A2) hn
    have pb:=fun H=>Sb (n:=n) (h:=H) u0 u3 hn
    have pl1:=pl H2 _ u4
    have hff:H2.fl H2.floor=H2:=rfl
    have hv:BG (KI ro (BG (AZ s.rows (AG Z) rd S A1) (AZ s.rows (AG Z) rd S A2))) 1=AZ s.rows (AG Z) rd S at_:=by rw[hval];exact gK.symm
    simp only[eE,seval,↓eP,t2,t12,t13,t16,a1,A_,a3,c2,DI,y0,d12,d13]
    refine WK.flags (ops:=jV) Ii ?_
    refine BQ.begin ?_
    refine AF hsn 0 (some 95) (.move (.tmp 1)) none ?_
    simp only[rG,seval,AB,AD,AC,hff,t1]
    refine AF hsn 1 (some 96) (.move (.tmp 12)) none ?_
    simp only[rG,seval,AB,AD,AC,hff,t12]
    refine AF hsn 2 (some 97) (.indexAddr 28 (.tmp 95) (.tmp 96)) none ?_
    simp only[rG,seval,AB,AD,AC,hff,a3']
    refine AF hsn 3 (some 98) (.load 3 (.tmp 97)) none ?_
    simp only[rG,seval,AB,AD,AC,BU,hff,g3,t3T,A_]
    refine AF hsn 4 (some 99) (.move (.tmp 15)) none ?_
    simp only[rG,seval,AB,AD,AC,hff,t15]
    refine AF hsn 5 (some 100) (.indexAddr 28 (.tmp 99) (.const (Value.int IntKind.i64 1))) none ?_
    simp only[rG,seval,AB,AD,AC,hff,a1'']
    refine AF hsn 6 (some 101) (.load 3 (.tmp 100)) none ?_
    simp only[rG,seval,AB,AD,AC,BU,hff,g1,t1T,A_]
    refine AF hsn 7 (some 102) (.move (.tmp 15)) none ?_
    simp only[rG,seval,AB,AD,AC,hff,t15]
    refine AF hsn 8 (some 103) (.indexAddr 28 (.tmp 102) (.const (Value.int IntKind.i64 2))) none ?_
    simp only[rG,seval,AB,AD,AC,hff,a2'']
    refine AF hsn 9 (some 104) (.load 3 (.tmp 103)) none ?_
    simp only[rG,seval,AB,AD,AC,BU,hff,g2,t2T,A_]
    refine AF hsn 10 (some 105) (.call { callee:=.value (.func 97),args:=#[.tmp 101,.tmp 104],argTypes:=#[3,3] }) none ?_
    simp only[rG,seval,AB,AD,AC,CF,hff,pp,DB]
    refine AF hsn 11 (some 106) (.call { callee:=.value (.func 98),args:=#[.tmp 98,.tmp 105],argTypes:=#[3,3] }) none ?_
    simp only[rG,seval,AB,AD,AC,CF,hff,pb]
    refine AF hsn 12 (some 14) (.assign (.tmp 106)) none ?_
    simp only[rG,seval,AB,AD,AC,hff]
    refine BQ.done (i:=13) (by kernel_rfl) ?_
    simp only[eE,seval,↓eP,t1,t2,t3,t4,t5,t11,t12,t13,DI,A_,w4,pl1,ip,hst2,yput,d24,w5]
    exact done _ hv
   | false=>
   have k13:y.kind≠13:=by simpa using d13
   cases d22:(y.kind==22) with
   | true=>
    have k22:y.kind=22:=by simpa using d22
    have d24:(y.kind==24)=false:=by rw[k22];rfl
    obtain⟨c0,c1'⟩:=hcall at_ y (by omega) (by omega) hy k22
    obtain⟨k,hk⟩:∃ k:Nat,y.n=(k:Int):=⟨y.n.toNat,by omega⟩
    rw[hk] at y3 c1'
    obtain⟨v,hq⟩:∃ v,S[k]?=some v:=⟨_,List.getElem?_eq_getElem (by omega)⟩
    obtain⟨i3,q3,a3',b3,g3⟩:=AN.get S2 hq
    have u1:=hS v (List.mem_of_getElem? hq)
    have pl1:=pl H2 _ u1
    have hsq:FA S y.n=v:=by unfold FA;rw[hk,Int.toNat_natCast,hq];rfl
    have hv:BG v 1=AZ s.rows (AG Z) rd S at_:=by rw[hval,hsq,k22];exact rS.symm
    simp only[eE,seval,↓eP,t1,t2,t3,t4,t5,t11,t12,t13,t16,a1,A_,a3,c2,DI,I_,y0,y3,d12,d13,d22,a3',g3,w4,pl1,ip,hst2,yput,d24,w5]
    exact done _ hv
   | false=>
   have k22:y.kind≠22:=by simpa using d22
   have pl1:=pl H2 _ hsl
   have pl1':AX n 97 [iv (HR (ks.map (AZ s.rows (AG Z) rd S))),iv 1] H2=some (iv (BG (HR (ks.map (AZ s.rows (AG Z) rd S))) 1),H2):=pl1
   cases d24:(y.kind==24) with
   | false=>
    have k24:y.kind≠24:=by simpa using d24
    have hv:BG (HR (ks.map (AZ s.rows (AG Z) rd S))) 1=AZ s.rows (AG Z) rd S at_:=by rw[hval];exact(aL k24 k12 k13 k22).symm
    simp only[eE,seval,↓eP,t1,t2,t3,t4,t5,t11,t12,t13,t14,t16,a1,A_,a3,c2,DI,y0,d12,d13,d22,w4,pl1',ip,hst2,yput,d24,w5]
    exact done _ hv
   | true=>
    have k24:y.kind=24:=by simpa using d24
    have hv:0=AZ s.rows (AG Z) rd S at_:=by rw[hval,k24];rfl
    have hst3:∀ v,BH Tryd.prog (H2.put (h.next+1) (.row (ints (OF.set (at_-row) v)) 3 false false)) 3 (.pointer (some ⟨h.next+1,at_-row,none⟩)) (iv 0)=some ((H2.put (h.next+1) (.row (ints (OF.set (at_-row) v)) 3 false false)).put (h.next+1) (.row (ints ((OF.set (at_-row) v).set (at_-row) 0)) 3 false false)):=fun v=>LV (gput v) (by rw[List.length_set];omega) (by show H2.floor≤_;omega)
    simp only[eE,seval,↓eP,t1,t2,t3,t4,t5,t11,t12,t13,t14,t16,a1,A_,a3,c2,DI,y0,d12,d13,d22,w4,pl1',ip,hst2,hst3,yput,d24,w5]
    refine⟨hlt,by omega,by show h.next+2≤H2.next;omega,by show H2.floor=_;omega,inj _ fun i hi=>?_,fin _ 0 hv ?_⟩
    ·rw[AK (by show h.next+1<H2.next;omega) (Ne.symm hi)]
     exact oput _ i hi
    ·rw[List.set_set]
     exact BI rfl (by show h.next+1<H2.next;omega)
 ·have c1:decide ((q:Int)-1-(j:Int)≥(row:Int))=false:=by simp;omega
  obtain rfl:j=q-row:=by omega
  have h0:=hOF row (by omega) (by omega)
  rw[Nat.sub_self] at h0
  have i0:=F6 (id:=h.next+1) (n:=q-row) (c:=q-row) (i:=0) (by omega)
  have i0':CO Tryd.prog 28 (qS (h.next+1) (q-row) (q-row)) (iv 0)=some (qP (h.next+1) 0):=i0
  have l0:AO 0 (H1.get (h.next+1))=some (iv (AZ s.rows (AG Z) rd S row)):=by rw[gOF];exact JO h0
  simp only[eE,seval,↓eP,t4,t11,t12,c1,i0',A_,l0]
  exact fun i hi=>(m3 i (by omega)).trans (gO i hi)
theorem mK {Z:List AE} {rd S:List Int} {ve vd vS pv:Value} {nm:ByteArray} {s:AS} {lo row q:Nat} {h:AA} (hp:DJ lo h pv nm s) (he:AN 0 h ve (AR Z)) (hd:AN 0 h vd rd) (hs:AN 0 h vS S)
  (ht:B_ Z) (hsk:G0 s.rows Z) (hkk:YB s.rows Z) (hrd:GH rd) (hrl:rd.length=s.rows.length) (hS:C1 S) (hsub:DV Z row q) (hcall:UO s.rows S row q) (hlen:s.rows.length<2932031007403) (hn:s.rows.length+40<n) (hfl:h.floor≤h.next) :
  AX n 78 [pv,vd,ve,vS,iv row] h=some (iv (AZ s.rows (AG Z) rd S row),h):=by
 obtain⟨n,rfl⟩:∃ j,n=j+1:=⟨n-1,by omega⟩
 obtain⟨vr,vq,vv,vt,vu,vo,rfl,_⟩:=id hp
 exact JN (CP ⟨rfl,rfl,rfl⟩) rfl (Rh (n:=n) (N:=n) hp he hd hs ht hsk hkk hrd hrl hS hsub hcall hlen (by omega) (by omega) hfl)
end
def OP (s:AS) (k n:Int) (nm:ByteArray):Prop:=
 0≤n∧((k=1∧∃ b,s.queues[n.toNat]?=some (nm,b))∨(k=2∧s.vars[n.toNat]?=some nm)∨(k=3∧s.tags[n.toNat]?=some nm)∨(k=4∧∃ ru:Nat,s.rules[n.toNat]?=some ((ru:Int)+1)∧∃ y:AE,s.rows[ru]?=some y∧y.name=nm))
structure QO (s s':AS):Prop where
 q:∀ (i:Nat) x,s.queues[i]?=some x→s'.queues[i]?=some x
 v:∀ (i:Nat) x,s.vars[i]?=some x→s'.vars[i]?=some x
 t:∀ (i:Nat) x,s.tags[i]?=some x→s'.tags[i]?=some x
 u:∀ (i:Nat) x,s.rules[i]?=some x→s'.rules[i]?=some x
 r:∀ (i:Nat) (y:AE),s.rows[i]?=some y→∃ y':AE,s'.rows[i]?=some y'∧y'.name=y.name
theorem OP.up {s s':AS} {k n:Int} {nm:ByteArray} (h:OP s k n nm) (hu:QO s s'):OP s' k n nm:=by
 refine⟨h.1,?_⟩
 rcases h.2 with⟨h1,b,h2⟩ | ⟨h1,h2⟩ | ⟨h1,h2⟩ | ⟨h1,ru,h2,y,h3,h4⟩
 ·exact .inl ⟨h1,b,hu.q _ _ h2⟩
 ·exact .inr (.inl ⟨h1,hu.v _ _ h2⟩)
 ·exact .inr (.inr (.inl ⟨h1,hu.t _ _ h2⟩))
 ·obtain⟨y',h5,h6⟩:=hu.r _ _ h3
  exact .inr (.inr (.inr ⟨h1,ru,hu.u _ _ h2,y',h5,h6.trans h4⟩))
theorem VV {α:Type} {l:List α} {i:Nat} {x y:α} (h:l[i]?=some x):(l++[y])[i]?=some x:=by rw[List.getElem?_append_left (List.getElem?_eq_some_iff.1 h).1];exact h
theorem jH {l:List AE} {k i:Nat} {n:Int} {y:AE} (h:l[i]?=some y):∃ y':AE,(E0 l k n)[i]?=some y'∧y'.name=y.name:=by
 by_cases hi:i=k
 ·subst hi
  exact⟨_,I8 h,rfl⟩
 ·exact⟨y,(JH hi).trans h,rfl⟩
theorem Ky {k:Int} (h:DL k≠0):BM k=0:=by
 unfold BM
 unfold DL at h
 split
 ·rename_i h1
  simp only[List.contains_cons,List.contains_nil,Bool.or_false,Bool.or_eq_true,beq_iff_eq] at h1
  rcases h1 with rfl | rfl <;> exact absurd rfl h
 split
 ·subst k;exact absurd rfl h
 split
 ·subst k;exact absurd rfl h
 split
 ·subst k;exact absurd rfl h
 rfl
def LC (k:Int):Int:=DL k+BM k
theorem Mo {k:Int} (h:LC k=0):DL k=0∧BM k=0:=by
 have:=kQ k
 have:=QY k
 unfold LC at h
 omega
structure LM (l:List AE) (at_:Nat) (s:AS):Prop where
 rows:∀ (i:Nat) (x:AE),i<at_→s.rows[i]?=some x→(LC x.kind=0→l[i]?=some x)∧(LC x.kind≠0→OP s (LC x.kind) x.n x.name)
 things:∀ t∈s.things,OP s t.kind t.num t.name
theorem LM.up {l:List AE} {at_:Nat} {s s':AS} (h:LM l at_ s) (hu:QO s s') (hr:∀ i,i<at_→s'.rows[i]?=s.rows[i]?) (ht:∀ t∈s'.things,t∈s.things∨OP s' t.kind t.num t.name):LM l at_ s' where
 rows:=fun i x hi hx=>by
  rw[hr i hi] at hx
  obtain⟨h1,h2⟩:=h.rows i x hi hx
  exact⟨h1,fun h3=>(h2 h3).up hu⟩
 things:=fun t h1=>by
  rcases ht t h1 with h2 | h2
  ·exact(h.things t h2).up hu
  ·exact h2
theorem Np {at_:Nat} {end_:Int} {x:AE} {s:AS}:QO s (EX at_ end_ x s) where
 q:=fun i y h=>by simp only[EX];split;(first | exact VV h | exact h);exact h
 v:=fun i y h=>by simp only[EX];split;(first | exact VV h | exact h);exact h
 t:=fun i y h=>by simp only[EX];split;(first | exact VV h | exact h);exact h
 u:=fun i y h=>by simp only[EX];split;(first | exact VV h | exact h);exact h
 r:=fun i y h=>jH h
theorem xH (s:AS):QO s s:=⟨fun _ _ h=>h,fun _ _ h=>h,fun _ _ h=>h,fun _ _ h=>h,fun _ y h=>⟨y,h,rfl⟩⟩
theorem W4 {α:Type} (l:List α) (y:α):(l++[y])[l.length]?=some y:=by simp
theorem wU {at_:Nat} {end_:Int} {x:AE} {s:AS} (hx:s.rows[at_]?=some x) (hd:BM x.kind≠0):OP (EX at_ end_ x s) (BM x.kind) (BD s (BM x.kind)) x.name:=by
 have hk:=QY x.kind
 refine⟨by omega,?_⟩
 rw[Int.toNat_natCast]
 have hc:BM x.kind=1∨BM x.kind=2∨BM x.kind=3∨BM x.kind=4:=by omega
 rcases hc with e | e | e | e
 ·refine .inl ⟨e,x.kind==3,?_⟩
  simp only[EX,BD,e]
  exact W4 _ _
 ·refine .inr (.inl ⟨e,?_⟩)
  simp only[EX,BD,e]
  exact W4 _ _
 ·refine .inr (.inr (.inl ⟨e,?_⟩))
  simp only[EX,BD,e]
  exact W4 _ _
 ·refine .inr (.inr (.inr ⟨e,at_,?_,_,I8 hx,rfl⟩))
  simp only[EX,BD,e]
  exact W4 _ _
theorem Gi {l:List AE} {at_:Nat} {end_:Int} {x:AE} {s:AS} (h:LM l at_ s) (hx:s.rows[at_]?=some x) :
  LM l at_ (BJ at_ end_ x s)∧∃ n,(BJ at_ end_ x s).rows[at_]?=some { x with n:=n }∧(BM x.kind=0→n=x.n)∧(BM x.kind≠0→OP (BJ at_ end_ x s) (BM x.kind) n x.name):=by
 unfold BJ
 by_cases d0:BM x.kind=0
 ·rw[if_pos d0]
  exact⟨h,x.n,hx,fun _=>rfl,fun h1=>absurd d0 h1⟩
 ·rw[if_neg d0]
  have hs:=wU (end_:=end_) hx d0
  refine⟨h.up Np (fun i hi=>JH (by omega)) fun t ht=>?_,_,I8 hx,fun h1=>absurd h1 d0,fun _=>hs⟩
  simp only[EX,List.mem_append,List.mem_cons,List.not_mem_nil,or_false] at ht
  rcases ht with h1 | rfl
  ·exact .inl h1
  ·exact .inr hs
theorem Jj {l:List AE} {at_:Nat} {x:AE} {s:AS} (h:LM l at_ s) (hx:s.rows[at_]?=some x) (hc:CN at_ x s=0) :
  LM l at_ (BP at_ x s)∧QO s (BP at_ x s)∧∃ n,(BP at_ x s).rows[at_]?=some { x with n:=n }∧(DL x.kind=0→n=x.n)∧(DL x.kind≠0→OP (BP at_ x s) (DL x.kind) n x.name):=by
 unfold BP
 unfold CN at hc
 by_cases d0:DL x.kind=0
 ·rw[if_pos d0]
  exact⟨h,xH s,x.n,hx,fun _=>rfl,fun h1=>absurd d0 h1⟩
 ·rw [if_neg d0] at hc ⊢
  cases hf:E5 s.things x.name with
  | none=>simp only[hf] at hc;cases hc
  | some t=>
   simp only[hf] at hc ⊢
   have hk:t.kind=DL x.kind:=by
    split at hc
    ·cases hc
    ·split at hc
     ·cases hc
     ·rename_i h;simpa using h
   have hnm:t.name=x.name:=by
    have:=List.find?_some hf
    exact(LK this).symm
   have hu:QO s { s with rows:=E0 s.rows at_ t.num }:=⟨fun _ _ h=>h,fun _ _ h=>h,fun _ _ h=>h,fun _ _ h=>h,fun _ y h=>jH h⟩
   have hs:=(h.things t (dN hf)).up hu
   rw[hk,hnm] at hs
   exact⟨h.up hu (fun i hi=>JH (by omega)) fun t ht=>.inl ht,hu,_,I8 hx,fun h1=>absurd h1 d0,fun _=>hs⟩
theorem Se {l:List AE} {E:List Int} {at_:Nat} {s:AS} (hat:at_<l.length) (hi:GV l at_ s) (h:LM l at_ s) (h0:(DD E at_ s).1=0):LM l (at_+1) (DD E at_ s).2:=by
 obtain⟨x,hx⟩:∃ x,s.rows[at_]?=some x:=⟨_,List.getElem?_eq_getElem (by rw[hi.len];exact hat)⟩
 have hxl:l[at_]?=some x:=by rw[← hi.later at_ (Nat.le_refl _)];exact hx
 unfold DD at h0 ⊢
 rw[hx] at h0 ⊢
 simp only at h0 ⊢
 by_cases hd:DN x s=0
 case neg=>rw[if_pos hd] at h0;exact absurd h0 hd
 rw[if_neg (by simpa using hd)] at h0 ⊢
 obtain⟨t1,k1,r1,a1,b1⟩:=Gi (end_:=(E[at_]?).getD 0) h hx
 generalize BJ at_ ((E[at_]?).getD 0) x s=s1 at *
 rw[r1] at h0 ⊢
 simp only at h0 ⊢
 by_cases hc:CN at_ { x with n:=k1 } s1=0
 case neg=>rw[if_pos hc] at h0;exact absurd h0 hc
 rw[if_neg (by simpa using hc)] at h0 ⊢
 obtain⟨t2,u2,k2,r2,a2,b2⟩:=Jj t1 r1 hc
 simp only at r2 a2 b2
 generalize BP at_ { x with n:=k1 } s1=s2 at *
 rw[r2] at h0 ⊢
 simp only at h0 ⊢
 by_cases hv:CX { x with n:=k2 } s2=0
 case neg=>rw[if_pos hv] at h0;exact absurd h0 hv
 rw[if_neg (by simpa using hv)] at h0 ⊢
 have hev:(C2 at_ { x with n:=k2 } s2).queues=s2.queues∧(C2 at_ { x with n:=k2 } s2).vars=s2.vars∧(C2 at_ { x with n:=k2 } s2).tags=s2.tags∧(C2 at_ { x with n:=k2 } s2).rules=s2.rules∧(C2 at_ { x with n:=k2 } s2).rows=s2.rows∧(C2 at_ { x with n:=k2 } s2).things=s2.things:=by
  unfold C2
  split
  ·exact⟨rfl,rfl,rfl,rfl,rfl,rfl⟩
  ·split <;> exact⟨rfl,rfl,rfl,rfl,rfl,rfl⟩
 obtain⟨e1,e2,e3,e4,e5,e6⟩:=hev
 generalize C2 at_ { x with n:=k2 } s2=s3 at *
 have hu3:QO s2 s3:=⟨fun i y h=>by rw[e1];exact h,fun i y h=>by rw[e2];exact h,fun i y h=>by rw[e3];exact h,fun i y h=>by rw[e4];exact h,fun i y h=>⟨y,by rw[e5];exact h,rfl⟩⟩
 have t3:LM l at_ s3:=t2.up hu3 (fun i _=>by rw[e5]) fun t ht=>.inl (by rw[← e6];exact ht)
 refine⟨fun i y hi' hy=>?_,t3.things⟩
 by_cases hia:i=at_
 ·subst hia
  rw[e5,r2] at hy
  cases hy
  simp only
  refine⟨fun h1=>?_,fun h1=>?_⟩
  ·obtain⟨h2,h3⟩:=Mo h1
   rw[a2 h2,a1 h3]
   exact hxl
  ·by_cases c0:DL x.kind=0
   ·have d0:BM x.kind≠0:=fun h2=>h1 (by unfold LC;omega)
    rw[show LC x.kind=BM x.kind by unfold LC;omega,a2 c0]
    exact((b1 d0).up u2).up hu3
   ·rw[show LC x.kind=DL x.kind by unfold LC;rw[Ky c0];omega]
    exact(b2 c0).up hu3
 ·exact t3.rows i y (by omega) hy
theorem nL {l:List AE} {E:List Int} (ht:B_ l) (hE:∀ i:Nat,0≤(E[i]?).getD 0):∀ r at_ s,at_+r=l.length→GV l at_ s→LM l at_ s→(CD E r at_ s).1=0→LM l l.length (CD E r at_ s).2.2
 | 0,at_,s,hr,hi,h,_=>by
  have:at_=l.length:=by omega
  subst this
  exact h
 | r+1,at_,s,hr,hi,h,h0=>by
  unfold CD at h0 ⊢
  by_cases h9:(DD E at_ s).1=0
  ·rw[if_neg (by simpa using h9)] at h0 ⊢
   exact nL ht hE r (at_+1) _ (by omega) (UW ht (hE at_) (by omega) hi h9) (Se (by omega) hi h h9) h0
  ·rw[if_pos h9] at h0
   exact absurd h0 h9
theorem kL {l:List AE} (h:(A8 l).1.1=0):LM l l.length (A8 l).2:=by
 obtain⟨ht,_,hg,_,he,_⟩:=KR h
 rw[he]
 exact nL ht VA l.length 0 (BV l) (by omega) (QU l) ⟨fun i x hi=>by omega,fun t ht=>by simp[BV] at ht⟩ hg
structure HJ where
 on:List Int
 miss:Int
def zC:HJ:=⟨[],0⟩
def EW (R:List AE) (e:Nat→Nat) (rd:List Int):List Int→List Int→List Int
 | [],S=>S
 | ru :: rest,S=>EW R e rd rest (S++[AZ R e rd S ru.toNat])
def D_ (R:List AE) (V:Nat→Int):Nat→Nat→HJ→(Int × Int) × HJ
 | 0,_,c=>((0,0),c)
 | r+1,at_,c=>match R[at_]? with
  | none=>((0,0),c)
  | some x=>if C3 x.kind=false then D_ R V r (at_+1) c
   else if V (at_+1)>72057594037927936 then ((61,(at_:Int)),zC)
   else D_ R V r (at_+1) (if x.kind=10 then ⟨c.on,V (at_+1)⟩ else ⟨c.on.set x.n.toNat (V (at_+1)),c.miss⟩)
open Classical in
noncomputable def DW (nm:ByteArray) (s:AS) (rd:List Int):(Int × Int) × HJ:=
 if F3 nm s≠0 then ((F3 nm s,0),zC)
 else if ¬ (rd.length=s.rows.length∧GH rd) then ((43,0),zC)
 else D_ s.rows (AZ s.rows (AG (AY s.rows)) rd (EW s.rows (AG (AY s.rows)) rd s.rules [])) s.rows.length 0 ⟨List.replicate s.queues.length 0,0⟩
structure Fc (Z:List AE) (s:AS):Prop where
 t:B_ Z
 sk:G0 s.rows Z
 kk:YB s.rows Z
 on:s.on.length=s.queues.length
 nq:s.queues.length≤16
 nr:s.rules.length≤64
 kindsG:∀ (i:Nat) (x:AE),s.rows[i]?=some x→1≤x.kind∧x.kind≤54
 rules:∀ (i:Nat) (ru:Int),s.rules[i]?=some ru→0≤ru∧ru.toNat<Z.length∧∀ S:List Int,S.length=i→UO s.rows S ru.toNat (AG Z ru.toNat)
 evs:∀ (i:Nat) (x:AE),s.rows[i]?=some x→C3 x.kind=true→i+1<Z.length∧(x.kind≠10→0≤x.n∧x.n<s.on.length)
 calls:∀ (S:List Int) (p q:Nat),S.length=s.rules.length→UO s.rows S p q
theorem tO (x:AE):(I9 x).kind=x.kind∧(I9 x).kids=x.kids:=by unfold I9;split <;> exact⟨rfl,rfl⟩
theorem h_ {l:List AE} {i:Nat} {z:AE} (h:(AY l)[i]?=some z):∃ x,l[i]?=some x∧z=I9 x:=by
 unfold AY at h
 rw[List.getElem?_map] at h
 cases hx:l[i]? with
 | none=>rw[hx] at h;cases h
 | some x=>rw[hx] at h;cases h;exact⟨x,rfl,rfl⟩
theorem lX {nm:ByteArray} {s:AS} (h:F3 nm s=0) (hlen:s.rows.length<2932031007403):Fc (AY s.rows) s:=by
 have hm:X9 nm s:=by
  unfold F3 at h
  split at h
  ·assumption
  ·cases h
 obtain⟨hok,hsame⟩:=hm
 rw[UB hok] at hsame
 obtain⟨_,e1,e2,e3,e4,e5,e6,e7⟩:=hsame
 simp only at e1 e2 e3 e4 e5 e6 e7
 obtain⟨ht,_,hgo,_,hres,hi⟩:=KR hok
 have hzl:(AY s.rows).length=s.rows.length:=by unfold AY;rw[List.length_map]
 have hL:O6 (AY s.rows) (AY s.rows).length (A8 (AY s.rows)).2:=by
  rw[hres]
  exact W7 ht (AY s.rows).length 0 (BV (AY s.rows)) (by omega) (QU _) (cE _) hgo
 have hR:=pB ht (by omega) hi hL
 have hT:=kL hok
 have hw:=hi.wf
 have hq:=hw.q;have hu:=hw.u;have ho:=hw.o
 have hkinds:=TX ht hi
 have hevs:=bV ht hi
 generalize (A8 (AY s.rows)).2=s' at *
 have hc0:∀ (i:Nat) (x:AE),s.rows[i]?=some x→x.kind=22→0≤x.n∧x.n<s.rules.length:=fun i x hx h22=>by
  rw[e2] at hx
  rw[e6]
  exact hi.calls i x (by rw[← hi.len];exact(List.getElem?_eq_some_iff.1 hx).1) hx h22
 refine⟨ht,⟨hzl.symm,fun i z hz=>?_⟩,fun i z hz=>?_,by rw[e7,e3];exact ho,by rw[e3];omega,by rw[e6];omega,fun i x hx=>?_,fun i ru hru=>?_,fun i x hx hev=>?_,fun S p q hS i x _ _ hx h22=>by rw[hS];exact hc0 i x hx h22⟩
 ·obtain⟨x,hx,rfl⟩:=h_ hz
  exact⟨x,hx,(tO x).2.symm⟩
 ·obtain⟨x,hx,rfl⟩:=h_ hz
  exact⟨x,hx,(tO x).1.symm⟩
 ·rw[e2] at hx
  exact hkinds x (List.mem_of_getElem? hx)
 ·rw[e6] at hru
  have hb:=hi.rl ru (List.mem_of_getElem? hru)
  refine⟨hb.1,by omega,fun S hS j x h1 h2 hx h22=>⟨(hc0 j x hx h22).1,?_⟩⟩
  rw[hS]
  refine hR.ahead i ru hru x ?_ h22
  unfold blk
  rw[KY (by omega)]
  simp only[Option.getD_some,Int.toNat_natCast]
  rw[e2] at hx
  have:((s'.rows.drop ru.toNat).take (AG (AY s.rows) ru.toNat-ru.toNat))[j-ru.toNat]?=some x:=by
   rw[List.getElem?_take_of_lt (by omega),List.getElem?_drop,show ru.toNat+(j-ru.toNat)=j by omega]
   exact hx
  exact List.mem_of_getElem? this
 ·rw[e2] at hx
  have h1:=hevs i x hx hev
  refine⟨by rw[← hi.len];exact h1,fun h10=>?_⟩
  have hk:DL x.kind=1∧BM x.kind=0:=aG hev h10
  have hs:LC x.kind=1:=by unfold LC;omega
  have:=(hT.rows i x (by rw[← hi.len];omega) hx).2 (by rw[hs];decide)
  rw[hs] at this
  obtain⟨h0,h2⟩:=this
  rcases h2 with⟨_,b,h2⟩ | ⟨h3,_⟩ | ⟨h3,_⟩ | ⟨h3,_⟩
  ·have:=(List.getElem?_eq_some_iff.1 h2).1
   rw[e7]
   omega
  ·omega
  ·omega
  ·omega
theorem UD {R:List AE} {e:Nat→Nat} {rd:List Int}:∀ (l S:List Int),(EW R e rd l S).length=S.length+l.length
 | [],S=>rfl
 | ru :: l,S=>by
  show (EW R e rd l (S++[_])).length=_
  rw[UD l,List.length_append,List.length_cons]
  simp only[List.length_cons,List.length_nil]
  omega
theorem SP {R:List AE} {e:Nat→Nat} {rd:List Int} (hr:GH rd):∀ (l S:List Int),C1 S→C1 (EW R e rd l S)
 | [],S,hs=>hs
 | ru :: l,S,hs=>SP hr l _ fun x hx=>by
  simp only[List.mem_append,List.mem_cons,List.not_mem_nil,or_false] at hx
  rcases hx with hx | rfl
  ·exact hs x hx
  ·exact SK hr hs _
theorem aB {R:List AE} {e:Nat→Nat} {rd:List Int}:∀ (i:Nat) (l S:List Int) {ru:Int},l[i]?=some ru→EW R e rd (l.take (i+1)) S=EW R e rd (l.take i) S++[AZ R e rd (EW R e rd (l.take i) S) ru.toNat]
 | _,[],S,ru,h=>by simp at h
 | 0,r0 :: l,S,ru,h=>by cases h;rfl
 | i+1,r0 :: l,S,ru,h=>aB i l _ h
theorem bC {R:List AE} {V:Nat→Int}:∀ (r at_:Nat) (c:HJ),(D_ R V r at_ c).2.on.length=c.on.length∨(D_ R V r at_ c).2.on=[]
 | 0,_,c=>.inl rfl
 | r + 1,at_,c=>by
  unfold D_
  split
  ·exact .inl rfl
  ·rename_i x hx
   split
   ·exact bC r (at_+1) c
   ·split
    ·exact .inr rfl
    ·have:=bC (R:=R) (V:=V) r (at_+1) (if x.kind=10 then ⟨c.on,V (at_+1)⟩ else ⟨c.on.set x.n.toNat (V (at_+1)),c.miss⟩)
     have e:(if x.kind=10 then (⟨c.on,V (at_+1)⟩:HJ) else ⟨c.on.set x.n.toNat (V (at_+1)),c.miss⟩).on.length=c.on.length:=by split <;> simp
     rw[e] at this
     exact this
end Go.Proofs.YtipekdhneagdbaaDoor
