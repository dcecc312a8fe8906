/- Part 13 of what the claim leans on: 24 texts laid one behind another. -/
import Derived.Test.YtdejoodfeljmkaaGreatDoorTK12
import Derived.OpenShut
import Derived.WalkKit
import Derived.Carry
import Derived.ChangeArms
namespace Go.Proofs.YtdejoodfeljmkaaGreatDoor
open Go Go.Sx Go.ChangeShapes Go.WideShapes Go.ChangeAt Go.RowKit
set_option maxRecDepth 100000
set_option linter.unusedSimpArgs false
set_option linter.unusedVariables false
set_option maxHeartbeats 64000000
theorem XA:Tryz.prog.cellsOf 60=5:=by kernel_rfl
theorem N8:Tryz.prog.cellsOf 3=1:=by kernel_rfl
theorem V8:Tryz.prog.cellsOf 9=1:=by kernel_rfl
def R4 (x:AB):Prop:=(-9223372036854775808≤x.kind∧x.kind≤9223372036854775807)∧(-9223372036854775808≤x.ends∧x.ends≤9223372036854775807)∧(-9223372036854775808≤x.n∧x.n≤9223372036854775807)∧(-9223372036854775808≤x.kids∧x.kids≤9223372036854775807)
section
variable {H:Type} {enc:TypeId × Value→H} {W:World} {base:Nat} {sp:Nat→Bool} {hd:Bool}
theorem iA {n:Nat} {cs:List Value} {y:DataW H × List MemPlace} (h:DataW.trod enc Tryz.prog W base sp hd n 60 cs=some y):∃ x:AB,cs=AV x∧R4 x:=by
 obtain⟨xs,m,_,_,hl,hxl,hf⟩:=DataW.trod_struct Tryz.underlying60 h
 rw[XA] at hl
 obtain⟨c0,c1,c2,c3,c4,rfl⟩:∃ c0 c1 c2 c3 c4,cs=[c0,c1,c2,c3,c4]:=by
  match cs,hl with
  | [a,b,c,d,e],_=>exact⟨a,b,c,d,e,rfl⟩
 have hxl:xs.length=5:=hxl
 have g:∀ i,i<5→∃ y,xs[i]?=some y:=fun i hi=>⟨_,List.getElem?_eq_getElem (by omega)⟩
 obtain⟨y0,e0⟩:=g 0 (by omega)
 obtain⟨y1,e1⟩:=g 1 (by omega)
 obtain⟨y2,e2⟩:=g 2 (by omega)
 obtain⟨y3,e3⟩:=g 3 (by omega)
 obtain⟨y4,e4⟩:=g 4 (by omega)
 have f0:DataW.trod enc Tryz.prog W base sp hd m 3 (([c0,c1,c2,c3,c4].drop 0).take (Tryz.prog.cellsOf 3))=xs[0]?:=hf 0 _ rfl
 rw[N8,e0] at f0
 have f1:DataW.trod enc Tryz.prog W base sp hd m 9 (([c0,c1,c2,c3,c4].drop 1).take (Tryz.prog.cellsOf 9))=xs[1]?:=hf 1 _ rfl
 rw[V8,e1] at f1
 have f2:DataW.trod enc Tryz.prog W base sp hd m 3 (([c0,c1,c2,c3,c4].drop 2).take (Tryz.prog.cellsOf 3))=xs[2]?:=hf 2 _ rfl
 rw[N8,e2] at f2
 have f3:DataW.trod enc Tryz.prog W base sp hd m 3 (([c0,c1,c2,c3,c4].drop 3).take (Tryz.prog.cellsOf 3))=xs[3]?:=hf 3 _ rfl
 rw[N8,e3] at f3
 have f4:DataW.trod enc Tryz.prog W base sp hd m 3 (([c0,c1,c2,c3,c4].drop 4).take (Tryz.prog.cellsOf 3))=xs[4]?:=hf 4 _ rfl
 rw[N8,e4] at f4
 obtain⟨a,ha,_,wa⟩:=DataW.trod_int Tryz.underlying3 f0
 obtain⟨b,hb,_,wb⟩:=DataW.trod_string Tryz.underlying9 f1
 obtain⟨c,hc,_,wc⟩:=DataW.trod_int Tryz.underlying3 f2
 obtain⟨d,hd,_,wd⟩:=DataW.trod_int Tryz.underlying3 f3
 obtain⟨e,he,_,we⟩:=DataW.trod_int Tryz.underlying3 f4
 cases ha
 cases hb
 cases hc
 cases hd
 cases he
 exact⟨⟨a,b,c,d,e⟩,rfl,bounds_i64 wa,bounds_i64 wc,bounds_i64 wd,bounds_i64 we⟩
end
theorem bV {b off k:Nat}:(⟨b,off,none⟩:Addr).add k=⟨b,off+k,none⟩:=by
 unfold Addr.add
 split
 ·rename_i e;subst e;rfl
 ·rfl
theorem k8 {W:World} {base b off n:Nat} {cs:List Value} (h:W.cells? base ⟨b,off,none⟩ n=some cs):cs.length=n∧∀ i,i<n→W.cell? ⟨b,off+i,none⟩=cs[i]?:=by
 unfold World.cells? at h
 split at h
 ·refine⟨by simpa using mapM_some_length h,fun i hi=>?_⟩
  have:=mapM_some_get h i i (by simp[hi])
  rw[← this,bV]
 ·cases h
theorem ZH {x:AB} {j:Nat} {v:Value} (h:(AV x)[j]?=some v):BS v=true:=by
 match j,h with
 | 0,h=>cases h;rfl
 | 1,h=>cases h;rfl
 | 2,h=>cases h;rfl
 | 3,h=>cases h;rfl
 | 4,h=>cases h;rfl
end Go.Proofs.YtdejoodfeljmkaaGreatDoor
namespace Go.Proofs.YtdejoodfeljmkaaGreatDoor
open Go Go.Sx
set_option maxRecDepth 100000
set_option linter.unusedSimpArgs false
set_option linter.unusedVariables false
set_option maxHeartbeats 64000000
def MF (a b:AB):Bool:=a.kind==b.kind&&(a.name==b.name&&(a.ends==b.ends&&(a.n==b.n&&a.kids==b.kids)))
theorem QV {P:Program} {t:TypeId} {a b:ByteArray} (h:P.underlying t=some .string) (d:Nat):BH P (Op.equalIn (d+1) t (.string a) (.string b))=some (a==b):=by
 rw[Op.equalIn,DO,OC h]
 simp[JE]
theorem sJ {P:Program} {t:TypeId} {a b:Bool} (h:P.underlying t=some .bool) (d:Nat):BH P (Op.equalIn (d+1) t (.bool a) (.bool b))=some (a==b):=by
 rw[Op.equalIn,DO,OC h]
 simp[JE]
theorem Oa:Tryz.prog.stoodInHeld 60=false:=by kernel_rfl
theorem Bd:Tryz.prog.stoodInHeld 75=false:=by kernel_rfl
theorem U7 {a c d e:Int} {b:ByteArray}:BH Tryz.prog (part 3 #[.int .i64 a,.string b,.int .i64 c,.int .i64 d,.int .i64 e] 0)=some (.int .i64 a)∧BH Tryz.prog (part 9 #[.int .i64 a,.string b,.int .i64 c,.int .i64 d,.int .i64 e] 1)=some (.string b)∧BH Tryz.prog (part 3 #[.int .i64 a,.string b,.int .i64 c,.int .i64 d,.int .i64 e] 2)=some (.int .i64 c) ∧
  BH Tryz.prog (part 3 #[.int .i64 a,.string b,.int .i64 c,.int .i64 d,.int .i64 e] 3)=some (.int .i64 d)∧BH Tryz.prog (part 3 #[.int .i64 a,.string b,.int .i64 c,.int .i64 d,.int .i64 e] 4)=some (.int .i64 e):=⟨rfl,rfl,rfl,rfl,rfl⟩
theorem rX {a:ByteArray} {b:Bool}:BH Tryz.prog (part 9 #[.string a,.bool b] 0)=some (.string a)∧BH Tryz.prog (part 4 #[.string a,.bool b] 1)=some (.bool b):=⟨rfl,rfl⟩
theorem Ic {a b:AB} (n:Nat):BH Tryz.prog (Op.equalIn (n+2) 60 (CE a) (CE b))=some (MF a b):=by
 obtain⟨a1,a2,a3,a4,a5⟩:=a
 obtain⟨b1,b2,b3,b4,b5⟩:=b
 show BH Tryz.prog (Op.equalIn (n+2) 60 (.agg #[.int .i64 a1,.string a2,.int .i64 a3,.int .i64 a4,.int .i64 a5]) (.agg #[.int .i64 b1,.string b2,.int .i64 b3,.int .i64 b4,.int .i64 b5]))=some (a1==b1&&(a2==b2&&(a3==b3&&(a4==b4&&a5==b5))))
 rw[Op.equalIn,DO,OC Tryz.underlying60]
 simp only[Option.bind_some,DO,M7,Oa,Bool.false_eq_true,if_false]
 simp only[List.forIn_toArray,List.forIn_cons,List.forIn_nil,ne_eq,String.reduceEq,not_false_eq_true,if_true,DO,U7.1,Option.bind_some,M_ Tryz.underlying3,QV Tryz.underlying9]
 cases h1:(a1==b1) <;> simp[DO,JE,U7.2.1,M_ Tryz.underlying3,QV Tryz.underlying9,-beq_iff_eq,-beq_eq_false_iff_ne]
 cases h2:(a2==b2) <;> simp[DO,JE,U7.2.2.1,M_ Tryz.underlying3,QV Tryz.underlying9,-beq_iff_eq,-beq_eq_false_iff_ne]
 cases h3:(a3==b3) <;> simp[DO,JE,U7.2.2.2.1,M_ Tryz.underlying3,QV Tryz.underlying9,-beq_iff_eq,-beq_eq_false_iff_ne]
 cases h4:(a4==b4) <;> simp[DO,JE,U7.2.2.2.2,M_ Tryz.underlying3,QV Tryz.underlying9,-beq_iff_eq,-beq_eq_false_iff_ne]
 cases h5:(a5==b5) <;> simp[JE,-beq_iff_eq,-beq_eq_false_iff_ne]
theorem Sb {a c:ByteArray} {b d:Bool} (n:Nat):BH Tryz.prog (Op.equalIn (n+2) 75 (.agg #[.string a,.bool b]) (.agg #[.string c,.bool d]))=some (a==c&&b==d):=by
 rw[Op.equalIn,DO,OC Tryz.underlying75]
 simp only[Option.bind_some,DO,M7,Bd,Bool.false_eq_true,if_false]
 simp only[List.forIn_toArray,List.forIn_cons,List.forIn_nil,ne_eq,String.reduceEq,not_false_eq_true,if_true,DO,rX.1,Option.bind_some,QV Tryz.underlying9,sJ Tryz.underlying4]
 cases h1:(a==c) <;> simp[DO,JE,rX.2,QV Tryz.underlying9,sJ Tryz.underlying4,-beq_iff_eq,-beq_eq_false_iff_ne]
 cases h2:(b==d) <;> simp[JE,-beq_iff_eq,-beq_eq_false_iff_ne]
theorem sR {a:AB}:flat (CE a)=true:=rfl
theorem mX {a:ByteArray} {b:Bool}:flat (.agg #[.string a,.bool b])=true:=rfl
section
variable {x y:Operand}
theorem nT (op:BinOp) (neg:Bool) (hop:op=if neg then .neq else .eql) {a b:AB}:CP Tryz.prog op 60 x y (CE a) (CE b)=some (.bool (if neg then !(MF a b) else MF a b)):=by
 have k:BH Tryz.prog (Op.equal 60 (CE a) (CE b))=some (MF a b):=Ic 9998
 cases neg with
 | true=>
  subst hop
  have e:BH Tryz.prog (do eqGuard .neq 60 x y (CE a) (CE b);binOp .neq 60 (CE a) (CE b))=some (.bool (!(MF a b))):=by
   rw[DO]
   have g:BH Tryz.prog (eqGuard .neq 60 x y (CE a) (CE b))=some ():=by
    unfold eqGuard
    simp[DO,M7,JE]
   rw[g]
   show BH Tryz.prog ((do pure (.bool (!(← Op.equal 60 (CE a) (CE b))))):Sem Value)=_
   rw[DO,k]
   rfl
  simp only[CP,sR,Bool.and_self,if_true,e,MT]
 | false=>
  subst hop
  have e:BH Tryz.prog (do eqGuard .eql 60 x y (CE a) (CE b);binOp .eql 60 (CE a) (CE b))=some (.bool (MF a b)):=by
   rw[DO]
   have g:BH Tryz.prog (eqGuard .eql 60 x y (CE a) (CE b))=some ():=by
    unfold eqGuard
    simp[DO,M7,JE]
   rw[g]
   show BH Tryz.prog ((do pure (.bool (← Op.equal 60 (CE a) (CE b)))):Sem Value)=_
   rw[DO,k]
   rfl
  simp only[Bool.false_eq_true,if_false,CP,sR,Bool.and_self,if_true,e,MT]
theorem Rp {a b:AB}:CP Tryz.prog .eql 60 x y (CE a) (CE b)=some (.bool (MF a b)):=nT .eql false rfl
theorem bC {a b:AB}:CP Tryz.prog .neq 60 x y (CE a) (CE b)=some (.bool (!(MF a b))):=nT .neq true rfl
theorem wT (op:BinOp) (neg:Bool) (hop:op=if neg then .neq else .eql) {a c:ByteArray} {b d:Bool}:CP Tryz.prog op 75 x y (.agg #[.string a,.bool b]) (.agg #[.string c,.bool d])=some (.bool (if neg then !(a==c&&b==d) else (a==c&&b==d))):=by
 have k:BH Tryz.prog (Op.equal 75 (.agg #[.string a,.bool b]) (.agg #[.string c,.bool d]))=some (a==c&&b==d):=Sb 9998
 cases neg with
 | true=>
  subst hop
  have e:BH Tryz.prog (do eqGuard .neq 75 x y (.agg #[.string a,.bool b]) (.agg #[.string c,.bool d]);binOp .neq 75 (.agg #[.string a,.bool b]) (.agg #[.string c,.bool d]))=some (.bool (!(a==c&&b==d))):=by
   rw[DO]
   have g:BH Tryz.prog (eqGuard .neq 75 x y (.agg #[.string a,.bool b]) (.agg #[.string c,.bool d]))=some ():=by
    unfold eqGuard
    simp[DO,M7,JE]
   rw[g]
   show BH Tryz.prog ((do pure (.bool (!(← Op.equal 75 (.agg #[.string a,.bool b]) (.agg #[.string c,.bool d]))))):Sem Value)=_
   rw[DO,k]
   rfl
  simp only[CP,mX,Bool.and_self,if_true,e,MT]
 | false=>
  subst hop
  have e:BH Tryz.prog (do eqGuard .eql 75 x y (.agg #[.string a,.bool b]) (.agg #[.string c,.bool d]);binOp .eql 75 (.agg #[.string a,.bool b]) (.agg #[.string c,.bool d]))=some (.bool (a==c&&b==d)):=by
   rw[DO]
   have g:BH Tryz.prog (eqGuard .eql 75 x y (.agg #[.string a,.bool b]) (.agg #[.string c,.bool d]))=some ():=by
    unfold eqGuard
    simp[DO,M7,JE]
   rw[g]
   show BH Tryz.prog ((do pure (.bool (← Op.equal 75 (.agg #[.string a,.bool b]) (.agg #[.string c,.bool d])))):Sem Value)=_
   rw[DO,k]
   rfl
  simp only[Bool.false_eq_true,if_false,CP,mX,Bool.and_self,if_true,e,MT]
theorem Nu {a c:ByteArray} {b d:Bool}:CP Tryz.prog .eql 75 x y (.agg #[.string a,.bool b]) (.agg #[.string c,.bool d])=some (.bool (a==c&&b==d)):=wT .eql false rfl
theorem eH {a c:ByteArray} {b d:Bool}:CP Tryz.prog .neq 75 x y (.agg #[.string a,.bool b]) (.agg #[.string c,.bool d])=some (.bool (!(a==c&&b==d))):=wT .neq true rfl
end
theorem Fj {a b:ByteArray}:(a==b)=true↔a=b:=by
 obtain⟨a⟩:=a
 obtain⟨b⟩:=b
 show (a==b)=true↔_
 rw[beq_iff_eq,ByteArray.mk.injEq]
theorem P_ {a b:AB}:MF a b=true↔a=b:=by
 obtain⟨a1,a2,a3,a4,a5⟩:=a
 obtain⟨b1,b2,b3,b4,b5⟩:=b
 unfold MF
 simp only[Bool.and_eq_true,beq_iff_eq,Fj,AB.mk.injEq]
theorem LL {lo:Nat} {h:AA} {v:Value} {n w:Nat} {cs:List Value} (hc:AN lo h v n w cs) (h':AA):CY Tryz.prog h' 25 v=some (iv (n:Int)):=AN.len hc Tryz.underlying25
theorem OA {lo:Nat} {h:AA} {v:Value} {n w:Nat} {cs:List Value} (hc:AN lo h v n w cs) (h':AA):CY Tryz.prog h' 24 v=some (iv (n:Int)):=AN.len hc Tryz.underlying24
theorem OF {lo:Nat} {h:AA} {v:Value} {n w:Nat} {cs:List Value} (hc:AN lo h v n w cs) (h':AA):CY Tryz.prog h' 23 v=some (iv (n:Int)):=AN.len hc Tryz.underlying23
theorem NO {lo:Nat} {h:AA} {v:Value} {n w:Nat} {cs:List Value} (hc:AN lo h v n w cs) (h':AA):CY Tryz.prog h' 22 v=some (iv (n:Int)):=AN.len hc Tryz.underlying22
theorem SH {l:List ByteArray} {i:Nat} {x:ByteArray} (hx:l[i]?=some x) {lo:Nat} {h:AA} {v:Value} (hc:AN lo h v l.length 1 (CJ l)):∃ id p,CB Tryz.prog 24 v (iv (i:Int))=some (qP id p)∧id<h.next∧AH p (h.get id)=some (.string x):=by
 obtain⟨id,p,h1,h2,h3⟩:=AN.idx hc Tryz.underlying24 KH (List.getElem?_eq_some_iff.1 hx).1
 refine⟨id,p,h1,h2,?_⟩
 have:=h3 0 (by decide)
 rw[Nat.add_zero] at this
 rw[this,Nat.mul_one,Nat.add_zero,CJ,List.getElem?_map,hx]
 rfl
theorem gM:∀ {l:List (ByteArray × Bool)} {i:Nat} {x:ByteArray × Bool},l[i]?=some x→((DE l).drop (i*2)).take 2=[.string x.1,.bool x.2]
 | [],i,x,h=>by simp at h
 | q :: l,0,x,h=>by
  simp only[List.getElem?_cons_zero,Option.some.injEq] at h
  subst h
  rfl
 | q :: l,i+1,x,h=>by
  have:=gM (l:=l) (i:=i) (x:=x) (by simpa using h)
  rw[← this,show (i+1)*2=i*2+2 by omega]
  rfl
theorem UJ {l:List (ByteArray × Bool)} {i:Nat} {x:ByteArray × Bool} (hx:l[i]?=some x) {lo:Nat} {h:AA} {v:Value} (hc:AN lo h v l.length 2 (DE l)):∃ id p,CB Tryz.prog 23 v (iv (i:Int))=some (qP id p)∧id<h.next∧A_ 2 p (h.get id)=some (.agg #[.string x.1,.bool x.2]):=by
 obtain⟨id,p,h1,h2,h3⟩:=AN.whole hc Tryz.underlying23 OS (List.getElem?_eq_some_iff.1 hx).1
 rw[gM hx] at h3
 exact⟨id,p,h1,h2,h3⟩
theorem MY {α:Type} {A B:List α} (hl:A.length=B.length) (h:∀ j,j<A.length→A[j]?=B[j]?):A=B:=by
 apply List.ext_getElem?
 intro j
 rcases Nat.lt_or_ge j A.length with h1 | h1
 ·exact h j h1
 ·rw[List.getElem?_eq_none h1,List.getElem?_eq_none (by omega)]
theorem Sa:FW Tryz.prog 75=some true:=by kernel_rfl
theorem Y5 {h:AA} {id off:Nat}:EW Tryz.prog h 75 (qP id off)=A_ 2 off (h.get id):=ND Sa OS
def iW:List (Bool × Bool × List Operand):=[A7,A7,A7,A7,AI [.tmp 19],AI [.tmp 19],AI [.tmp 19],AI [.tmp 19],AP]
section
variable {call:AS} {N:Nat} {h:AA}
theorem Mi (hsn:CK call) {va vb:Value} {A B:List Int} {la lb:Nat} (ha:AW la h va A) (hb:AW lb h vb B) (hN:A.length+3<N) (hl:A.length<1099511627776):AY Tryz.prog call N 90 [va,vb] h=some (.bool (decide (A=B)),h):=by
 refine CO Tryz.func90 rfl (by simp[Tryz.f90]) ?_
 have hr:Tryz.f90.results.toList=[.tmp 4]:=rfl
 have lA:=fun h'=>LL ha h'
 have lB:=fun h'=>LL hb h'
 cases d:((A.length:Int) != (B.length:Int)) with
 | true=>
  have hne:A≠B:=fun e=>by subst e;simp at d
  rw[decide_eq_false hne]
  simp only[eE,↓reduceIte,Nat.reduceEqDiff,reduceCtorEq,↓eP,hr,lA,lB,d]
 | false=>
  have hlen:A.length=B.length:=by
   have h9:(A.length:Int)=(B.length:Int):=by simpa using d
   omega
  simp only[eE,↓reduceIte,Nat.reduceEqDiff,reduceCtorEq,↓eP,lA,lB,d]
  refine WK.loop (fun i s'=>s'.T.get 0=va∧s'.T.get 1=vb∧s'.T.get 5=iv i∧s'.h=h∧i≤A.length∧∀ j,j<i→A[j]?=B[j]?) A.length (by omega) ?_ ?_
  ·simp only[eE,↓reduceIte,Nat.reduceEqDiff,reduceCtorEq,↓eP,rP,Nat.reduceAdd,Nat.reduceLT]
   exact⟨rfl,fun j hj=>by omega⟩
  ·rintro i ⟨T1,H1⟩ hi ⟨t0,t1,t5,hh,hil,hsame⟩
   simp only at t0 t1 t5 hh
   subst hh
   by_cases hlt:i<A.length
   ·have c1:decide ((i:Int)<(A.length:Int))=true:=by simp;omega
    obtain⟨x,hx⟩:∃ x,A[i]?=some x:=⟨_,List.getElem?_eq_getElem hlt⟩
    obtain⟨y,hy⟩:∃ y,B[i]?=some y:=⟨_,List.getElem?_eq_getElem (by omega)⟩
    obtain⟨ida,pa,ea,_,xa⟩:=AW.get ha hx
    obtain⟨idb,pb,eb,_,xb⟩:=AW.get hb hy
    have w1:=DF i (by omega)
    simp only[eE,seval,↓eP,t0,t1,t5,lA,c1]
    refine WK.flags (fs:=iW) (by kernel_rfl) ?_
    unfold iW
    iterate 9
     refine DI hsn ?_
     simp only[rG,seval,AD,AF,AE,CT,DC,CM,C4,DJ,t0,t1,t5,ea,eb,AL,xa,xb,RO]
    refine DH ?_
    cases e:(x != y) with
    | true=>
     have hne:A≠B:=fun h9=>by
      subst h9
      rw[hx] at hy
      cases hy
      simp at e
     rw[decide_eq_false hne]
     simp only[eE,seval,↓eP,hr,e]
    | false=>
     have hxy:x=y:=by simpa using e
     simp only[eE,seval,↓eP,t0,t1,t5,e,w1]
     refine⟨by omega,by omega,fun j hj=>?_⟩
     rcases Nat.lt_or_ge j i with h1 | h1
     ·exact hsame j h1
     ·have:j=i:=by omega
      subst this
      rw[hx,hy,hxy]
   ·have c1:decide ((i:Int)<(A.length:Int))=false:=by simp;omega
    have:i=A.length:=by omega
    subst this
    have hAB:A=B:=MY hlen hsame
    rw[decide_eq_true hAB]
    simp only[eE,seval,↓eP,hr,t0,t1,t5,lA,c1]
end
def cM:List (Bool × Bool × List Operand):=[A7,A7,A7,A7,AI [.tmp 19],AI [.tmp 19],AI [.tmp 19],AI [.tmp 19],AP]
section
variable {call:AS} {N:Nat} {h:AA}
theorem Dd (hsn:CK call) {va vb:Value} {A B:List ByteArray} {la lb:Nat} (ha:AN la h va A.length 1 (CJ A)) (hb:AN lb h vb B.length 1 (CJ B)) (hN:A.length+3<N) (hl:A.length<1099511627776):AY Tryz.prog call N 89 [va,vb] h=some (.bool (decide (A=B)),h):=by
 refine CO Tryz.func89 rfl (by simp[Tryz.f89]) ?_
 have hr:Tryz.f89.results.toList=[.tmp 4]:=rfl
 have lA:=fun h'=>OA ha h'
 have lB:=fun h'=>OA hb h'
 cases d:((A.length:Int) != (B.length:Int)) with
 | true=>
  have hne:A≠B:=fun e=>by subst e;simp at d
  rw[decide_eq_false hne]
  simp only[eE,↓reduceIte,Nat.reduceEqDiff,reduceCtorEq,↓eP,hr,lA,lB,d]
 | false=>
  have hlen:A.length=B.length:=by
   have h9:(A.length:Int)=(B.length:Int):=by simpa using d
   omega
  simp only[eE,↓reduceIte,Nat.reduceEqDiff,reduceCtorEq,↓eP,lA,lB,d]
  refine WK.loop (fun i s'=>s'.T.get 0=va∧s'.T.get 1=vb∧s'.T.get 5=iv i∧s'.h=h∧i≤A.length∧∀ j,j<i→A[j]?=B[j]?) A.length (by omega) ?_ ?_
  ·simp only[eE,↓reduceIte,Nat.reduceEqDiff,reduceCtorEq,↓eP,rP,Nat.reduceAdd,Nat.reduceLT]
   exact⟨rfl,fun j hj=>by omega⟩
  ·rintro i ⟨T1,H1⟩ hi ⟨t0,t1,t5,hh,hil,hsame⟩
   simp only at t0 t1 t5 hh
   subst hh
   by_cases hlt:i<A.length
   ·have c1:decide ((i:Int)<(A.length:Int))=true:=by simp;omega
    obtain⟨x,hx⟩:∃ x,A[i]?=some x:=⟨_,List.getElem?_eq_getElem hlt⟩
    obtain⟨y,hy⟩:∃ y,B[i]?=some y:=⟨_,List.getElem?_eq_getElem (by omega)⟩
    obtain⟨ida,pa,ea,_,xa⟩:=SH hx ha
    obtain⟨idb,pb,eb,_,xb⟩:=SH hy hb
    have w1:=DF i (by omega)
    simp only[eE,seval,↓eP,t0,t1,t5,lA,c1]
    refine WK.flags (fs:=cM) (by kernel_rfl) ?_
    unfold cM
    iterate 9
     refine DI hsn ?_
     simp only[rG,seval,AD,AF,AE,CT,DC,CM,C4,DJ,t0,t1,t5,ea,eb,FU,xa,xb,JF]
    refine DH ?_
    cases e:(!(x==y)) with
    | true=>
     have hne:A≠B:=fun h9=>by
      subst h9
      rw[hx] at hy
      cases hy
      rw[LK] at e;cases e
     rw[decide_eq_false hne]
     simp only[eE,seval,↓eP,hr,e]
    | false=>
     have hxy:x=y:=LQ (by simpa using e)
     simp only[eE,seval,↓eP,t0,t1,t5,e,w1]
     refine⟨by omega,by omega,fun j hj=>?_⟩
     rcases Nat.lt_or_ge j i with h1 | h1
     ·exact hsame j h1
     ·have:j=i:=by omega
      subst this
      rw[hx,hy,hxy]
   ·have c1:decide ((i:Int)<(A.length:Int))=false:=by simp;omega
    have:i=A.length:=by omega
    subst this
    have hAB:A=B:=MY hlen hsame
    rw[decide_eq_true hAB]
    simp only[eE,seval,↓eP,hr,t0,t1,t5,lA,c1]
end
theorem n_ {n:Nat} {h:AA} {va vb:Value} {A B:List Int} {la lb:Nat} (ha:AW la h va A) (hb:AW lb h vb B) (hl:A.length<1000000000) (hn:A.length+5<n):AK n 90 [va,vb] h=some (.bool (decide (A=B)),h):=by
 obtain⟨n,rfl⟩:=B8 hn
 exact D4 (BD ⟨rfl,rfl,rfl⟩) rfl (Mi (EJ n).2 ha hb (by omega) (by omega))
theorem pS {n:Nat} {h:AA} {va vb:Value} {A B:List ByteArray} {la lb:Nat} (ha:AN la h va A.length 1 (CJ A)) (hb:AN lb h vb B.length 1 (CJ B)) (hl:A.length<1000000000) (hn:A.length+5<n):AK n 89 [va,vb] h=some (.bool (decide (A=B)),h):=by
 obtain⟨n,rfl⟩:=B8 hn
 exact D4 (BD ⟨rfl,rfl,rfl⟩) rfl (Dd (EJ n).2 ha hb (by omega) (by omega))
def jL:List (Bool × Bool × List Operand):=[A7,A7,AI [.tmp 44],A7,A7,AI [.tmp 44,.tmp 47],AI [.tmp 44,.tmp 47],AI [.tmp 44,.tmp 47,.tmp 49],AI [.tmp 44,.tmp 47],AI [.tmp 44,.tmp 47],AP]
def bY:List (Bool × Bool × List Operand):=[A7,A7,AI [.tmp 62],A7,A7,AI [.tmp 62,.tmp 65],AI [.tmp 62,.tmp 65],AI [.tmp 62,.tmp 65,.tmp 67],AI [.tmp 62,.tmp 65],AI [.tmp 62,.tmp 65],AP]
def OK (nm nm':ByteArray) (s s':AM):Prop:=nm=nm'∧s.miss=s'.miss∧s.rows=s'.rows∧s.queues=s'.queues∧s.vars=s'.vars∧s.tags=s'.tags∧s.rules=s'.rules∧s.on=s'.on
noncomputable def S3:Code:=rt (rt (Tryz.f63.body.getD .skip))
noncomputable def S8:Code:=rt S3
noncomputable def Ab:Code:=rt S8
theorem U_ {a b c d e f g i:Value} {ty:TypeId} {x y:Bool}:AH 0 (.row [a,b,c,d,e,f,g,i] ty x y)=some a∧AH 1 (.row [a,b,c,d,e,f,g,i] ty x y)=some b∧AH 2 (.row [a,b,c,d,e,f,g,i] ty x y)=some c∧AH 3 (.row [a,b,c,d,e,f,g,i] ty x y)=some d∧AH 4 (.row [a,b,c,d,e,f,g,i] ty x y)=some e∧AH 5 (.row [a,b,c,d,e,f,g,i] ty x y)=some f∧AH 6 (.row [a,b,c,d,e,f,g,i] ty x y)=some g∧AH 7 (.row [a,b,c,d,e,f,g,i] ty x y)=some i:=⟨rfl,rfl,rfl,rfl,rfl,rfl,rfl,rfl⟩
def FR (s:AM):Prop:=s.rows.length<1000000000∧s.queues.length<1000000000∧s.vars.length<1000000000∧s.tags.length<1000000000∧s.rules.length<1000000000∧s.on.length<1000000000
def C_ (s:AM):Nat:=s.rows.length+s.queues.length+s.vars.length+s.tags.length+s.rules.length+s.on.length
section
variable {n N:Nat}
theorem Vj (hsn:CK (AK n)) {nm nm':ByteArray} {s s':AM} {pa pb:Value} {la lb:Nat} {h:AA} (ha:BP la h pa nm s) (hb:BP lb h pb nm' s') (hs:FR s) (hn:C_ s+10<n) (hN:C_ s+10<N) :
  ∃ b h1,AY Tryz.prog (AK n) N 63 [pa,pb] h=some (.bool b,h1)∧(b=true↔OK nm nm' s s')∧∀ i,i<h.next→h1.get i=h.get i:=by
 obtain⟨ar,aq,av,at_,au,ao,rfl,a1,a2,a3,a4,a5,a6⟩:=ha
 obtain⟨br,bq,bv,bt,bu,bo,rfl,b1,b2,b3,b4,b5,b6⟩:=hb
 suffices hsuf:∃ v h1,AY Tryz.prog (AK n) N 63 [.agg #[.string nm,ar,aq,av,at_,au,ao,iv s.miss],.agg #[.string nm',br,bq,bv,bt,bu,bo,iv s'.miss]] h=some (v,h1)∧(∃ b,v=.bool b∧(b=true↔OK nm nm' s s')∧∀ i,i<h.next→h1.get i=h.get i) by
  obtain⟨v,h1,e1,b,rfl,e2⟩:=hsuf
  exact⟨b,h1,e1,e2⟩
 refine MH (R:=fun v h1=>∃ b,v=.bool b∧(b=true↔OK nm nm' s s')∧∀ i,i<h.next→h1.get i=h.get i) Tryz.func63 rfl (by simp[Tryz.f63]) ?_
 have hr:Tryz.f63.results.toList=[.tmp 4]:=rfl
 unfold C_ at hn hN
 obtain⟨q1,q2,q3,q4,q5,q6⟩:=hs
 have ca:=DV [.string nm,ar,aq,av,at_,au,ao,iv s.miss]
 have cb:=DV [.string nm',br,bq,bv,bt,bu,bo,iv s'.miss]
 have oa:([.string nm,ar,aq,av,at_,au,ao,iv s.miss]:List Value).all one=true:=by
  simp only[List.all_cons,List.all_nil,a1.2.one,a2.one,a3.one,a4.one,AN.one a5,AN.one a6,O4,IM,Bool.and_self]
 have ob:([.string nm',br,bq,bv,bt,bu,bo,iv s'.miss]:List Value).all one=true:=by
  simp only[List.all_cons,List.all_nil,b1.2.one,b2.one,b3.one,b4.one,AN.one b5,AN.one b6,O4,IM,Bool.and_self]
 have gA:=NH (h:=h) (o:=.row [.string nm,ar,aq,av,at_,au,ao,iv s.miss] 27 false false) (o':=.row [.string nm',br,bq,bv,bt,bu,bo,iv s'.miss] 27 false false)
 have gB:=NC (h:=h) (o:=.row [.string nm,ar,aq,av,at_,au,ao,iv s.miss] 27 false false) (o':=.row [.string nm',br,bq,bv,bt,bu,bo,iv s'.miss] 27 false false)
 have gO:∀ i,i<h.next→((h.push (.row [.string nm,ar,aq,av,at_,au,ao,iv s.miss] 27 false false)).push (.row [.string nm',br,bq,bv,bt,bu,bo,iv s'.miss] 27 false false)).get i=h.get i:=fun i hi=>by rw[AU (by show i<h.next+1;omega),AU hi]
 show WK _ _ _ (.seq _ (.seq _ S3)) _ _
 simp only[eE,seval,↓eP,C2,CW,C6,ca,cb,oa,ob,FM]
 have nH:((h.push (.row [.string nm,ar,aq,av,at_,au,ao,iv s.miss] 27 false false)).push (.row [.string nm',br,bq,bv,bt,bu,bo,iv s'.miss] 27 false false)).next=h.next+2:=rfl
 generalize (h.push (.row [.string nm,ar,aq,av,at_,au,ao,iv s.miss] 27 false false)).push (.row [.string nm',br,bq,bv,bt,bu,bo,iv s'.miss] 27 false false)=H at *
 generalize hKK:B_.top _=K
 have fin:∀ (T':Tr) b,T'.get 4=.bool b→(b=true↔OK nm nm' s s')→K.ap Tryz.prog (AK n) N .ret ⟨T',H⟩:=by
  intro T' b h4 hb
  rw[← hKK]
  simp only[eE,seval,↓eP,hr,h4]
  exact⟨b,rfl,hb,gO⟩
 have fno:∀ (T':Tr),T'.get 4=.bool false→¬ OK nm nm' s s'→K.ap Tryz.prog (AK n) N .ret ⟨T',H⟩:=fun T' h4 hn=>fin T' false h4 ⟨fun h=>(by cases h),fun h=>absurd h hn⟩
 clear hKK
 have hN':h.next≤H.next:=by omega
 have A1:=a1.mono hN' fun i _ hi=>gO i hi
 have A2:=a2.mono hN' fun i _ hi=>gO i hi
 have A3:=a3.mono hN' fun i _ hi=>gO i hi
 have A4:=a4.mono hN' fun i _ hi=>gO i hi
 have A5:=AW.mono a5 hN' fun i _ hi=>gO i hi
 have A6:=AW.mono a6 hN' fun i _ hi=>gO i hi
 have B1:=b1.mono hN' fun i _ hi=>gO i hi
 have B2:=b2.mono hN' fun i _ hi=>gO i hi
 have B3:=b3.mono hN' fun i _ hi=>gO i hi
 have B4:=b4.mono hN' fun i _ hi=>gO i hi
 have B5:=AW.mono b5 hN' fun i _ hi=>gO i hi
 have B6:=AW.mono b6 hN' fun i _ hi=>gO i hi
 obtain⟨x0,x1,x2,x3,x4,x5,x6,x7⟩:=U_ (a:=.string nm) (b:=ar) (c:=aq) (d:=av) (e:=at_) (f:=au) (g:=ao) (i:=iv s.miss) (ty:=27) (x:=false) (y:=false)
 obtain⟨y0,y1,y2,y3,y4,y5,y6,y7⟩:=U_ (a:=.string nm') (b:=br) (c:=bq) (d:=bv) (e:=bt) (f:=bu) (g:=bo) (i:=iv s'.miss) (ty:=27) (x:=false) (y:=false)
 rw[← gA] at x0 x1 x2 x3 x4 x5 x6 x7
 rw[← gB] at y0 y1 y2 y3 y4 y5 y6 y7
 have lr1:=fun h'=>NO A1.2 h'
 have lr2:=fun h'=>NO B1.2 h'
 have lq1:=fun h'=>OF A2 h'
 have lq2:=fun h'=>OF B2 h'
 cases d1:(!(nm==nm')) with
 | true=>
  simp only[eE,seval,↓eP,Nat.zero_add,KO,BN,D2,IV,FU,AL,BO,DZ,x0,x1,x2,x7,y0,y1,y2,y7,lr1,lr2,lq1,lq2,JF,d1]
  refine fno _ (by simp only[eE,seval,↓eP,rP]) fun hsp=>?_
  rw[hsp.1,LK] at d1
  cases d1
 | false=>
 have e1:nm=nm':=LQ (by simpa using d1)
 cases d2:(s.miss != s'.miss) with
 | true=>
  simp only[eE,seval,↓eP,Nat.zero_add,KO,BN,D2,IV,FU,AL,BO,DZ,x0,x1,x2,x7,y0,y1,y2,y7,lr1,lr2,lq1,lq2,JF,d1,d2]
  refine fno _ (by simp only[eE,seval,↓eP,rP]) fun hsp=>?_
  rw[hsp.2.1] at d2
  simp at d2
 | false=>
 have e2:s.miss=s'.miss:=by simpa using d2
 cases d3:((s.rows.length:Int) != (s'.rows.length:Int)) with
 | true=>
  simp only[eE,seval,↓eP,Nat.zero_add,KO,BN,D2,IV,FU,AL,BO,DZ,x0,x1,x2,x7,y0,y1,y2,y7,lr1,lr2,lq1,lq2,JF,d1,d2,d3]
  refine fno _ (by simp only[eE,seval,↓eP,rP]) fun hsp=>?_
  rw[hsp.2.2.1] at d3
  simp at d3
 | false=>
 have e3:s.rows.length=s'.rows.length:=by
  have h9:(s.rows.length:Int)=(s'.rows.length:Int):=by simpa using d3
  omega
 cases d4:((s.queues.length:Int) != (s'.queues.length:Int)) with
 | true=>
  simp only[eE,seval,↓eP,Nat.zero_add,KO,BN,D2,IV,FU,AL,BO,DZ,x0,x1,x2,x7,y0,y1,y2,y7,lr1,lr2,lq1,lq2,JF,d1,d2,d3,d4]
  refine fno _ (by simp only[eE,seval,↓eP,rP]) fun hsp=>?_
  rw[hsp.2.2.2.1] at d4
  simp at d4
 | false=>
 have e4:s.queues.length=s'.queues.length:=by
  have h9:(s.queues.length:Int)=(s'.queues.length:Int):=by simpa using d4
  omega
 simp only[eE,seval,↓eP,Nat.zero_add,KO,BN,D2,IV,FU,AL,BO,DZ,x0,x1,x2,x7,y0,y1,y2,y7,lr1,lr2,lq1,lq2,JF,d1,d2,d3,d4]
 show WK _ _ _ (.seq (.seq _ (.block 0 (.loop (.seq _ (.seq (.block 1 (.seq (.region _ _ true) _)) _))))) S8) _ _
 simp only[eE,seval,↓eP]
 refine WK.loop (fun i s''=>s''.T.get 2=qP h.next 0∧s''.T.get 3=qP (h.next+1) 0∧s''.T.get 5=iv i∧s''.h=H∧i≤s.rows.length∧∀ j,j<i→s.rows[j]?=s'.rows[j]?) s.rows.length (by omega) ?_ ?_
 ·exact⟨by simp only[eE,↓reduceIte,Nat.reduceEqDiff,reduceCtorEq,↓eP,rP,Nat.reduceAdd,Nat.reduceLT],by simp only[eE,↓reduceIte,Nat.reduceEqDiff,reduceCtorEq,↓eP,rP,Nat.reduceAdd,Nat.reduceLT],by simp only[eE,↓reduceIte,Nat.reduceEqDiff,reduceCtorEq,↓eP,rP,Nat.reduceAdd,Nat.reduceLT];rfl,rfl,by omega,fun j hj=>by omega⟩
 rintro i ⟨T1,H1⟩ hi ⟨t2,t3,t5,hh,hil,hsame⟩
 simp only at t2 t3 t5 hh
 subst hh
 by_cases hlt:i<s.rows.length
 ·have c1:decide ((i:Int)<(s.rows.length:Int))=true:=by simp;omega
  obtain⟨x,hx⟩:∃ x,s.rows[i]?=some x:=⟨_,List.getElem?_eq_getElem hlt⟩
  obtain⟨y,hy⟩:∃ y,s'.rows[i]?=some y:=⟨_,List.getElem?_eq_getElem (by omega)⟩
  obtain⟨ida,pa,ea,_,_,_,_,_,_,xa⟩:=A1.1.row hx
  obtain⟨idb,pb,eb,_,_,_,_,_,_,xb⟩:=B1.1.row hy
  have w1:=DF i (by omega)
  have xa':A_ 5 pa (H1.get ida)=some (CE x):=xa
  have xb':A_ 5 pb (H1.get idb)=some (CE y):=xb
  simp only[eE,seval,↓eP,Nat.zero_add,t2,t3,t5,BN,BO,x1,lr1,c1]
  refine WK.flags (fs:=jL) (by kernel_rfl) ?_
  unfold jL
  iterate 11
   refine DI hsn ?_
   simp only[rG,seval,AD,AF,AE,CT,DC,CM,C4,DJ,t2,t3,t5,BN,BO,x1,y1,ea,eb,FQ,xa',xb',bC]
  refine DH ?_
  cases e:(!(MF x y)) with
  | true=>
   simp only[eE,seval,↓eP,e]
   refine fno _ (by simp only[eE,seval,↓eP,rP]) fun hsp=>?_
   rw[hsp.2.2.1,hy] at hx
   cases hx
   rw[(P_ (a:=x) (b:=x)).2 rfl] at e
   cases e
  | false=>
   have hxy:x=y:=P_.1 (by simpa using e)
   simp only[eE,seval,↓eP,t2,t3,t5,e,w1]
   refine⟨by omega,by omega,fun j hj=>?_⟩
   rcases Nat.lt_or_ge j i with h1 | h1
   ·exact hsame j h1
   ·have:j=i:=by omega
    subst this
    rw[hx,hy,hxy]
 have c1:decide ((i:Int)<(s.rows.length:Int))=false:=by simp;omega
 have:i=s.rows.length:=by omega
 subst this
 have e5:s.rows=s'.rows:=MY e3 hsame
 simp only[eE,seval,↓eP,Nat.zero_add,t2,t3,t5,BN,BO,x1,lr1,c1]
 show WK _ _ _ (.seq (.seq _ (.block 2 (.loop (.seq _ (.seq (.block 3 (.seq (.region _ _ true) _)) _))))) Ab) _ _
 simp only[eE,seval,↓eP]
 refine WK.loop (fun i s''=>s''.T.get 2=qP h.next 0∧s''.T.get 3=qP (h.next+1) 0∧s''.T.get 6=iv i∧s''.h=H1∧i≤s.queues.length∧∀ j,j<i→s.queues[j]?=s'.queues[j]?) s.queues.length (by omega) ?_ ?_
 ·exact⟨by simp only[eE,↓reduceIte,Nat.reduceEqDiff,reduceCtorEq,↓eP,rP,Nat.reduceAdd,Nat.reduceLT,t2],by simp only[eE,↓reduceIte,Nat.reduceEqDiff,reduceCtorEq,↓eP,rP,Nat.reduceAdd,Nat.reduceLT,t3],by simp only[eE,↓reduceIte,Nat.reduceEqDiff,reduceCtorEq,↓eP,rP,Nat.reduceAdd,Nat.reduceLT];rfl,rfl,by omega,fun j hj=>by omega⟩
 rintro i ⟨T2,H2⟩ hi ⟨t2,t3,t6,hh,hil,hsame⟩
 simp only at t2 t3 t6 hh
 subst hh
 by_cases hlt:i<s.queues.length
 ·have c1:decide ((i:Int)<(s.queues.length:Int))=true:=by simp;omega
  obtain⟨x,hx⟩:∃ x,s.queues[i]?=some x:=⟨_,List.getElem?_eq_getElem hlt⟩
  obtain⟨y,hy⟩:∃ y,s'.queues[i]?=some y:=⟨_,List.getElem?_eq_getElem (by omega)⟩
  obtain⟨ida,pa,ea,_,xa⟩:=UJ hx A2
  obtain⟨idb,pb,eb,_,xb⟩:=UJ hy B2
  have w1:=DF i (by omega)
  simp only[eE,seval,↓eP,Nat.zero_add,t2,t3,t6,D2,DZ,x2,lq1,c1]
  refine WK.flags (fs:=bY) (by kernel_rfl) ?_
  unfold bY
  iterate 11
   refine DI hsn ?_
   simp only[rG,seval,AD,AF,AE,CT,DC,CM,C4,DJ,t2,t3,t6,D2,DZ,x2,y2,ea,eb,Y5,xa,xb,eH]
  refine DH ?_
  cases e:(!(x.1==y.1&&x.2==y.2)) with
  | true=>
   simp only[eE,seval,↓eP,e]
   refine fno _ (by simp only[eE,seval,↓eP,rP]) fun hsp=>?_
   rw[hsp.2.2.2.1,hy] at hx
   cases hx
   rw[LK] at e
   simp at e
  | false=>
   have hxy:x=y:=by
    simp only[Bool.not_eq_false',Bool.and_eq_true] at e
    exact Prod.ext (LQ e.1) (by simpa using e.2)
   simp only[eE,seval,↓eP,t2,t3,t6,e,w1]
   refine⟨by omega,by omega,fun j hj=>?_⟩
   rcases Nat.lt_or_ge j i with h1 | h1
   ·exact hsame j h1
   ·have:j=i:=by omega
    subst this
    rw[hx,hy,hxy]
 have c1:decide ((i:Int)<(s.queues.length:Int))=false:=by simp;omega
 have:i=s.queues.length:=by omega
 subst this
 have e6:s.queues=s'.queues:=MY e4 hsame
 simp only[eE,seval,↓eP,Nat.zero_add,t2,t3,t6,D2,DZ,x2,lq1,c1]
 have hV:=pS (n:=n) (h:=H2) A3 B3 (by omega) (by omega)
 have hT:=pS (n:=n) (h:=H2) A4 B4 (by omega) (by omega)
 have hU:=n_ (n:=n) (h:=H2) A5 B5 (by omega) (by omega)
 have hO:=n_ (n:=n) (h:=H2) A6 B6 (by omega) (by omega)
 show WK _ _ _ (.seq _ .ret) _ _
 cases dV:decide (s.vars=s'.vars) with
 | false=>
  rw[dV] at hV
  simp only[eE,seval,↓eP,Nat.zero_add,t2,t3,JM,JR,H9,ID,II,C3,x3,x4,x5,x6,y3,y4,y5,y6,hV]
  exact fno _ (by simp only[eE,seval,↓eP,rP]) fun hsp=>(of_decide_eq_false dV) hsp.2.2.2.2.1
 | true=>
 rw[dV] at hV
 cases dT:decide (s.tags=s'.tags) with
 | false=>
  rw[dT] at hT
  simp only[eE,seval,↓eP,Nat.zero_add,t2,t3,JM,JR,H9,ID,II,C3,x3,x4,x5,x6,y3,y4,y5,y6,hV,hT]
  exact fno _ (by simp only[eE,seval,↓eP,rP]) fun hsp=>(of_decide_eq_false dT) hsp.2.2.2.2.2.1
 | true=>
 rw[dT] at hT
 cases dU:decide (s.rules=s'.rules) with
 | false=>
  rw[dU] at hU
  simp only[eE,seval,↓eP,Nat.zero_add,t2,t3,JM,JR,H9,ID,II,C3,x3,x4,x5,x6,y3,y4,y5,y6,hV,hT,hU]
  exact fno _ (by simp only[eE,seval,↓eP,rP]) fun hsp=>(of_decide_eq_false dU) hsp.2.2.2.2.2.2.1
 | true=>
 rw[dU] at hU
 simp only[eE,seval,↓eP,Nat.zero_add,t2,t3,JM,JR,H9,ID,II,C3,x3,x4,x5,x6,y3,y4,y5,y6,hV,hT,hU,hO]
 refine fin _ (decide (s.on=s'.on)) (by simp only[eE,seval,↓eP,rP]) ⟨fun h=>⟨e1,e2,e5,e6,of_decide_eq_true dV,of_decide_eq_true dT,of_decide_eq_true dU,of_decide_eq_true h⟩,fun hsp=>decide_eq_true hsp.2.2.2.2.2.2.2⟩
theorem Wy {nm nm':ByteArray} {s s':AM} {pa pb:Value} {la lb:Nat} {h:AA} (ha:BP la h pa nm s) (hb:BP lb h pb nm' s') (hs:FR s) (hn:C_ s+20<n) :
  ∃ b,AK n 63 [pa,pb] h=some (.bool b,h)∧(b=true↔OK nm nm' s s'):=by
 obtain⟨n,rfl⟩:=B8 hn
 obtain⟨b,h1,hw,hb,ho⟩:=Vj (EJ n).2 (N:=n) ha hb hs (by omega) (by omega)
 exact⟨b,HB (BD ⟨rfl,rfl,rfl⟩) rfl ⟨h1,hw,ho⟩,hb⟩
end
instance:DecidableEq AB:=fun _ _=>decidable_of_decidable_of_iff P_
def MV:List (Bool × Bool × List Operand):=[A7,A7,A7,A7,AI [.tmp 18],AI [.tmp 18],AI [.tmp 18],AI [.tmp 18],AP]
theorem Hs {call:AS} {N:Nat} {h:AA} (hsn:CK call) {va vb:Value} {A B:List Int} {la lb:Nat} (ha:AW la h va A) (hb:AW lb h vb B) (hN:A.length+3<N) (hl:A.length<1099511627776):AY Tryz.prog call N 59 [va,vb] h=some (.bool (decide (A=B)),h):=by
 refine CO Tryz.func59 rfl (by simp[Tryz.f59]) ?_
 have hr:Tryz.f59.results.toList=[.tmp 4]:=rfl
 have lA:=fun h'=>LL ha h'
 have lB:=fun h'=>LL hb h'
 cases d:((A.length:Int) != (B.length:Int)) with
 | true=>
  have hne:A≠B:=fun e=>by subst e;simp at d
  rw[decide_eq_false hne]
  simp only[eE,↓reduceIte,Nat.reduceEqDiff,reduceCtorEq,↓eP,hr,lA,lB,d]
 | false=>
  have hlen:A.length=B.length:=by
   have h9:(A.length:Int)=(B.length:Int):=by simpa using d
   omega
  simp only[eE,↓reduceIte,Nat.reduceEqDiff,reduceCtorEq,↓eP,lA,lB,d]
  refine WK.loop (fun i s'=>s'.T.get 0=va∧s'.T.get 1=vb∧s'.T.get 12=iv A.length∧s'.T.get 13=iv i∧s'.h=h∧i≤A.length∧∀ j,j<i→A[j]?=B[j]?) A.length (by omega) ?_ ?_
  ·exact⟨by simp only[eE,↓reduceIte,Nat.reduceEqDiff,reduceCtorEq,↓eP,rP,Nat.reduceAdd,Nat.reduceLT],by simp only[eE,↓reduceIte,Nat.reduceEqDiff,reduceCtorEq,↓eP,rP,Nat.reduceAdd,Nat.reduceLT],by simp only[eE,↓reduceIte,Nat.reduceEqDiff,reduceCtorEq,↓eP,rP,Nat.reduceAdd,Nat.reduceLT],by simp only[eE,↓reduceIte,Nat.reduceEqDiff,reduceCtorEq,↓eP,rP,Nat.reduceAdd,Nat.reduceLT];rfl,rfl,by omega,fun j hj=>by omega⟩
  ·rintro i ⟨T1,H1⟩ hi ⟨t0,t1,t12,t13,hh,hil,hsame⟩
   simp only at t0 t1 t12 t13 hh
   subst hh
   by_cases hlt:i<A.length
   ·have c1:decide ((i:Int)<(A.length:Int))=true:=by simp;omega
    obtain⟨x,hx⟩:∃ x,A[i]?=some x:=⟨_,List.getElem?_eq_getElem hlt⟩
    obtain⟨y,hy⟩:∃ y,B[i]?=some y:=⟨_,List.getElem?_eq_getElem (by omega)⟩
    obtain⟨ida,pa,ea,_,xa⟩:=AW.get ha hx
    obtain⟨idb,pb,eb,_,xb⟩:=AW.get hb hy
    have w1:=DF i (by omega)
    simp only[eE,seval,↓eP,t0,t1,t12,t13,c1]
    refine WK.flags (fs:=MV) (by kernel_rfl) ?_
    unfold MV
    iterate 9
     refine DI hsn ?_
     simp only[rG,seval,AD,AF,AE,CT,DC,CM,C4,DJ,t0,t1,t12,t13,ea,eb,AL,xa,xb,RO]
    refine DH ?_
    cases e:(x != y) with
    | true=>
     have hne:A≠B:=fun h9=>by
      subst h9
      rw[hx] at hy
      cases hy
      simp at e
     rw[decide_eq_false hne]
     simp only[eE,seval,↓eP,hr,e]
    | false=>
     have hxy:x=y:=by simpa using e
     simp only[eE,seval,↓eP,t0,t1,t12,t13,e,w1]
     refine⟨by omega,by omega,fun j hj=>?_⟩
     rcases Nat.lt_or_ge j i with h1 | h1
     ·exact hsame j h1
     ·have:j=i:=by omega
      subst this
      rw[hx,hy,hxy]
   ·have c1:decide ((i:Int)<(A.length:Int))=false:=by simp;omega
    have:i=A.length:=by omega
    subst this
    have hAB:A=B:=MY hlen hsame
    rw[decide_eq_true hAB]
    simp only[eE,seval,↓eP,hr,t0,t1,t12,t13,c1]
theorem kQ {n:Nat} {h:AA} {va vb:Value} {A B:List Int} {la lb:Nat} (ha:AW la h va A) (hb:AW lb h vb B) (hl:A.length<1000000000) (hn:A.length+5<n):AK n 59 [va,vb] h=some (.bool (decide (A=B)),h):=by
 obtain⟨n,rfl⟩:=B8 hn
 exact D4 (BD ⟨rfl,rfl,rfl⟩) rfl (Hs (EJ n).2 ha hb (by omega) (by omega))
theorem Hl {call:AS} {N:Nat} {h:AA} (hsn:CK call) {va vb:Value} {A B:List ByteArray} {la lb:Nat} (ha:AN la h va A.length 1 (CJ A)) (hb:AN lb h vb B.length 1 (CJ B)) (hN:A.length+3<N) (hl:A.length<1099511627776):AY Tryz.prog call N 58 [va,vb] h=some (.bool (decide (A=B)),h):=by
 refine CO Tryz.func58 rfl (by simp[Tryz.f58]) ?_
 have hr:Tryz.f58.results.toList=[.tmp 4]:=rfl
 have lA:=fun h'=>OA ha h'
 have lB:=fun h'=>OA hb h'
 cases d:((A.length:Int) != (B.length:Int)) with
 | true=>
  have hne:A≠B:=fun e=>by subst e;simp at d
  rw[decide_eq_false hne]
  simp only[eE,↓reduceIte,Nat.reduceEqDiff,reduceCtorEq,↓eP,hr,lA,lB,d]
 | false=>
  have hlen:A.length=B.length:=by
   have h9:(A.length:Int)=(B.length:Int):=by simpa using d
   omega
  simp only[eE,↓reduceIte,Nat.reduceEqDiff,reduceCtorEq,↓eP,lA,lB,d]
  refine WK.loop (fun i s'=>s'.T.get 0=va∧s'.T.get 1=vb∧s'.T.get 12=iv A.length∧s'.T.get 13=iv i∧s'.h=h∧i≤A.length∧∀ j,j<i→A[j]?=B[j]?) A.length (by omega) ?_ ?_
  ·exact⟨by simp only[eE,↓reduceIte,Nat.reduceEqDiff,reduceCtorEq,↓eP,rP,Nat.reduceAdd,Nat.reduceLT],by simp only[eE,↓reduceIte,Nat.reduceEqDiff,reduceCtorEq,↓eP,rP,Nat.reduceAdd,Nat.reduceLT],by simp only[eE,↓reduceIte,Nat.reduceEqDiff,reduceCtorEq,↓eP,rP,Nat.reduceAdd,Nat.reduceLT],by simp only[eE,↓reduceIte,Nat.reduceEqDiff,reduceCtorEq,↓eP,rP,Nat.reduceAdd,Nat.reduceLT];rfl,rfl,by omega,fun j hj=>by omega⟩
  ·rintro i ⟨T1,H1⟩ hi ⟨t0,t1,t12,t13,hh,hil,hsame⟩
   simp only at t0 t1 t12 t13 hh
   subst hh
   by_cases hlt:i<A.length
   ·have c1:decide ((i:Int)<(A.length:Int))=true:=by simp;omega
    obtain⟨x,hx⟩:∃ x,A[i]?=some x:=⟨_,List.getElem?_eq_getElem hlt⟩
    obtain⟨y,hy⟩:∃ y,B[i]?=some y:=⟨_,List.getElem?_eq_getElem (by omega)⟩
    obtain⟨ida,pa,ea,_,xa⟩:=SH hx ha
    obtain⟨idb,pb,eb,_,xb⟩:=SH hy hb
    have w1:=DF i (by omega)
    simp only[eE,seval,↓eP,t0,t1,t12,t13,c1]
    refine WK.flags (fs:=MV) (by kernel_rfl) ?_
    unfold MV
    iterate 9
     refine DI hsn ?_
     simp only[rG,seval,AD,AF,AE,CT,DC,CM,C4,DJ,t0,t1,t12,t13,ea,eb,FU,xa,xb,JF]
    refine DH ?_
    cases e:(!(x==y)) with
    | true=>
     have hne:A≠B:=fun h9=>by
      subst h9
      rw[hx] at hy
      cases hy
      rw[LK] at e;cases e
     rw[decide_eq_false hne]
     simp only[eE,seval,↓eP,hr,e]
    | false=>
     have hxy:x=y:=LQ (by simpa using e)
     simp only[eE,seval,↓eP,t0,t1,t12,t13,e,w1]
     refine⟨by omega,by omega,fun j hj=>?_⟩
     rcases Nat.lt_or_ge j i with h1 | h1
     ·exact hsame j h1
     ·have:j=i:=by omega
      subst this
      rw[hx,hy,hxy]
   ·have c1:decide ((i:Int)<(A.length:Int))=false:=by simp;omega
    have:i=A.length:=by omega
    subst this
    have hAB:A=B:=MY hlen hsame
    rw[decide_eq_true hAB]
    simp only[eE,seval,↓eP,hr,t0,t1,t12,t13,c1]
theorem pG {n:Nat} {h:AA} {va vb:Value} {A B:List ByteArray} {la lb:Nat} (ha:AN la h va A.length 1 (CJ A)) (hb:AN lb h vb B.length 1 (CJ B)) (hl:A.length<1000000000) (hn:A.length+5<n):AK n 58 [va,vb] h=some (.bool (decide (A=B)),h):=by
 obtain⟨n,rfl⟩:=B8 hn
 exact D4 (BD ⟨rfl,rfl,rfl⟩) rfl (Hl (EJ n).2 ha hb (by omega) (by omega))
theorem Sp {call:AS} {N:Nat} {h:AA} (hsn:CK call) {va vb:Value} {A B:List (ByteArray × Bool)} {la lb:Nat} (ha:AN la h va A.length 2 (DE A)) (hb:AN lb h vb B.length 2 (DE B)) (hN:A.length+3<N) (hl:A.length<1099511627776):AY Tryz.prog call N 57 [va,vb] h=some (.bool (decide (A=B)),h):=by
 refine CO Tryz.func57 rfl (by simp[Tryz.f57]) ?_
 have hr:Tryz.f57.results.toList=[.tmp 4]:=rfl
 have lA:=fun h'=>OF ha h'
 have lB:=fun h'=>OF hb h'
 cases d:((A.length:Int) != (B.length:Int)) with
 | true=>
  have hne:A≠B:=fun e=>by subst e;simp at d
  rw[decide_eq_false hne]
  simp only[eE,↓reduceIte,Nat.reduceEqDiff,reduceCtorEq,↓eP,hr,lA,lB,d]
 | false=>
  have hlen:A.length=B.length:=by
   have h9:(A.length:Int)=(B.length:Int):=by simpa using d
   omega
  simp only[eE,↓reduceIte,Nat.reduceEqDiff,reduceCtorEq,↓eP,lA,lB,d]
  refine WK.loop (fun i s'=>s'.T.get 0=va∧s'.T.get 1=vb∧s'.T.get 12=iv A.length∧s'.T.get 13=iv i∧s'.h=h∧i≤A.length∧∀ j,j<i→A[j]?=B[j]?) A.length (by omega) ?_ ?_
  ·exact⟨by simp only[eE,↓reduceIte,Nat.reduceEqDiff,reduceCtorEq,↓eP,rP,Nat.reduceAdd,Nat.reduceLT],by simp only[eE,↓reduceIte,Nat.reduceEqDiff,reduceCtorEq,↓eP,rP,Nat.reduceAdd,Nat.reduceLT],by simp only[eE,↓reduceIte,Nat.reduceEqDiff,reduceCtorEq,↓eP,rP,Nat.reduceAdd,Nat.reduceLT],by simp only[eE,↓reduceIte,Nat.reduceEqDiff,reduceCtorEq,↓eP,rP,Nat.reduceAdd,Nat.reduceLT];rfl,rfl,by omega,fun j hj=>by omega⟩
  ·rintro i ⟨T1,H1⟩ hi ⟨t0,t1,t12,t13,hh,hil,hsame⟩
   simp only at t0 t1 t12 t13 hh
   subst hh
   by_cases hlt:i<A.length
   ·have c1:decide ((i:Int)<(A.length:Int))=true:=by simp;omega
    obtain⟨x,hx⟩:∃ x,A[i]?=some x:=⟨_,List.getElem?_eq_getElem hlt⟩
    obtain⟨y,hy⟩:∃ y,B[i]?=some y:=⟨_,List.getElem?_eq_getElem (by omega)⟩
    obtain⟨ida,pa,ea,_,xa⟩:=UJ hx ha
    obtain⟨idb,pb,eb,_,xb⟩:=UJ hy hb
    have w1:=DF i (by omega)
    simp only[eE,seval,↓eP,t0,t1,t12,t13,c1]
    refine WK.flags (fs:=MV) (by kernel_rfl) ?_
    unfold MV
    iterate 9
     refine DI hsn ?_
     simp only[rG,seval,AD,AF,AE,CT,DC,CM,C4,DJ,t0,t1,t12,t13,ea,eb,Y5,xa,xb,eH]
    refine DH ?_
    cases e:(!(x.1==y.1&&x.2==y.2)) with
    | true=>
     have hne:A≠B:=fun h9=>by
      subst h9
      rw[hx] at hy
      cases hy
      rw[LK] at e;simp at e
     rw[decide_eq_false hne]
     simp only[eE,seval,↓eP,hr,e]
    | false=>
     have hxy:x=y:=(by simp only[Bool.not_eq_false',Bool.and_eq_true] at e;exact Prod.ext (LQ e.1) (by simpa using e.2))
     simp only[eE,seval,↓eP,t0,t1,t12,t13,e,w1]
     refine⟨by omega,by omega,fun j hj=>?_⟩
     rcases Nat.lt_or_ge j i with h1 | h1
     ·exact hsame j h1
     ·have:j=i:=by omega
      subst this
      rw[hx,hy,hxy]
   ·have c1:decide ((i:Int)<(A.length:Int))=false:=by simp;omega
    have:i=A.length:=by omega
    subst this
    have hAB:A=B:=MY hlen hsame
    rw[decide_eq_true hAB]
    simp only[eE,seval,↓eP,hr,t0,t1,t12,t13,c1]
theorem Of {n:Nat} {h:AA} {va vb:Value} {A B:List (ByteArray × Bool)} {la lb:Nat} (ha:AN la h va A.length 2 (DE A)) (hb:AN lb h vb B.length 2 (DE B)) (hl:A.length<1000000000) (hn:A.length+5<n):AK n 57 [va,vb] h=some (.bool (decide (A=B)),h):=by
 obtain⟨n,rfl⟩:=B8 hn
 exact D4 (BD ⟨rfl,rfl,rfl⟩) rfl (Sp (EJ n).2 ha hb (by omega) (by omega))
theorem lZ {h:AA} {v:Value} {l:List AB} (hv:AQ h v l) (h':AA):CY Tryz.prog h' 22 v=some (iv (l.length:Int)):=hv.len
theorem Eh {call:AS} {N:Nat} {h:AA} (hsn:CK call) {va vb:Value} {A B:List AB} (ha:AQ h va A) (hb:AQ h vb B) (hN:A.length+3<N) (hl:A.length<1099511627776):AY Tryz.prog call N 56 [va,vb] h=some (.bool (decide (A=B)),h):=by
 refine CO Tryz.func56 rfl (by simp[Tryz.f56]) ?_
 have hr:Tryz.f56.results.toList=[.tmp 4]:=rfl
 have lA:=fun h'=>lZ ha h'
 have lB:=fun h'=>lZ hb h'
 cases d:((A.length:Int) != (B.length:Int)) with
 | true=>
  have hne:A≠B:=fun e=>by subst e;simp at d
  rw[decide_eq_false hne]
  simp only[eE,↓reduceIte,Nat.reduceEqDiff,reduceCtorEq,↓eP,hr,lA,lB,d]
 | false=>
  have hlen:A.length=B.length:=by
   have h9:(A.length:Int)=(B.length:Int):=by simpa using d
   omega
  simp only[eE,↓reduceIte,Nat.reduceEqDiff,reduceCtorEq,↓eP,lA,lB,d]
  refine WK.loop (fun i s'=>s'.T.get 0=va∧s'.T.get 1=vb∧s'.T.get 12=iv A.length∧s'.T.get 13=iv i∧s'.h=h∧i≤A.length∧∀ j,j<i→A[j]?=B[j]?) A.length (by omega) ?_ ?_
  ·exact⟨by simp only[eE,↓reduceIte,Nat.reduceEqDiff,reduceCtorEq,↓eP,rP,Nat.reduceAdd,Nat.reduceLT],by simp only[eE,↓reduceIte,Nat.reduceEqDiff,reduceCtorEq,↓eP,rP,Nat.reduceAdd,Nat.reduceLT],by simp only[eE,↓reduceIte,Nat.reduceEqDiff,reduceCtorEq,↓eP,rP,Nat.reduceAdd,Nat.reduceLT],by simp only[eE,↓reduceIte,Nat.reduceEqDiff,reduceCtorEq,↓eP,rP,Nat.reduceAdd,Nat.reduceLT];rfl,rfl,by omega,fun j hj=>by omega⟩
  ·rintro i ⟨T1,H1⟩ hi ⟨t0,t1,t12,t13,hh,hil,hsame⟩
   simp only at t0 t1 t12 t13 hh
   subst hh
   by_cases hlt:i<A.length
   ·have c1:decide ((i:Int)<(A.length:Int))=true:=by simp;omega
    obtain⟨x,hx⟩:∃ x,A[i]?=some x:=⟨_,List.getElem?_eq_getElem hlt⟩
    obtain⟨y,hy⟩:∃ y,B[i]?=some y:=⟨_,List.getElem?_eq_getElem (by omega)⟩
    obtain⟨ida,pa,ea,_,_,_,_,_,_,xa9⟩:=AQ.row ha hx
    have xa:A_ 5 pa (H1.get ida)=some (CE x):=xa9
    obtain⟨idb,pb,eb,_,_,_,_,_,_,xb9⟩:=AQ.row hb hy
    have xb:A_ 5 pb (H1.get idb)=some (CE y):=xb9
    have w1:=DF i (by omega)
    simp only[eE,seval,↓eP,t0,t1,t12,t13,c1]
    refine WK.flags (fs:=MV) (by kernel_rfl) ?_
    unfold MV
    iterate 9
     refine DI hsn ?_
     simp only[rG,seval,AD,AF,AE,CT,DC,CM,C4,DJ,t0,t1,t12,t13,ea,eb,FQ,xa,xb,bC]
    refine DH ?_
    cases e:(!(MF x y)) with
    | true=>
     have hne:A≠B:=fun h9=>by
      subst h9
      rw[hx] at hy
      cases hy
      rw[P_.2 rfl] at e;cases e
     rw[decide_eq_false hne]
     simp only[eE,seval,↓eP,hr,e]
    | false=>
     have hxy:x=y:=P_.1 (by simpa using e)
     simp only[eE,seval,↓eP,t0,t1,t12,t13,e,w1]
     refine⟨by omega,by omega,fun j hj=>?_⟩
     rcases Nat.lt_or_ge j i with h1 | h1
     ·exact hsame j h1
     ·have:j=i:=by omega
      subst this
      rw[hx,hy,hxy]
   ·have c1:decide ((i:Int)<(A.length:Int))=false:=by simp;omega
    have:i=A.length:=by omega
    subst this
    have hAB:A=B:=MY hlen hsame
    rw[decide_eq_true hAB]
    simp only[eE,seval,↓eP,hr,t0,t1,t12,t13,c1]
theorem Md {n:Nat} {h:AA} {va vb:Value} {A B:List AB} (ha:AQ h va A) (hb:AQ h vb B) (hl:A.length<1000000000) (hn:A.length+5<n):AK n 56 [va,vb] h=some (.bool (decide (A=B)),h):=by
 obtain⟨n,rfl⟩:=B8 hn
 exact D4 (BD ⟨rfl,rfl,rfl⟩) rfl (Eh (EJ n).2 ha hb (by omega) (by omega))
theorem rL:∀ (l:List AB) (k:Nat),(l.flatMap AV).take (k*5)=(l.take k).flatMap AV
 | l,0=>by simp
 | [],k+1=>by simp
 | r :: l,k+1=>by
  rw[List.flatMap_cons,List.take_succ_cons,List.flatMap_cons,← rL l k,show (k+1)*5=k*5+5 by omega]
  rfl
theorem Eu {L:List AB} {i:Nat} {x:AB} (hi:i<L.length):Go.Sx.lay (L.flatMap AV) (i*5) (AV x)=(L.set i x).flatMap AV:=by
 have h5:(AV x).length=5:=rfl
 rw[List.set_eq_take_append_cons_drop,if_pos hi,List.flatMap_append,List.flatMap_cons,← rL,← XE]
 simp only[Go.Sx.lay,h5]
 rw[show (i+1)*5=i*5+5 by omega,List.append_assoc]
abbrev I2:AB:=⟨0,ByteArray.empty,0,0,0⟩
theorem zr:(Value.agg #[.int .i64 0,.string ByteArray.empty,.int .i64 0,.int .i64 0,.int .i64 0]).cells.toList=AV I2:=rfl
abbrev jQ:ByteArray:=⟨#[108,101,110,116]⟩
abbrev XT:ByteArray:=⟨#[115,112,111,105,108,116]⟩
def mark (i:Nat):AB:=⟨-7,jQ,0,0,i⟩
theorem jY:∀ n,B0 DS n=(List.replicate n I2).flatMap AV
 | 0=>rfl
 | n+1=>by rw[B0,jY n,List.replicate_succ,List.flatMap_cons];rfl
theorem sD {h:AA} {id i off:Nat} {L:List AB} {x:AB} {ty:TypeId} {g:Bool} (ho:off=i*5) (hg:h.get id=.row (L.flatMap AV) ty g false) (hi:i<L.length) (hf:h.floor≤id):BB Tryz.prog h 60 (qP id off) (CE x)=some (h.put id (.row ((L.set i x).flatMap AV) ty g false)):=by
 subst ho
 have hc:(CE x).cells=(AV x).toArray:=rfl
 have h5:(AV x).length=5:=rfl
 have hone:(AV x).all one=true:=rfl
 have hl:=J7 L
 simp only[BB,hc,FN,GZ,hg]
 rw[if_pos (by simp[h5]),if_pos (by simp only[h5,hone,hl];simp;omega),Eu hi]
theorem XI:IC Tryz.prog (match Tryz.prog.underlying 60 with | some (.struct fs)=>fs.toList | _=>[])=some [(0,1),(1,1),(2,1),(3,1),(4,1)]:=by kernel_rfl
theorem i6 {id n c i:Nat} (hi:i<n):CB Tryz.prog 22 (qS id n c) (iv (i:Int))=some (.pointer (some ⟨id,i*5,none⟩)):=KK hi
theorem Dq (x:AB):MF x x=true:=P_.2 rfl
theorem XZ {l:List AB} (h:(CV l).1.1=0):CU l∧(BQ l).1=0∧(DG (AX l) l.length 0 (CD l)).1=0∧¬ JG (DG (AX l) l.length 0 (CD l)).2.2.rows (AX l) (DG (AX l) l.length 0 (CD l)).2.2.rules≥0 ∧
  CV l=((0,0),(DG (AX l) l.length 0 (CD l)).2.2)∧HR l l.length (CV l).2:=by
 by_cases h1:(BQ l).1≠0
 ·unfold CV at h
  rw[if_pos h1] at h
  exact absurd h h1
 ·by_cases h2:(DG (AX l) l.length 0 (CD l)).1≠0
  ·unfold CV at h
   rw[if_neg h1] at h
   simp only at h
   rw[if_pos h2] at h
   exact absurd h h2
  ·by_cases h3:JG (DG (AX l) l.length 0 (CD l)).2.2.rows (AX l) (DG (AX l) l.length 0 (CD l)).2.2.rules≥0
   ·unfold CV at h
    rw[if_neg h1] at h
    simp only at h
    rw[if_neg h2,if_pos h3] at h
    cases h
   ·have e1:(BQ l).1=0:=by simpa using h1
    have e2:(DG (AX l) l.length 0 (CD l)).1=0:=by simpa using h2
    have e:CV l=((0,0),(DG (AX l) l.length 0 (CD l)).2.2):=by
     unfold CV
     rw[if_neg h1]
     simp only
     rw[if_neg h2,if_neg h3]
    have ht:=XC (aC e1)
    refine⟨ht,e1,e2,h3,e,?_⟩
    rw[e]
    exact wB ht VC l.length 0 (CD l) (by omega) (VQ l) e2
theorem Y6 {l:List AB} (h:(CV l).1.1=0):DU l=(MQ l,(CV l).2):=by unfold DU;rw[if_neg (by rw[h];simp)]
def J3 (x:AB):AB:=if x.kind≠27 then { x with n:=0 } else x
def A8 (l:List AB):List AB:=l.map J3
def XD (nm:ByteArray) (s:AM):Prop:=(CV (A8 s.rows)).1.1=0∧OK nm (DU (A8 s.rows)).1 s (DU (A8 s.rows)).2
open Classical in
noncomputable def FD (nm:ByteArray) (s:AM):Int:=if XD nm s then 0 else 23
theorem tF {H:AA} {cs:List Value} {e p:Int} (hl:cs.length=8) (ho:cs.all one=true) (hf:H.floor≤H.next) :
  ∃ H':AA × AA,BB Tryz.prog ((H.push (.row BY 27 false false)).push (.row [iv 0,iv 0] 32 false false)) 27 (qP H.next 0) (.agg cs.toArray)=some (H'.1)∧BB Tryz.prog H'.1 32 (qP (H.next+1) 0) (CI e p)=some H'.2 ∧
   E_ H.next H'.2 cs e p∧H'.2.next=H.next+2∧H'.2.floor=H.floor∧∀ i,i<H.next→H'.2.get i=H.get i:=by
 have ga:=NH (h:=H) (o:=.row BY 27 false false) (o':=.row [iv 0,iv 0] 32 false false)
 have gb:=NC (h:=H) (o:=.row BY 27 false false) (o':=.row [iv 0,iv 0] 32 false false)
 have gold:∀ i,i<H.next→((H.push (.row BY 27 false false)).push (.row [iv 0,iv 0] 32 false false)).get i=H.get i:=fun i hi=>by rw[AU (by show i<H.next+1;omega),AU hi]
 have hnx:((H.push (.row BY 27 false false)).push (.row [iv 0,iv 0] 32 false false)).next=H.next+2:=rfl
 have hfx:((H.push (.row BY 27 false false)).push (.row [iv 0,iv 0] 32 false false)).floor=H.floor:=rfl
 generalize (H.push (.row BY 27 false false)).push (.row [iv 0,iv 0] 32 false false)=G at *
 obtain⟨H',s1,s2,r1,r2,r3,r4⟩:=O1 (a:=H.next) (H:=G) ⟨ga,gb⟩ rfl (by omega) (by omega) (cs':=cs) hl ho (e':=e) (p':=p)
 exact⟨⟨_,H'⟩,s1,s2,r1,by show H'.next=_;omega,by show H'.floor=_;omega,fun i hi=>by show H'.get i=_;rw[r4 i (by omega) (by omega),gold i hi]⟩
theorem HU {lo:Nat} {h:AA} {nm:ByteArray} {s:AM} {vr vq vv vt vu vo:Value} (h1:IN lo h vr s.rows) (h2:AN lo h vq s.queues.length 2 (DE s.queues)) (h3:AN lo h vv s.vars.length 1 (CJ s.vars)) (h4:AN lo h vt s.tags.length 1 (CJ s.tags)) (h5:AW lo h vu s.rules) (h6:AW lo h vo s.on) :
  ([.string nm,vr,vq,vv,vt,vu,vo,iv s.miss]:List Value).all one=true:=by
 simp only[List.all_cons,List.all_nil,h1.2.one,h2.one,h3.one,h4.one,AN.one h5,AN.one h6,O4,IM,Bool.and_self]
def LX (v:Value) (n:Nat):Prop:=∃ id off c,v=.slice (some ⟨id,off,none⟩) n c
theorem Qq {call:AS} {N:Nat} {h:AA} {l:List AB} {v:Value} (hv:AQ h v l) (hlies:LX v l.length) (hlen:l.length<1099511627) :
  ∃ v' h',AY Tryz.prog call N 49 [v] h=some (v',h')∧(∃ o c g,v'=qS o l.length c∧h'.get o=.row (l.flatMap AV) 60 g false∧h.next≤o∧o<h'.next)∧h'.floor=h.floor∧h.next≤h'.next∧∀ i,i<h.next→h'.get i=h.get i:=by
 by_cases h0:0<l.length
 ·obtain⟨h',e,g1,g2,g3,g4⟩:=uL (call:=call) (N:=N) hv h0 hlen
  exact⟨_,h',e,⟨h.next+1,AO,true,rfl,g1,by omega,by omega⟩,g3,by omega,g4⟩
 ·have hl:l=[]:=List.length_eq_zero_iff.1 (by omega)
  subst hl
  obtain⟨id,off,c,rfl⟩:=hlies
  refine⟨qS h.next 0 0,h.push (.row [] 60 false false),?_,⟨h.next,0,false,rfl,BX,Nat.le_refl _,by show h.next<h.next+1;omega⟩,rfl,by show h.next≤h.next+1;omega,fun i hi=>AU hi⟩
  refine CO Tryz.func49 rfl (by simp[Tryz.f49]) ?_
  have hr:Tryz.f49.results.toList=[.tmp 2]:=rfl
  have hb:CP Tryz.prog .eql 22 (.tmp 3) (.const (Z0)) (.slice (some ⟨id,off,none⟩) ([]:List AB).length c) (Z0)=some (.bool false):=by
   have hf:flat (.slice (some ⟨id,off,none⟩) ([]:List AB).length c)=false:=rfl
   simp only[CP,hf,Bool.false_and,Bool.false_eq_true,if_false,Tryz.underlying22]
  have hbs:GD Tryz.prog h 22 0 []=some (qS h.next 0 0,h.push (.row [] 60 false false)):=by
   simp[GD,Tryz.underlying22,FN,E1,flat,BS,FI,JX,B0]
  have hsrc:EU (h.push (.row [] 60 false false)) 5 ([]:List AB).length (.slice (some ⟨id,off,none⟩) ([]:List AB).length c)=some []:=by simp[EU]
  have hap:D9 Tryz.prog (h.push (.row [] 60 false false)) 22 (qS h.next 0 0) (.slice (some ⟨id,off,none⟩) ([]:List AB).length c)=some (qS h.next 0 0,h.push (.row [] 60 false false)):=by
   have hu:(0:Nat)≠AO:=by unfold AO;omega
   have hzs:(Value.agg #[.int .i64 0,.string ByteArray.empty,.int .i64 0,.int .i64 0,.int .i64 0]).cells.size=5:=rfl
   simp[D9,Tryz.underlying22,FN,TE,E1,hzs,EU,hu]
  simp only[eE,seval,↓eP,hr,hb,hbs,hap]
theorem Hq {n:Nat} {h:AA} {l:List AB} {v:Value} (hv:AQ h v l) (hlies:LX v l.length) (hlen:l.length<1099511627) (hn:0<n) :
  ∃ v' h',AK n 49 [v] h=some (v',h')∧(∃ o c g,v'=qS o l.length c∧h'.get o=.row (l.flatMap AV) 60 g false∧h.next≤o∧o<h'.next)∧h'.floor=h.floor∧h.next≤h'.next∧∀ i,i<h.next→h'.get i=h.get i:=by
 obtain⟨n,rfl⟩:=B8 hn
 refine MG (BD ⟨rfl,rfl,rfl⟩) (Qq (call:=AK n) (N:=n) hv hlies hlen) fun v' h1 hf ho ⟨⟨o,c,g,e1,_⟩,_⟩=>?_
 rw[e1] at hf
 cases hf
section
variable {n N:Nat}
theorem yA {nm:ByteArray} {s:AM} {pv:Value} {lo:Nat} {h:AA} (hp:BP lo h pv nm s) (hlies:∀ nm' vr vq vv vt vu vo m,pv=.agg #[.string nm',vr,vq,vv,vt,vu,vo,m]→LX vr s.rows.length) (hs:FR s) (hl:s.rows.length<900000000) (hfl:h.floor≤h.next) (hg:h.get 0=EA) (hn0:0<h.next) (hn:2*C_ s+200<n) (hN:C_ s+200<N) :
  ∃ h',AY Tryz.prog (AK n) N 27 [pv] h=some (iv (FD nm s),h')∧∀ i,i<h.next→h'.get i=h.get i:=by
 obtain⟨vr,vq,vv,vt,vu,vo,rfl,p1,p2,p3,p4,p5,p6⟩:=hp
 have hlv:=hlies _ _ _ _ _ _ _ _ rfl
 refine DW (R:=fun h'=>∀ i,i<h.next→h'.get i=h.get i) Tryz.func27 rfl (by simp[Tryz.f27]) ?_
 have hr:Tryz.f27.results.toList=[.tmp 2]:=rfl
 unfold C_ at hn hN
 obtain⟨q1,q2,q3,q4,q5,q6⟩:=hs
 have ca:=DV [.string nm,vr,vq,vv,vt,vu,vo,iv s.miss]
 have oa:=HU (nm:=nm) p1 p2 p3 p4 p5 p6
 have gA:(h.push (.row [.string nm,vr,vq,vv,vt,vu,vo,iv s.miss] 27 false false)).get h.next=.row [.string nm,vr,vq,vv,vt,vu,vo,iv s.miss] 27 false false:=BX
 have gO:∀ i,i<h.next→(h.push (.row [.string nm,vr,vq,vv,vt,vu,vo,iv s.miss] 27 false false)).get i=h.get i:=fun i hi=>AU hi
 have nA:(h.push (.row [.string nm,vr,vq,vv,vt,vu,vo,iv s.miss] 27 false false)).next=h.next+1:=rfl
 have fA:(h.push (.row [.string nm,vr,vq,vv,vt,vu,vo,iv s.miss] 27 false false)).floor=h.floor:=rfl
 show WK _ _ _ (.seq _ (.seq _ (.seq (.seq _ _) (.seq _ (.seq _ _))))) _ _
 simp only[eE,seval,↓eP,C2,CW,C6,ca,oa,FM]
 generalize h.push (.row [.string nm,vr,vq,vv,vt,vu,vo,iv s.miss] 27 false false)=A at *
 have l1:AH 1 (A.get h.next)=some vr:=by rw[gA];rfl
 have P1:AQ A vr s.rows:=p1.1.mono (by omega) gO
 obtain⟨v',h1,hcl,⟨o,c,g,rfl,g1,g2,g3⟩,f1,n1,o1⟩:=Hq (n:=n) P1 hlv (by omega) (by omega)
 have hlen:∀ h':AA,CY Tryz.prog h' 22 (qS o s.rows.length c)=some (iv (s.rows.length:Int)):=fun h'=>TH
 simp only[eE,seval,↓eP,Nat.zero_add,BN,BO,l1,hcl,hlen]
 refine WK.loop (fun i s'=>s'.T.get 1=qP h.next 0∧s'.T.get 3=qS o s.rows.length c∧s'.T.get 11=iv (s.rows.length:Int)∧s'.T.get 12=iv i∧i≤s.rows.length∧s'.h.next=h1.next∧s'.h.floor=h1.floor∧(∀ i,i≠o→s'.h.get i=h1.get i) ∧
  ∃ L:List AB,s'.h.get o=.row (L.flatMap AV) 60 g false∧∀ j,L[j]?=(s.rows[j]?).map fun x=>if j<i then J3 x else x) s.rows.length (by omega) ?_ ?_
 ·refine⟨by simp only[eE,↓reduceIte,Nat.reduceEqDiff,reduceCtorEq,↓eP,rP,Nat.reduceAdd,Nat.reduceLT],by simp only[eE,↓reduceIte,Nat.reduceEqDiff,reduceCtorEq,↓eP,rP,Nat.reduceAdd,Nat.reduceLT],by simp only[eE,↓reduceIte,Nat.reduceEqDiff,reduceCtorEq,↓eP,rP,Nat.reduceAdd,Nat.reduceLT],by simp only[eE,↓reduceIte,Nat.reduceEqDiff,reduceCtorEq,↓eP,rP,Nat.reduceAdd,Nat.reduceLT];rfl,by omega,rfl,rfl,fun _ _=>rfl,s.rows,g1,fun j=>?_⟩
  simp
 rintro i ⟨T1,H1⟩ hi ⟨t1,t3,t11,t12,hil,m1,m2,m3,L,gL,hL⟩
 simp only at t1 t3 t11 t12 m1 m2 m3 gL
 have hLl:L.length=s.rows.length:=by
  rcases Nat.lt_trichotomy L.length s.rows.length with h9 | h9 | h9
  ·have:=hL L.length
   rw[List.getElem?_eq_none (Nat.le_refl _),List.getElem?_eq_getElem h9] at this
   cases this
  ·exact h9
  ·have:=hL s.rows.length
   rw[List.getElem?_eq_getElem h9,List.getElem?_eq_none (Nat.le_refl _)] at this
   cases this
 by_cases hlt:i<s.rows.length
 ·have c1:decide ((i:Int)<(s.rows.length:Int))=true:=by simp;omega
  obtain⟨x,hx⟩:∃ x,s.rows[i]?=some x:=⟨_,List.getElem?_eq_getElem hlt⟩
  have hLx:L[i]?=some x:=by rw[hL,hx];simp
  have ea:=i6 (id:=o) (n:=s.rows.length) (c:=c) hlt
  have lk:AH (i*5) (H1.get o)=some (iv x.kind):=by
   have h5:=RR hLx
   rw[gL]
   have:(L.flatMap AV)[i*5]?=(AV x)[0]?:=by
    rw[← h5,List.getElem?_take_of_lt (by omega),List.getElem?_drop,Nat.add_zero]
   simp only[AH,this]
   rfl
  have w1:=DF i (by omega)
  cases d:(x.kind != 27) with
  | false=>
   have hz:J3 x=x:=by
    unfold J3
    rw[if_neg (by simpa using d)]
   simp only[eE,seval,↓eP,t1,t3,t11,t12,c1,ea,BC,AL,lk,d,w1]
   refine⟨hlt,by omega,m1,m2,m3,L,gL,fun j=>?_⟩
   rw[hL j]
   by_cases hj:j=i
   ·subst hj
    rw[hx]
    simp[hz]
   ·congr 1
    funext y
    by_cases h9:j<i
    ·rw[if_pos h9,if_pos (by omega)]
    ·rw[if_neg h9,if_neg (by omega)]
  | true=>
   have hz:J3 x={ x with n:=0 }:=by
    unfold J3
    rw[if_pos (by simpa using d)]
   have hst:=GM (t:=3) (off:=i*5+3) (v:=iv 0) C7 rfl rfl gL (by rw[J7];omega) (by omega)
   rw[VN hLx] at hst
   simp only[eE,seval,↓eP,t1,t3,t11,t12,c1,ea,BC,F1,AL,lk,d,hst,w1]
   refine⟨hlt,by omega,m1,m2,fun j hj=>by rw[AR (by omega) (Ne.symm hj)];exact m3 j hj,G8 L i 0,BL rfl (by omega),fun j=>?_⟩
   by_cases hj:j=i
   ·subst hj
    rw[LU hLx,hx]
    simp[hz]
   ·rw[O2 hj,hL j]
    congr 1
    funext y
    by_cases h9:j<i
    ·rw[if_pos h9,if_pos (by omega)]
    ·rw[if_neg h9,if_neg (by omega)]
 have c1:decide ((i:Int)<(s.rows.length:Int))=false:=by simp;omega
 have:i=s.rows.length:=by omega
 subst this
 have hLz:L=A8 s.rows:=by
  apply List.ext_getElem?
  intro j
  rw[hL j,A8,List.getElem?_map]
  rcases Nat.lt_or_ge j s.rows.length with h9 | h9
  ·simp[h9]
  ·rw[List.getElem?_eq_none h9]
   rfl
 subst hLz
 have hvz:AQ H1 (qS o s.rows.length c) (A8 s.rows):=by
  refine⟨_,_,by rw[hLl],.inr ⟨o,0,_,_,_,_,rfl,gL,by omega,fun k r hk=>by rw[Nat.zero_add];exact RR hk⟩⟩
 have hw1:H1.get 0=EA:=by rw[m3 0 (by omega),o1 0 (by omega),gO 0 hn0];exact hg
 obtain⟨v2,h2,hres,pv,rfl,hp',f2,n2,o2⟩:=Xn (n:=n) (h:=H1) (by omega) hw1 (by omega) hvz (by omega) (by omega)
 obtain⟨vr',vq',vv',vt',vu',vo',rfl,b1,b2,b3,b4,b5,b6⟩:=hp'
 obtain⟨⟨hb,h3⟩,s1,s2,rO,n3,f3,o3⟩:=tF (H:=h2) (cs:=[.string (DU (A8 s.rows)).1,vr',vq',vv',vt',vu',vo',iv (DU (A8 s.rows)).2.miss]) (e:=(CV (A8 s.rows)).1.1) (p:=(CV (A8 s.rows)).1.2) rfl (HU b1 b2 b3 b4 b5 b6) (by omega)
 simp only at s1 s2 rO n3 f3 o3
 have HO:∀ i,i<h.next→h3.get i=h.get i:=fun i hi=>by rw[o3 i (by omega),o2 i (by omega),m3 i (by omega),o1 i (by omega),gO i hi]
 have HA:h3.get h.next=.row [.string nm,vr,vq,vv,vt,vu,vo,iv s.miss] 27 false false:=by rw[o3 _ (by omega),o2 _ (by omega),m3 _ (by omega),o1 _ (by omega)];exact gA
 obtain⟨x0,x1,x2,x3,x4,x5,x6,x7⟩:=U_ (a:=.string nm) (b:=vr) (c:=vq) (d:=vv) (e:=vt) (f:=vu) (g:=vo) (i:=iv s.miss) (ty:=27) (x:=false) (y:=false)
 obtain⟨y0,y1,y2,y3,y4,y5,y6,y7⟩:=U_ (a:=.string (DU (A8 s.rows)).1) (b:=vr') (c:=vq') (d:=vv') (e:=vt') (f:=vu') (g:=vo') (i:=iv (DU (A8 s.rows)).2.miss) (ty:=27) (x:=false) (y:=false)
 rw[← HA] at x0 x1 x2 x3 x4 x5 x6 x7
 rw[← rO.1] at y0 y1 y2 y3 y4 y5 y6 y7
 have lF:AH 0 (h3.get (h2.next+1))=some (iv (CV (A8 s.rows)).1.1):=by rw[rO.2];rfl
 have NN:h.next≤h3.next:=by omega
 have A1:=p1.1.mono NN HO
 have A2:=p2.mono NN fun i _ hi=>HO i hi
 have A3:=p3.mono NN fun i _ hi=>HO i hi
 have A4:=p4.mono NN fun i _ hi=>HO i hi
 have A5:=AW.mono p5 NN fun i _ hi=>HO i hi
 have A6:=AW.mono p6 NN fun i _ hi=>HO i hi
 have B1:=(b1.mono (h':=h3) (by omega) fun i _ hi=>o3 i hi).1
 have B2:=b2.mono (h':=h3) (by omega) fun i _ hi=>o3 i hi
 have B3:=b3.mono (h':=h3) (by omega) fun i _ hi=>o3 i hi
 have B4:=b4.mono (h':=h3) (by omega) fun i _ hi=>o3 i hi
 have B5:=AW.mono (h':=h3) b5 (by omega) fun i _ hi=>o3 i hi
 have B6:=AW.mono (h':=h3) b6 (by omega) fun i _ hi=>o3 i hi
 have hR:=Md (n:=n) A1 B1 (by omega) (by omega)
 have hQ:=Of (n:=n) A2 B2 (by omega) (by omega)
 have hV:=pG (n:=n) A3 B3 (by omega) (by omega)
 have hT:=pG (n:=n) A4 B4 (by omega) (by omega)
 have hU:=kQ (n:=n) A5 B5 (by omega) (by omega)
 have hO:=kQ (n:=n) A6 B6 (by omega) (by omega)
 have yes:(CV (A8 s.rows)).1.1=0→OK nm (DU (A8 s.rows)).1 s (DU (A8 s.rows)).2→FD nm s=0:=fun h8 h9=>if_pos ⟨h8,h9⟩
 have no1:(CV (A8 s.rows)).1.1≠0→FD nm s=23:=fun h8=>if_neg fun h9=>h8 h9.1
 have no2:¬ OK nm (DU (A8 s.rows)).1 s (DU (A8 s.rows)).2→FD nm s=23:=fun h8=>if_neg fun h9=>h8 h9.2
 simp only[eE,seval,↓eP,t1,t3,t11,t12,c1,hres,N3,NS,O9,EN,EO,FZ,EQ,s1,s2]
 cases d0:((CV (A8 s.rows)).1.1 != 0) with
 | true=>
  rw[no1 (by simpa using d0)]
  simp only[eE,seval,↓eP,hr,t1,List.append_eq,List.toList_toArray,Nat.zero_add,FH,FG,lF,KO,BN,D2,JM,JR,H9,ID,IV,FU,AL,BO,DZ,II,C3,x0,x1,x2,x3,x4,x5,x6,x7,y0,y1,y2,y3,y4,y5,y6,y7,JF,d0]
  exact HO
 | false=>
 cases d1:(!(nm==(DU (A8 s.rows)).1)) with
 | true=>
  rw[no2 fun h9=>by rw[h9.1,LK] at d1;cases d1]
  simp only[eE,seval,↓eP,hr,t1,List.append_eq,List.toList_toArray,Nat.zero_add,FH,FG,lF,KO,BN,D2,JM,JR,H9,ID,IV,FU,AL,BO,DZ,II,C3,x0,x1,x2,x3,x4,x5,x6,x7,y0,y1,y2,y3,y4,y5,y6,y7,JF,d0,d1]
  exact HO
 | false=>
 cases d2:(s.miss != (DU (A8 s.rows)).2.miss) with
 | true=>
  rw[no2 fun h9=>by rw[h9.2.1] at d2;simp at d2]
  simp only[eE,seval,↓eP,hr,t1,List.append_eq,List.toList_toArray,Nat.zero_add,FH,FG,lF,KO,BN,D2,JM,JR,H9,ID,IV,FU,AL,BO,DZ,II,C3,x0,x1,x2,x3,x4,x5,x6,x7,y0,y1,y2,y3,y4,y5,y6,y7,JF,d0,d1,d2]
  exact HO
 | false=>
 cases d3:decide (s.rows=(DU (A8 s.rows)).2.rows) with
 | false=>
  rw[d3] at hR
  rw[no2 fun h9=>(of_decide_eq_false d3) h9.2.2.1]
  simp only[eE,seval,↓eP,hr,t1,List.append_eq,List.toList_toArray,Nat.zero_add,FH,FG,lF,KO,BN,D2,JM,JR,H9,ID,IV,FU,AL,BO,DZ,II,C3,x0,x1,x2,x3,x4,x5,x6,x7,y0,y1,y2,y3,y4,y5,y6,y7,JF,d0,d1,d2,hR]
  exact HO
 | true=>
 rw[d3] at hR
 cases d4:decide (s.queues=(DU (A8 s.rows)).2.queues) with
 | false=>
  rw[d4] at hQ
  rw[no2 fun h9=>(of_decide_eq_false d4) h9.2.2.2.1]
  simp only[eE,seval,↓eP,hr,t1,List.append_eq,List.toList_toArray,Nat.zero_add,FH,FG,lF,KO,BN,D2,JM,JR,H9,ID,IV,FU,AL,BO,DZ,II,C3,x0,x1,x2,x3,x4,x5,x6,x7,y0,y1,y2,y3,y4,y5,y6,y7,JF,d0,d1,d2,hR,hQ]
  exact HO
 | true=>
 rw[d4] at hQ
 cases d5:decide (s.vars=(DU (A8 s.rows)).2.vars) with
 | false=>
  rw[d5] at hV
  rw[no2 fun h9=>(of_decide_eq_false d5) h9.2.2.2.2.1]
  simp only[eE,seval,↓eP,hr,t1,List.append_eq,List.toList_toArray,Nat.zero_add,FH,FG,lF,KO,BN,D2,JM,JR,H9,ID,IV,FU,AL,BO,DZ,II,C3,x0,x1,x2,x3,x4,x5,x6,x7,y0,y1,y2,y3,y4,y5,y6,y7,JF,d0,d1,d2,hR,hQ,hV]
  exact HO
 | true=>
 rw[d5] at hV
 cases d6:decide (s.tags=(DU (A8 s.rows)).2.tags) with
 | false=>
  rw[d6] at hT
  rw[no2 fun h9=>(of_decide_eq_false d6) h9.2.2.2.2.2.1]
  simp only[eE,seval,↓eP,hr,t1,List.append_eq,List.toList_toArray,Nat.zero_add,FH,FG,lF,KO,BN,D2,JM,JR,H9,ID,IV,FU,AL,BO,DZ,II,C3,x0,x1,x2,x3,x4,x5,x6,x7,y0,y1,y2,y3,y4,y5,y6,y7,JF,d0,d1,d2,hR,hQ,hV,hT]
  exact HO
 | true=>
 rw[d6] at hT
 cases d7:decide (s.rules=(DU (A8 s.rows)).2.rules) with
 | false=>
  rw[d7] at hU
  rw[no2 fun h9=>(of_decide_eq_false d7) h9.2.2.2.2.2.2.1]
  simp only[eE,seval,↓eP,hr,t1,List.append_eq,List.toList_toArray,Nat.zero_add,FH,FG,lF,KO,BN,D2,JM,JR,H9,ID,IV,FU,AL,BO,DZ,II,C3,x0,x1,x2,x3,x4,x5,x6,x7,y0,y1,y2,y3,y4,y5,y6,y7,JF,d0,d1,d2,hR,hQ,hV,hT,hU]
  exact HO
 | true=>
 rw[d7] at hU
 cases d8:decide (s.on=(DU (A8 s.rows)).2.on) with
 | false=>
  rw[d8] at hO
  rw[no2 fun h9=>(of_decide_eq_false d8) h9.2.2.2.2.2.2.2]
  simp only[eE,seval,↓eP,hr,t1,List.append_eq,List.toList_toArray,Nat.zero_add,FH,FG,lF,KO,BN,D2,JM,JR,H9,ID,IV,FU,AL,BO,DZ,II,C3,x0,x1,x2,x3,x4,x5,x6,x7,y0,y1,y2,y3,y4,y5,y6,y7,JF,d0,d1,d2,hR,hQ,hV,hT,hU,hO]
  exact HO
 | true=>
 rw[d8] at hO
 rw[yes (by simpa using d0) ⟨LQ (by simpa using d1),by simpa using d2,of_decide_eq_true d3,of_decide_eq_true d4,of_decide_eq_true d5,of_decide_eq_true d6,of_decide_eq_true d7,of_decide_eq_true d8⟩]
 simp only[eE,seval,↓eP,hr,t1,List.append_eq,List.toList_toArray,Nat.zero_add,FH,FG,lF,KO,BN,D2,JM,JR,H9,ID,IV,FU,AL,BO,DZ,II,C3,x0,x1,x2,x3,x4,x5,x6,x7,y0,y1,y2,y3,y4,y5,y6,y7,JF,d0,d1,d2,hR,hQ,hV,hT,hU,hO]
 exact HO
theorem uD {nm:ByteArray} {s:AM} {pv:Value} {lo:Nat} {h:AA} (hp:BP lo h pv nm s) (hlies:∀ nm' vr vq vv vt vu vo m,pv=.agg #[.string nm',vr,vq,vv,vt,vu,vo,m]→LX vr s.rows.length) (hs:FR s) (hl:s.rows.length<900000000) (hfl:h.floor≤h.next) (hg:h.get 0=EA) (hn0:0<h.next) (hn:2*C_ s+300<n) :
  AK n 27 [pv] h=some (iv (FD nm s),h):=by
 obtain⟨n,rfl⟩:=B8 hn
 exact HB (BD ⟨rfl,rfl,rfl⟩) rfl (yA hp hlies hs hl hfl hg hn0 (by omega) (by omega))
end
theorem lK {h:AA} {x:AB}:GD Tryz.prog h 22 1 [(0,CE x)]=some (qS h.next 1 1,h.push (.row (AV x) 60 false false)):=by
 simp[GD,Tryz.underlying22,FN,E1,flat,BS,FI,JX,B0,Go.Sx.lay]
 rfl
theorem mE {h:AA} {lo:Nat} {v:Value} {l:List AB} {x:AB} (hs:E2 h lo (fun _=>1) 1 v l.length (l.flatMap AV) 60) (hlo:lo≤h.next) (hf:h.floor≤lo) (hb:l.length<10000000) :
  ∃ v' h',D9 Tryz.prog (h.push (.row (AV x) 60 false false)) 22 v (qS h.next 1 1)=some (v',h')∧E2 h' lo (fun _=>1) 1 v' (l++[x]).length ((l++[x]).flatMap AV) 60∧h'.floor=h.floor∧h.next≤h'.next∧∀ i,i<lo→h'.get i=h.get i:=by
 have hs':E2 (h.push (.row (AV x) 60 false false)) lo (fun i=>if i=h.next then 0 else 1) 1 v l.length (l.flatMap AV) 60:=hs.mono (by show h.next≤h.next+1;omega) (fun i hi=>if_neg (by omega)) fun i _ hi _=>AU hi
 obtain⟨v',h1,a1,a2,a3,a4,a5,a6,a7⟩:=QI (et:=60) (w:=5) (c:=1) (sc:=1) (xs:=AV x) Tryz.underlying22 FN TE E1 rfl (by decide) (by decide) hs' (J7 l) (UU l) rfl rfl (by decide) (by decide) hb (src:=h.next) BX (by show h.next<h.next+1;omega) hf (by simp)
 have hnx:h1.next=h.next+2:=a4
 refine⟨v',h1,a1,?_,a3,by omega,fun i hi=>?_⟩
 ·rcases a2 with a2 | a2
  ·rcases a2 with⟨h2,_⟩ | ⟨id,ex,b1,b2,b3,b4,b5⟩
   ·omega
   ·refine .inr ⟨id,ex,?_,?_,b3,b4,rfl⟩
    ·rw[b1,List.length_append];rfl
    ·rw[b2,List.flatMap_append,List.flatMap_cons,List.flatMap_nil,List.append_nil]
  ·exact absurd (show lo≤h.next+1 by omega) a2
 ·rw[a7 i (by show i<h.next+1;omega) (by omega),AU (by omega)]
section
variable {call:AS} {n N:Nat} {h:AA}
theorem Rq {l:List AB} {v:Value} (hv:AQ h v l) (hl:l.length<9000000) (hfl:h.floor≤h.next) (hN:l.length+5<N) :
  ∃ v' h',AY Tryz.prog call N 62 [v] h=some (v',h')∧AN h.next h' v' (A8 l).length 5 ((A8 l).flatMap AV)∧h'.floor=h.floor∧h.next≤h'.next∧∀ i,i<h.next→h'.get i=h.get i:=by
 refine MH (R:=fun v' h'=>AN h.next h' v' (A8 l).length 5 ((A8 l).flatMap AV)∧h'.floor=h.floor∧h.next≤h'.next∧∀ i,i<h.next→h'.get i=h.get i) Tryz.func62 rfl (by simp[Tryz.f62]) ?_
 have hr:Tryz.f62.results.toList=[.tmp 2]:=rfl
 simp only[eE,seval,↓eP]
 refine WK.loop (fun i s'=>s'.T.get 0=v∧s'.T.get 4=iv i∧i≤l.length∧h.next≤s'.h.next∧s'.h.floor=h.floor∧(∀ i,i<h.next→s'.h.get i=h.get i)∧∃ u,s'.T.get 3=u∧E2 s'.h h.next (fun _=>1) 1 u (A8 (l.take i)).length ((A8 (l.take i)).flatMap AV) 60) l.length (by omega) ?_ ?_
 ·exact⟨by simp only[eE,↓reduceIte,Nat.reduceEqDiff,reduceCtorEq,↓eP,rP,Nat.reduceAdd,Nat.reduceLT],by simp only[eE,↓reduceIte,Nat.reduceEqDiff,reduceCtorEq,↓eP,rP,Nat.reduceAdd,Nat.reduceLT];rfl,by omega,Nat.le_refl _,rfl,fun _ _=>rfl,_,by simp only[eE,↓reduceIte,Nat.reduceEqDiff,reduceCtorEq,↓eP,rP,Nat.reduceAdd,Nat.reduceLT],UI⟩
 rintro i ⟨T1,H1⟩ hi ⟨t0,t4,hil,n1,f1,o1,u,t3,hS⟩
 simp only at t0 t4 n1 f1 o1 t3 hS
 have hv1:AQ H1 v l:=hv.mono n1 o1
 have hlen:=fun h'=>hv1.len (h':=h')
 by_cases hlt:i<l.length
 ·have c1:decide ((i:Int)<(l.length:Int))=true:=by simp;omega
  obtain⟨x,hx⟩:∃ x,l[i]?=some x:=⟨_,List.getElem?_eq_getElem hlt⟩
  obtain⟨rid,p,e0,hid,l0,l1,l2,l3,l4,lr⟩:=hv1.row hx
  have hz:flat (.agg #[.int .i64 0,.string ByteArray.empty,.int .i64 0,.int .i64 0,.int .i64 0])=true:=rfl
  have hzc:=DV DS
  have hst:BB Tryz.prog (H1.push (.row DS 60 false false)) 60 (qP H1.next 0) (.agg #[.int .i64 x.kind,.string x.name,.int .i64 x.ends,.int .i64 x.n,.int .i64 x.kids])=some ((H1.push (.row DS 60 false false)).put H1.next (.row (AV x) 60 false false)):=iX (by omega)
  have gN:((H1.push (.row DS 60 false false)).put H1.next (.row (AV x) 60 false false)).get H1.next=.row (AV x) 60 false false:=BL rfl (by show H1.next<H1.next+1;omega)
  have gO:∀ i,i<H1.next→((H1.push (.row DS 60 false false)).put H1.next (.row (AV x) 60 false false)).get i=H1.get i:=fun i hi=>by rw[AR (by show H1.next<H1.next+1;omega) (by omega),AU hi]
  have nG:((H1.push (.row DS 60 false false)).put H1.next (.row (AV x) 60 false false)).next=H1.next+1:=rfl
  have fG:((H1.push (.row DS 60 false false)).put H1.next (.row (AV x) 60 false false)).floor=H1.floor:=rfl
  generalize (H1.push (.row DS 60 false false)).put H1.next (.row (AV x) 60 false false)=G at *
  have w1:=DF i (by omega)
  have lk:AH 0 (G.get H1.next)=some (iv x.kind):=by rw[gN];rfl
  have htk:A8 (l.take (i+1))=A8 (l.take i)++[J3 x]:=by
   rw[List.take_add_one,hx,A8,A8,List.map_append]
   rfl
  have hlt2:(A8 (l.take i)).length<10000000:=by
   rw[A8,List.length_map,List.length_take]
   omega
  cases d:(x.kind != 27) with
  | false=>
   have hz1:J3 x=x:=by unfold J3;rw[if_neg (by simpa using d)]
   have lw:A_ 5 0 (G.get H1.next)=some (CE x):=by rw[gN];rfl
   have hSG:E2 G h.next (fun _=>1) 1 u (A8 (l.take i)).length ((A8 (l.take i)).flatMap AV) 60:=hS.mono (by omega) (fun _ _=>rfl) fun i _ hi _=>gO i hi
   obtain⟨v',H2,ha,hS2,f2,n2,o2⟩:=mE (x:=x) hSG (by omega) (by omega) hlt2
   simp only[eE,seval,↓eP,t0,t3,t4,hlen,c1,e0,FQ,lr,E1,hz,hzc,hst,BC,AL,lk,d,lw,lK,ha,w1]
   refine⟨hlt,by omega,by omega,by omega,fun i hi=>by rw[o2 i hi,gO i (by omega),o1 i hi],?_⟩
   rw[htk,hz1]
   exact hS2
  | true=>
   have hz1:J3 x={ x with n:=0 }:=by unfold J3;rw[if_pos (by simpa using d)]
   have hs3:=GM (t:=3) (off:=3) (v:=iv 0) C7 rfl rfl gN (by show 3<5;omega) (by omega)
   have gN2:(G.put H1.next (.row ((AV x).set 3 (iv 0)) 60 false false)).get H1.next=.row (AV { x with n:=0 }) 60 false false:=BL rfl (by omega)
   have gO2:∀ i,i<H1.next→(G.put H1.next (.row ((AV x).set 3 (iv 0)) 60 false false)).get i=H1.get i:=fun i hi=>by rw[AR (by omega) (by omega),gO i hi]
   have nG2:(G.put H1.next (.row ((AV x).set 3 (iv 0)) 60 false false)).next=H1.next+1:=nG
   have fG2:(G.put H1.next (.row ((AV x).set 3 (iv 0)) 60 false false)).floor=H1.floor:=fG
   generalize G.put H1.next (.row ((AV x).set 3 (iv 0)) 60 false false)=G2 at *
   have lw:A_ 5 0 (G2.get H1.next)=some (CE { x with n:=0 }):=by rw[gN2];rfl
   have hSG:E2 G2 h.next (fun _=>1) 1 u (A8 (l.take i)).length ((A8 (l.take i)).flatMap AV) 60:=hS.mono (by omega) (fun _ _=>rfl) fun i _ hi _=>gO2 i hi
   obtain⟨v',H2,ha,hS2,f2,n2,o2⟩:=mE (x:={ x with n:=0 }) hSG (by omega) (by omega) hlt2
   simp only[eE,seval,↓eP,Nat.zero_add,t0,t3,t4,hlen,c1,e0,FQ,lr,E1,hz,hzc,hst,BC,F1,AL,lk,d,hs3,lw,lK,ha,w1]
   refine⟨hlt,by omega,by omega,by omega,fun i hi=>by rw[o2 i hi,gO2 i (by omega),o1 i hi],?_⟩
   rw[htk,hz1]
   exact hS2
 have c1:decide ((i:Int)<(l.length:Int))=false:=by simp;omega
 have:i=l.length:=by omega
 subst this
 rw[List.take_length] at hS
 simp only[eE,seval,↓eP,hr,t0,t3,t4,hlen,c1]
 exact⟨hS.cells (J7 _),f1,n1,o1⟩
theorem Xb {l:List AB} {v:Value} (hv:AQ h v l) (hl:l.length<9000000) (hfl:h.floor≤h.next) (hn:l.length+10<n) :
  ∃ v' h',AK n 62 [v] h=some (v',h')∧AQ h' v' (A8 l)∧h'.floor=h.floor∧h.next≤h'.next∧∀ i,i<h.next→h'.get i=h.get i:=by
 obtain⟨n,rfl⟩:=B8 hn
 have hex:=MG (n:=n) (R:=fun v' h'=>AN h.next h' v' (A8 l).length 5 ((A8 l).flatMap AV)∧h'.floor=h.floor∧h.next≤h'.next∧∀ i,i<h.next→h'.get i=h.get i) (BD (f:=62) (args:=[v]) (h:=h) ⟨rfl,rfl,rfl⟩) (Rq (call:=AK n) (N:=n) hv hl hfl (by omega)) fun v' h1 hf _ ⟨hc,_⟩=>⟨hc.flat ?_ _ _,rfl,Nat.le_refl _,fun _ _=>rfl⟩
 ·obtain⟨v',h',e,hc,a⟩:=hex
  exact⟨v',h',e,(IN.of hc).1,a⟩
 ·obtain⟨_,a,c,rfl,_⟩:=hc
  exact hf
theorem Bh {nm:ByteArray} {s:AM} {pv:Value} {lo:Nat} (hp:BP lo h pv nm s) (h64:∀ x∈s.rows,x.kids≤9223372036854775807) (hs:FR s) (hl:s.rows.length<9000000) (hfl:h.floor≤h.next) (hn:C_ s+100200<n) :
  ∃ h',AY Tryz.prog (AK n) N 34 [pv] h=some (iv (FD nm s),h')∧∀ i,i<h.next→h'.get i=h.get i:=by
 obtain⟨vr,vq,vv,vt,vu,vo,rfl,p1,p2,p3,p4,p5,p6⟩:=hp
 refine DW (R:=fun h'=>∀ i,i<h.next→h'.get i=h.get i) Tryz.func34 rfl (by simp[Tryz.f34]) ?_
 have hr:Tryz.f34.results.toList=[.tmp 2]:=rfl
 have htot:C_ s=s.rows.length+s.queues.length+s.vars.length+s.tags.length+s.rules.length+s.on.length:=rfl
 have ca:=DV [.string nm,vr,vq,vv,vt,vu,vo,iv s.miss]
 have oa:=HU (nm:=nm) p1 p2 p3 p4 p5 p6
 have gA:(h.push (.row [.string nm,vr,vq,vv,vt,vu,vo,iv s.miss] 27 false false)).get h.next=.row [.string nm,vr,vq,vv,vt,vu,vo,iv s.miss] 27 false false:=BX
 have gO:∀ i,i<h.next→(h.push (.row [.string nm,vr,vq,vv,vt,vu,vo,iv s.miss] 27 false false)).get i=h.get i:=fun i hi=>AU hi
 have nA:(h.push (.row [.string nm,vr,vq,vv,vt,vu,vo,iv s.miss] 27 false false)).next=h.next+1:=rfl
 have fA:(h.push (.row [.string nm,vr,vq,vv,vt,vu,vo,iv s.miss] 27 false false)).floor=h.floor:=rfl
 show WK _ _ _ (.seq _ (.seq _ (.seq _ _))) _ _
 simp only[eE,seval,↓eP,C2,CW,C6,ca,oa,FM]
 generalize h.push (.row [.string nm,vr,vq,vv,vt,vu,vo,iv s.miss] 27 false false)=A at *
 have l1:AH 1 (A.get h.next)=some vr:=by rw[gA];rfl
 have P1:AQ A vr s.rows:=p1.1.mono (by omega) gO
 obtain⟨v',h1,hpl,hvz,f1,n1,o1⟩:=Xb (n:=n) P1 hl (by omega) (by omega)
 have hzl:(A8 s.rows).length=s.rows.length:=by rw[A8,List.length_map]
 have hz64:∀ x∈A8 s.rows,x.kids≤9223372036854775807:=fun x hx=>by
  obtain⟨y,hy,rfl⟩:=List.mem_map.1 hx
  have:=h64 y hy
  unfold J3
  split <;> exact this
 obtain⟨v2,h2,hres,pv,rfl,hp',f2,n2,o2⟩:=zF (n:=n) (h:=h1) (by omega) hvz (by omega) hz64 (by omega)
 obtain⟨vr',vq',vv',vt',vu',vo',rfl,b1,b2,b3,b4,b5,b6⟩:=hp'
 obtain⟨⟨hb,h3⟩,s1,s2,rO,n3,f3,o3⟩:=tF (H:=h2) (cs:=[.string (DU (A8 s.rows)).1,vr',vq',vv',vt',vu',vo',iv (DU (A8 s.rows)).2.miss]) (e:=(CV (A8 s.rows)).1.1) (p:=(CV (A8 s.rows)).1.2) rfl (HU b1 b2 b3 b4 b5 b6) (by omega)
 simp only at s1 s2 rO n3 f3 o3
 have HO:∀ i,i<h.next→h3.get i=h.get i:=fun i hi=>by rw[o3 i (by omega),o2 i (by omega),o1 i (by omega),gO i hi]
 have HA:h3.get h.next=.row [.string nm,vr,vq,vv,vt,vu,vo,iv s.miss] 27 false false:=by rw[o3 _ (by omega),o2 _ (by omega),o1 _ (by omega)];exact gA
 have LA:A_ 8 0 (h3.get h.next)=some (.agg #[.string nm,vr,vq,vv,vt,vu,vo,iv s.miss]):=by rw[HA];rfl
 have LB:A_ 8 0 (h3.get h2.next)=some (.agg #[.string (DU (A8 s.rows)).1,vr',vq',vv',vt',vu',vo',iv (DU (A8 s.rows)).2.miss]):=by rw[rO.1];rfl
 have lF:AH 0 (h3.get (h2.next+1))=some (iv (CV (A8 s.rows)).1.1):=by rw[rO.2];rfl
 have NN:h.next≤h3.next:=by omega
 have hpA:BP lo h3 (.agg #[.string nm,vr,vq,vv,vt,vu,vo,iv s.miss]) nm s:=⟨vr,vq,vv,vt,vu,vo,rfl,p1.mono NN fun i _ hi=>HO i hi,p2.mono NN fun i _ hi=>HO i hi,p3.mono NN fun i _ hi=>HO i hi,p4.mono NN fun i _ hi=>HO i hi,AW.mono p5 NN fun i _ hi=>HO i hi,AW.mono p6 NN fun i _ hi=>HO i hi⟩
 have hpB:BP h1.next h3 (.agg #[.string (DU (A8 s.rows)).1,vr',vq',vv',vt',vu',vo',iv (DU (A8 s.rows)).2.miss]) (DU (A8 s.rows)).1 (DU (A8 s.rows)).2:=
  BP.mono ⟨vr',vq',vv',vt',vu',vo',rfl,b1,b2,b3,b4,b5,b6⟩ (by omega) fun i _ hi=>o3 i hi
 obtain⟨b,hsame,hb'⟩:=Wy (n:=n) (h:=h3) hpA hpB hs (by omega)
 simp only[eE,seval,↓eP,Nat.zero_add,BN,BO,l1,hpl,hres,N3,NS,O9,EN,EO,FZ,EQ,s1,s2]
 cases d0:((CV (A8 s.rows)).1.1 != 0) with
 | true=>
  rw[show FD nm s=23 from if_neg fun h9=>absurd h9.1 (by simpa using d0)]
  simp only[eE,seval,↓eP,hr,FH,FG,lF,d0]
  exact HO
 | false=>
  cases b with
  | true=>
   rw[show FD nm s=0 from if_pos ⟨by simpa using d0,hb'.1 rfl⟩]
   simp only[eE,seval,↓eP,hr,FH,FG,lF,d0,DT,LA,LB,hsame]
   exact HO
  | false=>
   rw[show FD nm s=23 from if_neg fun h9=>by have:=hb'.2 h9.2;cases this]
   simp only[eE,seval,↓eP,hr,FH,FG,lF,d0,DT,LA,LB,hsame]
   exact HO
theorem vZ {nm:ByteArray} {s:AM} {pv:Value} {lo:Nat} (hp:BP lo h pv nm s) (h64:∀ x∈s.rows,x.kids≤9223372036854775807) (hs:FR s) (hl:s.rows.length<9000000) (hfl:h.floor≤h.next) (hn:C_ s+100300<n) :
  AK n 34 [pv] h=some (iv (FD nm s),h):=by
 obtain⟨n,rfl⟩:=B8 hn
 exact HB (BD ⟨rfl,rfl,rfl⟩) rfl (Bh (N:=n) hp h64 hs hl hfl (by omega))
end
theorem gH {l:List AB}:∀ (a b p q r:Nat),EY l a p q→EY l b q r→EY l (a+b) p r
 | 0,b,p,q,r,h,h2=>by
  have:p=q:=h
  subst this
  rw[Nat.zero_add]
  exact h2
 | a+1,b,p,q,r,⟨p',h1,h3,h4,h5⟩,h2=>by
  rw[show a+1+b=(a+b)+1 by omega]
  exact⟨p',h1,h3,h4,gH a b p' q r h5 h2⟩
section
variable {call:AS} {N:Nat} {h:AA}
theorem Mo {Z L:List AB} {v:Value} {at_ q:Nat} (hsk:KY L Z) (hv:AQ h v L) (hs:EK Z at_ q) (hlen:L.length<1099511627776) (hN:L.length+3<N) :
  AY Tryz.prog call N 60 [v,iv at_] h=some (iv q,h):=by
 refine CO Tryz.func60 rfl (by simp[Tryz.f60]) ?_
 have hr:Tryz.f60.results.toList=[.tmp 4]:=rfl
 have hl:=fun h'=>hv.len (h':=h')
 have hq:=hs.lt
 have hZ:=hsk.1
 simp only[eE,seval,↓eP,rP,hr]
 refine WK.loop (fun i s'=>s'.h=h∧s'.T.get 0=v∧s'.T.get 1=iv ((at_+i:Nat):Int)∧∃ r:Nat,s'.T.get 5=iv r∧EY Z r (at_+i) q) (q-at_) (by omega) ?_ ?_
 ·exact⟨rfl,by simp only[eE,seval,↓eP,rP],by simp only[eE,seval,↓eP,rP,Nat.add_zero],1,by simp only[eE,seval,↓eP,rP],q,hs,hq.1,hq.2,rfl⟩
 rintro i ⟨T1,H1⟩ hi ⟨rfl,t0,t1,r,t5,hc⟩
 simp only at t0 t1 t5
 cases r with
 | zero=>
  have hpq:at_+i=q:=hc
  have c1:decide (((0:Nat):Int)>0)=false:=rfl
  rw[hpq] at t1
  simp only[eE,seval,↓eP,rP,hr,t0,t1,t5,c1]
 | succ r=>
  obtain⟨p',h1,h2,h3,h4⟩:=hc
  have hle:=HJ _ _ _ h4
  have c1:decide (((r+1:Nat):Int)>0)=true:=decide_eq_true (by omega)
  have c2:decide (((at_+i:Nat):Int)≥0)=true:=decide_eq_true (by omega)
  have c3:decide (((at_+i:Nat):Int)<(L.length:Int))=true:=by simp;omega
  obtain⟨x,hx,hk0,_,hch⟩:=h1.kids
  obtain⟨y,hy,hyk⟩:=hsk.2 _ x hx
  obtain⟨id,p,e0,hid,l0,l1,l2,l3,l4,lr⟩:=hv.row hy
  rw[hyk] at l4
  have hcl:=HJ _ _ _ hch
  have m1:(if (L.length:Int)<x.kids then (L.length:Int) else x.kids)=x.kids:=if_neg (by omega)
  have m2:(if x.kids>0 then x.kids else 0)=x.kids:=by split <;> omega
  have w1:IntKind.i64.wrap (x.kids-1)=x.kids-1:=BT (by omega) (by omega)
  have w2:IntKind.i64.wrap (((r+1:Nat):Int)+(x.kids-1))=((x.kids.toNat+r:Nat):Int):=by rw[BT (by omega) (by omega)];omega
  have w3:IntKind.i64.wrap (((at_+i:Nat):Int)+1)=((at_+(i+1):Nat):Int):=by rw[BT (by omega) (by omega)];omega
  simp only[eE,seval,↓eP,rP,t0,t1,t5,c1,c2,hl,c3,e0,l4,m1,m2,w1,w2,w3]
  exact⟨by omega,_,rfl,gH _ _ _ _ _ hch h4⟩
theorem Hn {n:Nat} {Z L:List AB} {v:Value} {at_ q:Nat} (hsk:KY L Z) (hv:AQ h v L) (hs:EK Z at_ q) (hlen:L.length<1099511627776) (hn:L.length+5<n) :
  AK n 60 [v,iv at_] h=some (iv q,h):=by
 obtain⟨n,rfl⟩:=B8 hn
 exact D4 (BD ⟨rfl,rfl,rfl⟩) rfl (Mo hsk hv hs hlen (by omega))
def BA (e:Nat→Nat):Nat→Nat→List Nat
 | 0,_=>[]
 | k+1,p=>p :: BA e k (e p)
theorem NF {e:Nat→Nat}:∀ k p,(BA e k p).length=k
 | 0,p=>rfl
 | k+1,p=>by show (BA e k (e p)).length+1=_;rw[NF k (e p)]
def IK (h:AA) (lo:Nat) (v:Value) (l:List Int):Prop:=
 (v=Z0∧l=[])∨∃ id c,v=qS id l.length c∧lo≤id∧id<h.next∧((c=AO∧h.get id=.row (ints l) 3 true false)∨(c=l.length∧h.get id=.row (ints l) 3 false false))
theorem IK.ints {lo lo':Nat} {v:Value} {l:List Int} (hl:IK h lo v l) (hle:lo'≤lo):AW lo' h v l:=by
 rcases hl with⟨rfl,rfl⟩ | ⟨id,c,rfl,h1,h2,⟨_,h3⟩ | ⟨_,h3⟩⟩
 ·exact AN.nil lo' h 1
 ·exact AW.row' h3 ⟨by omega,h2⟩ rfl
 ·exact AW.row' h3 ⟨by omega,h2⟩ rfl
theorem IK.mono {h':AA} {lo:Nat} {v:Value} {l:List Int} (hl:IK h lo v l) (hn:h.next≤h'.next) (hg:∀ i,lo≤i→i<h.next→h'.get i=h.get i):IK h' lo v l:=by
 rcases hl with h1 | ⟨id,c,h1,h2,h3,h4⟩
 ·exact .inl h1
 ·exact .inr ⟨id,c,h1,h2,by omega,by rw[hg id h2 h3];exact h4⟩
theorem WP:(Value.int .i64 0).cells.size=1:=rfl
theorem UY {lo:Nat} {v:Value} {l:List Int} {x:Int} (hl:IK h lo v l) (hlo:lo≤h.next) (hf:h.floor≤lo) (hb:l.length<100000000000) :
  ∃ v' h',D9 Tryz.prog (h.push (.row [iv x] 3 false false)) 25 v (qS h.next 1 1)=some (v',h')∧IK h' lo v' (l++[x])∧h'.floor=h.floor∧h.next≤h'.next∧∀ i,i<lo→h'.get i=h.get i:=by
 have hsrc:EU (h.push (.row [iv x] 3 false false)) 1 1 (qS h.next 1 1)=some [iv x]:=by
  simp only[EU,BX]
  rfl
 have hone:([iv x]:List Value).all one=true:=rfl
 have hi1:ints (l++[x])=ints l++[iv x]:=by simp[ints]
 rcases hl with⟨rfl,rfl⟩ | ⟨id,c,rfl,h1,h2,h3⟩
 ·have hnu:(0:Nat)≠AO:=by unfold AO;omega
  refine⟨.slice (some ⟨(h.push (.row [iv x] 3 false false)).next,0,none⟩) 1 AO,(h.push (.row [iv x] 3 false false)).push (.row [iv x] 3 true false),?_,.inr ⟨_,AO,rfl,?_,?_,.inl ⟨rfl,BX⟩⟩,rfl,by show h.next≤h.next+1+1;omega,fun i hi=>?_⟩
  ·have h0:EU (h.push (.row [iv x] 3 false false)) 1 0 (Z0)=some []:=by simp[EU]
   simp only[D9,Tryz.underlying25,C7,LS,JK,WP,hsrc,hone,h0]
   rw[if_pos (by simp),if_pos trivial,if_neg hnu,if_neg (by omega),if_pos (by simp)]
   rfl
  ·show lo≤h.next+1;omega
  ·show h.next+1<h.next+1+1;omega
  ·rw[AU (by show i<h.next+1;omega),AU (by omega)]
 ·have hll:(ints l).length=l.length:=F9 l
  rcases h3 with⟨rfl,hg⟩ | ⟨rfl,hg⟩
  ·have hu:l.length≤AO:=by unfold AO;omega
   have hg':(h.push (.row [iv x] 3 false false)).get id=.row (ints l) 3 true false:=by rw[AU h2];exact hg
   have hcut:GS (ints l) 0 (l.length*1)=some (ints l):=by
    simp only[GS,List.drop_zero]
    rw[List.take_of_length_le (by omega),if_pos (by omega)]
   refine⟨.slice (some ⟨(h.push (.row [iv x] 3 false false)).next,0,none⟩) (l.length+1) AO,((h.push (.row [iv x] 3 false false)).put id .dead).push (.row (ints l++[iv x]) 3 true false),?_,.inr ⟨_,AO,by rw[List.length_append];rfl,?_,?_,.inl ⟨rfl,?_⟩⟩,rfl,by show h.next≤h.next+1+1;omega,fun i hi=>?_⟩
   ·simp only[D9,Tryz.underlying25,C7,LS,JK,WP,hsrc,hone,hg',hcut,QK]
    rw[if_pos (by simp;omega),if_pos trivial,if_pos trivial,if_pos (by rw[JQ,decide_eq_true (show (l.length+1)*8≤140737488355328 by omega),decide_eq_true (show l.length+1≤140737488355328 by omega),decide_eq_true (show h.floor≤id by omega)];rfl),if_neg (by decide),if_pos trivial,if_pos trivial]
   ·show lo≤h.next+1;omega
   ·show h.next+1<h.next+1+1;omega
   ·rw[hi1]
    exact BX
   ·rw[AU (by show i<h.next+1;omega),AR (by show id<h.next+1;omega) (by omega),AU (by omega)]
  ·have hcut:EU (h.push (.row [iv x] 3 false false)) 1 l.length (qS id l.length l.length)=some (ints l):=by
    by_cases h0:l.length=0
    ·rw[List.length_eq_zero_iff.1 h0]
     rfl
    ·simp only[EU,AU h2,hg,GS,List.drop_zero]
     rw[if_neg h0,List.take_of_length_le (by omega),if_pos (by omega)]
   refine⟨.slice (some ⟨(h.push (.row [iv x] 3 false false)).next,0,none⟩) (l.length+1) AO,(h.push (.row [iv x] 3 false false)).push (.row (ints l++[iv x]) 3 true false),?_,.inr ⟨_,AO,by rw[List.length_append];rfl,?_,?_,.inl ⟨rfl,?_⟩⟩,rfl,by show h.next≤h.next+1+1;omega,fun i hi=>?_⟩
   ·simp only[D9,Tryz.underlying25,C7,LS,JK,WP,hsrc,hone,hcut]
    rw[if_pos (by simp),if_pos trivial,if_neg (by unfold AO;omega),if_neg (by omega),if_pos (by simp only[Bool.and_eq_true,decide_eq_true_eq];omega)]
   ·show lo≤h.next+1;omega
   ·show h.next+1<h.next+1+1;omega
   ·rw[hi1]
    exact BX
   ·rw[AU (by show i<h.next+1;omega),AU (by omega)]
theorem Mp {n:Nat} {Z L:List AB} {v:Value} {at_:Nat} {x:AB} (ht:CU Z) (hsk:KY L Z) (hv:AQ h v L) (hx:Z[at_]?=some x) (hlen:L.length<100000000) (hn:L.length+10<n) (hN:L.length+3<N) (hfl:h.floor≤h.next) :
  ∃ v' h',AY Tryz.prog (AK n) N 31 [v,iv at_] h=some (v',h')∧(IK h' h.next v' ((BA (AC Z) x.kids.toNat (at_+1)).map (fun (k:Nat)=>(k:Int)))∧h'.floor=h.floor∧h.next≤h'.next∧∀ i,i<h.next→h'.get i=h.get i):=by
 refine MH (R:=fun v' h'=>IK h' h.next v' ((BA (AC Z) x.kids.toNat (at_+1)).map (fun (k:Nat)=>(k:Int)))∧h'.floor=h.floor∧h.next≤h'.next∧∀ i,i<h.next→h'.get i=h.get i) Tryz.func31 rfl (by simp[Tryz.f31]) ?_
 have hr:Tryz.f31.results.toList=[.tmp 4]:=rfl
 have hl:=fun (h':AA)=>hv.len (h':=h')
 have hal:=(List.getElem?_eq_some_iff.1 hx).1
 have hZ:=hsk.1
 have hs:=ht.end hal
 obtain⟨x',hx',hk0,_,hch⟩:=hs.kids
 rw[hx] at hx'
 cases hx'
 have hq:=hs.lt
 have hcl:=HJ _ _ _ hch
 obtain⟨y,hy,hyk⟩:=hsk.2 _ x hx
 obtain⟨id,p,e0,hid,l0,l1,l2,l3,l4,lr⟩:=hv.row hy
 rw[hyk] at l4
 have c1:decide ((at_:Int)<0)=false:=by simp
 have c2:decide ((at_:Int)≥(L.length:Int))=false:=by simp;omega
 have w1:=DF at_ (by omega)
 simp only[eE,seval,↓eP,rP,hr,c1,hl,c2,w1,e0,l4]
 refine WK.loop (fun i s'=>s'.T.get 0=v∧s'.T.get 21=iv x.kids∧s'.T.get 22=iv i∧i≤x.kids.toNat∧h.next≤s'.h.next∧s'.h.floor=h.floor∧(∀ j,j<h.next→s'.h.get j=h.get j)∧∃ p l w,s'.T.get 6=iv ((p:Nat):Int)∧s'.T.get 5=w∧IK s'.h h.next w (l.map (fun (k:Nat)=>(k:Int)))∧l.length=i∧l++BA (AC Z) (x.kids.toNat-i) p=BA (AC Z) x.kids.toNat (at_+1)∧EY Z (x.kids.toNat-i) p (AC Z at_)) x.kids.toNat (by omega) ?_ ?_
 ·exact⟨by simp only[eE,seval,↓eP,rP],by simp only[eE,seval,↓eP,rP],by simp only[eE,seval,↓eP,rP],by omega,Nat.le_refl _,rfl,fun _ _=>rfl,at_+1,[],Z0,by simp only[eE,seval,↓eP,rP],by simp only[eE,seval,↓eP,rP],.inl ⟨rfl,rfl⟩,rfl,rfl,hch⟩
 rintro i ⟨T1,H1⟩ hi ⟨t0,t21,t22,hil,m1,m2,m3,p,l,w,t6,t5,hL,hll,hlk,hc⟩
 simp only at t0 t21 t22 m1 m2 m3 t6 t5 hL
 by_cases hlt:i<x.kids.toNat
 ·have d1:decide ((i:Int)<x.kids)=true:=by simp;omega
  obtain⟨r,hr1⟩:∃ r,x.kids.toNat-i=r+1:=⟨x.kids.toNat-i-1,by omega⟩
  rw[hr1] at hc hlk
  obtain⟨p',s1,s2,s3,s4⟩:=hc
  have hle:=HJ _ _ _ s4
  have d2:decide ((p:Int)≥(L.length:Int))=false:=by simp;omega
  have hep:=IY s1
  obtain⟨w',H',happ,hL',fH,nH,oH⟩:=UY (x:=(p:Int)) hL m1 (by omega) (by rw[List.length_map];omega)
  have hvH:AQ H' v L:=hv.mono (by omega) fun j hj=>(oH j hj).trans (m3 j hj)
  have hend:=Hn (n:=n) hsk hvH s1 (by omega) (by omega)
  have w2:=DF i (by omega)
  simp only[eE,seval,↓eP,t0,t21,t22,t5,t6,d1,hl,d2,LI,happ,hend,w2]
  refine⟨hlt,by omega,by omega,by omega,fun j hj=>(oH j hj).trans (m3 j hj),p',l++[p],w',rfl,rfl,?_,by rw[List.length_append,hll];rfl,?_,?_⟩
  ·rw[List.map_append]
   exact hL'
  ·rw[List.append_assoc,← hlk,show x.kids.toNat-(i+1)=r by omega]
   show l++(p :: BA (AC Z) r p')=l++(p :: BA (AC Z) r (AC Z p))
   rw[hep]
  ·rw[show x.kids.toNat-(i+1)=r by omega]
   exact s4
 ·have d1:decide ((i:Int)<x.kids)=false:=by simp;omega
  rw[show x.kids.toNat-i=0 by omega] at hlk
  have hl9:l=BA (AC Z) x.kids.toNat (at_+1):=by
   rw[← hlk]
   exact(List.append_nil l).symm
  subst hl9
  simp only[eE,seval,↓eP,hr,t0,t21,t22,t5,t6,d1]
  exact⟨hL,m2,m1,m3⟩
theorem IK.flat {lo:Nat} {v:Value} {l:List Int} (hl:IK h lo v l) (hf:E9 v=true) (h':AA) (lo':Nat):IK h' lo' v l:=by
 rcases hl with h1 | ⟨id,c,rfl,_⟩
 ·exact .inl h1
 ·cases hf
theorem bQ {n:Nat} {Z L:List AB} {v:Value} {at_:Nat} {x:AB} (ht:CU Z) (hsk:KY L Z) (hv:AQ h v L) (hx:Z[at_]?=some x) (hlen:L.length<100000000) (hn:L.length+20<n) (hfl:h.floor≤h.next) :
  ∃ v' h',AK n 31 [v,iv at_] h=some (v',h')∧(IK h' h.next v' ((BA (AC Z) x.kids.toNat (at_+1)).map (fun (k:Nat)=>(k:Int)))∧h'.floor=h.floor∧h.next≤h'.next∧∀ i,i<h.next→h'.get i=h.get i):=by
 obtain⟨n,rfl⟩:=B8 hn
 exact MG (BD ⟨rfl,rfl,rfl⟩) (Mp (n:=n) (N:=n) ht hsk hv hx hlen (by omega) (by omega) hfl) fun v' h1 hf _ ht=>⟨ht.1.flat hf _ _,rfl,Nat.le_refl _,fun _ _=>rfl⟩
end
section
variable {l:List AB} {m:Nat}
theorem g_ {p:Nat} {what:Int} (h:(BW AZ l m p what).2=true):∃ y:AB,l[p]?=some y∧CA what y.kind=true∧DR AZ y=true:=by
 cases m with
 | zero=>cases h
 | succ m=>
  unfold BW at h
  cases hx:l[p]? with
  | none=>rw[hx] at h;cases h
  | some y=>
   rw[hx] at h
   simp only at h
   split at h
   ·rename_i hc
    rw[Bool.and_eq_true] at hc
    exact⟨y,rfl,hc.1,hc.2⟩
   ·cases h
theorem mP {κ:Int}:∀ r k p q,E6 (fun k next=>BW AZ l m next (BV κ k)) r k p=(q,true)→∀ (j p':Nat),(BA (AC l) r p)[j]?=some p'→∃ y:AB,l[p']?=some y∧CA (BV κ (k+j)) y.kind=true:=by
 intro r
 induction r with
 | zero=>intro k p q _ j p' h;simp[BA] at h
 | succ r ih=>
  intro k p q h j p' hj
  unfold E6 at h
  split at h
  ·rename_i hc
   have he:AC l p=(BW AZ l m p (BV κ k)).1:=IY (.inl ⟨m,BV κ k,Prod.ext rfl hc⟩)
   cases j with
   | zero=>
    have:p=p':=by simpa [BA] using hj
    subst this
    obtain⟨y,h1,h2,_⟩:=g_ hc
    exact⟨y,h1,h2⟩
   | succ j=>
    have hj':(BA (AC l) r (AC l p))[j]?=some p':=by simpa [BA] using hj
    rw[he] at hj'
    have:=ih (k+1) _ _ h j p' hj'
    rwa [show k+1+j=k+(j+1) by omega] at this
  ·cases h
theorem Vp:∀ (r:Nat) (ev:Bool) (p q:Nat),EV AZ l m r ev p=(q,true)→∀ (j p':Nat),(BA (AC l) r p)[j]?=some p'→∃ y:AB,l[p']?=some y∧2≤y.kind∧y.kind≤10:=by
 intro r
 induction r with
 | zero=>intro k p q _ j p' h;simp[BA] at h
 | succ r ih=>
  intro ev p q h j p' hj
  unfold EV at h
  split at h
  ·rename_i hc
   have he:AC l p=(BW AZ l m p (HV ev l[p]?)).1:=IY (.inl ⟨m,_,Prod.ext rfl hc⟩)
   cases j with
   | zero=>
    have:p=p':=by simpa [BA] using hj
    subst this
    obtain⟨y,h1,h2,_⟩:=g_ hc
    refine⟨y,h1,?_⟩
    unfold HV at h2
    split at h2
    ·unfold CA at h2
     simp at h2
     omega
    ·unfold CA at h2
     simp at h2
     omega
   | succ j=>
    have hj':(BA (AC l) r (AC l p))[j]?=some p':=by simpa [BA] using hj
    rw[he] at hj'
    exact ih _ _ _ h j p' hj'
  ·cases h
theorem CU.kid {i:Nat} {x:AB} (ht:CU l) (hx:l[i]?=some x) {k p:Nat} (hk:(BA (AC l) x.kids.toNat (i+1))[k]?=some p):∃ y:AB,l[p]?=some y∧(CA (BV x.kind k) y.kind=true∨(2≤y.kind∧y.kind≤10)):=by
 obtain⟨q,hq⟩:∃ q,EK l i q:=⟨_,ht.end (List.getElem?_eq_some_iff.1 hx).1⟩
 rcases hq with⟨m,what,h⟩ | ⟨rfl,m,h⟩
 ·cases m with
  | zero=>cases h
  | succ m=>
   unfold BW at h
   rw[hx] at h
   simp only at h
   split at h
   ·obtain⟨y,h1,h2⟩:=mP _ _ _ _ h k p hk
    rw[Nat.zero_add] at h2
    exact⟨y,h1,.inl h2⟩
   ·cases h
 ·unfold GT at h
  rw[hx] at h
  simp only at h
  split at h
  ·obtain⟨y,h1,h2⟩:=Vp _ _ _ _ h k p hk
   exact⟨y,h1,.inr h2⟩
  ·cases h
theorem CU.fit {i:Nat} {x:AB} (ht:CU l) (hx:l[i]?=some x):DR AZ x=true:=by
 obtain⟨q,hq⟩:∃ q,EK l i q:=⟨_,ht.end (List.getElem?_eq_some_iff.1 hx).1⟩
 rcases hq with⟨m,what,h⟩ | ⟨rfl,m,h⟩
 ·obtain⟨y,h1,_,h3⟩:=g_ (congrArg (·.2) h)
  rw[hx] at h1
  cases h1
  exact h3
 ·unfold GT at h
  rw[hx] at h
  simp only at h
  split at h
  ·rename_i hc
   rw[Bool.and_eq_true] at hc
   exact hc.2
  ·cases h
theorem CU.place {i:Nat} {x y:AB} (ht:CU l) (hx:l[i]?=some x) {k p:Nat} (hk:(BA (AC l) x.kids.toNat (i+1))[k]?=some p) (hy:l[p]?=some y) (hp:y.kind=24):p=i+1∧(x.kind=19∨x.kind=20):=by
 obtain⟨y',h1,h2⟩:=ht.kid hx hk
 rw[hy] at h1
 cases h1
 have hf:=ht.fit hx
 unfold DR at hf
 simp only[Bool.and_eq_true,decide_eq_true_eq,Bool.or_eq_true] at hf
 obtain⟨⟨_,hl⟩,hm⟩:=hf
 have h19:x.kind=19∨x.kind=20:=by
  rcases h2 with h2 | h2
  ·rw[hp] at h2
   unfold BV at h2
   by_cases e1:x.kind=19
   ·exact .inl e1
   ·by_cases e2:x.kind=20
    ·exact .inr e2
    ·exfalso
     have c6:([19,20]:List Int).contains x.kind=false:=by simp[e1,e2]
     rw[c6] at h2
     (repeat' split at h2) <;> first | (simp[CA] at h2;done) | simp_all [CA]
  ·omega
 have hm1:x.kids≤1:=by
  rcases h19 with e | e <;> (rw[e] at hm;rcases hm with hm | hm <;> simp[CZ] at hm <;> omega)
 have hkl:=(List.getElem?_eq_some_iff.1 hk).1
 rw[NF] at hkl
 have hk0:k=0:=by omega
 subst hk0
 obtain⟨r,hr⟩:∃ r,x.kids.toNat=r+1:=⟨x.kids.toNat-1,by omega⟩
 rw[hr] at hk
 have:i+1=p:=by simpa [BA] using hk
 exact⟨this.symm,h19⟩
theorem jX:∀ (r p q:Nat),EY l r p q→∀ at_,p≤at_→at_<q→∃ (j p':Nat),(BA (AC l) r p)[j]?=some p'∧p≤p'∧p'≤at_∧at_<AC l p':=by
 intro r
 induction r with
 | zero=>intro p q h at_ h1 h2;have:p=q:=h;omega
 | succ r ih=>
  intro p q ⟨p',s1,s2,s3,s4⟩ at_ h1 h2
  have he:=IY s1
  rcases Nat.lt_or_ge at_ p' with h3 | h3
  ·exact⟨0,p,by simp[BA],Nat.le_refl _,h1,by omega⟩
  ·obtain⟨j,p2,j1,j2,j3,j4⟩:=ih p' q s4 at_ h3 h2
   refine⟨j+1,p2,?_,by omega,j3,j4⟩
   show (p :: BA (AC l) r (AC l p))[j+1]?=_
   rw[he]
   exact j1
theorem CU.kidOf (ht:CU l):∀ (n i at_:Nat),at_≤i+n→i<at_→at_<AC l i→i<l.length→∃ (j:Nat) (x:AB) (k:Nat),l[j]?=some x∧j<at_∧(BA (AC l) x.kids.toNat (j+1))[k]?=some at_:=by
 intro n
 induction n with
 | zero=>intro i at_ h1 h2;omega
 | succ n ih=>
  intro i at_ h1 h2 h3 h4
  obtain⟨x,hx,_,_,hc⟩:=(ht.end h4).kids
  obtain⟨j,p,j1,j2,j3,j4⟩:=jX _ _ _ hc at_ (by omega) h3
  rcases Nat.lt_or_ge p at_ with h5 | h5
  ·have hpl:p<l.length:=by
    obtain⟨y,hy,_⟩:=ht.kid hx j1
    exact(List.getElem?_eq_some_iff.1 hy).1
   exact ih p at_ (by omega) h5 j4 hpl
  ·obtain rfl:p=at_:=by omega
   exact⟨i,x,j,hx,h2,j1⟩
end
def A9 (k:Int):Int:=
 if [27,28,31,32,33,34,38,39,40,41,43,44,45,46].contains k then 1 else if [29,30,35,36,37,42,47,48,49,50,51,52,53,54].contains k then 2 else 0
def BU (kind:Int) (k:Nat) (first:Int):Int:=
 if [4,5,14,41,39,40,43,44,45,46,49,50,51,52].contains kind then 1 else if kind=15 then (if k=1 then 1 else 0) else if [6,42,53,54].contains kind then 2
 else if kind=12 then (if k=0 then 2 else 0) else if kind=13 then (if k=0 then 1 else if k=1 then 2 else 0) else if [47,48].contains kind then (if k=1 then first else 0) else 0
def I9 (k:Int):Bool:=[28,31,34,35,36,37,38].contains k
def IA (kind:Int) (k:Nat):Bool:=[4,5,6].contains kind||(kind==13&&k==0)
def M0 (Q:List (ByteArray × Bool)) (n:Int):Bool:=((Q[n.toNat]?).map (·.2)).getD false
def JS (Q:List (ByteArray × Bool)) (x up:AB):Bool:=
 if [8,17,20].contains x.kind then M0 Q x.n else if [9,21].contains x.kind then !(M0 Q x.n)
 else if x.kind=24 then (if up.kind=20 then !(M0 Q x.n) else M0 Q x.n != M0 Q up.n) else false
structure IJ where
 A:List Int
 C:List Bool
 U:List Int
def IT (i:Nat) (x:AB) (first:Int) (s:IJ) (k p:Nat):IJ:=⟨s.A.set p (BU x.kind k first),s.C.set p (((s.C[i]?).getD false)||IA x.kind k),s.U.set p (i:Int)⟩
def G_ (i:Nat) (x:AB) (first:Int):Nat→List Nat→IJ→IJ
 | _,[],s=>s
 | k,p :: ps,s=>G_ i x first (k+1) ps (IT i x first s k p)
def J5 (R:List AB) (e:Nat→Nat) (i:Nat) (s:IJ):IJ:=match R[i]? with
 | none=>s
 | some x=>G_ i x (A9 (((R[i+1]?).map (·.kind)).getD 0)) 0 (BA e x.kids.toNat (i+1)) s
def BJ (R:List AB) (e:Nat→Nat):Nat→IJ
 | 0=>⟨List.replicate R.length 0,List.replicate R.length false,List.replicate R.length 0⟩
 | i+1=>J5 R e i (BJ R e i)
def IZ (R:List AB) (Q:List (ByteArray × Bool)) (s:IJ) (i:Nat) (x:AB):Int:=
 if ((s.A[i]?).getD 0)≠0∧A9 x.kind≠(s.A[i]?).getD 0 then 41 else if ((s.C[i]?).getD false&&I9 x.kind)=true then 42
 else if JS Q x ((R[((s.U[i]?).getD 0).toNat]?).getD ⟨0,ByteArray.empty,0,0,0⟩)=true then 46 else 0
def HG (R:List AB) (Q:List (ByteArray × Bool)) (e:Nat→Nat):Nat→Nat→(Int × Int) × List Int
 | 0,_=>((0,0),R.map (A9 ·.kind))
 | r+1,i=>match R[i]? with
  | none=>((0,0),R.map (A9 ·.kind))
  | some x=>if IZ R Q (BJ R e i) i x≠0 then ((IZ R Q (BJ R e i) i x,(i:Int)),[]) else HG R Q e r (i+1)
section
variable {i:Nat} {x:AB} {first:Int}
theorem XG:∀ (ps:List Nat) (k:Nat) (s:IJ),(G_ i x first k ps s).A.length=s.A.length∧(G_ i x first k ps s).C.length=s.C.length∧(G_ i x first k ps s).U.length=s.U.length
 | [],k,s=>⟨rfl,rfl,rfl⟩
 | p :: ps,k,s=>by
  have:=XG ps (k+1) (IT i x first s k p)
  simpa [G_,IT] using this
theorem WI:∀ (ps:List Nat) (k:Nat) (s:IJ) (q:Nat),q∉ps→(G_ i x first k ps s).A[q]?=s.A[q]?∧(G_ i x first k ps s).C[q]?=s.C[q]?∧(G_ i x first k ps s).U[q]?=s.U[q]?
 | [],k,s,q,_=>⟨rfl,rfl,rfl⟩
 | p :: ps,k,s,q,h=>by
  have h1:q≠p:=fun e=>h (by rw[e];exact List.mem_cons_self)
  have h2:q∉ps:=fun e=>h (List.mem_cons_of_mem _ e)
  obtain⟨a,b,c⟩:=WI ps (k+1) (IT i x first s k p) q h2
  refine⟨a.trans ?_,b.trans ?_,c.trans ?_⟩
  ·exact List.getElem?_set_ne (Ne.symm h1)
  ·exact List.getElem?_set_ne (Ne.symm h1)
  ·exact List.getElem?_set_ne (Ne.symm h1)
theorem pE:∀ (ps:List Nat) (k:Nat) (s:IJ) (q:Nat),q∈ps→q<s.U.length→(G_ i x first k ps s).U[q]?=some (i:Int)
 | [],k,s,q,h,_=>by cases h
 | p :: ps,k,s,q,h,hq=>by
  by_cases h2:q∈ps
  ·exact pE ps (k+1) (IT i x first s k p) q h2 (by simpa [IT] using hq)
  ·have h1:q=p:=by
    rcases List.mem_cons.1 h with h | h
    ·exact h
    ·exact absurd h h2
   subst h1
   exact(WI ps (k+1) (IT i x first s k q) q h2).2.2.trans (List.getElem?_set_self hq)
end
theorem S9 {l:List AB}:∀ r p q,EY l r p q→∀ z∈BA (AC l) r p,p≤z
 | 0,p,q,_,z,hz=>by cases hz
 | r+1,p,q,⟨p',s1,s2,s3,s4⟩,z,hz=>by
  have hz':z=p∨z∈BA (AC l) r (AC l p):=by simpa [BA] using hz
  rcases hz' with rfl | hz'
  ·exact Nat.le_refl _
  ·rw[IY s1] at hz'
   have:=S9 r p' q s4 z hz'
   omega
section
variable {R:List AB}
theorem RN (e:Nat→Nat):∀ i,(BJ R e i).A.length=R.length∧(BJ R e i).C.length=R.length∧(BJ R e i).U.length=R.length
 | 0=>by simp[BJ]
 | i+1=>by
  have h:=RN e i
  unfold BJ J5
  cases hx:R[i]? with
  | none=>exact h
  | some x=>
   have:=XG (i:=i) (x:=x) (first:=A9 (((R[i+1]?).map (·.kind)).getD 0)) (BA e x.kids.toNat (i+1)) 0 (BJ R e i)
   exact⟨this.1.trans h.1,this.2.1.trans h.2.1,this.2.2.trans h.2.2⟩
theorem Mw (ht:CU R) {i:Nat}:∀ j,i≤j→(BJ R (AC R) j).A[i]?=(BJ R (AC R) i).A[i]?∧(BJ R (AC R) j).C[i]?=(BJ R (AC R) i).C[i]?∧(BJ R (AC R) j).U[i]?=(BJ R (AC R) i).U[i]?:=by
 intro j
 induction j with
 | zero=>
  intro h
  have:i=0:=by omega
  subst this
  exact⟨rfl,rfl,rfl⟩
 | succ j ih=>
  intro h
  rcases Nat.lt_or_ge j i with h1 | h1
  ·obtain rfl:i=j+1:=by omega
   exact⟨rfl,rfl,rfl⟩
  ·have h2:=ih h1
   have h3:(BJ R (AC R) (j+1)).A[i]?=(BJ R (AC R) j).A[i]?∧(BJ R (AC R) (j+1)).C[i]?=(BJ R (AC R) j).C[i]?∧(BJ R (AC R) (j+1)).U[i]?=(BJ R (AC R) j).U[i]?:=by
    have hs:BJ R (AC R) (j+1)=J5 R (AC R) j (BJ R (AC R) j):=rfl
    rw[hs]
    unfold J5
    cases hx:R[j]? with
    | none=>exact⟨rfl,rfl,rfl⟩
    | some x=>
     simp only
     obtain⟨y,hy,_,_,hc⟩:=(ht.end (List.getElem?_eq_some_iff.1 hx).1).kids
     rw[hx] at hy
     cases hy
     exact WI _ 0 _ i fun hm=>by
      have:=S9 _ _ _ hc i hm
      omega
   exact⟨h3.1.trans h2.1,h3.2.1.trans h2.2.1,h3.2.2.trans h2.2.2⟩
theorem Hp (ht:CU R) {at_:Nat} {y:AB} (hy:R[at_]?=some y) (h24:y.kind=24) (h0:0<at_):(BJ R (AC R) at_).U[at_]?=some ((at_-1:Nat):Int):=by
 have hl:=(List.getElem?_eq_some_iff.1 hy).1
 have h0l:AC R 0=R.length:=IY ht
 obtain⟨j,x,k,hx,hj,hk⟩:=ht.kidOf at_ 0 at_ (by omega) h0 (by omega) (by omega)
 obtain⟨hp,_⟩:=ht.place hx hk hy h24
 obtain⟨i,rfl⟩:∃ i,at_=i+1:=⟨at_-1,by omega⟩
 obtain rfl:j=i:=by omega
 rw[Nat.add_sub_cancel]
 unfold BJ J5
 rw[hx]
 exact pE _ 0 _ _ (List.mem_of_getElem? hk) (by rw[(RN (AC R) j).2.2];exact hl)
end
def O5 (s:AM) (k n:Int) (nm:ByteArray):Prop:=
 0≤n∧((k=1∧∃ b,s.queues[n.toNat]?=some (nm,b))∨(k=2∧s.vars[n.toNat]?=some nm)∨(k=3∧s.tags[n.toNat]?=some nm)∨(k=4∧∃ ru:Nat,s.rules[n.toNat]?=some ((ru:Int)+1)∧∃ y:AB,s.rows[ru]?=some y∧y.name=nm))
structure RK (s s':AM):Prop where
 q:∀ (i:Nat) x,s.queues[i]?=some x→s'.queues[i]?=some x
 v:∀ (i:Nat) x,s.vars[i]?=some x→s'.vars[i]?=some x
 t:∀ (i:Nat) x,s.tags[i]?=some x→s'.tags[i]?=some x
 u:∀ (i:Nat) x,s.rules[i]?=some x→s'.rules[i]?=some x
 r:∀ (i:Nat) (y:AB),s.rows[i]?=some y→∃ y':AB,s'.rows[i]?=some y'∧y'.name=y.name
theorem O5.up {s s':AM} {k n:Int} {nm:ByteArray} (h:O5 s k n nm) (hu:RK s s'):O5 s' k n nm:=by
 refine⟨h.1,?_⟩
 rcases h.2 with⟨h1,b,h2⟩ | ⟨h1,h2⟩ | ⟨h1,h2⟩ | ⟨h1,ru,h2,y,h3,h4⟩
 ·exact .inl ⟨h1,b,hu.q _ _ h2⟩
 ·exact .inr (.inl ⟨h1,hu.v _ _ h2⟩)
 ·exact .inr (.inr (.inl ⟨h1,hu.t _ _ h2⟩))
 ·obtain⟨y',h5,h6⟩:=hu.r _ _ h3
  exact .inr (.inr (.inr ⟨h1,ru,hu.u _ _ h2,y',h5,h6.trans h4⟩))
theorem ZN {α:Type} {l:List α} {i:Nat} {x y:α} (h:l[i]?=some x):(l++[y])[i]?=some x:=by rw[List.getElem?_append_left (List.getElem?_eq_some_iff.1 h).1];exact h
theorem q_ {l:List AB} {k i:Nat} {n:Int} {y:AB} (h:l[i]?=some y):∃ y':AB,(G8 l k n)[i]?=some y'∧y'.name=y.name:=by
 by_cases hi:i=k
 ·subst hi
  exact⟨_,LU h,rfl⟩
 ·exact⟨y,(O2 hi).trans h,rfl⟩
theorem wR {k:Int} (h:EC k≠0):BZ k=0:=by
 unfold BZ
 unfold EC at h
 split
 ·rename_i h1
  simp only[List.contains_cons,List.contains_nil,Bool.or_false,Bool.or_eq_true,beq_iff_eq] at h1
  rcases h1 with rfl | rfl <;> exact absurd rfl h
 split
 ·subst k;exact absurd rfl h
 split
 ·subst k;exact absurd rfl h
 split
 ·subst k;exact absurd rfl h
 rfl
def MN (k:Int):Int:=EC k+BZ k
theorem Ri {k:Int} (h:MN k=0):EC k=0∧BZ k=0:=by
 have:=nU k
 have:=Q6 k
 unfold MN at h
 omega
structure MP (l:List AB) (at_:Nat) (s:AM):Prop where
 rows:∀ (i:Nat) (x:AB),i<at_→s.rows[i]?=some x→(MN x.kind=0→l[i]?=some x)∧(MN x.kind≠0→O5 s (MN x.kind) x.n x.name)
 things:∀ t∈s.things,O5 s t.kind t.num t.name
theorem MP.up {l:List AB} {at_:Nat} {s s':AM} (h:MP l at_ s) (hu:RK s s') (hr:∀ i,i<at_→s'.rows[i]?=s.rows[i]?) (ht:∀ t∈s'.things,t∈s.things∨O5 s' t.kind t.num t.name):MP l at_ s' where
 rows:=fun i x hi hx=>by
  rw[hr i hi] at hx
  obtain⟨h1,h2⟩:=h.rows i x hi hx
  exact⟨h1,fun h3=>(h2 h3).up hu⟩
 things:=fun t h1=>by
  rcases ht t h1 with h2 | h2
  ·exact(h.things t h2).up hu
  ·exact h2
theorem zU {at_:Nat} {end_:Int} {x:AB} {s:AM}:RK s (FK at_ end_ x s) where
 q:=fun i y h=>by simp only[FK];split;(first | exact ZN h | exact h);exact h
 v:=fun i y h=>by simp only[FK];split;(first | exact ZN h | exact h);exact h
 t:=fun i y h=>by simp only[FK];split;(first | exact ZN h | exact h);exact h
 u:=fun i y h=>by simp only[FK];split;(first | exact ZN h | exact h);exact h
 r:=fun i y h=>q_ h
theorem Pm (s:AM):RK s s:=⟨fun _ _ h=>h,fun _ _ h=>h,fun _ _ h=>h,fun _ _ h=>h,fun _ y h=>⟨y,h,rfl⟩⟩
theorem YK {α:Type} (l:List α) (y:α):(l++[y])[l.length]?=some y:=by simp
theorem Sr {at_:Nat} {end_:Int} {x:AB} {s:AM} (hx:s.rows[at_]?=some x) (hd:BZ x.kind≠0):O5 (FK at_ end_ x s) (BZ x.kind) (BI s (BZ x.kind)) x.name:=by
 have hk:=Q6 x.kind
 refine⟨by omega,?_⟩
 rw[Int.toNat_natCast]
 have hc:BZ x.kind=1∨BZ x.kind=2∨BZ x.kind=3∨BZ x.kind=4:=by omega
 rcases hc with e | e | e | e
 ·refine .inl ⟨e,x.kind==3,?_⟩
  simp only[FK,BI,e]
  exact YK _ _
 ·refine .inr (.inl ⟨e,?_⟩)
  simp only[FK,BI,e]
  exact YK _ _
 ·refine .inr (.inr (.inl ⟨e,?_⟩))
  simp only[FK,BI,e]
  exact YK _ _
 ·refine .inr (.inr (.inr ⟨e,at_,?_,_,LU hx,rfl⟩))
  simp only[FK,BI,e]
  exact YK _ _
theorem De {l:List AB} {at_:Nat} {end_:Int} {x:AB} {s:AM} (h:MP l at_ s) (hx:s.rows[at_]?=some x) :
  MP l at_ (BR at_ end_ x s)∧∃ n,(BR at_ end_ x s).rows[at_]?=some { x with n:=n }∧(BZ x.kind=0→n=x.n)∧(BZ x.kind≠0→O5 (BR at_ end_ x s) (BZ x.kind) n x.name):=by
 unfold BR
 by_cases d0:BZ x.kind=0
 ·rw[if_pos d0]
  exact⟨h,x.n,hx,fun _=>rfl,fun h1=>absurd d0 h1⟩
 ·rw[if_neg d0]
  have hs:=Sr (end_:=end_) hx d0
  refine⟨h.up zU (fun i hi=>O2 (by omega)) fun t ht=>?_,_,LU hx,fun h1=>absurd h1 d0,fun _=>hs⟩
  simp only[FK,List.mem_append,List.mem_cons,List.not_mem_nil,or_false] at ht
  rcases ht with h1 | rfl
  ·exact .inl h1
  ·exact .inr hs
theorem Hr {l:List AB} {at_:Nat} {x:AB} {s:AM} (h:MP l at_ s) (hx:s.rows[at_]?=some x) (hc:DB at_ x s=0) :
  MP l at_ (CF at_ x s)∧RK s (CF at_ x s)∧∃ n,(CF at_ x s).rows[at_]?=some { x with n:=n }∧(EC x.kind=0→n=x.n)∧(EC x.kind≠0→O5 (CF at_ x s) (EC x.kind) n x.name):=by
 unfold CF
 unfold DB at hc
 by_cases d0:EC x.kind=0
 ·rw[if_pos d0]
  exact⟨h,Pm s,x.n,hx,fun _=>rfl,fun h1=>absurd d0 h1⟩
 ·rw [if_neg d0] at hc ⊢
  cases hf:GK s.things x.name with
  | none=>simp only[hf] at hc;cases hc
  | some t=>
   simp only[hf] at hc ⊢
   have hk:t.kind=EC x.kind:=by
    split at hc
    ·cases hc
    ·split at hc
     ·cases hc
     ·rename_i h;simpa using h
   have hnm:t.name=x.name:=by
    have:=List.find?_some hf
    exact(LQ this).symm
   have hu:RK s { s with rows:=G8 s.rows at_ t.num }:=⟨fun _ _ h=>h,fun _ _ h=>h,fun _ _ h=>h,fun _ _ h=>h,fun _ y h=>q_ h⟩
   have hs:=(h.things t (jN hf)).up hu
   rw[hk,hnm] at hs
   exact⟨h.up hu (fun i hi=>O2 (by omega)) fun t ht=>.inl ht,hu,_,LU hx,fun h1=>absurd h1 d0,fun _=>hs⟩
theorem zK {l:List AB} {E:List Int} {at_:Nat} {s:AM} (hat:at_<l.length) (hi:HR l at_ s) (h:MP l at_ s) (h0:(F3 E at_ s).1=0):MP l (at_+1) (F3 E at_ s).2:=by
 obtain⟨x,hx⟩:∃ x,s.rows[at_]?=some x:=⟨_,List.getElem?_eq_getElem (by rw[hi.len];exact hat)⟩
 have hxl:l[at_]?=some x:=by rw[← hi.later at_ (Nat.le_refl _)];exact hx
 unfold F3 at h0 ⊢
 rw[hx] at h0 ⊢
 simp only at h0 ⊢
 by_cases hd:EH x s=0
 case neg=>rw[if_pos hd] at h0;exact absurd h0 hd
 rw[if_neg (by simpa using hd)] at h0 ⊢
 obtain⟨t1,k1,r1,a1,b1⟩:=De (end_:=(E[at_]?).getD 0) h hx
 generalize BR at_ ((E[at_]?).getD 0) x s=s1 at *
 rw[r1] at h0 ⊢
 simp only at h0 ⊢
 by_cases hc:DB at_ { x with n:=k1 } s1=0
 case neg=>rw[if_pos hc] at h0;exact absurd h0 hc
 rw[if_neg (by simpa using hc)] at h0 ⊢
 obtain⟨t2,u2,k2,r2,a2,b2⟩:=Hr t1 r1 hc
 simp only at r2 a2 b2
 generalize CF at_ { x with n:=k1 } s1=s2 at *
 rw[r2] at h0 ⊢
 simp only at h0 ⊢
 by_cases hv:DQ { x with n:=k2 } s2=0
 case neg=>rw[if_pos hv] at h0;exact absurd h0 hv
 rw[if_neg (by simpa using hv)] at h0 ⊢
 have hev:(D3 at_ { x with n:=k2 } s2).queues=s2.queues∧(D3 at_ { x with n:=k2 } s2).vars=s2.vars∧(D3 at_ { x with n:=k2 } s2).tags=s2.tags∧(D3 at_ { x with n:=k2 } s2).rules=s2.rules∧(D3 at_ { x with n:=k2 } s2).rows=s2.rows∧(D3 at_ { x with n:=k2 } s2).things=s2.things:=by
  unfold D3
  split
  ·exact⟨rfl,rfl,rfl,rfl,rfl,rfl⟩
  ·split <;> exact⟨rfl,rfl,rfl,rfl,rfl,rfl⟩
 obtain⟨e1,e2,e3,e4,e5,e6⟩:=hev
 generalize D3 at_ { x with n:=k2 } s2=s3 at *
 have hu3:RK s2 s3:=⟨fun i y h=>by rw[e1];exact h,fun i y h=>by rw[e2];exact h,fun i y h=>by rw[e3];exact h,fun i y h=>by rw[e4];exact h,fun i y h=>⟨y,by rw[e5];exact h,rfl⟩⟩
 have t3:MP l at_ s3:=t2.up hu3 (fun i _=>by rw[e5]) fun t ht=>.inl (by rw[← e6];exact ht)
 refine⟨fun i y hi' hy=>?_,t3.things⟩
 by_cases hia:i=at_
 ·subst hia
  rw[e5,r2] at hy
  cases hy
  simp only
  refine⟨fun h1=>?_,fun h1=>?_⟩
  ·obtain⟨h2,h3⟩:=Ri h1
   rw[a2 h2,a1 h3]
   exact hxl
  ·by_cases c0:EC x.kind=0
   ·have d0:BZ x.kind≠0:=fun h2=>h1 (by unfold MN;omega)
    rw[show MN x.kind=BZ x.kind by unfold MN;omega,a2 c0]
    exact((b1 d0).up u2).up hu3
   ·rw[show MN x.kind=EC x.kind by unfold MN;rw[wR c0];omega]
    exact(b2 c0).up hu3
 ·exact t3.rows i y (by omega) hy
theorem v_ {l:List AB} {E:List Int} (ht:CU l) (hE:∀ i:Nat,0≤(E[i]?).getD 0):∀ r at_ s,at_+r=l.length→HR l at_ s→MP l at_ s→(DG E r at_ s).1=0→MP l l.length (DG E r at_ s).2.2
 | 0,at_,s,hr,hi,h,_=>by
  have:at_=l.length:=by omega
  subst this
  exact h
 | r+1,at_,s,hr,hi,h,h0=>by
  unfold DG at h0 ⊢
  by_cases h9:(F3 E at_ s).1=0
  ·rw[if_neg (by simpa using h9)] at h0 ⊢
   exact v_ ht hE r (at_+1) _ (by omega) (U5 ht (hE at_) (by omega) hi h9) (zK (by omega) hi h h9) h0
  ·rw[if_pos h9] at h0
   exact absurd h0 h9
theorem wA {l:List AB} (h:(CV l).1.1=0):MP l l.length (CV l).2:=by
 obtain⟨ht,_,hg,_,he,_⟩:=XZ h
 rw[he]
 exact v_ ht VC l.length 0 (CD l) (by omega) (VQ l) ⟨fun i x hi=>by omega,fun t ht=>by simp[CD] at ht⟩ hg
def aU (L Z:List AB):Prop:=∀ (i:Nat) (z:AB),Z[i]?=some z→∃ x:AB,L[i]?=some x∧x.kind=z.kind
structure EB (Z:List AB) (s:AM):Prop where
 t:CU Z
 sk:KY s.rows Z
 kk:aU s.rows Z
 ks:∀ (i:Nat) (x:AB),s.rows[i]?=some x→1≤x.kind∧x.kind≤54
 qn:∀ (i:Nat) (x:AB),s.rows[i]?=some x→EC x.kind=1→0≤x.n∧x.n<s.queues.length
 root:∃ z:AB,Z[0]?=some z∧z.kind=1
 num:∀ (i:Nat) (x:AB),s.rows[i]?=some x→x.kind=27→0≤x.n∧x.n≤1073741824
theorem qF (x:AB):(J3 x).kind=x.kind∧(J3 x).kids=x.kids:=by unfold J3;split <;> exact⟨rfl,rfl⟩
theorem rQ {l:List AB} {i:Nat} {z:AB} (h:(A8 l)[i]?=some z):∃ x,l[i]?=some x∧z=J3 x:=by
 unfold A8 at h
 rw[List.getElem?_map] at h
 cases hx:l[i]? with
 | none=>rw[hx] at h;cases h
 | some x=>rw[hx] at h;cases h;exact⟨x,rfl,rfl⟩
theorem Fc {l:List AB} (h:HY AZ l=none):∃ z:AB,l[0]?=some z∧z.kind=1:=by
 unfold HY at h
 split at h
 ·rename_i hc
  have h1:=hc.1
  unfold GT at h1
  cases hx:l[0]? with
  | none=>rw[hx] at h1;cases h1
  | some x=>
   rw[hx] at h1
   simp only at h1
   split at h1
   ·rename_i h2
    rw[Bool.and_eq_true] at h2
    exact⟨x,rfl,by have:=h2.1;simp[CA] at this;exact this⟩
   ·cases h1
 ·cases h
theorem Xf {l:List AB} (h:(BQ l).1=0):∃ z:AB,l[0]?=some z∧z.kind=1:=by
 unfold BQ at h
 cases hs:HY AZ l with
 | none=>exact Fc hs
 | some p=>rw[hs] at h;cases h
theorem aR {nm:ByteArray} {s:AM} (h:FD nm s=0):EB (A8 s.rows) s:=by
 have hm:XD nm s:=by
  unfold FD at h
  split at h
  ·assumption
  ·cases h
 obtain⟨hok,hsame⟩:=hm
 rw[Y6 hok] at hsame
 obtain⟨_,e1,e2,e3,e4,e5,e6,e7⟩:=hsame
 simp only at e1 e2 e3 e4 e5 e6 e7
 obtain⟨ht,hck,hgo,_,hres,hi⟩:=XZ hok
 have hzl:(A8 s.rows).length=s.rows.length:=by unfold A8;rw[List.length_map]
 have hT:=wA hok
 have hkinds:=VV ht hi
 generalize (CV (A8 s.rows)).2=s' at *
 have hlt:∀ (i:Nat) (x:AB),s.rows[i]?=some x→i<(A8 s.rows).length:=fun i x hx=>by
  have:=(List.getElem?_eq_some_iff.1 hx).1
  omega
 refine⟨ht,⟨hzl.symm,fun i z hz=>?_⟩,fun i z hz=>?_,fun i x hx=>?_,fun i x hx hc=>?_,Xf hck,fun i x hx hk=>?_⟩
 ·obtain⟨x,hx,rfl⟩:=rQ hz
  exact⟨x,hx,(qF x).2.symm⟩
 ·obtain⟨x,hx,rfl⟩:=rQ hz
  exact⟨x,hx,(qF x).1.symm⟩
 ·rw[e2] at hx
  exact hkinds x (List.mem_of_getElem? hx)
 ·have hl:=hlt i x hx
  rw[e2] at hx
  have hd:=wR (k:=x.kind) (by rw[hc];decide)
  have hs:MN x.kind=1:=by unfold MN;omega
  have:=(hT.rows i x (by omega) hx).2 (by rw[hs];decide)
  rw[hs] at this
  obtain⟨h0,h2⟩:=this
  rcases h2 with⟨_,b,h2⟩ | ⟨h3,_⟩ | ⟨h3,_⟩ | ⟨h3,_⟩
  ·have:=(List.getElem?_eq_some_iff.1 h2).1
   rw[e3]
   omega
  ·omega
  ·omega
  ·omega
 ·have hl:=hlt i x hx
  rw[e2] at hx
  have hz:=(hT.rows i x (by omega) hx).1 (by rw[hk];rfl)
  have hf:=ht.fit hz
  unfold DR at hf
  simp only[Bool.and_eq_true,Bool.or_eq_true,decide_eq_true_eq,beq_iff_eq] at hf
  obtain⟨⟨⟨_,h1⟩,_⟩,_⟩:=hf
  rcases h1 with h1 | ⟨⟨_,h1⟩,h2⟩
  ·omega
  ·omega
section
variable {R Z:List AB} {e:Nat→Nat}
theorem dD (hk:aU R Z) (hs:KY R Z) (i:Nat):(R[i]?).map (fun x=>(x.kind,x.kids))=(Z[i]?).map (fun x=>(x.kind,x.kids)):=by
 cases hz:Z[i]? with
 | none=>
  have h1:=hs.1
  have:R[i]?=none:=List.getElem?_eq_none (by have:=List.getElem?_eq_none_iff.1 hz;omega)
  rw[this]
 | some z=>
  obtain⟨x,hx,h1⟩:=hk i z hz
  obtain⟨y,hy,h2⟩:=hs.2 i z hz
  rw[hx] at hy
  cases hy
  rw[hx]
  simp[h1,h2]
theorem sI {i:Nat} {x y:AB} {first:Int} (h:x.kind=y.kind):∀ (ps:List Nat) (k:Nat) (s:IJ),G_ i x first k ps s=G_ i y first k ps s
 | [],k,s=>rfl
 | p :: ps,k,s=>by
  show G_ i x first (k+1) ps (IT i x first s k p)=G_ i y first (k+1) ps (IT i y first s k p)
  have:IT i x first s k p=IT i y first s k p:=by unfold IT;rw[h]
  rw[this]
  exact sI h ps (k+1) _
theorem TT (hk:aU R Z) (hs:KY R Z):∀ i,BJ R e i=BJ Z e i
 | 0=>by
  show (⟨_,_,_⟩:IJ)=⟨_,_,_⟩
  rw[hs.1]
 | i+1=>by
  show J5 R e i (BJ R e i)=J5 Z e i (BJ Z e i)
  rw[TT hk hs i]
  unfold J5
  have h1:=dD hk hs i
  have h2:=dD hk hs (i+1)
  have h3:(R[i+1]?).map (·.kind)=(Z[i+1]?).map (·.kind):=by
   cases hR:R[i+1]? <;> cases hZ:Z[i+1]? <;> rw[hR,hZ] at h2 <;> simp_all
  cases hR:R[i]? with
  | none=>
   cases hZ:Z[i]? with
   | none=>rfl
   | some z=>rw[hR,hZ] at h1;cases h1
  | some x=>
   cases hZ:Z[i]? with
   | none=>rw[hR,hZ] at h1;cases h1
   | some z=>
    rw[hR,hZ] at h1
    simp only[Option.map_some,Option.some.injEq,Prod.mk.injEq] at h1
    simp only
    rw[h3,h1.2]
    exact sI h1.1 _ _ _
theorem eJ {i:Nat} {x:AB} {first:Int}:∀ (ps:List Nat) (k q:Nat) (s:IJ) (p:Nat),ps[q]?=some p→G_ i x first k (ps.take (q+1)) s=IT i x first (G_ i x first k (ps.take q) s) (k+q) p
 | [],k,q,s,p,h=>by simp at h
 | a :: ps,k,0,s,p,h=>by
  cases h
  rfl
 | a :: ps,k,q+1,s,p,h=>by
  have h':ps[q]?=some p:=by simpa using h
  have:=eJ (i:=i) (x:=x) (first:=first) ps (k+1) q (IT i x first s k a) p h'
  rw[show k+1+q=k+(q+1) by omega] at this
  exact this
theorem qX {i m:Nat} {x:AB} {first:Int} (hi:i<m):∀ (ps:List Nat) (k:Nat) (s:IJ),(∀ v∈s.U,0≤v∧v<(m:Int))→∀ v∈(G_ i x first k ps s).U,0≤v∧v<(m:Int)
 | [],k,s,h=>h
 | p :: ps,k,s,h=>qX hi ps (k+1) _ fun v hv=>by
  have hv':v∈s.U.set p (i:Int):=hv
  rcases List.mem_or_eq_of_mem_set hv' with h1 | h1
  ·exact h v h1
  ·omega
theorem jF {m:Nat} (hm:R.length=m) (h0:0<m):∀ i,i≤m→∀ v∈(BJ R e i).U,0≤v∧v<(m:Int)
 | 0,_,v,hv=>by
  have:v=0:=(List.mem_replicate.1 hv).2
  omega
 | i+1,hi,v,hv=>by
  have ih:=jF hm h0 i (by omega)
  have hv':v∈(J5 R e i (BJ R e i)).U:=hv
  unfold J5 at hv'
  split at hv'
  ·exact ih v hv'
  ·exact qX (by omega) _ _ _ ih v hv'
end
section
variable {Z:List AB} {s:AM}
theorem EB.z (hG:EB Z s) {i:Nat} {x:AB} (hx:s.rows[i]?=some x):∃ z:AB,Z[i]?=some z∧x.kind=z.kind∧x.kids=z.kids:=by
 have hl:=(List.getElem?_eq_some_iff.1 hx).1
 have h1:=hG.sk.1
 obtain⟨z,hz⟩:∃ z,Z[i]?=some z:=⟨_,List.getElem?_eq_getElem (by omega)⟩
 obtain⟨a,ha,h2⟩:=hG.kk i z hz
 obtain⟨b,hb,h3⟩:=hG.sk.2 i z hz
 rw[hx] at ha hb
 cases ha
 cases hb
 exact⟨z,hz,h2,h3⟩
theorem EB.most (hG:EB Z s) {i:Nat} {x:AB} (hx:s.rows[i]?=some x):([12,13].contains x.kind=true→x.kids≤3)∧([15,47,48].contains x.kind=true→x.kids≤2):=by
 obtain⟨z,hz,h1,h2⟩:=hG.z hx
 have hf:=hG.t.fit hz
 unfold DR at hf
 simp only[Bool.and_eq_true,decide_eq_true_eq,Bool.or_eq_true] at hf
 obtain⟨_,hm⟩:=hf
 rw[← h1,← h2] at hm
 refine⟨fun h=>?_,fun h=>?_⟩
 ·simp only[List.contains_cons,List.contains_nil,Bool.or_false,Bool.or_eq_true,beq_iff_eq] at h
  rcases h with h | h <;> (rw[h] at hm;rcases hm with hm | hm <;> simp[CZ] at hm <;> omega)
 ·simp only[List.contains_cons,List.contains_nil,Bool.or_false,Bool.or_eq_true,beq_iff_eq] at h
  rcases h with h | h | h <;> (rw[h] at hm;rcases hm with hm | hm <;> simp[CZ] at hm <;> omega)
theorem EB.kids0 (hG:EB Z s) {i:Nat} {x:AB} (hx:s.rows[i]?=some x):0≤x.kids∧EY Z x.kids.toNat (i+1) (AC Z i)∧AC Z i≤s.rows.length∧i<AC Z i:=by
 obtain⟨z,hz,h1,h2⟩:=hG.z hx
 have hs:=hG.t.end (List.getElem?_eq_some_iff.1 hz).1
 obtain⟨y,hy,h3,_,h4⟩:=hs.kids
 rw[hz] at hy
 cases hy
 rw[h2]
 have:=hs.lt
 have:=hG.sk.1
 exact⟨h3,h4,by omega,by omega⟩
theorem EB.kid (hG:EB Z s) {i k p:Nat} {x:AB} (hx:s.rows[i]?=some x) (hk:(BA (AC Z) x.kids.toNat (i+1))[k]?=some p):i<p∧p<s.rows.length:=by
 obtain⟨z,hz,h1,h2⟩:=hG.z hx
 obtain⟨_,hc,_⟩:=hG.kids0 hx
 have hge:=S9 _ _ _ hc p (List.mem_of_getElem? hk)
 rw[h2] at hk
 obtain⟨y,hy,_⟩:=hG.t.kid hz hk
 have:=(List.getElem?_eq_some_iff.1 hy).1
 have:=hG.sk.1
 omega
theorem EB.next (hG:EB Z s) {i:Nat} {x:AB} (hx:s.rows[i]?=some x) (h:0<x.kids):i+1<s.rows.length:=by
 obtain⟨r,hr⟩:∃ r,x.kids.toNat=r+1:=⟨x.kids.toNat-1,by omega⟩
 exact(hG.kid (k:=0) (p:=i+1) hx (by rw[hr];rfl)).2
theorem EB.place (hG:EB Z s) {i:Nat} {x:AB} (hx:s.rows[i]?=some x) (h24:x.kind=24):0<i∧∃ up:AB,s.rows[i-1]?=some up∧(BJ s.rows (AC Z) i).U[i]?=some ((i-1:Nat):Int)∧(up.kind≠20→0≤up.n∧up.n<s.queues.length):=by
 obtain⟨z,hz,h1,h2⟩:=hG.z hx
 have hl:=(List.getElem?_eq_some_iff.1 hz).1
 have hsl:=hG.sk.1
 have h0:0<i:=by
  rcases Nat.eq_zero_or_pos i with h | h
  ·subst h
   obtain⟨r,hr,h3⟩:=hG.root
   rw[hz] at hr
   cases hr
   omega
  ·exact h
 have h0l:AC Z 0=Z.length:=IY hG.t
 obtain⟨j,y,k,hy,hj,hk⟩:=hG.t.kidOf i 0 i (by omega) h0 (by omega) (by omega)
 obtain⟨hp,h19⟩:=hG.t.place hy hk hz (by omega)
 obtain⟨up,hup⟩:∃ up,s.rows[i-1]?=some up:=⟨_,List.getElem?_eq_getElem (by omega)⟩
 obtain⟨w,hw,h5,_⟩:=hG.z hup
 have:i-1=j:=by omega
 rw[this,hy] at hw
 cases hw
 refine⟨h0,up,hup,?_,fun h20=>hG.qn _ up hup ?_⟩
 ·rw[TT hG.kk hG.sk]
  exact Hp hG.t hz (by omega) h0
 ·rcases h19 with h | h
  ·rw[h5,h];rfl
  ·exact absurd (h5.trans h) h20
theorem nJ {k:Int} (h:[8,17,20,9,21,24].contains k=true):EC k=1:=by
 simp only[List.contains_cons,List.contains_nil,Bool.or_false,Bool.or_eq_true,beq_iff_eq] at h
 rcases h with h | h | h | h | h | h <;> (rw[h];rfl)
end
section
variable {R:List AB} {Q:List (ByteArray × Bool)} {e:Nat→Nat} {r i:Nat} {x:AB}
theorem iL (hx:R[i]?=some x) {b:Int} (hb:IZ R Q (BJ R e i) i x=b) (h0:b≠0):HG R Q e (r+1) i=((b,(i:Int)),[]):=by
 unfold HG
 rw[hx]
 simp only
 rw[hb,if_pos h0]
theorem cU (hx:R[i]?=some x) (hb:IZ R Q (BJ R e i) i x=0):HG R Q e (r+1) i=HG R Q e r (i+1):=by
 conv=>lhs;unfold HG
 rw[hx]
 simp only
 rw[hb,if_neg (by decide)]
variable {M:IJ} {a u:Int} {c:Bool} {up:AB}
theorem SZ (hA:M.A[i]?=some a) (h0:a≠0) (h1:A9 x.kind≠a):IZ R Q M i x=41:=by
 unfold IZ
 rw[hA,if_pos ⟨h0,h1⟩]
theorem VB (hA:M.A[i]?=some a) (h0:¬(a≠0∧A9 x.kind≠a)) (hC:M.C[i]?=some true) (hv:I9 x.kind=true):IZ R Q M i x=42:=by
 unfold IZ
 rw[hA,if_neg (by simpa using h0),hC,if_pos (by simp[hv])]
theorem bZ (hA:M.A[i]?=some a) (h0:¬(a≠0∧A9 x.kind≠a)) (hC:M.C[i]?=some c) (hv:(c&&I9 x.kind)=false) (hU:M.U[i]?=some u) (hup:R[u.toNat]?=some up):IZ R Q M i x=if JS Q x up=true then 46 else 0:=by
 unfold IZ
 rw[hA,if_neg (by simpa using h0),hC,hU]
 rw[if_neg (by simp only[Option.getD_some];rw[hv];decide)]
 simp only[Option.getD_some,hup]
end
noncomputable def B9 (nm:ByteArray) (s:AM):(Int × Int) × List Int:=if FD nm s≠0 then ((FD nm s,0),[]) else HG s.rows s.queues (AC (A8 s.rows)) s.rows.length 0
def TL (h:AA) (lo:Nat) (v:Value) (R:(Int × Int) × List Int):Prop:=∃ tv,v=.tuple #[tv,CI R.1.1 R.1.2]∧AW lo h tv R.2
def I0 (size:Int):List (Int × Bool)→Int→Int→Option (Int × Int)
 | [],r,o=>some (r,o)
 | (n,g) :: l,r,o=>if n<1∨n>1048576 then none else if g=true then I0 size l r (o+n) else if n>size then none else I0 size l (r+n) o
def IP (C:List Int) (Q:List (ByteArray × Bool)):List (Int × Bool):=C.zip (Q.map (·.2))
def K7 (size:Int) (C:List Int) (Q:List (ByteArray × Bool)):Bool:=
 if size<1∨size>1048576∨C.length≠Q.length then false else match I0 size (IP C Q) 0 0 with
  | none=>false
  | some (r,o)=>decide (min size r+o≤4194304)
section
variable {C:List Int} {Q:List (ByteArray × Bool)} {size r o:Int} {i:Nat}
theorem Cj (h:C.length=Q.length):(IP C Q).length=C.length:=by simp[IP,h]
theorem W7 {n:Int} {q:ByteArray × Bool} (h1:C[i]?=some n) (h2:Q[i]?=some q):(IP C Q).drop i=(n,q.2) :: (IP C Q).drop (i+1):=by
 have l1:=(List.getElem?_eq_some_iff.1 h1).1
 have l2:=(List.getElem?_eq_some_iff.1 h2).1
 have hl:i<(IP C Q).length:=by simp only[IP,List.length_zip,List.length_map];omega
 rw[List.drop_eq_getElem_cons hl]
 congr 1
 have e1:C[i]=n:=(List.getElem?_eq_some_iff.1 h1).2
 have e2:Q[i]=q:=(List.getElem?_eq_some_iff.1 h2).2
 simp[IP,e1,e2]
theorem SW {n:Int} {q:ByteArray × Bool} (h1:C[i]?=some n) (h2:Q[i]?=some q) (hb:n<1∨n>1048576∨(q.2=false∧n>size)):I0 size ((IP C Q).drop i) r o=none:=by
 rw[W7 h1 h2]
 unfold I0
 rcases hb with hb | hb | ⟨hb,hc⟩
 ·rw[if_pos (.inl hb)]
 ·rw[if_pos (.inr hb)]
 ·by_cases h3:n<1∨n>1048576
  ·rw[if_pos h3]
  ·rw[if_neg h3,if_neg (by rw[hb];decide),if_pos hc]
theorem tP {n:Int} {q:ByteArray × Bool} (h1:C[i]?=some n) (h2:Q[i]?=some q) (h3:1≤n∧n≤1048576) (h4:q.2=true):I0 size ((IP C Q).drop i) r o=I0 size ((IP C Q).drop (i+1)) r (o+n):=by
 rw[W7 h1 h2]
 conv=>lhs;unfold I0
 rw[if_neg (by omega),if_pos h4]
theorem vK {n:Int} {q:ByteArray × Bool} (h1:C[i]?=some n) (h2:Q[i]?=some q) (h3:1≤n∧n≤1048576) (h4:q.2=false) (h5:n≤size):I0 size ((IP C Q).drop i) r o=I0 size ((IP C Q).drop (i+1)) (r+n) o:=by
 rw[W7 h1 h2]
 conv=>lhs;unfold I0
 rw[if_neg (by omega),if_neg (by rw[h4];decide),if_neg (by omega)]
theorem rU (h:C.length=Q.length) (hi:i=C.length):I0 size ((IP C Q).drop i) r o=some (r,o):=by
 rw[List.drop_of_length_le (by rw[Cj h];omega)]
 rfl
end
def I6 (k:Int):Bool:=[39,40,41,43,44,45,46].contains k
def M3 (k:Int):Bool:=[42,47,48,49,50,51,52,53,54].contains k
def GJ (k:Int):Bool:=[41,42].contains k
def F4 (k:Int):Bool:=[39,40,43,44,45,46,47,48,49,50,51,52,53,54].contains k
def I1 (k a b:Int):Int:=if k=39 then (if b<a then b else a) else if k=40 then (if b>a then b else a) else if k=41 then -a else if k=43 then a*b else if k=44 then LP a b else if k=45 then a+b else a-b
def LH (k a b:Int):Bool:=if k=47 then a==b else if k=48 then a != b else if k=49 then decide (a<b) else if k=50 then decide (a≤b) else if k=51 then decide (a>b) else if k=52 then decide (a≥b) else if k=42 then a==0 else if k=53 then (a != 0&&b != 0) else (a != 0||b != 0)
def GU (k a b:Int):Int:=if I6 k=true then FX (I1 k a b) else if LH k a b=true then 1 else 0
def EF (size:Int) (C:List Int) (x:AB):Option Int:=if x.kind=27 then some x.n else if x.kind=33 then some size else if x.kind=32 then some ((C[x.n.toNat]?).getD 0) else if x.kind=29 then some 1 else if x.kind=30 then some 0 else none
def OQ (R:List AB) (e:Nat→Nat) (size:Int) (C:List Int):Nat→Nat→Option Int
 | 0,_=>none
 | f+1,i=>match R[i]? with
  | none=>none
  | some x=>if GJ x.kind=true then (OQ R e size C f (i+1)).map (fun a=>GU x.kind a a)
   else if F4 x.kind=true then (match OQ R e size C f (i+1),OQ R e size C f (e (i+1)) with
    | some a,some b=>some (GU x.kind a b)
    | _,_=>none)
   else EF size C x
def CG (R:List AB) (e:Nat→Nat) (size:Int) (C:List Int) (i:Nat):Option Int:=OQ R e size C R.length i
theorem jH {k:Int}:(GJ k=true∨F4 k=true)↔(I6 k=true∨M3 k=true):=by
 simp only[GJ,F4,I6,M3,List.contains_cons,List.contains_nil,Bool.or_false,Bool.or_eq_true,beq_iff_eq]
 omega
section
variable {Z:List AB} {s:AM}
theorem EB.un (hG:EB Z s) {i:Nat} {x:AB} (hx:s.rows[i]?=some x) (h:GJ x.kind=true):x.kids=1:=by
 obtain⟨z,hz,h1,h2⟩:=hG.z hx
 have hf:=hG.t.fit hz
 unfold DR at hf
 simp only[Bool.and_eq_true,decide_eq_true_eq,Bool.or_eq_true] at hf
 obtain⟨⟨_,hl⟩,hm⟩:=hf
 rw[← h1,← h2] at hl hm
 unfold GJ at h
 simp only[List.contains_cons,List.contains_nil,Bool.or_false,Bool.or_eq_true,beq_iff_eq] at h
 rcases h with h | h <;> (rw[h] at hl hm;rcases hm with hm | hm <;> simp[CZ,FT] at hm hl <;> omega)
theorem EB.bin (hG:EB Z s) {i:Nat} {x:AB} (hx:s.rows[i]?=some x) (h:F4 x.kind=true):x.kids=2:=by
 obtain⟨z,hz,h1,h2⟩:=hG.z hx
 have hf:=hG.t.fit hz
 unfold DR at hf
 simp only[Bool.and_eq_true,decide_eq_true_eq,Bool.or_eq_true] at hf
 obtain⟨⟨_,hl⟩,hm⟩:=hf
 rw[← h1,← h2] at hl hm
 unfold F4 at h
 simp only[List.contains_cons,List.contains_nil,Bool.or_false,Bool.or_eq_true,beq_iff_eq] at h
 rcases h with h | h | h | h | h | h | h | h | h | h | h | h | h | h <;> (rw[h] at hl hm;rcases hm with hm | hm <;> simp[CZ,FT] at hm hl <;> omega)
theorem EB.kid0 (hG:EB Z s) {i:Nat} {x:AB} (hx:s.rows[i]?=some x) (h:0<x.kids):i<i+1∧i+1<s.rows.length:=⟨by omega,hG.next hx h⟩
theorem EB.kid1 (hG:EB Z s) {i:Nat} {x:AB} (hx:s.rows[i]?=some x) (h:x.kids=2):i<AC Z (i+1)∧AC Z (i+1)<s.rows.length:=
 hG.kid (k:=1) hx (by rw[h];rfl)
variable {size:Int} {C:List Int}
theorem TW (hG:EB Z s):∀ (d i f g:Nat),s.rows.length-i≤d→s.rows.length-i≤f→s.rows.length-i≤g→i<s.rows.length→OQ s.rows (AC Z) size C f i=OQ s.rows (AC Z) size C g i
 | 0,i,f,g,h1,_,_,h4=>by omega
 | d+1,i,f,g,h1,h2,h3,h4=>by
  obtain⟨f,rfl⟩:∃ j,f=j+1:=⟨f-1,by omega⟩
  obtain⟨g,rfl⟩:∃ j,g=j+1:=⟨g-1,by omega⟩
  obtain⟨x,hx⟩:∃ x,s.rows[i]?=some x:=⟨_,List.getElem?_eq_getElem h4⟩
  unfold OQ
  rw[hx]
  simp only
  by_cases hu:GJ x.kind=true
  ·have hk:=hG.un hx hu
   have k0:=hG.kid0 hx (by omega)
   rw[if_pos hu,if_pos hu,TW hG d (i+1) f g (by omega) (by omega) (by omega) k0.2]
  ·rw[if_neg hu,if_neg hu]
   by_cases hb:F4 x.kind=true
   ·have hk:=hG.bin hx hb
    have k0:=hG.kid0 hx (by omega)
    have k1:=hG.kid1 hx hk
    rw[if_pos hb,if_pos hb,TW hG d (i+1) f g (by omega) (by omega) (by omega) k0.2,TW hG d (AC Z (i+1)) f g (by omega) (by omega) (by omega) k1.2]
   ·rw[if_neg hb,if_neg hb]
theorem R6 (hG:EB Z s) {i:Nat} {x:AB} (hx:s.rows[i]?=some x):CG s.rows (AC Z) size C i=if GJ x.kind=true then (CG s.rows (AC Z) size C (i+1)).map (fun a=>GU x.kind a a)
   else if F4 x.kind=true then (match CG s.rows (AC Z) size C (i+1),CG s.rows (AC Z) size C (AC Z (i+1)) with
    | some a,some b=>some (GU x.kind a b)
    | _,_=>none)
   else EF size C x:=by
 have hl:=(List.getElem?_eq_some_iff.1 hx).1
 unfold CG
 obtain⟨f,hf⟩:∃ f,s.rows.length=f+1:=⟨s.rows.length-1,by omega⟩
 by_cases hu:GJ x.kind=true
 ·have hk:=hG.un hx hu
  have k0:=hG.kid0 hx (by omega)
  rw[if_pos hu,← TW hG s.rows.length (i+1) f s.rows.length (by omega) (by omega) (by omega) k0.2]
  conv=>lhs;rw[hf];unfold OQ
  rw[hx]
  simp only
  rw[if_pos hu]
 ·rw[if_neg hu]
  by_cases hb:F4 x.kind=true
  ·have hk:=hG.bin hx hb
   have k0:=hG.kid0 hx (by omega)
   have k1:=hG.kid1 hx hk
   rw[if_pos hb,← TW hG s.rows.length (i+1) f s.rows.length (by omega) (by omega) (by omega) k0.2,← TW hG s.rows.length (AC Z (i+1)) f s.rows.length (by omega) (by omega) (by omega) k1.2]
   conv=>lhs;rw[hf];unfold OQ
   rw[hx]
   simp only
   rw[if_neg hu,if_pos hb]
  ·rw[if_neg hb]
   conv=>lhs;rw[hf];unfold OQ
   rw[hx]
   simp only
   rw[if_neg hu,if_neg hb]
structure PG (s:AM) (size:Int) (C:List Int):Prop where
 sz:1≤size∧size≤1048576
 len:C.length=s.queues.length
 all:∀ c∈C,1≤c∧c≤1048576
theorem eX {size:Int}:∀ (l:List (Int × Bool)) (r o:Int) {p:Int × Int},I0 size l r o=some p→∀ y∈l,1≤y.1∧y.1≤1048576
 | [],r,o,p,_,y,hy=>by cases hy
 | (n,g) :: l,r,o,p,h,y,hy=>by
  unfold I0 at h
  split at h
  ·cases h
  rename_i hc
  have hn:1≤n∧n≤1048576:=by omega
  rcases List.mem_cons.1 hy with rfl | hy
  ·exact hn
  split at h
  ·exact eX l _ _ h y hy
  split at h
  ·cases h
  ·exact eX l _ _ h y hy
theorem Qv {s:AM} (h:K7 size C s.queues=true):PG s size C:=by
 unfold K7 at h
 split at h
 ·cases h
 rename_i hc
 have hl:C.length=s.queues.length:=by omega
 refine⟨by omega,hl,fun c hc'=>?_⟩
 cases hg:I0 size (IP C s.queues) 0 0 with
 | none=>rw[hg] at h;cases h
 | some p=>
  obtain⟨j,hj⟩:=List.getElem?_of_mem hc'
  have hjl:=(List.getElem?_eq_some_iff.1 hj).1
  obtain⟨q,hq⟩:∃ q,s.queues[j]?=some q:=⟨_,List.getElem?_eq_getElem (by omega)⟩
  have hz:=W7 hj hq
  have hm:(c,q.2)∈IP C s.queues:=List.mem_of_mem_drop (i:=j) (by rw[hz];exact List.mem_cons_self)
  exact eX _ _ _ hg _ hm
theorem m9 (k a b:Int):-1073741824≤GU k a b∧GU k a b≤1073741824:=by
 unfold GU
 split
 ·exact wY _
 ·split <;> omega
theorem Qp (hG:EB Z s) (hF:PG s size C) {i:Nat} {x:AB} (hx:s.rows[i]?=some x) {v:Int} (h:EF size C x=some v):-1073741824≤v∧v≤1073741824:=by
 unfold EF at h
 have hs:=hF.sz
 split at h
 ·rename_i hk
  have:=hG.num i x hx hk
  cases h
  omega
 split at h
 ·cases h
  omega
 split at h
 ·rename_i hk
  have hq:=hG.qn i x hx (by rw[hk];rfl)
  have hl:=hF.len
  obtain⟨c,hc⟩:∃ c,C[x.n.toNat]?=some c:=⟨_,List.getElem?_eq_getElem (by omega)⟩
  have:=hF.all c (List.mem_of_getElem? hc)
  rw[hc] at h
  cases h
  show -1073741824≤c∧c≤1073741824
  omega
 split at h
 ·cases h
  omega
 split at h
 ·cases h
  omega
 ·cases h
theorem U4 (hG:EB Z s) (hF:PG s size C) {i:Nat} (hi:i<s.rows.length) {v:Int} (h:CG s.rows (AC Z) size C i=some v):-1073741824≤v∧v≤1073741824:=by
 obtain⟨x,hx⟩:∃ x,s.rows[i]?=some x:=⟨_,List.getElem?_eq_getElem hi⟩
 rw[R6 hG hx] at h
 split at h
 ·cases hc:CG s.rows (AC Z) size C (i+1) with
  | none=>rw[hc] at h;cases h
  | some a=>rw[hc] at h;cases h;exact m9 _ _ _
 split at h
 ·split at h
  ·cases h;exact m9 _ _ _
  ·cases h
 ·exact Qp hG hF hx h
end
section
variable {l:List AB}
theorem UG:∀ (r p q:Nat),EY l r p q→∀ (a b u v:Nat),a<b→(BA (AC l) r p)[a]?=some u→(BA (AC l) r p)[b]?=some v→AC l u≤v
 | 0,p,q,_,a,b,u,v,_,h,_=>by simp[BA] at h
 | r+1,p,q,⟨p',s1,s2,s3,s4⟩,a,b,u,v,hab,ha,hb=>by
  have he:=IY s1
  obtain⟨b,rfl⟩:∃ j,b=j+1:=⟨b-1,by omega⟩
  have hb':(BA (AC l) r p')[b]?=some v:=by rw[← he];simpa [BA] using hb
  cases a with
  | zero=>
   have:p=u:=by simpa [BA] using ha
   subst this
   rw[he]
   exact S9 _ _ _ s4 v (List.mem_of_getElem? hb')
  | succ a=>
   have ha':(BA (AC l) r p')[a]?=some u:=by rw[← he];simpa [BA] using ha
   exact UG r p' q s4 a b u v (by omega) ha' hb'
theorem X7:∀ (r p q:Nat),EY l r p q→∀ (a u:Nat),(BA (AC l) r p)[a]?=some u→u<AC l u∧AC l u≤q
 | 0,p,q,_,a,u,h=>by simp[BA] at h
 | r+1,p,q,⟨p',s1,s2,s3,s4⟩,a,u,ha=>by
  have he:=IY s1
  cases a with
  | zero=>
   have:p=u:=by simpa [BA] using ha
   subst this
   rw[he]
   have:=HJ _ _ _ s4
   exact⟨s2,by omega⟩
  | succ a=>
   have ha':(BA (AC l) r p')[a]?=some u:=by rw[← he];simpa [BA] using ha
   exact X7 r p' q s4 a u ha'
theorem CU.nest (ht:CU l) {i j:Nat} (hi:i<l.length) (h1:i≤j) (h2:j<AC l i):AC l j≤AC l i:=by
 obtain⟨q,hq,h3⟩:=EK.cover l.length (by have:=(ht.end hi).lt;omega) (ht.end hi) j h1 h2
 rw[IY hq]
 exact h3
theorem kM {i:Nat} {x:AB} {first:Int}:∀ (ps:List Nat) (k0 q p:Nat) (s:IJ),ps[q]?=some p→(∀ q',q<q'→ps[q']?≠some p)→(∀ u∈ps,u≠i)→p<s.A.length→p<s.C.length →
  (G_ i x first k0 ps s).A[p]?=some (BU x.kind (k0+q) first)∧(G_ i x first k0 ps s).C[p]?=some (((s.C[i]?).getD false)||IA x.kind (k0+q))
 | [],k0,q,p,s,h,_,_,_,_=>by simp at h
 | a :: ps,k0,0,p,s,h,hl,hi,hA,hC=>by
  have:a=p:=by simpa using h
  subst this
  have hn:a∉ps:=fun hm=>by
   obtain⟨j,hj⟩:=List.getElem?_of_mem hm
   exact hl (j+1) (by omega) (by simpa using hj)
  obtain⟨o1,o2,_⟩:=WI (i:=i) (x:=x) (first:=first) ps (k0+1) (IT i x first s k0 a) a hn
  refine⟨o1.trans ?_,o2.trans ?_⟩
  ·exact List.getElem?_set_self hA
  ·exact List.getElem?_set_self hC
 | a :: ps,k0,q+1,p,s,h,hl,hi,hA,hC=>by
  have h':ps[q]?=some p:=by simpa using h
  have ha:a≠i:=hi a List.mem_cons_self
  have ih:=kM (i:=i) (x:=x) (first:=first) ps (k0+1) q p (IT i x first s k0 a) h' (fun q' hq' hc=>hl (q'+1) (by omega) (by simpa using hc)) (fun u hu=>hi u (List.mem_cons_of_mem _ hu)) (by simpa [IT] using hA) (by simpa [IT] using hC)
  have hci:(IT i x first s k0 a).C[i]?=s.C[i]?:=List.getElem?_set_ne ha
  rw[hci,show k0+1+q=k0+(q+1) by omega] at ih
  exact ih
theorem Pu (ht:CU l) {i k p:Nat} {x:AB} (hx:l[i]?=some x) (hk:(BA (AC l) x.kids.toNat (i+1))[k]?=some p) :
  (BJ l (AC l) p).A[p]?=some (BU x.kind k (A9 (((l[i+1]?).map (·.kind)).getD 0)))∧(BJ l (AC l) p).C[p]?=some ((((BJ l (AC l) i).C[i]?).getD false)||IA x.kind k):=by
 have hil:=(List.getElem?_eq_some_iff.1 hx).1
 have hs:=ht.end hil
 obtain⟨y,hy,_,_,hch⟩:=hs.kids
 rw[hx] at hy
 cases hy
 have hpi:=S9 _ _ _ hch p (List.mem_of_getElem? hk)
 obtain⟨y,hy,_⟩:=ht.kid hx hk
 have hpl:=(List.getElem?_eq_some_iff.1 hy).1
 obtain⟨hin1,hin2⟩:=X7 _ _ _ hch _ _ hk
 have hM:∀ j,i+1≤j→j≤p→(BJ l (AC l) j).A[p]?=some (BU x.kind k (A9 (((l[i+1]?).map (·.kind)).getD 0)))∧(BJ l (AC l) j).C[p]?=some ((((BJ l (AC l) i).C[i]?).getD false)||IA x.kind k):=by
  intro j
  induction j with
  | zero=>intro h;omega
  | succ j ih=>
   intro h1 h2
   rcases Nat.lt_or_ge i j with h3 | h3
   ·obtain⟨e1,e2⟩:=ih (by omega) (by omega)
    have hs1:BJ l (AC l) (j+1)=J5 l (AC l) j (BJ l (AC l) j):=rfl
    rw[hs1]
    unfold J5
    cases hw:l[j]? with
    | none=>exact⟨e1,e2⟩
    | some w=>
     simp only
     have hjl:=(List.getElem?_eq_some_iff.1 hw).1
     obtain⟨w',hw',_,_,hcj⟩:=(ht.end hjl).kids
     rw[hw] at hw'
     cases hw'
     obtain⟨jj,p',j1,j2,j3,j4⟩:=jX _ _ _ hch j (by omega) (by omega)
     have hp'l:p'<l.length:=by
      obtain⟨y',hy',_⟩:=ht.kid hx j1
      exact(List.getElem?_eq_some_iff.1 hy').1
     have hjp:AC l j≤p:=by
      have hn:=ht.nest hp'l j3 j4
      rcases Nat.lt_trichotomy jj k with h4 | h4 | h4
      ·have:=UG _ _ _ hch _ _ _ _ h4 j1 hk
       omega
      ·subst h4
       rw[j1] at hk
       cases hk
       omega
      ·have:=UG _ _ _ hch _ _ _ _ h4 hk j1
       omega
     have hnp:p∉BA (AC l) w.kids.toNat (j+1):=fun hm=>by
      obtain⟨q,hq⟩:=List.getElem?_of_mem hm
      obtain⟨a1,a2⟩:=X7 _ _ _ hcj _ _ hq
      omega
     obtain⟨o1,o2,_⟩:=WI (i:=j) (x:=w) (first:=A9 (((l[j+1]?).map (·.kind)).getD 0)) _ 0 (BJ l (AC l) j) p hnp
     exact⟨o1.trans e1,o2.trans e2⟩
   ·obtain rfl:j=i:=by omega
    have hs1:BJ l (AC l) (j+1)=J5 l (AC l) j (BJ l (AC l) j):=rfl
    rw[hs1]
    unfold J5
    rw[hx]
    simp only
    obtain⟨m1,m2,_⟩:=RN (R:=l) (AC l) j
    have:=kM (i:=j) (x:=x) (first:=A9 (((l[j+1]?).map (·.kind)).getD 0)) _ 0 k p (BJ l (AC l) j) hk (fun q' hq' hc=>by
     have:=UG _ _ _ hch _ _ _ _ hq' hk hc
     omega) (fun u hu=>by have:=S9 _ _ _ hch u hu;omega) (by omega) (by omega)
    rw[Nat.zero_add] at this
    exact this
 exact hM p (by omega) (Nat.le_refl _)
end
def RJ (Z:List AB) (s:AM):Prop:=∀ (i:Nat) (x:AB),s.rows[i]?=some x→IZ s.rows s.queues (BJ s.rows (AC Z) i) i x=0
theorem mS {R:List AB} {Q:List (ByteArray × Bool)} {e:Nat→Nat}:∀ (r i:Nat),i+r=R.length→(HG R Q e r i).1.1=0→∀ (j:Nat) (x:AB),i≤j→R[j]?=some x→IZ R Q (BJ R e j) j x=0
 | 0,i,h,_,j,x,h1,hx=>by
  have:=(List.getElem?_eq_some_iff.1 hx).1
  omega
 | r+1,i,h,h0,j,x,h1,hx=>by
  obtain⟨y,hy⟩:∃ y,R[i]?=some y:=⟨_,List.getElem?_eq_getElem (by omega)⟩
  by_cases hb:IZ R Q (BJ R e i) i y=0
  ·rw[cU hy hb] at h0
   rcases Nat.eq_or_lt_of_le h1 with e1 | e1
   ·subst e1
    rw[hy] at hx
    cases hx
    exact hb
   ·exact mS r (i+1) (by omega) h0 j x (by omega) hx
  ·rw[iL hy rfl hb] at h0
   exact absurd h0 hb
theorem xC {R:List AB} {Q:List (ByteArray × Bool)} {e:Nat→Nat}:∀ (r i:Nat),(HG R Q e r i).1.1=0→(HG R Q e r i).1=(0,0)
 | 0,i,_=>rfl
 | r+1,i,h=>by
  unfold HG at h ⊢
  split
  ·rfl
  ·rename_i y hy
   rw[hy] at h
   simp only at h
   split
   ·rename_i hb
    rw[if_pos hb] at h
    exact absurd h hb
   ·rename_i hb
    rw[if_neg hb] at h
    exact xC r (i+1) h
theorem XK {nm:ByteArray} {s:AM} (h:(B9 nm s).1.1=0):FD nm s=0∧EB (A8 s.rows) s∧RJ (A8 s.rows) s∧(B9 nm s).1=(0,0):=by
 unfold B9 at h ⊢
 split at h
 ·rename_i hc
  exact absurd h hc
 ·rename_i hc
  have hc0:FD nm s=0:=by simpa using hc
  rw[if_neg hc]
  exact⟨hc0,aR hc0,fun i x hx=>mS _ _ (by omega) h i x (Nat.zero_le _) hx,xC _ _ h⟩
section
variable {Z:List AB} {s:AM}
theorem VA (hG:EB Z s) (hO:RJ Z s) {i k p:Nat} {x y:AB} (hx:s.rows[i]?=some x) (hk:(BA (AC Z) x.kids.toNat (i+1))[k]?=some p) (hy:s.rows[p]?=some y) :
  (BU x.kind k (A9 (((s.rows[i+1]?).map (·.kind)).getD 0))≠0→A9 y.kind=BU x.kind k (A9 (((s.rows[i+1]?).map (·.kind)).getD 0)))∧(((((BJ s.rows (AC Z) i).C[i]?).getD false)||IA x.kind k)=true→I9 y.kind=false)∧(BJ s.rows (AC Z) p).C[p]?=some ((((BJ s.rows (AC Z) i).C[i]?).getD false)||IA x.kind k):=by
 obtain⟨z,hz,h1,h2⟩:=hG.z hx
 have hk':=hk
 rw[h2] at hk'
 obtain⟨mA,mC⟩:=Pu hG.t hz hk'
 have h3:=dD hG.kk hG.sk (i+1)
 have h4:(s.rows[i+1]?).map (·.kind)=(Z[i+1]?).map (·.kind):=by
  cases hR:s.rows[i+1]? <;> cases hZ:Z[i+1]? <;> rw[hR,hZ] at h3 <;> simp_all
 rw[← TT hG.kk hG.sk] at mA
 rw[← TT hG.kk hG.sk,← TT hG.kk hG.sk] at mC
 rw[← h1,← h4] at mA
 rw[← h1] at mC
 have hb:=hO p y hy
 refine⟨fun h0=>?_,fun hc=>?_,mC⟩
 ·by_cases h9:A9 y.kind=BU x.kind k (A9 (((s.rows[i+1]?).map (·.kind)).getD 0))
  ·exact h9
  ·rw[SZ mA h0 h9] at hb
   cases hb
 ·rw[hc] at mC
  cases hv:I9 y.kind with
  | false=>rfl
  | true=>
   by_cases h9:BU x.kind k (A9 (((s.rows[i+1]?).map (·.kind)).getD 0))≠0∧A9 y.kind≠BU x.kind k (A9 (((s.rows[i+1]?).map (·.kind)).getD 0))
   ·rw[SZ mA h9.1 h9.2] at hb
    cases hb
   ·rw[VB mA h9 mC hv] at hb
    cases hb
theorem CU.kid2 {l:List AB} {i:Nat} {x:AB} (ht:CU l) (hx:l[i]?=some x) (h2:2≤x.kind) {k p:Nat} (hk:(BA (AC l) x.kids.toNat (i+1))[k]?=some p):∃ y:AB,l[p]?=some y∧CA (BV x.kind k) y.kind=true:=by
 obtain⟨q,hq⟩:∃ q,EK l i q:=⟨_,ht.end (List.getElem?_eq_some_iff.1 hx).1⟩
 rcases hq with⟨m,what,h⟩ | ⟨rfl,m,h⟩
 ·cases m with
  | zero=>cases h
  | succ m=>
   unfold BW at h
   rw[hx] at h
   simp only at h
   split at h
   ·obtain⟨y,h1,h2⟩:=mP _ _ _ _ h k p hk
    rw[Nat.zero_add] at h2
    exact⟨y,h1,h2⟩
   ·cases h
 ·unfold GT at h
  rw[hx] at h
  simp only at h
  split at h
  ·rename_i hc
   rw[Bool.and_eq_true] at hc
   have h9:=hc.1
   simp[CA] at h9
   omega
  ·cases h
theorem EB.expr (hG:EB Z s) {i k p:Nat} {x:AB} (hx:s.rows[i]?=some x) (h39:39≤x.kind) (hk:(BA (AC Z) x.kids.toNat (i+1))[k]?=some p):∃ y:AB,s.rows[p]?=some y∧27≤y.kind∧y.kind≤54:=by
 obtain⟨z,hz,h1,h2⟩:=hG.z hx
 have hpl:=(hG.kid hx hk).2
 rw[h2] at hk
 obtain⟨w,hw,hs⟩:=hG.t.kid2 hz (by omega) hk
 obtain⟨y,hy⟩:∃ y,s.rows[p]?=some y:=⟨_,List.getElem?_eq_getElem hpl⟩
 obtain⟨w',hw',h3,_⟩:=hG.z hy
 rw[hw] at hw'
 cases hw'
 refine⟨y,hy,?_⟩
 rw[h3]
 have e:BV z.kind k=7:=by
  unfold BV
  rw[← h1]
  have c1:x.kind≠11:=by omega
  have c2:([7,8,9,10]:List Int).contains x.kind=false:=by simp;omega
  have c3:x.kind≠12:=by omega
  have c4:x.kind≠13:=by omega
  have c5:x.kind≠15:=by omega
  have c6:([19,20]:List Int).contains x.kind=false:=by simp;omega
  have c7:x.kind≠38:=by omega
  rw[if_neg c1,if_neg (by rw[c2];decide),if_neg c3,if_neg c4,if_neg c5,if_neg (by rw[c6];decide),if_neg c7]
 rw[e] at hs
 unfold CA at hs
 simpa using hs
theorem e_ {size:Int} {C:List Int} (hG:EB Z s) {i:Nat} {x:AB} (hx:s.rows[i]?=some x) (h2:A9 x.kind=2) {v:Int} (h:CG s.rows (AC Z) size C i=some v):v=0∨v=1:=by
 have hop:∀ a b,(GJ x.kind=true∨F4 x.kind=true)→GU x.kind a b=0∨GU x.kind a b=1:=fun a b hk=>by
  have hr:I6 x.kind=false:=by
   cases h9:I6 x.kind with
   | false=>rfl
   | true=>
    exfalso
    unfold I6 at h9
    simp only[List.contains_cons,List.contains_nil,Bool.or_false,Bool.or_eq_true,beq_iff_eq] at h9
    rcases h9 with h9 | h9 | h9 | h9 | h9 | h9 | h9 <;> (rw[h9] at h2;cases h2)
  unfold GU
  rw[if_neg (by rw[hr];decide)]
  split <;> simp
 rw[R6 hG hx] at h
 split at h
 ·rename_i hu
  cases hc:CG s.rows (AC Z) size C (i+1) with
  | none=>rw[hc] at h;cases h
  | some a=>rw[hc] at h;cases h;exact hop a a (.inl hu)
 split at h
 ·rename_i hb
  split at h
  ·cases h;exact hop _ _ (.inr hb)
  ·cases h
 unfold EF at h
 split at h
 ·rename_i hk;rw[hk] at h2;cases h2
 split at h
 ·rename_i hk;rw[hk] at h2;cases h2
 split at h
 ·rename_i hk;rw[hk] at h2;cases h2
 split at h
 ·cases h;exact .inr rfl
 split at h
 ·cases h;exact .inl rfl
 ·cases h
theorem EB.leaf (hG:EB Z s) {i:Nat} {x:AB} (hx:s.rows[i]?=some x) (hk:[27,28,29,30,31,32,33,34,35,36,37].contains x.kind=true):AC Z i=i+1:=by
 obtain⟨z,hz,h1,h2⟩:=hG.z hx
 obtain⟨k0,hch,_⟩:=hG.kids0 hx
 have hf:=hG.t.fit hz
 unfold DR at hf
 simp only[Bool.and_eq_true,decide_eq_true_eq,Bool.or_eq_true] at hf
 obtain⟨_,hm⟩:=hf
 rw[← h1,← h2] at hm
 have hk0:x.kids=0:=by
  simp only[List.contains_cons,List.contains_nil,Bool.or_false,Bool.or_eq_true,beq_iff_eq] at hk
  rcases hk with h | h | h | h | h | h | h | h | h | h | h <;> (rw[h] at hm;rcases hm with hm | hm <;> simp[CZ] at hm <;> omega)
 rw[hk0] at hch
 exact hch.symm
theorem WC {size:Int} {C:List Int} (hG:EB Z s):∀ (d i:Nat) (x:AB),s.rows.length-i≤d→s.rows[i]?=some x→27≤x.kind→((CG s.rows (AC Z) size C i).isSome=true↔∀ (j:Nat) (y:AB),i≤j→j<AC Z i→s.rows[j]?=some y→I9 y.kind=false)
 | 0,i,x,hd,hx,_=>by have:=(List.getElem?_eq_some_iff.1 hx).1;omega
 | d + 1,i,x,hd,hx,h27=>by
  have hil:=(List.getElem?_eq_some_iff.1 hx).1
  have h54:=(hG.ks i x hx).2
  obtain⟨k0,hch,hel,hei⟩:=hG.kids0 hx
  rw[R6 hG hx]
  cases hu:GJ x.kind with
  | true=>
   have hk:=hG.un hx hu
   have h39:39≤x.kind:=by unfold GJ at hu;simp at hu;omega
   obtain⟨y,hy,hy27,_⟩:=hG.expr (k:=0) (p:=i+1) hx h39 (by rw[hk];rfl)
   have ih:=WC (size:=size) (C:=C) hG d (i+1) y (by omega) hy hy27
   have he:AC Z (i+1)=AC Z i:=by
    rw[hk] at hch
    obtain⟨p',s1,_,_,s4⟩:=hch
    rw[IY s1]
    exact s4
   have hv:I9 x.kind=false:=by unfold GJ at hu;simp at hu;rcases hu with h | h <;> (rw[h];rfl)
   rw[if_pos rfl,Option.isSome_map,ih,he]
   refine⟨fun h j y' h1 h2 h3=>?_,fun h j y' h1 h2 h3=>h j y' (by omega) h2 h3⟩
   rcases Nat.eq_or_lt_of_le h1 with e | e
   ·subst e
    rw[hx] at h3
    cases h3
    exact hv
   ·exact h j y' (by omega) h2 h3
  | false=>
  rw[if_neg (by decide)]
  cases hb:F4 x.kind with
  | true=>
   have hk:=hG.bin hx hb
   have h39:39≤x.kind:=by unfold F4 at hb;simp at hb;omega
   obtain⟨y,hy,hy27,_⟩:=hG.expr (k:=0) (p:=i+1) hx h39 (by rw[hk];rfl)
   obtain⟨w,hw,hw27,_⟩:=hG.expr (k:=1) (p:=AC Z (i+1)) hx h39 (by rw[hk];rfl)
   have hk1:=hG.kid1 hx hk
   have ih1:=WC (size:=size) (C:=C) hG d (i+1) y (by omega) hy hy27
   have ih2:=WC (size:=size) (C:=C) hG d (AC Z (i+1)) w (by omega) hw hw27
   have he:AC Z (AC Z (i+1))=AC Z i:=by
    rw[hk] at hch
    obtain⟨p',s1,_,_,p2,s5,_,_,s8⟩:=hch
    rw[IY s1,IY s5]
    exact s8
   have hlt2:=(hG.kids0 hw).2.2.2
   have hlt1:=(hG.kids0 hy).2.2.2
   have hv:I9 x.kind=false:=by
    unfold F4 at hb
    simp only[List.contains_cons,List.contains_nil,Bool.or_false,Bool.or_eq_true,beq_iff_eq] at hb
    rcases hb with h | h | h | h | h | h | h | h | h | h | h | h | h | h <;> (rw[h];rfl)
   rw[if_pos rfl]
   refine Iff.trans (b:=(CG s.rows (AC Z) size C (i+1)).isSome=true∧(CG s.rows (AC Z) size C (AC Z (i+1))).isSome=true) ?_ ?_
   ·cases CG s.rows (AC Z) size C (i+1) <;> cases CG s.rows (AC Z) size C (AC Z (i+1)) <;> simp
   rw[ih1,ih2,he]
   refine⟨fun h j y' h1 h2 h3=>?_,fun h=>⟨fun j y' h1 h2 h3=>h j y' (by omega) (by omega) h3,fun j y' h1 h2 h3=>h j y' (by omega) h2 h3⟩⟩
   rcases Nat.eq_or_lt_of_le h1 with e | e
   ·subst e
    rw[hx] at h3
    cases h3
    exact hv
   ·rcases Nat.lt_or_ge j (AC Z (i+1)) with h4 | h4
    ·exact h.1 j y' (by omega) h4 h3
    ·exact h.2 j y' h4 h2 h3
  | false=>
   rw[if_neg (by decide)]
   cases hv:I9 x.kind with
   | true=>
    have e:EF size C x=none:=by
     unfold I9 at hv
     simp only[List.contains_cons,List.contains_nil,Bool.or_false,Bool.or_eq_true,beq_iff_eq] at hv
     unfold EF
     rw[if_neg (by omega),if_neg (by omega),if_neg (by omega),if_neg (by omega),if_neg (by omega)]
    rw[e]
    refine⟨fun h=>(by cases h),fun h=>?_⟩
    have:=h i x (Nat.le_refl _) hei hx
    rw[hv] at this
    cases this
   | false=>
    have hlf:x.kind=27∨x.kind=29∨x.kind=30∨x.kind=32∨x.kind=33:=by
     unfold GJ at hu
     unfold F4 at hb
     unfold I9 at hv
     simp only[List.contains_cons,List.contains_nil,Bool.or_false,Bool.or_eq_false_iff,beq_eq_false_iff_ne] at hu hb hv
     omega
    have he:AC Z i=i+1:=hG.leaf hx (by rcases hlf with h | h | h | h | h <;> (rw[h];rfl))
    refine⟨fun _ j y' h1 h2 h3=>?_,fun _=>?_⟩
    ·have:j=i:=by omega
     subst this
     rw[hx] at h3
     cases h3
     exact hv
    ·unfold EF
     rcases hlf with h | h | h | h | h <;> (rw[h];rfl)
end
structure IQ where
 V:List (Int × Int × Int)
 G:List Int
 Rd:List Int
def D_ (e:Nat→Nat) (val:Nat→Int) (i:Nat) (x:AB) (t:IQ):Int × IQ:=
 if x.kind=4 then (if val (i+1)<val (e (i+1))∨val (i+1)>val (e (e (i+1))) then (43,t) else (0,{ t with V:=t.V++[(val (i+1),val (e (i+1)),val (e (e (i+1))))] }))
 else if x.kind=5 then (if val (i+1)<1∨val (i+1)>255 then (43,t) else (0,{ t with G:=t.G++[val (i+1)] }))
 else if x.kind=6 then (if val (i+1)=0 then (44,t) else (0,t))
 else if x.kind=13 then (if val (i+1)<0∨val (i+1)>4194304 then (43,t) else (0,{ t with Rd:=t.Rd.set i (val (i+1)) }))
 else (0,t)
def J1 (R:List AB) (e:Nat→Nat) (val:Nat→Int):Nat→Nat→IQ→(Int × Int) × IQ
 | 0,_,t=>((0,0),t)
 | r+1,i,t=>match R[i]? with
  | none=>((0,0),t)
  | some x=>if (D_ e val i x t).1≠0 then (((D_ e val i x t).1,(i:Int)),⟨[],[],[]⟩) else J1 R e val r (i+1) (D_ e val i x t).2
section
variable {R:List AB} {e:Nat→Nat} {val:Nat→Int} {r i:Nat} {x:AB} {t:IQ}
theorem LZ (hx:R[i]?=some x) {b:Int} (hb:(D_ e val i x t).1=b) (h0:b≠0):J1 R e val (r+1) i t=((b,(i:Int)),⟨[],[],[]⟩):=by
 unfold J1
 rw[hx]
 simp only
 rw[hb,if_pos h0]
theorem OI (hx:R[i]?=some x) (hb:(D_ e val i x t).1=0):J1 R e val (r+1) i t=J1 R e val r (i+1) (D_ e val i x t).2:=by
 conv=>lhs;unfold J1
 rw[hx]
 simp only
 rw[hb,if_neg (by decide)]
end
section
variable {Z:List AB} {s:AM}
theorem wX (hG:EB Z s) (hO:RJ Z s) {p:Nat} {y:AB} (hy:s.rows[p]?=some y) (hC:(BJ s.rows (AC Z) p).C[p]?=some true):∀ (d j:Nat),j≤p+d→p≤j→j<AC Z p→(BJ s.rows (AC Z) j).C[j]?=some true
 | 0,j,h1,h2,_=>by
  obtain rfl:j=p:=by omega
  exact hC
 | d + 1,j,h1,h2,h3=>by
  rcases Nat.eq_or_lt_of_le h2 with e | e
  ·subst e;exact hC
  obtain⟨z,hz,_,_⟩:=hG.z hy
  have hpl:=(List.getElem?_eq_some_iff.1 hz).1
  have hend:=(hG.t.end hpl).lt
  have h0l:AC Z 0=Z.length:=IY hG.t
  obtain⟨i,x,k,hx,hij,hk⟩:=hG.t.kidOf j 0 j (by omega) (by omega) (by omega) (by omega)
  have hil:=(List.getElem?_eq_some_iff.1 hx).1
  obtain⟨x',hx',_,_,hch⟩:=(hG.t.end hil).kids
  rw[hx] at hx'
  cases hx'
  obtain⟨hj1,hj2⟩:=X7 _ _ _ hch _ _ hk
  have hip:p≤i:=by
   rcases Nat.lt_or_ge i p with h4 | h4
   ·exfalso
    obtain⟨jj,p',j1,j2,j3,j4⟩:=jX _ _ _ hch p (by omega) (by omega)
    have hp'l:p'<Z.length:=by
     obtain⟨y',hy',_⟩:=hG.t.kid hx j1
     exact(List.getElem?_eq_some_iff.1 hy').1
    have hn:=hG.t.nest hp'l j3 j4
    rcases Nat.lt_trichotomy jj k with h5 | h5 | h5
    ·have:=UG _ _ _ hch _ _ _ _ h5 j1 hk
     omega
    ·subst h5
     rw[j1] at hk
     cases hk
     omega
    ·have:=UG _ _ _ hch _ _ _ _ h5 hk j1
     omega
   ·exact h4
  have hsl:=hG.sk.1
  obtain⟨w,hw⟩:∃ w,s.rows[i]?=some w:=⟨_,List.getElem?_eq_getElem (by omega)⟩
  obtain⟨v,hv⟩:∃ v,s.rows[j]?=some v:=⟨_,List.getElem?_eq_getElem (by omega)⟩
  obtain⟨w',hw',_,h6⟩:=hG.z hw
  rw[hx] at hw'
  cases hw'
  rw[← h6] at hk
  have hi:=wX hG hO hy hC d i (by omega) hip (by omega)
  have:=(VA hG hO hw hk hv).2.2
  rw[hi] at this
  exact this
theorem Ew {size:Int} {C:List Int} (hG:EB Z s) (hO:RJ Z s) {p:Nat} {y:AB} (hy:s.rows[p]?=some y) (h27:27≤y.kind) (hC:(BJ s.rows (AC Z) p).C[p]?=some true):∃ v,CG s.rows (AC Z) size C p=some v:=by
 have h:=(WC (size:=size) (C:=C) hG s.rows.length p y (by omega) hy h27).2 fun j w h1 h2 hw=>by
  have hc:=wX hG hO hy hC j j (by omega) h1 h2
  have hb:=hO j w hw
  obtain⟨m1,_,_⟩:=RN (R:=s.rows) (AC Z) j
  have hjl:=(List.getElem?_eq_some_iff.1 hw).1
  obtain⟨a,hA⟩:∃ a,(BJ s.rows (AC Z) j).A[j]?=some a:=⟨_,List.getElem?_eq_getElem (by omega)⟩
  cases hv:I9 w.kind with
  | false=>rfl
  | true=>
   by_cases h9:a≠0∧A9 w.kind≠a
   ·rw[SZ hA h9.1 h9.2] at hb
    cases hb
   ·rw[VB hA h9 hc hv] at hb
    cases hb
 exact Option.isSome_iff_exists.1 h
theorem xZ {size:Int} {C:List Int} (hG:EB Z s) (hO:RJ Z s) {i k p:Nat} {x:AB} (hx:s.rows[i]?=some x) (hk:(BA (AC Z) x.kids.toNat (i+1))[k]?=some p) (hf:IA x.kind k=true):∃ (y:AB) (v:Int),s.rows[p]?=some y∧27≤y.kind∧CG s.rows (AC Z) size C p=some v:=by
 obtain⟨z,hz,h1,h2⟩:=hG.z hx
 have hpl:=(hG.kid hx hk).2
 obtain⟨y,hy⟩:∃ y,s.rows[p]?=some y:=⟨_,List.getElem?_eq_getElem hpl⟩
 have hc:=(VA hG hO hx hk hy).2.2
 rw[hf,Bool.or_true] at hc
 have hk':=hk
 rw[h2] at hk'
 have hkk:x.kind=4∨x.kind=5∨x.kind=6∨(x.kind=13∧k=0):=by
  unfold IA at hf
  simp at hf
  omega
 obtain⟨w,hw,hs⟩:=hG.t.kid2 hz (by omega) hk'
 obtain⟨w',hw',h3,_⟩:=hG.z hy
 rw[hw] at hw'
 cases hw'
 have e:BV z.kind k=7:=by
  rw[← h1]
  rcases hkk with h | h | h | ⟨h,h9⟩
  ·rw[h];rfl
  ·rw[h];rfl
  ·rw[h];rfl
  ·rw[h,h9];rfl
 rw[e] at hs
 have h27:27≤y.kind:=by
  rw[h3]
  unfold CA at hs
  simp at hs
  omega
 obtain⟨v,hv⟩:=Ew (size:=size) (C:=C) hG hO hy h27 hc
 exact⟨y,v,hy,h27,hv⟩
end
theorem ZA {α:Type} {F G:Int→α} (h:JI.map F=JI.map G) {k:Int} (hk:1≤k∧k≤54):F k=G k:=(List.map_inj_left.1 h) k (Y0 hk)
def XR:List Int:=JI.filter fun k=>!([12,13,15,47,48].contains k)
theorem Lf {α:Type} {F G:Int→α} (h:XR.map F=XR.map G) {k:Int} (hk:1≤k∧k≤54) (hr:[12,13,15,47,48].contains k=false):F k=G k:=
 (List.map_inj_left.1 h) k (List.mem_filter.2 ⟨Y0 hk,by rw[hr];rfl⟩)
section
variable (call:AS) (N:Nat) (h:AA)
theorem Di:(JI.map fun k=>AY Tryz.prog call N 28 [iv k] h)=JI.map fun k=>some (iv (A9 k),h):=by kernel_rfl
theorem yR:(JI.map fun k=>AY Tryz.prog call N 36 [iv k] h)=JI.map fun k=>some (iv (A9 k),h):=by kernel_rfl
theorem Ec:(JI.map fun k=>AY Tryz.prog call N 29 [iv k] h)=JI.map fun k=>some (.bool (I9 k),h):=by kernel_rfl
theorem Wc:(JI.map fun k=>AY Tryz.prog call N 37 [iv k] h)=JI.map fun k=>some (.bool (I9 k),h):=by kernel_rfl
theorem zY (j:Nat) (first:Int):(XR.map fun k=>AY Tryz.prog call N 32 [iv k,iv j,iv first] h)=XR.map fun k=>some (iv (BU k j first),h):=by kernel_rfl
end
section
variable {n:Nat} {h:AA} {k:Int}
theorem uV (hk:1≤k∧k≤54) (hn:0<n):AK n 28 [iv k] h=some (iv (A9 k),h):=by
 obtain⟨n,rfl⟩:=B8 hn
 exact D4 (BD ⟨rfl,rfl,rfl⟩) rfl (ZA (Di (AK n) n h) hk)
theorem fR (hk:1≤k∧k≤54) (hn:0<n):AK n 36 [iv k] h=some (iv (A9 k),h):=by
 obtain⟨n,rfl⟩:=B8 hn
 exact D4 (BD ⟨rfl,rfl,rfl⟩) rfl (ZA (yR (AK n) n h) hk)
theorem Hv (hk:1≤k∧k≤54) (hn:0<n):AK n 29 [iv k] h=some (.bool (I9 k),h):=by
 obtain⟨n,rfl⟩:=B8 hn
 exact D4 (BD ⟨rfl,rfl,rfl⟩) rfl (ZA (Ec (AK n) n h) hk)
theorem mG (hk:1≤k∧k≤54) (hn:0<n):AK n 37 [iv k] h=some (.bool (I9 k),h):=by
 obtain⟨n,rfl⟩:=B8 hn
 exact D4 (BD ⟨rfl,rfl,rfl⟩) rfl (ZA (Wc (AK n) n h) hk)
theorem vN (a:Int) (j:Nat):IA a j=(a==4||(a==5||(a==6||(a==13&&(j:Int)==0)))):=by
 have hj:((j:Int)==0)=(j==0):=by
  rw[Bool.eq_iff_iff]
  simp
 unfold IA
 rw[hj]
 simp only[List.contains_cons,List.contains_nil,Bool.or_false,Bool.or_assoc]
theorem Ij {a:Int} {j:Nat} (hn:0<n):AK n 33 [iv a,iv (j:Int)] h=some (.bool (IA a j),h):=by
 obtain⟨n,rfl⟩:=B8 hn
 refine D4 (BD ⟨rfl,rfl,rfl⟩) rfl ?_
 refine CO Tryz.func33 rfl (by simp[Tryz.f33]) ?_
 have hr:Tryz.f33.results.toList=[.tmp 4]:=rfl
 rw[vN]
 cases c4:(a==4) with
 | true=>simp only[eE,seval,↓eP,hr,c4,Bool.true_or]
 | false=>
 cases c5:(a==5) with
 | true=>simp only[eE,seval,↓eP,hr,c4,c5,Bool.true_or,Bool.or_true]
 | false=>
 cases c6:(a==6) with
 | true=>simp only[eE,seval,↓eP,hr,c4,c5,c6,Bool.true_or,Bool.or_true]
 | false=>
 cases c13:(a==13) with
 | false=>simp only[eE,seval,↓eP,hr,c4,c5,c6,c13,Bool.or_false,Bool.false_and]
 | true=>
 cases cj:((j:Int)==0) with
 | false=>simp only[eE,seval,↓eP,hr,c4,c5,c6,c13,cj,Bool.or_false,Bool.and_false]
 | true=>simp only[eE,seval,↓eP,hr,c4,c5,c6,c13,cj,Bool.or_true,Bool.and_true]
theorem lG {a b:Int}:GD Tryz.prog h 25 2 [(0,iv a),(1,iv b)]=some (qS h.next 2 2,h.push (.row [iv a,iv b] 3 false false)):=by
 have hc:∀ x:Int,(iv x).cells=#[iv x]:=fun _=>rfl
 simp[GD,Tryz.underlying25,C7,JK,flat,BS,hc,JX,B0,Go.Sx.lay]
theorem UC {a b c:Int}:GD Tryz.prog h 25 3 [(0,iv a),(1,iv b),(2,iv c)]=some (qS h.next 3 3,h.push (.row [iv a,iv b,iv c] 3 false false)):=by
 have hc:∀ x:Int,(iv x).cells=#[iv x]:=fun _=>rfl
 simp[GD,Tryz.underlying25,C7,JK,flat,BS,hc,JX,B0,Go.Sx.lay]
theorem QC {o:BF}:∀ i,i<h.next→(h.push o).get i=h.get i:=fun i hi=>AU hi
theorem Pt {call:AS} {N:Nat} {j:Nat} {first:Int} (hk:1≤k∧k≤54) (hj:[12,13].contains k=true→j<3) (hj2:[15,47,48].contains k=true→j<2):∃ h1,AY Tryz.prog call N 32 [iv k,iv (j:Int),iv first] h=some (iv (BU k j first),h1)∧∀ i,i<h.next→h1.get i=h.get i:=by
 by_cases hr:[12,13,15,47,48].contains k=false
 ·exact⟨h,Lf (zY call N h j first) hk hr,fun _ _=>rfl⟩
 have hr':k=12∨k=13∨k=15∨k=47∨k=48:=by
  simp only[Bool.not_eq_false,List.contains_cons,List.contains_nil,Bool.or_false,Bool.or_eq_true,beq_iff_eq] at hr
  omega
 have hR:Tryz.f32.results.toList=[.tmp 6]:=rfl
 rcases hr' with rfl | rfl | rfl | rfl | rfl
 ·have h3:j=0∨j=1∨j=2:=by have:=hj rfl;omega
  rcases h3 with rfl | rfl | rfl
  ·have hix:CB Tryz.prog 25 (qS h.next 3 3) (iv 0)=some (qP h.next 0):=EG (id:=h.next) (n:=3) (c:=3) (i:=0) (by decide)
   change ∃ h1,AY Tryz.prog call N 32 [iv 12,iv 0,iv first] h=some (iv (BU 12 0 first),h1)∧_
   refine DW (R:=fun h1=>∀ i,i<h.next→h1.get i=h.get i) Tryz.func32 rfl (by simp[Tryz.f32]) ?_
   simp only[eE,seval,↓eP,Int.reduceBEq,hR,UC,hix,AL,BX,AH]
   exact⟨rfl,QC⟩
  ·have hix:CB Tryz.prog 25 (qS h.next 3 3) (iv 1)=some (qP h.next 1):=EG (id:=h.next) (n:=3) (c:=3) (i:=1) (by decide)
   change ∃ h1,AY Tryz.prog call N 32 [iv 12,iv 1,iv first] h=some (iv (BU 12 1 first),h1)∧_
   refine DW (R:=fun h1=>∀ i,i<h.next→h1.get i=h.get i) Tryz.func32 rfl (by simp[Tryz.f32]) ?_
   simp only[eE,seval,↓eP,Int.reduceBEq,hR,UC,hix,AL,BX,AH]
   exact⟨rfl,QC⟩
  ·have hix:CB Tryz.prog 25 (qS h.next 3 3) (iv 2)=some (qP h.next 2):=EG (id:=h.next) (n:=3) (c:=3) (i:=2) (by decide)
   change ∃ h1,AY Tryz.prog call N 32 [iv 12,iv 2,iv first] h=some (iv (BU 12 2 first),h1)∧_
   refine DW (R:=fun h1=>∀ i,i<h.next→h1.get i=h.get i) Tryz.func32 rfl (by simp[Tryz.f32]) ?_
   simp only[eE,seval,↓eP,Int.reduceBEq,hR,UC,hix,AL,BX,AH]
   exact⟨rfl,QC⟩
 ·have h3:j=0∨j=1∨j=2:=by have:=hj rfl;omega
  rcases h3 with rfl | rfl | rfl
  ·have hix:CB Tryz.prog 25 (qS h.next 3 3) (iv 0)=some (qP h.next 0):=EG (id:=h.next) (n:=3) (c:=3) (i:=0) (by decide)
   change ∃ h1,AY Tryz.prog call N 32 [iv 13,iv 0,iv first] h=some (iv (BU 13 0 first),h1)∧_
   refine DW (R:=fun h1=>∀ i,i<h.next→h1.get i=h.get i) Tryz.func32 rfl (by simp[Tryz.f32]) ?_
   simp only[eE,seval,↓eP,Int.reduceBEq,hR,UC,hix,AL,BX,AH]
   exact⟨rfl,QC⟩
  ·have hix:CB Tryz.prog 25 (qS h.next 3 3) (iv 1)=some (qP h.next 1):=EG (id:=h.next) (n:=3) (c:=3) (i:=1) (by decide)
   change ∃ h1,AY Tryz.prog call N 32 [iv 13,iv 1,iv first] h=some (iv (BU 13 1 first),h1)∧_
   refine DW (R:=fun h1=>∀ i,i<h.next→h1.get i=h.get i) Tryz.func32 rfl (by simp[Tryz.f32]) ?_
   simp only[eE,seval,↓eP,Int.reduceBEq,hR,UC,hix,AL,BX,AH]
   exact⟨rfl,QC⟩
  ·have hix:CB Tryz.prog 25 (qS h.next 3 3) (iv 2)=some (qP h.next 2):=EG (id:=h.next) (n:=3) (c:=3) (i:=2) (by decide)
   change ∃ h1,AY Tryz.prog call N 32 [iv 13,iv 2,iv first] h=some (iv (BU 13 2 first),h1)∧_
   refine DW (R:=fun h1=>∀ i,i<h.next→h1.get i=h.get i) Tryz.func32 rfl (by simp[Tryz.f32]) ?_
   simp only[eE,seval,↓eP,Int.reduceBEq,hR,UC,hix,AL,BX,AH]
   exact⟨rfl,QC⟩
 ·have h3:j=0∨j=1:=by have:=hj2 rfl;omega
  rcases h3 with rfl | rfl
  ·have hix:CB Tryz.prog 25 (qS h.next 2 2) (iv 0)=some (qP h.next 0):=EG (id:=h.next) (n:=2) (c:=2) (i:=0) (by decide)
   change ∃ h1,AY Tryz.prog call N 32 [iv 15,iv 0,iv first] h=some (iv (BU 15 0 first),h1)∧_
   refine DW (R:=fun h1=>∀ i,i<h.next→h1.get i=h.get i) Tryz.func32 rfl (by simp[Tryz.f32]) ?_
   simp only[eE,seval,↓eP,Int.reduceBEq,hR,lG,hix,AL,BX,AH]
   exact⟨rfl,QC⟩
  ·have hix:CB Tryz.prog 25 (qS h.next 2 2) (iv 1)=some (qP h.next 1):=EG (id:=h.next) (n:=2) (c:=2) (i:=1) (by decide)
   change ∃ h1,AY Tryz.prog call N 32 [iv 15,iv 1,iv first] h=some (iv (BU 15 1 first),h1)∧_
   refine DW (R:=fun h1=>∀ i,i<h.next→h1.get i=h.get i) Tryz.func32 rfl (by simp[Tryz.f32]) ?_
   simp only[eE,seval,↓eP,Int.reduceBEq,hR,lG,hix,AL,BX,AH]
   exact⟨rfl,QC⟩
 ·have h3:j=0∨j=1:=by have:=hj2 rfl;omega
  rcases h3 with rfl | rfl
  ·exact⟨h,by kernel_rfl,fun _ _=>rfl⟩
  ·exact⟨h,by kernel_rfl,fun _ _=>rfl⟩
 ·have h3:j=0∨j=1:=by have:=hj2 rfl;omega
  rcases h3 with rfl | rfl
  ·exact⟨h,by kernel_rfl,fun _ _=>rfl⟩
  ·exact⟨h,by kernel_rfl,fun _ _=>rfl⟩
theorem Bq {j:Nat} {first:Int} (hk:1≤k∧k≤54) (hj:[12,13].contains k=true→j<3) (hj2:[15,47,48].contains k=true→j<2) (hn:0<n):AK n 32 [iv k,iv (j:Int),iv first] h=some (iv (BU k j first),h):=by
 obtain⟨n,rfl⟩:=B8 hn
 exact HB (BD ⟨rfl,rfl,rfl⟩) rfl (Pt hk hj hj2)
end
theorem SJ {z:List Value}:∀ n,(B0 z n).length=n*z.length
 | 0=>by simp[B0]
 | n+1=>by rw[B0,List.length_append,SJ n,Nat.succ_mul];omega
theorem aM {z:List Value}:∀ a b,B0 z (a+b)=B0 z a++B0 z b
 | 0,b=>by simp[B0]
 | a+1,b=>by rw[Nat.succ_add,B0,B0,aM a b,List.append_assoc]
section
variable {P:Program} {t e:TypeId} {w b:Nat} {z:Value} {h:AA}
theorem R8 (ht:P.underlying t=some (.slice e)) (he:BM P e=some w) {id n m c:Nat} (hm:m≤c) (hc:c≠AO):HW P h t (qS id n c) none (some (iv (m:Int))) none=some (qS id m c):=by
 simp only[HW,ht,he,GO,hc,if_false]
 rw[if_pos (by omega)]
 simp only[Int.toNat_natCast]
 by_cases h0:c=0
 ·subst h0
  simp[CN]
 ·simp[CN]
end
structure PK (h:AA) (o n w:Nat) (cs mk z:List Value) (e:TypeId):Prop where
 g:h.get o=.row (cs++(mk++B0 z 2)) e false false
 len:cs.length=n*w
 mlen:mk.length=w
 zlen:z.length=w
section
variable {t e:TypeId} {w b:Nat} {z:Value} {h:AA}
end
section
variable {t e:TypeId} {w b:Nat} {z:Value} {h:AA}
end
section
variable {h h':AA} {o n w:Nat} {cs mk z:List Value} {e:TypeId}
theorem PK.mono (hl:PK h o n w cs mk z e) (hg:h'.get o=h.get o):PK h' o n w cs mk z e:=⟨by rw[hg];exact hl.g,hl.len,hl.mlen,hl.zlen⟩
theorem PK.cells (hl:PK h o n w cs mk z e) {lo c:Nat} (ho:lo≤o∧o<h.next):AN lo h (qS o n c) n w cs:=AN.row hl.g ho hl.len
theorem PK.mark (hl:PK h o n w cs mk z e) {lo c:Nat} (ho:lo≤o∧o<h.next):AN lo h (qS o (n+1) c) (n+1) w (cs++mk):=
 AN.row (ex:=B0 z 2) (by rw[List.append_assoc];exact hl.g) ho (by rw[List.length_append,hl.len,hl.mlen,Nat.succ_mul])
end
section
variable {P:Program} {t e:TypeId} {w b:Nat} {z:Value} {h:AA}
theorem PW (ht:P.underlying t=some (.slice e)) (he:BM P e=some w) (hb:HC P e=some b) (hz:DX P e=some z) (hzc:z.cells.size=w) (hzf:flat z=true) (hw:0<w) (hbb:b≤64) {n:Nat} (hn:n<1099511627776) :
  HP P h t (iv (n:Int)) (iv (n:Int))=some (qS h.next n n,h.push (.row (B0 z.cells.toList n) e false false)):=by
 simp only[HP,ht,he,hz,hb]
 have hmul:(b:Int)*(n:Int)≤64*(n:Int):=Int.mul_le_mul_of_nonneg_right (by omega) (by omega)
 rw[if_pos (by simp[hzf,hzc,hw];omega)]
 simp
theorem Cv (ht:P.underlying t=some (.slice e)) (he:BM P e=some w) {id n m c:Nat} {lo:Nat} {v:Value} {cs R:List Value} {ty:TypeId} {g:Bool} (hv:AN lo h v n w cs) (hone:cs.all one=true) (hw:0<w) (hg:h.get id=.row R ty g false) (hR:R.length=m*w) (hn:n≤m) (hid:id<h.next) (hf:h.floor≤id) :
  ∃ h',MM P h t (qS id m c) v=some (iv (n:Int),h')∧h'.get id=.row (cs++R.drop (n*w)) ty g false∧h'.next=h.next∧h'.floor=h.floor∧∀ i,i≠id→h'.get i=h.get i:=by
 have hsrc:=hv.src
 have hcl:=hv.1
 obtain⟨_,a,c',rfl,_⟩:=hv
 have hm:min n m=n:=by omega
 by_cases h0:n=0
 ·refine⟨h,?_,?_,rfl,rfl,fun _ _=>rfl⟩
  ·simp only[MM,ht,he,hm,hsrc]
   rw[if_pos h0]
  ·subst h0
   rw[Nat.zero_mul] at hcl
   rw[List.length_eq_zero_iff.1 hcl,Nat.zero_mul,List.drop_zero]
   exact hg
 ·have hle:n*w≤m*w:=Nat.mul_le_mul_right w hn
  refine⟨_,?_,BL rfl hid,rfl,rfl,fun i hi=>AR hid (Ne.symm hi)⟩
  simp only[MM,ht,he,hm,hsrc,GZ,hg]
  rw[if_neg h0,if_pos (by simp only[hone,hcl,hR,Bool.and_true,Nat.zero_add,Bool.and_eq_true,decide_eq_true_eq];omega)]
  have:Go.Sx.lay R 0 cs=cs++R.drop (n*w):=by simp only[Go.Sx.lay,List.take_zero,List.nil_append,Nat.zero_add,hcl]
  rw[this]
theorem aG (ht:P.underlying t=some (.slice e)) (he:BM P e=some w) (hb:HC P e=some b) (hz:DX P e=some z) (hzc:z.cells.size=w) (hzf:flat z=true) (hw:0<w) (hbb:b≤64) {lo n k:Nat} {v:Value} {cs:List Value} (hv:AN lo h v n w cs) (hone:cs.all one=true) (hn:n+k<1099511627776) (hfl:h.floor≤h.next) :
  ∃ h1,HP P h t (iv ((n+k:Nat):Int)) (iv ((n+k:Nat):Int))=some (qS h.next (n+k) (n+k),h.push (.row (B0 z.cells.toList (n+k)) e false false)) ∧
   MM P (h.push (.row (B0 z.cells.toList (n+k)) e false false)) t (qS h.next (n+k) (n+k)) v=some (iv (n:Int),h1) ∧
   h1.get h.next=.row (cs++B0 z.cells.toList k) e false false∧h1.next=h.next+1∧h1.floor=h.floor∧∀ i,i<h.next→h1.get i=h.get i:=by
 have hzl:z.cells.toList.length=w:=by simpa using hzc
 obtain⟨h1,e1,e2,e3,e4,e5⟩:=Cv (h:=h.push (.row (B0 z.cells.toList (n+k)) e false false)) (m:=n+k) (c:=n+k) ht he (hv.mono (by rw[EQ];omega) fun i _ hi=>AU hi) hone hw BX (by rw[SJ,hzl]) (by omega) (by rw[EQ];omega) hfl
 refine⟨h1,PW ht he hb hz hzc hzf hw hbb hn,e1,?_,e3,e4,fun i hi=>by rw[e5 i (by omega),AU hi]⟩
 rw[e2,aM,List.drop_left' (by rw[SJ,hzl])]
end
def bS:List (Bool × Bool × List Operand):=[A7,A7,A7,A7,AI [.tmp 19],AI [.tmp 19],AI [.tmp 19],AI [.tmp 19],AP]
section
variable {call:AS} {N:Nat} {h:AA}
theorem Uh (hsn:CK call) {va vb:Value} {A B:List Int} {la lb:Nat} (ha:AW la h va A) (hb:AW lb h vb B) (hN:A.length+3<N) (hl:A.length<1099511627776):AY Tryz.prog call N 12 [va,vb] h=some (.bool (decide (A=B)),h):=by
 refine CO Tryz.func12 rfl (by simp[Tryz.f12]) ?_
 have hr:Tryz.f12.results.toList=[.tmp 4]:=rfl
 have lA:=fun h'=>LL ha h'
 have lB:=fun h'=>LL hb h'
 cases d:((A.length:Int) != (B.length:Int)) with
 | true=>
  have hne:A≠B:=fun e=>by subst e;simp at d
  rw[decide_eq_false hne]
  simp only[eE,↓reduceIte,Nat.reduceEqDiff,reduceCtorEq,↓eP,hr,lA,lB,d]
 | false=>
  have hlen:A.length=B.length:=by
   have h9:(A.length:Int)=(B.length:Int):=by simpa using d
   omega
  simp only[eE,↓reduceIte,Nat.reduceEqDiff,reduceCtorEq,↓eP,lA,lB,d]
  refine WK.loop (fun i s'=>s'.T.get 0=va∧s'.T.get 1=vb∧s'.T.get 5=iv i∧s'.h=h∧i≤A.length∧∀ j,j<i→A[j]?=B[j]?) A.length (by omega) ?_ ?_
  ·simp only[eE,↓reduceIte,Nat.reduceEqDiff,reduceCtorEq,↓eP,rP,Nat.reduceAdd,Nat.reduceLT]
   exact⟨rfl,fun j hj=>by omega⟩
  ·rintro i ⟨T1,H1⟩ hi ⟨t0,t1,t5,hh,hil,hsame⟩
   simp only at t0 t1 t5 hh
   subst hh
   by_cases hlt:i<A.length
   ·have c1:decide ((i:Int)<(A.length:Int))=true:=by simp;omega
    obtain⟨x,hx⟩:∃ x,A[i]?=some x:=⟨_,List.getElem?_eq_getElem hlt⟩
    obtain⟨y,hy⟩:∃ y,B[i]?=some y:=⟨_,List.getElem?_eq_getElem (by omega)⟩
    obtain⟨ida,pa,ea,_,xa⟩:=AW.get ha hx
    obtain⟨idb,pb,eb,_,xb⟩:=AW.get hb hy
    have w1:=DF i (by omega)
    simp only[eE,seval,↓eP,t0,t5,lA,c1]
    refine WK.flags (fs:=bS) (by kernel_rfl) ?_
    unfold bS
    iterate 9
     refine DI hsn ?_
     simp only[rG,seval,AD,AF,AE,CT,DC,CM,C4,DJ,t0,t5,ea,AL,xa,t1,eb,xb,RO]
    refine DH ?_
    cases e:(x != y) with
    | true=>
     have hne:A≠B:=fun h9=>by
      subst h9
      rw[hx] at hy
      cases hy
      simp at e
     rw[decide_eq_false hne]
     simp only[eE,seval,↓eP,hr]
    | false=>
     have hxy:x=y:=by simpa using e
     simp only[eE,seval,↓eP,t0,t1,t5,w1]
     refine⟨by omega,by omega,fun j hj=>?_⟩
     rcases Nat.lt_or_ge j i with h1 | h1
     ·exact hsame j h1
     ·have:j=i:=by omega
      subst this
      rw[hx,hy,hxy]
   ·have c1:decide ((i:Int)<(A.length:Int))=false:=by simp;omega
    have:i=A.length:=by omega
    subst this
    have hAB:A=B:=MY hlen hsame
    rw[decide_eq_true hAB]
    simp only[eE,seval,↓eP,hr,t0,t5,lA,c1]
end
def aD:List (Bool × Bool × List Operand):=[A7,A7,A7,A7,AI [.tmp 19],AI [.tmp 19],AI [.tmp 19],AI [.tmp 19],AP]
section
variable {call:AS} {N:Nat} {h:AA}
theorem Sk (hsn:CK call) {va vb:Value} {A B:List ByteArray} {la lb:Nat} (ha:AN la h va A.length 1 (CJ A)) (hb:AN lb h vb B.length 1 (CJ B)) (hN:A.length+3<N) (hl:A.length<1099511627776):AY Tryz.prog call N 67 [va,vb] h=some (.bool (decide (A=B)),h):=by
 refine CO Tryz.func67 rfl (by simp[Tryz.f67]) ?_
 have hr:Tryz.f67.results.toList=[.tmp 4]:=rfl
 have lA:=fun h'=>OA ha h'
 have lB:=fun h'=>OA hb h'
 cases d:((A.length:Int) != (B.length:Int)) with
 | true=>
  have hne:A≠B:=fun e=>by subst e;simp at d
  rw[decide_eq_false hne]
  simp only[eE,↓reduceIte,Nat.reduceEqDiff,reduceCtorEq,↓eP,hr,lA,lB,d]
 | false=>
  have hlen:A.length=B.length:=by
   have h9:(A.length:Int)=(B.length:Int):=by simpa using d
   omega
  simp only[eE,↓reduceIte,Nat.reduceEqDiff,reduceCtorEq,↓eP,lA,lB,d]
  refine WK.loop (fun i s'=>s'.T.get 0=va∧s'.T.get 1=vb∧s'.T.get 5=iv i∧s'.h=h∧i≤A.length∧∀ j,j<i→A[j]?=B[j]?) A.length (by omega) ?_ ?_
  ·simp only[eE,↓reduceIte,Nat.reduceEqDiff,reduceCtorEq,↓eP,rP,Nat.reduceAdd,Nat.reduceLT]
   exact⟨rfl,fun j hj=>by omega⟩
  ·rintro i ⟨T1,H1⟩ hi ⟨t0,t1,t5,hh,hil,hsame⟩
   simp only at t0 t1 t5 hh
   subst hh
   by_cases hlt:i<A.length
   ·have c1:decide ((i:Int)<(A.length:Int))=true:=by simp;omega
    obtain⟨x,hx⟩:∃ x,A[i]?=some x:=⟨_,List.getElem?_eq_getElem hlt⟩
    obtain⟨y,hy⟩:∃ y,B[i]?=some y:=⟨_,List.getElem?_eq_getElem (by omega)⟩
    obtain⟨ida,pa,ea,_,xa⟩:=SH hx ha
    obtain⟨idb,pb,eb,_,xb⟩:=SH hy hb
    have w1:=DF i (by omega)
    simp only[eE,seval,↓eP,t0,t5,lA,c1]
    refine WK.flags (fs:=aD) (by kernel_rfl) ?_
    unfold aD
    iterate 9
     refine DI hsn ?_
     simp only[rG,seval,AD,AF,AE,CT,DC,CM,C4,DJ,t0,t5,ea,FU,xa,t1,eb,xb,JF]
    refine DH ?_
    cases e:(!(x==y)) with
    | true=>
     have hne:A≠B:=fun h9=>by
      subst h9
      rw[hx] at hy
      cases hy
      rw[LK] at e;cases e
     rw[decide_eq_false hne]
     simp only[eE,seval,↓eP,hr]
    | false=>
     have hxy:x=y:=LQ (by simpa using e)
     simp only[eE,seval,↓eP,t0,t1,t5,w1]
     refine⟨by omega,by omega,fun j hj=>?_⟩
     rcases Nat.lt_or_ge j i with h1 | h1
     ·exact hsame j h1
     ·have:j=i:=by omega
      subst this
      rw[hx,hy,hxy]
   ·have c1:decide ((i:Int)<(A.length:Int))=false:=by simp;omega
    have:i=A.length:=by omega
    subst this
    have hAB:A=B:=MY hlen hsame
    rw[decide_eq_true hAB]
    simp only[eE,seval,↓eP,hr,t0,t5,lA,c1]
end
def aO:List (Bool × Bool × List Operand):=[A7,A7,A7,A7,AI [.tmp 19],AI [.tmp 19],AI [.tmp 19],AI [.tmp 19],AP]
section
variable {call:AS} {N:Nat} {h:AA}
theorem Dj (hsn:CK call) {va vb:Value} {A B:List (ByteArray × Bool)} {la lb:Nat} (ha:AN la h va A.length 2 (DE A)) (hb:AN lb h vb B.length 2 (DE B)) (hN:A.length+3<N) (hl:A.length<1099511627776):AY Tryz.prog call N 66 [va,vb] h=some (.bool (decide (A=B)),h):=by
 refine CO Tryz.func66 rfl (by simp[Tryz.f66]) ?_
 have hr:Tryz.f66.results.toList=[.tmp 4]:=rfl
 have lA:=fun h'=>OF ha h'
 have lB:=fun h'=>OF hb h'
 cases d:((A.length:Int) != (B.length:Int)) with
 | true=>
  have hne:A≠B:=fun e=>by subst e;simp at d
  rw[decide_eq_false hne]
  simp only[eE,↓reduceIte,Nat.reduceEqDiff,reduceCtorEq,↓eP,hr,lA,lB,d]
 | false=>
  have hlen:A.length=B.length:=by
   have h9:(A.length:Int)=(B.length:Int):=by simpa using d
   omega
  simp only[eE,↓reduceIte,Nat.reduceEqDiff,reduceCtorEq,↓eP,lA,lB,d]
  refine WK.loop (fun i s'=>s'.T.get 0=va∧s'.T.get 1=vb∧s'.T.get 5=iv i∧s'.h=h∧i≤A.length∧∀ j,j<i→A[j]?=B[j]?) A.length (by omega) ?_ ?_
  ·simp only[eE,↓reduceIte,Nat.reduceEqDiff,reduceCtorEq,↓eP,rP,Nat.reduceAdd,Nat.reduceLT]
   exact⟨rfl,fun j hj=>by omega⟩
  ·rintro i ⟨T1,H1⟩ hi ⟨t0,t1,t5,hh,hil,hsame⟩
   simp only at t0 t1 t5 hh
   subst hh
   by_cases hlt:i<A.length
   ·have c1:decide ((i:Int)<(A.length:Int))=true:=by simp;omega
    obtain⟨x,hx⟩:∃ x,A[i]?=some x:=⟨_,List.getElem?_eq_getElem hlt⟩
    obtain⟨y,hy⟩:∃ y,B[i]?=some y:=⟨_,List.getElem?_eq_getElem (by omega)⟩
    obtain⟨ida,pa,ea,_,xa⟩:=UJ hx ha
    obtain⟨idb,pb,eb,_,xb⟩:=UJ hy hb
    have w1:=DF i (by omega)
    simp only[eE,seval,↓eP,t0,t5,lA,c1]
    refine WK.flags (fs:=aO) (by kernel_rfl) ?_
    unfold aO
    iterate 9
     refine DI hsn ?_
     simp only[rG,seval,AD,AF,AE,CT,DC,CM,C4,DJ,t0,t5,ea,Y5,xa,t1,eb,xb,eH]
    refine DH ?_
    cases e:(!(x.1==y.1&&x.2==y.2)) with
    | true=>
     have hne:A≠B:=fun h9=>by
      subst h9
      rw[hx] at hy
      cases hy
      rw[LK] at e;simp at e
     rw[decide_eq_false hne]
     simp only[eE,seval,↓eP,hr]
    | false=>
     have hxy:x=y:=by
      have e':(x.1==y.1&&x.2==y.2)=true:=by simpa using e
      rw[Bool.and_eq_true] at e'
      exact Prod.ext (LQ e'.1) (by simpa using e'.2)
     simp only[eE,seval,↓eP,t0,t1,t5,w1]
     refine⟨by omega,by omega,fun j hj=>?_⟩
     rcases Nat.lt_or_ge j i with h1 | h1
     ·exact hsame j h1
     ·have:j=i:=by omega
      subst this
      rw[hx,hy,hxy]
   ·have c1:decide ((i:Int)<(A.length:Int))=false:=by simp;omega
    have:i=A.length:=by omega
    subst this
    have hAB:A=B:=MY hlen hsame
    rw[decide_eq_true hAB]
    simp only[eE,seval,↓eP,hr,t0,t5,lA,c1]
end
def eI:List (Bool × Bool × List Operand):=[A7,A7,A7,A7,AI [.tmp 19],AI [.tmp 19],AI [.tmp 19],AI [.tmp 19],AP]
section
variable {call:AS} {N:Nat} {h:AA}
open Classical in
theorem Ho (hsn:CK call) {va vb:Value} {A B:List AB} (ha:AQ h va A) (hb:AQ h vb B) (hN:A.length+3<N) (hl:A.length<1099511627776):AY Tryz.prog call N 65 [va,vb] h=some (.bool (decide (A=B)),h):=by
 refine CO Tryz.func65 rfl (by simp[Tryz.f65]) ?_
 have hr:Tryz.f65.results.toList=[.tmp 4]:=rfl
 have lA:=fun h'=>ha.len (h':=h')
 have lB:=fun h'=>hb.len (h':=h')
 cases d:((A.length:Int) != (B.length:Int)) with
 | true=>
  have hne:A≠B:=fun e=>by subst e;simp at d
  rw[decide_eq_false hne]
  simp only[eE,↓reduceIte,Nat.reduceEqDiff,reduceCtorEq,↓eP,hr,lA,lB,d]
 | false=>
  have hlen:A.length=B.length:=by
   have h9:(A.length:Int)=(B.length:Int):=by simpa using d
   omega
  simp only[eE,↓reduceIte,Nat.reduceEqDiff,reduceCtorEq,↓eP,lA,lB,d]
  refine WK.loop (fun i s'=>s'.T.get 0=va∧s'.T.get 1=vb∧s'.T.get 5=iv i∧s'.h=h∧i≤A.length∧∀ j,j<i→A[j]?=B[j]?) A.length (by omega) ?_ ?_
  ·simp only[eE,↓reduceIte,Nat.reduceEqDiff,reduceCtorEq,↓eP,rP,Nat.reduceAdd,Nat.reduceLT]
   exact⟨rfl,fun j hj=>by omega⟩
  ·rintro i ⟨T1,H1⟩ hi ⟨t0,t1,t5,hh,hil,hsame⟩
   simp only at t0 t1 t5 hh
   subst hh
   by_cases hlt:i<A.length
   ·have c1:decide ((i:Int)<(A.length:Int))=true:=by simp;omega
    obtain⟨x,hx⟩:∃ x,A[i]?=some x:=⟨_,List.getElem?_eq_getElem hlt⟩
    obtain⟨y,hy⟩:∃ y,B[i]?=some y:=⟨_,List.getElem?_eq_getElem (by omega)⟩
    obtain⟨ida,pa,ea,_,_,_,_,_,_,xa⟩:=ha.row hx
    obtain⟨idb,pb,eb,_,_,_,_,_,_,xb⟩:=hb.row hy
    have xa':A_ 5 pa (H1.get ida)=some (CE x):=xa
    have xb':A_ 5 pb (H1.get idb)=some (CE y):=xb
    have w1:=DF i (by omega)
    simp only[eE,seval,↓eP,t0,t5,lA,c1]
    refine WK.flags (fs:=eI) (by kernel_rfl) ?_
    unfold eI
    iterate 9
     refine DI hsn ?_
     simp only[rG,seval,AD,AF,AE,CT,DC,CM,C4,DJ,t0,t5,ea,FQ,xa',t1,eb,xb',bC]
    refine DH ?_
    cases e:(!(MF x y)) with
    | true=>
     have hne:A≠B:=fun h9=>by
      subst h9
      rw[hx] at hy
      cases hy
      rw[P_.2 rfl] at e;cases e
     rw[decide_eq_false hne]
     simp only[eE,seval,↓eP,hr]
    | false=>
     have hxy:x=y:=P_.1 (by simpa using e)
     simp only[eE,seval,↓eP,t0,t1,t5,w1]
     refine⟨by omega,by omega,fun j hj=>?_⟩
     rcases Nat.lt_or_ge j i with h1 | h1
     ·exact hsame j h1
     ·have:j=i:=by omega
      subst this
      rw[hx,hy,hxy]
   ·have c1:decide ((i:Int)<(A.length:Int))=false:=by simp;omega
    have:i=A.length:=by omega
    subst this
    have hAB:A=B:=MY hlen hsame
    rw[decide_eq_true hAB]
    simp only[eE,seval,↓eP,hr,t0,t5,lA,c1]
end
section
variable {n:Nat} {h:AA} {va vb:Value}
theorem VZ {A:List Int} {la lb:Nat} (ha:AW la h va A) (hb:AW lb h vb A) (hl:A.length<1000000000) (hn:A.length+5<n):AK n 12 [va,vb] h=some (.bool true,h):=by
 obtain⟨n,rfl⟩:=B8 hn
 have:=Uh (N:=n) (EJ n).2 ha hb (by omega) (by omega)
 rw[decide_eq_true rfl] at this
 exact D4 (BD ⟨rfl,rfl,rfl⟩) rfl this
theorem eU {A:List ByteArray} {la lb:Nat} (ha:AN la h va A.length 1 (CJ A)) (hb:AN lb h vb A.length 1 (CJ A)) (hl:A.length<1000000000) (hn:A.length+5<n):AK n 67 [va,vb] h=some (.bool true,h):=by
 obtain⟨n,rfl⟩:=B8 hn
 have:=Sk (N:=n) (EJ n).2 ha hb (by omega) (by omega)
 rw[decide_eq_true rfl] at this
 exact D4 (BD ⟨rfl,rfl,rfl⟩) rfl this
theorem Ke {A:List (ByteArray × Bool)} {la lb:Nat} (ha:AN la h va A.length 2 (DE A)) (hb:AN lb h vb A.length 2 (DE A)) (hl:A.length<1000000000) (hn:A.length+5<n):AK n 66 [va,vb] h=some (.bool true,h):=by
 obtain⟨n,rfl⟩:=B8 hn
 have:=Dj (N:=n) (EJ n).2 ha hb (by omega) (by omega)
 rw[decide_eq_true rfl] at this
 exact D4 (BD ⟨rfl,rfl,rfl⟩) rfl this
open Classical in
theorem Gy {A:List AB} (ha:AQ h va A) (hb:AQ h vb A) (hl:A.length<1000000000) (hn:A.length+5<n):AK n 65 [va,vb] h=some (.bool true,h):=by
 obtain⟨n,rfl⟩:=B8 hn
 have:=Ho (N:=n) (EJ n).2 ha hb (by omega) (by omega)
 rw[decide_eq_true rfl] at this
 exact D4 (BD ⟨rfl,rfl,rfl⟩) rfl this
end
theorem aY {h:AA} {a:Option Addr} {n c:Nat}:CY Tryz.prog h 25 (.slice a n c)=some (iv (n:Int)):=by simp[CY,Tryz.underlying25]
def JW (i:Nat):Int:=-77-(i:Int)
structure NL (h:AA) (o:Nat) (l L:List Int):Prop where
 g:h.get o=.row (ints L) 3 false false
 len:L.length=l.length+5
 own:∀ j,j<l.length→L[j]?=l[j]?
 marks:∀ q,q<5→L[l.length+q]?=some (JW (l.length+q))
theorem NL.cells {h:AA} {o:Nat} {l L:List Int} (hl:NL h o l L) {lo c:Nat} (ho:lo≤o∧o<h.next):AW lo h (qS o l.length c) l:=by
 have e:L=l++L.drop l.length:=by
  apply List.ext_getElem?
  intro j
  rcases Nat.lt_or_ge j l.length with h1 | h1
  ·rw[List.getElem?_append_left h1,hl.own j h1]
  ·rw[List.getElem?_append_right h1,List.getElem?_drop]
   congr 1
   omega
 have g:=hl.g
 rw[e] at g
 have g':h.get o=.row (ints l++ints (L.drop l.length)) 3 false false:=by rw[g];simp[ints]
 exact AN.row g' ho (by rw[F9];omega)
section
variable {call:AS} {N n:Nat} {h:AA}
theorem Np {l:List Int} {v:Value} {lo:Nat} (hv:AW lo h v l) (hl:l.length<900000000) (hfl:h.floor≤h.next) (hN:12<N) :
  ∃ h',AY Tryz.prog call N 26 [v] h=some (qS h.next l.length (l.length+5),h')∧((∃ L,NL h' h.next l L)∧h'.next=h.next+1∧h'.floor=h.floor∧∀ i,i<h.next→h'.get i=h.get i):=by
 refine DW (R:=fun h'=>(∃ L,NL h' h.next l L)∧h'.next=h.next+1∧h'.floor=h.floor∧∀ i,i<h.next→h'.get i=h.get i) Tryz.func26 rfl (by simp[Tryz.f26]) ?_
 have hr:Tryz.f26.results.toList=[.tmp 2]:=rfl
 have hlen:=fun h'=>LL hv h'
 have w9:IntKind.i64.wrap ((l.length:Int)+5)=((l.length+5:Nat):Int):=BT (by omega) (by omega)
 obtain⟨H1,hmk,hcp,g1,n1,f1,o1⟩:=aG (P:=Tryz.prog) (t:=25) (e:=3) (k:=5) (z:=.int .i64 0) Tryz.underlying25 C7 LS JK rfl rfl (by decide) (by decide) hv (QK l) (by omega) hfl
 have hlen9:∀ h':AA,CY Tryz.prog h' 25 (qS h.next (l.length+5) (l.length+5))=some (iv ((l.length+5:Nat):Int)):=fun h'=>aY
 have hsl:=fun (H:AA)=>R8 (P:=Tryz.prog) (h:=H) (t:=25) (e:=3) (id:=h.next) (n:=l.length+5) (m:=l.length) (c:=l.length+5) Tryz.underlying25 C7 (by omega) (by unfold AO;omega)
 simp only[eE,seval,↓eP,hlen,w9,hmk,hcp]
 refine WK.loop (fun k s'=>s'.T.get 0=v∧s'.T.get 3=qS h.next (l.length+5) (l.length+5)∧s'.T.get 4=iv ((l.length+k:Nat):Int)∧k≤5∧s'.h.next=h.next+1∧s'.h.floor=h.floor∧(∀ i,i<h.next→s'.h.get i=h.get i) ∧
  ∃ L:List Int,s'.h.get h.next=.row (ints L) 3 false false∧L.length=l.length+5∧(∀ j,j<l.length→L[j]?=l[j]?)∧∀ q,q<k→L[l.length+q]?=some (JW (l.length+q))) 5 (by omega) ?_ ?_
 ·refine⟨by simp only[eE,seval,↓eP,rP],by simp only[eE,seval,↓eP,rP],by simp only[eE,seval,↓eP,rP];rfl,by omega,n1,f1,o1,l++List.replicate 5 0,?_,by simp,fun j hj=>by rw[List.getElem?_append_left hj],fun q hq=>by omega⟩
  show H1.get h.next=_
  rw[g1]
  have:B0 (Value.int IntKind.i64 0).cells.toList 5=ints (List.replicate 5 0):=RY 5
  rw[this]
  simp[ints]
 ·rintro k ⟨T1,H2⟩ hk ⟨t0,t3,t4,hk9,n2,f2,o2,L,gL,lL,own,marks⟩
  simp only at t0 t3 t4 n2 f2 o2 gL
  by_cases hlt:k<5
  ·have c1:decide (((l.length+k:Nat):Int)<((l.length+5:Nat):Int))=true:=by simp;omega
   have hix:=EG (id:=h.next) (n:=l.length+5) (c:=l.length+5) (i:=l.length+k) (by omega)
   have w2:IntKind.i64.wrap (-77-((l.length+k:Nat):Int))=JW (l.length+k):=BT (by omega) (by omega)
   have hst:BB Tryz.prog H2 3 (qP h.next (l.length+k)) (iv (JW (l.length+k)))=some (H2.put h.next (.row (ints (L.set (l.length+k) (JW (l.length+k)))) 3 false false)):=KZ gL (by omega) (by omega)
   have w1:IntKind.i64.wrap (((l.length+k:Nat):Int)+1)=((l.length+(k+1):Nat):Int):=BT (by omega) (by omega)
   simp only[eE,seval,↓eP,t0,t3,t4,hlen9,c1,w2,hix,hst,w1]
   refine⟨hlt,by omega,n2,f2,fun i hi=>by rw[AR (by omega) (by omega)];exact o2 i hi,_,BL rfl (by omega),by rw[List.length_set];exact lL,fun j hj=>?_,fun q hq=>?_⟩
   ·rw[List.getElem?_set_ne (by omega)]
    exact own j hj
   ·rcases Nat.lt_or_ge q k with h1 | h1
    ·rw[List.getElem?_set_ne (by omega)]
     exact marks q h1
    ·have:q=k:=by omega
     subst this
     rw[List.getElem?_set_self (by omega)]
  ·have c1:decide (((l.length+k:Nat):Int)<((l.length+5:Nat):Int))=false:=by simp;omega
   have:k=5:=by omega
   subst this
   simp only[eE,seval,↓eP,hr,t0,t3,t4,hlen,hlen9,c1,hsl]
   exact⟨⟨L,gL,lL,own,marks⟩,n2,f2,o2⟩
theorem rR {l:List Int} {v:Value} {lo:Nat} (hv:AW lo h v l) (hl:l.length<900000000) (hfl:h.floor≤h.next) (hn:20<n) :
  ∃ h',AK n 26 [v] h=some (qS h.next l.length (l.length+5),h')∧((∃ L,NL h' h.next l L)∧h'.next=h.next+1∧h'.floor=h.floor∧∀ i,i<h.next→h'.get i=h.get i):=by
 obtain⟨n,rfl⟩:=B8 hn
 exact N5 (BD ⟨rfl,rfl,rfl⟩) rfl (Np hv hl hfl (by omega))
end
section
variable {call:AS} {N n:Nat} {h:AA}
theorem Ii {o lo:Nat} {l L:List Int} {v:Value} (hL:NL h o l L) (ho:o<h.next) (hf:h.floor≤o) (hv:AW lo h v l) (hl:l.length<900000000) (hN:l.length+20<N)
  (hs:call 12 [qS o l.length (l.length+5),v] h=some (.bool true,h)) :
  ∃ h',AY Tryz.prog call N 15 [qS o l.length (l.length+5),v] h=some (.bool true,h')∧(h'.next=h.next∧h'.floor=h.floor∧∀ i,i≠o→h'.get i=h.get i):=by
 refine DW (R:=fun h'=>h'.next=h.next∧h'.floor=h.floor∧∀ i,i≠o→h'.get i=h.get i) Tryz.func15 rfl (by simp[Tryz.f15]) ?_
 have hr:Tryz.f15.results.toList=[.tmp 4]:=rfl
 have lenM:∀ h':AA,CY Tryz.prog h' 25 (qS o l.length (l.length+5))=some (iv (l.length:Int)):=fun h'=>aY
 have lenA:∀ h':AA,CY Tryz.prog h' 25 (qS o (l.length+5) (l.length+5))=some (iv ((l.length+5:Nat):Int)):=fun h'=>aY
 have hsl:=fun (H:AA)=>R8 (P:=Tryz.prog) (h:=H) (t:=25) (e:=3) (id:=o) (n:=l.length) (m:=l.length+5) (c:=l.length+5) Tryz.underlying25 C7 (by omega) (by unfold AO;omega)
 have w9:IntKind.i64.wrap ((l.length:Int)+5)=((l.length+5:Nat):Int):=BT (by omega) (by omega)
 simp only[eE,seval,↓eP,hs,lenM,w9,hsl]
 refine WK.loop (fun q s'=>s'.T.get 5=.bool true∧s'.T.get 6=qS o (l.length+5) (l.length+5)∧s'.T.get 7=iv ((l.length+q:Nat):Int)∧q≤5∧s'.h=h) 5 (by omega) ?_ ?_
 ·exact⟨by simp only[eE,seval,↓eP,rP],by simp only[eE,seval,↓eP,rP],by simp only[eE,seval,↓eP,rP];rfl,by omega,rfl⟩
 rintro q ⟨T2,H2⟩ hq ⟨t5,t7,t8,hq9,hh⟩
 simp only at t5 t7 t8 hh
 subst hh
 by_cases hlt:q<5
 ·have c1:decide (((l.length+q:Nat):Int)<((l.length+5:Nat):Int))=true:=by simp;omega
  have ea:=EG (id:=o) (n:=l.length+5) (c:=l.length+5) (i:=l.length+q) (by omega)
  have xa:AH (l.length+q) (H2.get o)=some (iv (JW (l.length+q))):=by rw[hL.g];exact IF (hL.marks q hlt)
  have w1:IntKind.i64.wrap (((l.length+q:Nat):Int)+1)=((l.length+(q+1):Nat):Int):=BT (by omega) (by omega)
  have w2:IntKind.i64.wrap (-77-((l.length+q:Nat):Int))=JW (l.length+q):=BT (by omega) (by omega)
  simp only[eE,seval,↓eP,t5,t7,t8,lenA,c1,ea,AL,xa,w2,w1]
  exact⟨hlt,by omega⟩
 have c1:decide (((l.length+q:Nat):Int)<((l.length+5:Nat):Int))=false:=by simp;omega
 have:q=5:=by omega
 subst this
 simp only[eE,seval,↓eP,t7,t8,lenA,c1]
 refine WK.loop (fun k s'=>s'.T.get 5=.bool true∧s'.T.get 6=qS o (l.length+5) (l.length+5)∧s'.T.get 8=iv (k:Int)∧k≤l.length+5∧s'.h.next=H2.next∧s'.h.floor=H2.floor∧(∀ i,i≠o→s'.h.get i=H2.get i)∧∃ L':List Int,s'.h.get o=.row (ints L') 3 false false∧L'.length=l.length+5) (l.length+5) (by omega) ?_ ?_
 ·exact⟨by simp only[eE,↓reduceIte,Nat.reduceEqDiff,reduceCtorEq,↓eP,rP,Nat.reduceAdd,Nat.reduceLT,t5],by simp only[eE,↓reduceIte,Nat.reduceEqDiff,reduceCtorEq,↓eP,rP,Nat.reduceAdd,Nat.reduceLT,t7],by simp only[eE,↓reduceIte,Nat.reduceEqDiff,reduceCtorEq,↓eP,rP,Nat.reduceAdd,Nat.reduceLT];rfl,by omega,rfl,rfl,fun _ _=>rfl,L,hL.g,hL.len⟩
 rintro k ⟨T3,H3⟩ hk ⟨t5,t7,t9,hk9,n3,f3,o3,L',g3,l3⟩
 simp only at t5 t7 t9 n3 f3 o3 g3
 by_cases hlt:k<l.length+5
 ·have c1:decide ((k:Int)<((l.length+5:Nat):Int))=true:=by simp;omega
  have ea:=EG (id:=o) (n:=l.length+5) (c:=l.length+5) (i:=k) hlt
  have hst:BB Tryz.prog H3 3 (qP o k) (iv 31)=some (H3.put o (.row (ints (L'.set k 31)) 3 false false)):=KZ g3 (by omega) (by omega)
  have w1:=DF k (by omega)
  simp only[eE,seval,↓eP,t5,t7,t9,lenA,c1,ea,hst,w1]
  exact⟨hlt,by omega,n3,f3,fun i hi=>by rw[AR (by omega) (Ne.symm hi)];exact o3 i hi,_,BL rfl (by omega),by rw[List.length_set];exact l3⟩
 have c1:decide ((k:Int)<((l.length+5:Nat):Int))=false:=by simp;omega
 simp only[eE,seval,↓eP,hr,t5,t7,t9,lenA,c1]
 exact⟨n3,f3,o3⟩
theorem aZ {o lo:Nat} {l L:List Int} {v:Value} (hL:NL h o l L) (ho:o<h.next) (hf:h.floor≤o) (hv:AW lo h v l) (hl:l.length<900000000) (hn:l.length+30<n) :
  ∃ h',AK n 15 [qS o l.length (l.length+5),v] h=some (.bool true,h')∧(h'.next=h.next∧h'.floor=h.floor∧∀ i,i≠o→h'.get i=h.get i):=by
 obtain⟨n,rfl⟩:=B8 hn
 exact OM (BD ⟨rfl,rfl,rfl⟩) (Ii hL ho hf hv hl (by omega) (VZ (hL.cells (lo:=0) ⟨Nat.zero_le _,ho⟩) hv (by omega) (by omega)))
end
theorem KS:BM Tryz.prog 39=some 2:=by kernel_rfl
theorem Mt:FW Tryz.prog 39=some true:=by kernel_rfl
theorem j6:DX Tryz.prog 39=some (.agg #[iv 0,Z0]):=by kernel_rfl
theorem Ms:IC Tryz.prog (match Tryz.prog.underlying 39 with | some (.struct fs)=>fs.toList | _=>[])=some [(0,1),(1,1)]:=by kernel_rfl
theorem cP:flat (.agg #[iv 0,Z0])=true:=rfl
theorem Wi {n:Int} {a:Option Addr} {m c:Nat}:DM Tryz.prog 39 [(0,iv n),(1,.slice a m c)]=some (.agg #[iv n,.slice a m c]):=by
 have h:=Ms
 rw[Tryz.underlying39] at h
 simp only at h
 simp only[DM,j6,cP,if_true,Tryz.underlying39,h]
 rfl
section
variable {h:AA} {id off:Nat}
theorem GR:EW Tryz.prog h 39 (qP id off)=A_ 2 off (h.get id):=ND Mt KS
theorem KG:BE Tryz.prog 39 (qP id off) 0=some (qP id off):=by simp[BE,Tryz.underlying39,C7,CN]
theorem LY:BE Tryz.prog 39 (qP id off) 1=some (qP id (off+1)):=by simp[BE,Tryz.underlying39,K8,CN]
end
def ER (lo:Nat) (h:AA) (v:Value) (size:Int) (C:List Int):Prop:=∃ vc,v=.agg #[iv size,vc]∧AW lo h vc C
theorem ER.mono {lo:Nat} {h h':AA} {v:Value} {size:Int} {C:List Int} (hc:ER lo h v size C) (hn:h.next≤h'.next) (hg:∀ i,lo≤i→i<h.next→h'.get i=h.get i):ER lo h' v size C:=by
 obtain⟨vc,h1,h2⟩:=hc
 exact⟨vc,h1,AW.mono h2 hn hg⟩
structure OE (h:AA) (b:Nat) (v:Value) (size:Int) (C:List Int):Prop where
 v:v=.agg #[iv size,qS b C.length (C.length+5)]
 lt:b<h.next
 l:∃ L,NL h b C L
theorem OE.caps {h:AA} {b:Nat} {v:Value} {size:Int} {C:List Int} (hl:OE h b v size C):ER b h v size C:=by
 obtain⟨hv,hlt,⟨L,hL⟩⟩:=hl
 exact⟨_,hv,hL.cells ⟨Nat.le_refl _,hlt⟩⟩
theorem OE.mono {h h':AA} {b:Nat} {v:Value} {size:Int} {C:List Int} (hl:OE h b v size C) (hn:h.next≤h'.next) (hg:h'.get b=h.get b):OE h' b v size C:=by
 obtain⟨hv,hlt,⟨L,hL⟩⟩:=hl
 exact⟨hv,by omega,L,by rw[hg];exact hL.g,hL.len,hL.own,hL.marks⟩
def bX:List (Bool × Bool × List Operand):=[HT,HT,AI [.tmp 3],AI [.tmp 3],AI [.tmp 3],AP,AP]
section
variable {n N:Nat} {h:AA}
theorem Ea {size:Int} {C:List Int} {cv:Value} {lo:Nat} (hc:ER lo h cv size C) (hC:C.length<900000000) (hfl:h.floor≤h.next) (hn:20<n) :
  ∃ v' h',AY Tryz.prog (AK n) N 13 [cv] h=some (v',h')∧OE h' (h.next+2) v' size C∧h'.next=h.next+3∧h'.floor=h.floor∧∀ i,i<h.next→h'.get i=h.get i:=by
 obtain⟨vc,rfl,p⟩:=hc
 have hsn:=(EJ n).2
 refine MH (R:=fun v' h'=>OE h' (h.next+2) v' size C∧h'.next=h.next+3∧h'.floor=h.floor∧∀ i,i<h.next→h'.get i=h.get i) Tryz.func13 rfl (by simp[Tryz.f13]) ?_
 have hr:Tryz.f13.results.toList=[.cell 2 39]:=rfl
 have ca:=DV [iv size,vc]
 have oa:[iv size,vc].all one=true:=by simp only[List.all_cons,List.all_nil,AN.one p,IM,Bool.and_self]
 have zc:=DV [iv 0,Z0]
 obtain⟨gA,gZ,n0,f0,gO⟩:=MJ h (.row [iv size,vc] 39 false false) (.row [iv 0,Z0] 39 false false)
 simp only[eE,seval,↓eP,C2,CW,C6,ca,oa,KS,j6,cP,zc]
 generalize (h.push (.row [iv size,vc] 39 false false)).push (.row [iv 0,Z0] 39 false false)=H0 at *
 have hA0:(h.next<H0.next)=True:=by rw[n0];simp
 have x0:AH 0 (H0.get h.next)=some (iv size):=by rw[gA];rfl
 have x1:AH 1 (H0.get h.next)=some vc:=by rw[gA];rfl
 have p':AW lo (H0.fl (max H0.floor H0.next)) vc C:=AW.mono p (by rw[NA];omega) fun i _ hi=>gO i hi
 obtain⟨h1,hk1,⟨L,l1⟩,n1,f1,o1⟩:=rR (n:=n) p' hC (by rw[NA,RZ];omega) hn
 rw[NA] at hk1 l1 n1 o1
 rw[RZ] at f1
 have y0:AH 0 (h1.get h.next)=some (iv size):=by rw[o1 _ (by omega)];exact x0
 have gZ1:(h1.fl H0.floor).get (h.next+1)=.row [iv 0,Z0] 39 false false:=by rw[TO,o1 _ (by omega)];exact gZ
 have hst:BB Tryz.prog (h1.fl H0.floor) 39 (qP (h.next+1) 0) (.agg #[iv size,qS H0.next C.length (C.length+5)])=_:=JN KS (vs:=[iv size,qS H0.next C.length (C.length+5)]) gZ1 rfl rfl rfl (by rw[RZ];omega)
 refine WK.flags (fs:=bX) (by kernel_rfl) ?_
 unfold bX
 iterate 7
  refine DI hsn ?_
  simp only[rG,seval,AD,AF,AE,CT,DC,CM,C4,DJ,KG,AL,x0,hA0,LY,C3,x1,hk1,List.map_cons,List.map_nil,Wi,RZ,NJ,hst]
 refine DH ?_
 have gF:((h1.fl H0.floor).put (h.next+1) (.row [iv size,qS H0.next C.length (C.length+5)] 39 false false)).get (h.next+1)=.row [iv size,qS H0.next C.length (C.length+5)] 39 false false:=BL rfl (by rw[NA];omega)
 have lF:A_ 2 0 (((h1.fl H0.floor).put (h.next+1) (.row [iv size,qS H0.next C.length (C.length+5)] 39 false false)).get (h.next+1))=some (.agg #[iv size,qS H0.next C.length (C.length+5)]):=by rw[gF];rfl
 have oF:∀ i,i≠h.next+1→((h1.fl H0.floor).put (h.next+1) (.row [iv size,qS H0.next C.length (C.length+5)] 39 false false)).get i=h1.get i:=fun i hi=>by rw[AR (by rw[NA];omega) (Ne.symm hi)];rfl
 have nF:((h1.fl H0.floor).put (h.next+1) (.row [iv size,qS H0.next C.length (C.length+5)] 39 false false)).next=h1.next:=rfl
 have fF:((h1.fl H0.floor).put (h.next+1) (.row [iv size,qS H0.next C.length (C.length+5)] 39 false false)).floor=H0.floor:=rfl
 simp only[eE,seval,↓eP,hr,GR,lF]
 generalize (h1.fl H0.floor).put (h.next+1) (.row [iv size,qS H0.next C.length (C.length+5)] 39 false false)=F at *
 rw[n0] at l1
 exact⟨⟨by rw[n0],by omega,L,by rw[oF _ (by omega)];exact l1.g,l1.len,l1.own,l1.marks⟩,by omega,by omega,fun i hi=>by rw[oF i (by omega),o1 i (by omega)];exact gO i hi⟩
theorem Xi {size:Int} {C:List Int} {cv:Value} {lo:Nat} (hc:ER lo h cv size C) (hC:C.length<900000000) (hfl:h.floor≤h.next) (hn:30<n) :
  ∃ v' h',AK n 13 [cv] h=some (v',h')∧OE h' (h.next+2) v' size C∧h'.next=h.next+3∧h'.floor=h.floor∧∀ i,i<h.next→h'.get i=h.get i:=by
 obtain⟨n,rfl⟩:=B8 hn
 refine MG (BD ⟨rfl,rfl,rfl⟩) (Ea (n:=n) (N:=n) hc hC hfl (by omega)) fun v' h1 hf _ ht=>?_
 rw[ht.1.v] at hf
 cases hf
end
end Go.Proofs.YtdejoodfeljmkaaGreatDoor
