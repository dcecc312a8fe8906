/- Part 13 of what the claim leans on: 19 texts laid one behind another. -/
import Derived.Test.YtipekdhneagdbaaDoorNO12
import Derived.OpenShut
import Derived.WalkKit
import Derived.Carry
import Derived.ChangeArms
namespace Go.Proofs.YtipekdhneagdbaaDoor
open Go Go.Sx Go.ChangeShapes Go.WideShapes Go.ChangeAt Go.RowKit
set_option maxRecDepth 100000
set_option linter.unusedSimpArgs false
set_option linter.unusedVariables false
set_option maxHeartbeats 64000000
theorem PZ:Tryd.prog.cellsOf 46=5:=by kernel_rfl
theorem N0:Tryd.prog.cellsOf 3=1:=by kernel_rfl
theorem S2:Tryd.prog.cellsOf 9=1:=by kernel_rfl
def J9 (x:AB):Prop:=(-9223372036854775808≤x.kind∧x.kind≤9223372036854775807)∧(-9223372036854775808≤x.ends∧x.ends≤9223372036854775807)∧(-9223372036854775808≤x.n∧x.n≤9223372036854775807)∧(-9223372036854775808≤x.kids∧x.kids≤9223372036854775807)
section
variable {H:Type} {enc:TypeId × Value→H} {W:World} {base:Nat} {sp:Nat→Bool} {hd:Bool}
theorem UJ {n:Nat} {cs:List Value} {y:DataW H × List MemPlace} (h:DataW.trod enc Tryd.prog W base sp hd n 46 cs=some y):∃ x:AB,cs=AP x∧J9 x:=by
 obtain⟨xs,m,_,_,hl,hxl,hf⟩:=DataW.trod_struct Tryd.underlying46 h
 rw[PZ] at hl
 obtain⟨c0,c1,c2,c3,c4,rfl⟩:∃ c0 c1 c2 c3 c4,cs=[c0,c1,c2,c3,c4]:=by
  match cs,hl with
  | [a,b,c,d,e],_=>exact⟨a,b,c,d,e,rfl⟩
 have hxl:xs.length=5:=hxl
 have g:∀ i,i<5→∃ y,xs[i]?=some y:=fun i hi=>⟨_,List.getElem?_eq_getElem (by omega)⟩
 obtain⟨y0,e0⟩:=g 0 (by omega)
 obtain⟨y1,e1⟩:=g 1 (by omega)
 obtain⟨y2,e2⟩:=g 2 (by omega)
 obtain⟨y3,e3⟩:=g 3 (by omega)
 obtain⟨y4,e4⟩:=g 4 (by omega)
 have f0:DataW.trod enc Tryd.prog W base sp hd m 3 (([c0,c1,c2,c3,c4].drop 0).take (Tryd.prog.cellsOf 3))=xs[0]?:=hf 0 _ rfl
 rw[N0,e0] at f0
 have f1:DataW.trod enc Tryd.prog W base sp hd m 9 (([c0,c1,c2,c3,c4].drop 1).take (Tryd.prog.cellsOf 9))=xs[1]?:=hf 1 _ rfl
 rw[S2,e1] at f1
 have f2:DataW.trod enc Tryd.prog W base sp hd m 3 (([c0,c1,c2,c3,c4].drop 2).take (Tryd.prog.cellsOf 3))=xs[2]?:=hf 2 _ rfl
 rw[N0,e2] at f2
 have f3:DataW.trod enc Tryd.prog W base sp hd m 3 (([c0,c1,c2,c3,c4].drop 3).take (Tryd.prog.cellsOf 3))=xs[3]?:=hf 3 _ rfl
 rw[N0,e3] at f3
 have f4:DataW.trod enc Tryd.prog W base sp hd m 3 (([c0,c1,c2,c3,c4].drop 4).take (Tryd.prog.cellsOf 3))=xs[4]?:=hf 4 _ rfl
 rw[N0,e4] at f4
 obtain⟨a,ha,_,wa⟩:=DataW.trod_int Tryd.underlying3 f0
 obtain⟨b,hb,_,wb⟩:=DataW.trod_string Tryd.underlying9 f1
 obtain⟨c,hc,_,wc⟩:=DataW.trod_int Tryd.underlying3 f2
 obtain⟨d,hd,_,wd⟩:=DataW.trod_int Tryd.underlying3 f3
 obtain⟨e,he,_,we⟩:=DataW.trod_int Tryd.underlying3 f4
 cases ha
 cases hb
 cases hc
 cases hd
 cases he
 exact⟨⟨a,b,c,d,e⟩,rfl,bounds_i64 wa,bounds_i64 wc,bounds_i64 wd,bounds_i64 we⟩
end
theorem UP {b off k:Nat}:(⟨b,off,none⟩:Addr).add k=⟨b,off+k,none⟩:=by
 unfold Addr.add
 split
 ·rename_i e;subst e;rfl
 ·rfl
theorem ZK {W:World} {base b off n:Nat} {cs:List Value} (h:W.cells? base ⟨b,off,none⟩ n=some cs):cs.length=n∧∀ i,i<n→W.cell? ⟨b,off+i,none⟩=cs[i]?:=by
 unfold World.cells? at h
 split at h
 ·refine⟨by simpa using mapM_some_length h,fun i hi=>?_⟩
  have:=mapM_some_get h i i (by simp[hi])
  rw[← this,UP]
 ·cases h
theorem VF {x:AB} {j:Nat} {v:Value} (h:(AP x)[j]?=some v):BO v=true:=by
 match j,h with
 | 0,h=>cases h;rfl
 | 1,h=>cases h;rfl
 | 2,h=>cases h;rfl
 | 3,h=>cases h;rfl
 | 4,h=>cases h;rfl
end Go.Proofs.YtipekdhneagdbaaDoor
namespace Go.Proofs.YtipekdhneagdbaaDoor
open Go Go.Sx
set_option maxRecDepth 100000
set_option linter.unusedSimpArgs false
set_option linter.unusedVariables false
set_option maxHeartbeats 64000000
def JJ (a b:AB):Bool:=a.kind==b.kind&&(a.name==b.name&&(a.ends==b.ends&&(a.n==b.n&&a.kids==b.kids)))
theorem PN {P:Program} {t:TypeId} {a b:ByteArray} (h:P.underlying t=some .string) (d:Nat):BC P (Op.equalIn (d+1) t (.string a) (.string b))=some (a==b):=by
 rw[Op.equalIn,CW,M4 h]
 simp[HS]
theorem fM {P:Program} {t:TypeId} {a b:Bool} (h:P.underlying t=some .bool) (d:Nat):BC P (Op.equalIn (d+1) t (.bool a) (.bool b))=some (a==b):=by
 rw[Op.equalIn,CW,M4 h]
 simp[HS]
theorem yK:Tryd.prog.stoodInHeld 46=false:=by kernel_rfl
theorem Gu:Tryd.prog.stoodInHeld 57=false:=by kernel_rfl
theorem SO {a c d e:Int} {b:ByteArray}:BC Tryd.prog (part 3 #[.int .i64 a,.string b,.int .i64 c,.int .i64 d,.int .i64 e] 0)=some (.int .i64 a)∧BC Tryd.prog (part 9 #[.int .i64 a,.string b,.int .i64 c,.int .i64 d,.int .i64 e] 1)=some (.string b)∧BC Tryd.prog (part 3 #[.int .i64 a,.string b,.int .i64 c,.int .i64 d,.int .i64 e] 2)=some (.int .i64 c) ∧
  BC Tryd.prog (part 3 #[.int .i64 a,.string b,.int .i64 c,.int .i64 d,.int .i64 e] 3)=some (.int .i64 d)∧BC Tryd.prog (part 3 #[.int .i64 a,.string b,.int .i64 c,.int .i64 d,.int .i64 e] 4)=some (.int .i64 e):=⟨rfl,rfl,rfl,rfl,rfl⟩
theorem iO {a:ByteArray} {b:Bool}:BC Tryd.prog (part 9 #[.string a,.bool b] 0)=some (.string a)∧BC Tryd.prog (part 4 #[.string a,.bool b] 1)=some (.bool b):=⟨rfl,rfl⟩
theorem Cx {a b:AB} (n:Nat):BC Tryd.prog (Op.equalIn (n+2) 46 (C_ a) (C_ b))=some (JJ a b):=by
 obtain⟨a1,a2,a3,a4,a5⟩:=a
 obtain⟨b1,b2,b3,b4,b5⟩:=b
 show BC Tryd.prog (Op.equalIn (n+2) 46 (.agg #[.int .i64 a1,.string a2,.int .i64 a3,.int .i64 a4,.int .i64 a5]) (.agg #[.int .i64 b1,.string b2,.int .i64 b3,.int .i64 b4,.int .i64 b5]))=some (a1==b1&&(a2==b2&&(a3==b3&&(a4==b4&&a5==b5))))
 rw[Op.equalIn,CW,M4 Tryd.underlying46]
 simp only[Option.bind_some,CW,LY,yK,Bool.false_eq_true,if_false]
 simp only[List.forIn_toArray,List.forIn_cons,List.forIn_nil,ne_eq,String.reduceEq,not_false_eq_true,if_true,CW,SO.1,Option.bind_some,K_ Tryd.underlying3,PN Tryd.underlying9]
 cases h1:(a1==b1) <;> simp[CW,HS,SO.2.1,K_ Tryd.underlying3,PN Tryd.underlying9,-beq_iff_eq,-beq_eq_false_iff_ne]
 cases h2:(a2==b2) <;> simp[CW,HS,SO.2.2.1,K_ Tryd.underlying3,PN Tryd.underlying9,-beq_iff_eq,-beq_eq_false_iff_ne]
 cases h3:(a3==b3) <;> simp[CW,HS,SO.2.2.2.1,K_ Tryd.underlying3,PN Tryd.underlying9,-beq_iff_eq,-beq_eq_false_iff_ne]
 cases h4:(a4==b4) <;> simp[CW,HS,SO.2.2.2.2,K_ Tryd.underlying3,PN Tryd.underlying9,-beq_iff_eq,-beq_eq_false_iff_ne]
 cases h5:(a5==b5) <;> simp[HS,-beq_iff_eq,-beq_eq_false_iff_ne]
theorem Bq {a c:ByteArray} {b d:Bool} (n:Nat):BC Tryd.prog (Op.equalIn (n+2) 57 (.agg #[.string a,.bool b]) (.agg #[.string c,.bool d]))=some (a==c&&b==d):=by
 rw[Op.equalIn,CW,M4 Tryd.underlying57]
 simp only[Option.bind_some,CW,LY,Gu,Bool.false_eq_true,if_false]
 simp only[List.forIn_toArray,List.forIn_cons,List.forIn_nil,ne_eq,String.reduceEq,not_false_eq_true,if_true,CW,iO.1,Option.bind_some,PN Tryd.underlying9,fM Tryd.underlying4]
 cases h1:(a==c) <;> simp[CW,HS,iO.2,PN Tryd.underlying9,fM Tryd.underlying4,-beq_iff_eq,-beq_eq_false_iff_ne]
 cases h2:(b==d) <;> simp[HS,-beq_iff_eq,-beq_eq_false_iff_ne]
theorem mX {a:AB}:flat (C_ a)=true:=rfl
theorem kC {a:ByteArray} {b:Bool}:flat (.agg #[.string a,.bool b])=true:=rfl
section
variable {x y:Operand}
theorem lZ (op:BinOp) (neg:Bool) (hop:op=if neg then .neq else .eql) {a b:AB}:B0 Tryd.prog op 46 x y (C_ a) (C_ b)=some (.bool (if neg then !(JJ a b) else JJ a b)):=by
 have k:BC Tryd.prog (Op.equal 46 (C_ a) (C_ b))=some (JJ a b):=Cx 9998
 cases neg with
 | true=>
  subst hop
  have e:BC Tryd.prog (do eqGuard .neq 46 x y (C_ a) (C_ b);binOp .neq 46 (C_ a) (C_ b))=some (.bool (!(JJ a b))):=by
   rw[CW]
   have g:BC Tryd.prog (eqGuard .neq 46 x y (C_ a) (C_ b))=some ():=by
    unfold eqGuard
    simp[CW,LY,HS]
   rw[g]
   show BC Tryd.prog ((do pure (.bool (!(← Op.equal 46 (C_ a) (C_ b))))):Sem Value)=_
   rw[CW,k]
   rfl
  simp only[B0,mX,Bool.and_self,if_true,e,KF]
 | false=>
  subst hop
  have e:BC Tryd.prog (do eqGuard .eql 46 x y (C_ a) (C_ b);binOp .eql 46 (C_ a) (C_ b))=some (.bool (JJ a b)):=by
   rw[CW]
   have g:BC Tryd.prog (eqGuard .eql 46 x y (C_ a) (C_ b))=some ():=by
    unfold eqGuard
    simp[CW,LY,HS]
   rw[g]
   show BC Tryd.prog ((do pure (.bool (← Op.equal 46 (C_ a) (C_ b)))):Sem Value)=_
   rw[CW,k]
   rfl
  simp only[Bool.false_eq_true,if_false,B0,mX,Bool.and_self,if_true,e,KF]
theorem nP {a b:AB}:B0 Tryd.prog .neq 46 x y (C_ a) (C_ b)=some (.bool (!(JJ a b))):=lZ .neq true rfl
theorem m5 (op:BinOp) (neg:Bool) (hop:op=if neg then .neq else .eql) {a c:ByteArray} {b d:Bool}:B0 Tryd.prog op 57 x y (.agg #[.string a,.bool b]) (.agg #[.string c,.bool d])=some (.bool (if neg then !(a==c&&b==d) else (a==c&&b==d))):=by
 have k:BC Tryd.prog (Op.equal 57 (.agg #[.string a,.bool b]) (.agg #[.string c,.bool d]))=some (a==c&&b==d):=Bq 9998
 cases neg with
 | true=>
  subst hop
  have e:BC Tryd.prog (do eqGuard .neq 57 x y (.agg #[.string a,.bool b]) (.agg #[.string c,.bool d]);binOp .neq 57 (.agg #[.string a,.bool b]) (.agg #[.string c,.bool d]))=some (.bool (!(a==c&&b==d))):=by
   rw[CW]
   have g:BC Tryd.prog (eqGuard .neq 57 x y (.agg #[.string a,.bool b]) (.agg #[.string c,.bool d]))=some ():=by
    unfold eqGuard
    simp[CW,LY,HS]
   rw[g]
   show BC Tryd.prog ((do pure (.bool (!(← Op.equal 57 (.agg #[.string a,.bool b]) (.agg #[.string c,.bool d]))))):Sem Value)=_
   rw[CW,k]
   rfl
  simp only[B0,kC,Bool.and_self,if_true,e,KF]
 | false=>
  subst hop
  have e:BC Tryd.prog (do eqGuard .eql 57 x y (.agg #[.string a,.bool b]) (.agg #[.string c,.bool d]);binOp .eql 57 (.agg #[.string a,.bool b]) (.agg #[.string c,.bool d]))=some (.bool (a==c&&b==d)):=by
   rw[CW]
   have g:BC Tryd.prog (eqGuard .eql 57 x y (.agg #[.string a,.bool b]) (.agg #[.string c,.bool d]))=some ():=by
    unfold eqGuard
    simp[CW,LY,HS]
   rw[g]
   show BC Tryd.prog ((do pure (.bool (← Op.equal 57 (.agg #[.string a,.bool b]) (.agg #[.string c,.bool d])))):Sem Value)=_
   rw[CW,k]
   rfl
  simp only[Bool.false_eq_true,if_false,B0,kC,Bool.and_self,if_true,e,KF]
theorem eF {a c:ByteArray} {b d:Bool}:B0 Tryd.prog .neq 57 x y (.agg #[.string a,.bool b]) (.agg #[.string c,.bool d])=some (.bool (!(a==c&&b==d))):=m5 .neq true rfl
end
theorem Cg {a b:ByteArray}:(a==b)=true↔a=b:=by
 obtain⟨a⟩:=a
 obtain⟨b⟩:=b
 show (a==b)=true↔_
 rw[beq_iff_eq,ByteArray.mk.injEq]
theorem RJ {a b:AB}:JJ a b=true↔a=b:=by
 obtain⟨a1,a2,a3,a4,a5⟩:=a
 obtain⟨b1,b2,b3,b4,b5⟩:=b
 unfold JJ
 simp only[Bool.and_eq_true,beq_iff_eq,Cg,AB.mk.injEq]
theorem TP {lo:Nat} {h:AA} {v:Value} {n w:Nat} {cs:List Value} (hc:AV lo h v n w cs) (h':AA):B_ Tryd.prog h' 28 v=some (iv (n:Int)):=AV.len hc Tryd.underlying28
theorem VP {lo:Nat} {h:AA} {v:Value} {n w:Nat} {cs:List Value} (hc:AV lo h v n w cs) (h':AA):B_ Tryd.prog h' 27 v=some (iv (n:Int)):=AV.len hc Tryd.underlying27
theorem WZ {lo:Nat} {h:AA} {v:Value} {n w:Nat} {cs:List Value} (hc:AV lo h v n w cs) (h':AA):B_ Tryd.prog h' 26 v=some (iv (n:Int)):=AV.len hc Tryd.underlying26
theorem k8 {lo:Nat} {h:AA} {v:Value} {n w:Nat} {cs:List Value} (hc:AV lo h v n w cs) (h':AA):B_ Tryd.prog h' 22 v=some (iv (n:Int)):=AV.len hc Tryd.underlying22
theorem WP {l:List ByteArray} {i:Nat} {x:ByteArray} (hx:l[i]?=some x) {lo:Nat} {h:AA} {v:Value} (hc:AV lo h v l.length 1 (CZ l)):∃ id p,CY Tryd.prog 27 v (iv (i:Int))=some (qP id p)∧id<h.next∧AO p (h.get id)=some (.string x):=by
 obtain⟨id,p,h1,h2,h3⟩:=AV.idx hc Tryd.underlying27 HC (List.getElem?_eq_some_iff.1 hx).1
 refine⟨id,p,h1,h2,?_⟩
 have:=h3 0 (by decide)
 rw[Nat.add_zero] at this
 rw[this,Nat.mul_one,Nat.add_zero,CZ,List.getElem?_map,hx]
 rfl
theorem kS:∀ {l:List (ByteArray × Bool)} {i:Nat} {x:ByteArray × Bool},l[i]?=some x→((GP l).drop (i*2)).take 2=[.string x.1,.bool x.2]
 | [],i,x,h=>by simp at h
 | q :: l,0,x,h=>by
  simp only[List.getElem?_cons_zero,Option.some.injEq] at h
  subst h
  rfl
 | q :: l,i+1,x,h=>by
  have:=kS (l:=l) (i:=i) (x:=x) (by simpa using h)
  rw[← this,show (i+1)*2=i*2+2 by omega]
  rfl
theorem UX {l:List (ByteArray × Bool)} {i:Nat} {x:ByteArray × Bool} (hx:l[i]?=some x) {lo:Nat} {h:AA} {v:Value} (hc:AV lo h v l.length 2 (GP l)):∃ id p,CY Tryd.prog 26 v (iv (i:Int))=some (qP id p)∧id<h.next∧CD 2 p (h.get id)=some (.agg #[.string x.1,.bool x.2]):=by
 obtain⟨id,p,h1,h2,h3⟩:=AV.whole hc Tryd.underlying26 L4 (List.getElem?_eq_some_iff.1 hx).1
 rw[kS hx] at h3
 exact⟨id,p,h1,h2,h3⟩
theorem OB {α:Type} {A B:List α} (hl:A.length=B.length) (h:∀ j,j<A.length→A[j]?=B[j]?):A=B:=by
 apply List.ext_getElem?
 intro j
 rcases Nat.lt_or_ge j A.length with h1 | h1
 ·exact h j h1
 ·rw[List.getElem?_eq_none h1,List.getElem?_eq_none (by omega)]
theorem yY:FK Tryd.prog 57=some true:=by kernel_rfl
theorem kM {h:AA} {id off:Nat}:EO Tryd.prog h 57 (qP id off)=CD 2 off (h.get id):=OC yY L4
def bD:List (Bool × Bool × List Operand):=[BI,BI,BI,BI,AS [.tmp 19],AS [.tmp 19],AS [.tmp 19],AS [.tmp 19],AT]
section
variable {call:AK} {N:Nat} {h:AA}
theorem vO (hsn:BZ call) {va vb:Value} {A B:List Int} {la lb:Nat} (ha:BY la h va A) (hb:BY lb h vb B) (hN:A.length+3<N) (hl:A.length<30000000000000):AW Tryd.prog call N 35 [va,vb] h=some (.bool (decide (A=B)),h):=by
 refine DW Tryd.func35 rfl (by simp[Tryd.f35]) ?_
 have hr:Tryd.f35.results.toList=[.tmp 4]:=rfl
 have lA:=fun h'=>TP ha h'
 have lB:=fun h'=>TP hb h'
 cases d:((A.length:Int) != (B.length:Int)) with
 | true=>
  have hne:A≠B:=fun e=>by subst e;simp at d
  rw[decide_eq_false hne]
  simp only[eE,↓reduceIte,Nat.reduceEqDiff,reduceCtorEq,↓eP,hr,lA,lB,d]
 | false=>
  have hlen:A.length=B.length:=by
   have h9:(A.length:Int)=(B.length:Int):=by simpa using d
   omega
  simp only[eE,↓reduceIte,Nat.reduceEqDiff,reduceCtorEq,↓eP,lA,lB,d]
  refine WK.loop (fun i s'=>s'.T.get 0=va∧s'.T.get 1=vb∧s'.T.get 5=iv i∧s'.h=h∧i≤A.length∧∀ j,j<i→A[j]?=B[j]?) A.length (by omega) ?_ ?_
  ·simp only[eE,↓reduceIte,Nat.reduceEqDiff,reduceCtorEq,↓eP,rP,Nat.reduceAdd,Nat.reduceLT]
   exact⟨rfl,fun j hj=>by omega⟩
  ·rintro i ⟨T1,H1⟩ hi ⟨t0,t1,t5,hh,hil,hsame⟩
   simp only at t0 t1 t5 hh
   subst hh
   by_cases hlt:i<A.length
   ·have c1:decide ((i:Int)<(A.length:Int))=true:=by simp;omega
    obtain⟨x,hx⟩:∃ x,A[i]?=some x:=⟨_,List.getElem?_eq_getElem hlt⟩
    obtain⟨y,hy⟩:∃ y,B[i]?=some y:=⟨_,List.getElem?_eq_getElem (by omega)⟩
    obtain⟨ida,pa,ea,_,xa⟩:=BY.get ha hx
    obtain⟨idb,pb,eb,_,xb⟩:=BY.get hb hy
    have w1:=CK i (by omega)
    simp only[eE,seval,↓eP,t0,t1,t5,lA,c1]
    refine WK.flags (fs:=bD) (by kernel_rfl) ?_
    unfold bD
    iterate 9
     refine FO hsn ?_
     simp only[rG,seval,AC,AE,AD,DS,FA,DL,EI,FR,t0,t1,t5,ea,eb,CO,xa,xb,QF]
    refine FT ?_
    cases e:(x != y) with
    | true=>
     have hne:A≠B:=fun h9=>by
      subst h9
      rw[hx] at hy
      cases hy
      simp at e
     rw[decide_eq_false hne]
     simp only[eE,seval,↓eP,hr,e]
    | false=>
     have hxy:x=y:=by simpa using e
     simp only[eE,seval,↓eP,t0,t1,t5,e,w1]
     refine⟨by omega,by omega,fun j hj=>?_⟩
     rcases Nat.lt_or_ge j i with h1 | h1
     ·exact hsame j h1
     ·have:j=i:=by omega
      subst this
      rw[hx,hy,hxy]
   ·have c1:decide ((i:Int)<(A.length:Int))=false:=by simp;omega
    have:i=A.length:=by omega
    subst this
    have hAB:A=B:=OB hlen hsame
    rw[decide_eq_true hAB]
    simp only[eE,seval,↓eP,hr,t0,t1,t5,lA,c1]
end
def bV:List (Bool × Bool × List Operand):=[BI,BI,BI,BI,AS [.tmp 19],AS [.tmp 19],AS [.tmp 19],AS [.tmp 19],AT]
section
variable {call:AK} {N:Nat} {h:AA}
theorem Bd (hsn:BZ call) {va vb:Value} {A B:List ByteArray} {la lb:Nat} (ha:AV la h va A.length 1 (CZ A)) (hb:AV lb h vb B.length 1 (CZ B)) (hN:A.length+3<N) (hl:A.length<30000000000000):AW Tryd.prog call N 64 [va,vb] h=some (.bool (decide (A=B)),h):=by
 refine DW Tryd.func64 rfl (by simp[Tryd.f64]) ?_
 have hr:Tryd.f64.results.toList=[.tmp 4]:=rfl
 have lA:=fun h'=>VP ha h'
 have lB:=fun h'=>VP hb h'
 cases d:((A.length:Int) != (B.length:Int)) with
 | true=>
  have hne:A≠B:=fun e=>by subst e;simp at d
  rw[decide_eq_false hne]
  simp only[eE,↓reduceIte,Nat.reduceEqDiff,reduceCtorEq,↓eP,hr,lA,lB,d]
 | false=>
  have hlen:A.length=B.length:=by
   have h9:(A.length:Int)=(B.length:Int):=by simpa using d
   omega
  simp only[eE,↓reduceIte,Nat.reduceEqDiff,reduceCtorEq,↓eP,lA,lB,d]
  refine WK.loop (fun i s'=>s'.T.get 0=va∧s'.T.get 1=vb∧s'.T.get 5=iv i∧s'.h=h∧i≤A.length∧∀ j,j<i→A[j]?=B[j]?) A.length (by omega) ?_ ?_
  ·simp only[eE,↓reduceIte,Nat.reduceEqDiff,reduceCtorEq,↓eP,rP,Nat.reduceAdd,Nat.reduceLT]
   exact⟨rfl,fun j hj=>by omega⟩
  ·rintro i ⟨T1,H1⟩ hi ⟨t0,t1,t5,hh,hil,hsame⟩
   simp only at t0 t1 t5 hh
   subst hh
   by_cases hlt:i<A.length
   ·have c1:decide ((i:Int)<(A.length:Int))=true:=by simp;omega
    obtain⟨x,hx⟩:∃ x,A[i]?=some x:=⟨_,List.getElem?_eq_getElem hlt⟩
    obtain⟨y,hy⟩:∃ y,B[i]?=some y:=⟨_,List.getElem?_eq_getElem (by omega)⟩
    obtain⟨ida,pa,ea,_,xa⟩:=WP hx ha
    obtain⟨idb,pb,eb,_,xb⟩:=WP hy hb
    have w1:=CK i (by omega)
    simp only[eE,seval,↓eP,t0,t1,t5,lA,c1]
    refine WK.flags (fs:=bV) (by kernel_rfl) ?_
    unfold bV
    iterate 9
     refine FO hsn ?_
     simp only[rG,seval,AC,AE,AD,DS,FA,DL,EI,FR,t0,t1,t5,ea,eb,EC,xa,xb,HM]
    refine FT ?_
    cases e:(!(x==y)) with
    | true=>
     have hne:A≠B:=fun h9=>by
      subst h9
      rw[hx] at hy
      cases hy
      rw[J1] at e;cases e
     rw[decide_eq_false hne]
     simp only[eE,seval,↓eP,hr,e]
    | false=>
     have hxy:x=y:=JK (by simpa using e)
     simp only[eE,seval,↓eP,t0,t1,t5,e,w1]
     refine⟨by omega,by omega,fun j hj=>?_⟩
     rcases Nat.lt_or_ge j i with h1 | h1
     ·exact hsame j h1
     ·have:j=i:=by omega
      subst this
      rw[hx,hy,hxy]
   ·have c1:decide ((i:Int)<(A.length:Int))=false:=by simp;omega
    have:i=A.length:=by omega
    subst this
    have hAB:A=B:=OB hlen hsame
    rw[decide_eq_true hAB]
    simp only[eE,seval,↓eP,hr,t0,t1,t5,lA,c1]
end
theorem iQ {n:Nat} {h:AA} {va vb:Value} {A B:List Int} {la lb:Nat} (ha:BY la h va A) (hb:BY lb h vb B) (hl:A.length<2932031007403) (hn:A.length+5<n):AU n 35 [va,vb] h=some (.bool (decide (A=B)),h):=by
 obtain⟨n,rfl⟩:=ET hn
 exact J0 (CV ⟨rfl,rfl,rfl⟩) rfl (vO (Fsx n).2 ha hb (by omega) (by omega))
theorem gM {n:Nat} {h:AA} {va vb:Value} {A B:List ByteArray} {la lb:Nat} (ha:AV la h va A.length 1 (CZ A)) (hb:AV lb h vb B.length 1 (CZ B)) (hl:A.length<2932031007403) (hn:A.length+5<n):AU n 64 [va,vb] h=some (.bool (decide (A=B)),h):=by
 obtain⟨n,rfl⟩:=ET hn
 exact J0 (CV ⟨rfl,rfl,rfl⟩) rfl (Bd (Fsx n).2 ha hb (by omega) (by omega))
def Y9:List (Bool × Bool × List Operand):=[BI,BI,AS [.tmp 44],BI,BI,AS [.tmp 44,.tmp 47],AS [.tmp 44,.tmp 47],AS [.tmp 44,.tmp 47,.tmp 49],AS [.tmp 44,.tmp 47],AS [.tmp 44,.tmp 47],AT]
def XQ:List (Bool × Bool × List Operand):=[BI,BI,AS [.tmp 62],BI,BI,AS [.tmp 62,.tmp 65],AS [.tmp 62,.tmp 65],AS [.tmp 62,.tmp 65,.tmp 67],AS [.tmp 62,.tmp 65],AS [.tmp 62,.tmp 65],AT]
def MG (nm nm':ByteArray) (s s':AN):Prop:=nm=nm'∧s.miss=s'.miss∧s.rows=s'.rows∧s.queues=s'.queues∧s.vars=s'.vars∧s.tags=s'.tags∧s.rules=s'.rules∧s.on=s'.on
noncomputable def S3:Code:=rt (rt (Tryd.f19.body.getD .skip))
noncomputable def S8:Code:=rt S3
noncomputable def vX:Code:=rt S8
theorem UI {a b c d e f g i:Value} {ty:TypeId} {x y:Bool}:AO 0 (.row [a,b,c,d,e,f,g,i] ty x y)=some a∧AO 1 (.row [a,b,c,d,e,f,g,i] ty x y)=some b∧AO 2 (.row [a,b,c,d,e,f,g,i] ty x y)=some c∧AO 3 (.row [a,b,c,d,e,f,g,i] ty x y)=some d∧AO 4 (.row [a,b,c,d,e,f,g,i] ty x y)=some e∧AO 5 (.row [a,b,c,d,e,f,g,i] ty x y)=some f∧AO 6 (.row [a,b,c,d,e,f,g,i] ty x y)=some g∧AO 7 (.row [a,b,c,d,e,f,g,i] ty x y)=some i:=⟨rfl,rfl,rfl,rfl,rfl,rfl,rfl,rfl⟩
def K5 (s:AN):Prop:=s.rows.length<2932031007403∧s.queues.length<2932031007403∧s.vars.length<2932031007403∧s.tags.length<2932031007403∧s.rules.length<2932031007403∧s.on.length<2932031007403
def IJ (s:AN):Nat:=s.rows.length+s.queues.length+s.vars.length+s.tags.length+s.rules.length+s.on.length
section
variable {n N:Nat}
theorem Kh (hsn:BZ (AU n)) {nm nm':ByteArray} {s s':AN} {pa pb:Value} {la lb:Nat} {h:AA} (ha:DT la h pa nm s) (hb:DT lb h pb nm' s') (hs:K5 s) (hn:IJ s+10<n) (hN:IJ s+10<N) :
  ∃ b h1,AW Tryd.prog (AU n) N 19 [pa,pb] h=some (.bool b,h1)∧(b=true↔MG nm nm' s s')∧∀ i,i<h.next→h1.get i=h.get i:=by
 obtain⟨ar,aq,av,at_,au,ao,rfl,a1,a2,a3,a4,a5,a6⟩:=ha
 obtain⟨br,bq,bv,bt,bu,bo,rfl,b1,b2,b3,b4,b5,b6⟩:=hb
 suffices hsuf:∃ v h1,AW Tryd.prog (AU n) N 19 [.agg #[.string nm,ar,aq,av,at_,au,ao,iv s.miss],.agg #[.string nm',br,bq,bv,bt,bu,bo,iv s'.miss]] h=some (v,h1)∧(∃ b,v=.bool b∧(b=true↔MG nm nm' s s')∧∀ i,i<h.next→h1.get i=h.get i) by
  obtain⟨v,h1,e1,b,rfl,e2⟩:=hsuf
  exact⟨b,h1,e1,e2⟩
 refine PW (R:=fun v h1=>∃ b,v=.bool b∧(b=true↔MG nm nm' s s')∧∀ i,i<h.next→h1.get i=h.get i) Tryd.func19 rfl (by simp[Tryd.f19]) ?_
 have hr:Tryd.f19.results.toList=[.tmp 4]:=rfl
 unfold IJ at hn hN
 obtain⟨q1,q2,q3,q4,q5,q6⟩:=hs
 have ca:=I9 [.string nm,ar,aq,av,at_,au,ao,iv s.miss]
 have cb:=I9 [.string nm',br,bq,bv,bt,bu,bo,iv s'.miss]
 have oa:([.string nm,ar,aq,av,at_,au,ao,iv s.miss]:List Value).all one=true:=by
  simp only[List.all_cons,List.all_nil,a1.2.one,a2.one,a3.one,a4.one,AV.one a5,AV.one a6,M7,NG,Bool.and_self]
 have ob:([.string nm',br,bq,bv,bt,bu,bo,iv s'.miss]:List Value).all one=true:=by
  simp only[List.all_cons,List.all_nil,b1.2.one,b2.one,b3.one,b4.one,AV.one b5,AV.one b6,M7,NG,Bool.and_self]
 have gA:=O2 (h:=h) (o:=.row [.string nm,ar,aq,av,at_,au,ao,iv s.miss] 30 false false) (o':=.row [.string nm',br,bq,bv,bt,bu,bo,iv s'.miss] 30 false false)
 have gB:=OQ (h:=h) (o:=.row [.string nm,ar,aq,av,at_,au,ao,iv s.miss] 30 false false) (o':=.row [.string nm',br,bq,bv,bt,bu,bo,iv s'.miss] 30 false false)
 have gO:∀ i,i<h.next→((h.push (.row [.string nm,ar,aq,av,at_,au,ao,iv s.miss] 30 false false)).push (.row [.string nm',br,bq,bv,bt,bu,bo,iv s'.miss] 30 false false)).get i=h.get i:=fun i hi=>by rw[AM (by show i<h.next+1;omega),AM hi]
 show WK _ _ _ (.seq _ (.seq _ S3)) _ _
 simp only[eE,seval,↓eP,DH,DC,DN,ca,cb,oa,ob,HR]
 have nH:((h.push (.row [.string nm,ar,aq,av,at_,au,ao,iv s.miss] 30 false false)).push (.row [.string nm',br,bq,bv,bt,bu,bo,iv s'.miss] 30 false false)).next=h.next+2:=rfl
 generalize (h.push (.row [.string nm,ar,aq,av,at_,au,ao,iv s.miss] 30 false false)).push (.row [.string nm',br,bq,bv,bt,bu,bo,iv s'.miss] 30 false false)=H at *
 generalize hKK:BS.top _=K
 have fin:∀ (T':Tr) b,T'.get 4=.bool b→(b=true↔MG nm nm' s s')→K.ap Tryd.prog (AU n) N .ret ⟨T',H⟩:=by
  intro T' b h4 hb
  rw[← hKK]
  simp only[eE,seval,↓eP,hr,h4]
  exact⟨b,rfl,hb,gO⟩
 have fno:∀ (T':Tr),T'.get 4=.bool false→¬ MG nm nm' s s'→K.ap Tryd.prog (AU n) N .ret ⟨T',H⟩:=fun T' h4 hn=>fin T' false h4 ⟨fun h=>(by cases h),fun h=>absurd h hn⟩
 clear hKK
 have hN':h.next≤H.next:=by omega
 have A1:=a1.mono hN' fun i _ hi=>gO i hi
 have A2:=a2.mono hN' fun i _ hi=>gO i hi
 have A3:=a3.mono hN' fun i _ hi=>gO i hi
 have A4:=a4.mono hN' fun i _ hi=>gO i hi
 have A5:=BY.mono a5 hN' fun i _ hi=>gO i hi
 have A6:=BY.mono a6 hN' fun i _ hi=>gO i hi
 have B1:=b1.mono hN' fun i _ hi=>gO i hi
 have B2:=b2.mono hN' fun i _ hi=>gO i hi
 have B3:=b3.mono hN' fun i _ hi=>gO i hi
 have B4:=b4.mono hN' fun i _ hi=>gO i hi
 have B5:=BY.mono b5 hN' fun i _ hi=>gO i hi
 have B6:=BY.mono b6 hN' fun i _ hi=>gO i hi
 obtain⟨x0,x1,x2,x3,x4,x5,x6,x7⟩:=UI (a:=.string nm) (b:=ar) (c:=aq) (d:=av) (e:=at_) (f:=au) (g:=ao) (i:=iv s.miss) (ty:=30) (x:=false) (y:=false)
 obtain⟨y0,y1,y2,y3,y4,y5,y6,y7⟩:=UI (a:=.string nm') (b:=br) (c:=bq) (d:=bv) (e:=bt) (f:=bu) (g:=bo) (i:=iv s'.miss) (ty:=30) (x:=false) (y:=false)
 rw[← gA] at x0 x1 x2 x3 x4 x5 x6 x7
 rw[← gB] at y0 y1 y2 y3 y4 y5 y6 y7
 have lr1:=fun h'=>k8 A1.2 h'
 have lr2:=fun h'=>k8 B1.2 h'
 have lq1:=fun h'=>WZ A2 h'
 have lq2:=fun h'=>WZ B2 h'
 cases d1:(!(nm==nm')) with
 | true=>
  simp only[eE,seval,↓eP,Nat.zero_add,JH,DA,FL,HK,EC,CO,C0,FP,x0,x1,x2,x7,y0,y1,y2,y7,lr1,lr2,lq1,lq2,HM,d1]
  refine fno _ (by simp only[eE,seval,↓eP,rP]) fun hsp=>?_
  rw[hsp.1,J1] at d1
  cases d1
 | false=>
 have e1:nm=nm':=JK (by simpa using d1)
 cases d2:(s.miss != s'.miss) with
 | true=>
  simp only[eE,seval,↓eP,Nat.zero_add,JH,DA,FL,HK,EC,CO,C0,FP,x0,x1,x2,x7,y0,y1,y2,y7,lr1,lr2,lq1,lq2,HM,d1,d2]
  refine fno _ (by simp only[eE,seval,↓eP,rP]) fun hsp=>?_
  rw[hsp.2.1] at d2
  simp at d2
 | false=>
 have e2:s.miss=s'.miss:=by simpa using d2
 cases d3:((s.rows.length:Int) != (s'.rows.length:Int)) with
 | true=>
  simp only[eE,seval,↓eP,Nat.zero_add,JH,DA,FL,HK,EC,CO,C0,FP,x0,x1,x2,x7,y0,y1,y2,y7,lr1,lr2,lq1,lq2,HM,d1,d2,d3]
  refine fno _ (by simp only[eE,seval,↓eP,rP]) fun hsp=>?_
  rw[hsp.2.2.1] at d3
  simp at d3
 | false=>
 have e3:s.rows.length=s'.rows.length:=by
  have h9:(s.rows.length:Int)=(s'.rows.length:Int):=by simpa using d3
  omega
 cases d4:((s.queues.length:Int) != (s'.queues.length:Int)) with
 | true=>
  simp only[eE,seval,↓eP,Nat.zero_add,JH,DA,FL,HK,EC,CO,C0,FP,x0,x1,x2,x7,y0,y1,y2,y7,lr1,lr2,lq1,lq2,HM,d1,d2,d3,d4]
  refine fno _ (by simp only[eE,seval,↓eP,rP]) fun hsp=>?_
  rw[hsp.2.2.2.1] at d4
  simp at d4
 | false=>
 have e4:s.queues.length=s'.queues.length:=by
  have h9:(s.queues.length:Int)=(s'.queues.length:Int):=by simpa using d4
  omega
 simp only[eE,seval,↓eP,Nat.zero_add,JH,DA,FL,HK,EC,CO,C0,FP,x0,x1,x2,x7,y0,y1,y2,y7,lr1,lr2,lq1,lq2,HM,d1,d2,d3,d4]
 show WK _ _ _ (.seq (.seq _ (.block 0 (.loop (.seq _ (.seq (.block 1 (.seq (.region _ _ true) _)) _))))) S8) _ _
 simp only[eE,seval,↓eP]
 refine WK.loop (fun i s''=>s''.T.get 2=qP h.next 0∧s''.T.get 3=qP (h.next+1) 0∧s''.T.get 5=iv i∧s''.h=H∧i≤s.rows.length∧∀ j,j<i→s.rows[j]?=s'.rows[j]?) s.rows.length (by omega) ?_ ?_
 ·exact⟨by simp only[eE,↓reduceIte,Nat.reduceEqDiff,reduceCtorEq,↓eP,rP,Nat.reduceAdd,Nat.reduceLT],by simp only[eE,↓reduceIte,Nat.reduceEqDiff,reduceCtorEq,↓eP,rP,Nat.reduceAdd,Nat.reduceLT],by simp only[eE,↓reduceIte,Nat.reduceEqDiff,reduceCtorEq,↓eP,rP,Nat.reduceAdd,Nat.reduceLT];rfl,rfl,by omega,fun j hj=>by omega⟩
 rintro i ⟨T1,H1⟩ hi ⟨t2,t3,t5,hh,hil,hsame⟩
 simp only at t2 t3 t5 hh
 subst hh
 by_cases hlt:i<s.rows.length
 ·have c1:decide ((i:Int)<(s.rows.length:Int))=true:=by simp;omega
  obtain⟨x,hx⟩:∃ x,s.rows[i]?=some x:=⟨_,List.getElem?_eq_getElem hlt⟩
  obtain⟨y,hy⟩:∃ y,s'.rows[i]?=some y:=⟨_,List.getElem?_eq_getElem (by omega)⟩
  obtain⟨ida,pa,ea,_,_,_,_,_,_,xa⟩:=A1.1.row hx
  obtain⟨idb,pb,eb,_,_,_,_,_,_,xb⟩:=B1.1.row hy
  have w1:=CK i (by omega)
  have xa':CD 5 pa (H1.get ida)=some (C_ x):=xa
  have xb':CD 5 pb (H1.get idb)=some (C_ y):=xb
  simp only[eE,seval,↓eP,Nat.zero_add,t2,t3,t5,DA,C0,x1,lr1,c1]
  refine WK.flags (fs:=Y9) (by kernel_rfl) ?_
  unfold Y9
  iterate 11
   refine FO hsn ?_
   simp only[rG,seval,AC,AE,AD,DS,FA,DL,EI,FR,Option.bind_some,t2,t3,t5,DA,C0,x1,y1,ea,eb,IU,xa',xb',nP]
  refine FT ?_
  cases e:(!(JJ x y)) with
  | true=>
   simp only[eE,seval,↓eP,e]
   refine fno _ (by simp only[eE,seval,↓eP,rP]) fun hsp=>?_
   rw[hsp.2.2.1,hy] at hx
   cases hx
   rw[(RJ (a:=x) (b:=x)).2 rfl] at e
   cases e
  | false=>
   have hxy:x=y:=RJ.1 (by simpa using e)
   simp only[eE,seval,↓eP,t2,t3,t5,e,w1]
   refine⟨by omega,by omega,fun j hj=>?_⟩
   rcases Nat.lt_or_ge j i with h1 | h1
   ·exact hsame j h1
   ·have:j=i:=by omega
    subst this
    rw[hx,hy,hxy]
 have c1:decide ((i:Int)<(s.rows.length:Int))=false:=by simp;omega
 have:i=s.rows.length:=by omega
 subst this
 have e5:s.rows=s'.rows:=OB e3 hsame
 simp only[eE,seval,↓eP,Nat.zero_add,t2,t3,t5,DA,C0,x1,lr1,c1]
 show WK _ _ _ (.seq (.seq _ (.block 2 (.loop (.seq _ (.seq (.block 3 (.seq (.region _ _ true) _)) _))))) vX) _ _
 simp only[eE,seval,↓eP]
 refine WK.loop (fun i s''=>s''.T.get 2=qP h.next 0∧s''.T.get 3=qP (h.next+1) 0∧s''.T.get 6=iv i∧s''.h=H1∧i≤s.queues.length∧∀ j,j<i→s.queues[j]?=s'.queues[j]?) s.queues.length (by omega) ?_ ?_
 ·exact⟨by simp only[eE,↓reduceIte,Nat.reduceEqDiff,reduceCtorEq,↓eP,rP,Nat.reduceAdd,Nat.reduceLT,t2],by simp only[eE,↓reduceIte,Nat.reduceEqDiff,reduceCtorEq,↓eP,rP,Nat.reduceAdd,Nat.reduceLT,t3],by simp only[eE,↓reduceIte,Nat.reduceEqDiff,reduceCtorEq,↓eP,rP,Nat.reduceAdd,Nat.reduceLT];rfl,rfl,by omega,fun j hj=>by omega⟩
 rintro i ⟨T2,H2⟩ hi ⟨t2,t3,t6,hh,hil,hsame⟩
 simp only at t2 t3 t6 hh
 subst hh
 by_cases hlt:i<s.queues.length
 ·have c1:decide ((i:Int)<(s.queues.length:Int))=true:=by simp;omega
  obtain⟨x,hx⟩:∃ x,s.queues[i]?=some x:=⟨_,List.getElem?_eq_getElem hlt⟩
  obtain⟨y,hy⟩:∃ y,s'.queues[i]?=some y:=⟨_,List.getElem?_eq_getElem (by omega)⟩
  obtain⟨ida,pa,ea,_,xa⟩:=UX hx A2
  obtain⟨idb,pb,eb,_,xb⟩:=UX hy B2
  have w1:=CK i (by omega)
  simp only[eE,seval,↓eP,Nat.zero_add,t2,t3,t6,FL,FP,x2,lq1,c1]
  refine WK.flags (fs:=XQ) (by kernel_rfl) ?_
  unfold XQ
  iterate 11
   refine FO hsn ?_
   simp only[rG,seval,AC,AE,AD,DS,FA,DL,EI,FR,Option.bind_some,t2,t3,t6,FL,FP,x2,y2,ea,eb,kM,xa,xb,eF]
  refine FT ?_
  cases e:(!(x.1==y.1&&x.2==y.2)) with
  | true=>
   simp only[eE,seval,↓eP,e]
   refine fno _ (by simp only[eE,seval,↓eP,rP]) fun hsp=>?_
   rw[hsp.2.2.2.1,hy] at hx
   cases hx
   rw[J1] at e
   simp at e
  | false=>
   have hxy:x=y:=by
    simp only[Bool.not_eq_false',Bool.and_eq_true] at e
    exact Prod.ext (JK e.1) (by simpa using e.2)
   simp only[eE,seval,↓eP,t2,t3,t6,e,w1]
   refine⟨by omega,by omega,fun j hj=>?_⟩
   rcases Nat.lt_or_ge j i with h1 | h1
   ·exact hsame j h1
   ·have:j=i:=by omega
    subst this
    rw[hx,hy,hxy]
 have c1:decide ((i:Int)<(s.queues.length:Int))=false:=by simp;omega
 have:i=s.queues.length:=by omega
 subst this
 have e6:s.queues=s'.queues:=OB e4 hsame
 simp only[eE,seval,↓eP,Nat.zero_add,t2,t3,t6,FL,FP,x2,lq1,c1]
 have hV:=gM (n:=n) (h:=H2) A3 B3 (by omega) (by omega)
 have hT:=gM (n:=n) (h:=H2) A4 B4 (by omega) (by omega)
 have hU:=iQ (n:=n) (h:=H2) A5 B5 (by omega) (by omega)
 have hO:=iQ (n:=n) (h:=H2) A6 B6 (by omega) (by omega)
 show WK _ _ _ (.seq _ .ret) _ _
 cases dV:decide (s.vars=s'.vars) with
 | false=>
  rw[dV] at hV
  simp only[eE,seval,↓eP,Nat.zero_add,t2,t3,GF,GG,F0,FZ,EJ,C3,x3,x4,x5,x6,y3,y4,y5,y6,hV]
  exact fno _ (by simp only[eE,seval,↓eP,rP]) fun hsp=>(of_decide_eq_false dV) hsp.2.2.2.2.1
 | true=>
 rw[dV] at hV
 cases dT:decide (s.tags=s'.tags) with
 | false=>
  rw[dT] at hT
  simp only[eE,seval,↓eP,Nat.zero_add,t2,t3,GF,GG,F0,FZ,EJ,C3,x3,x4,x5,x6,y3,y4,y5,y6,hV,hT]
  exact fno _ (by simp only[eE,seval,↓eP,rP]) fun hsp=>(of_decide_eq_false dT) hsp.2.2.2.2.2.1
 | true=>
 rw[dT] at hT
 cases dU:decide (s.rules=s'.rules) with
 | false=>
  rw[dU] at hU
  simp only[eE,seval,↓eP,Nat.zero_add,t2,t3,GF,GG,F0,FZ,EJ,C3,x3,x4,x5,x6,y3,y4,y5,y6,hV,hT,hU]
  exact fno _ (by simp only[eE,seval,↓eP,rP]) fun hsp=>(of_decide_eq_false dU) hsp.2.2.2.2.2.2.1
 | true=>
 rw[dU] at hU
 simp only[eE,seval,↓eP,Nat.zero_add,t2,t3,GF,GG,F0,FZ,EJ,C3,x3,x4,x5,x6,y3,y4,y5,y6,hV,hT,hU,hO]
 refine fin _ (decide (s.on=s'.on)) (by simp only[eE,seval,↓eP,rP]) ⟨fun h=>⟨e1,e2,e5,e6,of_decide_eq_true dV,of_decide_eq_true dT,of_decide_eq_true dU,of_decide_eq_true h⟩,fun hsp=>decide_eq_true hsp.2.2.2.2.2.2.2⟩
theorem VA {nm nm':ByteArray} {s s':AN} {pa pb:Value} {la lb:Nat} {h:AA} (ha:DT la h pa nm s) (hb:DT lb h pb nm' s') (hs:K5 s) (hn:IJ s+20<n) :
  ∃ b,AU n 19 [pa,pb] h=some (.bool b,h)∧(b=true↔MG nm nm' s s'):=by
 obtain⟨n,rfl⟩:=ET hn
 obtain⟨b,h1,hw,hb,ho⟩:=Kh (Fsx n).2 (N:=n) ha hb hs (by omega) (by omega)
 exact⟨b,JA (CV ⟨rfl,rfl,rfl⟩) rfl ⟨h1,hw,ho⟩,hb⟩
end
theorem jY:∀ (l:List AB) (k:Nat),(l.flatMap AP).take (k*5)=(l.take k).flatMap AP
 | l,0=>by simp
 | [],k+1=>by simp
 | r :: l,k+1=>by
  rw[List.flatMap_cons,List.take_succ_cons,List.flatMap_cons,← jY l k,show (k+1)*5=k*5+5 by omega]
  rfl
theorem Dw {L:List AB} {i:Nat} {x:AB} (hi:i<L.length):Go.Sx.lay (L.flatMap AP) (i*5) (AP x)=(L.set i x).flatMap AP:=by
 have h5:(AP x).length=5:=rfl
 rw[List.set_eq_take_append_cons_drop,if_pos hi,List.flatMap_append,List.flatMap_cons,← jY,← TK]
 simp only[Go.Sx.lay,h5]
 rw[show (i+1)*5=i*5+5 by omega,List.append_assoc]
abbrev WO:AB:=⟨0,ByteArray.empty,0,0,0⟩
abbrev R8:ByteArray:=⟨#[108,101,110,116]⟩
def mark (i:Nat):AB:=⟨-7,R8,0,0,i⟩
theorem oT:∀ n,ER CP n=(List.replicate n WO).flatMap AP
 | 0=>rfl
 | n+1=>by rw[ER,oT n,List.replicate_succ,List.flatMap_cons];rfl
theorem qK {h:AA} {n:Nat} (hn:n<5000000000000):MK Tryd.prog h 22 (.int .i64 (n:Int)) (.int .i64 (n:Int))=some (qS h.next n n,h.push (.row ((List.replicate n WO).flatMap AP) 46 false false)):=by
 have hz:(Value.agg #[.int .i64 0,.string ByteArray.empty,.int .i64 0,.int .i64 0,.int .i64 0]).cells=#[.int .i64 0,.string ByteArray.empty,.int .i64 0,.int .i64 0,.int .i64 0]:=rfl
 have hf:flat (.agg #[.int .i64 0,.string ByteArray.empty,.int .i64 0,.int .i64 0,.int .i64 0])=true:=rfl
 simp only[MK,Tryd.underlying22,FX,F8,QC,hz,hf]
 rw[if_pos (by simp;omega)]
 simp[oT]
theorem lP {h:AA} {id i off:Nat} {L:List AB} {x:AB} {ty:TypeId} {g:Bool} (ho:off=i*5) (hg:h.get id=.row (L.flatMap AP) ty g false) (hi:i<L.length) (hf:h.floor≤id):BW Tryd.prog h 46 (qP id off) (C_ x)=some (h.put id (.row ((L.set i x).flatMap AP) ty g false)):=by
 subst ho
 have hc:(C_ x).cells=(AP x).toArray:=rfl
 have h5:(AP x).length=5:=rfl
 have hone:(AP x).all one=true:=rfl
 have hl:=H9 L
 simp only[BW,hc,FX,GL,hg]
 rw[if_pos (by simp[h5]),if_pos (by simp only[h5,hone,hl];simp;omega),Dw hi]
theorem iF:G6 Tryd.prog (match Tryd.prog.underlying 46 with | some (.struct fs)=>fs.toList | _=>[])=some [(0,1),(1,1),(2,1),(3,1),(4,1)]:=by kernel_rfl
theorem nV {i:Int}:DR Tryd.prog 46 [(0,iv (-7)),(1,.string R8),(4,iv i)]=some (C_ ⟨-7,R8,0,0,i⟩):=by
 have h:=iF
 rw[Tryd.underlying46] at h
 simp only at h
 have hf:flat (.agg #[.int .i64 0,.string ByteArray.empty,.int .i64 0,.int .i64 0,.int .i64 0])=true:=rfl
 simp only[DR,F8,hf,if_true,Tryd.underlying46,h]
 rfl
theorem xM {h:AA} {id n c:Nat} {L l:List AB} {v:Value} {ty:TypeId} (hv:AL h v l) (hg:h.get id=.row (L.flatMap AP) ty false false) (hl:L.length=n) (hn:l.length≤n) (hid:id<h.next) (hf:h.floor≤id) :
  ∃ h',NT Tryd.prog h 22 (qS id n c) v=some (iv l.length,h')∧h'.get id=.row ((l++L.drop l.length).flatMap AP) ty false false∧h'.next=h.next∧h'.floor=h.floor∧∀ i,i≠id→h'.get i=h.get i:=by
 have hsrc:=hv.src
 obtain⟨a,c',rfl,h1⟩:=hv
 have hm:min l.length n=l.length:=by omega
 by_cases h0:l.length=0
 ·refine⟨h,?_,?_,rfl,rfl,fun _ _=>rfl⟩
  ·simp only[NT,Tryd.underlying22,FX,hm,hsrc]
   rw[if_pos h0]
  ·rw[List.length_eq_zero_iff.1 h0]
   exact hg
 ·have hlen:=H9 L
  have hll:=H9 l
  refine⟨_,?_,CE rfl hid,rfl,rfl,fun i hi=>AQ hid (Ne.symm hi)⟩
  simp only[NT,Tryd.underlying22,FX,hm,hsrc,GL,hg]
  rw[if_neg h0,if_pos (by simp only[XG,hlen,hll,Bool.and_true,Nat.zero_add,Bool.and_eq_true,decide_eq_true_eq];omega)]
  have:Go.Sx.lay (L.flatMap AP) 0 (l.flatMap AP)=(l++L.drop l.length).flatMap AP:=by
   rw[List.flatMap_append,← TK]
   simp only[Go.Sx.lay,List.take_zero,List.nil_append,Nat.zero_add,hll]
  rw[this]
theorem SY {id n c i:Nat} (hi:i<n):CY Tryd.prog 22 (qS id n c) (iv (i:Int))=some (.pointer (some ⟨id,i*5,none⟩)):=HB hi
theorem eW {h:AA} {id n m c:Nat} (hm:m≤c) (hc:c≠AG):G7 Tryd.prog h 22 (qS id n c) none (some (iv (m:Int))) none=some (qS id m c):=by
 simp only[G7,Tryd.underlying22,FX,F3,hc,if_false]
 rw[if_pos (by omega)]
 simp only[Int.toNat_natCast]
 by_cases h0:c=0
 ·subst h0
  simp[CI]
 ·simp[CI]
structure QY (h:AA) (o:Nat) (l:List AB) (L:List AB):Prop where
 g:h.get o=.row (L.flatMap AP) 46 false false
 len:L.length=l.length+9
 own:∀ j,j<l.length→L[j]?=l[j]?
 marks:∀ q,q<9→L[l.length+q]?=some (mark (l.length+q))
theorem R6 {l:List AB} (h:(AZ l).1.1=0):CU l∧(BF l).1=0∧(BG (AI l) l.length 0 (A_ l)).1=0∧¬ FB (BG (AI l) l.length 0 (A_ l)).2.2.rows (AI l) (BG (AI l) l.length 0 (A_ l)).2.2.rules≥0 ∧
  AZ l=((0,0),(BG (AI l) l.length 0 (A_ l)).2.2)∧FQ l l.length (AZ l).2:=by
 by_cases h1:(BF l).1≠0
 ·unfold AZ at h
  rw[if_pos h1] at h
  exact absurd h h1
 ·by_cases h2:(BG (AI l) l.length 0 (A_ l)).1≠0
  ·unfold AZ at h
   rw[if_neg h1] at h
   simp only at h
   rw[if_pos h2] at h
   exact absurd h h2
  ·by_cases h3:FB (BG (AI l) l.length 0 (A_ l)).2.2.rows (AI l) (BG (AI l) l.length 0 (A_ l)).2.2.rules≥0
   ·unfold AZ at h
    rw[if_neg h1] at h
    simp only at h
    rw[if_neg h2,if_pos h3] at h
    cases h
   ·have e1:(BF l).1=0:=by simpa using h1
    have e2:(BG (AI l) l.length 0 (A_ l)).1=0:=by simpa using h2
    have e:AZ l=((0,0),(BG (AI l) l.length 0 (A_ l)).2.2):=by
     unfold AZ
     rw[if_neg h1]
     simp only
     rw[if_neg h2,if_neg h3]
    have ht:=QS (TA e1)
    refine⟨ht,e1,e2,h3,e,?_⟩
    rw[e]
    exact eG ht RL l.length 0 (A_ l) (by omega) (PF l) e2
theorem a_ {l:List AB} (h:(AZ l).1.1≠0):BU l=(ByteArray.empty,sZ):=by unfold BU;rw[if_pos h]
theorem RH {l:List AB} (h:(AZ l).1.1=0):BU l=(J_ l,(AZ l).2):=by unfold BU;rw[if_neg (by rw[h];simp)]
theorem bG {l:List AB} (hl:l.length<2932031007403):K5 (BU l).2∧IJ (BU l).2≤l.length+200:=by
 by_cases h:(AZ l).1.1=0
 ·rw[RH h]
  obtain⟨_,_,_,_,_,hi⟩:=R6 h
  have hw:=hi.wf
  have:=hw.q;have:=hw.v;have:=hw.t;have:=hw.u;have:=hw.o;have:=hi.len
  unfold K5 IJ
  simp only
  omega
 ·rw[a_ h]
  exact⟨⟨by decide,by decide,by decide,by decide,by decide,by decide⟩,by show 0≤_;omega⟩
theorem UM (nm:ByteArray) (s:AN):MG nm nm s s:=⟨rfl,rfl,rfl,rfl,rfl,rfl,rfl,rfl⟩
theorem VJ {H:AA} {cs:List Value} {e p:Int} (hl:cs.length=8) (ho:cs.all one=true) (hf:H.floor≤H.next) :
  ∃ H':AA × AA,BW Tryd.prog ((H.push (.row BR 30 false false)).push (.row [iv 0,iv 0] 33 false false)) 30 (qP H.next 0) (.agg cs.toArray)=some (H'.1)∧BW Tryd.prog H'.1 33 (qP (H.next+1) 0) (FI e p)=some H'.2 ∧
   D2 H.next H'.2 cs e p∧H'.2.next=H.next+2∧H'.2.floor=H.floor∧∀ i,i<H.next→H'.2.get i=H.get i:=by
 have ga:=O2 (h:=H) (o:=.row BR 30 false false) (o':=.row [iv 0,iv 0] 33 false false)
 have gb:=OQ (h:=H) (o:=.row BR 30 false false) (o':=.row [iv 0,iv 0] 33 false false)
 have gold:∀ i,i<H.next→((H.push (.row BR 30 false false)).push (.row [iv 0,iv 0] 33 false false)).get i=H.get i:=fun i hi=>by rw[AM (by show i<H.next+1;omega),AM hi]
 have hnx:((H.push (.row BR 30 false false)).push (.row [iv 0,iv 0] 33 false false)).next=H.next+2:=rfl
 have hfx:((H.push (.row BR 30 false false)).push (.row [iv 0,iv 0] 33 false false)).floor=H.floor:=rfl
 generalize (H.push (.row BR 30 false false)).push (.row [iv 0,iv 0] 33 false false)=G at *
 obtain⟨H',s1,s2,r1,r2,r3,r4⟩:=MW (a:=H.next) (H:=G) ⟨ga,gb⟩ rfl (by omega) (by omega) (cs':=cs) hl ho (e':=e) (p':=p)
 exact⟨⟨_,H'⟩,s1,s2,r1,by show H'.next=_;omega,by show H'.floor=_;omega,fun i hi=>by show H'.get i=_;rw[r4 i (by omega) (by omega),gold i hi]⟩
theorem RG {lo:Nat} {h:AA} {nm:ByteArray} {s:AN} {vr vq vv vt vu vo:Value} (h1:G4 lo h vr s.rows) (h2:AV lo h vq s.queues.length 2 (GP s.queues)) (h3:AV lo h vv s.vars.length 1 (CZ s.vars)) (h4:AV lo h vt s.tags.length 1 (CZ s.tags)) (h5:BY lo h vu s.rules) (h6:BY lo h vo s.on) :
  ([.string nm,vr,vq,vv,vt,vu,vo,iv s.miss]:List Value).all one=true:=by
 simp only[List.all_cons,List.all_nil,h1.2.one,h2.one,h3.one,h4.one,AV.one h5,AV.one h6,M7,NG,Bool.and_self]
section
variable {n N:Nat}
end
def MQ (s:AN) (k n:Int) (nm:ByteArray):Prop:=
 0≤n∧((k=1∧∃ b,s.queues[n.toNat]?=some (nm,b))∨(k=2∧s.vars[n.toNat]?=some nm)∨(k=3∧s.tags[n.toNat]?=some nm)∨(k=4∧∃ ru:Nat,s.rules[n.toNat]?=some ((ru:Int)+1)∧∃ y:AB,s.rows[ru]?=some y∧y.name=nm))
structure ON (s s':AN):Prop where
 q:∀ (i:Nat) x,s.queues[i]?=some x→s'.queues[i]?=some x
 v:∀ (i:Nat) x,s.vars[i]?=some x→s'.vars[i]?=some x
 t:∀ (i:Nat) x,s.tags[i]?=some x→s'.tags[i]?=some x
 u:∀ (i:Nat) x,s.rules[i]?=some x→s'.rules[i]?=some x
 r:∀ (i:Nat) (y:AB),s.rows[i]?=some y→∃ y':AB,s'.rows[i]?=some y'∧y'.name=y.name
theorem MQ.up {s s':AN} {k n:Int} {nm:ByteArray} (h:MQ s k n nm) (hu:ON s s'):MQ s' k n nm:=by
 refine⟨h.1,?_⟩
 rcases h.2 with⟨h1,b,h2⟩ | ⟨h1,h2⟩ | ⟨h1,h2⟩ | ⟨h1,ru,h2,y,h3,h4⟩
 ·exact .inl ⟨h1,b,hu.q _ _ h2⟩
 ·exact .inr (.inl ⟨h1,hu.v _ _ h2⟩)
 ·exact .inr (.inr (.inl ⟨h1,hu.t _ _ h2⟩))
 ·obtain⟨y',h5,h6⟩:=hu.r _ _ h3
  exact .inr (.inr (.inr ⟨h1,ru,hu.u _ _ h2,y',h5,h6.trans h4⟩))
def KK (k:Int):Int:=C8 k+BJ k
structure J4 (l:List AB) (at_:Nat) (s:AN):Prop where
 rows:∀ (i:Nat) (x:AB),i<at_→s.rows[i]?=some x→(KK x.kind=0→l[i]?=some x)∧(KK x.kind≠0→MQ s (KK x.kind) x.n x.name)
 things:∀ t∈s.things,MQ s t.kind t.num t.name
theorem J4.up {l:List AB} {at_:Nat} {s s':AN} (h:J4 l at_ s) (hu:ON s s') (hr:∀ i,i<at_→s'.rows[i]?=s.rows[i]?) (ht:∀ t∈s'.things,t∈s.things∨MQ s' t.kind t.num t.name):J4 l at_ s' where
 rows:=fun i x hi hx=>by
  rw[hr i hi] at hx
  obtain⟨h1,h2⟩:=h.rows i x hi hx
  exact⟨h1,fun h3=>(h2 h3).up hu⟩
 things:=fun t h1=>by
  rcases ht t h1 with h2 | h2
  ·exact(h.things t h2).up hu
  ·exact h2
theorem Eu:BP Tryd.prog 5=some 1:=by kernel_rfl
theorem tZ:DI Tryd.prog 5=some (.int .u8 0):=by kernel_rfl
theorem Ag {h:AA} {a b c d:Int}:EA Tryd.prog h 101 4 [(0,.int .u8 a),(1,.int .u8 b),(2,.int .u8 c),(3,.int .u8 d)]=some (qS h.next 4 4,h.push (.row [.int .u8 a,.int .u8 b,.int .u8 c,.int .u8 d] 5 false false)):=by
 have hc:∀ x:Int,(Value.int .u8 x).cells=#[.int .u8 x]:=fun _=>rfl
 simp[EA,Tryd.underlying101,Eu,tZ,flat,BO,hc,GU,ER,Go.Sx.lay]
theorem Fk {h:AA} {n:Int}:MH Tryd.prog h 3 5 (iv n)=some (.int .u8 (IntKind.u8.wrap n)):=by
 simp only[MH,Tryd.underlying3,Tryd.underlying5]
def GK (c:Int) (n:Nat):ByteArray:=⟨#[UInt8.ofNat c.toNat,UInt8.ofNat (48+n/100),UInt8.ofNat (48+n/10%10),UInt8.ofNat (48+n%10)]⟩
theorem cI {n:Int} (h:0≤n) (h2:n<256):IntKind.u8.wrap n=n:=by
 simp[IntKind.wrap,IntKind.bits,IntKind.signed]
 omega
theorem Gf {h:AA} {a:Int} {b c d:Nat}:MH Tryd.prog (h.push (.row [.int .u8 a,.int .u8 b,.int .u8 c,.int .u8 d] 5 false false)) 101 9 (qS h.next 4 4)=some (.string ⟨#[UInt8.ofNat a.toNat,UInt8.ofNat b,UInt8.ofNat c,UInt8.ofNat d]⟩):=by
 have hs:CL (h.push (.row [.int .u8 a,.int .u8 b,.int .u8 c,.int .u8 d] 5 false false)) 1 4 (qS h.next 4 4)=some [.int .u8 a,.int .u8 b,.int .u8 c,.int .u8 d]:=by
  simp[CL,BL,D1]
 simp only[MH,Tryd.underlying101,Tryd.underlying9,Tryd.underlying5,hs,P9]
 rfl
section
variable {call:AK} {N n:Nat} {h:AA}
theorem Hu {c:Int} {k:Nat} (hk:k<1000):∃ h',AW Tryd.prog call N 29 [.int .u8 c,iv k] h=some (.string (GK c k),h')∧∀ i,i<h.next→h'.get i=h.get i:=by
 refine E0 (R:=fun h'=>∀ i,i<h.next→h'.get i=h.get i) Tryd.func29 rfl (by simp[Tryd.f29]) ?_
 have hr:Tryd.f29.results.toList=[.tmp 4]:=rfl
 have b1:=gI (P:=Tryd.prog) (t:=3) (x:=.tmp 6) (y:=.const (.int .i64 100)) (k:=.i64) (a:=(k:Int)) (show (100:Int)≠0 by decide)
 have b2:=gI (P:=Tryd.prog) (t:=3) (x:=.tmp 10) (y:=.const (.int .i64 10)) (k:=.i64) (a:=(k:Int)) (show (10:Int)≠0 by decide)
 have b3:=cD (P:=Tryd.prog) (t:=3) (x:=.tmp 11) (y:=.const (.int .i64 10)) (k:=.i64) (a:=((k/10:Nat):Int)) (show (10:Int)≠0 by decide)
 have b4:=cD (P:=Tryd.prog) (t:=3) (x:=.tmp 15) (y:=.const (.int .i64 10)) (k:=.i64) (a:=(k:Int)) (show (10:Int)≠0 by decide)
 have t1:(k:Int).tdiv 100=((k/100:Nat):Int):=by rw[Int.tdiv_eq_ediv_of_nonneg (by omega)];omega
 have t2:(k:Int).tdiv 10=((k/10:Nat):Int):=by rw[Int.tdiv_eq_ediv_of_nonneg (by omega)];omega
 have t3:((k/10:Nat):Int).tmod 10=((k/10%10:Nat):Int):=by rw[Int.tmod_eq_emod_of_nonneg (by omega)];omega
 have t4:(k:Int).tmod 10=((k%10:Nat):Int):=by rw[Int.tmod_eq_emod_of_nonneg (by omega)];omega
 rw[t1,CG (by omega) (by omega)] at b1
 rw[t2,CG (by omega) (by omega)] at b2
 rw[t3] at b3
 rw[t4] at b4
 have w1:IntKind.i64.wrap (48+((k/100:Nat):Int))=((48+k/100:Nat):Int):=by rw[CG (by omega) (by omega)];omega
 have w2:IntKind.i64.wrap (48+((k/10%10:Nat):Int))=((48+k/10%10:Nat):Int):=by rw[CG (by omega) (by omega)];omega
 have w3:IntKind.i64.wrap (48+((k%10:Nat):Int))=((48+k%10:Nat):Int):=by rw[CG (by omega) (by omega)];omega
 have u1:IntKind.u8.wrap ((48+k/100:Nat):Int)=((48+k/100:Nat):Int):=cI (by omega) (by omega)
 have u2:IntKind.u8.wrap ((48+k/10%10:Nat):Int)=((48+k/10%10:Nat):Int):=cI (by omega) (by omega)
 have u3:IntKind.u8.wrap ((48+k%10:Nat):Int)=((48+k%10:Nat):Int):=cI (by omega) (by omega)
 have hcv:=Gf (h:=h) (a:=c) (b:=48+k/100) (c:=48+k/10%10) (d:=48+k%10)
 simp only[eE,seval,↓eP,b1,b2,b3,b4,w1,w2,w3,Fk,u1,u2,u3,Ag,hcv,hr]
 exact⟨rfl,fun i hi=>AM hi⟩
theorem RN {c:Int} {k:Nat} (hk:k<1000) (hn:0<n):AU n 29 [.int .u8 c,iv k] h=some (.string (GK c k),h):=by
 obtain⟨n,rfl⟩:=ET hn
 exact JA (CV ⟨rfl,rfl,rfl⟩) rfl (Hu hk)
end
def XE:ByteArray:={ data:=#[115,112,111,105,108,116] }
theorem J3 {P:Program} {call:AK} {n:Nat} {c:Code} {s:St} {k:BS} {Q:DB→St→Prop} (h1:WK P call n c s (.top Q)) (h2:∀ e s',Q e s'→k.ap P call n e s'):WK P call n c s k:=WS.mono h1 fun e s' g=>h2 e s' g
def FJ (j i q:Nat) (cs:List Value):Prop:=
 if j=1 then cs[q*5]?=some (iv (i:Int))∧cs[q*5+3]?=some (iv (q:Int)) else if j=2 then cs[q*2]?=some (.string (GK 113 i)) else if j=3 then cs[q]?=some (.string (GK 118 i)) else if j=4 then cs[q]?=some (.string (GK 116 i))
 else if j=5 then cs[q]?=some (iv ((1000*i+q:Nat):Int)) else cs[q]?=some (iv (0-1000*(i:Int)-(q:Int)))
theorem K4 {cs new:List Value} {w k p q:Nat} (hf:k*w+new.length≤cs.length) (hn:new.length=w) (hp:p<w):(Go.Sx.lay cs (k*w) new)[q*w+p]?=if q=k then new[p]? else cs[q*w+p]?:=by
 rw[MM hf]
 by_cases e:q=k
 ·subst e
  rw[if_pos rfl,if_pos ⟨by omega,by omega⟩]
  congr 1
  omega
 ·rw[if_neg e,if_neg]
  intro ⟨h1,h2⟩
  rcases Nat.lt_or_gt_of_ne e with h3 | h3
  ·have:(q+1)*w≤k*w:=Nat.mul_le_mul_right _ h3
   rw[Nat.add_mul] at this
   omega
  ·have:(k+1)*w≤q*w:=Nat.mul_le_mul_right _ h3
   rw[Nat.add_mul] at this
   omega
theorem Q6 {j i k q:Nat} {cs new:List Value} (hj:1≤j∧j≤6) (hf:k*wN j+new.length≤cs.length) (hn:new.length=wN j) (hnew:FJ j i k (Go.Sx.lay cs (k*wN j) new)) (ho:q<k→FJ j i q cs) (hq:q<k+1):FJ j i q (Go.Sx.lay cs (k*wN j) new):=by
 by_cases e:q=k
 ·subst e;exact hnew
 have ho:=ho (by omega)
 have hjj:j=1∨j=2∨j=3∨j=4∨j=5∨j=6:=by omega
 rcases hjj with rfl | rfl | rfl | rfl | rfl | rfl
 ·have h0:=K4 (q:=q) (p:=0) (w:=5) hf hn (by decide)
  have h3:=K4 (q:=q) (p:=3) (w:=5) hf hn (by decide)
  rw[if_neg e] at h0 h3
  exact⟨h0.trans ho.1,h3.trans ho.2⟩
 ·have h0:=K4 (q:=q) (p:=0) (w:=2) hf hn (by decide)
  rw[if_neg e] at h0
  exact h0.trans ho
 all_goals
  have h0:=K4 (q:=q) (p:=0) (w:=1) hf hn (by decide)
  rw[if_neg e,show q*1+0=q by omega] at h0
  exact h0.trans ho
theorem yG {cs ex new:List Value} {off:Nat} (h:off+new.length≤cs.length):Go.Sx.lay (cs++ex) off new=Go.Sx.lay cs off new++ex:=by
 unfold Go.Sx.lay
 rw[List.take_append_of_le_length (by omega),List.drop_append_of_le_length (by omega)]
 simp
section
variable {h:AA} {lo up:Nat} {tag:Nat→Nat} {v:Nat→Value} {n:Nat→Nat} {c:Nat→List Value}
theorem CM.one (hS:CM h lo up tag v n c) {j:Nat} (h1:1≤j) (h2:j≤6):Go.Sx.one (v j)=true:=by
 obtain⟨_,_,⟨_,e⟩ | ⟨id,ex,e,_⟩⟩:=hS j h1 h2 <;> rw[e] <;> rfl
theorem CM.len (hS:CM h lo up tag v n c) {j:Nat} (h1:1≤j) (h2:j≤6) {t e:TypeId} (ht:Tryd.prog.underlying t=some (.slice e)) (h':AA):B_ Tryd.prog h' t (v j)=some (iv (n j:Int)):=by
 obtain⟨_,_,⟨e0,e⟩ | ⟨id,ex,e,_⟩⟩:=hS j h1 h2
 ·rw[e,e0];simp[B_,ht]
 ·rw[e];simp[B_,ht]
theorem CM.st (hS:CM h lo up tag v n c) (hup:up≤h.next) (hf:h.floor≤lo) {j k:Nat} (h1:1≤j) (h2:j≤6) (hk:k<n j) {val:Value} (hv:val.cells.size=wN j) (ho:val.cells.toList.all Go.Sx.one=true) (hsz:BP Tryd.prog (K8 j)=some (wN j)) :
  ∃ id H2,v j=qS id (n j) AG∧BW Tryd.prog h (K8 j) (.pointer (some ⟨id,k*wN j,none⟩)) val=some H2∧CM H2 lo up tag v n (fun q=>if q=j then Go.Sx.lay (c j) (k*wN j) val.cells.toList else c q)∧H2.next=h.next∧H2.floor=h.floor∧(∀ i,(i<lo∨up≤i)→H2.get i=h.get i)∧k*wN j+val.cells.toList.length≤(c j).length:=by
 obtain⟨a,b,⟨e0,e⟩ | ⟨id,ex,e1,e2,e3,e4,e5⟩⟩:=id (hS j h1 h2)
 ·omega
 have hlen:val.cells.toList.length=wN j:=by simpa using hv
 have hfit:k*wN j+val.cells.toList.length≤(c j).length:=by
  have:(k+1)*wN j≤n j*wN j:=Nat.mul_le_mul_right _ hk
  rw[Nat.add_mul] at this
  omega
 refine⟨id,_,e1,?_,hS.put (ex:=ex) (cs:=Go.Sx.lay (c j) (k*wN j) val.cells.toList) hup h1 h2 e1 (RS hfit) e5 ⟨e3,e4⟩,rfl,rfl,fun i hi=>AQ (by omega) (by omega),hfit⟩
 have hsv:(some (wN j):Option Nat)=some val.cells.size:=by rw[hv]
 simp only[BW,hsz,GL,e2]
 rw[if_pos hsv,if_pos (by simp only[Bool.and_eq_true,decide_eq_true_eq,List.length_append];exact⟨⟨by omega,by omega⟩,ho⟩),yG hfit]
end
theorem Iw {a b:Int} {s:ByteArray}:DR Tryd.prog 46 [(0,iv a),(3,iv b),(1,.string s)]=some (.agg #[iv a,.string s,iv 0,iv b,iv 0]):=by
 have h:=bY
 rw[Tryd.underlying46] at h
 simp only at h
 simp only[DR,F8,o8,if_true,Tryd.underlying46,h]
 rfl
theorem cY {id n c i:Nat} (hi:i<n):CY Tryd.prog 26 (qS id n c) (iv (i:Int))=some (.pointer (some ⟨id,i*2,none⟩)):=by
 simp only[CY,Tryd.underlying26,L4,CI]
 rw[if_pos (by omega)]
 simp
theorem VQ {id n c i:Nat} (hi:i<n):CY Tryd.prog 27 (qS id n c) (iv (i:Int))=some (qP id i):=by
 simp only[CY,Tryd.underlying27,HC,CI]
 rw[if_pos (by omega)]
 simp
def XP:List (Bool × Bool × List Operand):=[(true,false,[]),(true,false,[]),IA [.tmp 31],AS [.tmp 31],AS [.tmp 31],IA [.tmp 31],IA [.tmp 31],IA [.tmp 31],AS [.tmp 31],AT,AT]
def aK:List (Bool × Bool × List Operand):=[(true,false,[]),(true,false,[]),IA [.tmp 48],AS [.tmp 48],AS [.tmp 48],AT,AT]
def ZP:List (Bool × Bool × List Operand):=[(true,false,[]),(true,false,[]),IA [.tmp 61],AS [.tmp 61],AS [.tmp 61],AT,AT]
section
variable {m N:Nat} {h:AA}
theorem yW {lo up i:Nat} {tag:Nat→Nat} {v:Nat→Value} {n:Nat→Nat} {c:Nat→List Value} {nm:ByteArray} {ms:Int} (hS:CM h lo up tag v n c) (hf:h.floor≤lo) (hup:up≤h.next) (hi:i<100) (hm:0<m) (hN:1000010<N) :
  ∃ h',AW Tryd.prog (AU m) N 37 [NB nm v ms,iv (i:Int)] h=some (.tuple #[],h')∧((∃ c',CM h' lo up tag v n c'∧∀ j,1≤j→j≤6→∀ q,q<n j→FJ j i q (c' j))∧h.next≤h'.next∧h'.floor=h.floor∧∀ k,k<h.next→(k<lo∨up≤k)→h'.get k=h.get k):=by
 have hsn:=(Fsx m).2
 refine E0 (R:=fun h'=>(∃ c',CM h' lo up tag v n c'∧∀ j,1≤j→j≤6→∀ q,q<n j→FJ j i q (c' j))∧h.next≤h'.next∧h'.floor=h.floor∧∀ k,k<h.next→(k<lo∨up≤k)→h'.get k=h.get k) Tryd.func37 rfl (by simp[Tryd.f37]) ?_
 have hr:Tryd.f37.results.toList=[]:=rfl
 have ca:=I9 [.string nm,v 1,v 2,v 3,v 4,v 5,v 6,iv ms]
 have oa:[Value.string nm,v 1,v 2,v 3,v 4,v 5,v 6,iv ms].all Go.Sx.one=true:=by
  simp only[List.all_cons,List.all_nil,hS.one (j:=1) (by omega) (by omega),hS.one (j:=2) (by omega) (by omega),hS.one (j:=3) (by omega) (by omega),hS.one (j:=4) (by omega) (by omega),hS.one (j:=5) (by omega) (by omega),hS.one (j:=6) (by omega) (by omega),Bool.and_self]
  rfl
 have gb:=BL (h:=h) (o:=.row [.string nm,v 1,v 2,v 3,v 4,v 5,v 6,iv ms] 30 false false)
 have gO:∀ k,k<h.next→(h.push (.row [.string nm,v 1,v 2,v 3,v 4,v 5,v 6,iv ms] 30 false false)).get k=h.get k:=fun k hk=>AM hk
 have gN:(h.push (.row [.string nm,v 1,v 2,v 3,v 4,v 5,v 6,iv ms] 30 false false)).next=h.next+1:=rfl
 have gF:(h.push (.row [.string nm,v 1,v 2,v 3,v 4,v 5,v 6,iv ms] 30 false false)).floor=h.floor:=rfl
 have hS0:CM (h.push (.row [.string nm,v 1,v 2,v 3,v 4,v 5,v 6,iv ms] 30 false false)) lo up tag v n c:=hS.mono fun k _ hk=>gO k (by omega)
 have len1:=hS.len (j:=1) (by omega) (by omega) Tryd.underlying22
 have len2:=hS.len (j:=2) (by omega) (by omega) Tryd.underlying26
 have len3:=hS.len (j:=3) (by omega) (by omega) Tryd.underlying27
 have len4:=hS.len (j:=4) (by omega) (by omega) Tryd.underlying27
 have len5:=hS.len (j:=5) (by omega) (by omega) Tryd.underlying28
 have len6:=hS.len (j:=6) (by omega) (by omega) Tryd.underlying28
 have bn:∀ j,1≤j→j≤6→n j<1000000:=fun j h1 h2=>(hS j h1 h2).2.1
 have nb1:=bn 1 (by omega) (by omega)
 have nb2:=bn 2 (by omega) (by omega)
 have nb3:=bn 3 (by omega) (by omega)
 have nb4:=bn 4 (by omega) (by omega)
 have nb5:=bn 5 (by omega) (by omega)
 have nb6:=bn 6 (by omega) (by omega)
 have wI:IntKind.i64.wrap (1000*(i:Int))=1000*(i:Int):=CG (by omega) (by omega)
 have wM:IntKind.i64.wrap (0-1000*(i:Int))=0-1000*(i:Int):=CG (by omega) (by omega)
 have num1:∀ (X:AA),AU m 29 [.int .u8 113,iv (i:Int)] X=some (.string (GK 113 i),X):=fun X=>RN (h:=X) (c:=113) (k:=i) (by omega) hm
 have num2:∀ (X:AA),AU m 29 [.int .u8 118,iv (i:Int)] X=some (.string (GK 118 i),X):=fun X=>RN (h:=X) (c:=118) (k:=i) (by omega) hm
 have num3:∀ (X:AA),AU m 29 [.int .u8 116,iv (i:Int)] X=some (.string (GK 116 i),X):=fun X=>RN (h:=X) (c:=116) (k:=i) (by omega) hm
 simp only[eE,seval,↓eP,DH,DC,DN,ca,oa,HR]
 generalize h.push (.row [.string nm,v 1,v 2,v 3,v 4,v 5,v 6,iv ms] 30 false false)=X0 at *
 -- list 1
 skip
 refine J3 (Q:=fun e s'=>e=.exit 0∧s'.T.get 1=iv (i:Int)∧s'.T.get 2=qP h.next 0∧s'.h.next=h.next+1∧s'.h.floor=h.floor∧s'.h.get h.next=.row [.string nm,v 1,v 2,v 3,v 4,v 5,v 6,iv ms] 30 false false∧(∀ k,k<h.next→(k<lo∨up≤k)→s'.h.get k=h.get k)∧∃ c',CM s'.h lo up tag v n c'∧∀ j,1≤j→j≤1→∀ q,q<n j→FJ j i q (c' j)) ?_ ?_
 ·refine WK.loop (fun k s'=>s'.T.get 1=iv (i:Int)∧s'.T.get 2=qP h.next 0∧s'.T.get 4=iv (k:Int)∧k≤n 1∧s'.h.next=h.next+1∧s'.h.floor=h.floor∧s'.h.get h.next=.row [.string nm,v 1,v 2,v 3,v 4,v 5,v 6,iv ms] 30 false false∧(∀ k,k<h.next→(k<lo∨up≤k)→s'.h.get k=h.get k)∧∃ c',CM s'.h lo up tag v n c'∧(∀ j,1≤j→j<1→∀ q,q<n j→FJ j i q (c' j))∧∀ q,q<k→FJ 1 i q (c' 1)) (n 1) (by omega) ?_ ?_
  ·exact⟨by simp only[eE,seval,↓eP,rP],by simp only[eE,seval,↓eP,rP],by simp only[eE,seval,↓eP,rP] <;> rfl,by omega,gN,gF,gb,fun k hk _=>gO k hk,c,hS0,fun j h1 h2=>absurd h2 (by omega),fun q hq=>absurd hq (by omega)⟩
  rintro k ⟨T,X⟩ hk9 ⟨t1,t2,tc,hk,nX,fX,bX,oX,cX,sX,dX,eX⟩
  simp only at t1 t2 tc nX fX bX oX sX
  have lb:AO 1 (X.get h.next)=some (v 1):=by rw[bX];rfl
  have w1:=CK k (by omega)
  by_cases hlt:k<n 1
  rotate_left
  ·have c1:decide ((k:Int)<(n 1:Int))=false:=by simp;omega
   simp only[eE,seval,↓eP,t1,t2,tc,Nat.zero_add,DA,C0,lb,len1,c1]
   exact⟨nX,fX,bX,oX,cX,sX,fun j h1 h2 q hq=>by
    by_cases e:j=1
    ·subst e;exact eX q (by omega)
    ·exact dX j h1 (by omega) q hq⟩
  have c1:decide ((k:Int)<(n 1:Int))=true:=by simp;omega
  obtain⟨id,X2,e1,st,s2,n2,f2,o2,hfit⟩:=sX.st (by omega) (by omega) (j:=1) (k:=k) (by omega) (by omega) hlt (val:=.agg #[iv (i:Int),.string XE,iv 0,iv (k:Int),iv 0]) rfl rfl FX
  have ix:=HB (id:=id) (n:=n 1) (c:=AG) hlt
  rw[← e1] at ix
  have st:BW Tryd.prog X 46 (.pointer (some ⟨id,k*5,none⟩)) (.agg #[iv (i:Int),.string XE,iv 0,iv (k:Int),iv 0])=some X2:=st
  simp only[XE] at st
  simp only[eE,seval,↓eP,t1,t2,tc,Nat.zero_add,DA,C0,lb,len1,c1,Iw,XE,ix,st,w1]
  refine⟨hlt,by omega,by omega,by omega,by rw[o2 _ (.inr (by omega))];exact bX,fun z hz hz2=>by rw[o2 z hz2];exact oX z hz hz2,_,s2,fun j h1 h2 q hq=>?_,fun q hq=>?_⟩
  ·simp only[if_neg (show ¬ j=1 by omega)]
   exact dX j h1 h2 q hq
  ·simp only[if_true]
   exact Q6 (j:=1) ⟨by omega,by omega⟩ hfit rfl (⟨(K4 (p:=0) (w:=5) hfit rfl (by decide)).trans (by rw[if_pos rfl];rfl),(K4 (p:=3) (w:=5) hfit rfl (by decide)).trans (by rw[if_pos rfl];rfl)⟩) (eX q) hq
 rintro e ⟨T,X⟩ ⟨rfl,t1,t2,nX,fX,bX,oX,cX,sX,dX⟩
 simp only at t1 t2 nX fX bX oX sX
 -- list 2
 simp only[eE,seval,↓eP,t1,t2]
 refine J3 (Q:=fun e s'=>e=.exit 2∧s'.T.get 1=iv (i:Int)∧s'.T.get 2=qP h.next 0∧s'.h.next=h.next+1∧s'.h.floor=h.floor∧s'.h.get h.next=.row [.string nm,v 1,v 2,v 3,v 4,v 5,v 6,iv ms] 30 false false∧(∀ k,k<h.next→(k<lo∨up≤k)→s'.h.get k=h.get k)∧∃ c',CM s'.h lo up tag v n c'∧∀ j,1≤j→j≤2→∀ q,q<n j→FJ j i q (c' j)) ?_ ?_
 ·refine WK.loop (fun k s'=>s'.T.get 1=iv (i:Int)∧s'.T.get 2=qP h.next 0∧s'.T.get 5=iv (k:Int)∧k≤n 2∧s'.h.next=h.next+1∧s'.h.floor=h.floor∧s'.h.get h.next=.row [.string nm,v 1,v 2,v 3,v 4,v 5,v 6,iv ms] 30 false false∧(∀ k,k<h.next→(k<lo∨up≤k)→s'.h.get k=h.get k)∧∃ c',CM s'.h lo up tag v n c'∧(∀ j,1≤j→j<2→∀ q,q<n j→FJ j i q (c' j))∧∀ q,q<k→FJ 2 i q (c' 2)) (n 2) (by omega) ?_ ?_
  ·exact⟨by simp only[eE,seval,↓eP,rP,t1],by simp only[eE,seval,↓eP,rP,t2],by simp only[eE,seval,↓eP,rP] <;> rfl,by omega,nX,fX,bX,oX,cX,sX,fun j h1 h2=>dX j h1 (by omega),fun q hq=>absurd hq (by omega)⟩
  rintro k ⟨T,X⟩ hk9 ⟨t1,t2,tc,hk,nX,fX,bX,oX,cX,sX,dX,eX⟩
  simp only at t1 t2 tc nX fX bX oX sX
  have lb:AO 2 (X.get h.next)=some (v 2):=by rw[bX];rfl
  have w1:=CK k (by omega)
  by_cases hlt:k<n 2
  rotate_left
  ·have c1:decide ((k:Int)<(n 2:Int))=false:=by simp;omega
   simp only[eE,seval,↓eP,t1,t2,tc,Nat.zero_add,FL,FP,lb,len2,c1]
   exact⟨nX,fX,bX,oX,cX,sX,fun j h1 h2 q hq=>by
    by_cases e:j=2
    ·subst e;exact eX q (by omega)
    ·exact dX j h1 (by omega) q hq⟩
  have c1:decide ((k:Int)<(n 2:Int))=true:=by simp;omega
  obtain⟨id,X2,e1,st,s2,n2,f2,o2,hfit⟩:=sX.st (by omega) (by omega) (j:=2) (k:=k) (by omega) (by omega) hlt (val:=.agg #[.string (GK 113 i),.bool (Int.tmod (k:Int) 2==0)]) rfl rfl L4
  have ix:=cY (id:=id) (n:=n 2) (c:=AG) hlt
  rw[← e1] at ix
  have st:BW Tryd.prog X 57 (.pointer (some ⟨id,k*2,none⟩)) (.agg #[.string (GK 113 i),.bool (Int.tmod (k:Int) 2==0)])=some X2:=st
  have hrem:∀ a b,B0 Tryd.prog .rem 3 a b (iv (k:Int)) (iv 2)=some (iv (Int.tmod (k:Int) 2)):=fun a b=>cD (by decide)
  have hq:(h.next<X.next)=True:=by simp;omega
  have hq2:(id<X.next)=True:=by
   obtain⟨_,_,⟨_,z9⟩ | ⟨id',_,z1,_,_,z4,_⟩⟩:=sX 2 (by omega) (by omega)
   ·omega
   ·rw[e1] at z1
    cases z1
    simp
    omega
  have e2f:X2.fl X.floor=X2:=by
   rw[← f2]
   rfl
  simp only[eE,seval,↓eP,t1,t2,tc,Nat.zero_add,FL,FP,lb,len2,c1]
  refine WK.flags (fs:=XP) (by kernel_rfl) ?_
  unfold XP
  iterate 11
   refine FO hsn ?_
   simp only[rG,seval,AC,AE,AD,DS,FA,DL,EI,FR,NL,t1,t2,tc,FL,FP,lb,hq,hq2,decide_true,num1,hrem,bN,ix,st,e2f,NH,KN,JN,LF,K0,List.map_cons,List.map_nil]
  refine FT ?_
  simp only[eE,seval,↓eP,e2f,t1,t2,tc,w1]
  refine⟨hlt,by omega,by omega,by omega,by rw[o2 _ (.inr (by omega))];exact bX,fun z hz hz2=>by rw[o2 z hz2];exact oX z hz hz2,_,s2,fun j h1 h2 q hq=>?_,fun q hq=>?_⟩
  ·simp only[if_neg (show ¬ j=2 by omega)]
   exact dX j h1 h2 q hq
  ·simp only[if_true]
   exact Q6 (j:=2) ⟨by omega,by omega⟩ hfit rfl ((K4 (p:=0) (w:=2) hfit rfl (by decide)).trans (by rw[if_pos rfl];rfl)) (eX q) hq
 rintro e ⟨T,X⟩ ⟨rfl,t1,t2,nX,fX,bX,oX,cX,sX,dX⟩
 simp only at t1 t2 nX fX bX oX sX
 -- list 3
 simp only[eE,seval,↓eP,t1,t2]
 refine J3 (Q:=fun e s'=>e=.exit 4∧s'.T.get 1=iv (i:Int)∧s'.T.get 2=qP h.next 0∧s'.h.next=h.next+1∧s'.h.floor=h.floor∧s'.h.get h.next=.row [.string nm,v 1,v 2,v 3,v 4,v 5,v 6,iv ms] 30 false false∧(∀ k,k<h.next→(k<lo∨up≤k)→s'.h.get k=h.get k)∧∃ c',CM s'.h lo up tag v n c'∧∀ j,1≤j→j≤3→∀ q,q<n j→FJ j i q (c' j)) ?_ ?_
 ·refine WK.loop (fun k s'=>s'.T.get 1=iv (i:Int)∧s'.T.get 2=qP h.next 0∧s'.T.get 6=iv (k:Int)∧k≤n 3∧s'.h.next=h.next+1∧s'.h.floor=h.floor∧s'.h.get h.next=.row [.string nm,v 1,v 2,v 3,v 4,v 5,v 6,iv ms] 30 false false∧(∀ k,k<h.next→(k<lo∨up≤k)→s'.h.get k=h.get k)∧∃ c',CM s'.h lo up tag v n c'∧(∀ j,1≤j→j<3→∀ q,q<n j→FJ j i q (c' j))∧∀ q,q<k→FJ 3 i q (c' 3)) (n 3) (by omega) ?_ ?_
  ·exact⟨by simp only[eE,seval,↓eP,rP,t1],by simp only[eE,seval,↓eP,rP,t2],by simp only[eE,seval,↓eP,rP] <;> rfl,by omega,nX,fX,bX,oX,cX,sX,fun j h1 h2=>dX j h1 (by omega),fun q hq=>absurd hq (by omega)⟩
  rintro k ⟨T,X⟩ hk9 ⟨t1,t2,tc,hk,nX,fX,bX,oX,cX,sX,dX,eX⟩
  simp only at t1 t2 tc nX fX bX oX sX
  have lb:AO 3 (X.get h.next)=some (v 3):=by rw[bX];rfl
  have w1:=CK k (by omega)
  by_cases hlt:k<n 3
  rotate_left
  ·have c1:decide ((k:Int)<(n 3:Int))=false:=by simp;omega
   simp only[eE,seval,↓eP,t1,t2,tc,Nat.zero_add,GF,EJ,lb,len3,c1]
   exact⟨nX,fX,bX,oX,cX,sX,fun j h1 h2 q hq=>by
    by_cases e:j=3
    ·subst e;exact eX q (by omega)
    ·exact dX j h1 (by omega) q hq⟩
  have c1:decide ((k:Int)<(n 3:Int))=true:=by simp;omega
  obtain⟨id,X2,e1,st,s2,n2,f2,o2,hfit⟩:=sX.st (by omega) (by omega) (j:=3) (k:=k) (by omega) (by omega) hlt (val:=.string (GK 118 i)) rfl rfl HC
  have ix:=VQ (id:=id) (n:=n 3) (c:=AG) hlt
  rw[← e1] at ix
  have st:BW Tryd.prog X 9 (qP id k) (.string (GK 118 i))=some X2:=by rw[show k*wN 3=k from Nat.mul_one k] at st;exact st
  have hq:(h.next<X.next)=True:=by simp;omega
  have hq2:(id<X.next)=True:=by
   obtain⟨_,_,⟨_,z9⟩ | ⟨id',_,z1,_,_,z4,_⟩⟩:=sX 3 (by omega) (by omega)
   ·omega
   ·rw[e1] at z1
    cases z1
    simp
    omega
  have e2f:X2.fl X.floor=X2:=by
   rw[← f2]
   rfl
  simp only[eE,seval,↓eP,t1,t2,tc,Nat.zero_add,GF,EJ,lb,len3,c1]
  refine WK.flags (fs:=aK) (by kernel_rfl) ?_
  unfold aK
  iterate 7
   refine FO hsn ?_
   simp only[rG,seval,AC,AE,AD,DS,FA,DL,EI,FR,NL,t1,t2,tc,GF,EJ,lb,hq,hq2,decide_true,num2,ix,st,e2f,NH,KN,JN,LF,K0]
  refine FT ?_
  simp only[eE,seval,↓eP,e2f,t1,t2,tc,w1]
  refine⟨hlt,by omega,by omega,by omega,by rw[o2 _ (.inr (by omega))];exact bX,fun z hz hz2=>by rw[o2 z hz2];exact oX z hz hz2,_,s2,fun j h1 h2 q hq=>?_,fun q hq=>?_⟩
  ·simp only[if_neg (show ¬ j=3 by omega)]
   exact dX j h1 h2 q hq
  ·simp only[if_true]
   exact Q6 (j:=3) ⟨by omega,by omega⟩ hfit rfl (by
   have h0:=K4 (q:=k) (p:=0) (w:=1) hfit rfl (by decide)
   rw[if_pos rfl,Nat.add_zero] at h0
   show (Go.Sx.lay _ (k*1) _)[k]?=_
   rw[Nat.mul_one] at h0 ⊢
   exact h0.trans rfl) (eX q) hq
 rintro e ⟨T,X⟩ ⟨rfl,t1,t2,nX,fX,bX,oX,cX,sX,dX⟩
 simp only at t1 t2 nX fX bX oX sX
 -- list 4
 simp only[eE,seval,↓eP,t1,t2]
 refine J3 (Q:=fun e s'=>e=.exit 6∧s'.T.get 1=iv (i:Int)∧s'.T.get 2=qP h.next 0∧s'.h.next=h.next+1∧s'.h.floor=h.floor∧s'.h.get h.next=.row [.string nm,v 1,v 2,v 3,v 4,v 5,v 6,iv ms] 30 false false∧(∀ k,k<h.next→(k<lo∨up≤k)→s'.h.get k=h.get k)∧∃ c',CM s'.h lo up tag v n c'∧∀ j,1≤j→j≤4→∀ q,q<n j→FJ j i q (c' j)) ?_ ?_
 ·refine WK.loop (fun k s'=>s'.T.get 1=iv (i:Int)∧s'.T.get 2=qP h.next 0∧s'.T.get 7=iv (k:Int)∧k≤n 4∧s'.h.next=h.next+1∧s'.h.floor=h.floor∧s'.h.get h.next=.row [.string nm,v 1,v 2,v 3,v 4,v 5,v 6,iv ms] 30 false false∧(∀ k,k<h.next→(k<lo∨up≤k)→s'.h.get k=h.get k)∧∃ c',CM s'.h lo up tag v n c'∧(∀ j,1≤j→j<4→∀ q,q<n j→FJ j i q (c' j))∧∀ q,q<k→FJ 4 i q (c' 4)) (n 4) (by omega) ?_ ?_
  ·exact⟨by simp only[eE,seval,↓eP,rP,t1],by simp only[eE,seval,↓eP,rP,t2],by simp only[eE,seval,↓eP,rP] <;> rfl,by omega,nX,fX,bX,oX,cX,sX,fun j h1 h2=>dX j h1 (by omega),fun q hq=>absurd hq (by omega)⟩
  rintro k ⟨T,X⟩ hk9 ⟨t1,t2,tc,hk,nX,fX,bX,oX,cX,sX,dX,eX⟩
  simp only at t1 t2 tc nX fX bX oX sX
  have lb:AO 4 (X.get h.next)=some (v 4):=by rw[bX];rfl
  have w1:=CK k (by omega)
  by_cases hlt:k<n 4
  rotate_left
  ·have c1:decide ((k:Int)<(n 4:Int))=false:=by simp;omega
   simp only[eE,seval,↓eP,t1,t2,tc,Nat.zero_add,GG,EJ,lb,len4,c1]
   exact⟨nX,fX,bX,oX,cX,sX,fun j h1 h2 q hq=>by
    by_cases e:j=4
    ·subst e;exact eX q (by omega)
    ·exact dX j h1 (by omega) q hq⟩
  have c1:decide ((k:Int)<(n 4:Int))=true:=by simp;omega
  obtain⟨id,X2,e1,st,s2,n2,f2,o2,hfit⟩:=sX.st (by omega) (by omega) (j:=4) (k:=k) (by omega) (by omega) hlt (val:=.string (GK 116 i)) rfl rfl HC
  have ix:=VQ (id:=id) (n:=n 4) (c:=AG) hlt
  rw[← e1] at ix
  have st:BW Tryd.prog X 9 (qP id k) (.string (GK 116 i))=some X2:=by rw[show k*wN 4=k from Nat.mul_one k] at st;exact st
  have hq:(h.next<X.next)=True:=by simp;omega
  have hq2:(id<X.next)=True:=by
   obtain⟨_,_,⟨_,z9⟩ | ⟨id',_,z1,_,_,z4,_⟩⟩:=sX 4 (by omega) (by omega)
   ·omega
   ·rw[e1] at z1
    cases z1
    simp
    omega
  have e2f:X2.fl X.floor=X2:=by
   rw[← f2]
   rfl
  simp only[eE,seval,↓eP,t1,t2,tc,Nat.zero_add,GG,EJ,lb,len4,c1]
  refine WK.flags (fs:=ZP) (by kernel_rfl) ?_
  unfold ZP
  iterate 7
   refine FO hsn ?_
   simp only[rG,seval,AC,AE,AD,DS,FA,DL,EI,FR,NL,t1,t2,tc,GG,EJ,lb,hq,hq2,decide_true,num3,ix,st,e2f,NH,KN,JN,LF,K0]
  refine FT ?_
  simp only[eE,seval,↓eP,e2f,t1,t2,tc,w1]
  refine⟨hlt,by omega,by omega,by omega,by rw[o2 _ (.inr (by omega))];exact bX,fun z hz hz2=>by rw[o2 z hz2];exact oX z hz hz2,_,s2,fun j h1 h2 q hq=>?_,fun q hq=>?_⟩
  ·simp only[if_neg (show ¬ j=4 by omega)]
   exact dX j h1 h2 q hq
  ·simp only[if_true]
   exact Q6 (j:=4) ⟨by omega,by omega⟩ hfit rfl (by
   have h0:=K4 (q:=k) (p:=0) (w:=1) hfit rfl (by decide)
   rw[if_pos rfl,Nat.add_zero] at h0
   show (Go.Sx.lay _ (k*1) _)[k]?=_
   rw[Nat.mul_one] at h0 ⊢
   exact h0.trans rfl) (eX q) hq
 rintro e ⟨T,X⟩ ⟨rfl,t1,t2,nX,fX,bX,oX,cX,sX,dX⟩
 simp only at t1 t2 nX fX bX oX sX
 -- list 5
 simp only[eE,seval,↓eP,t1,t2]
 refine J3 (Q:=fun e s'=>e=.exit 8∧s'.T.get 1=iv (i:Int)∧s'.T.get 2=qP h.next 0∧s'.h.next=h.next+1∧s'.h.floor=h.floor∧s'.h.get h.next=.row [.string nm,v 1,v 2,v 3,v 4,v 5,v 6,iv ms] 30 false false∧(∀ k,k<h.next→(k<lo∨up≤k)→s'.h.get k=h.get k)∧∃ c',CM s'.h lo up tag v n c'∧∀ j,1≤j→j≤5→∀ q,q<n j→FJ j i q (c' j)) ?_ ?_
 ·refine WK.loop (fun k s'=>s'.T.get 1=iv (i:Int)∧s'.T.get 2=qP h.next 0∧s'.T.get 8=iv (k:Int)∧k≤n 5∧s'.h.next=h.next+1∧s'.h.floor=h.floor∧s'.h.get h.next=.row [.string nm,v 1,v 2,v 3,v 4,v 5,v 6,iv ms] 30 false false∧(∀ k,k<h.next→(k<lo∨up≤k)→s'.h.get k=h.get k)∧∃ c',CM s'.h lo up tag v n c'∧(∀ j,1≤j→j<5→∀ q,q<n j→FJ j i q (c' j))∧∀ q,q<k→FJ 5 i q (c' 5)) (n 5) (by omega) ?_ ?_
  ·exact⟨by simp only[eE,seval,↓eP,rP,t1],by simp only[eE,seval,↓eP,rP,t2],by simp only[eE,seval,↓eP,rP] <;> rfl,by omega,nX,fX,bX,oX,cX,sX,fun j h1 h2=>dX j h1 (by omega),fun q hq=>absurd hq (by omega)⟩
  rintro k ⟨T,X⟩ hk9 ⟨t1,t2,tc,hk,nX,fX,bX,oX,cX,sX,dX,eX⟩
  simp only at t1 t2 tc nX fX bX oX sX
  have lb:AO 5 (X.get h.next)=some (v 5):=by rw[bX];rfl
  have w1:=CK k (by omega)
  by_cases hlt:k<n 5
  rotate_left
  ·have c1:decide ((k:Int)<(n 5:Int))=false:=by simp;omega
   simp only[eE,seval,↓eP,t1,t2,tc,Nat.zero_add,F0,C3,lb,len5,c1]
   exact⟨nX,fX,bX,oX,cX,sX,fun j h1 h2 q hq=>by
    by_cases e:j=5
    ·subst e;exact eX q (by omega)
    ·exact dX j h1 (by omega) q hq⟩
  have c1:decide ((k:Int)<(n 5:Int))=true:=by simp;omega
  obtain⟨id,X2,e1,st,s2,n2,f2,o2,hfit⟩:=sX.st (by omega) (by omega) (j:=5) (k:=k) (by omega) (by omega) hlt (val:=iv ((1000*i+k:Nat):Int)) rfl rfl CT
  have ix:=GJ (id:=id) (n:=n 5) (c:=AG) hlt
  rw[← e1] at ix
  have st:BW Tryd.prog X 3 (qP id k) (iv ((1000*i+k:Nat):Int))=some X2:=by rw[show k*wN 5=k from Nat.mul_one k] at st;exact st
  have wA:IntKind.i64.wrap (1000*(i:Int)+(k:Int))=((1000*i+k:Nat):Int):=by rw[CG (by omega) (by omega)];omega
  simp only[eE,seval,↓eP,t1,t2,tc,Nat.zero_add,F0,C3,lb,len5,c1,wI,wA,ix,st,w1]
  refine⟨hlt,by omega,by omega,by omega,by rw[o2 _ (.inr (by omega))];exact bX,fun z hz hz2=>by rw[o2 z hz2];exact oX z hz hz2,_,s2,fun j h1 h2 q hq=>?_,fun q hq=>?_⟩
  ·simp only[if_neg (show ¬ j=5 by omega)]
   exact dX j h1 h2 q hq
  ·simp only[if_true]
   exact Q6 (j:=5) ⟨by omega,by omega⟩ hfit rfl (by
   have h0:=K4 (q:=k) (p:=0) (w:=1) hfit rfl (by decide)
   rw[if_pos rfl,Nat.add_zero] at h0
   show (Go.Sx.lay _ (k*1) _)[k]?=_
   rw[Nat.mul_one] at h0 ⊢
   exact h0.trans rfl) (eX q) hq
 rintro e ⟨T,X⟩ ⟨rfl,t1,t2,nX,fX,bX,oX,cX,sX,dX⟩
 simp only at t1 t2 nX fX bX oX sX
 -- list 6
 simp only[eE,seval,↓eP,t1,t2]
 refine J3 (Q:=fun e s'=>e=.exit 10∧s'.T.get 1=iv (i:Int)∧s'.T.get 2=qP h.next 0∧s'.h.next=h.next+1∧s'.h.floor=h.floor∧s'.h.get h.next=.row [.string nm,v 1,v 2,v 3,v 4,v 5,v 6,iv ms] 30 false false∧(∀ k,k<h.next→(k<lo∨up≤k)→s'.h.get k=h.get k)∧∃ c',CM s'.h lo up tag v n c'∧∀ j,1≤j→j≤6→∀ q,q<n j→FJ j i q (c' j)) ?_ ?_
 ·refine WK.loop (fun k s'=>s'.T.get 1=iv (i:Int)∧s'.T.get 2=qP h.next 0∧s'.T.get 9=iv (k:Int)∧k≤n 6∧s'.h.next=h.next+1∧s'.h.floor=h.floor∧s'.h.get h.next=.row [.string nm,v 1,v 2,v 3,v 4,v 5,v 6,iv ms] 30 false false∧(∀ k,k<h.next→(k<lo∨up≤k)→s'.h.get k=h.get k)∧∃ c',CM s'.h lo up tag v n c'∧(∀ j,1≤j→j<6→∀ q,q<n j→FJ j i q (c' j))∧∀ q,q<k→FJ 6 i q (c' 6)) (n 6) (by omega) ?_ ?_
  ·exact⟨by simp only[eE,seval,↓eP,rP,t1],by simp only[eE,seval,↓eP,rP,t2],by simp only[eE,seval,↓eP,rP] <;> rfl,by omega,nX,fX,bX,oX,cX,sX,fun j h1 h2=>dX j h1 (by omega),fun q hq=>absurd hq (by omega)⟩
  rintro k ⟨T,X⟩ hk9 ⟨t1,t2,tc,hk,nX,fX,bX,oX,cX,sX,dX,eX⟩
  simp only at t1 t2 tc nX fX bX oX sX
  have lb:AO 6 (X.get h.next)=some (v 6):=by rw[bX];rfl
  have w1:=CK k (by omega)
  by_cases hlt:k<n 6
  rotate_left
  ·have c1:decide ((k:Int)<(n 6:Int))=false:=by simp;omega
   simp only[eE,seval,↓eP,t1,t2,tc,Nat.zero_add,FZ,C3,lb,len6,c1]
   exact⟨nX,fX,bX,oX,cX,sX,fun j h1 h2 q hq=>by
    by_cases e:j=6
    ·subst e;exact eX q (by omega)
    ·exact dX j h1 (by omega) q hq⟩
  have c1:decide ((k:Int)<(n 6:Int))=true:=by simp;omega
  obtain⟨id,X2,e1,st,s2,n2,f2,o2,hfit⟩:=sX.st (by omega) (by omega) (j:=6) (k:=k) (by omega) (by omega) hlt (val:=iv (0-1000*(i:Int)-(k:Int))) rfl rfl CT
  have ix:=GJ (id:=id) (n:=n 6) (c:=AG) hlt
  rw[← e1] at ix
  have st:BW Tryd.prog X 3 (qP id k) (iv (0-1000*(i:Int)-(k:Int)))=some X2:=by rw[show k*wN 6=k from Nat.mul_one k] at st;exact st
  have wB:IntKind.i64.wrap (0-1000*(i:Int)-(k:Int))=0-1000*(i:Int)-(k:Int):=CG (by omega) (by omega)
  simp only[eE,seval,↓eP,t1,t2,tc,Nat.zero_add,FZ,C3,lb,len6,c1,wI,wM,wB,ix,st,w1]
  refine⟨hlt,by omega,by omega,by omega,by rw[o2 _ (.inr (by omega))];exact bX,fun z hz hz2=>by rw[o2 z hz2];exact oX z hz hz2,_,s2,fun j h1 h2 q hq=>?_,fun q hq=>?_⟩
  ·simp only[if_neg (show ¬ j=6 by omega)]
   exact dX j h1 h2 q hq
  ·simp only[if_true]
   exact Q6 (j:=6) ⟨by omega,by omega⟩ hfit rfl (by
   have h0:=K4 (q:=k) (p:=0) (w:=1) hfit rfl (by decide)
   rw[if_pos rfl,Nat.add_zero] at h0
   show (Go.Sx.lay _ (k*1) _)[k]?=_
   rw[Nat.mul_one] at h0 ⊢
   exact h0.trans rfl) (eX q) hq
 rintro e ⟨T,X⟩ ⟨rfl,t1,t2,nX,fX,bX,oX,cX,sX,dX⟩
 simp only at t1 t2 nX fX bX oX sX
 simp only[eE,seval,↓eP,hr,t1,t2]
 exact⟨⟨cX,sX,dX⟩,by omega,fX,oX⟩
theorem Gh {lo up i:Nat} {tag:Nat→Nat} {v:Nat→Value} {n:Nat→Nat} {c:Nat→List Value} {nm:ByteArray} {ms:Int} (hS:CM h lo up tag v n c) (hf:h.floor≤lo) (hup:up≤h.next) (hi:i<100) (hm:1000020<m) :
  ∃ h',AU m 37 [NB nm v ms,iv (i:Int)] h=some (.tuple #[],h')∧(∃ c',CM h' lo up tag v n c'∧∀ j,1≤j→j≤6→∀ q,q<n j→FJ j i q (c' j))∧h.next≤h'.next∧h'.floor=h.floor∧∀ k,k<h.next→(k<lo∨up≤k)→h'.get k=h.get k:=by
 obtain⟨m,rfl⟩:∃ j,m=j+1:=⟨m-1,by omega⟩
 obtain⟨h1,hw,hR⟩:=yW (m:=m) (N:=m) (nm:=nm) (ms:=ms) hS hf hup hi (by omega) (by omega)
 obtain⟨v',h',h2,rfl,h3⟩:=O6 (n:=m) (R:=fun v' h'=>v'=.tuple #[]∧(∃ c',CM h' lo up tag v n c'∧∀ j,1≤j→j≤6→∀ q,q<n j→FJ j i q (c' j))∧h.next≤h'.next∧h'.floor=h.floor∧∀ k,k<h.next→(k<lo∨up≤k)→h'.get k=h.get k) (CV ⟨rfl,rfl,rfl⟩) ⟨_,h1,hw,rfl,hR⟩ (fun v' h1 _ hs ⟨e,⟨c',a,b⟩,_⟩=>⟨e,⟨c',a.mono fun k _ hk=>(hs k (by omega)).symm,b⟩,Nat.le_refl _,rfl,fun _ _ _=>rfl⟩)
 exact⟨h',h2,h3⟩
end
section
variable {call:AK} {N:Nat} {h:AA}
def JS (h:AA) (lo:Nat) (v:Value) (l:List Int):Prop:=
 (v=Z0∧l=[])∨∃ id c,v=qS id l.length c∧lo≤id∧id<h.next∧((c=AG∧h.get id=.row (ints l) 3 true false)∨(c=l.length∧h.get id=.row (ints l) 3 false false))
theorem JS.ints {lo lo':Nat} {v:Value} {l:List Int} (hl:JS h lo v l) (hle:lo'≤lo):BY lo' h v l:=by
 rcases hl with⟨rfl,rfl⟩ | ⟨id,c,rfl,h1,h2,⟨_,h3⟩ | ⟨_,h3⟩⟩
 ·exact AV.nil lo' h 1
 ·exact BY.row' h3 ⟨by omega,h2⟩ rfl
 ·exact BY.row' h3 ⟨by omega,h2⟩ rfl
theorem JS.mono {h':AA} {lo:Nat} {v:Value} {l:List Int} (hl:JS h lo v l) (hn:h.next≤h'.next) (hg:∀ i,lo≤i→i<h.next→h'.get i=h.get i):JS h' lo v l:=by
 rcases hl with h1 | ⟨id,c,h1,h2,h3,h4⟩
 ·exact .inl h1
 ·exact .inr ⟨id,c,h1,h2,by omega,by rw[hg id h2 h3];exact h4⟩
theorem JS.flat {lo:Nat} {v:Value} {l:List Int} (hl:JS h lo v l) (hf:E_ v=true) (h':AA) (lo':Nat):JS h' lo' v l:=by
 rcases hl with h1 | ⟨id,c,rfl,_⟩
 ·exact .inl h1
 ·cases hf
end
def FM (e:TypeId) (h:AA) (lo:Nat) (v:Value) (n:Nat) (cs:List Value):Prop:=
 (v=Z0∧n=0∧cs=[])∨∃ id,v=qS id n AG∧lo≤id∧id<h.next∧h.get id=.row cs e true false
theorem FM.mono {e:TypeId} {h h':AA} {lo:Nat} {v:Value} {n:Nat} {cs:List Value} (hl:FM e h lo v n cs) (hn:h.next≤h'.next) (hg:∀ i,i<h.next→(∃ cs' g,h.get i=.row cs' e g false)→lo≤i→h'.get i=h.get i):FM e h' lo v n cs:=by
 rcases hl with h1 | ⟨id,h1,h2,h3,h4⟩
 ·exact .inl h1
 ·exact .inr ⟨id,h1,h2,by omega,by rw[hg id h3 ⟨_,_,h4⟩ h2];exact h4⟩
theorem FM.cells {e:TypeId} {h:AA} {lo lo':Nat} {v:Value} {n w:Nat} {cs:List Value} (hl:FM e h lo v n cs) (hw:cs.length=n*w) (hle:lo'≤lo):AV lo' h v n w cs:=by
 rcases hl with⟨rfl,rfl,rfl⟩ | ⟨id,rfl,h2,h3,h4⟩
 ·exact⟨by simp,_,_,rfl,.inl ⟨rfl,rfl⟩⟩
 ·exact⟨hw,_,_,rfl,.inr ⟨id,0,cs,e,true,false,rfl,h4,by omega,by rw[List.drop_zero,List.take_of_length_le (by omega)],fun _=>rfl⟩⟩
section
variable {P:Program} {t e:TypeId} {w b:Nat} {z:Value} {h:AA}
theorem xH (ht:P.underlying t=some (.slice e)) (he:BP P e=some w) (hb:G_ P e=some b) (hz:DI P e=some z) (hzc:z.cells.size=w) (hw:0<w) (hbb:b≤1000) {lo n:Nat} {v:Value} {cs new:List Value} (hl:FM e h lo v n cs) (hcl:cs.length=n*w) (hco:cs.all one=true) (hnl:new.length=w) (hno:new.all one=true) (hlo:lo≤h.next) (hf:h.floor≤lo) (hn:n<1000000) :
  ∃ v' h',C4 P (h.push (.row new e false false)) t v (qS h.next 1 1)=some (v',h')∧FM e h' h.next v' (n+1) (cs++new)∧h'.floor=h.floor∧h.next≤h'.next∧∀ i,i<h.next→(∀ m c,v≠qS i m c)→h'.get i=h.get i:=by
 have hsrc:CL (h.push (.row new e false false)) w 1 (qS h.next 1 1)=some new:=by
  simp only[CL,BL,D1,List.drop_zero,Nat.one_mul]
  rw[if_neg (by decide),List.take_of_length_le (by omega),if_pos hnl]
 have hb1:(n+1)*b≤(n+1)*1000:=Nat.mul_le_mul_left _ hbb
 rcases hl with⟨rfl,rfl,rfl⟩ | ⟨id,rfl,h1,h2,hg⟩
 ·have hnu:(0:Nat)≠AG:=by unfold AG;omega
  refine⟨.slice (some ⟨(h.push (.row new e false false)).next,0,none⟩) (0+1) AG,(h.push (.row new e false false)).push (.row ([]++new) e true false),?_,.inr ⟨_,rfl,?_,?_,BL⟩,rfl,by show h.next≤h.next+1+1;omega,fun i hi _=>?_⟩
  ·have h0:CL (h.push (.row new e false false)) w 0 (Z0)=some []:=by simp[CL]
   simp only[C4,ht,he,hb,hz,hsrc,hno,h0]
   rw[if_pos (by simp[hzc,hw]),if_pos trivial,if_neg hnu,if_neg (by omega),if_pos (by simp;omega)]
  ·show h.next≤h.next+1;omega
  ·show h.next+1<h.next+1+1;omega
  ·rw[AM (by show i<h.next+1;omega),AM (by omega)]
 ·have hu:n≤AG:=by unfold AG;omega
  have hg':(h.push (.row new e false false)).get id=.row cs e true false:=by rw[AM h2];exact hg
  have hcut:D1 cs 0 (n*w)=some cs:=by
   simp only[D1,List.drop_zero]
   rw[List.take_of_length_le (by omega),if_pos (by omega)]
  refine⟨.slice (some ⟨(h.push (.row new e false false)).next,0,none⟩) (n+1) AG,((h.push (.row new e false false)).put id .dead).push (.row (cs++new) e true false),?_,.inr ⟨_,rfl,?_,?_,BL⟩,rfl,by show h.next≤h.next+1+1;omega,fun i hi hi2=>?_⟩
  ·simp only[C4,ht,he,hb,hz,hsrc,hno,hg',hcut,hco]
   rw[if_pos (by simp[hzc,hw];omega),if_pos trivial,if_pos trivial,if_pos (by rw[IL,decide_eq_true (show (n+1)*b≤140737488355328 by omega),decide_eq_true (show n+1≤140737488355328 by omega),decide_eq_true (show h.floor≤id by omega)];rfl),if_neg (by decide),if_pos trivial,if_pos trivial]
  ·show h.next≤h.next+1;omega
  ·show h.next+1<h.next+1+1;omega
  ·have hne:id≠i:=by
    rintro rfl
    exact hi2 _ _ rfl
   rw[AM (by show i<h.next+1;omega),AQ (by show id<h.next+1;omega) hne,AM (by omega)]
end
theorem FM.weak {e:TypeId} {h:AA} {lo lo':Nat} {v:Value} {n:Nat} {cs:List Value} (hl:FM e h lo v n cs) (hle:lo'≤lo):FM e h lo' v n cs:=by
 rcases hl with h1 | ⟨id,h1,h2,h3,h4⟩
 ·exact .inl h1
 ·exact .inr ⟨id,h1,by omega,h3,h4⟩
theorem FM.below {e:TypeId} {lo n:Nat} {h:AA} {v:Value} {cs:List Value} (ho:FM e h lo v n cs) {j:Nat} (hj:j<lo):∀ m c,v≠qS j m c:=by
 rintro m c rfl
 rcases ho with⟨h9,_⟩ | ⟨id,h1,h2,h3,_⟩
 ·cases h9
 ·cases h1;omega
theorem FM.above {e:TypeId} {lo n:Nat} {h:AA} {v:Value} {cs:List Value} (ho:FM e h lo v n cs) {j:Nat} (hj:h.next≤j):∀ m c,v≠qS j m c:=by
 rintro m c rfl
 rcases ho with⟨h9,_⟩ | ⟨id,h1,h2,h3,_⟩
 ·cases h9
 ·cases h1;omega
theorem FM.apart {e:TypeId} {lo n:Nat} {h:AA} {v:Value} {cs:List Value} (ho:FM e h lo v n cs) {i:Nat} {cs':List Value} {t:TypeId} {g r:Bool} (hi:h.get i=.row cs' t g r) (hne:t≠e):∀ m c,v≠qS i m c:=by
 rintro m c rfl
 rcases ho with⟨h9,_⟩ | ⟨id,h1,h2,h3,h4⟩
 ·cases h9
 ·cases h1
  rw[hi] at h4
  cases h4
  exact hne rfl
structure KP where
 nm:ByteArray
 v:Nat→Value
 n:Nat→Nat
 ms:Int
 lo:Nat
 up:Nat
 tag:Nat→Nat
abbrev KP.pv (e:KP):Value:=NB e.nm e.v e.ms
def FU (e:KP):List Value:=[.string e.nm,e.v 1,e.v 2,e.v 3,e.v 4,e.v 5,e.v 6,iv e.ms]
def GC (K:List KP):List Value:=K.flatMap FU
theorem m_:∀ K,(GC K).length=K.length*8
 | []=>rfl
 | e :: K=>by
  have:=m_ K
  unfold GC at this ⊢
  rw[List.flatMap_cons,List.length_append,this]
  simp only[FU,List.length_cons,List.length_nil]
  omega
theorem j7:∀ {K:List KP} {i:Nat} {e:KP},K[i]?=some e→((GC K).drop (i*8)).take 8=FU e
 | [],i,e,h=>by simp at h
 | x :: K,0,e,h=>by
  cases h
  unfold GC
  rw[List.flatMap_cons,Nat.zero_mul,List.drop_zero,List.take_append_of_le_length (by simp[FU])]
  exact List.take_of_length_le (by simp[FU])
 | x :: K,i+1,e,h=>by
  have:=j7 (K:=K) (i:=i) (e:=e) h
  unfold GC at this ⊢
  have h8:(FU x).length=8:=rfl
  rw[List.flatMap_cons,show (i+1)*8=(FU x).length+i*8 by omega,← List.drop_drop,List.drop_left]
  exact this
theorem SG:Tryd.prog.underlying 60=some (.slice 30):=by kernel_rfl
theorem zL {id n c i:Nat} (hi:i<n):CY Tryd.prog 60 (qS id n c) (iv (i:Int))=some (.pointer (some ⟨id,i*8,none⟩)):=by
 simp only[CY,SG,HR,CI]
 rw[if_pos (by omega)]
 simp
theorem ZY {P:Program} {t:TypeId} {x y:Operand} {a:ByteArray}:B0 P .neq t x y (.string a) (.string a)=some (.bool false):=by
 simp[B0,flat,BO,BC,Go.eqGuard,Go.binOp,Op.stringOp,Bind.bind,Sem.bind,Pure.pure]
section
variable {h:AA} {lo:Nat} {kv:Value} {K:List KP}
theorem n_ {n:Nat} {cs:List Value} (hl:FM 30 h lo kv n cs) (h':AA):B_ Tryd.prog h' 60 kv=some (iv (n:Int)):=by
 rcases hl with⟨rfl,rfl,_⟩ | ⟨id,rfl,_⟩
 ·simp[B_,SG]
 ·simp[B_,SG]
theorem FM.pol {i:Nat} {e:KP} (hl:FM 30 h lo kv K.length (GC K)) (he:K[i]?=some e):∃ id,CY Tryd.prog 60 kv (iv (i:Int))=some (.pointer (some ⟨id,i*8,none⟩))∧id<h.next∧CD 8 (i*8) (h.get id)=some e.pv:=by
 have hlt:=(List.getElem?_eq_some_iff.1 he).1
 rcases hl with⟨_,h0,_⟩ | ⟨id,rfl,h1,h2,h3⟩
 ·omega
 ·refine⟨id,zL hlt,h2,?_⟩
  rw[h3]
  simp only[CD,D1,j7 he]
  rfl
end
theorem CM.rd {h:AA} {lo up:Nat} {tag:Nat→Nat} {v:Nat→Value} {n:Nat→Nat} {c:Nat→List Value} (hS:CM h lo up tag v n c) {j k:Nat} (h1:1≤j) (h2:j≤6) (hk:k<n j):∃ id,v j=qS id (n j) AG∧lo≤id∧id<up∧∀ p x,(c j)[p]?=some x→AO p (h.get id)=some x:=by
 obtain⟨a,b,⟨e0,e⟩ | ⟨id,ex,e1,e2,e3,e4,e5⟩⟩:=hS j h1 h2
 ·omega
 ·refine⟨id,e1,e3,e4,fun p x hp=>?_⟩
  rw[e2]
  simp only[AO]
  rw[List.getElem?_append_left (List.getElem?_eq_some_iff.1 hp).1]
  exact hp
def bP:List (Bool × Bool × List Operand):=[(true,false,[]),(true,false,[]),IA [.tmp 53],(true,false,[]),(true,false,[]),(true,false,[]),AS [.tmp 53,.tmp 57],AS [.tmp 53,.tmp 57],AT]
def bC:List (Bool × Bool × List Operand):=[(true,false,[]),(true,false,[]),IA [.tmp 69],(true,false,[]),(true,false,[]),AS [.tmp 69,.tmp 72],AS [.tmp 69,.tmp 72],AT]
def aV:List (Bool × Bool × List Operand):=[(true,false,[]),(true,false,[]),IA [.tmp 84],(true,false,[]),(true,false,[]),AS [.tmp 84,.tmp 87],AS [.tmp 84,.tmp 87],AT]
section
variable {m N:Nat} {h:AA}
theorem vY {lo:Nat} {kv:Value} {K:List KP} {c:Nat→Nat→List Value} (hGr:FM 30 h lo kv K.length (GC K)) (hK:K.length<100) (hS:∀ i e,K[i]?=some e→CM h e.lo e.up e.tag e.v e.n (c i)∧e.up≤h.next∧∀ j,1≤j→j≤6→∀ q,q<e.n j→FJ j i q (c i j)) (hfl:h.floor≤h.next) (hm:0<m) (hN:1000010<N) :
  ∃ h',AW Tryd.prog (AU m) N 38 [kv] h=some (.bool true,h')∧∀ k,k<h.next→h'.get k=h.get k:=by
 have hsn:=(Fsx m).2
 refine E0 (R:=fun h'=>∀ k,k<h.next→h'.get k=h.get k) Tryd.func38 rfl (by simp[Tryd.f38]) ?_
 have hr:Tryd.f38.results.toList=[.tmp 2]:=rfl
 have lenK:=n_ hGr
 simp only[eE,seval,↓eP]
 refine WK.loop (fun p s'=>s'.T.get 0=kv∧s'.T.get 3=iv (p:Int)∧p≤K.length∧h.next≤s'.h.next∧s'.h.floor=h.floor∧∀ k,k<h.next→s'.h.get k=h.get k) K.length (by omega) ?_ ?_
 ·exact⟨by simp only[eE,seval,↓eP,rP],by simp only[eE,seval,↓eP,rP] <;> rfl,by omega,Nat.le_refl _,rfl,fun _ _=>rfl⟩
 rintro p ⟨T,X⟩ hp9 ⟨t0,t3,hp,nX,fX,oX⟩
 simp only at t0 t3 nX fX oX
 have wp1:=CK p (by omega)
 by_cases hpl:p<K.length
 rotate_left
 ·have c1:decide ((p:Int)<(K.length:Int))=false:=by simp;omega
  simp only[eE,seval,↓eP,hr,t0,t3,lenK,c1]
  exact oX
 have c1:decide ((p:Int)<(K.length:Int))=true:=by simp;omega
 obtain⟨e,he⟩:∃ e,K[p]?=some e:=⟨_,List.getElem?_eq_getElem hpl⟩
 obtain⟨idk,ei,hik,lo1⟩:=hGr.pol he
 obtain⟨hS0,hup,hD⟩:=hS p e he
 have loX:CD 8 (p*8) (X.get idk)=some e.pv:=by rw[oX idk hik];exact lo1
 have oa:(FU e).all Go.Sx.one=true:=by
  unfold FU
  simp only[List.all_cons,List.all_nil,hS0.one (j:=1) (by omega) (by omega),hS0.one (j:=2) (by omega) (by omega),hS0.one (j:=3) (by omega) (by omega),hS0.one (j:=4) (by omega) (by omega),hS0.one (j:=5) (by omega) (by omega),hS0.one (j:=6) (by omega) (by omega),Bool.and_self]
  rfl
 have st:=NJ (t:=30) HR (h:=X.push (.row BR 30 false false)) (id:=X.next) (vs:=FU e) BL rfl rfl oa (by rw[IL];omega)
 have st:BW Tryd.prog (X.push (.row BR 30 false false)) 30 (qP X.next 0) e.pv=_:=st
 simp only[eE,seval,↓eP,t0,t3,lenK,c1,ei,Nat.zero_add,IW,loX,J7,KX,L6,st]
 have gY:((X.push (.row BR 30 false false)).put X.next (.row (FU e) 30 false false)).get X.next=.row (FU e) 30 false false:=CE rfl (by rw[C6];omega)
 have oY:∀ k,k<X.next→((X.push (.row BR 30 false false)).put X.next (.row (FU e) 30 false false)).get k=X.get k:=fun k hk=>by rw[AQ (by rw[C6];omega) (by omega),AM hk]
 have nY:((X.push (.row BR 30 false false)).put X.next (.row (FU e) 30 false false)).next=X.next+1:=rfl
 have fY:((X.push (.row BR 30 false false)).put X.next (.row (FU e) 30 false false)).floor=X.floor:=rfl
 generalize (X.push (.row BR 30 false false)).put X.next (.row (FU e) 30 false false)=Y at *
 have hSY:CM Y e.lo e.up e.tag e.v e.n (c p):=hS0.mono fun k _ hk=>by rw[oY k (by omega),oX k (by omega)]
 have bn:∀ j,1≤j→j≤6→e.n j<1000000:=fun j h1 h2=>(hS0 j h1 h2).2.1
 have len1:=hS0.len (j:=1) (by omega) (by omega) Tryd.underlying22
 have len2:=hS0.len (j:=2) (by omega) (by omega) Tryd.underlying26
 have len3:=hS0.len (j:=3) (by omega) (by omega) Tryd.underlying27
 have len4:=hS0.len (j:=4) (by omega) (by omega) Tryd.underlying27
 have len5:=hS0.len (j:=5) (by omega) (by omega) Tryd.underlying28
 have len6:=hS0.len (j:=6) (by omega) (by omega) Tryd.underlying28
 have nb1:=bn 1 (by omega) (by omega)
 have nb2:=bn 2 (by omega) (by omega)
 have nb3:=bn 3 (by omega) (by omega)
 have nb4:=bn 4 (by omega) (by omega)
 have nb5:=bn 5 (by omega) (by omega)
 have nb6:=bn 6 (by omega) (by omega)
 have wI:IntKind.i64.wrap (1000*(p:Int))=1000*(p:Int):=CG (by omega) (by omega)
 have wM:IntKind.i64.wrap (0-1000*(p:Int))=0-1000*(p:Int):=CG (by omega) (by omega)
 have num1:∀ (X:AA),AU m 29 [.int .u8 113,iv (p:Int)] X=some (.string (GK 113 p),X):=fun X=>RN (h:=X) (c:=113) (k:=p) (by omega) hm
 have num2:∀ (X:AA),AU m 29 [.int .u8 118,iv (p:Int)] X=some (.string (GK 118 p),X):=fun X=>RN (h:=X) (c:=118) (k:=p) (by omega) hm
 have num3:∀ (X:AA),AU m 29 [.int .u8 116,iv (p:Int)] X=some (.string (GK 116 p),X):=fun X=>RN (h:=X) (c:=116) (k:=p) (by omega) hm
 -- list 1
 skip
 refine J3 (Q:=fun e' s'=>e'=.exit 2∧s'.T.get 0=kv∧s'.T.get 3=iv (p:Int)∧s'.T.get 4=qP X.next 0∧s'.h=Y) ?_ ?_
 ·refine WK.loop (fun k s'=>s'.T.get 0=kv∧s'.T.get 3=iv (p:Int)∧s'.T.get 4=qP X.next 0∧s'.T.get 5=iv (k:Int)∧k≤e.n 1∧s'.h=Y) (e.n 1) (by omega) ?_ ?_
  ·exact⟨by simp only[eE,seval,↓eP,rP,t0],by simp only[eE,seval,↓eP,rP,t3],by simp only[eE,seval,↓eP,rP],by simp only[eE,seval,↓eP,rP] <;> rfl,by omega,rfl⟩
  rintro k ⟨T,Z⟩ hk9 ⟨t0,t3,t4,tc,hk,hz⟩
  simp only at t0 t3 t4 tc hz
  have hz9:=hz.symm
  subst hz9
  have lb:AO 1 (Y.get X.next)=some (e.v 1):=by rw[gY];rfl
  have w1:=CK k (by omega)
  by_cases hlt:k<e.n 1
  rotate_left
  ·have c1:decide ((k:Int)<(e.n 1:Int))=false:=by simp;omega
   simp only[eE,seval,↓eP,t0,t3,t4,tc,Nat.zero_add,DA,C0,lb,len1,c1]
  have c1:decide ((k:Int)<(e.n 1:Int))=true:=by simp;omega
  obtain⟨id,e1,g1,g2,rd⟩:=hSY.rd (j:=1) (k:=k) (by omega) (by omega) hlt
  have ix:=HB (id:=id) (n:=e.n 1) (c:=AG) hlt
  rw[← e1] at ix
  have hd:=hD 1 (by omega) (by omega) k hlt
  have l0:AO (k*5) (Y.get id)=some (iv (p:Int)):=rd _ _ hd.1
  have l3:AO (k*5+3) (Y.get id)=some (iv (k:Int)):=rd _ _ hd.2
  simp only[eE,seval,↓eP,t0,t3,t4,tc,Nat.zero_add,DA,C0,lb,len1,c1,ix,F6,IX,CO,l0,l3,bne_self_eq_false,w1]
  exact⟨hlt,by omega⟩
 rintro e' ⟨T,Z⟩ ⟨rfl,t0,t3,t4,hz⟩
 simp only at t0 t3 t4 hz
 have hz9:=hz.symm
 subst hz9
 -- list 2
 simp only[eE,seval,↓eP,t0,t3,t4]
 refine J3 (Q:=fun e' s'=>e'=.exit 4∧s'.T.get 0=kv∧s'.T.get 3=iv (p:Int)∧s'.T.get 4=qP X.next 0∧s'.h=Y) ?_ ?_
 ·refine WK.loop (fun k s'=>s'.T.get 0=kv∧s'.T.get 3=iv (p:Int)∧s'.T.get 4=qP X.next 0∧s'.T.get 6=iv (k:Int)∧k≤e.n 2∧s'.h=Y) (e.n 2) (by omega) ?_ ?_
  ·exact⟨by simp only[eE,seval,↓eP,rP,t0],by simp only[eE,seval,↓eP,rP,t3],by simp only[eE,seval,↓eP,rP,t4],by simp only[eE,seval,↓eP,rP] <;> rfl,by omega,rfl⟩
  rintro k ⟨T,Z⟩ hk9 ⟨t0,t3,t4,tc,hk,hz⟩
  simp only at t0 t3 t4 tc hz
  have hz9:=hz.symm
  subst hz9
  have lb:AO 2 (Y.get X.next)=some (e.v 2):=by rw[gY];rfl
  have w1:=CK k (by omega)
  by_cases hlt:k<e.n 2
  rotate_left
  ·have c1:decide ((k:Int)<(e.n 2:Int))=false:=by simp;omega
   simp only[eE,seval,↓eP,t0,t3,t4,tc,Nat.zero_add,FL,FP,lb,len2,c1]
  have c1:decide ((k:Int)<(e.n 2:Int))=true:=by simp;omega
  obtain⟨id,e1,g1,g2,rd⟩:=hSY.rd (j:=2) (k:=k) (by omega) (by omega) hlt
  have ix:=cY (id:=id) (n:=e.n 2) (c:=AG) hlt
  rw[← e1] at ix
  have hd:=hD 2 (by omega) (by omega) k hlt
  have l0:AO (k*2) (Y.get id)=some (.string (GK 113 p)):=rd _ _ hd
  have hq:(X.next<Y.next)=True:=by simp;omega
  have hq2:(id<Y.next)=True:=by simp;omega
  simp only[eE,seval,↓eP,t0,t3,t4,tc,Nat.zero_add,FL,FP,lb,len2,c1]
  refine WK.flags (fs:=bP) (by kernel_rfl) ?_
  unfold bP
  iterate 9
   refine FO hsn ?_
   simp only[rG,seval,AC,AE,AD,DS,FA,DL,EI,FR,NL,t0,t3,t4,tc,FL,FP,lb,hq,hq2,decide_true,ix,Em,EC,l0,num1,ZY,NH,KN,JN,LF,K0]
  refine FT ?_
  simp only[eE,seval,↓eP,t0,t3,t4,tc,w1]
  exact⟨hlt,by omega⟩
 rintro e' ⟨T,Z⟩ ⟨rfl,t0,t3,t4,hz⟩
 simp only at t0 t3 t4 hz
 have hz9:=hz.symm
 subst hz9
 -- list 3
 simp only[eE,seval,↓eP,t0,t3,t4]
 refine J3 (Q:=fun e' s'=>e'=.exit 6∧s'.T.get 0=kv∧s'.T.get 3=iv (p:Int)∧s'.T.get 4=qP X.next 0∧s'.h=Y) ?_ ?_
 ·refine WK.loop (fun k s'=>s'.T.get 0=kv∧s'.T.get 3=iv (p:Int)∧s'.T.get 4=qP X.next 0∧s'.T.get 7=iv (k:Int)∧k≤e.n 3∧s'.h=Y) (e.n 3) (by omega) ?_ ?_
  ·exact⟨by simp only[eE,seval,↓eP,rP,t0],by simp only[eE,seval,↓eP,rP,t3],by simp only[eE,seval,↓eP,rP,t4],by simp only[eE,seval,↓eP,rP] <;> rfl,by omega,rfl⟩
  rintro k ⟨T,Z⟩ hk9 ⟨t0,t3,t4,tc,hk,hz⟩
  simp only at t0 t3 t4 tc hz
  have hz9:=hz.symm
  subst hz9
  have lb:AO 3 (Y.get X.next)=some (e.v 3):=by rw[gY];rfl
  have w1:=CK k (by omega)
  by_cases hlt:k<e.n 3
  rotate_left
  ·have c1:decide ((k:Int)<(e.n 3:Int))=false:=by simp;omega
   simp only[eE,seval,↓eP,t0,t3,t4,tc,Nat.zero_add,GF,EJ,lb,len3,c1]
  have c1:decide ((k:Int)<(e.n 3:Int))=true:=by simp;omega
  obtain⟨id,e1,g1,g2,rd⟩:=hSY.rd (j:=3) (k:=k) (by omega) (by omega) hlt
  have ix:=VQ (id:=id) (n:=e.n 3) (c:=AG) hlt
  rw[← e1] at ix
  have hd:=hD 3 (by omega) (by omega) k hlt
  have l0:AO k (Y.get id)=some (.string (GK 118 p)):=rd _ _ hd
  have hq:(X.next<Y.next)=True:=by simp;omega
  have hq2:(id<Y.next)=True:=by simp;omega
  simp only[eE,seval,↓eP,t0,t3,t4,tc,Nat.zero_add,GF,EJ,lb,len3,c1]
  refine WK.flags (fs:=bC) (by kernel_rfl) ?_
  unfold bC
  iterate 8
   refine FO hsn ?_
   simp only[rG,seval,AC,AE,AD,DS,FA,DL,EI,FR,NL,t0,t3,t4,tc,GF,EJ,lb,hq,hq2,decide_true,ix,EC,l0,num2,ZY,NH,KN,JN,LF,K0]
  refine FT ?_
  simp only[eE,seval,↓eP,t0,t3,t4,tc,w1]
  exact⟨hlt,by omega⟩
 rintro e' ⟨T,Z⟩ ⟨rfl,t0,t3,t4,hz⟩
 simp only at t0 t3 t4 hz
 have hz9:=hz.symm
 subst hz9
 -- list 4
 simp only[eE,seval,↓eP,t0,t3,t4]
 refine J3 (Q:=fun e' s'=>e'=.exit 8∧s'.T.get 0=kv∧s'.T.get 3=iv (p:Int)∧s'.T.get 4=qP X.next 0∧s'.h=Y) ?_ ?_
 ·refine WK.loop (fun k s'=>s'.T.get 0=kv∧s'.T.get 3=iv (p:Int)∧s'.T.get 4=qP X.next 0∧s'.T.get 8=iv (k:Int)∧k≤e.n 4∧s'.h=Y) (e.n 4) (by omega) ?_ ?_
  ·exact⟨by simp only[eE,seval,↓eP,rP,t0],by simp only[eE,seval,↓eP,rP,t3],by simp only[eE,seval,↓eP,rP,t4],by simp only[eE,seval,↓eP,rP] <;> rfl,by omega,rfl⟩
  rintro k ⟨T,Z⟩ hk9 ⟨t0,t3,t4,tc,hk,hz⟩
  simp only at t0 t3 t4 tc hz
  have hz9:=hz.symm
  subst hz9
  have lb:AO 4 (Y.get X.next)=some (e.v 4):=by rw[gY];rfl
  have w1:=CK k (by omega)
  by_cases hlt:k<e.n 4
  rotate_left
  ·have c1:decide ((k:Int)<(e.n 4:Int))=false:=by simp;omega
   simp only[eE,seval,↓eP,t0,t3,t4,tc,Nat.zero_add,GG,EJ,lb,len4,c1]
  have c1:decide ((k:Int)<(e.n 4:Int))=true:=by simp;omega
  obtain⟨id,e1,g1,g2,rd⟩:=hSY.rd (j:=4) (k:=k) (by omega) (by omega) hlt
  have ix:=VQ (id:=id) (n:=e.n 4) (c:=AG) hlt
  rw[← e1] at ix
  have hd:=hD 4 (by omega) (by omega) k hlt
  have l0:AO k (Y.get id)=some (.string (GK 116 p)):=rd _ _ hd
  have hq:(X.next<Y.next)=True:=by simp;omega
  have hq2:(id<Y.next)=True:=by simp;omega
  simp only[eE,seval,↓eP,t0,t3,t4,tc,Nat.zero_add,GG,EJ,lb,len4,c1]
  refine WK.flags (fs:=aV) (by kernel_rfl) ?_
  unfold aV
  iterate 8
   refine FO hsn ?_
   simp only[rG,seval,AC,AE,AD,DS,FA,DL,EI,FR,NL,t0,t3,t4,tc,GG,EJ,lb,hq,hq2,decide_true,ix,EC,l0,num3,ZY,NH,KN,JN,LF,K0]
  refine FT ?_
  simp only[eE,seval,↓eP,t0,t3,t4,tc,w1]
  exact⟨hlt,by omega⟩
 rintro e' ⟨T,Z⟩ ⟨rfl,t0,t3,t4,hz⟩
 simp only at t0 t3 t4 hz
 have hz9:=hz.symm
 subst hz9
 -- list 5
 simp only[eE,seval,↓eP,t0,t3,t4]
 refine J3 (Q:=fun e' s'=>e'=.exit 10∧s'.T.get 0=kv∧s'.T.get 3=iv (p:Int)∧s'.T.get 4=qP X.next 0∧s'.h=Y) ?_ ?_
 ·refine WK.loop (fun k s'=>s'.T.get 0=kv∧s'.T.get 3=iv (p:Int)∧s'.T.get 4=qP X.next 0∧s'.T.get 9=iv (k:Int)∧k≤e.n 5∧s'.h=Y) (e.n 5) (by omega) ?_ ?_
  ·exact⟨by simp only[eE,seval,↓eP,rP,t0],by simp only[eE,seval,↓eP,rP,t3],by simp only[eE,seval,↓eP,rP,t4],by simp only[eE,seval,↓eP,rP] <;> rfl,by omega,rfl⟩
  rintro k ⟨T,Z⟩ hk9 ⟨t0,t3,t4,tc,hk,hz⟩
  simp only at t0 t3 t4 tc hz
  have hz9:=hz.symm
  subst hz9
  have lb:AO 5 (Y.get X.next)=some (e.v 5):=by rw[gY];rfl
  have w1:=CK k (by omega)
  by_cases hlt:k<e.n 5
  rotate_left
  ·have c1:decide ((k:Int)<(e.n 5:Int))=false:=by simp;omega
   simp only[eE,seval,↓eP,t0,t3,t4,tc,Nat.zero_add,F0,C3,lb,len5,c1]
  have c1:decide ((k:Int)<(e.n 5:Int))=true:=by simp;omega
  obtain⟨id,e1,g1,g2,rd⟩:=hSY.rd (j:=5) (k:=k) (by omega) (by omega) hlt
  have ix:=GJ (id:=id) (n:=e.n 5) (c:=AG) hlt
  rw[← e1] at ix
  have hd:=hD 5 (by omega) (by omega) k hlt
  have l0:AO k (Y.get id)=some (iv ((1000*p+k:Nat):Int)):=rd _ _ hd
  have wA:IntKind.i64.wrap (1000*(p:Int)+(k:Int))=((1000*p+k:Nat):Int):=by rw[CG (by omega) (by omega)];omega
  simp only[eE,seval,↓eP,t0,t3,t4,tc,Nat.zero_add,F0,C3,lb,len5,c1,ix,CO,l0,wI,wA,bne_self_eq_false,w1]
  exact⟨hlt,by omega⟩
 rintro e' ⟨T,Z⟩ ⟨rfl,t0,t3,t4,hz⟩
 simp only at t0 t3 t4 hz
 have hz9:=hz.symm
 subst hz9
 -- list 6
 simp only[eE,seval,↓eP,t0,t3,t4]
 refine J3 (Q:=fun e' s'=>e'=.exit 12∧s'.T.get 0=kv∧s'.T.get 3=iv (p:Int)∧s'.T.get 4=qP X.next 0∧s'.h=Y) ?_ ?_
 ·refine WK.loop (fun k s'=>s'.T.get 0=kv∧s'.T.get 3=iv (p:Int)∧s'.T.get 4=qP X.next 0∧s'.T.get 10=iv (k:Int)∧k≤e.n 6∧s'.h=Y) (e.n 6) (by omega) ?_ ?_
  ·exact⟨by simp only[eE,seval,↓eP,rP,t0],by simp only[eE,seval,↓eP,rP,t3],by simp only[eE,seval,↓eP,rP,t4],by simp only[eE,seval,↓eP,rP] <;> rfl,by omega,rfl⟩
  rintro k ⟨T,Z⟩ hk9 ⟨t0,t3,t4,tc,hk,hz⟩
  simp only at t0 t3 t4 tc hz
  have hz9:=hz.symm
  subst hz9
  have lb:AO 6 (Y.get X.next)=some (e.v 6):=by rw[gY];rfl
  have w1:=CK k (by omega)
  by_cases hlt:k<e.n 6
  rotate_left
  ·have c1:decide ((k:Int)<(e.n 6:Int))=false:=by simp;omega
   simp only[eE,seval,↓eP,t0,t3,t4,tc,Nat.zero_add,FZ,C3,lb,len6,c1]
  have c1:decide ((k:Int)<(e.n 6:Int))=true:=by simp;omega
  obtain⟨id,e1,g1,g2,rd⟩:=hSY.rd (j:=6) (k:=k) (by omega) (by omega) hlt
  have ix:=GJ (id:=id) (n:=e.n 6) (c:=AG) hlt
  rw[← e1] at ix
  have hd:=hD 6 (by omega) (by omega) k hlt
  have l0:AO k (Y.get id)=some (iv (0-1000*(p:Int)-(k:Int))):=rd _ _ hd
  have wB:IntKind.i64.wrap (0-1000*(p:Int)-(k:Int))=0-1000*(p:Int)-(k:Int):=CG (by omega) (by omega)
  simp only[eE,seval,↓eP,t0,t3,t4,tc,Nat.zero_add,FZ,C3,lb,len6,c1,ix,CO,l0,wI,wM,wB,bne_self_eq_false,w1]
  exact⟨hlt,by omega⟩
 rintro e' ⟨T,Z⟩ ⟨rfl,t0,t3,t4,hz⟩
 simp only at t0 t3 t4 hz
 have hz9:=hz.symm
 subst hz9
 simp only[eE,seval,↓eP,t0,t3,t4,wp1]
 exact⟨hpl,by omega,by omega,by omega,fun k hk=>by rw[oY k (by omega),oX k hk]⟩
theorem Il {lo:Nat} {kv:Value} {K:List KP} {c:Nat→Nat→List Value} (hGr:FM 30 h lo kv K.length (GC K)) (hK:K.length<100) (hS:∀ i e,K[i]?=some e→CM h e.lo e.up e.tag e.v e.n (c i)∧e.up≤h.next∧∀ j,1≤j→j≤6→∀ q,q<e.n j→FJ j i q (c i j)) (hfl:h.floor≤h.next) (hm:1000020<m):AU m 38 [kv] h=some (.bool true,h):=by
 obtain⟨m,rfl⟩:∃ j,m=j+1:=⟨m-1,by omega⟩
 exact JA (CV ⟨rfl,rfl,rfl⟩) rfl (vY (m:=m) (N:=m) hGr hK hS hfl (by omega) (by omega))
end
def cS (s:AN) (j:Nat):List Value:=if j=1 then s.rows.flatMap AP else if j=2 then GP s.queues else if j=3 then CZ s.vars else if j=4 then CZ s.tags else if j=5 then ints s.rules else ints s.on
def nS (s:AN) (j:Nat):Nat:=if j=1 then s.rows.length else if j=2 then s.queues.length else if j=3 then s.vars.length else if j=4 then s.tags.length else if j=5 then s.rules.length else s.on.length
def v6 (vr vq vv vt vu vo:Value) (j:Nat):Value:=if j=1 then vr else if j=2 then vq else if j=3 then vv else if j=4 then vt else if j=5 then vu else vo
theorem jE:∀ l:List (ByteArray × Bool),(GP l).length=l.length*2
 | []=>rfl
 | x :: l=>by
  have:=jE l
  unfold GP at this ⊢
  rw[List.flatMap_cons,List.length_append,this]
  simp only[List.length_cons,List.length_nil]
  omega
theorem Ij (s:AN) {j:Nat} (h1:1≤j) (h2:j≤6):(cS s j).length=nS s j*wN j:=by
 have:j=1∨j=2∨j=3∨j=4∨j=5∨j=6:=by omega
 rcases this with rfl | rfl | rfl | rfl | rfl | rfl
 ·exact H9 _
 ·exact jE _
 ·show (CZ s.vars).length=s.vars.length*1;simp[CZ]
 ·show (CZ s.tags).length=s.tags.length*1;simp[CZ]
 ·show (ints s.rules).length=s.rules.length*1;rw[FH];omega
 ·show (ints s.on).length=s.on.length*1;rw[FH];omega
theorem SN {h:AA} {lo j n:Nat} {tag:Nat→Nat} {v:Value} {cs:List Value} {ty:TypeId} (hs:DQ h lo tag j v n cs ty):(n=0∧v=Z0)∨∃ id ex,v=qS id n AG∧h.get id=.row (cs++ex) ty true false∧lo≤id∧id<h.next∧tag id=j:=by
 rcases hs with⟨a,_,b⟩ | ⟨id,ex,a,b,c,d,e⟩
 ·exact .inl ⟨a,b⟩
 ·exact .inr ⟨id,ex,a,b,c,d,e⟩
theorem wD {h:AA} {lo:Nat} {pv:Value} {nm:ByteArray} {s:AN} (ho:KR lo h pv nm s) (hs:IJ s<1000000):∃ vr vq vv vt vu vo tag,pv=NB nm (v6 vr vq vv vt vu vo) s.miss∧CM h lo h.next tag (v6 vr vq vv vt vu vo) (nS s) (cS s):=by
 obtain⟨tag,r,vq,vv,vt,vu,vo,rfl,hp⟩:=ho
 unfold IJ at hs
 refine⟨qS r s.rows.length AG,vq,vv,vt,vu,vo,tag,rfl,fun j h1 h2=>⟨Ij s h1 h2,?_,?_⟩⟩
 ·have:j=1∨j=2∨j=3∨j=4∨j=5∨j=6:=by omega
  rcases this with rfl | rfl | rfl | rfl | rfl | rfl
  ·show s.rows.length<_;omega
  ·show s.queues.length<_;omega
  ·show s.vars.length<_;omega
  ·show s.tags.length<_;omega
  ·show s.rules.length<_;omega
  ·show s.on.length<_;omega
 ·have:j=1∨j=2∨j=3∨j=4∨j=5∨j=6:=by omega
  rcases this with rfl | rfl | rfl | rfl | rfl | rfl
  ·exact .inr ⟨r,[],rfl,by rw[List.append_nil];exact hp.rows,hp.lr.1,hp.lr.2,hp.tr⟩
  ·exact SN hp.q
  ·exact SN hp.v
  ·exact SN hp.t
  ·exact SN hp.u
  ·exact SN hp.o
theorem tU {h:AA} {lo up n w:Nat} {tag:Nat→Nat} {j:Nat} {v:Value} {cs:List Value} {ty:TypeId} (hl:cs.length=n*w) (hup:up≤h.next) (hor:(n=0∧v=Z0)∨∃ id ex,v=qS id n AG∧h.get id=.row (cs++ex) ty true false∧lo≤id∧id<up∧tag id=j):AV lo h v n w cs:=by
 rcases hor with⟨rfl,rfl⟩ | ⟨id,ex,rfl,b,c,d,_⟩
 ·have:cs=[]:=List.length_eq_zero_iff.1 (by rw[hl,Nat.zero_mul])
  rw[this]
  exact AV.nil _ _ _
 ·exact AV.row b ⟨c,by omega⟩ hl
theorem CM.pol {h:AA} {lo up:Nat} {tag:Nat→Nat} {v:Nat→Value} {nm:ByteArray} {s:AN} (hS:CM h lo up tag v (nS s) (cS s)) (hup:up≤h.next):DT lo h (NB nm v s.miss) nm s:=
 have f:=fun j h1 h2=>tU (j:=j) (hS j h1 h2).1 hup (hS j h1 h2).2.2
 ⟨_,_,_,_,_,_,rfl,G4.of (f 1 (by omega) (by omega)),f 2 (by omega) (by omega),f 3 (by omega) (by omega),f 4 (by omega) (by omega),f 5 (by omega) (by omega),f 6 (by omega) (by omega)⟩
theorem CM.up {h:AA} {lo up up':Nat} {tag:Nat→Nat} {v:Nat→Value} {n:Nat→Nat} {c:Nat→List Value} (hS:CM h lo up tag v n c) (hl:up≤up'):CM h lo up' tag v n c:=fun j h1 h2=>by
 obtain⟨a,b,hor⟩:=hS j h1 h2
 refine⟨a,b,?_⟩
 rcases hor with h9 | ⟨id,ex,e1,e2,e3,e4,e5⟩
 ·exact .inl h9
 ·exact .inr ⟨id,ex,e1,e2,e3,by omega,e5⟩
noncomputable def ML (n:Nat):AK:=FV MJ (FV LI (AU n))
theorem cT (n:Nat):CR Tryd.prog (ML n)∧BZ (ML n):=O_ oB (O_ zH (Fsx n))
section
variable {n:Nat} {f:FuncId} {args:List Value} {h:AA} {r:Value × AA}
theorem Ix (hg:h.get 0=DK):ML n 14 [] h=some (.bool true,h):=by
 refine Q5 ?_
 unfold MJ LR
 rw[if_pos ⟨rfl,rfl,hg⟩]
theorem lJ (hf:f≠14):MJ f args h=none:=by
 unfold MJ LR
 rw[if_neg (fun hc=>hf hc.1)]
theorem O7 (hf:f≠14) (hf2:f≠36) (hb:AU n f args h=some r):ML n f args h=some r:=by
 unfold ML FV
 have e2:LI f args h=none:=by
  unfold LI
  rw[dif_neg (fun hc=>hf2 hc.1)]
 rw[lJ hf,e2]
 exact hb
theorem De (hb:LI 36 args h=some r):ML n 36 args h=some r:=by
 unfold ML FV
 rw[lJ (by decide),hb]
end
section
variable {h:AA}
theorem vD:G_ Tryd.prog 30=some 168:=by kernel_rfl
theorem jK {e:KP}:EA Tryd.prog h 60 1 [(0,e.pv)]=some (qS h.next 1 1,h.push (.row (FU e) 30 false false)):=by
 have hc:e.pv.cells=#[.string e.nm,e.v 1,e.v 2,e.v 3,e.v 4,e.v 5,e.v 6,iv e.ms]:=rfl
 have hc0:M_.cells=#[.string ByteArray.empty,Z0,Z0,Z0,Z0,Z0,Z0,iv 0]:=rfl
 simp[EA,SG,HR,J7,KX,hc,hc0,GU,ER,Go.Sx.lay,FU]
theorem kK {lo:Nat} {v:Value} {K:List KP} {e:KP} (hl:FM 30 h lo v K.length (GC K)) (hco:(GC K).all Go.Sx.one=true) (heo:(FU e).all Go.Sx.one=true) (hlo:lo≤h.next) (hf:h.floor≤lo) (hn:K.length<1000) :
  ∃ v' h',C4 Tryd.prog (h.push (.row (FU e) 30 false false)) 60 v (qS h.next 1 1)=some (v',h')∧FM 30 h' h.next v' (K++[e]).length (GC (K++[e]))∧h'.floor=h.floor∧h.next≤h'.next∧∀ i,i<h.next→(∀ m c,v≠qS i m c)→h'.get i=h.get i:=by
 have e1:GC (K++[e])=GC K++FU e:=by unfold GC;rw[List.flatMap_append];simp
 rw[e1,List.length_append,List.length_singleton]
 exact xH (z:=M_) SG HR vD J7 rfl (by decide) (by decide) hl (m_ K) hco rfl heo hlo hf (by omega)
end
structure II (h0:Nat) (H:AA) (K W:List KP) (S:List AN) (C:Nat→Nat→List Value) (kv wv:Value):Prop where
 lk:K.length=S.length
 lw:W.length=S.length
 gk:FM 30 H h0 kv K.length (GC K)
 gw:FM 30 H h0 wv W.length (GC W)
 ne:∀ id a b a' b',kv=qS id a b→wv≠qS id a' b'
 six:∀ (i:Nat) e s,K[i]?=some e→S[i]?=some s→CM H e.lo e.up e.tag e.v e.n (C i)∧e.n=nS s∧e.ms=s.miss∧h0≤e.lo∧e.up≤H.next∧K5 s∧IJ s≤900∧0<s.rows.length
 want:∀ (i:Nat) e s,W[i]?=some e→S[i]?=some s→∃ Hw:AA,DT e.lo Hw e.pv e.nm s∧Hw.next=e.up∧e.up≤H.next∧h0≤e.lo∧∀ j,e.lo≤j→j<e.up→H.get j=Hw.get j
 nm:∀ (i:Nat) e e',K[i]?=some e→W[i]?=some e'→e.nm=e'.nm
 dis:∀ (i j:Nat) e e',K[i]?=some e→W[j]?=some e'→e.up≤e'.lo∨e'.up≤e.lo
 ord:∀ (i j:Nat) e e',i<j→K[i]?=some e→K[j]?=some e'→e.up≤e'.lo
 sep:∀ e,e∈K∨e∈W→∀ j,e.lo≤j→j<e.up→∀ a b,kv≠qS j a b∧wv≠qS j a b
 one:(GC K).all Go.Sx.one=true∧(GC W).all Go.Sx.one=true
theorem II.nil (h0:Nat) (H:AA):II h0 H [] [] [] (fun _ _=>[]) (Z0) (Z0):=
 { lk:=rfl
   lw:=rfl
   gk:=.inl ⟨rfl,rfl,rfl⟩
   gw:=.inl ⟨rfl,rfl,rfl⟩
   ne:=fun _ _ _ _ _ h=>(by cases h)
   six:=fun i e s h=>(by simp at h)
   want:=fun i e s h=>(by simp at h)
   nm:=fun i e e' h=>(by simp at h)
   dis:=fun i j e e' h=>(by simp at h)
   ord:=fun i j e e' _ h=>(by simp at h)
   sep:=fun e h=>(by simp at h)
   one:=⟨rfl,rfl⟩ }
section
variable {h0:Nat} {H H':AA} {K W:List KP} {S:List AN} {C:Nat→Nat→List Value} {kv wv:Value}
theorem II.mono (ho:II h0 H K W S C kv wv) (hn:H.next≤H'.next) (hg:∀ j,h0≤j→j<H.next→H'.get j=H.get j):II h0 H' K W S C kv wv:=
 { ho with
   gk:=ho.gk.mono hn fun i a _ b=>hg i b a
   gw:=ho.gw.mono hn fun i a _ b=>hg i b a
   six:=fun i e s h1 h2=>by
    obtain⟨a,b,c,d,f,g⟩:=ho.six i e s h1 h2
    exact⟨a.mono fun k k1 k2=>hg k (by omega) (by omega),b,c,d,by omega,g⟩
   want:=fun i e s h1 h2=>by
    obtain⟨Hw,a,b,c,d,f⟩:=ho.want i e s h1 h2
    exact⟨Hw,a,b,by omega,d,fun j j1 j2=>by rw[hg j (by omega) (by omega)];exact f j j1 j2⟩ }
theorem II.sp (ho:II h0 H K W S C kv wv) {p:Nat} {e:KP} {c':Nat→List Value} (he:K[p]?=some e) (hn:H.next≤H'.next) (hg:∀ j,j<H.next→(j<e.lo∨e.up≤j)→H'.get j=H.get j) (hS:CM H' e.lo e.up e.tag e.v e.n c'):II h0 H' K W S (fun i=>if i=p then c' else C i) kv wv:=
 { ho with
   gk := by
    rcases ho.gk with h1 | ⟨id,h1,h2,h3,h4⟩
    ·exact .inl h1
    ·refine .inr ⟨id,h1,h2,by omega,?_⟩
     rw[hg id h3 (by
      rcases Nat.lt_or_ge id e.lo with a | a
      ·exact .inl a
      ·rcases Nat.lt_or_ge id e.up with b | b
       ·exact absurd h1 (ho.sep e (.inl (List.mem_of_getElem? he)) id a b _ _).1
       ·exact .inr b)]
     exact h4
   gw := by
    rcases ho.gw with h1 | ⟨id,h1,h2,h3,h4⟩
    ·exact .inl h1
    ·refine .inr ⟨id,h1,h2,by omega,?_⟩
     rw[hg id h3 (by
      rcases Nat.lt_or_ge id e.lo with a | a
      ·exact .inl a
      ·rcases Nat.lt_or_ge id e.up with b | b
       ·exact absurd h1 (ho.sep e (.inl (List.mem_of_getElem? he)) id a b _ _).2
       ·exact .inr b)]
     exact h4
   six:=fun i e' s h1 h2=>by
    obtain⟨a,b,c,d,f,g⟩:=ho.six i e' s h1 h2
    by_cases hip:i=p
    ·subst hip
     rw[he] at h1
     cases h1
     simp only[if_true]
     exact⟨hS,b,c,d,by omega,g⟩
    ·simp only[if_neg hip]
     refine⟨a.mono fun k k1 k2=>hg k (by omega) ?_,b,c,d,by omega,g⟩
     rcases Nat.lt_or_gt_of_ne hip with h | h
     ·have:=ho.ord i p e' e h h1 he
      omega
     ·have:=ho.ord p i e e' h he h1
      omega
   want:=fun i e' s h1 h2=>by
    obtain⟨Hw,a,b,c,d,f⟩:=ho.want i e' s h1 h2
    refine⟨Hw,a,b,by omega,d,fun j j1 j2=>?_⟩
    rw[hg j (by omega) (by have:=ho.dis p i e e' he h1;omega)]
    exact f j j1 j2 }
theorem I0 {α:Type} {L:List α} {x y:α} {i:Nat} (h:(L++[x])[i]?=some y):(i<L.length∧L[i]?=some y)∨(i=L.length∧y=x):=by
 rcases Nat.lt_or_ge i L.length with h1 | h1
 ·rw[List.getElem?_append_left h1] at h
  exact .inl ⟨h1,h⟩
 ·rw[List.getElem?_append_right h1] at h
  have e0:i-L.length=0:=by
   rcases Nat.eq_zero_or_pos (i-L.length) with h9 | h9
   ·exact h9
   ·rw[List.getElem?_eq_none (by simp;omega)] at h
    cases h
  rw[e0] at h
  cases h
  exact .inr ⟨by omega,rfl⟩
theorem II.add {X Y:AA} (hX:II h0 X K W S C kv wv) (hYX:X.next≤Y.next) (hYo:∀ j,j<X.next→Y.get j=X.get j) {e e':KP} {s:AN} (hf:Y.floor≤h0) (h0X:h0≤X.next) (hK:K.length<100)
  (hS:CM Y e.lo e.up e.tag e.v e.n (cS s)) (hen:e.n=nS s) (hem:e.ms=s.miss) (hl1:X.next≤e.lo) (hl2:e.up≤e'.lo) (hl2b:e.lo≤e.up) (hl3:e'.up≤Y.next) (hl4:e'.lo≤e'.up) (hsm:K5 s) (ht:IJ s≤900) (hr:0<s.rows.length)
  (hw:DT e'.lo Y e'.pv e'.nm s) (hwu:∃ Hw:AA,DT e'.lo Hw e'.pv e'.nm s∧Hw.next=e'.up∧∀ j,e'.lo≤j→j<e'.up→Y.get j=Hw.get j) (hnm:e.nm=e'.nm) (ho1:(FU e).all Go.Sx.one=true) (ho2:(FU e').all Go.Sx.one=true) :
  ∃ kv' Z1 wv' Z2,C4 Tryd.prog (Y.push (.row (FU e) 30 false false)) 60 kv (qS Y.next 1 1)=some (kv',Z1)∧C4 Tryd.prog (Z1.push (.row (FU e') 30 false false)) 60 wv (qS Z1.next 1 1)=some (wv',Z2) ∧
   II h0 Z2 (K++[e]) (W++[e']) (S++[s]) (fun i=>if i<K.length then C i else cS s) kv' wv'∧Z2.floor=Y.floor∧Y.next≤Z1.next∧Z1.next≤Z2.next∧(∀ j,j<h0→Z2.get j=Y.get j)∧(∀ j,X.next≤j→j<Y.next→Z1.get j=Y.get j):=by
 have hlw:=hX.lw
 have hlk:=hX.lk
 have hY:=hX.mono hYX fun j _ hj=>hYo j hj
 obtain⟨kv',Z1,a1,a2,a3,a4,a5⟩:=kK (e:=e) hY.gk hX.one.1 ho1 (by omega) hf (by omega)
 have kX:∀ {j},X.next≤j→∀ m c,kv≠qS j m c:=fun hj=>hX.gk.above hj
 have wX:∀ {j},X.next≤j→∀ m c,wv≠qS j m c:=fun hj=>hX.gw.above hj
 have gw1:FM 30 Z1 h0 wv W.length (GC W):=by
  rcases hY.gw with h1 | ⟨id,h1,h2,h3,h4⟩
  ·exact .inl h1
  ·refine .inr ⟨id,h1,h2,by omega,?_⟩
   rw[a5 id h3 fun m c hk=>hX.ne id _ _ _ _ hk h1]
   exact h4
 obtain⟨wv',Z2,b1,b2,b3,b4,b5⟩:=kK (e:=e') gw1 hX.one.2 ho2 (by omega) (by omega) (by omega)
 have far:∀ j,j<Y.next→(∀ m c,kv≠qS j m c)→(∀ m c,wv≠qS j m c)→Z2.get j=Y.get j:=fun j hj n1 n2=>by rw[b5 j (by omega) n2,a5 j hj n1]
 have kup:∀ (i:Nat) e2,K[i]?=some e2→h0≤e2.lo∧e2.up≤X.next:=fun i e2 h1=>by
  obtain⟨s2,hs2⟩:∃ s2,S[i]?=some s2:=⟨_,List.getElem?_eq_getElem (by have:=(List.getElem?_eq_some_iff.1 h1).1;omega)⟩
  have:=hX.six i e2 s2 h1 hs2
  exact⟨this.2.2.2.1,this.2.2.2.2.1⟩
 have wup:∀ (i:Nat) e2,W[i]?=some e2→h0≤e2.lo∧e2.up≤X.next:=fun i e2 h1=>by
  obtain⟨s2,hs2⟩:∃ s2,S[i]?=some s2:=⟨_,List.getElem?_eq_getElem (by have:=(List.getElem?_eq_some_iff.1 h1).1;omega)⟩
  obtain⟨_,_,_,b,c,_⟩:=hX.want i e2 s2 h1 hs2
  exact⟨c,b⟩
 have hlk2:K.length=S.length:=hlk
 refine⟨kv',Z1,wv',Z2,a1,b1,⟨by simp[hlk],by simp[hlw],?_,b2.weak (by omega),?_,?_,?_,?_,?_,?_,?_,?_⟩,by omega,a4,b4,fun j hj=>far j (by omega) (hX.gk.below hj) (hX.gw.below hj),fun j j1 j2=>a5 j j2 (kX j1)⟩
 ·exact(a2.mono b4 fun i hi _ hlo=>b5 i hi (wX (by omega))).weak (by omega)
 ·intro id a b a' b' hk hw9
  rcases Nat.lt_or_ge id Z1.next with h9 | h9
  ·exact b2.below h9 _ _ hw9
  ·exact a2.above h9 _ _ hk
 ·intro i e2 s2 h1 h2
  rcases I0 h1 with⟨l1,g1⟩ | ⟨l1,rfl⟩
  ·rcases I0 h2 with⟨l2,g2⟩ | ⟨l2,rfl⟩
   ·obtain⟨a,b,c,d,f,g⟩:=hY.six i e2 s2 g1 g2
    have hu:=kup i e2 g1
    simp only[l1,if_true]
    exact⟨a.mono fun k k1 k2=>far k (by omega) (fun m c=>(hX.sep e2 (.inl (List.mem_of_getElem? g1)) k k1 k2 m c).1) (fun m c=>(hX.sep e2 (.inl (List.mem_of_getElem? g1)) k k1 k2 m c).2),b,c,d,by omega,g⟩
   ·omega
  ·rcases I0 h2 with⟨l2,g2⟩ | ⟨l2,rfl⟩
   ·omega
   ·simp only[if_neg (show ¬ i<K.length by omega)]
    exact⟨hS.mono fun k k1 k2=>far k (by omega) (kX (by omega)) (wX (by omega)),hen,hem,by omega,by omega,hsm,ht,hr⟩
 ·intro i e2 s2 h1 h2
  rcases I0 h1 with⟨l1,g1⟩ | ⟨l1,rfl⟩
  ·rcases I0 h2 with⟨l2,g2⟩ | ⟨l2,rfl⟩
   ·obtain⟨Hw,a,b,c,d,f⟩:=hY.want i e2 s2 g1 g2
    have hu:=wup i e2 g1
    exact⟨Hw,a,b,by omega,d,fun j j1 j2=>by rw[far j (by omega) (fun m c=>(hX.sep e2 (.inr (List.mem_of_getElem? g1)) j j1 j2 m c).1) (fun m c=>(hX.sep e2 (.inr (List.mem_of_getElem? g1)) j j1 j2 m c).2)];exact f j j1 j2⟩
   ·omega
  ·rcases I0 h2 with⟨l2,g2⟩ | ⟨l2,rfl⟩
   ·omega
   ·obtain⟨Hw,a,b,c⟩:=hwu
    exact⟨Hw,a,b,by omega,by omega,fun j j1 j2=>by rw[far j (by omega) (kX (by omega)) (wX (by omega))];exact c j j1 j2⟩
 ·intro i e2 e3 h1 h2
  rcases I0 h1 with⟨l1,g1⟩ | ⟨l1,rfl⟩
  ·rcases I0 h2 with⟨l2,g2⟩ | ⟨l2,rfl⟩
   ·exact hX.nm i e2 e3 g1 g2
   ·omega
  ·rcases I0 h2 with⟨l2,g2⟩ | ⟨l2,rfl⟩
   ·omega
   ·exact hnm
 ·intro i j e2 e3 h1 h2
  rcases I0 h1 with⟨l1,g1⟩ | ⟨l1,rfl⟩
  ·rcases I0 h2 with⟨l2,g2⟩ | ⟨l2,rfl⟩
   ·exact hX.dis i j e2 e3 g1 g2
   ·have:=kup i e2 g1
    exact .inl (by omega)
  ·rcases I0 h2 with⟨l2,g2⟩ | ⟨l2,rfl⟩
   ·have:=wup j e3 g2
    exact .inr (by omega)
   ·exact .inl hl2
 ·intro i j e2 e3 hij h1 h2
  rcases I0 h1 with⟨l1,g1⟩ | ⟨l1,rfl⟩
  ·rcases I0 h2 with⟨l2,g2⟩ | ⟨l2,rfl⟩
   ·exact hX.ord i j e2 e3 hij g1 g2
   ·have:=kup i e2 g1
    omega
  ·rcases I0 h2 with⟨l2,g2⟩ | ⟨l2,rfl⟩
   ·omega
   ·omega
 ·intro e2 he2 j j1 j2 a b
  have hj:j<Y.next:=by
   rcases he2 with h9 | h9
   ·rcases List.mem_append.1 h9 with h9 | h9
    ·obtain⟨i,hi⟩:=List.getElem?_of_mem h9
     have:=kup i e2 hi
     omega
    ·rw[List.mem_singleton] at h9
     rw[h9] at j2
     omega
   ·rcases List.mem_append.1 h9 with h9 | h9
    ·obtain⟨i,hi⟩:=List.getElem?_of_mem h9
     have:=wup i e2 hi
     omega
    ·rw[List.mem_singleton] at h9
     rw[h9] at j2
     omega
  exact⟨a2.below hj _ _,b2.below (by omega) _ _⟩
 ·have e1:GC (K++[e])=GC K++FU e:=by unfold GC;rw[List.flatMap_append];simp
  have e2:GC (W++[e'])=GC W++FU e':=by unfold GC;rw[List.flatMap_append];simp
  rw[e1,e2,List.all_append,List.all_append,hX.one.1,hX.one.2,ho1,ho2]
  exact⟨rfl,rfl⟩
end
section
variable {call:AK} {N:Nat} {h:AA}
theorem tC {l:List AB} {v:Value} (hv:AL h v l) (hl:l.length<2932031007403) (hfl:h.floor≤h.next) (hN:12<N) :
  ∃ h',AW Tryd.prog call N 15 [v] h=some (qS h.next l.length (l.length+9),h')∧((∃ L,QY h' h.next l L)∧h'.next=h.next+1∧h'.floor=h.floor∧∀ i,i<h.next→h'.get i=h.get i):=by
 refine E0 (R:=fun h'=>(∃ L,QY h' h.next l L)∧h'.next=h.next+1∧h'.floor=h.floor∧∀ i,i<h.next→h'.get i=h.get i) Tryd.func15 rfl (by simp[Tryd.f15]) ?_
 have hr:Tryd.f15.results.toList=[.tmp 2]:=rfl
 have hlen:=fun h'=>hv.len (h':=h')
 have w9:IntKind.i64.wrap ((l.length:Int)+9)=((l.length+9:Nat):Int):=CG (by omega) (by omega)
 have hmk:=qK (h:=h) (n:=l.length+9) (by omega)
 have hv1:AL (h.push (.row ((List.replicate (l.length+9) WO).flatMap AP) 46 false false)) v l:=hv.mono (by show h.next≤h.next+1;omega) fun i hi=>AM hi
 obtain⟨H1,hcp,g1,n1,f1,o1⟩:=xM (id:=h.next) (n:=l.length+9) (c:=l.length+9) hv1 BL (by rw[List.length_replicate]) (by omega) (by show h.next<h.next+1;omega) hfl
 have hlen9:∀ h':AA,B_ Tryd.prog h' 22 (qS h.next (l.length+9) (l.length+9))=some (iv ((l.length+9:Nat):Int)):=fun h'=>OL
 have hsl:=fun (H:AA)=>eW (h:=H) (id:=h.next) (n:=l.length+9) (m:=l.length) (c:=l.length+9) (by omega) (by unfold AG;omega)
 simp only[eE,seval,↓eP,hlen,w9,hmk,hcp]
 have n1':H1.next=h.next+1:=n1
 have f1':H1.floor=h.floor:=f1
 have o1':∀ i,i<h.next→H1.get i=h.get i:=fun i hi=>by rw[o1 i (by omega),AM hi]
 refine WK.loop (fun k s'=>s'.T.get 0=v∧s'.T.get 3=qS h.next (l.length+9) (l.length+9)∧s'.T.get 4=iv ((l.length+k:Nat):Int)∧k≤9∧s'.h.next=h.next+1∧s'.h.floor=h.floor∧(∀ i,i<h.next→s'.h.get i=h.get i) ∧
  ∃ L:List AB,s'.h.get h.next=.row (L.flatMap AP) 46 false false∧L.length=l.length+9∧(∀ j,j<l.length→L[j]?=l[j]?)∧∀ q,q<k→L[l.length+q]?=some (mark (l.length+q))) 9 (by omega) ?_ ?_
 ·refine⟨by simp only[eE,seval,↓eP,rP],by simp only[eE,seval,↓eP,rP],by simp only[eE,seval,↓eP,rP];rfl,by omega,n1',f1',o1',_,g1,?_,fun j hj=>by rw[List.getElem?_append_left hj],fun q hq=>by omega⟩
  rw[List.length_append,List.length_drop,List.length_replicate]
  omega
 ·rintro k ⟨T1,H2⟩ hk ⟨t0,t3,t4,hk9,n2,f2,o2,L,gL,lL,own,marks⟩
  simp only at t0 t3 t4 n2 f2 o2 gL
  by_cases hlt:k<9
  ·have c1:decide (((l.length+k:Nat):Int)<((l.length+9:Nat):Int))=true:=by simp;omega
   have hix:=SY (id:=h.next) (n:=l.length+9) (c:=l.length+9) (i:=l.length+k) (by omega)
   have hst:=lP (i:=l.length+k) (x:=⟨-7,R8,0,0,((l.length+k:Nat):Int)⟩) rfl gL (by omega) (by omega)
   have w1:IntKind.i64.wrap (((l.length+k:Nat):Int)+1)=((l.length+(k+1):Nat):Int):=CG (by omega) (by omega)
   simp only[eE,seval,↓eP,t0,t3,t4,hlen9,c1,nV,hix,hst,w1]
   refine⟨hlt,by omega,n2,f2,fun i hi=>by rw[AQ (by omega) (by omega)];exact o2 i hi,_,CE rfl (by omega),by rw[List.length_set];exact lL,fun j hj=>?_,fun q hq=>?_⟩
   ·rw[List.getElem?_set_ne (by omega)]
    exact own j hj
   ·rcases Nat.lt_or_ge q k with h1 | h1
    ·rw[List.getElem?_set_ne (by omega)]
     exact marks q h1
    ·have:q=k:=by omega
     subst this
     rw[List.getElem?_set_self (by omega)]
     rfl
  ·have c1:decide (((l.length+k:Nat):Int)<((l.length+9:Nat):Int))=false:=by simp;omega
   have:k=9:=by omega
   subst this
   simp only[eE,seval,↓eP,hr,t0,t3,t4,hlen,hlen9,c1,hsl]
   exact⟨⟨L,gL,lL,own,marks⟩,n2,f2,o2⟩
end
theorem eC {n:Nat} {h:AA} {l:List AB} {v:Value} (hv:AL h v l) (hl:l.length<2932031007403) (hfl:h.floor≤h.next) (hn:20<n) :
  ∃ h',AU n 15 [v] h=some (qS h.next l.length (l.length+9),h')∧((∃ L,QY h' h.next l L)∧h'.next=h.next+1∧h'.floor=h.floor∧∀ i,i<h.next→h'.get i=h.get i):=by
 obtain⟨n,rfl⟩:=ET hn
 exact OE (CV ⟨rfl,rfl,rfl⟩) rfl (tC hv hl hfl (by omega))
section
variable {call:AK} {N:Nat} {h:AA}
end
end Go.Proofs.YtipekdhneagdbaaDoor
namespace Go.Proofs.YtipekdhneagdbaaDoor
open Go Go.Sx Go.ChangeShapes Go.WideShapes Go.ChangeAt Go.RowKit
set_option maxRecDepth 100000
set_option linter.unusedSimpArgs false
set_option linter.unusedVariables false
set_option maxHeartbeats 64000000
section
variable {α:Type} {cells:α→List Value} {w:Nat} {l:List α}
theorem xU (hcl:∀ x,(cells x).length=w):(l.flatMap cells).length=l.length*w:=by
 induction l with
 | nil=>simp
 | cons x l ih=>
  rw[List.flatMap_cons,List.length_append,ih,hcl,List.length_cons,Nat.succ_mul]
  omega
theorem aW (hcl:∀ x,(cells x).length=w):∀ {l:List α} {i j:Nat} {x:α},l[i]?=some x→j<w→(l.flatMap cells)[i*w+j]?=(cells x)[j]?
 | [],i,j,x,h,_=>by simp at h
 | y :: l,0,j,x,h,hj=>by
  cases h
  rw[List.flatMap_cons,Nat.zero_mul,Nat.zero_add,List.getElem?_append_left (by rw[hcl];exact hj)]
 | y :: l,i+1,j,x,h,hj=>by
  have h':l[i]?=some x:=h
  rw[List.flatMap_cons,List.getElem?_append_right (by rw[hcl,Nat.succ_mul];omega),hcl,← aW hcl h' hj]
  congr 1
  rw[Nat.succ_mul]
  omega
end
def IY (W:World) (v:Value) (n w:Nat) (cs:List Value):Prop:=cs.length=n*w∧((n=0∧v=Z0) ∨
 ∃ b off cap CS ty fr,v=.slice (some ⟨b,off,none⟩) n cap∧n≤cap∧cap<AG∧W.heap[b]?=some (.cells CS ty fr)∧∀ k,k<n*w→CS[off+k]?=cs[k]?)
section
variable {H:Type} {enc:TypeId × Value→H} {W:World} {base b0:Nat} {sp:Nat→Bool} {hd:Bool}
theorem MS {α:Type} {cells:α→List Value} {Q:α→Prop} {w:Nat} {t e:TypeId} (ht:Tryd.prog.underlying t=some (.slice e)) (hw:Tryd.prog.cellsOf e=w)
  (hopen:∀ n cs y,DataW.trod enc Tryd.prog W base sp hd n e cs=some y→∃ x,cs=cells x∧Q x) (hcl:∀ x,(cells x).length=w) (hw0:0<w)
  {v:Value} {n:Nat} {y:DataW H × List MemPlace} (hval:Cell.okWide Tryd.prog W .any b0 t v) (h:DataW.trod enc Tryd.prog W base sp hd n t [v]=some y):∃ l:List α,(∀ x∈l,Q x)∧IY W v l.length w (l.flatMap cells):=by
 rcases DataW.trod_slice ht h with⟨h1,h2⟩ | ⟨a',len,cap,elems,rest,n',_,h1,_,hb,hl,hm,hlen,hel,_⟩
 ·cases h1
  exact⟨[],fun x hx=>(by cases hx),by simp,.inl ⟨rfl,rfl⟩⟩
 ·cases h1
  simp only[Cell.okWide,ht,Cell.ok] at hval
  obtain⟨_,_,_,hsp,row,cells',hsh,_⟩:=hval
  obtain⟨b,off,spot⟩:=a'
  simp only at hsp
  subst hsp
  have hblk:∃ CS ty fr,W.heap[b]?=some (.cells CS ty fr):=by
   simp only[World.shape?] at hsh
   split at hsh
   ·rename_i CS ty fr hh;exact⟨_,_,_,hh⟩
   ·cases hsh
  obtain⟨CS,ty,fr,hblk⟩:=hblk
  have each:∀ i,i<len→∃ x:α,Q x∧∀ j,j<w→CS[off+(i*w+j)]?=(cells x)[j]?:=fun i hi=>by
   have:=hel i hi
   obtain⟨y,hy⟩:∃ y,elems[i]?=some y:=⟨_,List.getElem?_eq_getElem (by omega)⟩
   rw[hy,UP,hw,Option.bind_eq_some_iff] at this
   obtain⟨cs,hcs,ht⟩:=this
   obtain⟨x,rfl,hx⟩:=hopen _ _ _ ht
   obtain⟨_,hc⟩:=ZK hcs
   refine⟨x,hx,fun j hj=>?_⟩
   rw[← hc j hj,← Nat.add_assoc]
   simp only[World.cell?,hblk,Option.isSome_none,Bool.false_eq_true,if_false]
  obtain⟨l,hll,hl1⟩:∃ l:List α,l.length=len∧∀ i x,l[i]?=some x→Q x∧∀ j,j<w→CS[off+(i*w+j)]?=(cells x)[j]?:=by
   have : ∀ m,m≤len→∃ l:List α,l.length=m∧∀ i x,l[i]?=some x→Q x∧∀ j,j<w→CS[off+(i*w+j)]?=(cells x)[j]?:=by
    intro m
    induction m with
    | zero=>exact fun _=>⟨[],rfl,fun i x h=>by simp at h⟩
    | succ m ih=>
     intro hm
     obtain⟨l,h1,h2⟩:=ih (by omega)
     obtain⟨x,hx⟩:=each m (by omega)
     refine⟨l++[x],by simp[h1],fun i y hy=>?_⟩
     rcases Nat.lt_or_ge i l.length with h3 | h3
     ·rw[List.getElem?_append_left h3] at hy
      exact h2 i y hy
     ·rw[List.getElem?_append_right h3] at hy
      have:i-l.length=0:=by
       rcases Nat.eq_zero_or_pos (i-l.length) with h4 | h4
       ·exact h4
       ·rw[List.getElem?_eq_none (by simp;omega)] at hy
        cases hy
      rw[this] at hy
      cases hy
      have:i=m:=by omega
      subst this
      exact hx
   exact this len (Nat.le_refl _)
  unfold maxLen at hm
  refine⟨l,fun x hx=>?_,xU hcl,.inr ⟨b,off,cap,CS,ty,fr,by rw[hll],by omega,by unfold AG;omega,hblk,fun k hk=>?_⟩⟩
  ·obtain⟨i,hi⟩:=List.getElem?_of_mem hx
   exact(hl1 i x hi).1
  ·have hdm:=Nat.div_add_mod k w
   rw[Nat.mul_comm] at hdm
   have hj:=Nat.mod_lt k hw0
   have hi:k/w<l.length:=(Nat.div_lt_iff_lt_mul hw0).2 hk
   have hx:=List.getElem?_eq_getElem hi
   rw[← hdm,(hl1 _ _ hx).2 _ hj,aW hcl hx hj]
end
section
variable {H:Type} {enc:TypeId × Value→H} {W:World} {base b0:Nat} {sp:Nat→Bool} {hd:Bool}
end
section
variable {H:Type} {enc:TypeId × Value→H} {W:World} {base b0:Nat} {sp:Nat→Bool} {hd:Bool} {v:Value} {d:DataW H} {p:List MemPlace}
end
theorem R3:Tryd.prog.underlying 59=some (.slice 22):=by kernel_rfl
def XK (W:World) (v:Value) (l:List AB):Prop:=(l=[]∧(v=Z0∨∃ a c,v=.slice (some a) 0 c)) ∨
 (0<l.length∧∃ b off cap CS ty fr,v=.slice (some ⟨b,off,none⟩) l.length cap∧l.length≤cap∧cap<AG∧W.heap[b]?=some (.cells CS ty fr)∧∀ k,k<l.length*5→CS[off+k]?=(l.flatMap AP)[k]?)
section
variable {H:Type} {enc:TypeId × Value→H} {W:World} {base b0:Nat} {sp:Nat→Bool} {hd:Bool}
theorem Iy {a:Addr} {n:Nat} {cs:List Value} (h:W.cells? base a (n+1)=some cs):a.spot=none∧∃ CS ty fr,W.heap[a.block]?=some (.cells CS ty fr):=by
 unfold World.cells? at h
 split at h
 ·have:=mapM_some_get h 0 0 (by simp)
  have ha:a.add 0=a:=by unfold Addr.add;rw[if_pos rfl]
  rw[ha] at this
  have hl:=mapM_some_length h
  simp at hl
  have h0:∃ u,W.cell? a=some u:=by
   rw[this]
   exact⟨_,List.getElem?_eq_getElem (by omega)⟩
  obtain⟨u,hu⟩:=h0
  unfold World.cell? at hu
  split at hu
  ·rename_i c x y hh
   refine⟨?_,c,x,y,hh⟩
   cases hs:a.spot with
   | none=>rfl
   | some _=>rw[hs] at hu;simp at hu
  ·cases hu
 ·cases h
theorem Fo {n:Nat} {cs:List Value} {y:DataW H × List MemPlace} (h:DataW.trod enc Tryd.prog W base sp hd n 22 cs=some y):∃ x:Value × List AB,cs=[x.1]∧(XK W x.1 x.2∧∀ r∈x.2,J9 r):=by
 rcases DataW.trod_slice Tryd.underlying22 h with⟨h1,h2⟩ | ⟨a',len,cap,elems,rest,n',_,h1,_,hb,hl,hm,hlen,hel,_⟩
 ·exact⟨(_,[]),h1,.inl ⟨rfl,.inl rfl⟩,fun r hr=>by cases hr⟩
 ·rcases Nat.eq_zero_or_pos len with h0 | h0
  ·subst h0
   exact⟨(_,[]),h1,.inl ⟨rfl,.inr ⟨_,_,rfl⟩⟩,fun r hr=>by cases hr⟩
  obtain⟨b,off,spot⟩:=a'
  have e0:=hel 0 h0
  obtain⟨y0,hy0⟩:∃ y,elems[0]?=some y:=⟨_,List.getElem?_eq_getElem (by omega)⟩
  rw[hy0,Nat.zero_mul,PZ,Option.bind_eq_some_iff] at e0
  obtain⟨cs0,hcs0,_⟩:=e0
  have ha:(⟨b,off,spot⟩:Addr).add 0=⟨b,off,spot⟩:=by unfold Addr.add;rw[if_pos rfl]
  rw[ha] at hcs0
  obtain⟨hsp,CS,ty,fr,hblk⟩:=Iy hcs0
  simp only at hsp hblk
  subst hsp
  have each:∀ i,i<len→∃ x:AB,J9 x∧∀ j,j<5→CS[off+(i*5+j)]?=(AP x)[j]?:=fun i hi=>by
   have:=hel i hi
   obtain⟨y,hy⟩:∃ y,elems[i]?=some y:=⟨_,List.getElem?_eq_getElem (by omega)⟩
   rw[hy,UP,PZ,Option.bind_eq_some_iff] at this
   obtain⟨cs,hcs,ht⟩:=this
   obtain⟨x,rfl,hx⟩:=UJ ht
   obtain⟨_,hc⟩:=ZK hcs
   refine⟨x,hx,fun j hj=>?_⟩
   rw[← hc j hj,← Nat.add_assoc]
   simp only[World.cell?,hblk,Option.isSome_none,Bool.false_eq_true,if_false]
  obtain⟨l,hll,hl1⟩:∃ l:List AB,l.length=len∧∀ i x,l[i]?=some x→J9 x∧∀ j,j<5→CS[off+(i*5+j)]?=(AP x)[j]?:=by
   have : ∀ m,m≤len→∃ l:List AB,l.length=m∧∀ i x,l[i]?=some x→J9 x∧∀ j,j<5→CS[off+(i*5+j)]?=(AP x)[j]?:=by
    intro m
    induction m with
    | zero=>exact fun _=>⟨[],rfl,fun i x h=>by simp at h⟩
    | succ m ih=>
     intro hm
     obtain⟨l,h1,h2⟩:=ih (by omega)
     obtain⟨x,hx⟩:=each m (by omega)
     refine⟨l++[x],by simp[h1],fun i y hy=>?_⟩
     rcases Nat.lt_or_ge i l.length with h3 | h3
     ·rw[List.getElem?_append_left h3] at hy
      exact h2 i y hy
     ·rw[List.getElem?_append_right h3] at hy
      have:i-l.length=0:=by
       rcases Nat.eq_zero_or_pos (i-l.length) with h4 | h4
       ·exact h4
       ·rw[List.getElem?_eq_none (by simp;omega)] at hy
        cases hy
      rw[this] at hy
      cases hy
      have:i=m:=by omega
      subst this
      exact hx
   exact this len (Nat.le_refl _)
  unfold maxLen at hm
  refine⟨(_,l),h1,.inr ⟨show 0<l.length by omega,b,off,cap,CS,ty,fr,by show Value.slice _ len cap=.slice _ l.length cap;rw[hll],show l.length≤cap by omega,by unfold AG;omega,hblk,fun k hk=>?_⟩,fun r hr=>by
   obtain⟨i,hi⟩:=List.getElem?_of_mem hr
   exact(hl1 i r hi).1⟩
  have hk:k<l.length*5:=hk
  show CS[off+k]?=(l.flatMap AP)[k]?
  have hdm:=Nat.div_add_mod k 5
  rw[Nat.mul_comm] at hdm
  have hj:=Nat.mod_lt k (show 0<5 by decide)
  have hi:k/5<l.length:=(Nat.div_lt_iff_lt_mul (by decide)).2 hk
  have hx:=List.getElem?_eq_getElem hi
  rw[← hdm,(hl1 _ _ hx).2 _ hj,aW (cells:=AP) (w:=5) (fun _=>rfl) hx hj]
theorem xQ {v:Value} {d:DataW H} {p:List MemPlace} (hval:Value.okWide Tryd.prog W .any b0 59 v) (h:DataW.Trod enc Tryd.prog W base sp hd 59 v d p) :
  ∃ L:List (Value × List AB),(∀ x∈L,XK W x.1 x.2∧∀ r∈x.2,J9 r)∧IY W v L.length 1 (L.flatMap fun x=>[x.1]):=by
 obtain⟨a,len,cap,rfl⟩:=okWide_slice R3 hval
 obtain⟨fuel,hf⟩:=h
 have hc:Cell.okWide Tryd.prog W .any b0 59 (.slice a len cap):=by simpa only[Value.okWide,R3] using hval
 exact MS (cells:=fun x:Value × List AB=>[x.1]) (Q:=fun x=>XK W x.1 x.2∧∀ r∈x.2,J9 r) R3 (by kernel_rfl) (fun n cs y h=>Fo h) (fun _=>rfl) (by decide) hc hf
end
structure LW where
 v:Value
 n:Nat
 w:Nat
 cs:List Value
 sc:List Value
 ty:TypeId
noncomputable def IN:AA→List LW→AA
 | h,[]=>h
 | h,p :: ps=>IN (h.push (.row p.sc p.ty false true)) ps
theorem YW:∀ (ps:List LW) (h:AA),(IN h ps).next=h.next+ps.length∧(IN h ps).floor=h.floor∧∀ i,i<h.next→(IN h ps).get i=h.get i
 | [],h=>⟨rfl,rfl,fun _ _=>rfl⟩
 | p :: ps,h=>by
  obtain⟨h1,h2,h3⟩:=YW ps (h.push (.row p.sc p.ty false true))
  rw[C6] at h1 h3
  refine⟨by show (IN _ ps).next=_;rw[h1,List.length_cons];omega,h2,fun i hi=>?_⟩
  show (IN _ ps).get i=_
  rw[h3 i (by omega),AM hi]
theorem lD:∀ {ps:List LW} {h:AA} {i:Nat} {p:LW},ps[i]?=some p→(IN h ps).get (h.next+i)=.row p.sc p.ty false true
 | [],h,i,p,hp=>by simp at hp
 | q :: ps,h,0,p,hp=>by
  cases hp
  show (IN _ ps).get h.next=_
  rw[(YW ps _).2.2 _ (by rw[C6];omega),BL]
 | q :: ps,h,i+1,p,hp=>by
  have:=lD (ps:=ps) (h:=h.push (.row q.sc q.ty false true)) (i:=i) (p:=p) hp
  rw[C6] at this
  show (IN _ ps).get (h.next+(i+1))=_
  rw[← this]
  congr 1
  omega
def KV (p:LW):Go.Sx.Loc:=match p.v with
 | .slice (some a) _ _=>⟨a.block,a.off,0,0⟩
 | _=>⟨0,0,0,0⟩
def N_ (ps:List LW):AX:=fun i=>if i=0 then some ⟨0,0,0,0⟩ else (ps[i-1]?).map KV
def M5 (i:Nat) (p:LW):Value:=match p.v with
 | .slice (some _) n c=>qS i n c
 | v=>v
theorem UE {ps:List LW} {i:Nat} {p:LW} (h:ps[i]?=some p):N_ ps (i+1)=some (KV p):=by
 unfold N_
 rw[if_neg (by omega),Nat.add_sub_cancel,h]
 rfl
theorem Jt {W : World} (h : laidMetH Tryd.prog [("winnow/lex.words", Rows.laid_winnow_lex_words)] W) {ps : List LW} (hps : ∀ p ∈ ps, IY W p.v p.n p.w p.cs ∧ p.sc.length = p.cs.length ∧ ∀ (k : Nat) v V, p.sc[k]? = some v → p.cs[k]? = some V → AH (N_ ps) v V) :
  BK Tryd.prog (N_ ps) (IN E5 ps) W∧(∀ i,¬ wr ((IN E5 ps).get i))∧(IN E5 ps).next=ps.length+1∧(IN E5 ps).floor=0∧(IN E5 ps).get 0=DK ∧
   ∀ (i:Nat) p,ps[i]?=some p→AH (N_ ps) (M5 (i+1) p) p.v∧AV 0 (IN E5 ps) (M5 (i+1) p) p.n p.w p.sc:=by
 obtain⟨hn,hf,ho⟩:=YW ps E5
 have h01:E5.next=1:=rfl
 rw[h01] at hn ho
 obtain⟨CS0,ty0,fr0,hb0,hcs0⟩:=VU (zs:=GM) (rest:=[]) VZ UL Tryd.underlying145 Tryd.underlying9 V6 WN h
 have hget:∀ (i:Nat) p,ps[i]?=some p→(IN E5 ps).get (i+1)=.row p.sc p.ty false true:=fun i p hp=>by
  have:=lD (h:=E5) hp
  rw[h01,Nat.add_comm] at this
  exact this
 have hro:=SK (P:=Tryd.prog) (W:=W) (ρ:=N_ ps) (h:=IN E5 ps) rfl (fun i hi=>by
   unfold N_
   rw[if_neg (by omega),List.getElem?_eq_none (by omega)]
   rfl) (fun g hg=>by
   rw[R2] at hg
   obtain rfl:g=0:=by omega
   exact⟨_,rfl,rfl,rfl⟩) (fun i hi=>by
   rw[hn] at hi
   cases i with
   | zero=>
    refine⟨KB,9,false,⟨0,0,0,0⟩,CS0,ty0,fr0,(ho 0 (by omega)).trans rfl,rfl,hb0,fun k v hv=>⟨v,?_,?_⟩⟩
    ·have:CS0.toList[k]?=some v:=by rw[hcs0];exact hv
     simpa using this
    ·have hm:v∈KB:=List.mem_of_getElem? hv
     obtain⟨z,_,rfl⟩:=List.mem_map.1 hm
     exact .flat rfl
   | succ i=>
    obtain⟨p,hp⟩:∃ p,ps[i]?=some p:=⟨_,List.getElem?_eq_getElem (by omega)⟩
    obtain⟨⟨hl,hor⟩,hsl,hfl⟩:=hps p (List.mem_of_getElem? hp)
    rcases hor with⟨h0,hv⟩ | ⟨b,off,cap,CS,ty,fr,hv,h1,h2,h3,h4⟩
    ·refine⟨p.sc,p.ty,false,KV p,CS0,ty0,fr0,hget i p hp,UE hp,by unfold KV;rw[hv];exact hb0,fun k v hk=>?_⟩
     have:=(List.getElem?_eq_some_iff.1 hk).1
     rw[hsl,hl,h0,Nat.zero_mul] at this
     omega
    ·refine⟨p.sc,p.ty,false,KV p,CS,ty,fr,hget i p hp,UE hp,by unfold KV;rw[hv];exact h3,fun k v hk=>?_⟩
     have hkl:=(List.getElem?_eq_some_iff.1 hk).1
     obtain⟨V,hV⟩:∃ V,p.cs[k]?=some V:=⟨_,List.getElem?_eq_getElem (by omega)⟩
     refine⟨V,?_,hfl k v V hk hV⟩
     have e:(KV p).d=off:=by unfold KV;rw[hv]
     rw[e,h4 k (by omega)]
     exact hV)
 refine⟨hro.1,hro.2,by omega,hf,(ho 0 (by omega)).trans rfl,fun i p hp=>?_⟩
 obtain⟨⟨hl,hor⟩,hsl,hfl⟩:=hps p (List.mem_of_getElem? hp)
 have hil:=(List.getElem?_eq_some_iff.1 hp).1
 rcases hor with⟨h0,hv⟩ | ⟨b,off,cap,CS,ty,fr,hv,h1,h2,h3,h4⟩
 ·have e:M5 (i+1) p=Z0:=by unfold M5;rw[hv]
  have ecs:p.sc=[]:=List.length_eq_zero_iff.1 (by rw[hsl,hl,h0,Nat.zero_mul])
  rw[e,hv,ecs,h0]
  exact⟨.flat rfl,AV.nil _ _ _⟩
 ·have e:M5 (i+1) p=qS (i+1) p.n cap:=by unfold M5;rw[hv]
  have eL:KV p=⟨b,off,0,0⟩:=by unfold KV;rw[hv]
  rw[e]
  refine⟨?_,AV.rowR (ex:=[]) (by rw[List.append_nil];exact hget i p hp) ⟨Nat.zero_le _,by omega⟩ (hsl.trans hl) fun h=>absurd h (Nat.lt_irrefl 0)⟩
  rw[hv]
  exact AH.slice (L:=⟨b,off,0,0⟩) (by rw[UE hp,eL]) h2
def IZ (x:Value × List AB):LW:=if x.2.length=0 then ⟨Z0,0,5,[],[],46⟩ else ⟨x.1,x.2.length,5,x.2.flatMap AP,x.2.flatMap AP,46⟩
def M2 (i:Nat) (x:Value × List AB):Value:=if x.2.length=0 then (match x.1 with | .slice none _ _=>Z0 | _=>qS 0 0 AG) else M5 i (IZ x)
theorem rX {W : World} (h : laidMetH Tryd.prog [("winnow/lex.words", Rows.laid_winnow_lex_words)] W) {v w : Value} {L : List (Value × List AB)} {A : List Int} (hv : IY W v L.length 1 (L.flatMap fun x => [x.1])) (hq : ∀ x ∈ L, XK W x.1 x.2) (hw : IY W w A.length 1 (ints A)) :
  ∃ hp ρ sv sw S,BK Tryd.prog ρ hp W∧(∀ i,¬ wr (hp.get i))∧AH ρ sv v∧AH ρ sw w∧S.length=L.length∧(∀ (i:Nat) sx x,S[i]?=some sx→L[i]?=some x→AL hp sx x.2)∧AV 0 hp sv L.length 1 S∧BY 0 hp sw A∧hp.floor=0∧hp.get 0=DK∧0<hp.next:=by
 have eM:(L.flatMap fun x=>[x.1])=L.map (·.1):=by
  clear hv hq
  induction L with
  | nil=>rfl
  | cons x L ih=>rw[List.flatMap_cons,ih];rfl
 rw[eM] at hv
 let S:=L.mapIdx fun i x=>M2 (i+1) x
 let ps:=L.map IZ++[⟨v,L.length,1,L.map (·.1),S,22⟩,⟨w,A.length,1,ints A,ints A,3⟩]
 have hSl:S.length=L.length:=List.length_mapIdx
 have hS:∀ (i:Nat) x,L[i]?=some x→S[i]?=some (M2 (i+1) x):=fun i x hx=>by
  show (L.mapIdx _)[i]?=_
  rw[List.getElem?_mapIdx,hx]
  rfl
 have hpi:∀ (i:Nat) x,L[i]?=some x→ps[i]?=some (IZ x):=fun i x hx=>by
  show (L.map IZ++_)[i]?=_
  rw[List.getElem?_append_left (by rw[List.length_map];exact(List.getElem?_eq_some_iff.1 hx).1),List.getElem?_map,hx]
  rfl
 have hso:ps[L.length]?=some ⟨v,L.length,1,L.map (·.1),S,22⟩:=by
  show (L.map IZ++_)[L.length]?=_
  rw[List.getElem?_append_right (by rw[List.length_map];omega),List.length_map,Nat.sub_self]
  rfl
 have hsw:ps[L.length+1]?=some ⟨w,A.length,1,ints A,ints A,3⟩:=by
  show (L.map IZ++_)[L.length+1]?=_
  rw[List.getElem?_append_right (by rw[List.length_map];omega),List.length_map,show L.length+1-L.length=1 by omega]
  rfl
 have hin:∀ (i:Nat) x,L[i]?=some x→AH (N_ ps) (M2 (i+1) x) x.1:=fun i x hx=>by
  rcases hq x (List.mem_of_getElem? hx) with⟨h0,h1 | ⟨a,c,h1⟩⟩ | ⟨h0,b,off,cap,CS,ty,fr,h1,h2,h3,h4,h5⟩
  ·unfold M2
   rw[if_pos (by rw[h0];rfl),h1]
   exact .flat rfl
  ·unfold M2
   rw[if_pos (by rw[h0];rfl),h1]
   exact .sliceU (L:=⟨0,0,0,0⟩) rfl (Nat.zero_le _) (.inl (.inr ⟨rfl,rfl⟩))
  ·have e0:IZ x=⟨x.1,x.2.length,5,x.2.flatMap AP,x.2.flatMap AP,46⟩:=by unfold IZ;rw[if_neg (by omega)]
   unfold M2
   rw[if_neg (by omega)]
   have e1:M5 (i+1) (IZ x)=qS (i+1) x.2.length cap:=by rw[e0];unfold M5;rw[h1]
   have e2:KV (IZ x)=⟨b,off,0,0⟩:=by rw[e0];unfold KV;rw[h1]
   rw[e1,h1]
   exact AH.slice (L:=⟨b,off,0,0⟩) (by rw[UE (hpi i x hx),e2]) h3
 have hR:=Jt h (ps:=ps) (fun p hp=>by
  rcases List.mem_append.1 hp with hp | hp
  ·obtain⟨x,hx,rfl⟩:=List.mem_map.1 hp
   rcases hq x hx with⟨h0,_⟩ | ⟨h0,b,off,cap,CS,ty,fr,h1,h2,h3,h4,h5⟩
   ·have e0:IZ x=⟨Z0,0,5,[],[],46⟩:=by unfold IZ;rw[if_pos (by rw[h0];rfl)]
    rw[e0]
    exact⟨⟨rfl,.inl ⟨rfl,rfl⟩⟩,rfl,fun k v V hk=>by cases hk⟩
   ·have e0:IZ x=⟨x.1,x.2.length,5,x.2.flatMap AP,x.2.flatMap AP,46⟩:=by unfold IZ;rw[if_neg (by omega)]
    rw[e0]
    refine⟨⟨H9 _,.inr ⟨b,off,cap,CS,ty,fr,h1,h2,h3,h4,h5⟩⟩,rfl,fun k v V hk hV=>?_⟩
    have:v=V:=by
     have h9:=hk.symm.trans hV
     exact Option.some.inj h9
    subst this
    obtain⟨r,_,hr⟩:=List.mem_flatMap.1 (List.mem_of_getElem? hk)
    obtain⟨j,hj⟩:=List.getElem?_of_mem hr
    exact .flat (VF hj)
  ·simp only[List.mem_cons,List.not_mem_nil,or_false] at hp
   rcases hp with rfl | rfl
   ·refine⟨hv,by rw[List.length_map];exact hSl,fun k sv V hk hV=>?_⟩
    obtain⟨x,hx,rfl⟩:∃ x,L[k]?=some x∧x.1=V:=by
     have:(L.map (·.1))[k]?=some V:=hV
     rw[List.getElem?_map] at this
     cases hx:L[k]? with
     | none=>rw[hx] at this;cases this
     | some x=>rw[hx] at this;exact⟨x,rfl,Option.some.inj this⟩
    have e:=(hS k x hx).symm.trans hk
    cases e
    exact hin k x hx
   ·refine⟨hw,rfl,fun k v V hk hV=>?_⟩
    have:v=V:=by
     have h9:=hk.symm.trans hV
     exact Option.some.inj h9
    subst this
    obtain⟨r,_,rfl⟩:=List.mem_map.1 (List.mem_of_getElem? hk)
    exact .flat rfl)
 obtain⟨r1,r2,r3,r4,r5,r6⟩:=hR
 obtain⟨a0,b0⟩:=r6 _ _ hso
 obtain⟨a1,b1⟩:=r6 _ _ hsw
 refine⟨_,_,_,_,S,r1,r2,a0,a1,hSl,fun i sx x h1 h2=>?_,b0,b1,r4,r5,by omega⟩
 have e:=(hS i x h2).symm.trans h1
 cases e
 rcases hq x (List.mem_of_getElem? h2) with⟨h0,h3 | ⟨a,c,h3⟩⟩ | ⟨h0,b,off,cap,CS,ty,fr,h3,_⟩
 ·unfold M2
  rw[if_pos (by rw[h0];rfl),h3,h0]
  exact⟨none,0,rfl,.inl ⟨rfl,rfl⟩⟩
 ·unfold M2
  rw[if_pos (by rw[h0];rfl),h3,h0]
  exact⟨some ⟨0,0,none⟩,AG,rfl,.inr ⟨0,0,_,_,_,_,rfl,r5,by omega,fun k r hk=>by simp at hk⟩⟩
 ·have e0:IZ x=⟨x.1,x.2.length,5,x.2.flatMap AP,x.2.flatMap AP,46⟩:=by unfold IZ;rw[if_neg (by omega)]
  have b2:=(r6 _ _ (hpi i x h2)).2
  unfold M2
  rw[if_neg (by omega)]
  rw[e0] at b2 ⊢
  exact(G4.of b2).1
end Go.Proofs.YtipekdhneagdbaaDoor
namespace Go.Proofs.YtipekdhneagdbaaDoor
open Go Go.Sx
set_option maxRecDepth 100000
set_option linter.unusedSimpArgs false
set_option linter.unusedVariables false
set_option maxHeartbeats 64000000
def bJ:List (Bool × Bool × List Operand):=[BI,BI,BI,BI,AS [.tmp 98],AS [.tmp 98],AS [.tmp 98],AS [.tmp 98],AT,AT]
theorem tY:BP Tryd.prog 22=some 1:=by kernel_rfl
theorem Cj {lo:Nat} {h:AA} {v:Value} {n:Nat} {cs:List Value} {t e:TypeId} (hc:AV lo h v n 1 cs) (ht:Tryd.prog.underlying t=some (.slice e)) (he:BP Tryd.prog e=some 1) {i:Nat} {x:Value} (hx:cs[i]?=some x) :
  ∃ id p,CY Tryd.prog t v (iv (i:Int))=some (qP id p)∧id<h.next∧AO p (h.get id)=some x:=by
 have hi:i<n:=by
  have:=(List.getElem?_eq_some_iff.1 hx).1
  have:=hc.1
  omega
 obtain⟨id,p,h1,h2,h3⟩:=AV.idx hc ht he hi
 refine⟨id,p,h1,h2,?_⟩
 have:=h3 0 (by decide)
 rw[Nat.add_zero] at this
 rw[this,Nat.mul_one,Nat.add_zero,hx]
theorem n9 {e a:Int} {x y:Operand}:B0 Tryd.prog .neq 33 x y (FI e a) (FI e a)=some (.bool false):=by
 have e9:BC Tryd.prog (do eqGuard .neq 33 x y (DM e a) (DM e a);binOp .neq 33 (DM e a) (DM e a))=some (.bool (!(e==e&&a==a))):=by
  rw[CW]
  have g:BC Tryd.prog (eqGuard .neq 33 x y (DM e a) (DM e a))=some ():=by
   unfold eqGuard
   simp[CW,LY,HS,Gd]
  rw[g]
  show BC Tryd.prog ((do pure (.bool (!(← Op.equal 33 (DM e a) (DM e a))))):Sem Value)=_
  rw[CW]
  have k:BC Tryd.prog (Op.equal 33 (DM e a) (DM e a))=some (e==e&&a==a):=mA 9998
  rw[k]
  rfl
 have e2:B0 Tryd.prog .neq 33 x y (DM e a) (DM e a)=some (.bool (!(e==e&&a==a))):=by simp only[B0,bI,Bool.and_self,if_true,e9,KF]
 have e3:(!(e==e&&a==a))=false:=by simp
 rw[e3] at e2
 exact e2
section
variable {n:Nat} {h:AA}
theorem rL {L:List (Value × List AB)} {S0:List Value} {v:Value} (hv:AV 0 h v L.length 1 S0) (hSl:S0.length=L.length) (hS:∀ (i:Nat) sx x,S0[i]?=some sx→L[i]?=some x→AL h sx x.2) (h64:∀ x∈L,∀ r∈x.2,r.kids≤9223372036854775807) (hfl:h.floor≤h.next) (hg:h.get 0=DK) (hn0:0<h.next) (hn:9000000<n) :
  ∃ h',AW Tryd.prog (ML n) n 10 [v] h=some (.bool true,h')∧True:=by
 have hsn:=(cT n).2
 refine E0 (R:=fun _=>True) Tryd.func10 rfl (by simp[Tryd.f10]) ?_
 have hr:Tryd.f10.results.toList=[.tmp 2]:=rfl
 have LH:∀ h':AA,B_ Tryd.prog h' 59 v=some (iv (L.length:Int)):=fun h'=>AV.len hv R3
 simp only[eE,seval,↓eP]
 refine J3 (Q:=fun e s'=>e=.exit 0∧h.next≤s'.h.next∧s'.h.floor=h.floor∧(∀ j,j<h.next→s'.h.get j=h.get j)∧∃ K W S C kv wv,s'.T.get 3=kv∧s'.T.get 4=wv∧II h.next s'.h K W S C kv wv∧K.length≤18∧∀ (i:Nat) s,S[i]?=some s→C i=cS s) ?_ ?_
 rotate_left
 ·rintro e ⟨T,H⟩ ⟨rfl,nH,fH,oH,K,W,S,C,kv,wv,t3,t4,hO,hK18,hC⟩
  simp only at nH fH oH t3 t4 hO
  have lenK:=n_ hO.gk
  simp only[eE,seval,↓eP,t3,t4]
  refine J3 (Q:=fun e s'=>e=.exit 4∧s'.T.get 3=kv∧h.next≤s'.h.next∧s'.h.floor=h.floor∧(∀ j,j<h.next→s'.h.get j=h.get j)∧∃ C,II h.next s'.h K W S C kv wv∧∀ (i:Nat) e,K[i]?=some e→∀ j,1≤j→j≤6→∀ q,q<e.n j→FJ j i q (C i j)) ?_ ?_
  rotate_left
  ·rintro e ⟨T2,X⟩ ⟨rfl,t3,nX,fX,oX,C2,hO2,hD⟩
   simp only at t3 nX fX oX hO2
   have hsp:=O7 (n:=n) (by decide) (by decide) (Il (m:=n) (h:=X) (c:=C2) hO2.gk (by omega) (fun i e he=>by
    obtain⟨s,hs⟩:∃ s,S[i]?=some s:=⟨_,List.getElem?_eq_getElem (by have:=hO2.lk;have:=(List.getElem?_eq_some_iff.1 he).1;omega)⟩
    obtain⟨a,_,_,_,b,_⟩:=hO2.six i e s he hs
    exact⟨a,b,hD i e he⟩) (by omega) (by omega))
   have hhd:=Ix (n:=n) (h:=X) (by rw[oX 0 hn0];exact hg)
   simp only[eE,seval,↓eP,hr,t3,hsp,hhd]
  refine WK.loop (fun p s'=>s'.T.get 3=kv∧s'.T.get 4=wv∧s'.T.get 11=iv (p:Int)∧p≤K.length∧h.next≤s'.h.next∧s'.h.floor=h.floor∧(∀ j,j<h.next→s'.h.get j=h.get j)∧∃ C,II h.next s'.h K W S C kv wv∧(∀ (i:Nat) s,p≤i→S[i]?=some s→C i=cS s)∧∀ (i:Nat) e,i<p→K[i]?=some e→∀ j,1≤j→j≤6→∀ q,q<e.n j→FJ j i q (C i j)) K.length (by omega) ?_ ?_
  ·exact⟨by simp only[eE,seval,↓eP,rP,t3],by simp only[eE,seval,↓eP,rP,t4],by simp only[eE,seval,↓eP,rP] <;> rfl,by omega,nH,fH,oH,C,hO,fun i s _ hs=>hC i s hs,fun i e hi=>absurd hi (by omega)⟩
  clear hO hC nH fH oH t3 t4 C
  rintro p ⟨T2,X⟩ hp9 ⟨t3,t4,t11,hp,nX,fX,oX,C,hO,hC,hD⟩
  simp only at t3 t4 t11 nX fX oX hO
  have w1:=CK p (by omega)
  by_cases hpl:p<K.length
  rotate_left
  ·have c1:decide ((p:Int)<(K.length:Int))=false:=by simp;omega
   simp only[eE,seval,↓eP,t3,t4,t11,lenK,c1]
   exact⟨nX,fX,oX,C,hO,fun i e he=>hD i e (by have:=(List.getElem?_eq_some_iff.1 he).1;omega) he⟩
  have c1:decide ((p:Int)<(K.length:Int))=true:=by simp;omega
  obtain⟨e,he⟩:∃ e,K[p]?=some e:=⟨_,List.getElem?_eq_getElem hpl⟩
  obtain⟨s,hs⟩:∃ s,S[p]?=some s:=⟨_,List.getElem?_eq_getElem (by have:=hO.lk;omega)⟩
  obtain⟨sx,en,em,sl,su,hsm,htt,hrr⟩:=hO.six p e s he hs
  obtain⟨idk,ei,hik,lk1⟩:=hO.gk.pol he
  obtain⟨h1,hgr,sx1,n1,f1,o1⟩:=wC (nm:=e.nm) (ms:=e.ms) (nn:=(p:Int)) sx (by omega) su (by rw[en];exact hrr)
  have hgr':=De (n:=n) hgr
  have hO1:=hO.sp (c':=C p) he (by omega) (fun j _ hj=>o1 j hj) sx1
  obtain⟨idk1,ei1,hik1,lk2⟩:=hO1.gk.pol he
  have eik:=ei.symm.trans ei1
  cases eik
  obtain⟨h2,hsp,⟨c',sx2,hd2⟩,n2,f2,o2⟩:=Gh (m:=n) (i:=p) (nm:=e.nm) (ms:=e.ms) sx1 (by omega) (by omega) (by omega) (by omega)
  have hsp':=O7 (n:=n) (by decide) (by decide) hsp
  have hO2:=hO1.sp (c':=c') he (by omega) (fun j a b=>o2 j a b) sx2
  have hgr'':ML n 36 [e.pv,iv (p:Int)] X=some (.tuple #[],h1):=hgr'
  have hsp'':ML n 37 [e.pv,iv (p:Int)] h1=some (.tuple #[],h2):=hsp'
  have oh2:∀ j,j<h.next→h2.get j=h.get j:=fun j hj=>by rw[o2 j (by omega) (.inl (by omega)),o1 j (.inl (by omega)),oX j hj]
  simp only[eE,seval,↓eP,t3,t4,t11,lenK,c1,ei,IW,lk1,hgr'',ei1,lk2,hsp'',w1]
  refine WK.loop (fun q s'=>s'.T.get 3=kv∧s'.T.get 4=wv∧s'.T.get 11=iv (p:Int)∧s'.T.get 12=iv ((p+1+q:Nat):Int)∧q≤K.length-(p+1)∧s'.h=h2) (K.length-(p+1)) (by omega) ?_ ?_
  ·exact⟨by simp only[eE,seval,↓eP,rP,t3],by simp only[eE,seval,↓eP,rP,t4],by simp only[eE,seval,↓eP,rP,t11],by simp only[eE,seval,↓eP,rP] <;> rfl,by omega,rfl⟩
  rintro q ⟨T3,Z⟩ hq9 ⟨t3,t4,t11,t12,hq,hz⟩
  simp only at t3 t4 t11 t12 hz
  have hz9:=hz.symm
  subst hz9
  have w2:IntKind.i64.wrap (((p+1+q:Nat):Int)+1)=((p+1+(q+1):Nat):Int):=by rw[CG (by omega) (by omega)];omega
  by_cases hql:p+1+q<K.length
  rotate_left
  ·have c2:decide (((p+1+q:Nat):Int)<(K.length:Int))=false:=by simp;omega
   simp only[eE,seval,↓eP,t3,t4,t11,t12,lenK,c2,w1]
   refine⟨hpl,by omega,by omega,by omega,oh2,_,hO2,fun i s' hi hs'=>?_,fun i e' hi he'=>?_⟩
   ·simp only[if_neg (show ¬ i=p by omega)]
    exact hC i s' (by omega) hs'
   ·by_cases hip:i=p
    ·subst hip
     rw[he] at he'
     cases he'
     simp only[if_true]
     exact hd2
    ·simp only[if_neg hip]
     exact hD i e' (by omega) he'
  have c2:decide (((p+1+q:Nat):Int)<(K.length:Int))=true:=by simp;omega
  obtain⟨e2,he2⟩:∃ e,K[p+1+q]?=some e:=⟨_,List.getElem?_eq_getElem hql⟩
  obtain⟨e3,he3⟩:∃ e,W[p+1+q]?=some e:=⟨_,List.getElem?_eq_getElem (by have:=hO2.lk;have:=hO2.lw;omega)⟩
  obtain⟨s2,hs2⟩:∃ s,S[p+1+q]?=some s:=⟨_,List.getElem?_eq_getElem (by have:=hO2.lk;omega)⟩
  obtain⟨y1,y2,y3,y4,y5,y6,y7,y8⟩:=hO2.six _ e2 s2 he2 hs2
  obtain⟨Hw,x1,x2,x3,x4,x5⟩:=hO2.want _ e3 s2 he3 hs2
  have hnm:=hO2.nm _ e2 e3 he2 he3
  have y1:CM h2 e2.lo e2.up e2.tag e2.v (nS s2) (cS s2):=by
   have:=y1
   simp only[if_neg (show ¬ p+1+q=p by omega)] at this
   rw[hC _ s2 (by omega) hs2,y2] at this
   exact this
  have hp2:DT e2.lo h2 e2.pv e2.nm s2:=by
   have:=y1.pol (nm:=e2.nm) y5
   rw[← y3] at this
   exact this
  have hp3:DT e3.lo h2 e3.pv e2.nm s2:=by
   rw[hnm]
   exact x1.mono (by omega) fun j a b=>x5 j a (by omega)
  obtain⟨b,hsame,hb⟩:=VA (n:=n) (h:=h2) hp2 hp3 y6 (by omega)
  obtain rfl:b=true:=hb.2 (UM _ _)
  have hsame':=O7 (n:=n) (by decide) (by decide) hsame
  obtain⟨ik2,ei2,hik2,lkk⟩:=hO2.gk.pol he2
  obtain⟨iw2,ew2,hiw2,lww⟩:=hO2.gw.pol he3
  simp only[eE,seval,↓eP,t3,t4,t11,t12,lenK,c2]
  refine WK.flags (fs:=bJ) (by kernel_rfl) ?_
  unfold bJ
  iterate 10
   refine FO hsn ?_
   simp only[rG,seval,AC,AE,AD,DS,FA,DL,EI,FR,NL,t3,t4,t11,t12,ei2,ew2,IW,lkk,lww,hsame',decide_true,NH,KN,JN,LF,K0]
  refine FT ?_
  simp only[eE,seval,↓eP,t3,t4,t11,t12,w2]
  exact⟨by omega,by omega,rfl⟩
 refine WK.loop (fun i s'=>s'.T.get 0=v∧s'.T.get 5=iv (i:Int)∧i≤9∧h.next≤s'.h.next∧s'.h.floor=h.floor∧(∀ j,j<h.next→s'.h.get j=h.get j)∧∃ K W S C kv wv,s'.T.get 3=kv∧s'.T.get 4=wv∧II h.next s'.h K W S C kv wv∧K.length≤2*i∧∀ (i:Nat) s,S[i]?=some s→C i=cS s) 9 (by omega) ?_ ?_
 ·exact⟨by simp only[eE,seval,↓eP,rP],by simp only[eE,seval,↓eP,rP] <;> rfl,by omega,Nat.le_refl _,rfl,fun _ _=>rfl,[],[],[],_,Z0,Z0,by simp only[eE,seval,↓eP,rP],by simp only[eE,seval,↓eP,rP],II.nil _ _,Nat.zero_le _,fun i s hs=>by simp at hs⟩
 rintro i ⟨T,H⟩ hi9 ⟨t0,t5,hi,nH,fH,oH,K,W,S,C,kv,wv,t3,t4,hO,hKl,hC⟩
 simp only at t0 t5 nH fH oH t3 t4 hO
 have w9:=CK i (by omega)
 by_cases hgo:i<L.length∧i<9
 rotate_left
 ·cases c1:decide ((i:Int)<(L.length:Int)) with
  | true=>
   have c2:decide ((i:Int)<9)=false:=by
    have:=of_decide_eq_true c1
    simp
    omega
   simp only[eE,seval,↓eP,t0,t3,t4,t5,LH,c1,c2]
   exact⟨nH,fH,oH,K,W,S,C,kv,wv,rfl,rfl,hO,by omega,hC⟩
  | false=>
   simp only[eE,seval,↓eP,t0,t3,t4,t5,LH,c1]
   exact⟨nH,fH,oH,K,W,S,C,kv,wv,rfl,rfl,hO,by omega,hC⟩
 obtain⟨hiL,hi8⟩:=hgo
 have c1:decide ((i:Int)<(L.length:Int))=true:=by simp;omega
 have c2:decide ((i:Int)<9)=true:=by simp;omega
 obtain⟨x,hx⟩:∃ x,L[i]?=some x:=⟨_,List.getElem?_eq_getElem hiL⟩
 obtain⟨sx,hsx⟩:∃ sx,S0[i]?=some sx:=⟨_,List.getElem?_eq_getElem (by omega)⟩
 have hrow:=hS i sx x hsx hx
 have h64x:=h64 x (List.mem_of_getElem? hx)
 generalize hxl:x.2=l at *
 obtain⟨ia,pa,ea,hia,la⟩:=Cj hv R3 tY hsx
 have laH:AO pa (H.get ia)=some sx:=by rw[oH ia hia];exact la
 have lenx:∀ h':AA,B_ Tryd.prog h' 22 sx=some (iv (l.length:Int)):=fun h'=>hrow.len
 cases d6:decide ((l.length:Int)>600) with
 | true=>
  simp only[eE,seval,↓eP,t0,t3,t4,t5,LH,c1,c2,ea,C0,laH,lenx,d6,w9]
  exact⟨hi8,by omega,nH,fH,oH,K,W,S,C,kv,wv,rfl,rfl,hO,by omega,hC⟩
 | false=>
 have hl:l.length≤600:=by
  have:=of_decide_eq_false d6
  omega
 simp only[eE,seval,↓eP,t0,t3,t4,t5,LH,c1,c2,ea,C0,laH,lenx,d6]
 refine WK.loop (fun k s'=>s'.T.get 0=v∧s'.T.get 5=iv (i:Int)∧s'.T.get 6=iv (k:Int)∧k≤2∧h.next≤s'.h.next∧s'.h.floor=h.floor∧(∀ j,j<h.next→s'.h.get j=h.get j)∧∃ K W S C kv wv,s'.T.get 3=kv∧s'.T.get 4=wv∧II h.next s'.h K W S C kv wv∧K.length≤2*i+k∧∀ (i:Nat) s,S[i]?=some s→C i=cS s) 2 (by omega) ?_ ?_
 ·exact⟨by simp only[eE,seval,↓eP,rP,t0],by simp only[eE,seval,↓eP,rP,t5],by simp only[eE,seval,↓eP,rP] <;> rfl,by omega,nH,fH,oH,K,W,S,C,kv,wv,by simp only[eE,seval,↓eP,rP,t3],by simp only[eE,seval,↓eP,rP,t4],hO,by omega,hC⟩
 clear hO hC hKl t0 t3 t4 t5 nH fH oH laH K W S C kv wv
 rintro k ⟨T2,X⟩ hk9 ⟨t0,t5,t6,hk,nX,fX,oX,K,W,S,C,kv,wv,t3,t4,hO,hKl,hC⟩
 simp only at t0 t5 t6 nX fX oX t3 t4 hO
 by_cases hk2:k<2
 rotate_left
 ·have d2:decide ((k:Int)<2)=false:=by simp;omega
  simp only[eE,seval,↓eP,t0,t3,t4,t5,t6,d2,w9]
  exact⟨hi8,by omega,nX,fX,oX,K,W,S,C,kv,wv,rfl,rfl,hO,by omega,hC⟩
 have d2:decide ((k:Int)<2)=true:=by simp;omega
 have w8:=CK k (by omega)
 have laX:AO pa (X.get ia)=some sx:=by rw[oX ia hia];exact la
 have hrX:AL X sx l:=hrow.mono nX oX
 obtain⟨h1,hlend,⟨LL,hLL⟩,n1,f1,o1⟩:=eC (n:=n) hrX (by omega) (by omega) (by omega)
 have hlend':=O7 (n:=n) (by decide) (by decide) hlend
 have hmine:AL h1 (qS X.next l.length (l.length+9)) l:=by
  refine⟨_,_,rfl,.inr ⟨X.next,0,_,_,_,_,rfl,hLL.g,by omega,fun k r hk=>?_⟩⟩
  have hkl:=(List.getElem?_eq_some_iff.1 hk).1
  rw[Nat.zero_add]
  exact MT ((hLL.own k hkl).trans hk)
 obtain⟨v2,h2,hres,pv,rfl,hOp,f2,n2,o2⟩:=mK (n:=n) (h:=h1) (by omega) (by rw[o1 0 (by omega),oX 0 hn0];exact hg) (by omega) hmine (by omega) (by omega)
 have hres':=O7 (n:=n) (by decide) (by decide) hres
 obtain⟨nm,s,hout⟩:∃ nm s,BU l=(nm,s):=⟨_,_,rfl⟩
 have hsm:=(bG (l:=l) (by omega)).1
 have htot:=(bG (l:=l) (by omega)).2
 rw[hout] at hOp hsm htot
 simp only at hOp hsm htot
 have hp:=hOp.pol
 obtain⟨vr,vq,vv,vt,vu,vo,rfl,p1,p2,p3,p4,p5,p6⟩:=id hp
 have oa:=RG (nm:=nm) p1 p2 p3 p4 p5 p6
 obtain⟨⟨hc9,h3⟩,s1,s2,rO,n3,f3,o3⟩:=VJ (H:=h2) (cs:=[.string nm,vr,vq,vv,vt,vu,vo,iv s.miss]) (e:=(AZ l).1.1) (p:=(AZ l).1.2) rfl oa (by omega)
 simp only at s1 s2 rO n3 f3 o3
 have o3X:∀ j,j<X.next→h3.get j=X.get j:=fun j hj=>by rw[o3 j (by omega),o2 j (by omega),o1 j hj]
 obtain⟨v4,h4,hrefr,pv',rfl,hp',f4,n4,o4⟩:=cQ (n:=n) (h:=h3) (by omega) (hrX.mono (by omega) o3X) (by omega) h64x (by omega)
 have href':=O7 (n:=n) (by decide) (by decide) hrefr
 rw[hout] at hp'
 simp only at hp'
 obtain⟨wr,wq,wv9,wt,wu,wo,rfl,r1,r2,r3,r4,r5,r6⟩:=id hp'
 have ob:=RG (nm:=nm) r1 r2 r3 r4 r5 r6
 obtain⟨⟨hd9,h5⟩,s3,s4,rP,n5,f5,o5⟩:=VJ (H:=h4) (cs:=[.string nm,wr,wq,wv9,wt,wu,wo,iv s.miss]) (e:=(AZ l).1.1) (p:=(AZ l).1.2) rfl ob (by omega)
 simp only at s3 s4 rP n5 f5 o5
 have o5h3:∀ j,j<h3.next→h5.get j=h3.get j:=fun j hj=>by rw[o5 j (by omega),o4 j hj]
 have o5X:∀ j,j<X.next→h5.get j=X.get j:=fun j hj=>by rw[o5h3 j (by omega),o3X j hj]
 have laX3:AO pa (h3.get ia)=some sx:=by rw[o3X ia (by omega)];exact laX
 have lA1:CD 8 0 (h5.get h2.next)=some (.agg #[.string nm,vr,vq,vv,vt,vu,vo,iv s.miss]):=by rw[o5h3 _ (by omega)];exact R9 rO.1 rfl
 have lA2:CD 2 0 (h5.get (h2.next+1))=some (FI (AZ l).1.1 (AZ l).1.2):=by rw[o5h3 _ (by omega),rO.2];rfl
 have lA3:AO 0 (h5.get (h2.next+1))=some (iv (AZ l).1.1):=by rw[o5h3 _ (by omega),rO.2];rfl
 have lB1:CD 8 0 (h5.get h4.next)=some (.agg #[.string nm,wr,wq,wv9,wt,wu,wo,iv s.miss]):=R9 rP.1 rfl
 have lB2:CD 2 0 (h5.get (h4.next+1))=some (FI (AZ l).1.1 (AZ l).1.2):=by rw[rP.2];rfl
 have hpA:DT h1.next h5 (.agg #[.string nm,vr,vq,vv,vt,vu,vo,iv s.miss]) nm s:=hp.mono (by omega) fun j _ hj=>by rw[o5h3 j (by omega),o3 j hj]
 have hpB:DT h3.next h5 (.agg #[.string nm,wr,wq,wv9,wt,wu,wo,iv s.miss]) nm s:=hp'.mono (by omega) fun j _ hj=>o5 j hj
 obtain⟨b,hsame,hb⟩:=VA (n:=n) (h:=h5) hpA hpB hsm (by omega)
 obtain rfl:b=true:=hb.2 (UM _ _)
 have hsame':=O7 (n:=n) (by decide) (by decide) hsame
 cases d0:((AZ l).1.1==0) with
 | false=>
  simp only[eE,seval,↓eP,t0,t3,t4,t5,t6,d2,ea,C0,laX,hlend',hres',J7,KX,L6,HT,HP,MV,C6,s1,s2,laX3,href',s3,s4,Nat.zero_add,JT,lA2,lB2,n9,IW,lA1,lB1,hsame',HY,HQ,lA3,d0,w8]
  exact⟨hk2,by omega,by omega,by omega,fun j hj=>by rw[o5X j (by omega),oX j hj],K,W,S,C,kv,wv,rfl,rfl,hO.mono (by omega) fun j _ hj=>o5X j hj,by omega,hC⟩
 | true=>
 have hok:(AZ l).1.1=0:=by simpa using d0
 have hgood:=hout.symm.trans (RH hok)
 have hpos:0<l.length:=(R6 hok).1.pos
 have hlen:(AZ l).2.rows.length=l.length:=(R6 hok).2.2.2.2.2.len
 have hsr:s.rows.length=l.length:=by
  have:s=(AZ l).2:=by cases hgood;rfl
  rw[this]
  exact hlen
 rcases hOp with⟨_,_,hz⟩ | hOs
 ·rw[hz] at hsr
  simp[sZ] at hsr
  omega
 obtain⟨ur,uq,uv,ut,uu,uo,tag,ep,hsix⟩:=wD hOs (by omega)
 cases ep
 obtain⟨e,he⟩:∃ e:KP,e=⟨nm,v6 ur uq uv ut uu uo,nS s,s.miss,h1.next,h2.next,tag⟩:=⟨_,rfl⟩
 obtain⟨e',he'⟩:∃ e:KP,e=⟨nm,v6 wr wq wv9 wt wu wo,nS s,s.miss,h3.next,h4.next,fun _=>0⟩:=⟨_,rfl⟩
 have epv:e.pv=.agg #[.string nm,v6 ur uq uv ut uu uo 1,v6 ur uq uv ut uu uo 2,v6 ur uq uv ut uu uo 3,v6 ur uq uv ut uu uo 4,v6 ur uq uv ut uu uo 5,v6 ur uq uv ut uu uo 6,iv s.miss]:=by rw[he]
 have epv':e'.pv=(.agg #[.string nm,wr,wq,wv9,wt,wu,wo,iv s.miss]):=by rw[he'];rfl
 obtain⟨kv',Z1,wv',Z2,ap1,ap2,hO2,fZ,nZ1,nZ2,oZ,oZ1⟩:=hO.add (Y:=h5) (e:=e) (e':=e') (s:=s) (by omega) o5X (by omega) nX (by omega)
  (by rw[he];exact hsix.mono fun j _ hj=>by rw[o5h3 j (by omega),o3 j hj]) (by rw[he]) (by rw[he]) (by rw[he];show X.next≤h1.next;omega) (by rw[he,he'];show h2.next≤h3.next;omega) (by rw[he];show h1.next≤h2.next;omega) (by rw[he'];show h4.next≤h5.next;omega) (by rw[he'];show h3.next≤h4.next;omega) hsm (by omega) (by omega)
  (by rw[epv',he'];exact hpB) ⟨h4,by rw[epv',he'];exact hp',by rw[he'],fun j a b=>by rw[he'] at b;exact o5 j b⟩ (by rw[he,he']) (by rw[he];exact oa) (by rw[he'];exact ob)
 have lQ5:CD 8 0 (Z1.get h4.next)=some (.agg #[.string nm,wr,wq,wv9,wt,wu,wo,iv s.miss]):=by rw[oZ1 _ (by omega) (by omega)];exact lB1
 have bs1:=jK (h:=h5) (e:=e)
 rw[epv] at bs1
 have bs2:=jK (h:=Z1) (e:=e')
 rw[epv'] at bs2
 simp only[eE,seval,↓eP,t0,t3,t4,t5,t6,d2,ea,C0,laX,hlend',hres',J7,KX,L6,HT,HP,MV,C6,s1,s2,laX3,href',s3,s4,Nat.zero_add,JT,lA2,lB2,n9,IW,lA1,lB1,hsame',HY,HQ,lA3,d0,bs1,ap1,lQ5,bs2,ap2,w8]
 refine⟨hk2,by omega,by omega,by omega,fun j hj=>by rw[oZ j hj,o5X j (by omega),oX j hj],K++[e],W++[e'],S++[s],_,kv',wv',rfl,rfl,hO2,by simp;omega,fun z s' hz=>?_⟩
 rcases I0 hz with⟨l1,g1⟩ | ⟨l1,rfl⟩
 ·simp only[show z<K.length by have:=hO.lk;omega,if_true]
  exact hC z s' g1
 ·simp only[if_neg (show ¬ z<K.length by have:=hO.lk;omega)]
end
end Go.Proofs.YtipekdhneagdbaaDoor
