/- Part 11 of what the claim leans on: 28 texts laid one behind another. -/
import Derived.Test.YtdejoodfeljmkaaDoorTO10
import Derived.OpenShut
import Derived.WalkKit
import Derived.Carry
import Derived.ChangeArms
namespace Go.Proofs.YtdejoodfeljmkaaDoor
open Go Go.Sx Go.ChangeShapes Go.WideShapes Go.ChangeAt Go.RowKit
set_option maxRecDepth 100000
set_option linter.unusedSimpArgs false
set_option linter.unusedVariables false
set_option maxHeartbeats 64000000
theorem VO:Tryd.prog.cellsOf 61=5:=by kernel_rfl
theorem M9:Tryd.prog.cellsOf 3=1:=by kernel_rfl
theorem TH:Tryd.prog.cellsOf 9=1:=by kernel_rfl
def QC (x:AB):Prop:=(-9223372036854775808≤x.kind∧x.kind≤9223372036854775807)∧(-9223372036854775808≤x.ends∧x.ends≤9223372036854775807)∧(-9223372036854775808≤x.n∧x.n≤9223372036854775807)∧(-9223372036854775808≤x.kids∧x.kids≤9223372036854775807)
section
variable {H:Type} {enc:TypeId × Value→H} {W:World} {base:Nat} {sp:Nat→Bool} {hd:Bool}
theorem ZJ {n:Nat} {cs:List Value} {y:DataW H × List MemPlace} (h:DataW.trod enc Tryd.prog W base sp hd n 61 cs=some y):∃ x:AB,cs=AZ x∧QC x:=by
 obtain⟨xs,m,_,_,hl,hxl,hf⟩:=DataW.trod_struct Tryd.underlying61 h
 rw[VO] at hl
 obtain⟨c0,c1,c2,c3,c4,rfl⟩:∃ c0 c1 c2 c3 c4,cs=[c0,c1,c2,c3,c4]:=by
  match cs,hl with
  | [a,b,c,d,e],_=>exact⟨a,b,c,d,e,rfl⟩
 have hxl:xs.length=5:=hxl
 have g:∀ i,i<5→∃ y,xs[i]?=some y:=fun i hi=>⟨_,List.getElem?_eq_getElem (by omega)⟩
 obtain⟨y0,e0⟩:=g 0 (by omega)
 obtain⟨y1,e1⟩:=g 1 (by omega)
 obtain⟨y2,e2⟩:=g 2 (by omega)
 obtain⟨y3,e3⟩:=g 3 (by omega)
 obtain⟨y4,e4⟩:=g 4 (by omega)
 have f0:DataW.trod enc Tryd.prog W base sp hd m 3 (([c0,c1,c2,c3,c4].drop 0).take (Tryd.prog.cellsOf 3))=xs[0]?:=hf 0 _ rfl
 rw[M9,e0] at f0
 have f1:DataW.trod enc Tryd.prog W base sp hd m 9 (([c0,c1,c2,c3,c4].drop 1).take (Tryd.prog.cellsOf 9))=xs[1]?:=hf 1 _ rfl
 rw[TH,e1] at f1
 have f2:DataW.trod enc Tryd.prog W base sp hd m 3 (([c0,c1,c2,c3,c4].drop 2).take (Tryd.prog.cellsOf 3))=xs[2]?:=hf 2 _ rfl
 rw[M9,e2] at f2
 have f3:DataW.trod enc Tryd.prog W base sp hd m 3 (([c0,c1,c2,c3,c4].drop 3).take (Tryd.prog.cellsOf 3))=xs[3]?:=hf 3 _ rfl
 rw[M9,e3] at f3
 have f4:DataW.trod enc Tryd.prog W base sp hd m 3 (([c0,c1,c2,c3,c4].drop 4).take (Tryd.prog.cellsOf 3))=xs[4]?:=hf 4 _ rfl
 rw[M9,e4] at f4
 obtain⟨a,ha,_,wa⟩:=DataW.trod_int Tryd.underlying3 f0
 obtain⟨b,hb,_,wb⟩:=DataW.trod_string Tryd.underlying9 f1
 obtain⟨c,hc,_,wc⟩:=DataW.trod_int Tryd.underlying3 f2
 obtain⟨d,hd,_,wd⟩:=DataW.trod_int Tryd.underlying3 f3
 obtain⟨e,he,_,we⟩:=DataW.trod_int Tryd.underlying3 f4
 cases ha
 cases hb
 cases hc
 cases hd
 cases he
 exact⟨⟨a,b,c,d,e⟩,rfl,bounds_i64 wa,bounds_i64 wc,bounds_i64 wd,bounds_i64 we⟩
end
theorem b_ {b off k:Nat}:(⟨b,off,none⟩:Addr).add k=⟨b,off+k,none⟩:=by
 unfold Addr.add
 split
 ·rename_i e;subst e;rfl
 ·rfl
theorem nZ {W:World} {base b off n:Nat} {cs:List Value} (h:W.cells? base ⟨b,off,none⟩ n=some cs):cs.length=n∧∀ i,i<n→W.cell? ⟨b,off+i,none⟩=cs[i]?:=by
 unfold World.cells? at h
 split at h
 ·refine⟨by simpa using mapM_some_length h,fun i hi=>?_⟩
  have:=mapM_some_get h i i (by simp[hi])
  rw[← this,b_]
 ·cases h
theorem XE {x:AB} {j:Nat} {v:Value} (h:(AZ x)[j]?=some v):BI v=true:=by
 match j,h with
 | 0,h=>cases h;rfl
 | 1,h=>cases h;rfl
 | 2,h=>cases h;rfl
 | 3,h=>cases h;rfl
 | 4,h=>cases h;rfl
end Go.Proofs.YtdejoodfeljmkaaDoor
namespace Go.Proofs.YtdejoodfeljmkaaDoor
open Go Go.Sx
set_option maxRecDepth 100000
set_option linter.unusedSimpArgs false
set_option linter.unusedVariables false
set_option maxHeartbeats 64000000
def MF (a b:AB):Bool:=a.kind==b.kind&&(a.name==b.name&&(a.ends==b.ends&&(a.n==b.n&&a.kids==b.kids)))
theorem P8 {P:Program} {t:TypeId} {a b:ByteArray} (h:P.underlying t=some .string) (d:Nat):BA P (Op.equalIn (d+1) t (.string a) (.string b))=some (a==b):=by
 rw[Op.equalIn,CE,NA h]
 simp[HF]
theorem mU {P:Program} {t:TypeId} {a b:Bool} (h:P.underlying t=some .bool) (d:Nat):BA P (Op.equalIn (d+1) t (.bool a) (.bool b))=some (a==b):=by
 rw[Op.equalIn,CE,NA h]
 simp[HF]
theorem tR:Tryd.prog.stoodInHeld 61=false:=by kernel_rfl
theorem Gz:Tryd.prog.stoodInHeld 102=false:=by kernel_rfl
theorem TE {a c d e:Int} {b:ByteArray}:BA Tryd.prog (part 3 #[.int .i64 a,.string b,.int .i64 c,.int .i64 d,.int .i64 e] 0)=some (.int .i64 a)∧BA Tryd.prog (part 9 #[.int .i64 a,.string b,.int .i64 c,.int .i64 d,.int .i64 e] 1)=some (.string b)∧BA Tryd.prog (part 3 #[.int .i64 a,.string b,.int .i64 c,.int .i64 d,.int .i64 e] 2)=some (.int .i64 c) ∧
  BA Tryd.prog (part 3 #[.int .i64 a,.string b,.int .i64 c,.int .i64 d,.int .i64 e] 3)=some (.int .i64 d)∧BA Tryd.prog (part 3 #[.int .i64 a,.string b,.int .i64 c,.int .i64 d,.int .i64 e] 4)=some (.int .i64 e):=⟨rfl,rfl,rfl,rfl,rfl⟩
theorem j0 {a:ByteArray} {b:Bool}:BA Tryd.prog (part 9 #[.string a,.bool b] 0)=some (.string a)∧BA Tryd.prog (part 4 #[.string a,.bool b] 1)=some (.bool b):=⟨rfl,rfl⟩
theorem Ho {a b:AB} (n:Nat):BA Tryd.prog (Op.equalIn (n+2) 61 (CH a) (CH b))=some (MF a b):=by
 obtain⟨a1,a2,a3,a4,a5⟩:=a
 obtain⟨b1,b2,b3,b4,b5⟩:=b
 show BA Tryd.prog (Op.equalIn (n+2) 61 (.agg #[.int .i64 a1,.string a2,.int .i64 a3,.int .i64 a4,.int .i64 a5]) (.agg #[.int .i64 b1,.string b2,.int .i64 b3,.int .i64 b4,.int .i64 b5]))=some (a1==b1&&(a2==b2&&(a3==b3&&(a4==b4&&a5==b5))))
 rw[Op.equalIn,CE,NA Tryd.underlying61]
 simp only[Option.bind_some,CE,LF,tR,Bool.false_eq_true,if_false]
 simp only[List.forIn_toArray,List.forIn_cons,List.forIn_nil,ne_eq,String.reduceEq,not_false_eq_true,if_true,CE,TE.1,Option.bind_some,LP Tryd.underlying3,P8 Tryd.underlying9]
 cases h1:(a1==b1) <;> simp[CE,HF,TE.2.1,LP Tryd.underlying3,P8 Tryd.underlying9,-beq_iff_eq,-beq_eq_false_iff_ne]
 cases h2:(a2==b2) <;> simp[CE,HF,TE.2.2.1,LP Tryd.underlying3,P8 Tryd.underlying9,-beq_iff_eq,-beq_eq_false_iff_ne]
 cases h3:(a3==b3) <;> simp[CE,HF,TE.2.2.2.1,LP Tryd.underlying3,P8 Tryd.underlying9,-beq_iff_eq,-beq_eq_false_iff_ne]
 cases h4:(a4==b4) <;> simp[CE,HF,TE.2.2.2.2,LP Tryd.underlying3,P8 Tryd.underlying9,-beq_iff_eq,-beq_eq_false_iff_ne]
 cases h5:(a5==b5) <;> simp[HF,-beq_iff_eq,-beq_eq_false_iff_ne]
theorem Cx {a c:ByteArray} {b d:Bool} (n:Nat):BA Tryd.prog (Op.equalIn (n+2) 102 (.agg #[.string a,.bool b]) (.agg #[.string c,.bool d]))=some (a==c&&b==d):=by
 rw[Op.equalIn,CE,NA Tryd.underlying102]
 simp only[Option.bind_some,CE,LF,Gz,Bool.false_eq_true,if_false]
 simp only[List.forIn_toArray,List.forIn_cons,List.forIn_nil,ne_eq,String.reduceEq,not_false_eq_true,if_true,CE,j0.1,Option.bind_some,P8 Tryd.underlying9,mU Tryd.underlying4]
 cases h1:(a==c) <;> simp[CE,HF,j0.2,P8 Tryd.underlying9,mU Tryd.underlying4,-beq_iff_eq,-beq_eq_false_iff_ne]
 cases h2:(b==d) <;> simp[HF,-beq_iff_eq,-beq_eq_false_iff_ne]
theorem sM {a:AB}:flat (CH a)=true:=rfl
theorem gJ {a:ByteArray} {b:Bool}:flat (.agg #[.string a,.bool b])=true:=rfl
section
variable {x y:Operand}
theorem m8 (op:BinOp) (neg:Bool) (hop:op=if neg then .neq else .eql) {a b:AB}:BU Tryd.prog op 61 x y (CH a) (CH b)=some (.bool (if neg then !(MF a b) else MF a b)):=by
 have k:BA Tryd.prog (Op.equal 61 (CH a) (CH b))=some (MF a b):=Ho 9998
 cases neg with
 | true=>
  subst hop
  have e:BA Tryd.prog (do eqGuard .neq 61 x y (CH a) (CH b);binOp .neq 61 (CH a) (CH b))=some (.bool (!(MF a b))):=by
   rw[CE]
   have g:BA Tryd.prog (eqGuard .neq 61 x y (CH a) (CH b))=some ():=by
    unfold eqGuard
    simp[CE,LF,HF]
   rw[g]
   show BA Tryd.prog ((do pure (.bool (!(← Op.equal 61 (CH a) (CH b))))):Sem Value)=_
   rw[CE,k]
   rfl
  simp only[BU,sM,Bool.and_self,if_true,e,KN]
 | false=>
  subst hop
  have e:BA Tryd.prog (do eqGuard .eql 61 x y (CH a) (CH b);binOp .eql 61 (CH a) (CH b))=some (.bool (MF a b)):=by
   rw[CE]
   have g:BA Tryd.prog (eqGuard .eql 61 x y (CH a) (CH b))=some ():=by
    unfold eqGuard
    simp[CE,LF,HF]
   rw[g]
   show BA Tryd.prog ((do pure (.bool (← Op.equal 61 (CH a) (CH b)))):Sem Value)=_
   rw[CE,k]
   rfl
  simp only[Bool.false_eq_true,if_false,BU,sM,Bool.and_self,if_true,e,KN]
theorem Kd {a b:AB}:BU Tryd.prog .neq 61 x y (CH a) (CH b)=some (.bool (!(MF a b))):=m8 .neq true rfl
theorem q8 (op:BinOp) (neg:Bool) (hop:op=if neg then .neq else .eql) {a c:ByteArray} {b d:Bool}:BU Tryd.prog op 102 x y (.agg #[.string a,.bool b]) (.agg #[.string c,.bool d])=some (.bool (if neg then !(a==c&&b==d) else (a==c&&b==d))):=by
 have k:BA Tryd.prog (Op.equal 102 (.agg #[.string a,.bool b]) (.agg #[.string c,.bool d]))=some (a==c&&b==d):=Cx 9998
 cases neg with
 | true=>
  subst hop
  have e:BA Tryd.prog (do eqGuard .neq 102 x y (.agg #[.string a,.bool b]) (.agg #[.string c,.bool d]);binOp .neq 102 (.agg #[.string a,.bool b]) (.agg #[.string c,.bool d]))=some (.bool (!(a==c&&b==d))):=by
   rw[CE]
   have g:BA Tryd.prog (eqGuard .neq 102 x y (.agg #[.string a,.bool b]) (.agg #[.string c,.bool d]))=some ():=by
    unfold eqGuard
    simp[CE,LF,HF]
   rw[g]
   show BA Tryd.prog ((do pure (.bool (!(← Op.equal 102 (.agg #[.string a,.bool b]) (.agg #[.string c,.bool d]))))):Sem Value)=_
   rw[CE,k]
   rfl
  simp only[BU,gJ,Bool.and_self,if_true,e,KN]
 | false=>
  subst hop
  have e:BA Tryd.prog (do eqGuard .eql 102 x y (.agg #[.string a,.bool b]) (.agg #[.string c,.bool d]);binOp .eql 102 (.agg #[.string a,.bool b]) (.agg #[.string c,.bool d]))=some (.bool (a==c&&b==d)):=by
   rw[CE]
   have g:BA Tryd.prog (eqGuard .eql 102 x y (.agg #[.string a,.bool b]) (.agg #[.string c,.bool d]))=some ():=by
    unfold eqGuard
    simp[CE,LF,HF]
   rw[g]
   show BA Tryd.prog ((do pure (.bool (← Op.equal 102 (.agg #[.string a,.bool b]) (.agg #[.string c,.bool d])))):Sem Value)=_
   rw[CE,k]
   rfl
  simp only[Bool.false_eq_true,if_false,BU,gJ,Bool.and_self,if_true,e,KN]
theorem Kj {a c:ByteArray} {b d:Bool}:BU Tryd.prog .neq 102 x y (.agg #[.string a,.bool b]) (.agg #[.string c,.bool d])=some (.bool (!(a==c&&b==d))):=q8 .neq true rfl
end
theorem Bb {a b:ByteArray}:(a==b)=true↔a=b:=by
 obtain⟨a⟩:=a
 obtain⟨b⟩:=b
 show (a==b)=true↔_
 rw[beq_iff_eq,ByteArray.mk.injEq]
theorem XD {a b:AB}:MF a b=true↔a=b:=by
 obtain⟨a1,a2,a3,a4,a5⟩:=a
 obtain⟨b1,b2,b3,b4,b5⟩:=b
 unfold MF
 simp only[Bool.and_eq_true,beq_iff_eq,Bb,AB.mk.injEq]
theorem JY {lo:Nat} {h:AA} {v:Value} {n w:Nat} {cs:List Value} (hc:AM lo h v n w cs) (h':AA):CX Tryd.prog h' 27 v=some (iv (n:Int)):=AM.len hc Tryd.underlying27
theorem XC {lo:Nat} {h:AA} {v:Value} {n w:Nat} {cs:List Value} (hc:AM lo h v n w cs) (h':AA):CX Tryd.prog h' 31 v=some (iv (n:Int)):=AM.len hc Tryd.underlying31
theorem U_ {lo:Nat} {h:AA} {v:Value} {n w:Nat} {cs:List Value} (hc:AM lo h v n w cs) (h':AA):CX Tryd.prog h' 30 v=some (iv (n:Int)):=AM.len hc Tryd.underlying30
theorem NT {lo:Nat} {h:AA} {v:Value} {n w:Nat} {cs:List Value} (hc:AM lo h v n w cs) (h':AA):CX Tryd.prog h' 26 v=some (iv (n:Int)):=AM.len hc Tryd.underlying26
theorem sA {l:List ByteArray} {i:Nat} {x:ByteArray} (hx:l[i]?=some x) {lo:Nat} {h:AA} {v:Value} (hc:AM lo h v l.length 1 (DA l)):∃ id p,CM Tryd.prog 31 v (iv (i:Int))=some (qP id p)∧id<h.next∧AJ p (h.get id)=some (.string x):=by
 obtain⟨id,p,h1,h2,h3⟩:=AM.idx hc Tryd.underlying31 M4 (List.getElem?_eq_some_iff.1 hx).1
 refine⟨id,p,h1,h2,?_⟩
 have:=h3 0 (by decide)
 rw[Nat.add_zero] at this
 rw[this,Nat.mul_one,Nat.add_zero,DA,List.getElem?_map,hx]
 rfl
theorem dX:∀ {l:List (ByteArray × Bool)} {i:Nat} {x:ByteArray × Bool},l[i]?=some x→((C9 l).drop (i*2)).take 2=[.string x.1,.bool x.2]
 | [],i,x,h=>by simp at h
 | q :: l,0,x,h=>by
  simp only[List.getElem?_cons_zero,Option.some.injEq] at h
  subst h
  rfl
 | q :: l,i+1,x,h=>by
  have:=dX (l:=l) (i:=i) (x:=x) (by simpa using h)
  rw[← this,show (i+1)*2=i*2+2 by omega]
  rfl
theorem j8 {l:List (ByteArray × Bool)} {i:Nat} {x:ByteArray × Bool} (hx:l[i]?=some x) {lo:Nat} {h:AA} {v:Value} (hc:AM lo h v l.length 2 (C9 l)):∃ id p,CM Tryd.prog 30 v (iv (i:Int))=some (qP id p)∧id<h.next∧AW 2 p (h.get id)=some (.agg #[.string x.1,.bool x.2]):=by
 obtain⟨id,p,h1,h2,h3⟩:=AM.whole hc Tryd.underlying30 QT (List.getElem?_eq_some_iff.1 hx).1
 rw[dX hx] at h3
 exact⟨id,p,h1,h2,h3⟩
theorem UH {α:Type} {A B:List α} (hl:A.length=B.length) (h:∀ j,j<A.length→A[j]?=B[j]?):A=B:=by
 apply List.ext_getElem?
 intro j
 rcases Nat.lt_or_ge j A.length with h1 | h1
 ·exact h j h1
 ·rw[List.getElem?_eq_none h1,List.getElem?_eq_none (by omega)]
theorem Fd:FM Tryd.prog 102=some true:=by kernel_rfl
theorem x9 {h:AA} {id off:Nat}:EL Tryd.prog h 102 (qP id off)=AW 2 off (h.get id):=M3 Fd QT
section
variable {call:AN} {N:Nat} {h:AA}
end
section
variable {call:AN} {N:Nat} {h:AA}
end
def VB (nm nm':ByteArray) (s s':AK):Prop:=nm=nm'∧s.miss=s'.miss∧s.rows=s'.rows∧s.queues=s'.queues∧s.vars=s'.vars∧s.tags=s'.tags∧s.rules=s'.rules∧s.on=s'.on
theorem cC {a b c d e f g i:Value} {ty:TypeId} {x y:Bool}:AJ 0 (.row [a,b,c,d,e,f,g,i] ty x y)=some a∧AJ 1 (.row [a,b,c,d,e,f,g,i] ty x y)=some b∧AJ 2 (.row [a,b,c,d,e,f,g,i] ty x y)=some c∧AJ 3 (.row [a,b,c,d,e,f,g,i] ty x y)=some d∧AJ 4 (.row [a,b,c,d,e,f,g,i] ty x y)=some e∧AJ 5 (.row [a,b,c,d,e,f,g,i] ty x y)=some f∧AJ 6 (.row [a,b,c,d,e,f,g,i] ty x y)=some g∧AJ 7 (.row [a,b,c,d,e,f,g,i] ty x y)=some i:=⟨rfl,rfl,rfl,rfl,rfl,rfl,rfl,rfl⟩
def IE (s:AK):Prop:=s.rows.length<2932031007403∧s.queues.length<2932031007403∧s.vars.length<2932031007403∧s.tags.length<2932031007403∧s.rules.length<2932031007403∧s.on.length<2932031007403
def E6 (s:AK):Nat:=s.rows.length+s.queues.length+s.vars.length+s.tags.length+s.rules.length+s.on.length
section
variable {n N:Nat}
end
instance:DecidableEq AB:=fun _ _=>decidable_of_decidable_of_iff XD
def MB:List (Bool × Bool × List Operand):=[AR,AR,AR,AR,AH [.tmp 18],AH [.tmp 18],AH [.tmp 18],AH [.tmp 18],AL]
theorem xJ {call:AN} {N:Nat} {h:AA} (hsn:CD call) {va vb:Value} {A B:List Int} {la lb:Nat} (ha:AT la h va A) (hb:AT lb h vb B) (hN:A.length+3<N) (hl:A.length<30000000000000):A7 Tryd.prog call N 59 [va,vb] h=some (.bool (decide (A=B)),h):=by
 refine DL Tryd.func59 rfl (by simp[Tryd.f59]) ?_
 have hr:Tryd.f59.results.toList=[.tmp 4]:=rfl
 have lA:=fun h'=>JY ha h'
 have lB:=fun h'=>JY hb h'
 cases d:((A.length:Int) != (B.length:Int)) with
 | true=>
  have hne:A≠B:=fun e=>by subst e;simp at d
  rw[decide_eq_false hne]
  simp only[eE,↓reduceIte,Nat.reduceEqDiff,reduceCtorEq,↓eP,hr,lA,lB,d]
 | false=>
  have hlen:A.length=B.length:=by
   have h9:(A.length:Int)=(B.length:Int):=by simpa using d
   omega
  simp only[eE,↓reduceIte,Nat.reduceEqDiff,reduceCtorEq,↓eP,lA,lB,d]
  refine WK.loop (fun i s'=>s'.T.get 0=va∧s'.T.get 1=vb∧s'.T.get 12=iv A.length∧s'.T.get 13=iv i∧s'.h=h∧i≤A.length∧∀ j,j<i→A[j]?=B[j]?) A.length (by omega) ?_ ?_
  ·exact⟨by simp only[eE,↓reduceIte,Nat.reduceEqDiff,reduceCtorEq,↓eP,rP,Nat.reduceAdd,Nat.reduceLT],by simp only[eE,↓reduceIte,Nat.reduceEqDiff,reduceCtorEq,↓eP,rP,Nat.reduceAdd,Nat.reduceLT],by simp only[eE,↓reduceIte,Nat.reduceEqDiff,reduceCtorEq,↓eP,rP,Nat.reduceAdd,Nat.reduceLT],by simp only[eE,↓reduceIte,Nat.reduceEqDiff,reduceCtorEq,↓eP,rP,Nat.reduceAdd,Nat.reduceLT];rfl,rfl,by omega,fun j hj=>by omega⟩
  ·rintro i ⟨T1,H1⟩ hi ⟨t0,t1,t12,t13,hh,hil,hsame⟩
   simp only at t0 t1 t12 t13 hh
   subst hh
   by_cases hlt:i<A.length
   ·have c1:decide ((i:Int)<(A.length:Int))=true:=by simp;omega
    obtain⟨x,hx⟩:∃ x,A[i]?=some x:=⟨_,List.getElem?_eq_getElem hlt⟩
    obtain⟨y,hy⟩:∃ y,B[i]?=some y:=⟨_,List.getElem?_eq_getElem (by omega)⟩
    obtain⟨ida,pa,ea,_,xa⟩:=AT.get ha hx
    obtain⟨idb,pb,eb,_,xb⟩:=AT.get hb hy
    have w1:=ET i (by omega)
    simp only[eE,seval,↓eP,t0,t1,t12,t13,c1]
    refine WK.flags (fs:=MB) (by kernel_rfl) ?_
    unfold MB
    iterate 9
     refine EE hsn ?_
     simp only[rG,seval,AC,AF,AE,CZ,DY,CQ,DI,EB,Option.bind_some,t0,t1,t12,t13,ea,eb,AV,xa,xb,R6]
    refine D_ ?_
    cases e:(x != y) with
    | true=>
     have hne:A≠B:=fun h9=>by
      subst h9
      rw[hx] at hy
      cases hy
      simp at e
     rw[decide_eq_false hne]
     simp only[eE,seval,↓eP,hr,e]
    | false=>
     have hxy:x=y:=by simpa using e
     simp only[eE,seval,↓eP,t0,t1,t12,t13,e,w1]
     refine⟨by omega,by omega,fun j hj=>?_⟩
     rcases Nat.lt_or_ge j i with h1 | h1
     ·exact hsame j h1
     ·have:j=i:=by omega
      subst this
      rw[hx,hy,hxy]
   ·have c1:decide ((i:Int)<(A.length:Int))=false:=by simp;omega
    have:i=A.length:=by omega
    subst this
    have hAB:A=B:=UH hlen hsame
    rw[decide_eq_true hAB]
    simp only[eE,seval,↓eP,hr,t0,t1,t12,t13,c1]
theorem lX {n:Nat} {h:AA} {va vb:Value} {A B:List Int} {la lb:Nat} (ha:AT la h va A) (hb:AT lb h vb B) (hl:A.length<2932031007403) (hn:A.length+5<n):AU n 59 [va,vb] h=some (.bool (decide (A=B)),h):=by
 obtain⟨n,rfl⟩:=DJ hn
 exact EN (BX ⟨rfl,rfl,rfl⟩) rfl (xJ (FT n).2 ha hb (by omega) (by omega))
theorem Gy {call:AN} {N:Nat} {h:AA} (hsn:CD call) {va vb:Value} {A B:List ByteArray} {la lb:Nat} (ha:AM la h va A.length 1 (DA A)) (hb:AM lb h vb B.length 1 (DA B)) (hN:A.length+3<N) (hl:A.length<30000000000000):A7 Tryd.prog call N 58 [va,vb] h=some (.bool (decide (A=B)),h):=by
 refine DL Tryd.func58 rfl (by simp[Tryd.f58]) ?_
 have hr:Tryd.f58.results.toList=[.tmp 4]:=rfl
 have lA:=fun h'=>XC ha h'
 have lB:=fun h'=>XC hb h'
 cases d:((A.length:Int) != (B.length:Int)) with
 | true=>
  have hne:A≠B:=fun e=>by subst e;simp at d
  rw[decide_eq_false hne]
  simp only[eE,↓reduceIte,Nat.reduceEqDiff,reduceCtorEq,↓eP,hr,lA,lB,d]
 | false=>
  have hlen:A.length=B.length:=by
   have h9:(A.length:Int)=(B.length:Int):=by simpa using d
   omega
  simp only[eE,↓reduceIte,Nat.reduceEqDiff,reduceCtorEq,↓eP,lA,lB,d]
  refine WK.loop (fun i s'=>s'.T.get 0=va∧s'.T.get 1=vb∧s'.T.get 12=iv A.length∧s'.T.get 13=iv i∧s'.h=h∧i≤A.length∧∀ j,j<i→A[j]?=B[j]?) A.length (by omega) ?_ ?_
  ·exact⟨by simp only[eE,↓reduceIte,Nat.reduceEqDiff,reduceCtorEq,↓eP,rP,Nat.reduceAdd,Nat.reduceLT],by simp only[eE,↓reduceIte,Nat.reduceEqDiff,reduceCtorEq,↓eP,rP,Nat.reduceAdd,Nat.reduceLT],by simp only[eE,↓reduceIte,Nat.reduceEqDiff,reduceCtorEq,↓eP,rP,Nat.reduceAdd,Nat.reduceLT],by simp only[eE,↓reduceIte,Nat.reduceEqDiff,reduceCtorEq,↓eP,rP,Nat.reduceAdd,Nat.reduceLT];rfl,rfl,by omega,fun j hj=>by omega⟩
  ·rintro i ⟨T1,H1⟩ hi ⟨t0,t1,t12,t13,hh,hil,hsame⟩
   simp only at t0 t1 t12 t13 hh
   subst hh
   by_cases hlt:i<A.length
   ·have c1:decide ((i:Int)<(A.length:Int))=true:=by simp;omega
    obtain⟨x,hx⟩:∃ x,A[i]?=some x:=⟨_,List.getElem?_eq_getElem hlt⟩
    obtain⟨y,hy⟩:∃ y,B[i]?=some y:=⟨_,List.getElem?_eq_getElem (by omega)⟩
    obtain⟨ida,pa,ea,_,xa⟩:=sA hx ha
    obtain⟨idb,pb,eb,_,xb⟩:=sA hy hb
    have w1:=ET i (by omega)
    simp only[eE,seval,↓eP,t0,t1,t12,t13,c1]
    refine WK.flags (fs:=MB) (by kernel_rfl) ?_
    unfold MB
    iterate 9
     refine EE hsn ?_
     simp only[rG,seval,AC,AF,AE,CZ,DY,CQ,DI,EB,Option.bind_some,t0,t1,t12,t13,ea,eb,GQ,xa,xb,MW]
    refine D_ ?_
    cases e:(!(x==y)) with
    | true=>
     have hne:A≠B:=fun h9=>by
      subst h9
      rw[hx] at hy
      cases hy
      rw[QN] at e;cases e
     rw[decide_eq_false hne]
     simp only[eE,seval,↓eP,hr,e]
    | false=>
     have hxy:x=y:=NW (by simpa using e)
     simp only[eE,seval,↓eP,t0,t1,t12,t13,e,w1]
     refine⟨by omega,by omega,fun j hj=>?_⟩
     rcases Nat.lt_or_ge j i with h1 | h1
     ·exact hsame j h1
     ·have:j=i:=by omega
      subst this
      rw[hx,hy,hxy]
   ·have c1:decide ((i:Int)<(A.length:Int))=false:=by simp;omega
    have:i=A.length:=by omega
    subst this
    have hAB:A=B:=UH hlen hsame
    rw[decide_eq_true hAB]
    simp only[eE,seval,↓eP,hr,t0,t1,t12,t13,c1]
theorem oP {n:Nat} {h:AA} {va vb:Value} {A B:List ByteArray} {la lb:Nat} (ha:AM la h va A.length 1 (DA A)) (hb:AM lb h vb B.length 1 (DA B)) (hl:A.length<2932031007403) (hn:A.length+5<n):AU n 58 [va,vb] h=some (.bool (decide (A=B)),h):=by
 obtain⟨n,rfl⟩:=DJ hn
 exact EN (BX ⟨rfl,rfl,rfl⟩) rfl (Gy (FT n).2 ha hb (by omega) (by omega))
theorem Hu {call:AN} {N:Nat} {h:AA} (hsn:CD call) {va vb:Value} {A B:List (ByteArray × Bool)} {la lb:Nat} (ha:AM la h va A.length 2 (C9 A)) (hb:AM lb h vb B.length 2 (C9 B)) (hN:A.length+3<N) (hl:A.length<30000000000000):A7 Tryd.prog call N 57 [va,vb] h=some (.bool (decide (A=B)),h):=by
 refine DL Tryd.func57 rfl (by simp[Tryd.f57]) ?_
 have hr:Tryd.f57.results.toList=[.tmp 4]:=rfl
 have lA:=fun h'=>U_ ha h'
 have lB:=fun h'=>U_ hb h'
 cases d:((A.length:Int) != (B.length:Int)) with
 | true=>
  have hne:A≠B:=fun e=>by subst e;simp at d
  rw[decide_eq_false hne]
  simp only[eE,↓reduceIte,Nat.reduceEqDiff,reduceCtorEq,↓eP,hr,lA,lB,d]
 | false=>
  have hlen:A.length=B.length:=by
   have h9:(A.length:Int)=(B.length:Int):=by simpa using d
   omega
  simp only[eE,↓reduceIte,Nat.reduceEqDiff,reduceCtorEq,↓eP,lA,lB,d]
  refine WK.loop (fun i s'=>s'.T.get 0=va∧s'.T.get 1=vb∧s'.T.get 12=iv A.length∧s'.T.get 13=iv i∧s'.h=h∧i≤A.length∧∀ j,j<i→A[j]?=B[j]?) A.length (by omega) ?_ ?_
  ·exact⟨by simp only[eE,↓reduceIte,Nat.reduceEqDiff,reduceCtorEq,↓eP,rP,Nat.reduceAdd,Nat.reduceLT],by simp only[eE,↓reduceIte,Nat.reduceEqDiff,reduceCtorEq,↓eP,rP,Nat.reduceAdd,Nat.reduceLT],by simp only[eE,↓reduceIte,Nat.reduceEqDiff,reduceCtorEq,↓eP,rP,Nat.reduceAdd,Nat.reduceLT],by simp only[eE,↓reduceIte,Nat.reduceEqDiff,reduceCtorEq,↓eP,rP,Nat.reduceAdd,Nat.reduceLT];rfl,rfl,by omega,fun j hj=>by omega⟩
  ·rintro i ⟨T1,H1⟩ hi ⟨t0,t1,t12,t13,hh,hil,hsame⟩
   simp only at t0 t1 t12 t13 hh
   subst hh
   by_cases hlt:i<A.length
   ·have c1:decide ((i:Int)<(A.length:Int))=true:=by simp;omega
    obtain⟨x,hx⟩:∃ x,A[i]?=some x:=⟨_,List.getElem?_eq_getElem hlt⟩
    obtain⟨y,hy⟩:∃ y,B[i]?=some y:=⟨_,List.getElem?_eq_getElem (by omega)⟩
    obtain⟨ida,pa,ea,_,xa⟩:=j8 hx ha
    obtain⟨idb,pb,eb,_,xb⟩:=j8 hy hb
    have w1:=ET i (by omega)
    simp only[eE,seval,↓eP,t0,t1,t12,t13,c1]
    refine WK.flags (fs:=MB) (by kernel_rfl) ?_
    unfold MB
    iterate 9
     refine EE hsn ?_
     simp only[rG,seval,AC,AF,AE,CZ,DY,CQ,DI,EB,Option.bind_some,t0,t1,t12,t13,ea,eb,x9,xa,xb,Kj]
    refine D_ ?_
    cases e:(!(x.1==y.1&&x.2==y.2)) with
    | true=>
     have hne:A≠B:=fun h9=>by
      subst h9
      rw[hx] at hy
      cases hy
      rw[QN] at e;simp at e
     rw[decide_eq_false hne]
     simp only[eE,seval,↓eP,hr,e]
    | false=>
     have hxy:x=y:=(by simp only[Bool.not_eq_false',Bool.and_eq_true] at e;exact Prod.ext (NW e.1) (by simpa using e.2))
     simp only[eE,seval,↓eP,t0,t1,t12,t13,e,w1]
     refine⟨by omega,by omega,fun j hj=>?_⟩
     rcases Nat.lt_or_ge j i with h1 | h1
     ·exact hsame j h1
     ·have:j=i:=by omega
      subst this
      rw[hx,hy,hxy]
   ·have c1:decide ((i:Int)<(A.length:Int))=false:=by simp;omega
    have:i=A.length:=by omega
    subst this
    have hAB:A=B:=UH hlen hsame
    rw[decide_eq_true hAB]
    simp only[eE,seval,↓eP,hr,t0,t1,t12,t13,c1]
theorem uP {n:Nat} {h:AA} {va vb:Value} {A B:List (ByteArray × Bool)} {la lb:Nat} (ha:AM la h va A.length 2 (C9 A)) (hb:AM lb h vb B.length 2 (C9 B)) (hl:A.length<2932031007403) (hn:A.length+5<n):AU n 57 [va,vb] h=some (.bool (decide (A=B)),h):=by
 obtain⟨n,rfl⟩:=DJ hn
 exact EN (BX ⟨rfl,rfl,rfl⟩) rfl (Hu (FT n).2 ha hb (by omega) (by omega))
theorem jA {h:AA} {v:Value} {l:List AB} (hv:A_ h v l) (h':AA):CX Tryd.prog h' 26 v=some (iv (l.length:Int)):=hv.len
theorem Ec {call:AN} {N:Nat} {h:AA} (hsn:CD call) {va vb:Value} {A B:List AB} (ha:A_ h va A) (hb:A_ h vb B) (hN:A.length+3<N) (hl:A.length<30000000000000):A7 Tryd.prog call N 56 [va,vb] h=some (.bool (decide (A=B)),h):=by
 refine DL Tryd.func56 rfl (by simp[Tryd.f56]) ?_
 have hr:Tryd.f56.results.toList=[.tmp 4]:=rfl
 have lA:=fun h'=>jA ha h'
 have lB:=fun h'=>jA hb h'
 cases d:((A.length:Int) != (B.length:Int)) with
 | true=>
  have hne:A≠B:=fun e=>by subst e;simp at d
  rw[decide_eq_false hne]
  simp only[eE,↓reduceIte,Nat.reduceEqDiff,reduceCtorEq,↓eP,hr,lA,lB,d]
 | false=>
  have hlen:A.length=B.length:=by
   have h9:(A.length:Int)=(B.length:Int):=by simpa using d
   omega
  simp only[eE,↓reduceIte,Nat.reduceEqDiff,reduceCtorEq,↓eP,lA,lB,d]
  refine WK.loop (fun i s'=>s'.T.get 0=va∧s'.T.get 1=vb∧s'.T.get 12=iv A.length∧s'.T.get 13=iv i∧s'.h=h∧i≤A.length∧∀ j,j<i→A[j]?=B[j]?) A.length (by omega) ?_ ?_
  ·exact⟨by simp only[eE,↓reduceIte,Nat.reduceEqDiff,reduceCtorEq,↓eP,rP,Nat.reduceAdd,Nat.reduceLT],by simp only[eE,↓reduceIte,Nat.reduceEqDiff,reduceCtorEq,↓eP,rP,Nat.reduceAdd,Nat.reduceLT],by simp only[eE,↓reduceIte,Nat.reduceEqDiff,reduceCtorEq,↓eP,rP,Nat.reduceAdd,Nat.reduceLT],by simp only[eE,↓reduceIte,Nat.reduceEqDiff,reduceCtorEq,↓eP,rP,Nat.reduceAdd,Nat.reduceLT];rfl,rfl,by omega,fun j hj=>by omega⟩
  ·rintro i ⟨T1,H1⟩ hi ⟨t0,t1,t12,t13,hh,hil,hsame⟩
   simp only at t0 t1 t12 t13 hh
   subst hh
   by_cases hlt:i<A.length
   ·have c1:decide ((i:Int)<(A.length:Int))=true:=by simp;omega
    obtain⟨x,hx⟩:∃ x,A[i]?=some x:=⟨_,List.getElem?_eq_getElem hlt⟩
    obtain⟨y,hy⟩:∃ y,B[i]?=some y:=⟨_,List.getElem?_eq_getElem (by omega)⟩
    obtain⟨ida,pa,ea,_,_,_,_,_,_,xa9⟩:=A_.row ha hx
    have xa:AW 5 pa (H1.get ida)=some (CH x):=xa9
    obtain⟨idb,pb,eb,_,_,_,_,_,_,xb9⟩:=A_.row hb hy
    have xb:AW 5 pb (H1.get idb)=some (CH y):=xb9
    have w1:=ET i (by omega)
    simp only[eE,seval,↓eP,t0,t1,t12,t13,c1]
    refine WK.flags (fs:=MB) (by kernel_rfl) ?_
    unfold MB
    iterate 9
     refine EE hsn ?_
     simp only[rG,seval,AC,AF,AE,CZ,DY,CQ,DI,EB,Option.bind_some,t0,t1,t12,t13,ea,eb,IG,xa,xb,Kd]
    refine D_ ?_
    cases e:(!(MF x y)) with
    | true=>
     have hne:A≠B:=fun h9=>by
      subst h9
      rw[hx] at hy
      cases hy
      rw[XD.2 rfl] at e;cases e
     rw[decide_eq_false hne]
     simp only[eE,seval,↓eP,hr,e]
    | false=>
     have hxy:x=y:=XD.1 (by simpa using e)
     simp only[eE,seval,↓eP,t0,t1,t12,t13,e,w1]
     refine⟨by omega,by omega,fun j hj=>?_⟩
     rcases Nat.lt_or_ge j i with h1 | h1
     ·exact hsame j h1
     ·have:j=i:=by omega
      subst this
      rw[hx,hy,hxy]
   ·have c1:decide ((i:Int)<(A.length:Int))=false:=by simp;omega
    have:i=A.length:=by omega
    subst this
    have hAB:A=B:=UH hlen hsame
    rw[decide_eq_true hAB]
    simp only[eE,seval,↓eP,hr,t0,t1,t12,t13,c1]
theorem zS {n:Nat} {h:AA} {va vb:Value} {A B:List AB} (ha:A_ h va A) (hb:A_ h vb B) (hl:A.length<2932031007403) (hn:A.length+5<n):AU n 56 [va,vb] h=some (.bool (decide (A=B)),h):=by
 obtain⟨n,rfl⟩:=DJ hn
 exact EN (BX ⟨rfl,rfl,rfl⟩) rfl (Ec (FT n).2 ha hb (by omega) (by omega))
theorem jX:∀ (l:List AB) (k:Nat),(l.flatMap AZ).take (k*5)=(l.take k).flatMap AZ
 | l,0=>by simp
 | [],k+1=>by simp
 | r :: l,k+1=>by
  rw[List.flatMap_cons,List.take_succ_cons,List.flatMap_cons,← jX l k,show (k+1)*5=k*5+5 by omega]
  rfl
theorem lH {L:List AB} {i:Nat} {x:AB} (hi:i<L.length):Go.Sx.lay (L.flatMap AZ) (i*5) (AZ x)=(L.set i x).flatMap AZ:=by
 have h5:(AZ x).length=5:=rfl
 rw[List.set_eq_take_append_cons_drop,if_pos hi,List.flatMap_append,List.flatMap_cons,← jX,← V8]
 simp only[Go.Sx.lay,h5]
 rw[show (i+1)*5=i*5+5 by omega,List.append_assoc]
abbrev K5:AB:=⟨0,ByteArray.empty,0,0,0⟩
theorem zr:(Value.agg #[.int .i64 0,.string ByteArray.empty,.int .i64 0,.int .i64 0,.int .i64 0]).cells.toList=AZ K5:=rfl
abbrev cA:ByteArray:=⟨#[108,101,110,116]⟩
def mark (i:Nat):AB:=⟨-7,cA,0,0,i⟩
theorem cI:∀ n,BY FG n=(List.replicate n K5).flatMap AZ
 | 0=>rfl
 | n+1=>by rw[BY,cI n,List.replicate_succ,List.flatMap_cons];rfl
theorem Dk {h:AA} {id i off:Nat} {L:List AB} {x:AB} {ty:TypeId} {g:Bool} (ho:off=i*5) (hg:h.get id=.row (L.flatMap AZ) ty g false) (hi:i<L.length) (hf:h.floor≤id):A9 Tryd.prog h 61 (qP id off) (CH x)=some (h.put id (.row ((L.set i x).flatMap AZ) ty g false)):=by
 subst ho
 have hc:(CH x).cells=(AZ x).toArray:=rfl
 have h5:(AZ x).length=5:=rfl
 have hone:(AZ x).all one=true:=rfl
 have hl:=IW L
 simp only[A9,hc,GJ,GB,hg]
 rw[if_pos (by simp[h5]),if_pos (by simp only[h5,hone,hl];simp;omega),lH hi]
theorem WG:HW Tryd.prog (match Tryd.prog.underlying 61 with | some (.struct fs)=>fs.toList | _=>[])=some [(0,1),(1,1),(2,1),(3,1),(4,1)]:=by kernel_rfl
theorem hJ {id n c i:Nat} (hi:i<n):CM Tryd.prog 26 (qS id n c) (iv (i:Int))=some (.pointer (some ⟨id,i*5,none⟩)):=N7 hi
theorem MV {l:List AB} (h:(BE l).1.1=0):CN l∧(C4 l).1=0∧(DO (BR l) l.length 0 (CR l)).1=0∧¬ KK (DO (BR l) l.length 0 (CR l)).2.2.rows (BR l) (DO (BR l) l.length 0 (CR l)).2.2.rules≥0 ∧
  BE l=((0,0),(DO (BR l) l.length 0 (CR l)).2.2)∧HY l l.length (BE l).2:=by
 by_cases h1:(C4 l).1≠0
 ·unfold BE at h
  rw[if_pos h1] at h
  exact absurd h h1
 ·by_cases h2:(DO (BR l) l.length 0 (CR l)).1≠0
  ·unfold BE at h
   rw[if_neg h1] at h
   simp only at h
   rw[if_pos h2] at h
   exact absurd h h2
  ·by_cases h3:KK (DO (BR l) l.length 0 (CR l)).2.2.rows (BR l) (DO (BR l) l.length 0 (CR l)).2.2.rules≥0
   ·unfold BE at h
    rw[if_neg h1] at h
    simp only at h
    rw[if_neg h2,if_pos h3] at h
    cases h
   ·have e1:(C4 l).1=0:=by simpa using h1
    have e2:(DO (BR l) l.length 0 (CR l)).1=0:=by simpa using h2
    have e:BE l=((0,0),(DO (BR l) l.length 0 (CR l)).2.2):=by
     unfold BE
     rw[if_neg h1]
     simp only
     rw[if_neg h2,if_neg h3]
    have ht:=oM (jJ e1)
    refine⟨ht,e1,e2,h3,e,?_⟩
    rw[e]
    exact rW ht WR l.length 0 (CR l) (by omega) (cX l) e2
theorem Af {l:List AB} (h:(BE l).1.1≠0):DS l=(ByteArray.empty,sZ):=by unfold DS;rw[if_pos h]
theorem PZ {l:List AB} (h:(BE l).1.1=0):DS l=(J_ l,(BE l).2):=by unfold DS;rw[if_neg (by rw[h];simp)]
theorem Q7 {l:List AB} (hl:l.length<2932031007403):IE (DS l).2∧E6 (DS l).2≤l.length+200:=by
 by_cases h:(BE l).1.1=0
 ·rw[PZ h]
  obtain⟨_,_,_,_,_,hi⟩:=MV h
  have hw:=hi.wf
  have:=hw.q;have:=hw.v;have:=hw.t;have:=hw.u;have:=hw.o;have:=hi.len
  unfold IE E6
  simp only
  omega
 ·rw[Af h]
  exact⟨⟨by decide,by decide,by decide,by decide,by decide,by decide⟩,by show 0≤_;omega⟩
theorem Bf (nm:ByteArray) (s:AK):VB nm nm s s:=⟨rfl,rfl,rfl,rfl,rfl,rfl,rfl,rfl⟩
def LG (x:AB):AB:=if x.kind≠27 then { x with n:=0 } else x
def BD (l:List AB):List AB:=l.map LG
def VX (nm:ByteArray) (s:AK):Prop:=(BE (BD s.rows)).1.1=0∧VB nm (DS (BD s.rows)).1 s (DS (BD s.rows)).2
open Classical in
noncomputable def FQ (nm:ByteArray) (s:AK):Int:=if VX nm s then 0 else 23
theorem XP {H:AA} {cs:List Value} {e p:Int} (hl:cs.length=8) (ho:cs.all one=true) (hf:H.floor≤H.next) :
  ∃ H':AA × AA,A9 Tryd.prog ((H.push (.row CY 33 false false)).push (.row [iv 0,iv 0] 36 false false)) 33 (qP H.next 0) (.agg cs.toArray)=some (H'.1)∧A9 Tryd.prog H'.1 36 (qP (H.next+1) 0) (BG e p)=some H'.2 ∧
   HS H.next H'.2 cs e p∧H'.2.next=H.next+2∧H'.2.floor=H.floor∧∀ i,i<H.next→H'.2.get i=H.get i:=by
 have ga:=PE (h:=H) (o:=.row CY 33 false false) (o':=.row [iv 0,iv 0] 36 false false)
 have gb:=PK (h:=H) (o:=.row CY 33 false false) (o':=.row [iv 0,iv 0] 36 false false)
 have gold:∀ i,i<H.next→((H.push (.row CY 33 false false)).push (.row [iv 0,iv 0] 36 false false)).get i=H.get i:=fun i hi=>by rw[AQ (by show i<H.next+1;omega),AQ hi]
 have hnx:((H.push (.row CY 33 false false)).push (.row [iv 0,iv 0] 36 false false)).next=H.next+2:=rfl
 have hfx:((H.push (.row CY 33 false false)).push (.row [iv 0,iv 0] 36 false false)).floor=H.floor:=rfl
 generalize (H.push (.row CY 33 false false)).push (.row [iv 0,iv 0] 36 false false)=G at *
 obtain⟨H',s1,s2,r1,r2,r3,r4⟩:=UT (a:=H.next) (H:=G) ⟨ga,gb⟩ rfl (by omega) (by omega) (cs':=cs) hl ho (e':=e) (p':=p)
 exact⟨⟨_,H'⟩,s1,s2,r1,by show H'.next=_;omega,by show H'.floor=_;omega,fun i hi=>by show H'.get i=_;rw[r4 i (by omega) (by omega),gold i hi]⟩
theorem I6 {lo:Nat} {h:AA} {nm:ByteArray} {s:AK} {vr vq vv vt vu vo:Value} (h1:HC lo h vr s.rows) (h2:AM lo h vq s.queues.length 2 (C9 s.queues)) (h3:AM lo h vv s.vars.length 1 (DA s.vars)) (h4:AM lo h vt s.tags.length 1 (DA s.tags)) (h5:AT lo h vu s.rules) (h6:AT lo h vo s.on) :
  ([.string nm,vr,vq,vv,vt,vu,vo,iv s.miss]:List Value).all one=true:=by
 simp only[List.all_cons,List.all_nil,h1.2.one,h2.one,h3.one,h4.one,AM.one h5,AM.one h6,RM,JU,Bool.and_self]
def GS (v:Value) (n:Nat):Prop:=∃ id off c,v=.slice (some ⟨id,off,none⟩) n c
theorem aT {h:AA} {v:Value} {l:List AB} (hv:A_ h v l) (hne:0<l.length):GS v l.length:=by
 obtain⟨a,c,rfl,⟨h1,_⟩ | ⟨id,off,_,_,_,_,rfl,_⟩⟩:=hv
 ·rw[h1] at hne;exact absurd hne (by simp)
 ·exact⟨id,off,c,rfl⟩
theorem Bs {call:AN} {N:Nat} {h:AA} {l:List AB} {v:Value} (hv:A_ h v l) (hlies:GS v l.length) (hlen:l.length<2932031007403) :
  ∃ v' h',A7 Tryd.prog call N 28 [v] h=some (v',h')∧(∃ o c g,v'=qS o l.length c∧h'.get o=.row (l.flatMap AZ) 61 g false∧h.next≤o∧o<h'.next)∧h'.floor=h.floor∧h.next≤h'.next∧∀ i,i<h.next→h'.get i=h.get i:=by
 by_cases h0:0<l.length
 ·obtain⟨h',e,g1,g2,g3,g4⟩:=k7 (call:=call) (N:=N) hv h0 hlen
  exact⟨_,h',e,⟨h.next+1,AP,true,rfl,g1,by omega,by omega⟩,g3,by omega,g4⟩
 ·have hl:l=[]:=List.length_eq_zero_iff.1 (by omega)
  subst hl
  obtain⟨id,off,c,rfl⟩:=hlies
  refine⟨qS h.next 0 0,h.push (.row [] 61 false false),?_,⟨h.next,0,false,rfl,BM,Nat.le_refl _,by show h.next<h.next+1;omega⟩,rfl,by show h.next≤h.next+1;omega,fun i hi=>AQ hi⟩
  refine DL Tryd.func28 rfl (by simp[Tryd.f28]) ?_
  have hr:Tryd.f28.results.toList=[.tmp 2]:=rfl
  have hb:BU Tryd.prog .eql 26 (.tmp 3) (.const (Z0)) (.slice (some ⟨id,off,none⟩) ([]:List AB).length c) (Z0)=some (.bool false):=by
   have hf:flat (.slice (some ⟨id,off,none⟩) ([]:List AB).length c)=false:=rfl
   simp only[BU,hf,Bool.false_and,Bool.false_eq_true,if_false,Tryd.underlying26]
  have hbs:FC Tryd.prog h 26 0 []=some (qS h.next 0 0,h.push (.row [] 61 false false)):=by
   simp[FC,Tryd.underlying26,GJ,FY,flat,BI,MT,IS,BY]
  have hsrc:DB (h.push (.row [] 61 false false)) 5 ([]:List AB).length (.slice (some ⟨id,off,none⟩) ([]:List AB).length c)=some []:=by simp[DB]
  have hap:C_ Tryd.prog (h.push (.row [] 61 false false)) 26 (qS h.next 0 0) (.slice (some ⟨id,off,none⟩) ([]:List AB).length c)=some (qS h.next 0 0,h.push (.row [] 61 false false)):=by
   have hu:(0:Nat)≠AP:=by unfold AP;omega
   have hzs:(Value.agg #[.int .i64 0,.string ByteArray.empty,.int .i64 0,.int .i64 0,.int .i64 0]).cells.size=5:=rfl
   simp[C_,Tryd.underlying26,GJ,R3,FY,hzs,DB,hu]
  simp only[eE,seval,↓eP,hr,hb,hbs,hap]
theorem Ik {n:Nat} {h:AA} {l:List AB} {v:Value} (hv:A_ h v l) (hlies:GS v l.length) (hlen:l.length<2932031007403) (hn:0<n) :
  ∃ v' h',AU n 28 [v] h=some (v',h')∧(∃ o c g,v'=qS o l.length c∧h'.get o=.row (l.flatMap AZ) 61 g false∧h.next≤o∧o<h'.next)∧h'.floor=h.floor∧h.next≤h'.next∧∀ i,i<h.next→h'.get i=h.get i:=by
 obtain⟨n,rfl⟩:=DJ hn
 refine PM (BX ⟨rfl,rfl,rfl⟩) (Bs (call:=AU n) (N:=n) hv hlies hlen) fun v' h1 hf ho ⟨⟨o,c,g,e1,_⟩,_⟩=>?_
 rw[e1] at hf
 cases hf
section
variable {n N:Nat}
theorem vY {nm:ByteArray} {s:AK} {pv:Value} {lo:Nat} {h:AA} (hp:CB lo h pv nm s) (hlies:∀ nm' vr vq vv vt vu vo m,pv=.agg #[.string nm',vr,vq,vv,vt,vu,vo,m]→GS vr s.rows.length) (hs:IE s) (hl:s.rows.length<2932031007403) (hfl:h.floor≤h.next) (hg:h.get 0=CF) (hn0:0<h.next) (hn:2*E6 s+200<n) (hN:E6 s+200<N) :
  ∃ h',A7 Tryd.prog (AU n) N 38 [pv] h=some (iv (FQ nm s),h')∧∀ i,i<h.next→h'.get i=h.get i:=by
 obtain⟨vr,vq,vv,vt,vu,vo,rfl,p1,p2,p3,p4,p5,p6⟩:=hp
 have hlv:=hlies _ _ _ _ _ _ _ _ rfl
 refine EH (R:=fun h'=>∀ i,i<h.next→h'.get i=h.get i) Tryd.func38 rfl (by simp[Tryd.f38]) ?_
 have hr:Tryd.f38.results.toList=[.tmp 2]:=rfl
 unfold E6 at hn hN
 obtain⟨q1,q2,q3,q4,q5,q6⟩:=hs
 have ca:=E3 [.string nm,vr,vq,vv,vt,vu,vo,iv s.miss]
 have oa:=I6 (nm:=nm) p1 p2 p3 p4 p5 p6
 have gA:(h.push (.row [.string nm,vr,vq,vv,vt,vu,vo,iv s.miss] 33 false false)).get h.next=.row [.string nm,vr,vq,vv,vt,vu,vo,iv s.miss] 33 false false:=BM
 have gO:∀ i,i<h.next→(h.push (.row [.string nm,vr,vq,vv,vt,vu,vo,iv s.miss] 33 false false)).get i=h.get i:=fun i hi=>AQ hi
 have nA:(h.push (.row [.string nm,vr,vq,vv,vt,vu,vo,iv s.miss] 33 false false)).next=h.next+1:=rfl
 have fA:(h.push (.row [.string nm,vr,vq,vv,vt,vu,vo,iv s.miss] 33 false false)).floor=h.floor:=rfl
 show WK _ _ _ (.seq _ (.seq _ (.seq (.seq _ _) (.seq _ (.seq _ _))))) _ _
 simp only[eE,seval,↓eP,FU,FB,Fsx,ca,oa,HM]
 generalize h.push (.row [.string nm,vr,vq,vv,vt,vu,vo,iv s.miss] 33 false false)=A at *
 have l1:AJ 1 (A.get h.next)=some vr:=by rw[gA];rfl
 have P1:A_ A vr s.rows:=p1.1.mono (by omega) gO
 obtain⟨v',h1,hcl,⟨o,c,g,rfl,g1,g2,g3⟩,f1,n1,o1⟩:=Ik (n:=n) P1 hlv (by omega) (by omega)
 have hlen:∀ h':AA,CX Tryd.prog h' 26 (qS o s.rows.length c)=some (iv (s.rows.length:Int)):=fun h'=>SY
 simp only[eE,seval,↓eP,Nat.zero_add,CJ,CL,l1,hcl,hlen]
 refine WK.loop (fun i s'=>s'.T.get 1=qP h.next 0∧s'.T.get 3=qS o s.rows.length c∧s'.T.get 11=iv (s.rows.length:Int)∧s'.T.get 12=iv i∧i≤s.rows.length∧s'.h.next=h1.next∧s'.h.floor=h1.floor∧(∀ i,i≠o→s'.h.get i=h1.get i) ∧
  ∃ L:List AB,s'.h.get o=.row (L.flatMap AZ) 61 g false∧∀ j,L[j]?=(s.rows[j]?).map fun x=>if j<i then LG x else x) s.rows.length (by omega) ?_ ?_
 ·refine⟨by simp only[eE,↓reduceIte,Nat.reduceEqDiff,reduceCtorEq,↓eP,rP,Nat.reduceAdd,Nat.reduceLT],by simp only[eE,↓reduceIte,Nat.reduceEqDiff,reduceCtorEq,↓eP,rP,Nat.reduceAdd,Nat.reduceLT],by simp only[eE,↓reduceIte,Nat.reduceEqDiff,reduceCtorEq,↓eP,rP,Nat.reduceAdd,Nat.reduceLT],by simp only[eE,↓reduceIte,Nat.reduceEqDiff,reduceCtorEq,↓eP,rP,Nat.reduceAdd,Nat.reduceLT];rfl,by omega,rfl,rfl,fun _ _=>rfl,s.rows,g1,fun j=>?_⟩
  simp
 rintro i ⟨T1,H1⟩ hi ⟨t1,t3,t11,t12,hil,m1,m2,m3,L,gL,hL⟩
 simp only at t1 t3 t11 t12 m1 m2 m3 gL
 have hLl:L.length=s.rows.length:=by
  rcases Nat.lt_trichotomy L.length s.rows.length with h9 | h9 | h9
  ·have:=hL L.length
   rw[List.getElem?_eq_none (Nat.le_refl _),List.getElem?_eq_getElem h9] at this
   cases this
  ·exact h9
  ·have:=hL s.rows.length
   rw[List.getElem?_eq_getElem h9,List.getElem?_eq_none (Nat.le_refl _)] at this
   cases this
 by_cases hlt:i<s.rows.length
 ·have c1:decide ((i:Int)<(s.rows.length:Int))=true:=by simp;omega
  obtain⟨x,hx⟩:∃ x,s.rows[i]?=some x:=⟨_,List.getElem?_eq_getElem hlt⟩
  have hLx:L[i]?=some x:=by rw[hL,hx];simp
  have ea:=hJ (id:=o) (n:=s.rows.length) (c:=c) hlt
  have lk:AJ (i*5) (H1.get o)=some (iv x.kind):=by
   have h5:=O_ hLx
   rw[gL]
   have:(L.flatMap AZ)[i*5]?=(AZ x)[0]?:=by
    rw[← h5,List.getElem?_take_of_lt (by omega),List.getElem?_drop,Nat.add_zero]
   simp only[AJ,this]
   rfl
  have w1:=ET i (by omega)
  cases d:(x.kind != 27) with
  | false=>
   have hz:LG x=x:=by
    unfold LG
    rw[if_neg (by simpa using d)]
   simp only[eE,seval,↓eP,t1,t3,t11,t12,c1,ea,CW,AV,lk,d,w1]
   refine⟨hlt,by omega,m1,m2,m3,L,gL,fun j=>?_⟩
   rw[hL j]
   by_cases hj:j=i
   ·subst hj
    rw[hx]
    simp[hz]
   ·congr 1
    funext y
    by_cases h9:j<i
    ·rw[if_pos h9,if_pos (by omega)]
    ·rw[if_neg h9,if_neg (by omega)]
  | true=>
   have hz:LG x={ x with n:=0 }:=by
    unfold LG
    rw[if_pos (by simpa using d)]
   have hst:=HD (t:=3) (off:=i*5+3) (v:=iv 0) CP rfl rfl gL (by rw[IW];omega) (by omega)
   rw[W8 hLx] at hst
   simp only[eE,seval,↓eP,t1,t3,t11,t12,c1,ea,CW,GI,AV,lk,d,hst,w1]
   refine⟨hlt,by omega,m1,m2,fun j hj=>by rw[AX (by omega) (Ne.symm hj)];exact m3 j hj,F8 L i 0,B0 rfl (by omega),fun j=>?_⟩
   by_cases hj:j=i
   ·subst hj
    rw[J9 hLx,hx]
    simp[hz]
   ·rw[M_ hj,hL j]
    congr 1
    funext y
    by_cases h9:j<i
    ·rw[if_pos h9,if_pos (by omega)]
    ·rw[if_neg h9,if_neg (by omega)]
 have c1:decide ((i:Int)<(s.rows.length:Int))=false:=by simp;omega
 have:i=s.rows.length:=by omega
 subst this
 have hLz:L=BD s.rows:=by
  apply List.ext_getElem?
  intro j
  rw[hL j,BD,List.getElem?_map]
  rcases Nat.lt_or_ge j s.rows.length with h9 | h9
  ·simp[h9]
  ·rw[List.getElem?_eq_none h9]
   rfl
 subst hLz
 have hvz:A_ H1 (qS o s.rows.length c) (BD s.rows):=by
  refine⟨_,_,by rw[hLl],.inr ⟨o,0,_,_,_,_,rfl,gL,by omega,fun k r hk=>by rw[Nat.zero_add];exact O_ hk⟩⟩
 have hw1:H1.get 0=CF:=by rw[m3 0 (by omega),o1 0 (by omega),gO 0 hn0];exact hg
 obtain⟨v2,h2,hres,pv,rfl,hp',f2,n2,o2⟩:=U1 (n:=n) (h:=H1) (by omega) hw1 (by omega) hvz (by omega) (by omega)
 obtain⟨vr',vq',vv',vt',vu',vo',rfl,b1,b2,b3,b4,b5,b6⟩:=hp'
 obtain⟨⟨hb,h3⟩,s1,s2,rO,n3,f3,o3⟩:=XP (H:=h2) (cs:=[.string (DS (BD s.rows)).1,vr',vq',vv',vt',vu',vo',iv (DS (BD s.rows)).2.miss]) (e:=(BE (BD s.rows)).1.1) (p:=(BE (BD s.rows)).1.2) rfl (I6 b1 b2 b3 b4 b5 b6) (by omega)
 simp only at s1 s2 rO n3 f3 o3
 have HO:∀ i,i<h.next→h3.get i=h.get i:=fun i hi=>by rw[o3 i (by omega),o2 i (by omega),m3 i (by omega),o1 i (by omega),gO i hi]
 have HA:h3.get h.next=.row [.string nm,vr,vq,vv,vt,vu,vo,iv s.miss] 33 false false:=by rw[o3 _ (by omega),o2 _ (by omega),m3 _ (by omega),o1 _ (by omega)];exact gA
 obtain⟨x0,x1,x2,x3,x4,x5,x6,x7⟩:=cC (a:=.string nm) (b:=vr) (c:=vq) (d:=vv) (e:=vt) (f:=vu) (g:=vo) (i:=iv s.miss) (ty:=33) (x:=false) (y:=false)
 obtain⟨y0,y1,y2,y3,y4,y5,y6,y7⟩:=cC (a:=.string (DS (BD s.rows)).1) (b:=vr') (c:=vq') (d:=vv') (e:=vt') (f:=vu') (g:=vo') (i:=iv (DS (BD s.rows)).2.miss) (ty:=33) (x:=false) (y:=false)
 rw[← HA] at x0 x1 x2 x3 x4 x5 x6 x7
 rw[← rO.1] at y0 y1 y2 y3 y4 y5 y6 y7
 have lF:AJ 0 (h3.get (h2.next+1))=some (iv (BE (BD s.rows)).1.1):=by rw[rO.2];rfl
 have NN:h.next≤h3.next:=by omega
 have A1:=p1.1.mono NN HO
 have A2:=p2.mono NN fun i _ hi=>HO i hi
 have A3:=p3.mono NN fun i _ hi=>HO i hi
 have A4:=p4.mono NN fun i _ hi=>HO i hi
 have A5:=AT.mono p5 NN fun i _ hi=>HO i hi
 have A6:=AT.mono p6 NN fun i _ hi=>HO i hi
 have B1:=(b1.mono (h':=h3) (by omega) fun i _ hi=>o3 i hi).1
 have B2:=b2.mono (h':=h3) (by omega) fun i _ hi=>o3 i hi
 have B3:=b3.mono (h':=h3) (by omega) fun i _ hi=>o3 i hi
 have B4:=b4.mono (h':=h3) (by omega) fun i _ hi=>o3 i hi
 have B5:=AT.mono (h':=h3) b5 (by omega) fun i _ hi=>o3 i hi
 have B6:=AT.mono (h':=h3) b6 (by omega) fun i _ hi=>o3 i hi
 have hR:=zS (n:=n) A1 B1 (by omega) (by omega)
 have hQ:=uP (n:=n) A2 B2 (by omega) (by omega)
 have hV:=oP (n:=n) A3 B3 (by omega) (by omega)
 have hT:=oP (n:=n) A4 B4 (by omega) (by omega)
 have hU:=lX (n:=n) A5 B5 (by omega) (by omega)
 have hO:=lX (n:=n) A6 B6 (by omega) (by omega)
 have yes:(BE (BD s.rows)).1.1=0→VB nm (DS (BD s.rows)).1 s (DS (BD s.rows)).2→FQ nm s=0:=fun h8 h9=>if_pos ⟨h8,h9⟩
 have no1:(BE (BD s.rows)).1.1≠0→FQ nm s=23:=fun h8=>if_neg fun h9=>h8 h9.1
 have no2:¬ VB nm (DS (BD s.rows)).1 s (DS (BD s.rows)).2→FQ nm s=23:=fun h8=>if_neg fun h9=>h8 h9.2
 simp only[eE,seval,↓eP,t1,t3,t11,t12,c1,hres,LY,LX,N2,DD,DF,D7,BZ,s1,s2]
 cases d0:((BE (BD s.rows)).1.1 != 0) with
 | true=>
  rw[no1 (by simpa using d0)]
  simp only[eE,seval,↓eP,hr,t1,List.append_eq,List.toList_toArray,Nat.zero_add,E2,E8,lF,MI,CJ,GM,K7,KW,KY,K4,KL,GQ,AV,CL,GG,KF,DG,x0,x1,x2,x3,x4,x5,x6,x7,y0,y1,y2,y3,y4,y5,y6,y7,MW,d0]
  exact HO
 | false=>
 cases d1:(!(nm==(DS (BD s.rows)).1)) with
 | true=>
  rw[no2 fun h9=>by rw[h9.1,QN] at d1;cases d1]
  simp only[eE,seval,↓eP,hr,t1,List.append_eq,List.toList_toArray,Nat.zero_add,E2,E8,lF,MI,CJ,GM,K7,KW,KY,K4,KL,GQ,AV,CL,GG,KF,DG,x0,x1,x2,x3,x4,x5,x6,x7,y0,y1,y2,y3,y4,y5,y6,y7,MW,d0,d1]
  exact HO
 | false=>
 cases d2:(s.miss != (DS (BD s.rows)).2.miss) with
 | true=>
  rw[no2 fun h9=>by rw[h9.2.1] at d2;simp at d2]
  simp only[eE,seval,↓eP,hr,t1,List.append_eq,List.toList_toArray,Nat.zero_add,E2,E8,lF,MI,CJ,GM,K7,KW,KY,K4,KL,GQ,AV,CL,GG,KF,DG,x0,x1,x2,x3,x4,x5,x6,x7,y0,y1,y2,y3,y4,y5,y6,y7,MW,d0,d1,d2]
  exact HO
 | false=>
 cases d3:decide (s.rows=(DS (BD s.rows)).2.rows) with
 | false=>
  rw[d3] at hR
  rw[no2 fun h9=>(of_decide_eq_false d3) h9.2.2.1]
  simp only[eE,seval,↓eP,hr,t1,List.append_eq,List.toList_toArray,Nat.zero_add,E2,E8,lF,MI,CJ,GM,K7,KW,KY,K4,KL,GQ,AV,CL,GG,KF,DG,x0,x1,x2,x3,x4,x5,x6,x7,y0,y1,y2,y3,y4,y5,y6,y7,MW,d0,d1,d2,hR]
  exact HO
 | true=>
 rw[d3] at hR
 cases d4:decide (s.queues=(DS (BD s.rows)).2.queues) with
 | false=>
  rw[d4] at hQ
  rw[no2 fun h9=>(of_decide_eq_false d4) h9.2.2.2.1]
  simp only[eE,seval,↓eP,hr,t1,List.append_eq,List.toList_toArray,Nat.zero_add,E2,E8,lF,MI,CJ,GM,K7,KW,KY,K4,KL,GQ,AV,CL,GG,KF,DG,x0,x1,x2,x3,x4,x5,x6,x7,y0,y1,y2,y3,y4,y5,y6,y7,MW,d0,d1,d2,hR,hQ]
  exact HO
 | true=>
 rw[d4] at hQ
 cases d5:decide (s.vars=(DS (BD s.rows)).2.vars) with
 | false=>
  rw[d5] at hV
  rw[no2 fun h9=>(of_decide_eq_false d5) h9.2.2.2.2.1]
  simp only[eE,seval,↓eP,hr,t1,List.append_eq,List.toList_toArray,Nat.zero_add,E2,E8,lF,MI,CJ,GM,K7,KW,KY,K4,KL,GQ,AV,CL,GG,KF,DG,x0,x1,x2,x3,x4,x5,x6,x7,y0,y1,y2,y3,y4,y5,y6,y7,MW,d0,d1,d2,hR,hQ,hV]
  exact HO
 | true=>
 rw[d5] at hV
 cases d6:decide (s.tags=(DS (BD s.rows)).2.tags) with
 | false=>
  rw[d6] at hT
  rw[no2 fun h9=>(of_decide_eq_false d6) h9.2.2.2.2.2.1]
  simp only[eE,seval,↓eP,hr,t1,List.append_eq,List.toList_toArray,Nat.zero_add,E2,E8,lF,MI,CJ,GM,K7,KW,KY,K4,KL,GQ,AV,CL,GG,KF,DG,x0,x1,x2,x3,x4,x5,x6,x7,y0,y1,y2,y3,y4,y5,y6,y7,MW,d0,d1,d2,hR,hQ,hV,hT]
  exact HO
 | true=>
 rw[d6] at hT
 cases d7:decide (s.rules=(DS (BD s.rows)).2.rules) with
 | false=>
  rw[d7] at hU
  rw[no2 fun h9=>(of_decide_eq_false d7) h9.2.2.2.2.2.2.1]
  simp only[eE,seval,↓eP,hr,t1,List.append_eq,List.toList_toArray,Nat.zero_add,E2,E8,lF,MI,CJ,GM,K7,KW,KY,K4,KL,GQ,AV,CL,GG,KF,DG,x0,x1,x2,x3,x4,x5,x6,x7,y0,y1,y2,y3,y4,y5,y6,y7,MW,d0,d1,d2,hR,hQ,hV,hT,hU]
  exact HO
 | true=>
 rw[d7] at hU
 cases d8:decide (s.on=(DS (BD s.rows)).2.on) with
 | false=>
  rw[d8] at hO
  rw[no2 fun h9=>(of_decide_eq_false d8) h9.2.2.2.2.2.2.2]
  simp only[eE,seval,↓eP,hr,t1,List.append_eq,List.toList_toArray,Nat.zero_add,E2,E8,lF,MI,CJ,GM,K7,KW,KY,K4,KL,GQ,AV,CL,GG,KF,DG,x0,x1,x2,x3,x4,x5,x6,x7,y0,y1,y2,y3,y4,y5,y6,y7,MW,d0,d1,d2,hR,hQ,hV,hT,hU,hO]
  exact HO
 | true=>
 rw[d8] at hO
 rw[yes (by simpa using d0) ⟨NW (by simpa using d1),by simpa using d2,of_decide_eq_true d3,of_decide_eq_true d4,of_decide_eq_true d5,of_decide_eq_true d6,of_decide_eq_true d7,of_decide_eq_true d8⟩]
 simp only[eE,seval,↓eP,hr,t1,List.append_eq,List.toList_toArray,Nat.zero_add,E2,E8,lF,MI,CJ,GM,K7,KW,KY,K4,KL,GQ,AV,CL,GG,KF,DG,x0,x1,x2,x3,x4,x5,x6,x7,y0,y1,y2,y3,y4,y5,y6,y7,MW,d0,d1,d2,hR,hQ,hV,hT,hU,hO]
 exact HO
theorem rV {nm:ByteArray} {s:AK} {pv:Value} {lo:Nat} {h:AA} (hp:CB lo h pv nm s) (hlies:∀ nm' vr vq vv vt vu vo m,pv=.agg #[.string nm',vr,vq,vv,vt,vu,vo,m]→GS vr s.rows.length) (hs:IE s) (hl:s.rows.length<2932031007403) (hfl:h.floor≤h.next) (hg:h.get 0=CF) (hn0:0<h.next) (hn:2*E6 s+300<n) :
  AU n 38 [pv] h=some (iv (FQ nm s),h):=by
 obtain⟨n,rfl⟩:=DJ hn
 exact JR (BX ⟨rfl,rfl,rfl⟩) rfl (vY hp hlies hs hl hfl hg hn0 (by omega) (by omega))
end
theorem g_ {l:List AB}:∀ (a b p q r:Nat),EW l a p q→EW l b q r→EW l (a+b) p r
 | 0,b,p,q,r,h,h2=>by
  have:p=q:=h
  subst this
  rw[Nat.zero_add]
  exact h2
 | a+1,b,p,q,r,⟨p',h1,h3,h4,h5⟩,h2=>by
  rw[show a+1+b=(a+b)+1 by omega]
  exact⟨p',h1,h3,h4,g_ a b p' q r h5 h2⟩
section
variable {call:AN} {N:Nat} {h:AA}
theorem Jq {Z L:List AB} {v:Value} {at_ q:Nat} (hsk:NL L Z) (hv:A_ h v L) (hs:DW Z at_ q) (hlen:L.length<30000000000000) (hN:L.length+3<N) :
  A7 Tryd.prog call N 55 [v,iv at_] h=some (iv q,h):=by
 refine DL Tryd.func55 rfl (by simp[Tryd.f55]) ?_
 have hr:Tryd.f55.results.toList=[.tmp 4]:=rfl
 have hl:=fun h'=>hv.len (h':=h')
 have hq:=hs.lt
 have hZ:=hsk.1
 simp only[eE,seval,↓eP,rP,hr]
 refine WK.loop (fun i s'=>s'.h=h∧s'.T.get 0=v∧s'.T.get 1=iv ((at_+i:Nat):Int)∧∃ r:Nat,s'.T.get 5=iv r∧EW Z r (at_+i) q) (q-at_) (by omega) ?_ ?_
 ·exact⟨rfl,by simp only[eE,seval,↓eP,rP],by simp only[eE,seval,↓eP,rP,Nat.add_zero],1,by simp only[eE,seval,↓eP,rP],q,hs,hq.1,hq.2,rfl⟩
 rintro i ⟨T1,H1⟩ hi ⟨rfl,t0,t1,r,t5,hc⟩
 simp only at t0 t1 t5
 cases r with
 | zero=>
  have hpq:at_+i=q:=hc
  have c1:decide (((0:Nat):Int)>0)=false:=rfl
  rw[hpq] at t1
  simp only[eE,seval,↓eP,rP,hr,t0,t1,t5,c1]
 | succ r=>
  obtain⟨p',h1,h2,h3,h4⟩:=hc
  have hle:=IU _ _ _ h4
  have c1:decide (((r+1:Nat):Int)>0)=true:=decide_eq_true (by omega)
  have c2:decide (((at_+i:Nat):Int)≥0)=true:=decide_eq_true (by omega)
  have c3:decide (((at_+i:Nat):Int)<(L.length:Int))=true:=by simp;omega
  obtain⟨x,hx,hk0,_,hch⟩:=h1.kids
  obtain⟨y,hy,hyk⟩:=hsk.2 _ x hx
  obtain⟨id,p,e0,hid,l0,l1,l2,l3,l4,lr⟩:=hv.row hy
  rw[hyk] at l4
  have hcl:=IU _ _ _ hch
  have m1:(if (L.length:Int)<x.kids then (L.length:Int) else x.kids)=x.kids:=if_neg (by omega)
  have m2:(if x.kids>0 then x.kids else 0)=x.kids:=by split <;> omega
  have w1:IntKind.i64.wrap (x.kids-1)=x.kids-1:=C7 (by omega) (by omega)
  have w2:IntKind.i64.wrap (((r+1:Nat):Int)+(x.kids-1))=((x.kids.toNat+r:Nat):Int):=by rw[C7 (by omega) (by omega)];omega
  have w3:IntKind.i64.wrap (((at_+i:Nat):Int)+1)=((at_+(i+1):Nat):Int):=by rw[C7 (by omega) (by omega)];omega
  simp only[eE,seval,↓eP,rP,t0,t1,t5,c1,c2,hl,c3,e0,l4,m1,m2,w1,w2,w3]
  exact⟨by omega,_,rfl,g_ _ _ _ _ _ hch h4⟩
theorem Md {n:Nat} {Z L:List AB} {v:Value} {at_ q:Nat} (hsk:NL L Z) (hv:A_ h v L) (hs:DW Z at_ q) (hlen:L.length<30000000000000) (hn:L.length+5<n) :
  AU n 55 [v,iv at_] h=some (iv q,h):=by
 obtain⟨n,rfl⟩:=DJ hn
 exact EN (BX ⟨rfl,rfl,rfl⟩) rfl (Jq hsk hv hs hlen (by omega))
def BH (e:Nat→Nat):Nat→Nat→List Nat
 | 0,_=>[]
 | k+1,p=>p :: BH e k (e p)
theorem OG {e:Nat→Nat}:∀ k p,(BH e k p).length=k
 | 0,p=>rfl
 | k+1,p=>by show (BH e k (e p)).length+1=_;rw[OG k (e p)]
def JA (h:AA) (lo:Nat) (v:Value) (l:List Int):Prop:=
 (v=Z0∧l=[])∨∃ id c,v=qS id l.length c∧lo≤id∧id<h.next∧((c=AP∧h.get id=.row (ints l) 3 true false)∨(c=l.length∧h.get id=.row (ints l) 3 false false))
theorem JA.ints {lo lo':Nat} {v:Value} {l:List Int} (hl:JA h lo v l) (hle:lo'≤lo):AT lo' h v l:=by
 rcases hl with⟨rfl,rfl⟩ | ⟨id,c,rfl,h1,h2,⟨_,h3⟩ | ⟨_,h3⟩⟩
 ·exact AM.nil lo' h 1
 ·exact AT.row' h3 ⟨by omega,h2⟩ rfl
 ·exact AT.row' h3 ⟨by omega,h2⟩ rfl
theorem JA.mono {h':AA} {lo:Nat} {v:Value} {l:List Int} (hl:JA h lo v l) (hn:h.next≤h'.next) (hg:∀ i,lo≤i→i<h.next→h'.get i=h.get i):JA h' lo v l:=by
 rcases hl with h1 | ⟨id,c,h1,h2,h3,h4⟩
 ·exact .inl h1
 ·exact .inr ⟨id,c,h1,h2,by omega,by rw[hg id h2 h3];exact h4⟩
theorem W6:(Value.int .i64 0).cells.size=1:=rfl
theorem bM {lo:Nat} {v:Value} {l:List Int} {x:Int} (hl:JA h lo v l) (hlo:lo≤h.next) (hf:h.floor≤lo) (hb:l.length<17592186044415) :
  ∃ v' h',C_ Tryd.prog (h.push (.row [iv x] 3 false false)) 27 v (qS h.next 1 1)=some (v',h')∧JA h' lo v' (l++[x])∧h'.floor=h.floor∧h.next≤h'.next∧∀ i,i<lo→h'.get i=h.get i:=by
 have hsrc:DB (h.push (.row [iv x] 3 false false)) 1 1 (qS h.next 1 1)=some [iv x]:=by
  simp only[DB,BM]
  rfl
 have hone:([iv x]:List Value).all one=true:=rfl
 have hi1:ints (l++[x])=ints l++[iv x]:=by simp[ints]
 rcases hl with⟨rfl,rfl⟩ | ⟨id,c,rfl,h1,h2,h3⟩
 ·have hnu:(0:Nat)≠AP:=by unfold AP;omega
  refine⟨.slice (some ⟨(h.push (.row [iv x] 3 false false)).next,0,none⟩) 1 AP,(h.push (.row [iv x] 3 false false)).push (.row [iv x] 3 true false),?_,.inr ⟨_,AP,rfl,?_,?_,.inl ⟨rfl,BM⟩⟩,rfl,by show h.next≤h.next+1+1;omega,fun i hi=>?_⟩
  ·have h0:DB (h.push (.row [iv x] 3 false false)) 1 0 (Z0)=some []:=by simp[DB]
   simp only[C_,Tryd.underlying27,CP,JC,GO,W6,hsrc,hone,h0]
   rw[if_pos (by simp),if_pos trivial,if_neg hnu,if_neg (by omega),if_pos (by simp)]
   rfl
  ·show lo≤h.next+1;omega
  ·show h.next+1<h.next+1+1;omega
  ·rw[AQ (by show i<h.next+1;omega),AQ (by omega)]
 ·have hll:(ints l).length=l.length:=F7 l
  rcases h3 with⟨rfl,hg⟩ | ⟨rfl,hg⟩
  ·have hu:l.length≤AP:=by unfold AP;omega
   have hg':(h.push (.row [iv x] 3 false false)).get id=.row (ints l) 3 true false:=by rw[AQ h2];exact hg
   have hcut:FI (ints l) 0 (l.length*1)=some (ints l):=by
    simp only[FI,List.drop_zero]
    rw[List.take_of_length_le (by omega),if_pos (by omega)]
   refine⟨.slice (some ⟨(h.push (.row [iv x] 3 false false)).next,0,none⟩) (l.length+1) AP,((h.push (.row [iv x] 3 false false)).put id .dead).push (.row (ints l++[iv x]) 3 true false),?_,.inr ⟨_,AP,by rw[List.length_append];rfl,?_,?_,.inl ⟨rfl,?_⟩⟩,rfl,by show h.next≤h.next+1+1;omega,fun i hi=>?_⟩
   ·simp only[C_,Tryd.underlying27,CP,JC,GO,W6,hsrc,hone,hg',hcut,OS]
    rw[if_pos (by simp;omega),if_pos trivial,if_pos trivial,if_pos (by rw[IV,decide_eq_true (show (l.length+1)*8≤140737488355328 by omega),decide_eq_true (show l.length+1≤140737488355328 by omega),decide_eq_true (show h.floor≤id by omega)];rfl),if_neg (by decide),if_pos trivial,if_pos trivial]
   ·show lo≤h.next+1;omega
   ·show h.next+1<h.next+1+1;omega
   ·rw[hi1]
    exact BM
   ·rw[AQ (by show i<h.next+1;omega),AX (by show id<h.next+1;omega) (by omega),AQ (by omega)]
  ·have hcut:DB (h.push (.row [iv x] 3 false false)) 1 l.length (qS id l.length l.length)=some (ints l):=by
    by_cases h0:l.length=0
    ·rw[List.length_eq_zero_iff.1 h0]
     rfl
    ·simp only[DB,AQ h2,hg,FI,List.drop_zero]
     rw[if_neg h0,List.take_of_length_le (by omega),if_pos (by omega)]
   refine⟨.slice (some ⟨(h.push (.row [iv x] 3 false false)).next,0,none⟩) (l.length+1) AP,(h.push (.row [iv x] 3 false false)).push (.row (ints l++[iv x]) 3 true false),?_,.inr ⟨_,AP,by rw[List.length_append];rfl,?_,?_,.inl ⟨rfl,?_⟩⟩,rfl,by show h.next≤h.next+1+1;omega,fun i hi=>?_⟩
   ·simp only[C_,Tryd.underlying27,CP,JC,GO,W6,hsrc,hone,hcut]
    rw[if_pos (by simp),if_pos trivial,if_neg (by unfold AP;omega),if_neg (by omega),if_pos (by simp only[Bool.and_eq_true,decide_eq_true_eq];omega)]
   ·show lo≤h.next+1;omega
   ·show h.next+1<h.next+1+1;omega
   ·rw[hi1]
    exact BM
   ·rw[AQ (by show i<h.next+1;omega),AQ (by omega)]
theorem Io {n:Nat} {Z L:List AB} {v:Value} {at_:Nat} {x:AB} (ht:CN Z) (hsk:NL L Z) (hv:A_ h v L) (hx:Z[at_]?=some x) (hlen:L.length<2932031007403) (hn:L.length+10<n) (hN:L.length+3<N) (hfl:h.floor≤h.next) :
  ∃ v' h',A7 Tryd.prog (AU n) N 36 [v,iv at_] h=some (v',h')∧(JA h' h.next v' ((BH (AD Z) x.kids.toNat (at_+1)).map (fun (k:Nat)=>(k:Int)))∧h'.floor=h.floor∧h.next≤h'.next∧∀ i,i<h.next→h'.get i=h.get i):=by
 refine UL (R:=fun v' h'=>JA h' h.next v' ((BH (AD Z) x.kids.toNat (at_+1)).map (fun (k:Nat)=>(k:Int)))∧h'.floor=h.floor∧h.next≤h'.next∧∀ i,i<h.next→h'.get i=h.get i) Tryd.func36 rfl (by simp[Tryd.f36]) ?_
 have hr:Tryd.f36.results.toList=[.tmp 4]:=rfl
 have hl:=fun (h':AA)=>hv.len (h':=h')
 have hal:=(List.getElem?_eq_some_iff.1 hx).1
 have hZ:=hsk.1
 have hs:=ht.end hal
 obtain⟨x',hx',hk0,_,hch⟩:=hs.kids
 rw[hx] at hx'
 cases hx'
 have hq:=hs.lt
 have hcl:=IU _ _ _ hch
 obtain⟨y,hy,hyk⟩:=hsk.2 _ x hx
 obtain⟨id,p,e0,hid,l0,l1,l2,l3,l4,lr⟩:=hv.row hy
 rw[hyk] at l4
 have c1:decide ((at_:Int)<0)=false:=by simp
 have c2:decide ((at_:Int)≥(L.length:Int))=false:=by simp;omega
 have w1:=ET at_ (by omega)
 simp only[eE,seval,↓eP,rP,hr,c1,hl,c2,w1,e0,l4]
 refine WK.loop (fun i s'=>s'.T.get 0=v∧s'.T.get 21=iv x.kids∧s'.T.get 22=iv i∧i≤x.kids.toNat∧h.next≤s'.h.next∧s'.h.floor=h.floor∧(∀ j,j<h.next→s'.h.get j=h.get j)∧∃ p l w,s'.T.get 6=iv ((p:Nat):Int)∧s'.T.get 5=w∧JA s'.h h.next w (l.map (fun (k:Nat)=>(k:Int)))∧l.length=i∧l++BH (AD Z) (x.kids.toNat-i) p=BH (AD Z) x.kids.toNat (at_+1)∧EW Z (x.kids.toNat-i) p (AD Z at_)) x.kids.toNat (by omega) ?_ ?_
 ·exact⟨by simp only[eE,seval,↓eP,rP],by simp only[eE,seval,↓eP,rP],by simp only[eE,seval,↓eP,rP],by omega,Nat.le_refl _,rfl,fun _ _=>rfl,at_+1,[],Z0,by simp only[eE,seval,↓eP,rP],by simp only[eE,seval,↓eP,rP],.inl ⟨rfl,rfl⟩,rfl,rfl,hch⟩
 rintro i ⟨T1,H1⟩ hi ⟨t0,t21,t22,hil,m1,m2,m3,p,l,w,t6,t5,hL,hll,hlk,hc⟩
 simp only at t0 t21 t22 m1 m2 m3 t6 t5 hL
 by_cases hlt:i<x.kids.toNat
 ·have d1:decide ((i:Int)<x.kids)=true:=by simp;omega
  obtain⟨r,hr1⟩:∃ r,x.kids.toNat-i=r+1:=⟨x.kids.toNat-i-1,by omega⟩
  rw[hr1] at hc hlk
  obtain⟨p',s1,s2,s3,s4⟩:=hc
  have hle:=IU _ _ _ s4
  have d2:decide ((p:Int)≥(L.length:Int))=false:=by simp;omega
  have hep:=I4 s1
  obtain⟨w',H',happ,hL',fH,nH,oH⟩:=bM (x:=(p:Int)) hL m1 (by omega) (by rw[List.length_map];omega)
  have hvH:A_ H' v L:=hv.mono (by omega) fun j hj=>(oH j hj).trans (m3 j hj)
  have hend:=Md (n:=n) hsk hvH s1 (by omega) (by omega)
  have w2:=ET i (by omega)
  simp only[eE,seval,↓eP,t0,t21,t22,t5,t6,d1,hl,d2,N5,happ,hend,w2]
  refine⟨hlt,by omega,by omega,by omega,fun j hj=>(oH j hj).trans (m3 j hj),p',l++[p],w',rfl,rfl,?_,by rw[List.length_append,hll];rfl,?_,?_⟩
  ·rw[List.map_append]
   exact hL'
  ·rw[List.append_assoc,← hlk,show x.kids.toNat-(i+1)=r by omega]
   show l++(p :: BH (AD Z) r p')=l++(p :: BH (AD Z) r (AD Z p))
   rw[hep]
  ·rw[show x.kids.toNat-(i+1)=r by omega]
   exact s4
 ·have d1:decide ((i:Int)<x.kids)=false:=by simp;omega
  rw[show x.kids.toNat-i=0 by omega] at hlk
  have hl9:l=BH (AD Z) x.kids.toNat (at_+1):=by
   rw[← hlk]
   exact(List.append_nil l).symm
  subst hl9
  simp only[eE,seval,↓eP,hr,t0,t21,t22,t5,t6,d1]
  exact⟨hL,m2,m1,m3⟩
theorem JA.flat {lo:Nat} {v:Value} {l:List Int} (hl:JA h lo v l) (hf:ED v=true) (h':AA) (lo':Nat):JA h' lo' v l:=by
 rcases hl with h1 | ⟨id,c,rfl,_⟩
 ·exact .inl h1
 ·cases hf
theorem bO {n:Nat} {Z L:List AB} {v:Value} {at_:Nat} {x:AB} (ht:CN Z) (hsk:NL L Z) (hv:A_ h v L) (hx:Z[at_]?=some x) (hlen:L.length<2932031007403) (hn:L.length+20<n) (hfl:h.floor≤h.next) :
  ∃ v' h',AU n 36 [v,iv at_] h=some (v',h')∧(JA h' h.next v' ((BH (AD Z) x.kids.toNat (at_+1)).map (fun (k:Nat)=>(k:Int)))∧h'.floor=h.floor∧h.next≤h'.next∧∀ i,i<h.next→h'.get i=h.get i):=by
 obtain⟨n,rfl⟩:=DJ hn
 exact PM (BX ⟨rfl,rfl,rfl⟩) (Io (n:=n) (N:=n) ht hsk hv hx hlen (by omega) (by omega) hfl) fun v' h1 hf _ ht=>⟨ht.1.flat hf _ _,rfl,Nat.le_refl _,fun _ _=>rfl⟩
end
section
variable {l:List AB} {m:Nat}
theorem fT {p:Nat} {what:Int} (h:(BK AY l m p what).2=true):∃ y:AB,l[p]?=some y∧B_ what y.kind=true∧DK AY y=true:=by
 cases m with
 | zero=>cases h
 | succ m=>
  unfold BK at h
  cases hx:l[p]? with
  | none=>rw[hx] at h;cases h
  | some y=>
   rw[hx] at h
   simp only at h
   split at h
   ·rename_i hc
    rw[Bool.and_eq_true] at hc
    exact⟨y,rfl,hc.1,hc.2⟩
   ·cases h
theorem nM {κ:Int}:∀ r k p q,EJ (fun k next=>BK AY l m next (BL κ k)) r k p=(q,true)→∀ (j p':Nat),(BH (AD l) r p)[j]?=some p'→∃ y:AB,l[p']?=some y∧B_ (BL κ (k+j)) y.kind=true:=by
 intro r
 induction r with
 | zero=>intro k p q _ j p' h;simp[BH] at h
 | succ r ih=>
  intro k p q h j p' hj
  unfold EJ at h
  split at h
  ·rename_i hc
   have he:AD l p=(BK AY l m p (BL κ k)).1:=I4 (.inl ⟨m,BL κ k,Prod.ext rfl hc⟩)
   cases j with
   | zero=>
    have:p=p':=by simpa [BH] using hj
    subst this
    obtain⟨y,h1,h2,_⟩:=fT hc
    exact⟨y,h1,h2⟩
   | succ j=>
    have hj':(BH (AD l) r (AD l p))[j]?=some p':=by simpa [BH] using hj
    rw[he] at hj'
    have:=ih (k+1) _ _ h j p' hj'
    rwa [show k+1+j=k+(j+1) by omega] at this
  ·cases h
theorem xL:∀ (r:Nat) (ev:Bool) (p q:Nat),D9 AY l m r ev p=(q,true)→∀ (j p':Nat),(BH (AD l) r p)[j]?=some p'→∃ y:AB,l[p']?=some y∧2≤y.kind∧y.kind≤10:=by
 intro r
 induction r with
 | zero=>intro k p q _ j p' h;simp[BH] at h
 | succ r ih=>
  intro ev p q h j p' hj
  unfold D9 at h
  split at h
  ·rename_i hc
   have he:AD l p=(BK AY l m p (GH ev l[p]?)).1:=I4 (.inl ⟨m,_,Prod.ext rfl hc⟩)
   cases j with
   | zero=>
    have:p=p':=by simpa [BH] using hj
    subst this
    obtain⟨y,h1,h2,_⟩:=fT hc
    refine⟨y,h1,?_⟩
    unfold GH at h2
    split at h2
    ·unfold B_ at h2
     simp at h2
     omega
    ·unfold B_ at h2
     simp at h2
     omega
   | succ j=>
    have hj':(BH (AD l) r (AD l p))[j]?=some p':=by simpa [BH] using hj
    rw[he] at hj'
    exact ih _ _ _ h j p' hj'
  ·cases h
theorem CN.kid {i:Nat} {x:AB} (ht:CN l) (hx:l[i]?=some x) {k p:Nat} (hk:(BH (AD l) x.kids.toNat (i+1))[k]?=some p):∃ y:AB,l[p]?=some y∧(B_ (BL x.kind k) y.kind=true∨(2≤y.kind∧y.kind≤10)):=by
 obtain⟨q,hq⟩:∃ q,DW l i q:=⟨_,ht.end (List.getElem?_eq_some_iff.1 hx).1⟩
 rcases hq with⟨m,what,h⟩ | ⟨rfl,m,h⟩
 ·cases m with
  | zero=>cases h
  | succ m=>
   unfold BK at h
   rw[hx] at h
   simp only at h
   split at h
   ·obtain⟨y,h1,h2⟩:=nM _ _ _ _ h k p hk
    rw[Nat.zero_add] at h2
    exact⟨y,h1,.inl h2⟩
   ·cases h
 ·unfold FX at h
  rw[hx] at h
  simp only at h
  split at h
  ·obtain⟨y,h1,h2⟩:=xL _ _ _ _ h k p hk
   exact⟨y,h1,.inr h2⟩
  ·cases h
theorem CN.fit {i:Nat} {x:AB} (ht:CN l) (hx:l[i]?=some x):DK AY x=true:=by
 obtain⟨q,hq⟩:∃ q,DW l i q:=⟨_,ht.end (List.getElem?_eq_some_iff.1 hx).1⟩
 rcases hq with⟨m,what,h⟩ | ⟨rfl,m,h⟩
 ·obtain⟨y,h1,_,h3⟩:=fT (congrArg (·.2) h)
  rw[hx] at h1
  cases h1
  exact h3
 ·unfold FX at h
  rw[hx] at h
  simp only at h
  split at h
  ·rename_i hc
   rw[Bool.and_eq_true] at hc
   exact hc.2
  ·cases h
theorem CN.place {i:Nat} {x y:AB} (ht:CN l) (hx:l[i]?=some x) {k p:Nat} (hk:(BH (AD l) x.kids.toNat (i+1))[k]?=some p) (hy:l[p]?=some y) (hp:y.kind=24):p=i+1∧(x.kind=19∨x.kind=20):=by
 obtain⟨y',h1,h2⟩:=ht.kid hx hk
 rw[hy] at h1
 cases h1
 have hf:=ht.fit hx
 unfold DK at hf
 simp only[Bool.and_eq_true,decide_eq_true_eq,Bool.or_eq_true] at hf
 obtain⟨⟨_,hl⟩,hm⟩:=hf
 have h19:x.kind=19∨x.kind=20:=by
  rcases h2 with h2 | h2
  ·rw[hp] at h2
   unfold BL at h2
   by_cases e1:x.kind=19
   ·exact .inl e1
   ·by_cases e2:x.kind=20
    ·exact .inr e2
    ·exfalso
     have c6:([19,20]:List Int).contains x.kind=false:=by simp[e1,e2]
     rw[c6] at h2
     (repeat' split at h2) <;> first | (simp[B_] at h2;done) | simp_all [B_]
  ·omega
 have hm1:x.kids≤1:=by
  rcases h19 with e | e <;> (rw[e] at hm;rcases hm with hm | hm <;> simp[C2] at hm <;> omega)
 have hkl:=(List.getElem?_eq_some_iff.1 hk).1
 rw[OG] at hkl
 have hk0:k=0:=by omega
 subst hk0
 obtain⟨r,hr⟩:∃ r,x.kids.toNat=r+1:=⟨x.kids.toNat-1,by omega⟩
 rw[hr] at hk
 have:i+1=p:=by simpa [BH] using hk
 exact⟨this.symm,h19⟩
theorem bU:∀ (r p q:Nat),EW l r p q→∀ at_,p≤at_→at_<q→∃ (j p':Nat),(BH (AD l) r p)[j]?=some p'∧p≤p'∧p'≤at_∧at_<AD l p':=by
 intro r
 induction r with
 | zero=>intro p q h at_ h1 h2;have:p=q:=h;omega
 | succ r ih=>
  intro p q ⟨p',s1,s2,s3,s4⟩ at_ h1 h2
  have he:=I4 s1
  rcases Nat.lt_or_ge at_ p' with h3 | h3
  ·exact⟨0,p,by simp[BH],Nat.le_refl _,h1,by omega⟩
  ·obtain⟨j,p2,j1,j2,j3,j4⟩:=ih p' q s4 at_ h3 h2
   refine⟨j+1,p2,?_,by omega,j3,j4⟩
   show (p :: BH (AD l) r (AD l p))[j+1]?=_
   rw[he]
   exact j1
theorem CN.kidOf (ht:CN l):∀ (n i at_:Nat),at_≤i+n→i<at_→at_<AD l i→i<l.length→∃ (j:Nat) (x:AB) (k:Nat),l[j]?=some x∧j<at_∧(BH (AD l) x.kids.toNat (j+1))[k]?=some at_:=by
 intro n
 induction n with
 | zero=>intro i at_ h1 h2;omega
 | succ n ih=>
  intro i at_ h1 h2 h3 h4
  obtain⟨x,hx,_,_,hc⟩:=(ht.end h4).kids
  obtain⟨j,p,j1,j2,j3,j4⟩:=bU _ _ _ hc at_ (by omega) h3
  rcases Nat.lt_or_ge p at_ with h5 | h5
  ·have hpl:p<l.length:=by
    obtain⟨y,hy,_⟩:=ht.kid hx j1
    exact(List.getElem?_eq_some_iff.1 hy).1
   exact ih p at_ (by omega) h5 j4 hpl
  ·obtain rfl:p=at_:=by omega
   exact⟨i,x,j,hx,h2,j1⟩
end
def BT (k:Int):Int:=
 if [27,28,31,32,33,34,38,39,40,41,43,44,45,46].contains k then 1 else if [29,30,35,36,37,42,47,48,49,50,51,52,53,54].contains k then 2 else 0
def E_ (kind:Int) (k:Nat) (first:Int):Int:=
 if [4,5,14,41,39,40,43,44,45,46,49,50,51,52].contains kind then 1 else if kind=15 then (if k=1 then 1 else 0) else if [6,42,53,54].contains kind then 2
 else if kind=12 then (if k=0 then 2 else 0) else if kind=13 then (if k=0 then 1 else if k=1 then 2 else 0) else if [47,48].contains kind then (if k=1 then first else 0) else 0
def J5 (k:Int):Bool:=[28,31,34,35,36,37,38].contains k
def J6 (kind:Int) (k:Nat):Bool:=[4,5,6].contains kind||(kind==13&&k==0)
def LQ (Q:List (ByteArray × Bool)) (n:Int):Bool:=((Q[n.toNat]?).map (·.2)).getD false
def JK (Q:List (ByteArray × Bool)) (x up:AB):Bool:=
 if [8,17,20].contains x.kind then LQ Q x.n else if [9,21].contains x.kind then !(LQ Q x.n)
 else if x.kind=24 then (if up.kind=20 then !(LQ Q x.n) else LQ Q x.n != LQ Q up.n) else false
structure GY where
 A:List Int
 C:List Bool
 U:List Int
def HQ (i:Nat) (x:AB) (first:Int) (s:GY) (k p:Nat):GY:=⟨s.A.set p (E_ x.kind k first),s.C.set p (((s.C[i]?).getD false)||J6 x.kind k),s.U.set p (i:Int)⟩
def GX (i:Nat) (x:AB) (first:Int):Nat→List Nat→GY→GY
 | _,[],s=>s
 | k,p :: ps,s=>GX i x first (k+1) ps (HQ i x first s k p)
def JL (R:List AB) (e:Nat→Nat) (i:Nat) (s:GY):GY:=match R[i]? with
 | none=>s
 | some x=>GX i x (BT (((R[i+1]?).map (·.kind)).getD 0)) 0 (BH e x.kids.toNat (i+1)) s
def BP (R:List AB) (e:Nat→Nat):Nat→GY
 | 0=>⟨List.replicate R.length 0,List.replicate R.length false,List.replicate R.length 0⟩
 | i+1=>JL R e i (BP R e i)
def GZ (R:List AB) (Q:List (ByteArray × Bool)) (s:GY) (i:Nat) (x:AB):Int:=
 if ((s.A[i]?).getD 0)≠0∧BT x.kind≠(s.A[i]?).getD 0 then 41 else if ((s.C[i]?).getD false&&J5 x.kind)=true then 42
 else if JK Q x ((R[((s.U[i]?).getD 0).toNat]?).getD ⟨0,ByteArray.empty,0,0,0⟩)=true then 46 else 0
def EV (R:List AB) (Q:List (ByteArray × Bool)) (e:Nat→Nat):Nat→Nat→(Int × Int) × List Int
 | 0,_=>((0,0),R.map (BT ·.kind))
 | r+1,i=>match R[i]? with
  | none=>((0,0),R.map (BT ·.kind))
  | some x=>if GZ R Q (BP R e i) i x≠0 then ((GZ R Q (BP R e i) i x,(i:Int)),[]) else EV R Q e r (i+1)
section
variable {i:Nat} {x:AB} {first:Int}
theorem aG:∀ (ps:List Nat) (k:Nat) (s:GY),(GX i x first k ps s).A.length=s.A.length∧(GX i x first k ps s).C.length=s.C.length∧(GX i x first k ps s).U.length=s.U.length
 | [],k,s=>⟨rfl,rfl,rfl⟩
 | p :: ps,k,s=>by
  have:=aG ps (k+1) (HQ i x first s k p)
  simpa [GX,HQ] using this
theorem T8:∀ (ps:List Nat) (k:Nat) (s:GY) (q:Nat),q∉ps→(GX i x first k ps s).A[q]?=s.A[q]?∧(GX i x first k ps s).C[q]?=s.C[q]?∧(GX i x first k ps s).U[q]?=s.U[q]?
 | [],k,s,q,_=>⟨rfl,rfl,rfl⟩
 | p :: ps,k,s,q,h=>by
  have h1:q≠p:=fun e=>h (by rw[e];exact List.mem_cons_self)
  have h2:q∉ps:=fun e=>h (List.mem_cons_of_mem _ e)
  obtain⟨a,b,c⟩:=T8 ps (k+1) (HQ i x first s k p) q h2
  refine⟨a.trans ?_,b.trans ?_,c.trans ?_⟩
  ·exact List.getElem?_set_ne (Ne.symm h1)
  ·exact List.getElem?_set_ne (Ne.symm h1)
  ·exact List.getElem?_set_ne (Ne.symm h1)
theorem qQ:∀ (ps:List Nat) (k:Nat) (s:GY) (q:Nat),q∈ps→q<s.U.length→(GX i x first k ps s).U[q]?=some (i:Int)
 | [],k,s,q,h,_=>by cases h
 | p :: ps,k,s,q,h,hq=>by
  by_cases h2:q∈ps
  ·exact qQ ps (k+1) (HQ i x first s k p) q h2 (by simpa [HQ] using hq)
  ·have h1:q=p:=by
    rcases List.mem_cons.1 h with h | h
    ·exact h
    ·exact absurd h h2
   subst h1
   exact(T8 ps (k+1) (HQ i x first s k q) q h2).2.2.trans (List.getElem?_set_self hq)
end
theorem SF {l:List AB}:∀ r p q,EW l r p q→∀ z∈BH (AD l) r p,p≤z
 | 0,p,q,_,z,hz=>by cases hz
 | r+1,p,q,⟨p',s1,s2,s3,s4⟩,z,hz=>by
  have hz':z=p∨z∈BH (AD l) r (AD l p):=by simpa [BH] using hz
  rcases hz' with rfl | hz'
  ·exact Nat.le_refl _
  ·rw[I4 s1] at hz'
   have:=SF r p' q s4 z hz'
   omega
section
variable {R:List AB}
theorem UE (e:Nat→Nat):∀ i,(BP R e i).A.length=R.length∧(BP R e i).C.length=R.length∧(BP R e i).U.length=R.length
 | 0=>by simp[BP]
 | i+1=>by
  have h:=UE e i
  unfold BP JL
  cases hx:R[i]? with
  | none=>exact h
  | some x=>
   have:=aG (i:=i) (x:=x) (first:=BT (((R[i+1]?).map (·.kind)).getD 0)) (BH e x.kids.toNat (i+1)) 0 (BP R e i)
   exact⟨this.1.trans h.1,this.2.1.trans h.2.1,this.2.2.trans h.2.2⟩
theorem Lz (ht:CN R) {at_:Nat} {y:AB} (hy:R[at_]?=some y) (h24:y.kind=24) (h0:0<at_):(BP R (AD R) at_).U[at_]?=some ((at_-1:Nat):Int):=by
 have hl:=(List.getElem?_eq_some_iff.1 hy).1
 have h0l:AD R 0=R.length:=I4 ht
 obtain⟨j,x,k,hx,hj,hk⟩:=ht.kidOf at_ 0 at_ (by omega) h0 (by omega) (by omega)
 obtain⟨hp,_⟩:=ht.place hx hk hy h24
 obtain⟨i,rfl⟩:∃ i,at_=i+1:=⟨at_-1,by omega⟩
 obtain rfl:j=i:=by omega
 rw[Nat.add_sub_cancel]
 unfold BP JL
 rw[hx]
 exact qQ _ 0 _ _ (List.mem_of_getElem? hk) (by rw[(UE (AD R) j).2.2];exact hl)
end
def N0 (s:AK) (k n:Int) (nm:ByteArray):Prop:=
 0≤n∧((k=1∧∃ b,s.queues[n.toNat]?=some (nm,b))∨(k=2∧s.vars[n.toNat]?=some nm)∨(k=3∧s.tags[n.toNat]?=some nm)∨(k=4∧∃ ru:Nat,s.rules[n.toNat]?=some ((ru:Int)+1)∧∃ y:AB,s.rows[ru]?=some y∧y.name=nm))
structure PV (s s':AK):Prop where
 q:∀ (i:Nat) x,s.queues[i]?=some x→s'.queues[i]?=some x
 v:∀ (i:Nat) x,s.vars[i]?=some x→s'.vars[i]?=some x
 t:∀ (i:Nat) x,s.tags[i]?=some x→s'.tags[i]?=some x
 u:∀ (i:Nat) x,s.rules[i]?=some x→s'.rules[i]?=some x
 r:∀ (i:Nat) (y:AB),s.rows[i]?=some y→∃ y':AB,s'.rows[i]?=some y'∧y'.name=y.name
theorem N0.up {s s':AK} {k n:Int} {nm:ByteArray} (h:N0 s k n nm) (hu:PV s s'):N0 s' k n nm:=by
 refine⟨h.1,?_⟩
 rcases h.2 with⟨h1,b,h2⟩ | ⟨h1,h2⟩ | ⟨h1,h2⟩ | ⟨h1,ru,h2,y,h3,h4⟩
 ·exact .inl ⟨h1,b,hu.q _ _ h2⟩
 ·exact .inr (.inl ⟨h1,hu.v _ _ h2⟩)
 ·exact .inr (.inr (.inl ⟨h1,hu.t _ _ h2⟩))
 ·obtain⟨y',h5,h6⟩:=hu.r _ _ h3
  exact .inr (.inr (.inr ⟨h1,ru,hu.u _ _ h2,y',h5,h6.trans h4⟩))
theorem VU {α:Type} {l:List α} {i:Nat} {x y:α} (h:l[i]?=some x):(l++[y])[i]?=some x:=by rw[List.getElem?_append_left (List.getElem?_eq_some_iff.1 h).1];exact h
theorem mV {l:List AB} {k i:Nat} {n:Int} {y:AB} (h:l[i]?=some y):∃ y':AB,(F8 l k n)[i]?=some y'∧y'.name=y.name:=by
 by_cases hi:i=k
 ·subst hi
  exact⟨_,J9 h,rfl⟩
 ·exact⟨y,(M_ hi).trans h,rfl⟩
theorem gY {k:Int} (h:EK k≠0):BS k=0:=by
 unfold BS
 unfold EK at h
 split
 ·rename_i h1
  simp only[List.contains_cons,List.contains_nil,Bool.or_false,Bool.or_eq_true,beq_iff_eq] at h1
  rcases h1 with rfl | rfl <;> exact absurd rfl h
 split
 ·subst k;exact absurd rfl h
 split
 ·subst k;exact absurd rfl h
 split
 ·subst k;exact absurd rfl h
 rfl
def K3 (k:Int):Int:=EK k+BS k
theorem Jw {k:Int} (h:K3 k=0):EK k=0∧BS k=0:=by
 have:=sG k
 have:=RP k
 unfold K3 at h
 omega
structure K6 (l:List AB) (at_:Nat) (s:AK):Prop where
 rows:∀ (i:Nat) (x:AB),i<at_→s.rows[i]?=some x→(K3 x.kind=0→l[i]?=some x)∧(K3 x.kind≠0→N0 s (K3 x.kind) x.n x.name)
 things:∀ t∈s.things,N0 s t.kind t.num t.name
theorem K6.up {l:List AB} {at_:Nat} {s s':AK} (h:K6 l at_ s) (hu:PV s s') (hr:∀ i,i<at_→s'.rows[i]?=s.rows[i]?) (ht:∀ t∈s'.things,t∈s.things∨N0 s' t.kind t.num t.name):K6 l at_ s' where
 rows:=fun i x hi hx=>by
  rw[hr i hi] at hx
  obtain⟨h1,h2⟩:=h.rows i x hi hx
  exact⟨h1,fun h3=>(h2 h3).up hu⟩
 things:=fun t h1=>by
  rcases ht t h1 with h2 | h2
  ·exact(h.things t h2).up hu
  ·exact h2
theorem Dj {at_:Nat} {end_:Int} {x:AB} {s:AK}:PV s (E5 at_ end_ x s) where
 q:=fun i y h=>by simp only[E5];split;(first | exact VU h | exact h);exact h
 v:=fun i y h=>by simp only[E5];split;(first | exact VU h | exact h);exact h
 t:=fun i y h=>by simp only[E5];split;(first | exact VU h | exact h);exact h
 u:=fun i y h=>by simp only[E5];split;(first | exact VU h | exact h);exact h
 r:=fun i y h=>mV h
theorem yR (s:AK):PV s s:=⟨fun _ _ h=>h,fun _ _ h=>h,fun _ _ h=>h,fun _ _ h=>h,fun _ y h=>⟨y,h,rfl⟩⟩
theorem VL {α:Type} (l:List α) (y:α):(l++[y])[l.length]?=some y:=by simp
theorem Ih {at_:Nat} {end_:Int} {x:AB} {s:AK} (hx:s.rows[at_]?=some x) (hd:BS x.kind≠0):N0 (E5 at_ end_ x s) (BS x.kind) (BW s (BS x.kind)) x.name:=by
 have hk:=RP x.kind
 refine⟨by omega,?_⟩
 rw[Int.toNat_natCast]
 have hc:BS x.kind=1∨BS x.kind=2∨BS x.kind=3∨BS x.kind=4:=by omega
 rcases hc with e | e | e | e
 ·refine .inl ⟨e,x.kind==3,?_⟩
  simp only[E5,BW,e]
  exact VL _ _
 ·refine .inr (.inl ⟨e,?_⟩)
  simp only[E5,BW,e]
  exact VL _ _
 ·refine .inr (.inr (.inl ⟨e,?_⟩))
  simp only[E5,BW,e]
  exact VL _ _
 ·refine .inr (.inr (.inr ⟨e,at_,?_,_,J9 hx,rfl⟩))
  simp only[E5,BW,e]
  exact VL _ _
theorem xT {l:List AB} {at_:Nat} {end_:Int} {x:AB} {s:AK} (h:K6 l at_ s) (hx:s.rows[at_]?=some x) :
  K6 l at_ (BO at_ end_ x s)∧∃ n,(BO at_ end_ x s).rows[at_]?=some { x with n:=n }∧(BS x.kind=0→n=x.n)∧(BS x.kind≠0→N0 (BO at_ end_ x s) (BS x.kind) n x.name):=by
 unfold BO
 by_cases d0:BS x.kind=0
 ·rw[if_pos d0]
  exact⟨h,x.n,hx,fun _=>rfl,fun h1=>absurd d0 h1⟩
 ·rw[if_neg d0]
  have hs:=Ih (end_:=end_) hx d0
  refine⟨h.up Dj (fun i hi=>M_ (by omega)) fun t ht=>?_,_,J9 hx,fun h1=>absurd h1 d0,fun _=>hs⟩
  simp only[E5,List.mem_append,List.mem_cons,List.not_mem_nil,or_false] at ht
  rcases ht with h1 | rfl
  ·exact .inl h1
  ·exact .inr hs
theorem Kq {l:List AB} {at_:Nat} {x:AB} {s:AK} (h:K6 l at_ s) (hx:s.rows[at_]?=some x) (hc:DP at_ x s=0) :
  K6 l at_ (B8 at_ x s)∧PV s (B8 at_ x s)∧∃ n,(B8 at_ x s).rows[at_]?=some { x with n:=n }∧(EK x.kind=0→n=x.n)∧(EK x.kind≠0→N0 (B8 at_ x s) (EK x.kind) n x.name):=by
 unfold B8
 unfold DP at hc
 by_cases d0:EK x.kind=0
 ·rw[if_pos d0]
  exact⟨h,yR s,x.n,hx,fun _=>rfl,fun h1=>absurd d0 h1⟩
 ·rw [if_neg d0] at hc ⊢
  cases hf:F9 s.things x.name with
  | none=>simp only[hf] at hc;cases hc
  | some t=>
   simp only[hf] at hc ⊢
   have hk:t.kind=EK x.kind:=by
    split at hc
    ·cases hc
    ·split at hc
     ·cases hc
     ·rename_i h;simpa using h
   have hnm:t.name=x.name:=by
    have:=List.find?_some hf
    exact(NW this).symm
   have hu:PV s { s with rows:=F8 s.rows at_ t.num }:=⟨fun _ _ h=>h,fun _ _ h=>h,fun _ _ h=>h,fun _ _ h=>h,fun _ y h=>mV h⟩
   have hs:=(h.things t (aC hf)).up hu
   rw[hk,hnm] at hs
   exact⟨h.up hu (fun i hi=>M_ (by omega)) fun t ht=>.inl ht,hu,_,J9 hx,fun h1=>absurd h1 d0,fun _=>hs⟩
theorem Ob {l:List AB} {E:List Int} {at_:Nat} {s:AK} (hat:at_<l.length) (hi:HY l at_ s) (h:K6 l at_ s) (h0:(FE E at_ s).1=0):K6 l (at_+1) (FE E at_ s).2:=by
 obtain⟨x,hx⟩:∃ x,s.rows[at_]?=some x:=⟨_,List.getElem?_eq_getElem (by rw[hi.len];exact hat)⟩
 have hxl:l[at_]?=some x:=by rw[← hi.later at_ (Nat.le_refl _)];exact hx
 unfold FE at h0 ⊢
 rw[hx] at h0 ⊢
 simp only at h0 ⊢
 by_cases hd:FD x s=0
 case neg=>rw[if_pos hd] at h0;exact absurd h0 hd
 rw[if_neg (by simpa using hd)] at h0 ⊢
 obtain⟨t1,k1,r1,a1,b1⟩:=xT (end_:=(E[at_]?).getD 0) h hx
 generalize BO at_ ((E[at_]?).getD 0) x s=s1 at *
 rw[r1] at h0 ⊢
 simp only at h0 ⊢
 by_cases hc:DP at_ { x with n:=k1 } s1=0
 case neg=>rw[if_pos hc] at h0;exact absurd h0 hc
 rw[if_neg (by simpa using hc)] at h0 ⊢
 obtain⟨t2,u2,k2,r2,a2,b2⟩:=Kq t1 r1 hc
 simp only at r2 a2 b2
 generalize B8 at_ { x with n:=k1 } s1=s2 at *
 rw[r2] at h0 ⊢
 simp only at h0 ⊢
 by_cases hv:FF { x with n:=k2 } s2=0
 case neg=>rw[if_pos hv] at h0;exact absurd h0 hv
 rw[if_neg (by simpa using hv)] at h0 ⊢
 have hev:(EC at_ { x with n:=k2 } s2).queues=s2.queues∧(EC at_ { x with n:=k2 } s2).vars=s2.vars∧(EC at_ { x with n:=k2 } s2).tags=s2.tags∧(EC at_ { x with n:=k2 } s2).rules=s2.rules∧(EC at_ { x with n:=k2 } s2).rows=s2.rows∧(EC at_ { x with n:=k2 } s2).things=s2.things:=by
  unfold EC
  split
  ·exact⟨rfl,rfl,rfl,rfl,rfl,rfl⟩
  ·split <;> exact⟨rfl,rfl,rfl,rfl,rfl,rfl⟩
 obtain⟨e1,e2,e3,e4,e5,e6⟩:=hev
 generalize EC at_ { x with n:=k2 } s2=s3 at *
 have hu3:PV s2 s3:=⟨fun i y h=>by rw[e1];exact h,fun i y h=>by rw[e2];exact h,fun i y h=>by rw[e3];exact h,fun i y h=>by rw[e4];exact h,fun i y h=>⟨y,by rw[e5];exact h,rfl⟩⟩
 have t3:K6 l at_ s3:=t2.up hu3 (fun i _=>by rw[e5]) fun t ht=>.inl (by rw[← e6];exact ht)
 refine⟨fun i y hi' hy=>?_,t3.things⟩
 by_cases hia:i=at_
 ·subst hia
  rw[e5,r2] at hy
  cases hy
  simp only
  refine⟨fun h1=>?_,fun h1=>?_⟩
  ·obtain⟨h2,h3⟩:=Jw h1
   rw[a2 h2,a1 h3]
   exact hxl
  ·by_cases c0:EK x.kind=0
   ·have d0:BS x.kind≠0:=fun h2=>h1 (by unfold K3;omega)
    rw[show K3 x.kind=BS x.kind by unfold K3;omega,a2 c0]
    exact((b1 d0).up u2).up hu3
   ·rw[show K3 x.kind=EK x.kind by unfold K3;rw[gY c0];omega]
    exact(b2 c0).up hu3
 ·exact t3.rows i y (by omega) hy
theorem rL {l:List AB} {E:List Int} (ht:CN l) (hE:∀ i:Nat,0≤(E[i]?).getD 0):∀ r at_ s,at_+r=l.length→HY l at_ s→K6 l at_ s→(DO E r at_ s).1=0→K6 l l.length (DO E r at_ s).2.2
 | 0,at_,s,hr,hi,h,_=>by
  have:at_=l.length:=by omega
  subst this
  exact h
 | r+1,at_,s,hr,hi,h,h0=>by
  unfold DO at h0 ⊢
  by_cases h9:(FE E at_ s).1=0
  ·rw[if_neg (by simpa using h9)] at h0 ⊢
   exact rL ht hE r (at_+1) _ (by omega) (VY ht (hE at_) (by omega) hi h9) (Ob (by omega) hi h h9) h0
  ·rw[if_pos h9] at h0
   exact absurd h0 h9
theorem m7 {l:List AB} (h:(BE l).1.1=0):K6 l l.length (BE l).2:=by
 obtain⟨ht,_,hg,_,he,_⟩:=MV h
 rw[he]
 exact rL ht WR l.length 0 (CR l) (by omega) (cX l) ⟨fun i x hi=>by omega,fun t ht=>by simp[CR] at ht⟩ hg
theorem Da {x:AB} (h:DK AY x=true):(x.kind≠27→x.n=0)∧0≤x.n:=by
 unfold DK at h
 simp only[Bool.and_eq_true,Bool.or_eq_true,beq_iff_eq,decide_eq_true_eq] at h
 obtain⟨⟨⟨⟨⟨_,_⟩,_⟩,h1⟩,_⟩,_⟩:=h
 rcases h1 with h1 | ⟨⟨h1,h2⟩,_⟩
 ·exact⟨fun _=>h1,by omega⟩
 ·exact⟨fun h3=>absurd h1 h3,by omega⟩
theorem pF {l:List AB} (h:(BE l).1.1=0):BD (BE l).2.rows=l:=by
 have hm:=m7 h
 obtain⟨ht,_,_,_,_,hi⟩:=MV h
 apply List.ext_getElem?
 intro i
 rw[BD,List.getElem?_map]
 rcases Nat.lt_or_ge i l.length with h1 | h1
 ·obtain⟨x,hx⟩:∃ x,(BE l).2.rows[i]?=some x:=⟨_,List.getElem?_eq_getElem (by rw[hi.len];exact h1)⟩
  obtain⟨y,hy,hxy⟩:=hi.same i x hx
  rw[hx,hy]
  simp only[Option.map_some,Option.some.injEq]
  have hkind:x.kind=y.kind:=by rw[hxy]
  unfold LG
  by_cases h27:x.kind=27
  ·rw[if_neg (by simpa using h27)]
   have:=(hm.rows i x h1 hx).1 (by rw[h27];rfl)
   rw[hy] at this
   exact(Option.some.inj this).symm
  ·rw[if_pos h27,hxy]
   have:=(Da (ht.row hy).1).1 (by rw[← hkind];exact h27)
   show { y with n:=0 }=y
   rw[← this]
 ·rw[List.getElem?_eq_none (by rw[hi.len];exact h1),List.getElem?_eq_none h1]
  rfl
theorem Cq {l:List AB} (h:(BE l).1.1=0):VX (J_ l) (BE l).2:=by
 unfold VX
 rw[pF h,PZ h]
 exact⟨h,Bf _ _⟩
theorem c_ {l:List AB} (h:(BE l).1.1=0):FQ (J_ l) (BE l).2=0:=if_pos (Cq h)
def aE (L Z:List AB):Prop:=∀ (i:Nat) (z:AB),Z[i]?=some z→∃ x:AB,L[i]?=some x∧x.kind=z.kind
structure DN (Z:List AB) (s:AK):Prop where
 t:CN Z
 sk:NL s.rows Z
 kk:aE s.rows Z
 ks:∀ (i:Nat) (x:AB),s.rows[i]?=some x→1≤x.kind∧x.kind≤54
 qn:∀ (i:Nat) (x:AB),s.rows[i]?=some x→EK x.kind=1→0≤x.n∧x.n<s.queues.length
 root:∃ z:AB,Z[0]?=some z∧z.kind=1
 num:∀ (i:Nat) (x:AB),s.rows[i]?=some x→x.kind=27→0≤x.n∧x.n≤1073741824
theorem Y6 (x:AB):(LG x).kind=x.kind∧(LG x).kids=x.kids:=by unfold LG;split <;> exact⟨rfl,rfl⟩
theorem ZS {l:List AB} {i:Nat} {z:AB} (h:(BD l)[i]?=some z):∃ x,l[i]?=some x∧z=LG x:=by
 unfold BD at h
 rw[List.getElem?_map] at h
 cases hx:l[i]? with
 | none=>rw[hx] at h;cases h
 | some x=>rw[hx] at h;cases h;exact⟨x,rfl,rfl⟩
theorem zL {l:List AB} (h:I1 AY l=none):∃ z:AB,l[0]?=some z∧z.kind=1:=by
 unfold I1 at h
 split at h
 ·rename_i hc
  have h1:=hc.1
  unfold FX at h1
  cases hx:l[0]? with
  | none=>rw[hx] at h1;cases h1
  | some x=>
   rw[hx] at h1
   simp only at h1
   split at h1
   ·rename_i h2
    rw[Bool.and_eq_true] at h2
    exact⟨x,rfl,by have:=h2.1;simp[B_] at this;exact this⟩
   ·cases h1
 ·cases h
theorem wN {l:List AB} (h:(C4 l).1=0):∃ z:AB,l[0]?=some z∧z.kind=1:=by
 unfold C4 at h
 cases hs:I1 AY l with
 | none=>exact zL hs
 | some p=>rw[hs] at h;cases h
theorem TQ {nm:ByteArray} {s:AK} (h:FQ nm s=0):DN (BD s.rows) s:=by
 have hm:VX nm s:=by
  unfold FQ at h
  split at h
  ·assumption
  ·cases h
 obtain⟨hok,hsame⟩:=hm
 rw[PZ hok] at hsame
 obtain⟨_,e1,e2,e3,e4,e5,e6,e7⟩:=hsame
 simp only at e1 e2 e3 e4 e5 e6 e7
 obtain⟨ht,hck,hgo,_,hres,hi⟩:=MV hok
 have hzl:(BD s.rows).length=s.rows.length:=by unfold BD;rw[List.length_map]
 have hT:=m7 hok
 have hkinds:=ZC ht hi
 generalize (BE (BD s.rows)).2=s' at *
 have hlt:∀ (i:Nat) (x:AB),s.rows[i]?=some x→i<(BD s.rows).length:=fun i x hx=>by
  have:=(List.getElem?_eq_some_iff.1 hx).1
  omega
 refine⟨ht,⟨hzl.symm,fun i z hz=>?_⟩,fun i z hz=>?_,fun i x hx=>?_,fun i x hx hc=>?_,wN hck,fun i x hx hk=>?_⟩
 ·obtain⟨x,hx,rfl⟩:=ZS hz
  exact⟨x,hx,(Y6 x).2.symm⟩
 ·obtain⟨x,hx,rfl⟩:=ZS hz
  exact⟨x,hx,(Y6 x).1.symm⟩
 ·rw[e2] at hx
  exact hkinds x (List.mem_of_getElem? hx)
 ·have hl:=hlt i x hx
  rw[e2] at hx
  have hd:=gY (k:=x.kind) (by rw[hc];decide)
  have hs:K3 x.kind=1:=by unfold K3;omega
  have:=(hT.rows i x (by omega) hx).2 (by rw[hs];decide)
  rw[hs] at this
  obtain⟨h0,h2⟩:=this
  rcases h2 with⟨_,b,h2⟩ | ⟨h3,_⟩ | ⟨h3,_⟩ | ⟨h3,_⟩
  ·have:=(List.getElem?_eq_some_iff.1 h2).1
   rw[e3]
   omega
  ·omega
  ·omega
  ·omega
 ·have hl:=hlt i x hx
  rw[e2] at hx
  have hz:=(hT.rows i x (by omega) hx).1 (by rw[hk];rfl)
  have hf:=ht.fit hz
  unfold DK at hf
  simp only[Bool.and_eq_true,Bool.or_eq_true,decide_eq_true_eq,beq_iff_eq] at hf
  obtain⟨⟨⟨_,h1⟩,_⟩,_⟩:=hf
  rcases h1 with h1 | ⟨⟨_,h1⟩,h2⟩
  ·omega
  ·omega
section
variable {R Z:List AB} {e:Nat→Nat}
theorem aB (hk:aE R Z) (hs:NL R Z) (i:Nat):(R[i]?).map (fun x=>(x.kind,x.kids))=(Z[i]?).map (fun x=>(x.kind,x.kids)):=by
 cases hz:Z[i]? with
 | none=>
  have h1:=hs.1
  have:R[i]?=none:=List.getElem?_eq_none (by have:=List.getElem?_eq_none_iff.1 hz;omega)
  rw[this]
 | some z=>
  obtain⟨x,hx,h1⟩:=hk i z hz
  obtain⟨y,hy,h2⟩:=hs.2 i z hz
  rw[hx] at hy
  cases hy
  rw[hx]
  simp[h1,h2]
theorem qV {i:Nat} {x y:AB} {first:Int} (h:x.kind=y.kind):∀ (ps:List Nat) (k:Nat) (s:GY),GX i x first k ps s=GX i y first k ps s
 | [],k,s=>rfl
 | p :: ps,k,s=>by
  show GX i x first (k+1) ps (HQ i x first s k p)=GX i y first (k+1) ps (HQ i y first s k p)
  have:HQ i x first s k p=HQ i y first s k p:=by unfold HQ;rw[h]
  rw[this]
  exact qV h ps (k+1) _
theorem T9 (hk:aE R Z) (hs:NL R Z):∀ i,BP R e i=BP Z e i
 | 0=>by
  show (⟨_,_,_⟩:GY)=⟨_,_,_⟩
  rw[hs.1]
 | i+1=>by
  show JL R e i (BP R e i)=JL Z e i (BP Z e i)
  rw[T9 hk hs i]
  unfold JL
  have h1:=aB hk hs i
  have h2:=aB hk hs (i+1)
  have h3:(R[i+1]?).map (·.kind)=(Z[i+1]?).map (·.kind):=by
   cases hR:R[i+1]? <;> cases hZ:Z[i+1]? <;> rw[hR,hZ] at h2 <;> simp_all
  cases hR:R[i]? with
  | none=>
   cases hZ:Z[i]? with
   | none=>rfl
   | some z=>rw[hR,hZ] at h1;cases h1
  | some x=>
   cases hZ:Z[i]? with
   | none=>rw[hR,hZ] at h1;cases h1
   | some z=>
    rw[hR,hZ] at h1
    simp only[Option.map_some,Option.some.injEq,Prod.mk.injEq] at h1
    simp only
    rw[h3,h1.2]
    exact qV h1.1 _ _ _
theorem mE {i:Nat} {x:AB} {first:Int}:∀ (ps:List Nat) (k q:Nat) (s:GY) (p:Nat),ps[q]?=some p→GX i x first k (ps.take (q+1)) s=HQ i x first (GX i x first k (ps.take q) s) (k+q) p
 | [],k,q,s,p,h=>by simp at h
 | a :: ps,k,0,s,p,h=>by
  cases h
  rfl
 | a :: ps,k,q+1,s,p,h=>by
  have h':ps[q]?=some p:=by simpa using h
  have:=mE (i:=i) (x:=x) (first:=first) ps (k+1) q (HQ i x first s k a) p h'
  rw[show k+1+q=k+(q+1) by omega] at this
  exact this
theorem mP {i m:Nat} {x:AB} {first:Int} (hi:i<m):∀ (ps:List Nat) (k:Nat) (s:GY),(∀ v∈s.U,0≤v∧v<(m:Int))→∀ v∈(GX i x first k ps s).U,0≤v∧v<(m:Int)
 | [],k,s,h=>h
 | p :: ps,k,s,h=>mP hi ps (k+1) _ fun v hv=>by
  have hv':v∈s.U.set p (i:Int):=hv
  rcases List.mem_or_eq_of_mem_set hv' with h1 | h1
  ·exact h v h1
  ·omega
theorem p8 {m:Nat} (hm:R.length=m) (h0:0<m):∀ i,i≤m→∀ v∈(BP R e i).U,0≤v∧v<(m:Int)
 | 0,_,v,hv=>by
  have:v=0:=(List.mem_replicate.1 hv).2
  omega
 | i+1,hi,v,hv=>by
  have ih:=p8 hm h0 i (by omega)
  have hv':v∈(JL R e i (BP R e i)).U:=hv
  unfold JL at hv'
  split at hv'
  ·exact ih v hv'
  ·exact mP (by omega) _ _ _ ih v hv'
end
section
variable {Z:List AB} {s:AK}
theorem DN.z (hG:DN Z s) {i:Nat} {x:AB} (hx:s.rows[i]?=some x):∃ z:AB,Z[i]?=some z∧x.kind=z.kind∧x.kids=z.kids:=by
 have hl:=(List.getElem?_eq_some_iff.1 hx).1
 have h1:=hG.sk.1
 obtain⟨z,hz⟩:∃ z,Z[i]?=some z:=⟨_,List.getElem?_eq_getElem (by omega)⟩
 obtain⟨a,ha,h2⟩:=hG.kk i z hz
 obtain⟨b,hb,h3⟩:=hG.sk.2 i z hz
 rw[hx] at ha hb
 cases ha
 cases hb
 exact⟨z,hz,h2,h3⟩
theorem DN.most (hG:DN Z s) {i:Nat} {x:AB} (hx:s.rows[i]?=some x):([12,13].contains x.kind=true→x.kids≤3)∧([15,47,48].contains x.kind=true→x.kids≤2):=by
 obtain⟨z,hz,h1,h2⟩:=hG.z hx
 have hf:=hG.t.fit hz
 unfold DK at hf
 simp only[Bool.and_eq_true,decide_eq_true_eq,Bool.or_eq_true] at hf
 obtain⟨_,hm⟩:=hf
 rw[← h1,← h2] at hm
 refine⟨fun h=>?_,fun h=>?_⟩
 ·simp only[List.contains_cons,List.contains_nil,Bool.or_false,Bool.or_eq_true,beq_iff_eq] at h
  rcases h with h | h <;> (rw[h] at hm;rcases hm with hm | hm <;> simp[C2] at hm <;> omega)
 ·simp only[List.contains_cons,List.contains_nil,Bool.or_false,Bool.or_eq_true,beq_iff_eq] at h
  rcases h with h | h | h <;> (rw[h] at hm;rcases hm with hm | hm <;> simp[C2] at hm <;> omega)
theorem DN.kids0 (hG:DN Z s) {i:Nat} {x:AB} (hx:s.rows[i]?=some x):0≤x.kids∧EW Z x.kids.toNat (i+1) (AD Z i)∧AD Z i≤s.rows.length∧i<AD Z i:=by
 obtain⟨z,hz,h1,h2⟩:=hG.z hx
 have hs:=hG.t.end (List.getElem?_eq_some_iff.1 hz).1
 obtain⟨y,hy,h3,_,h4⟩:=hs.kids
 rw[hz] at hy
 cases hy
 rw[h2]
 have:=hs.lt
 have:=hG.sk.1
 exact⟨h3,h4,by omega,by omega⟩
theorem DN.kid (hG:DN Z s) {i k p:Nat} {x:AB} (hx:s.rows[i]?=some x) (hk:(BH (AD Z) x.kids.toNat (i+1))[k]?=some p):i<p∧p<s.rows.length:=by
 obtain⟨z,hz,h1,h2⟩:=hG.z hx
 obtain⟨_,hc,_⟩:=hG.kids0 hx
 have hge:=SF _ _ _ hc p (List.mem_of_getElem? hk)
 rw[h2] at hk
 obtain⟨y,hy,_⟩:=hG.t.kid hz hk
 have:=(List.getElem?_eq_some_iff.1 hy).1
 have:=hG.sk.1
 omega
theorem DN.next (hG:DN Z s) {i:Nat} {x:AB} (hx:s.rows[i]?=some x) (h:0<x.kids):i+1<s.rows.length:=by
 obtain⟨r,hr⟩:∃ r,x.kids.toNat=r+1:=⟨x.kids.toNat-1,by omega⟩
 exact(hG.kid (k:=0) (p:=i+1) hx (by rw[hr];rfl)).2
theorem DN.place (hG:DN Z s) {i:Nat} {x:AB} (hx:s.rows[i]?=some x) (h24:x.kind=24):0<i∧∃ up:AB,s.rows[i-1]?=some up∧(BP s.rows (AD Z) i).U[i]?=some ((i-1:Nat):Int)∧(up.kind≠20→0≤up.n∧up.n<s.queues.length):=by
 obtain⟨z,hz,h1,h2⟩:=hG.z hx
 have hl:=(List.getElem?_eq_some_iff.1 hz).1
 have hsl:=hG.sk.1
 have h0:0<i:=by
  rcases Nat.eq_zero_or_pos i with h | h
  ·subst h
   obtain⟨r,hr,h3⟩:=hG.root
   rw[hz] at hr
   cases hr
   omega
  ·exact h
 have h0l:AD Z 0=Z.length:=I4 hG.t
 obtain⟨j,y,k,hy,hj,hk⟩:=hG.t.kidOf i 0 i (by omega) h0 (by omega) (by omega)
 obtain⟨hp,h19⟩:=hG.t.place hy hk hz (by omega)
 obtain⟨up,hup⟩:∃ up,s.rows[i-1]?=some up:=⟨_,List.getElem?_eq_getElem (by omega)⟩
 obtain⟨w,hw,h5,_⟩:=hG.z hup
 have:i-1=j:=by omega
 rw[this,hy] at hw
 cases hw
 refine⟨h0,up,hup,?_,fun h20=>hG.qn _ up hup ?_⟩
 ·rw[T9 hG.kk hG.sk]
  exact Lz hG.t hz (by omega) h0
 ·rcases h19 with h | h
  ·rw[h5,h];rfl
  ·exact absurd (h5.trans h) h20
theorem Kk {k:Int} (h:[8,17,20,9,21,24].contains k=true):EK k=1:=by
 simp only[List.contains_cons,List.contains_nil,Bool.or_false,Bool.or_eq_true,beq_iff_eq] at h
 rcases h with h | h | h | h | h | h <;> (rw[h];rfl)
end
section
variable {R:List AB} {Q:List (ByteArray × Bool)} {e:Nat→Nat} {r i:Nat} {x:AB}
theorem rN (hx:R[i]?=some x) {b:Int} (hb:GZ R Q (BP R e i) i x=b) (h0:b≠0):EV R Q e (r+1) i=((b,(i:Int)),[]):=by
 unfold EV
 rw[hx]
 simp only
 rw[hb,if_pos h0]
theorem jH (hx:R[i]?=some x) (hb:GZ R Q (BP R e i) i x=0):EV R Q e (r+1) i=EV R Q e r (i+1):=by
 conv=>lhs;unfold EV
 rw[hx]
 simp only
 rw[hb,if_neg (by decide)]
variable {M:GY} {a u:Int} {c:Bool} {up:AB}
theorem TL (hA:M.A[i]?=some a) (h0:a≠0) (h1:BT x.kind≠a):GZ R Q M i x=41:=by
 unfold GZ
 rw[hA,if_pos ⟨h0,h1⟩]
theorem WU (hA:M.A[i]?=some a) (h0:¬(a≠0∧BT x.kind≠a)) (hC:M.C[i]?=some true) (hv:J5 x.kind=true):GZ R Q M i x=42:=by
 unfold GZ
 rw[hA,if_neg (by simpa using h0),hC,if_pos (by simp[hv])]
theorem iX (hA:M.A[i]?=some a) (h0:¬(a≠0∧BT x.kind≠a)) (hC:M.C[i]?=some c) (hv:(c&&J5 x.kind)=false) (hU:M.U[i]?=some u) (hup:R[u.toNat]?=some up):GZ R Q M i x=if JK Q x up=true then 46 else 0:=by
 unfold GZ
 rw[hA,if_neg (by simpa using h0),hC,hU]
 rw[if_neg (by simp only[Option.getD_some];rw[hv];decide)]
 simp only[Option.getD_some,hup]
end
noncomputable def AS (nm:ByteArray) (s:AK):(Int × Int) × List Int:=if FQ nm s≠0 then ((FQ nm s,0),[]) else EV s.rows s.queues (AD (BD s.rows)) s.rows.length 0
def x8 (h:AA) (lo:Nat) (v:Value) (R:(Int × Int) × List Int):Prop:=∃ tv,v=.tuple #[tv,BG R.1.1 R.1.2]∧AT lo h tv R.2
def IQ (size:Int):List (Int × Bool)→Int→Int→Option (Int × Int)
 | [],r,o=>some (r,o)
 | (n,g) :: l,r,o=>if n<1∨n>1048576 then none else if g=true then IQ size l r (o+n) else if n>size then none else IQ size l (r+n) o
def HT (C:List Int) (Q:List (ByteArray × Bool)):List (Int × Bool):=C.zip (Q.map (·.2))
def LW (size:Int) (C:List Int) (Q:List (ByteArray × Bool)):Bool:=
 if size<1∨size>1048576∨C.length≠Q.length then false else match IQ size (HT C Q) 0 0 with
  | none=>false
  | some (r,o)=>decide (min size r+o≤4194304)
section
variable {C:List Int} {Q:List (ByteArray × Bool)} {size r o:Int} {i:Nat}
theorem Ce (h:C.length=Q.length):(HT C Q).length=C.length:=by simp[HT,h]
theorem V3 {n:Int} {q:ByteArray × Bool} (h1:C[i]?=some n) (h2:Q[i]?=some q):(HT C Q).drop i=(n,q.2) :: (HT C Q).drop (i+1):=by
 have l1:=(List.getElem?_eq_some_iff.1 h1).1
 have l2:=(List.getElem?_eq_some_iff.1 h2).1
 have hl:i<(HT C Q).length:=by simp only[HT,List.length_zip,List.length_map];omega
 rw[List.drop_eq_getElem_cons hl]
 congr 1
 have e1:C[i]=n:=(List.getElem?_eq_some_iff.1 h1).2
 have e2:Q[i]=q:=(List.getElem?_eq_some_iff.1 h2).2
 simp[HT,e1,e2]
theorem YS {n:Int} {q:ByteArray × Bool} (h1:C[i]?=some n) (h2:Q[i]?=some q) (hb:n<1∨n>1048576∨(q.2=false∧n>size)):IQ size ((HT C Q).drop i) r o=none:=by
 rw[V3 h1 h2]
 unfold IQ
 rcases hb with hb | hb | ⟨hb,hc⟩
 ·rw[if_pos (.inl hb)]
 ·rw[if_pos (.inr hb)]
 ·by_cases h3:n<1∨n>1048576
  ·rw[if_pos h3]
  ·rw[if_neg h3,if_neg (by rw[hb];decide),if_pos hc]
theorem Hs {n:Int} {q:ByteArray × Bool} (h1:C[i]?=some n) (h2:Q[i]?=some q) (h3:1≤n∧n≤1048576) (h4:q.2=true):IQ size ((HT C Q).drop i) r o=IQ size ((HT C Q).drop (i+1)) r (o+n):=by
 rw[V3 h1 h2]
 conv=>lhs;unfold IQ
 rw[if_neg (by omega),if_pos h4]
theorem Nj {n:Int} {q:ByteArray × Bool} (h1:C[i]?=some n) (h2:Q[i]?=some q) (h3:1≤n∧n≤1048576) (h4:q.2=false) (h5:n≤size):IQ size ((HT C Q).drop i) r o=IQ size ((HT C Q).drop (i+1)) (r+n) o:=by
 rw[V3 h1 h2]
 conv=>lhs;unfold IQ
 rw[if_neg (by omega),if_neg (by rw[h4];decide),if_neg (by omega)]
theorem Ge (h:C.length=Q.length) (hi:i=C.length):IQ size ((HT C Q).drop i) r o=some (r,o):=by
 rw[List.drop_of_length_le (by rw[Ce h];omega)]
 rfl
end
def HR (k:Int):Bool:=[39,40,41,43,44,45,46].contains k
def LR (k:Int):Bool:=[42,47,48,49,50,51,52,53,54].contains k
def G8 (k:Int):Bool:=[41,42].contains k
def GD (k:Int):Bool:=[39,40,43,44,45,46,47,48,49,50,51,52,53,54].contains k
def HK (k a b:Int):Int:=if k=39 then (if b<a then b else a) else if k=40 then (if b>a then b else a) else if k=41 then -a else if k=43 then a*b else if k=44 then KU a b else if k=45 then a+b else a-b
def J3 (k a b:Int):Bool:=if k=47 then a==b else if k=48 then a != b else if k=49 then decide (a<b) else if k=50 then decide (a≤b) else if k=51 then decide (a>b) else if k=52 then decide (a≥b) else if k=42 then a==0 else if k=53 then (a != 0&&b != 0) else (a != 0||b != 0)
def F_ (k a b:Int):Int:=if HR k=true then FV (HK k a b) else if J3 k a b=true then 1 else 0
def DQ (size:Int) (C:List Int) (x:AB):Option Int:=if x.kind=27 then some x.n else if x.kind=33 then some size else if x.kind=32 then some ((C[x.n.toNat]?).getD 0) else if x.kind=29 then some 1 else if x.kind=30 then some 0 else none
def K_ (R:List AB) (e:Nat→Nat) (size:Int) (C:List Int):Nat→Nat→Option Int
 | 0,_=>none
 | f+1,i=>match R[i]? with
  | none=>none
  | some x=>if G8 x.kind=true then (K_ R e size C f (i+1)).map (fun a=>F_ x.kind a a)
   else if GD x.kind=true then (match K_ R e size C f (i+1),K_ R e size C f (e (i+1)) with
    | some a,some b=>some (F_ x.kind a b)
    | _,_=>none)
   else DQ size C x
def B7 (R:List AB) (e:Nat→Nat) (size:Int) (C:List Int) (i:Nat):Option Int:=K_ R e size C R.length i
theorem eQ {k:Int}:(G8 k=true∨GD k=true)↔(HR k=true∨LR k=true):=by
 simp only[G8,GD,HR,LR,List.contains_cons,List.contains_nil,Bool.or_false,Bool.or_eq_true,beq_iff_eq]
 omega
section
variable {Z:List AB} {s:AK}
theorem DN.un (hG:DN Z s) {i:Nat} {x:AB} (hx:s.rows[i]?=some x) (h:G8 x.kind=true):x.kids=1:=by
 obtain⟨z,hz,h1,h2⟩:=hG.z hx
 have hf:=hG.t.fit hz
 unfold DK at hf
 simp only[Bool.and_eq_true,decide_eq_true_eq,Bool.or_eq_true] at hf
 obtain⟨⟨_,hl⟩,hm⟩:=hf
 rw[← h1,← h2] at hl hm
 unfold G8 at h
 simp only[List.contains_cons,List.contains_nil,Bool.or_false,Bool.or_eq_true,beq_iff_eq] at h
 rcases h with h | h <;> (rw[h] at hl hm;rcases hm with hm | hm <;> simp[C2,F6] at hm hl <;> omega)
theorem DN.bin (hG:DN Z s) {i:Nat} {x:AB} (hx:s.rows[i]?=some x) (h:GD x.kind=true):x.kids=2:=by
 obtain⟨z,hz,h1,h2⟩:=hG.z hx
 have hf:=hG.t.fit hz
 unfold DK at hf
 simp only[Bool.and_eq_true,decide_eq_true_eq,Bool.or_eq_true] at hf
 obtain⟨⟨_,hl⟩,hm⟩:=hf
 rw[← h1,← h2] at hl hm
 unfold GD at h
 simp only[List.contains_cons,List.contains_nil,Bool.or_false,Bool.or_eq_true,beq_iff_eq] at h
 rcases h with h | h | h | h | h | h | h | h | h | h | h | h | h | h <;> (rw[h] at hl hm;rcases hm with hm | hm <;> simp[C2,F6] at hm hl <;> omega)
theorem DN.kid0 (hG:DN Z s) {i:Nat} {x:AB} (hx:s.rows[i]?=some x) (h:0<x.kids):i<i+1∧i+1<s.rows.length:=⟨by omega,hG.next hx h⟩
theorem DN.kid1 (hG:DN Z s) {i:Nat} {x:AB} (hx:s.rows[i]?=some x) (h:x.kids=2):i<AD Z (i+1)∧AD Z (i+1)<s.rows.length:=
 hG.kid (k:=1) hx (by rw[h];rfl)
variable {size:Int} {C:List Int}
theorem SD (hG:DN Z s):∀ (d i f g:Nat),s.rows.length-i≤d→s.rows.length-i≤f→s.rows.length-i≤g→i<s.rows.length→K_ s.rows (AD Z) size C f i=K_ s.rows (AD Z) size C g i
 | 0,i,f,g,h1,_,_,h4=>by omega
 | d+1,i,f,g,h1,h2,h3,h4=>by
  obtain⟨f,rfl⟩:∃ j,f=j+1:=⟨f-1,by omega⟩
  obtain⟨g,rfl⟩:∃ j,g=j+1:=⟨g-1,by omega⟩
  obtain⟨x,hx⟩:∃ x,s.rows[i]?=some x:=⟨_,List.getElem?_eq_getElem h4⟩
  unfold K_
  rw[hx]
  simp only
  by_cases hu:G8 x.kind=true
  ·have hk:=hG.un hx hu
   have k0:=hG.kid0 hx (by omega)
   rw[if_pos hu,if_pos hu,SD hG d (i+1) f g (by omega) (by omega) (by omega) k0.2]
  ·rw[if_neg hu,if_neg hu]
   by_cases hb:GD x.kind=true
   ·have hk:=hG.bin hx hb
    have k0:=hG.kid0 hx (by omega)
    have k1:=hG.kid1 hx hk
    rw[if_pos hb,if_pos hb,SD hG d (i+1) f g (by omega) (by omega) (by omega) k0.2,SD hG d (AD Z (i+1)) f g (by omega) (by omega) (by omega) k1.2]
   ·rw[if_neg hb,if_neg hb]
theorem R8 (hG:DN Z s) {i:Nat} {x:AB} (hx:s.rows[i]?=some x):B7 s.rows (AD Z) size C i=if G8 x.kind=true then (B7 s.rows (AD Z) size C (i+1)).map (fun a=>F_ x.kind a a)
   else if GD x.kind=true then (match B7 s.rows (AD Z) size C (i+1),B7 s.rows (AD Z) size C (AD Z (i+1)) with
    | some a,some b=>some (F_ x.kind a b)
    | _,_=>none)
   else DQ size C x:=by
 have hl:=(List.getElem?_eq_some_iff.1 hx).1
 unfold B7
 obtain⟨f,hf⟩:∃ f,s.rows.length=f+1:=⟨s.rows.length-1,by omega⟩
 by_cases hu:G8 x.kind=true
 ·have hk:=hG.un hx hu
  have k0:=hG.kid0 hx (by omega)
  rw[if_pos hu,← SD hG s.rows.length (i+1) f s.rows.length (by omega) (by omega) (by omega) k0.2]
  conv=>lhs;rw[hf];unfold K_
  rw[hx]
  simp only
  rw[if_pos hu]
 ·rw[if_neg hu]
  by_cases hb:GD x.kind=true
  ·have hk:=hG.bin hx hb
   have k0:=hG.kid0 hx (by omega)
   have k1:=hG.kid1 hx hk
   rw[if_pos hb,← SD hG s.rows.length (i+1) f s.rows.length (by omega) (by omega) (by omega) k0.2,← SD hG s.rows.length (AD Z (i+1)) f s.rows.length (by omega) (by omega) (by omega) k1.2]
   conv=>lhs;rw[hf];unfold K_
   rw[hx]
   simp only
   rw[if_neg hu,if_pos hb]
  ·rw[if_neg hb]
   conv=>lhs;rw[hf];unfold K_
   rw[hx]
   simp only
   rw[if_neg hu,if_neg hb]
structure PY (s:AK) (size:Int) (C:List Int):Prop where
 sz:1≤size∧size≤1048576
 len:C.length=s.queues.length
 all:∀ c∈C,1≤c∧c≤1048576
theorem fN {size:Int}:∀ (l:List (Int × Bool)) (r o:Int) {p:Int × Int},IQ size l r o=some p→∀ y∈l,1≤y.1∧y.1≤1048576
 | [],r,o,p,_,y,hy=>by cases hy
 | (n,g) :: l,r,o,p,h,y,hy=>by
  unfold IQ at h
  split at h
  ·cases h
  rename_i hc
  have hn:1≤n∧n≤1048576:=by omega
  rcases List.mem_cons.1 hy with rfl | hy
  ·exact hn
  split at h
  ·exact fN l _ _ h y hy
  split at h
  ·cases h
  ·exact fN l _ _ h y hy
theorem Ic {s:AK} (h:LW size C s.queues=true):PY s size C:=by
 unfold LW at h
 split at h
 ·cases h
 rename_i hc
 have hl:C.length=s.queues.length:=by omega
 refine⟨by omega,hl,fun c hc'=>?_⟩
 cases hg:IQ size (HT C s.queues) 0 0 with
 | none=>rw[hg] at h;cases h
 | some p=>
  obtain⟨j,hj⟩:=List.getElem?_of_mem hc'
  have hjl:=(List.getElem?_eq_some_iff.1 hj).1
  obtain⟨q,hq⟩:∃ q,s.queues[j]?=some q:=⟨_,List.getElem?_eq_getElem (by omega)⟩
  have hz:=V3 hj hq
  have hm:(c,q.2)∈HT C s.queues:=List.mem_of_mem_drop (i:=j) (by rw[hz];exact List.mem_cons_self)
  exact fN _ _ _ hg _ hm
theorem oS (k a b:Int):-1073741824≤F_ k a b∧F_ k a b≤1073741824:=by
 unfold F_
 split
 ·exact oQ _
 ·split <;> omega
theorem Lg (hG:DN Z s) (hF:PY s size C) {i:Nat} {x:AB} (hx:s.rows[i]?=some x) {v:Int} (h:DQ size C x=some v):-1073741824≤v∧v≤1073741824:=by
 unfold DQ at h
 have hs:=hF.sz
 split at h
 ·rename_i hk
  have:=hG.num i x hx hk
  cases h
  omega
 split at h
 ·cases h
  omega
 split at h
 ·rename_i hk
  have hq:=hG.qn i x hx (by rw[hk];rfl)
  have hl:=hF.len
  obtain⟨c,hc⟩:∃ c,C[x.n.toNat]?=some c:=⟨_,List.getElem?_eq_getElem (by omega)⟩
  have:=hF.all c (List.mem_of_getElem? hc)
  rw[hc] at h
  cases h
  show -1073741824≤c∧c≤1073741824
  omega
 split at h
 ·cases h
  omega
 split at h
 ·cases h
  omega
 ·cases h
theorem WV (hG:DN Z s) (hF:PY s size C) {i:Nat} (hi:i<s.rows.length) {v:Int} (h:B7 s.rows (AD Z) size C i=some v):-1073741824≤v∧v≤1073741824:=by
 obtain⟨x,hx⟩:∃ x,s.rows[i]?=some x:=⟨_,List.getElem?_eq_getElem hi⟩
 rw[R8 hG hx] at h
 split at h
 ·cases hc:B7 s.rows (AD Z) size C (i+1) with
  | none=>rw[hc] at h;cases h
  | some a=>rw[hc] at h;cases h;exact oS _ _ _
 split at h
 ·split at h
  ·cases h;exact oS _ _ _
  ·cases h
 ·exact Lg hG hF hx h
end
section
variable {l:List AB}
end
def UN (Z:List AB) (s:AK):Prop:=∀ (i:Nat) (x:AB),s.rows[i]?=some x→GZ s.rows s.queues (BP s.rows (AD Z) i) i x=0
theorem r_ {R:List AB} {Q:List (ByteArray × Bool)} {e:Nat→Nat}:∀ (r i:Nat),i+r=R.length→(EV R Q e r i).1.1=0→∀ (j:Nat) (x:AB),i≤j→R[j]?=some x→GZ R Q (BP R e j) j x=0
 | 0,i,h,_,j,x,h1,hx=>by
  have:=(List.getElem?_eq_some_iff.1 hx).1
  omega
 | r+1,i,h,h0,j,x,h1,hx=>by
  obtain⟨y,hy⟩:∃ y,R[i]?=some y:=⟨_,List.getElem?_eq_getElem (by omega)⟩
  by_cases hb:GZ R Q (BP R e i) i y=0
  ·rw[jH hy hb] at h0
   rcases Nat.eq_or_lt_of_le h1 with e1 | e1
   ·subst e1
    rw[hy] at hx
    cases hx
    exact hb
   ·exact r_ r (i+1) (by omega) h0 j x (by omega) hx
  ·rw[rN hy rfl hb] at h0
   exact absurd h0 hb
theorem jO {R:List AB} {Q:List (ByteArray × Bool)} {e:Nat→Nat}:∀ (r i:Nat),(EV R Q e r i).1.1=0→(EV R Q e r i).1=(0,0)
 | 0,i,_=>rfl
 | r+1,i,h=>by
  unfold EV at h ⊢
  split
  ·rfl
  ·rename_i y hy
   rw[hy] at h
   simp only at h
   split
   ·rename_i hb
    rw[if_pos hb] at h
    exact absurd h hb
   ·rename_i hb
    rw[if_neg hb] at h
    exact jO r (i+1) h
theorem UZ {nm:ByteArray} {s:AK} (h:(AS nm s).1.1=0):FQ nm s=0∧DN (BD s.rows) s∧UN (BD s.rows) s∧(AS nm s).1=(0,0):=by
 unfold AS at h ⊢
 split at h
 ·rename_i hc
  exact absurd h hc
 ·rename_i hc
  have hc0:FQ nm s=0:=by simpa using hc
  rw[if_neg hc]
  exact⟨hc0,TQ hc0,fun i x hx=>r_ _ _ (by omega) h i x (Nat.zero_le _) hx,jO _ _ h⟩
section
variable {Z:List AB} {s:AK}
theorem DN.leaf (hG:DN Z s) {i:Nat} {x:AB} (hx:s.rows[i]?=some x) (hk:[27,28,29,30,31,32,33,34,35,36,37].contains x.kind=true):AD Z i=i+1:=by
 obtain⟨z,hz,h1,h2⟩:=hG.z hx
 obtain⟨k0,hch,_⟩:=hG.kids0 hx
 have hf:=hG.t.fit hz
 unfold DK at hf
 simp only[Bool.and_eq_true,decide_eq_true_eq,Bool.or_eq_true] at hf
 obtain⟨_,hm⟩:=hf
 rw[← h1,← h2] at hm
 have hk0:x.kids=0:=by
  simp only[List.contains_cons,List.contains_nil,Bool.or_false,Bool.or_eq_true,beq_iff_eq] at hk
  rcases hk with h | h | h | h | h | h | h | h | h | h | h <;> (rw[h] at hm;rcases hm with hm | hm <;> simp[C2] at hm <;> omega)
 rw[hk0] at hch
 exact hch.symm
end
structure EO where
 V:List (Int × Int × Int)
 G:List Int
 Rd:List Int
def D4 (e:Nat→Nat) (val:Nat→Int) (i:Nat) (x:AB) (t:EO):Int × EO:=
 if x.kind=4 then (if val (i+1)<val (e (i+1))∨val (i+1)>val (e (e (i+1))) then (43,t) else (0,{ t with V:=t.V++[(val (i+1),val (e (i+1)),val (e (e (i+1))))] }))
 else if x.kind=5 then (if val (i+1)<1∨val (i+1)>255 then (43,t) else (0,{ t with G:=t.G++[val (i+1)] }))
 else if x.kind=6 then (if val (i+1)=0 then (44,t) else (0,t))
 else if x.kind=13 then (if val (i+1)<0∨val (i+1)>4194304 then (43,t) else (0,{ t with Rd:=t.Rd.set i (val (i+1)) }))
 else (0,t)
def EY (R:List AB) (e:Nat→Nat) (val:Nat→Int):Nat→Nat→EO→(Int × Int) × EO
 | 0,_,t=>((0,0),t)
 | r+1,i,t=>match R[i]? with
  | none=>((0,0),t)
  | some x=>if (D4 e val i x t).1≠0 then (((D4 e val i x t).1,(i:Int)),⟨[],[],[]⟩) else EY R e val r (i+1) (D4 e val i x t).2
section
variable {R:List AB} {e:Nat→Nat} {val:Nat→Int} {r i:Nat} {x:AB} {t:EO}
theorem NB (hx:R[i]?=some x) {b:Int} (hb:(D4 e val i x t).1=b) (h0:b≠0):EY R e val (r+1) i t=((b,(i:Int)),⟨[],[],[]⟩):=by
 unfold EY
 rw[hx]
 simp only
 rw[hb,if_pos h0]
theorem PD (hx:R[i]?=some x) (hb:(D4 e val i x t).1=0):EY R e val (r+1) i t=EY R e val r (i+1) (D4 e val i x t).2:=by
 conv=>lhs;unfold EY
 rw[hx]
 simp only
 rw[hb,if_neg (by decide)]
end
section
variable {Z:List AB} {s:AK}
end
theorem kY {α:Type} {F G:Int→α} (h:JW.map F=JW.map G) {k:Int} (hk:1≤k∧k≤54):F k=G k:=(List.map_inj_left.1 h) k (YC hk)
def U8:List Int:=JW.filter fun k=>!([12,13,15,47,48].contains k)
theorem Bj {α:Type} {F G:Int→α} (h:U8.map F=U8.map G) {k:Int} (hk:1≤k∧k≤54) (hr:[12,13,15,47,48].contains k=false):F k=G k:=
 (List.map_inj_left.1 h) k (List.mem_filter.2 ⟨YC hk,by rw[hr];rfl⟩)
section
variable (call:AN) (N:Nat) (h:AA)
theorem Dq:(JW.map fun k=>A7 Tryd.prog call N 40 [iv k] h)=JW.map fun k=>some (iv (BT k),h):=by kernel_rfl
theorem Fs:(JW.map fun k=>A7 Tryd.prog call N 41 [iv k] h)=JW.map fun k=>some (.bool (J5 k),h):=by kernel_rfl
theorem Am (j:Nat) (first:Int):(U8.map fun k=>A7 Tryd.prog call N 43 [iv k,iv j,iv first] h)=U8.map fun k=>some (iv (E_ k j first),h):=by kernel_rfl
end
section
variable {n:Nat} {h:AA} {k:Int}
theorem kD (hk:1≤k∧k≤54) (hn:0<n):AU n 40 [iv k] h=some (iv (BT k),h):=by
 obtain⟨n,rfl⟩:=DJ hn
 exact EN (BX ⟨rfl,rfl,rfl⟩) rfl (kY (Dq (AU n) n h) hk)
theorem Js (hk:1≤k∧k≤54) (hn:0<n):AU n 41 [iv k] h=some (.bool (J5 k),h):=by
 obtain⟨n,rfl⟩:=DJ hn
 exact EN (BX ⟨rfl,rfl,rfl⟩) rfl (kY (Fs (AU n) n h) hk)
theorem Aj (a:Int) (j:Nat):J6 a j=(a==4||(a==5||(a==6||(a==13&&(j:Int)==0)))):=by
 have hj:((j:Int)==0)=(j==0):=by
  rw[Bool.eq_iff_iff]
  simp
 unfold J6
 rw[hj]
 simp only[List.contains_cons,List.contains_nil,Bool.or_false,Bool.or_assoc]
theorem Hi {a:Int} {j:Nat} (hn:0<n):AU n 44 [iv a,iv (j:Int)] h=some (.bool (J6 a j),h):=by
 obtain⟨n,rfl⟩:=DJ hn
 refine EN (BX ⟨rfl,rfl,rfl⟩) rfl ?_
 refine DL Tryd.func44 rfl (by simp[Tryd.f44]) ?_
 have hr:Tryd.f44.results.toList=[.tmp 4]:=rfl
 rw[Aj]
 cases c4:(a==4) with
 | true=>simp only[eE,seval,↓eP,hr,c4,Bool.true_or]
 | false=>
 cases c5:(a==5) with
 | true=>simp only[eE,seval,↓eP,hr,c4,c5,Bool.true_or,Bool.or_true]
 | false=>
 cases c6:(a==6) with
 | true=>simp only[eE,seval,↓eP,hr,c4,c5,c6,Bool.true_or,Bool.or_true]
 | false=>
 cases c13:(a==13) with
 | false=>simp only[eE,seval,↓eP,hr,c4,c5,c6,c13,Bool.or_false,Bool.false_and]
 | true=>
 cases cj:((j:Int)==0) with
 | false=>simp only[eE,seval,↓eP,hr,c4,c5,c6,c13,cj,Bool.or_false,Bool.and_false]
 | true=>simp only[eE,seval,↓eP,hr,c4,c5,c6,c13,cj,Bool.or_true,Bool.and_true]
theorem pH {a b:Int}:FC Tryd.prog h 27 2 [(0,iv a),(1,iv b)]=some (qS h.next 2 2,h.push (.row [iv a,iv b] 3 false false)):=by
 have hc:∀ x:Int,(iv x).cells=#[iv x]:=fun _=>rfl
 simp[FC,Tryd.underlying27,CP,GO,flat,BI,hc,IS,BY,Go.Sx.lay]
theorem R1 {a b c:Int}:FC Tryd.prog h 27 3 [(0,iv a),(1,iv b),(2,iv c)]=some (qS h.next 3 3,h.push (.row [iv a,iv b,iv c] 3 false false)):=by
 have hc:∀ x:Int,(iv x).cells=#[iv x]:=fun _=>rfl
 simp[FC,Tryd.underlying27,CP,GO,flat,BI,hc,IS,BY,Go.Sx.lay]
theorem PH {o:BC}:∀ i,i<h.next→(h.push o).get i=h.get i:=fun i hi=>AQ hi
theorem Bo {call:AN} {N:Nat} {j:Nat} {first:Int} (hk:1≤k∧k≤54) (hj:[12,13].contains k=true→j<3) (hj2:[15,47,48].contains k=true→j<2):∃ h1,A7 Tryd.prog call N 43 [iv k,iv (j:Int),iv first] h=some (iv (E_ k j first),h1)∧∀ i,i<h.next→h1.get i=h.get i:=by
 by_cases hr:[12,13,15,47,48].contains k=false
 ·exact⟨h,Bj (Am call N h j first) hk hr,fun _ _=>rfl⟩
 have hr':k=12∨k=13∨k=15∨k=47∨k=48:=by
  simp only[Bool.not_eq_false,List.contains_cons,List.contains_nil,Bool.or_false,Bool.or_eq_true,beq_iff_eq] at hr
  omega
 have hR:Tryd.f43.results.toList=[.tmp 6]:=rfl
 rcases hr' with rfl | rfl | rfl | rfl | rfl
 ·have h3:j=0∨j=1∨j=2:=by have:=hj rfl;omega
  rcases h3 with rfl | rfl | rfl
  ·have hix:CM Tryd.prog 27 (qS h.next 3 3) (iv 0)=some (qP h.next 0):=FL (id:=h.next) (n:=3) (c:=3) (i:=0) (by decide)
   change ∃ h1,A7 Tryd.prog call N 43 [iv 12,iv 0,iv first] h=some (iv (E_ 12 0 first),h1)∧_
   refine EH (R:=fun h1=>∀ i,i<h.next→h1.get i=h.get i) Tryd.func43 rfl (by simp[Tryd.f43]) ?_
   simp only[eE,seval,↓eP,Int.reduceBEq,hR,R1,hix,AV,BM,AJ]
   exact⟨rfl,PH⟩
  ·have hix:CM Tryd.prog 27 (qS h.next 3 3) (iv 1)=some (qP h.next 1):=FL (id:=h.next) (n:=3) (c:=3) (i:=1) (by decide)
   change ∃ h1,A7 Tryd.prog call N 43 [iv 12,iv 1,iv first] h=some (iv (E_ 12 1 first),h1)∧_
   refine EH (R:=fun h1=>∀ i,i<h.next→h1.get i=h.get i) Tryd.func43 rfl (by simp[Tryd.f43]) ?_
   simp only[eE,seval,↓eP,Int.reduceBEq,hR,R1,hix,AV,BM,AJ]
   exact⟨rfl,PH⟩
  ·have hix:CM Tryd.prog 27 (qS h.next 3 3) (iv 2)=some (qP h.next 2):=FL (id:=h.next) (n:=3) (c:=3) (i:=2) (by decide)
   change ∃ h1,A7 Tryd.prog call N 43 [iv 12,iv 2,iv first] h=some (iv (E_ 12 2 first),h1)∧_
   refine EH (R:=fun h1=>∀ i,i<h.next→h1.get i=h.get i) Tryd.func43 rfl (by simp[Tryd.f43]) ?_
   simp only[eE,seval,↓eP,Int.reduceBEq,hR,R1,hix,AV,BM,AJ]
   exact⟨rfl,PH⟩
 ·have h3:j=0∨j=1∨j=2:=by have:=hj rfl;omega
  rcases h3 with rfl | rfl | rfl
  ·have hix:CM Tryd.prog 27 (qS h.next 3 3) (iv 0)=some (qP h.next 0):=FL (id:=h.next) (n:=3) (c:=3) (i:=0) (by decide)
   change ∃ h1,A7 Tryd.prog call N 43 [iv 13,iv 0,iv first] h=some (iv (E_ 13 0 first),h1)∧_
   refine EH (R:=fun h1=>∀ i,i<h.next→h1.get i=h.get i) Tryd.func43 rfl (by simp[Tryd.f43]) ?_
   simp only[eE,seval,↓eP,Int.reduceBEq,hR,R1,hix,AV,BM,AJ]
   exact⟨rfl,PH⟩
  ·have hix:CM Tryd.prog 27 (qS h.next 3 3) (iv 1)=some (qP h.next 1):=FL (id:=h.next) (n:=3) (c:=3) (i:=1) (by decide)
   change ∃ h1,A7 Tryd.prog call N 43 [iv 13,iv 1,iv first] h=some (iv (E_ 13 1 first),h1)∧_
   refine EH (R:=fun h1=>∀ i,i<h.next→h1.get i=h.get i) Tryd.func43 rfl (by simp[Tryd.f43]) ?_
   simp only[eE,seval,↓eP,Int.reduceBEq,hR,R1,hix,AV,BM,AJ]
   exact⟨rfl,PH⟩
  ·have hix:CM Tryd.prog 27 (qS h.next 3 3) (iv 2)=some (qP h.next 2):=FL (id:=h.next) (n:=3) (c:=3) (i:=2) (by decide)
   change ∃ h1,A7 Tryd.prog call N 43 [iv 13,iv 2,iv first] h=some (iv (E_ 13 2 first),h1)∧_
   refine EH (R:=fun h1=>∀ i,i<h.next→h1.get i=h.get i) Tryd.func43 rfl (by simp[Tryd.f43]) ?_
   simp only[eE,seval,↓eP,Int.reduceBEq,hR,R1,hix,AV,BM,AJ]
   exact⟨rfl,PH⟩
 ·have h3:j=0∨j=1:=by have:=hj2 rfl;omega
  rcases h3 with rfl | rfl
  ·have hix:CM Tryd.prog 27 (qS h.next 2 2) (iv 0)=some (qP h.next 0):=FL (id:=h.next) (n:=2) (c:=2) (i:=0) (by decide)
   change ∃ h1,A7 Tryd.prog call N 43 [iv 15,iv 0,iv first] h=some (iv (E_ 15 0 first),h1)∧_
   refine EH (R:=fun h1=>∀ i,i<h.next→h1.get i=h.get i) Tryd.func43 rfl (by simp[Tryd.f43]) ?_
   simp only[eE,seval,↓eP,Int.reduceBEq,hR,pH,hix,AV,BM,AJ]
   exact⟨rfl,PH⟩
  ·have hix:CM Tryd.prog 27 (qS h.next 2 2) (iv 1)=some (qP h.next 1):=FL (id:=h.next) (n:=2) (c:=2) (i:=1) (by decide)
   change ∃ h1,A7 Tryd.prog call N 43 [iv 15,iv 1,iv first] h=some (iv (E_ 15 1 first),h1)∧_
   refine EH (R:=fun h1=>∀ i,i<h.next→h1.get i=h.get i) Tryd.func43 rfl (by simp[Tryd.f43]) ?_
   simp only[eE,seval,↓eP,Int.reduceBEq,hR,pH,hix,AV,BM,AJ]
   exact⟨rfl,PH⟩
 ·have h3:j=0∨j=1:=by have:=hj2 rfl;omega
  rcases h3 with rfl | rfl
  ·exact⟨h,by kernel_rfl,fun _ _=>rfl⟩
  ·exact⟨h,by kernel_rfl,fun _ _=>rfl⟩
 ·have h3:j=0∨j=1:=by have:=hj2 rfl;omega
  rcases h3 with rfl | rfl
  ·exact⟨h,by kernel_rfl,fun _ _=>rfl⟩
  ·exact⟨h,by kernel_rfl,fun _ _=>rfl⟩
theorem xE {j:Nat} {first:Int} (hk:1≤k∧k≤54) (hj:[12,13].contains k=true→j<3) (hj2:[15,47,48].contains k=true→j<2) (hn:0<n):AU n 43 [iv k,iv (j:Int),iv first] h=some (iv (E_ k j first),h):=by
 obtain⟨n,rfl⟩:=DJ hn
 exact JR (BX ⟨rfl,rfl,rfl⟩) rfl (Bo hk hj hj2)
end
theorem RL {z:List Value}:∀ n,(BY z n).length=n*z.length
 | 0=>by simp[BY]
 | n+1=>by rw[BY,List.length_append,RL n,Nat.succ_mul];omega
theorem fY {z:List Value}:∀ a b,BY z (a+b)=BY z a++BY z b
 | 0,b=>by simp[BY]
 | a+1,b=>by rw[Nat.succ_add,BY,BY,fY a b,List.append_assoc]
section
variable {P:Program} {t e:TypeId} {w b:Nat} {z:Value} {h:AA}
theorem bE (ht:P.underlying t=some (.slice e)) (he:BN P e=some w) {id n m c:Nat} (hm:m≤c) (hc:c≠AP):HL P h t (qS id n c) none (some (iv (m:Int))) none=some (qS id m c):=by
 simp only[HL,ht,he,F1,hc,if_false]
 rw[if_pos (by omega)]
 simp only[Int.toNat_natCast]
 by_cases h0:c=0
 ·subst h0
  simp[CK]
 ·simp[CK]
end
structure NZ (h:AA) (o n w:Nat) (cs mk z:List Value) (e:TypeId):Prop where
 g:h.get o=.row (cs++(mk++BY z 2)) e false false
 len:cs.length=n*w
 mlen:mk.length=w
 zlen:z.length=w
section
variable {t e:TypeId} {w b:Nat} {z:Value} {h:AA}
end
section
variable {t e:TypeId} {w b:Nat} {z:Value} {h:AA}
end
section
variable {h h':AA} {o n w:Nat} {cs mk z:List Value} {e:TypeId}
theorem NZ.mono (hl:NZ h o n w cs mk z e) (hg:h'.get o=h.get o):NZ h' o n w cs mk z e:=⟨by rw[hg];exact hl.g,hl.len,hl.mlen,hl.zlen⟩
theorem NZ.cells (hl:NZ h o n w cs mk z e) {lo c:Nat} (ho:lo≤o∧o<h.next):AM lo h (qS o n c) n w cs:=AM.row hl.g ho hl.len
theorem NZ.mark (hl:NZ h o n w cs mk z e) {lo c:Nat} (ho:lo≤o∧o<h.next):AM lo h (qS o (n+1) c) (n+1) w (cs++mk):=
 AM.row (ex:=BY z 2) (by rw[List.append_assoc];exact hl.g) ho (by rw[List.length_append,hl.len,hl.mlen,Nat.succ_mul])
end
section
variable {P:Program} {t e:TypeId} {w b:Nat} {z:Value} {h:AA}
theorem Q5 (ht:P.underlying t=some (.slice e)) (he:BN P e=some w) (hb:GW P e=some b) (hz:DC P e=some z) (hzc:z.cells.size=w) (hzf:flat z=true) (hw:0<w) (hbb:b≤64) {n:Nat} (hn:n<4000000000000) :
  HB P h t (iv (n:Int)) (iv (n:Int))=some (qS h.next n n,h.push (.row (BY z.cells.toList n) e false false)):=by
 simp only[HB,ht,he,hz,hb]
 have hmul:(b:Int)*(n:Int)≤64*(n:Int):=Int.mul_le_mul_of_nonneg_right (by omega) (by omega)
 rw[if_pos (by simp[hzf,hzc,hw];omega)]
 simp
theorem wL (ht:P.underlying t=some (.slice e)) (he:BN P e=some w) {id n m c:Nat} {lo:Nat} {v:Value} {cs R:List Value} {ty:TypeId} {g:Bool} (hv:AM lo h v n w cs) (hone:cs.all one=true) (hw:0<w) (hg:h.get id=.row R ty g false) (hR:R.length=m*w) (hn:n≤m) (hid:id<h.next) (hf:h.floor≤id) :
  ∃ h',K9 P h t (qS id m c) v=some (iv (n:Int),h')∧h'.get id=.row (cs++R.drop (n*w)) ty g false∧h'.next=h.next∧h'.floor=h.floor∧∀ i,i≠id→h'.get i=h.get i:=by
 have hsrc:=hv.src
 have hcl:=hv.1
 obtain⟨_,a,c',rfl,_⟩:=hv
 have hm:min n m=n:=by omega
 by_cases h0:n=0
 ·refine⟨h,?_,?_,rfl,rfl,fun _ _=>rfl⟩
  ·simp only[K9,ht,he,hm,hsrc]
   rw[if_pos h0]
  ·subst h0
   rw[Nat.zero_mul] at hcl
   rw[List.length_eq_zero_iff.1 hcl,Nat.zero_mul,List.drop_zero]
   exact hg
 ·have hle:n*w≤m*w:=Nat.mul_le_mul_right w hn
  refine⟨_,?_,B0 rfl hid,rfl,rfl,fun i hi=>AX hid (Ne.symm hi)⟩
  simp only[K9,ht,he,hm,hsrc,GB,hg]
  rw[if_neg h0,if_pos (by simp only[hone,hcl,hR,Bool.and_true,Nat.zero_add,Bool.and_eq_true,decide_eq_true_eq];omega)]
  have:Go.Sx.lay R 0 cs=cs++R.drop (n*w):=by simp only[Go.Sx.lay,List.take_zero,List.nil_append,Nat.zero_add,hcl]
  rw[this]
theorem dU (ht:P.underlying t=some (.slice e)) (he:BN P e=some w) (hb:GW P e=some b) (hz:DC P e=some z) (hzc:z.cells.size=w) (hzf:flat z=true) (hw:0<w) (hbb:b≤64) {lo n k:Nat} {v:Value} {cs:List Value} (hv:AM lo h v n w cs) (hone:cs.all one=true) (hn:n+k<4000000000000) (hfl:h.floor≤h.next) :
  ∃ h1,HB P h t (iv ((n+k:Nat):Int)) (iv ((n+k:Nat):Int))=some (qS h.next (n+k) (n+k),h.push (.row (BY z.cells.toList (n+k)) e false false)) ∧
   K9 P (h.push (.row (BY z.cells.toList (n+k)) e false false)) t (qS h.next (n+k) (n+k)) v=some (iv (n:Int),h1) ∧
   h1.get h.next=.row (cs++BY z.cells.toList k) e false false∧h1.next=h.next+1∧h1.floor=h.floor∧∀ i,i<h.next→h1.get i=h.get i:=by
 have hzl:z.cells.toList.length=w:=by simpa using hzc
 obtain⟨h1,e1,e2,e3,e4,e5⟩:=wL (h:=h.push (.row (BY z.cells.toList (n+k)) e false false)) (m:=n+k) (c:=n+k) ht he (hv.mono (by rw[BZ];omega) fun i _ hi=>AQ hi) hone hw BM (by rw[RL,hzl]) (by omega) (by rw[BZ];omega) hfl
 refine⟨h1,Q5 ht he hb hz hzc hzf hw hbb hn,e1,?_,e3,e4,fun i hi=>by rw[e5 i (by omega),AQ hi]⟩
 rw[e2,fY,List.drop_left' (by rw[RL,hzl])]
end
def aY:List (Bool × Bool × List Operand):=[AR,AR,AR,AR,AH [.tmp 19],AH [.tmp 19],AH [.tmp 19],AH [.tmp 19],AL]
section
variable {call:AN} {N:Nat} {h:AA}
theorem Ll (hsn:CD call) {va vb:Value} {A B:List Int} {la lb:Nat} (ha:AT la h va A) (hb:AT lb h vb B) (hN:A.length+3<N) (hl:A.length<30000000000000):A7 Tryd.prog call N 22 [va,vb] h=some (.bool (decide (A=B)),h):=by
 refine DL Tryd.func22 rfl (by simp[Tryd.f22]) ?_
 have hr:Tryd.f22.results.toList=[.tmp 4]:=rfl
 have lA:=fun h'=>JY ha h'
 have lB:=fun h'=>JY hb h'
 cases d:((A.length:Int) != (B.length:Int)) with
 | true=>
  have hne:A≠B:=fun e=>by subst e;simp at d
  rw[decide_eq_false hne]
  simp only[eE,↓reduceIte,Nat.reduceEqDiff,reduceCtorEq,↓eP,hr,lA,lB,d]
 | false=>
  have hlen:A.length=B.length:=by
   have h9:(A.length:Int)=(B.length:Int):=by simpa using d
   omega
  simp only[eE,↓reduceIte,Nat.reduceEqDiff,reduceCtorEq,↓eP,lA,lB,d]
  refine WK.loop (fun i s'=>s'.T.get 0=va∧s'.T.get 1=vb∧s'.T.get 5=iv i∧s'.h=h∧i≤A.length∧∀ j,j<i→A[j]?=B[j]?) A.length (by omega) ?_ ?_
  ·simp only[eE,↓reduceIte,Nat.reduceEqDiff,reduceCtorEq,↓eP,rP,Nat.reduceAdd,Nat.reduceLT]
   exact⟨rfl,fun j hj=>by omega⟩
  ·rintro i ⟨T1,H1⟩ hi ⟨t0,t1,t5,hh,hil,hsame⟩
   simp only at t0 t1 t5 hh
   subst hh
   by_cases hlt:i<A.length
   ·have c1:decide ((i:Int)<(A.length:Int))=true:=by simp;omega
    obtain⟨x,hx⟩:∃ x,A[i]?=some x:=⟨_,List.getElem?_eq_getElem hlt⟩
    obtain⟨y,hy⟩:∃ y,B[i]?=some y:=⟨_,List.getElem?_eq_getElem (by omega)⟩
    obtain⟨ida,pa,ea,_,xa⟩:=AT.get ha hx
    obtain⟨idb,pb,eb,_,xb⟩:=AT.get hb hy
    have w1:=ET i (by omega)
    simp only[eE,seval,↓eP,t0,t5,lA,c1]
    refine WK.flags (fs:=aY) (by kernel_rfl) ?_
    unfold aY
    iterate 9
     refine EE hsn ?_
     simp only[rG,seval,AC,AF,AE,CZ,DY,CQ,DI,EB,t0,t5,ea,AV,xa,t1,eb,xb,R6]
    refine D_ ?_
    cases e:(x != y) with
    | true=>
     have hne:A≠B:=fun h9=>by
      subst h9
      rw[hx] at hy
      cases hy
      simp at e
     rw[decide_eq_false hne]
     simp only[eE,seval,↓eP,hr]
    | false=>
     have hxy:x=y:=by simpa using e
     simp only[eE,seval,↓eP,t0,t1,t5,w1]
     refine⟨by omega,by omega,fun j hj=>?_⟩
     rcases Nat.lt_or_ge j i with h1 | h1
     ·exact hsame j h1
     ·have:j=i:=by omega
      subst this
      rw[hx,hy,hxy]
   ·have c1:decide ((i:Int)<(A.length:Int))=false:=by simp;omega
    have:i=A.length:=by omega
    subst this
    have hAB:A=B:=UH hlen hsame
    rw[decide_eq_true hAB]
    simp only[eE,seval,↓eP,hr,t0,t5,lA,c1]
end
section
variable {call:AN} {N:Nat} {h:AA}
end
section
variable {call:AN} {N:Nat} {h:AA}
end
section
variable {call:AN} {N:Nat} {h:AA}
end
section
variable {n:Nat} {h:AA} {va vb:Value}
theorem UQ {A:List Int} {la lb:Nat} (ha:AT la h va A) (hb:AT lb h vb A) (hl:A.length<2932031007403) (hn:A.length+5<n):AU n 22 [va,vb] h=some (.bool true,h):=by
 obtain⟨n,rfl⟩:=DJ hn
 have:=Ll (N:=n) (FT n).2 ha hb (by omega) (by omega)
 rw[decide_eq_true rfl] at this
 exact EN (BX ⟨rfl,rfl,rfl⟩) rfl this
end
theorem cP {h:AA} {a:Option Addr} {n c:Nat}:CX Tryd.prog h 27 (.slice a n c)=some (iv (n:Int)):=by simp[CX,Tryd.underlying27]
def LI (i:Nat):Int:=-77-(i:Int)
structure N1 (h:AA) (o:Nat) (l L:List Int):Prop where
 g:h.get o=.row (ints L) 3 false false
 len:L.length=l.length+5
 own:∀ j,j<l.length→L[j]?=l[j]?
 marks:∀ q,q<5→L[l.length+q]?=some (LI (l.length+q))
theorem N1.cells {h:AA} {o:Nat} {l L:List Int} (hl:N1 h o l L) {lo c:Nat} (ho:lo≤o∧o<h.next):AT lo h (qS o l.length c) l:=by
 have e:L=l++L.drop l.length:=by
  apply List.ext_getElem?
  intro j
  rcases Nat.lt_or_ge j l.length with h1 | h1
  ·rw[List.getElem?_append_left h1,hl.own j h1]
  ·rw[List.getElem?_append_right h1,List.getElem?_drop]
   congr 1
   omega
 have g:=hl.g
 rw[e] at g
 have g':h.get o=.row (ints l++ints (L.drop l.length)) 3 false false:=by rw[g];simp[ints]
 exact AM.row g' ho (by rw[F7];omega)
section
variable {call:AN} {N n:Nat} {h:AA}
theorem z9 {l:List Int} {v:Value} {lo:Nat} (hv:AT lo h v l) (hl:l.length<2932031007403) (hfl:h.floor≤h.next) (hN:12<N) :
  ∃ h',A7 Tryd.prog call N 45 [v] h=some (qS h.next l.length (l.length+5),h')∧((∃ L,N1 h' h.next l L)∧h'.next=h.next+1∧h'.floor=h.floor∧∀ i,i<h.next→h'.get i=h.get i):=by
 refine EH (R:=fun h'=>(∃ L,N1 h' h.next l L)∧h'.next=h.next+1∧h'.floor=h.floor∧∀ i,i<h.next→h'.get i=h.get i) Tryd.func45 rfl (by simp[Tryd.f45]) ?_
 have hr:Tryd.f45.results.toList=[.tmp 2]:=rfl
 have hlen:=fun h'=>JY hv h'
 have w9:IntKind.i64.wrap ((l.length:Int)+5)=((l.length+5:Nat):Int):=C7 (by omega) (by omega)
 obtain⟨H1,hmk,hcp,g1,n1,f1,o1⟩:=dU (P:=Tryd.prog) (t:=27) (e:=3) (k:=5) (z:=.int .i64 0) Tryd.underlying27 CP JC GO rfl rfl (by decide) (by decide) hv (OS l) (by omega) hfl
 have hlen9:∀ h':AA,CX Tryd.prog h' 27 (qS h.next (l.length+5) (l.length+5))=some (iv ((l.length+5:Nat):Int)):=fun h'=>cP
 have hsl:=fun (H:AA)=>bE (P:=Tryd.prog) (h:=H) (t:=27) (e:=3) (id:=h.next) (n:=l.length+5) (m:=l.length) (c:=l.length+5) Tryd.underlying27 CP (by omega) (by unfold AP;omega)
 simp only[eE,seval,↓eP,hlen,w9,hmk,hcp]
 refine WK.loop (fun k s'=>s'.T.get 0=v∧s'.T.get 3=qS h.next (l.length+5) (l.length+5)∧s'.T.get 4=iv ((l.length+k:Nat):Int)∧k≤5∧s'.h.next=h.next+1∧s'.h.floor=h.floor∧(∀ i,i<h.next→s'.h.get i=h.get i) ∧
  ∃ L:List Int,s'.h.get h.next=.row (ints L) 3 false false∧L.length=l.length+5∧(∀ j,j<l.length→L[j]?=l[j]?)∧∀ q,q<k→L[l.length+q]?=some (LI (l.length+q))) 5 (by omega) ?_ ?_
 ·refine⟨by simp only[eE,seval,↓eP,rP],by simp only[eE,seval,↓eP,rP],by simp only[eE,seval,↓eP,rP];rfl,by omega,n1,f1,o1,l++List.replicate 5 0,?_,by simp,fun j hj=>by rw[List.getElem?_append_left hj],fun q hq=>by omega⟩
  show H1.get h.next=_
  rw[g1]
  have:BY (Value.int IntKind.i64 0).cells.toList 5=ints (List.replicate 5 0):=RZ 5
  rw[this]
  simp[ints]
 ·rintro k ⟨T1,H2⟩ hk ⟨t0,t3,t4,hk9,n2,f2,o2,L,gL,lL,own,marks⟩
  simp only at t0 t3 t4 n2 f2 o2 gL
  by_cases hlt:k<5
  ·have c1:decide (((l.length+k:Nat):Int)<((l.length+5:Nat):Int))=true:=by simp;omega
   have hix:=FL (id:=h.next) (n:=l.length+5) (c:=l.length+5) (i:=l.length+k) (by omega)
   have w2:IntKind.i64.wrap (-77-((l.length+k:Nat):Int))=LI (l.length+k):=C7 (by omega) (by omega)
   have hst:A9 Tryd.prog H2 3 (qP h.next (l.length+k)) (iv (LI (l.length+k)))=some (H2.put h.next (.row (ints (L.set (l.length+k) (LI (l.length+k)))) 3 false false)):=LH gL (by omega) (by omega)
   have w1:IntKind.i64.wrap (((l.length+k:Nat):Int)+1)=((l.length+(k+1):Nat):Int):=C7 (by omega) (by omega)
   simp only[eE,seval,↓eP,t0,t3,t4,hlen9,c1,w2,hix,hst,w1]
   refine⟨hlt,by omega,n2,f2,fun i hi=>by rw[AX (by omega) (by omega)];exact o2 i hi,_,B0 rfl (by omega),by rw[List.length_set];exact lL,fun j hj=>?_,fun q hq=>?_⟩
   ·rw[List.getElem?_set_ne (by omega)]
    exact own j hj
   ·rcases Nat.lt_or_ge q k with h1 | h1
    ·rw[List.getElem?_set_ne (by omega)]
     exact marks q h1
    ·have:q=k:=by omega
     subst this
     rw[List.getElem?_set_self (by omega)]
  ·have c1:decide (((l.length+k:Nat):Int)<((l.length+5:Nat):Int))=false:=by simp;omega
   have:k=5:=by omega
   subst this
   simp only[eE,seval,↓eP,hr,t0,t3,t4,hlen,hlen9,c1,hsl]
   exact⟨⟨L,gL,lL,own,marks⟩,n2,f2,o2⟩
theorem zF {l:List Int} {v:Value} {lo:Nat} (hv:AT lo h v l) (hl:l.length<2932031007403) (hfl:h.floor≤h.next) (hn:20<n) :
  ∃ h',AU n 45 [v] h=some (qS h.next l.length (l.length+5),h')∧((∃ L,N1 h' h.next l L)∧h'.next=h.next+1∧h'.floor=h.floor∧∀ i,i<h.next→h'.get i=h.get i):=by
 obtain⟨n,rfl⟩:=DJ hn
 exact QR (BX ⟨rfl,rfl,rfl⟩) rfl (z9 hv hl hfl (by omega))
end
section
variable {call:AN} {N n:Nat} {h:AA}
end
theorem LM:BN Tryd.prog 29=some 2:=by kernel_rfl
theorem Ak:FM Tryd.prog 29=some true:=by kernel_rfl
section
variable {h:AA} {id off:Nat}
theorem EI:EL Tryd.prog h 29 (qP id off)=AW 2 off (h.get id):=M3 Ak LM
theorem L4:BJ Tryd.prog 29 (qP id off) 0=some (qP id off):=by simp[BJ,Tryd.underlying29,CP,CK]
theorem OO:BJ Tryd.prog 29 (qP id off) 1=some (qP id (off+1)):=by simp[BJ,Tryd.underlying29,LU,CK]
end
def EF (lo:Nat) (h:AA) (v:Value) (size:Int) (C:List Int):Prop:=∃ vc,v=.agg #[iv size,vc]∧AT lo h vc C
theorem EF.mono {lo:Nat} {h h':AA} {v:Value} {size:Int} {C:List Int} (hc:EF lo h v size C) (hn:h.next≤h'.next) (hg:∀ i,lo≤i→i<h.next→h'.get i=h.get i):EF lo h' v size C:=by
 obtain⟨vc,h1,h2⟩:=hc
 exact⟨vc,h1,AT.mono h2 hn hg⟩
structure UM (h:AA) (b:Nat) (v:Value) (size:Int) (C:List Int):Prop where
 v:v=.agg #[iv size,qS b C.length (C.length+5)]
 lt:b<h.next
 l:∃ L,N1 h b C L
theorem UM.mono {h h':AA} {b:Nat} {v:Value} {size:Int} {C:List Int} (hl:UM h b v size C) (hn:h.next≤h'.next) (hg:h'.get b=h.get b):UM h' b v size C:=by
 obtain⟨hv,hlt,⟨L,hL⟩⟩:=hl
 exact⟨hv,by omega,L,by rw[hg];exact hL.g,hL.len,hL.own,hL.marks⟩
section
variable {n N:Nat} {h:AA}
end
def pB (i:Nat):AB:=⟨-9,ByteArray.empty,0,i,0⟩
theorem yC {i:Int}:C1 Tryd.prog 61 [(0,iv (-9)),(3,iv i)]=some (CH ⟨-9,ByteArray.empty,0,i,0⟩):=by
 have h:=WG
 rw[Tryd.underlying61] at h
 simp only at h
 have hf:flat (.agg #[.int .i64 0,.string ByteArray.empty,.int .i64 0,.int .i64 0,.int .i64 0])=true:=rfl
 simp only[C1,FY,hf,if_true,Tryd.underlying61,h]
 rfl
theorem Bl {nm:ByteArray} {m:Int}:C1 Tryd.prog 33 [(0,.string nm),(7,iv m)]=some (.agg #[.string nm,Z0,Z0,Z0,Z0,Z0,Z0,iv m]):=by
 have h:=X0
 rw[Tryd.underlying33] at h
 simp only at h
 simp only[C1,LY,LX,if_true,Tryd.underlying33,h]
 rfl
structure Y9 (h:AA) (o:Nat) (l L:List AB):Prop where
 g:h.get o=.row (L.flatMap AZ) 61 false false
 len:L.length=l.length+9
 own:∀ j,j<l.length→L[j]?=l[j]?
 marks:∀ q,q<9→L[l.length+q]?=some (pB (l.length+q))
structure L9 (h:AA) (b:Nat) (v:Value) (nm:ByteArray) (s:AK):Prop where
 v:v=.agg #[.string nm,qS b s.rows.length (s.rows.length+9),qS (b+1) s.queues.length (s.queues.length+3),qS (b+2) s.vars.length (s.vars.length+3),qS (b+3) s.tags.length (s.tags.length+3),qS (b+4) s.rules.length (s.rules.length+5),qS (b+5) s.on.length (s.on.length+5),iv s.miss]
 lt:b+5<h.next
 r:∃ L,Y9 h b s.rows L
 q:h.get (b+1)=.row (C9 s.queues++BY [.string ByteArray.empty,.bool false] 3) 102 false false
 w:h.get (b+2)=.row (DA s.vars++BY [.string ByteArray.empty] 3) 9 false false
 t:h.get (b+3)=.row (DA s.tags++BY [.string ByteArray.empty] 3) 9 false false
 u:∃ L,N1 h (b+4) s.rules L
 o:∃ L,N1 h (b+5) s.on L
theorem Y9.cells {h:AA} {o:Nat} {l L:List AB} (hl:Y9 h o l L) {lo c:Nat} (ho:lo≤o∧o<h.next):HC lo h (qS o l.length c) l:=by
 have e:L=l++L.drop l.length:=by
  apply List.ext_getElem?
  intro j
  rcases Nat.lt_or_ge j l.length with h1 | h1
  ·rw[List.getElem?_append_left h1,hl.own j h1]
  ·rw[List.getElem?_append_right h1,List.getElem?_drop]
   congr 1
   omega
 have g:=hl.g
 rw[e] at g
 have g':h.get o=.row (l.flatMap AZ++(L.drop l.length).flatMap AZ) 61 false false:=by rw[g,List.flatMap_append]
 exact HC.of (AM.row g' ho (IW l))
theorem L9.pol {h:AA} {b:Nat} {v:Value} {nm:ByteArray} {s:AK} (hl:L9 h b v nm s):CB b h v nm s:=by
 obtain⟨hv,hlt,⟨L1,r⟩,q,w,t,⟨L2,u⟩,⟨L3,o⟩⟩:=hl
 have qn:∀ l:List (ByteArray × Bool),(C9 l).length=l.length*2:=fun l=>by
  unfold C9
  induction l with
  | nil=>rfl
  | cons x l ih=>rw[List.flatMap_cons,List.length_append,ih,List.length_cons];simp only[List.length_cons,List.length_nil];omega
 have ql:=qn s.queues
 exact⟨_,_,_,_,_,_,hv,r.cells ⟨by omega,by omega⟩,AM.row q ⟨by omega,by omega⟩ ql,AM.row w ⟨by omega,by omega⟩ (by simp[DA]),AM.row t ⟨by omega,by omega⟩ (by simp[DA]),u.cells ⟨by omega,by omega⟩,o.cells ⟨by omega,by omega⟩⟩
section
variable {t e:TypeId} {w b:Nat} {z:Value} {H:AA}
theorem aH (ht:Tryd.prog.underlying t=some (.slice e)) (he:BN Tryd.prog e=some w) (hb:GW Tryd.prog e=some b) (hz:DC Tryd.prog e=some z) (hzc:z.cells.size=w) (hzf:flat z=true) (hw:0<w) (hbb:b≤64) (hst:BN Tryd.prog t=some 1)
  {lo n k D slot:Nat} {v:Value} {c cs:List Value} {ty:TypeId} (hv:AM lo H v n w c) (hone:c.all one=true) (hn:n+k<4000000000000) (hfl:H.floor≤D) (hD:D<H.next) (hg:H.get D=.row cs ty false false) (hs:slot<cs.length) :
  ∃ Hc H',HB Tryd.prog H t (iv ((n+k:Nat):Int)) (iv ((n+k:Nat):Int))=some (qS H.next (n+k) (n+k),H.push (.row (BY z.cells.toList (n+k)) e false false)) ∧
   K9 Tryd.prog (H.push (.row (BY z.cells.toList (n+k)) e false false)) t (qS H.next (n+k) (n+k)) v=some (iv (n:Int),Hc)∧Hc.get D=.row cs ty false false∧Hc.get H.next=.row (c++BY z.cells.toList k) e false false∧Hc.next=H.next+1∧Hc.floor=H.floor∧(∀ i,i<H.next→Hc.get i=H.get i) ∧
   HL Tryd.prog Hc t (qS H.next (n+k) (n+k)) none (some (iv (n:Int))) none=some (qS H.next n (n+k)) ∧
   A9 Tryd.prog Hc t (qP D slot) (qS H.next n (n+k))=some H'∧H'.get D=.row (cs.set slot (qS H.next n (n+k))) ty false false∧H'.next=H.next+1∧H'.floor=H.floor∧∀ i,i≠D→H'.get i=Hc.get i:=by
 obtain⟨Hc,m1,m2,m3,m4,m5,m6⟩:=dU (k:=k) ht he hb hz hzc hzf hw hbb hv hone hn (by omega)
 have gD:Hc.get D=.row cs ty false false:=by rw[m6 D hD];exact hg
 have hst1:=HD (v:=qS H.next n (n+k)) hst rfl rfl gD hs (by omega)
 exact⟨Hc,_,m1,m2,gD,m3,m4,m5,m6,bE ht he (by omega) (by unfold AP;omega),hst1,B0 rfl (by omega),m4,m5,fun i hi=>AX (by omega) (Ne.symm hi)⟩
theorem iH {H:AA} {n:Nat} {lo D slot:Nat} {v:Value} {l:List Int} {cs:List Value} {ty:TypeId} (hv:AT lo H v l) (hl:l.length<2932031007403) (hfl:H.floor≤D) (hD:D<H.next) (hg:H.get D=.row cs ty false false) (hs:slot<cs.length) (hn:20<n) :
  ∃ Hc H' L,AU n 45 [v] H=some (qS H.next l.length (l.length+5),Hc)∧N1 H' H.next l L∧(∀ i,i<H.next→Hc.get i=H.get i) ∧
   A9 Tryd.prog Hc 27 (qP D slot) (qS H.next l.length (l.length+5))=some H'∧H'.get D=.row (cs.set slot (qS H.next l.length (l.length+5))) ty false false∧H'.next=H.next+1∧H'.floor=H.floor∧∀ i,i≠D→i<H.next→H'.get i=H.get i:=by
 obtain⟨Hc,m,⟨L,hL⟩,n',f',o'⟩:=zF (n:=n) hv hl (by omega) hn
 have gE:Hc.get D=.row cs ty false false:=(o' D hD).trans hg
 have hst:=HD (v:=qS H.next l.length (l.length+5)) (off:=slot) LU rfl rfl gE hs (by omega)
 exact⟨Hc,_,L,m,⟨by rw[AX (by omega) (by omega)];exact hL.g,hL.len,hL.own,hL.marks⟩,o',hst,B0 rfl (by omega),n',f',fun i hi h2=>by rw[AX (by omega) (Ne.symm hi)];exact o' i h2⟩
end
section
variable {n N:Nat} {h:AA}
theorem Jv {nm:ByteArray} {s:AK} {pv:Value} {lo:Nat} (hp:CB lo h pv nm s) (hs:IE s) (hl:E6 s<30000000000000) (hfl:h.floor≤h.next) (hN:20<N) (hn:30<n) :
  ∃ v' h',A7 Tryd.prog (AU n) N 24 [pv] h=some (v',h')∧L9 h' (h.next+3) v' nm s∧h'.next=h.next+9∧h'.floor=h.floor∧∀ i,i<h.next→h'.get i=h.get i:=by
 refine UL (R:=fun v' h'=>L9 h' (h.next+3) v' nm s∧h'.next=h.next+9∧h'.floor=h.floor∧∀ i,i<h.next→h'.get i=h.get i) Tryd.func24 rfl (by simp[Tryd.f24]) ?_
 have hr:Tryd.f24.results.toList=[.cell 2 33]:=rfl
 obtain⟨vr,vq,vv,vt,vu,vo,rfl,p1,p2,p3,p4,p5,p6⟩:=id hp
 have ca:=E3 [.string nm,vr,vq,vv,vt,vu,vo,iv s.miss]
 have oa:=I6 (nm:=nm) p1 p2 p3 p4 p5 p6
 obtain⟨gA,gZ,nA,fA,gO⟩:=R5 h (.row [.string nm,vr,vq,vv,vt,vu,vo,iv s.miss] 33 false false) (.row CY 33 false false)
 simp only[eE,seval,↓eP,FU,FB,Fsx,ca,oa,HM,LY,LX,N2]
 generalize (h.push (.row [.string nm,vr,vq,vv,vt,vu,vo,iv s.miss] 33 false false)).push (.row CY 33 false false)=A at *
 have q0:AJ 0 (A.get h.next)=some (.string nm):=by rw[gA];rfl
 have q1:AJ 1 (A.get h.next)=some vr:=by rw[gA];rfl
 have q7:AJ 7 (A.get h.next)=some (iv s.miss):=by rw[gA];rfl
 have hst3:=I5 (t:=33) HM (h:=A.push (.row CY 33 false false)) (id:=A.next) (vs:=[.string nm,Z0,Z0,Z0,Z0,Z0,Z0,iv s.miss]) (BM (h:=A)) rfl rfl rfl (by rw[IV];omega)
 have hst3':A9 Tryd.prog (A.push (.row CY 33 false false)) 33 (qP A.next 0) (.agg #[.string nm,Z0,Z0,Z0,Z0,Z0,Z0,iv s.miss])=some ((A.push (.row CY 33 false false)).put A.next (.row [.string nm,Z0,Z0,Z0,Z0,Z0,Z0,iv s.miss] 33 false false)):=hst3
 simp only[eE,seval,↓eP,Nat.zero_add,MI,KL,GQ,AV,q0,q7,Bl,LY,LX,N2,hst3']
 have gB:((A.push (.row CY 33 false false)).put A.next (.row [.string nm,Z0,Z0,Z0,Z0,Z0,Z0,iv s.miss] 33 false false)).get A.next=.row [.string nm,Z0,Z0,Z0,Z0,Z0,Z0,iv s.miss] 33 false false:=B0 rfl (by show A.next<A.next+1;omega)
 have oB:∀ i,i<A.next→((A.push (.row CY 33 false false)).put A.next (.row [.string nm,Z0,Z0,Z0,Z0,Z0,Z0,iv s.miss] 33 false false)).get i=A.get i:=fun i hi=>by rw[AX (by show A.next<A.next+1;omega) (by omega),AQ hi]
 have nB:((A.push (.row CY 33 false false)).put A.next (.row [.string nm,Z0,Z0,Z0,Z0,Z0,Z0,iv s.miss] 33 false false)).next=A.next+1:=rfl
 have fB:((A.push (.row CY 33 false false)).put A.next (.row [.string nm,Z0,Z0,Z0,Z0,Z0,Z0,iv s.miss] 33 false false)).floor=A.floor:=rfl
 generalize (A.push (.row CY 33 false false)).put A.next (.row [.string nm,Z0,Z0,Z0,Z0,Z0,Z0,iv s.miss] 33 false false)=B at *
 generalize hcs:[.string nm,Z0,Z0,Z0,Z0,Z0,Z0,iv s.miss]=cs0 at *
 have l0:cs0.length=8:=by rw[← hcs];rfl
 have P1:AM lo B vr s.rows.length 5 (s.rows.flatMap AZ):=p1.2.mono (by omega) fun i _ hi=>by rw[oB i (by omega),gO i hi]
 obtain⟨H1,mk1,cp1,g1,n1,f1,o1⟩:=dU (P:=Tryd.prog) (t:=26) (e:=61) (k:=9) (z:=CH K5) Tryd.underlying26 GJ R3 FY rfl rfl (by decide) (by decide) P1 (TN s.rows) (by have:=hs.1;omega) (by omega)
 have len1:=fun h'=>NT p1.2 h'
 have hl1:=hs.1
 have qB1:AJ 1 (B.get h.next)=some vr:=by rw[oB _ (by omega)];exact q1
 have w9:IntKind.i64.wrap ((s.rows.length:Int)+9)=((s.rows.length+9:Nat):Int):=C7 (by omega) (by omega)
 have P_:∀ h':AA,CX Tryd.prog h' 26 (qS B.next (s.rows.length+9) (s.rows.length+9))=some (iv ((s.rows.length+9:Nat):Int)):=fun h'=>SY
 have qp:∀ r,AJ 1 ((B.push r).get h.next)=some vr:=fun r=>by rw[AQ (by omega)];exact qB1
 have q11:AJ 1 (H1.get h.next)=some vr:=by rw[o1 _ (by omega)];exact qB1
 simp only[eE,seval,↓eP,Nat.zero_add,CJ,CL,qB1,len1,w9,mk1,qp,cp1,q11]
 refine WK.loop (fun k s'=>s'.T.get 1=qP h.next 0∧s'.T.get 2=qP (h.next+1) 0∧s'.T.get 3=qP A.next 0∧s'.T.get 4=qS B.next (s.rows.length+9) (s.rows.length+9)∧s'.T.get 5=iv ((s.rows.length+k:Nat):Int)∧k≤9∧s'.h.next=B.next+1∧s'.h.floor=h.floor∧(∀ i,i<B.next→s'.h.get i=B.get i) ∧
  ∃ L:List AB,s'.h.get B.next=.row (L.flatMap AZ) 61 false false∧L.length=s.rows.length+9∧(∀ j,j<s.rows.length→L[j]?=s.rows[j]?)∧∀ q,q<k→L[s.rows.length+q]?=some (pB (s.rows.length+q))) 9 (by omega) ?_ ?_
 ·refine⟨by simp only[eE,seval,↓eP,rP],by simp only[eE,seval,↓eP,rP],by simp only[eE,seval,↓eP,rP],by simp only[eE,seval,↓eP,rP],by simp only[eE,seval,↓eP,rP];rfl,by omega,n1,f1.trans (by omega),o1,s.rows++List.replicate 9 K5,?_,by simp,fun j hj=>by rw[List.getElem?_append_left hj],fun q hq=>by omega⟩
  show H1.get B.next=_
  have zz:BY (CH K5).cells.toList 9=(List.replicate 9 K5).flatMap AZ:=cI 9
  rw[g1,zz,List.flatMap_append]
 rintro k ⟨T1,H2⟩ hk ⟨t1,t2,t3,t4,t5,hk9,n2,f2,o2,L,gL,lL,own,marks⟩
 simp only at t1 t2 t3 t4 t5 n2 f2 o2 gL
 by_cases hlt:k<9
 ·have c1:decide (((s.rows.length+k:Nat):Int)<((s.rows.length+9:Nat):Int))=true:=by simp;omega
  have hix:=hJ (id:=B.next) (n:=s.rows.length+9) (c:=s.rows.length+9) (i:=s.rows.length+k) (by omega)
  have hst:=Dk (h:=H2) (i:=s.rows.length+k) (x:=⟨-9,ByteArray.empty,0,((s.rows.length+k:Nat):Int),0⟩) rfl gL (by omega) (by omega)
  have w1:IntKind.i64.wrap (((s.rows.length+k:Nat):Int)+1)=((s.rows.length+(k+1):Nat):Int):=C7 (by omega) (by omega)
  simp only[eE,seval,↓eP,t1,t2,t3,t4,t5,P_,c1,yC,hix,hst,w1]
  refine⟨hlt,by omega,n2,f2,fun i hi=>by rw[AX (by omega) (by omega)];exact o2 i hi,_,B0 rfl (by omega),by rw[List.length_set];exact lL,fun j hj=>?_,fun q hq=>?_⟩
  ·rw[List.getElem?_set_ne (by omega)]
   exact own j hj
  ·rcases Nat.lt_or_ge q k with h1 | h1
   ·rw[List.getElem?_set_ne (by omega)]
    exact marks q h1
   ·have:q=k:=by omega
    subst this
    rw[List.getElem?_set_self (by omega)]
    rfl
 have c1:decide (((s.rows.length+k:Nat):Int)<((s.rows.length+9:Nat):Int))=false:=by simp;omega
 have:k=9:=by omega
 subst this
 have hs0:=hs
 unfold E6 at hl
 obtain⟨r1,r2,r3,r4,r5,r6⟩:=hs
 have q21:AJ 1 (H2.get h.next)=some vr:=by rw[o2 _ (by omega)];exact qB1
 have gD2:H2.get A.next=.row cs0 33 false false:=by rw[o2 _ (by omega)];exact gB
 have hsl1:=fun (H:AA)=>bE (P:=Tryd.prog) (h:=H) (t:=26) (e:=61) (id:=B.next) (n:=s.rows.length+9) (m:=s.rows.length) (c:=s.rows.length+9) Tryd.underlying26 GJ (by omega) (by unfold AP;omega)
 have hst1:=HD (v:=qS B.next s.rows.length (s.rows.length+9)) (off:=1) i6 rfl rfl gD2 (by omega) (by omega)
 simp only[eE,seval,↓eP,Nat.zero_add,t1,t3,t4,t5,P_,c1,CJ,CL,q21,len1,hsl1,hst1]
 have gD3:(H2.put A.next (.row (cs0.set 1 (qS B.next s.rows.length (s.rows.length+9))) 33 false false)).get A.next=.row (cs0.set 1 (qS B.next s.rows.length (s.rows.length+9))) 33 false false:=B0 rfl (by omega)
 have n3:(H2.put A.next (.row (cs0.set 1 (qS B.next s.rows.length (s.rows.length+9))) 33 false false)).next=H2.next:=rfl
 have f3:(H2.put A.next (.row (cs0.set 1 (qS B.next s.rows.length (s.rows.length+9))) 33 false false)).floor=H2.floor:=rfl
 have o3:∀ i,i≠A.next→(H2.put A.next (.row (cs0.set 1 (qS B.next s.rows.length (s.rows.length+9))) 33 false false)).get i=H2.get i:=fun i hi=>AX (by omega) (Ne.symm hi)
 generalize H2.put A.next (.row (cs0.set 1 (qS B.next s.rows.length (s.rows.length+9))) 33 false false)=H3 at *
 have z3:∀ i,i<A.next→H3.get i=A.get i:=fun i hi=>by rw[o3 i (by omega),o2 i (by omega),oB i hi]
 have w3:∀ m:Nat,m<2932031007403→IntKind.i64.wrap ((m:Int)+3)=((m+3:Nat):Int):=fun m hm=>C7 (by omega) (by omega)
 have len2:=fun h'=>U_ p2 h'
 have a2:AJ 2 (A.get h.next)=some vq:=by rw[gA];rfl
 have P2:AM lo H3 vq s.queues.length 2 (C9 s.queues):=p2.mono (by omega) fun i _ hi=>by rw[z3 i (by omega),gO i hi]
 obtain⟨G2,H4,m21,m22,m23,m24,m25,m26,m27,m28,m29,g4,n4,f4,o4⟩:=aH (k:=3) (slot:=2) (D:=A.next) (t:=30) (e:=102) (z:=.agg #[.string ByteArray.empty,.bool false]) Tryd.underlying30 QT tE RK rfl rfl (by decide) (by decide) ZH P2 (fR s.queues) (by omega) (by omega) (by omega) gD3 (by simp only[List.length_set];omega)
 have b2:AJ 2 (H3.get h.next)=some vq:=by rw[z3 _ (by omega)];exact a2
 have d2:∀ r,AJ 2 ((H3.push r).get h.next)=some vq:=fun r=>by rw[AQ (by omega)];exact b2
 have e2:AJ 2 (G2.get h.next)=some vq:=by rw[m27 _ (by omega)];exact b2
 simp only[eE,seval,↓eP,Nat.zero_add,t1,t3,GM,GG,b2,len2,w3 s.queues.length (by omega),m21,d2,m22,e2,m28,m29]
 have z4:∀ i,i<A.next→H4.get i=A.get i:=fun i hi=>by rw[o4 i (by omega),m27 i (by omega),z3 i hi]
 have gD4:=g4
 have len3:=fun h'=>XC p3 h'
 have a3:AJ 3 (A.get h.next)=some vv:=by rw[gA];rfl
 have P3:AM lo H4 vv s.vars.length 1 (DA s.vars):=p3.mono (by omega) fun i _ hi=>by rw[z4 i (by omega),gO i hi]
 obtain⟨G3,H5,m31,m32,m33,m34,m35,m36,m37,m38,m39,g5,n5,f5,o5⟩:=aH (k:=3) (slot:=3) (D:=A.next) (t:=31) (e:=9) (z:=.string ByteArray.empty) Tryd.underlying31 M4 WJ TC rfl rfl (by decide) (by decide) Q6 P3 (XI s.vars) (by omega) (by omega) (by omega) gD4 (by simp only[List.length_set];omega)
 have b3:AJ 3 (H4.get h.next)=some vv:=by rw[z4 _ (by omega)];exact a3
 have d3:∀ r,AJ 3 ((H4.push r).get h.next)=some vv:=fun r=>by rw[AQ (by omega)];exact b3
 have e3:AJ 3 (G3.get h.next)=some vv:=by rw[m37 _ (by omega)];exact b3
 simp only[eE,seval,↓eP,Nat.zero_add,t1,t3,K7,KF,b3,len3,w3 s.vars.length (by omega),m31,d3,m32,e3,m38,m39]
 have z5:∀ i,i<A.next→H5.get i=A.get i:=fun i hi=>by rw[o5 i (by omega),m37 i (by omega),z4 i hi]
 have gD5:=g5
 have len4:=fun h'=>XC p4 h'
 have a4:AJ 4 (A.get h.next)=some vt:=by rw[gA];rfl
 have P4:AM lo H5 vt s.tags.length 1 (DA s.tags):=p4.mono (by omega) fun i _ hi=>by rw[z5 i (by omega),gO i hi]
 obtain⟨G4,H6,m41,m42,m43,m44,m45,m46,m47,m48,m49,g6,n6,f6,o6⟩:=aH (k:=3) (slot:=4) (D:=A.next) (t:=31) (e:=9) (z:=.string ByteArray.empty) Tryd.underlying31 M4 WJ TC rfl rfl (by decide) (by decide) Q6 P4 (XI s.tags) (by omega) (by omega) (by omega) gD5 (by simp only[List.length_set];omega)
 have b4:AJ 4 (H5.get h.next)=some vt:=by rw[z5 _ (by omega)];exact a4
 have d4:∀ r,AJ 4 ((H5.push r).get h.next)=some vt:=fun r=>by rw[AQ (by omega)];exact b4
 have e4:AJ 4 (G4.get h.next)=some vt:=by rw[m47 _ (by omega)];exact b4
 simp only[eE,seval,↓eP,Nat.zero_add,t1,t3,KW,KF,b4,len4,w3 s.tags.length (by omega),m41,d4,m42,e4,m48,m49]
 have z6:∀ i,i<A.next→H6.get i=A.get i:=fun i hi=>by rw[o6 i (by omega),m47 i (by omega),z5 i hi]
 have gD6:=g6
 have a5:AJ 5 (A.get h.next)=some vu:=by rw[gA];rfl
 have P5:AT lo H6 vu s.rules:=AT.mono p5 (by omega) fun i _ hi=>by rw[z6 i (by omega),gO i hi]
 obtain⟨G5,H7,L5,m5,l5,_,m58,gD7,n7,f7,o7⟩:=iH (n:=n) (slot:=5) P5 (by omega) (by omega) (by omega) gD6 (by simp only[List.length_set];omega) (by omega)
 have b5:AJ 5 (H6.get h.next)=some vu:=by rw[z6 _ (by omega)];exact a5
 simp only[eE,seval,↓eP,Nat.zero_add,t1,t3,KY,DG,b5,m5,m58]
 have z7:∀ i,i<A.next→H7.get i=A.get i:=fun i hi=>by rw[o7 i (by omega) (by omega),z6 i hi]
 have a6:AJ 6 (A.get h.next)=some vo:=by rw[gA];rfl
 have P6:AT lo H7 vo s.on:=AT.mono p6 (by omega) fun i _ hi=>by rw[z7 i (by omega),gO i hi]
 obtain⟨G6,H8,L6,m6,l6,_,m68,gD8,n8,f8,o8⟩:=iH (n:=n) (slot:=6) P6 (by omega) (by omega) (by omega) gD7 (by simp only[List.length_set];omega) (by omega)
 have b6:AJ 6 (H7.get h.next)=some vo:=by rw[z7 _ (by omega)];exact a6
 simp only[eE,seval,↓eP,Nat.zero_add,t3,K4,DG,b6,m6,m68]
 have z8:∀ i,i<A.next→H8.get i=A.get i:=fun i hi=>by rw[o8 i (by omega) (by omega),z7 i hi]
 have lC:AW 8 0 (H8.get A.next)=some (.agg #[.string nm,qS B.next s.rows.length (s.rows.length+9),qS H3.next s.queues.length (s.queues.length+3),qS H4.next s.vars.length (s.vars.length+3),qS H5.next s.tags.length (s.tags.length+3),qS H6.next s.rules.length (s.rules.length+5),qS H7.next s.on.length (s.on.length+5),iv s.miss]):=by
  rw[KQ gD8 (by simp only[List.length_set];omega),← hcs]
  rfl
 have gZ8:H8.get (h.next+1)=.row CY 33 false false:=by rw[z8 _ (by omega)];exact gZ
 have hstW:=I5 (t:=33) HM (h:=H8) (vs:=[.string nm,qS B.next s.rows.length (s.rows.length+9),qS H3.next s.queues.length (s.queues.length+3),qS H4.next s.vars.length (s.vars.length+3),qS H5.next s.tags.length (s.tags.length+3),qS H6.next s.rules.length (s.rules.length+5),qS H7.next s.on.length (s.on.length+5),iv s.miss]) gZ8 rfl rfl rfl (by omega)
 have hstW':A9 Tryd.prog H8 33 (qP (h.next+1) 0) (.agg #[.string nm,qS B.next s.rows.length (s.rows.length+9),qS H3.next s.queues.length (s.queues.length+3),qS H4.next s.vars.length (s.vars.length+3),qS H5.next s.tags.length (s.tags.length+3),qS H6.next s.rules.length (s.rules.length+5),qS H7.next s.on.length (s.on.length+5),iv s.miss])=_:=hstW
 have gF:(H8.put (h.next+1) (.row [.string nm,qS B.next s.rows.length (s.rows.length+9),qS H3.next s.queues.length (s.queues.length+3),qS H4.next s.vars.length (s.vars.length+3),qS H5.next s.tags.length (s.tags.length+3),qS H6.next s.rules.length (s.rules.length+5),qS H7.next s.on.length (s.on.length+5),iv s.miss] 33 false false)).get (h.next+1)=_:=B0 rfl (by omega)
 have oF:∀ i,i≠h.next+1→(H8.put (h.next+1) (.row [.string nm,qS B.next s.rows.length (s.rows.length+9),qS H3.next s.queues.length (s.queues.length+3),qS H4.next s.vars.length (s.vars.length+3),qS H5.next s.tags.length (s.tags.length+3),qS H6.next s.rules.length (s.rules.length+5),qS H7.next s.on.length (s.on.length+5),iv s.miss] 33 false false)).get i=H8.get i:=fun i hi=>AX (by omega) (Ne.symm hi)
 have lF:=KQ gF rfl
 have nF:(H8.put (h.next+1) (.row [.string nm,qS B.next s.rows.length (s.rows.length+9),qS H3.next s.queues.length (s.queues.length+3),qS H4.next s.vars.length (s.vars.length+3),qS H5.next s.tags.length (s.tags.length+3),qS H6.next s.rules.length (s.rules.length+5),qS H7.next s.on.length (s.on.length+5),iv s.miss] 33 false false)).next=H8.next:=rfl
 have fF:(H8.put (h.next+1) (.row [.string nm,qS B.next s.rows.length (s.rows.length+9),qS H3.next s.queues.length (s.queues.length+3),qS H4.next s.vars.length (s.vars.length+3),qS H5.next s.tags.length (s.tags.length+3),qS H6.next s.rules.length (s.rules.length+5),qS H7.next s.on.length (s.on.length+5),iv s.miss] 33 false false)).floor=H8.floor:=rfl
 simp only[eE,seval,↓eP,hr,t2,CT,lC,hstW',lF]
 generalize H8.put (h.next+1) _=F at *
 have e3:H3.next=h.next+4:=by omega
 have e4:H4.next=h.next+5:=by omega
 have e5:H5.next=h.next+6:=by omega
 have e6:H6.next=h.next+7:=by omega
 have e7:H7.next=h.next+8:=by omega
 have e2:B.next=h.next+3:=by omega
 refine⟨⟨by rw[e2,e3,e4,e5,e6,e7],by omega,⟨L,?_,lL,own,marks⟩,?_,?_,?_,⟨L5,?_,l5.len,l5.own,l5.marks⟩,⟨L6,?_,l6.len,l6.own,l6.marks⟩⟩,by omega,by omega,fun i hi=>by rw[oF i (by omega),z8 i (by omega),gO i hi]⟩
 ·rw[← e2,oF _ (by omega),o8 _ (by omega) (by omega),o7 _ (by omega) (by omega),o6 _ (by omega),m47 _ (by omega),o5 _ (by omega),m37 _ (by omega),o4 _ (by omega),m27 _ (by omega),o3 _ (by omega)]
  exact gL
 ·have:h.next+3+1=H3.next:=by omega
  rw[this,oF _ (by omega),o8 _ (by omega) (by omega),o7 _ (by omega) (by omega),o6 _ (by omega),m47 _ (by omega),o5 _ (by omega),m37 _ (by omega),o4 _ (by omega)]
  exact m24
 ·have:h.next+3+2=H4.next:=by omega
  rw[this,oF _ (by omega),o8 _ (by omega) (by omega),o7 _ (by omega) (by omega),o6 _ (by omega),m47 _ (by omega),o5 _ (by omega)]
  exact m34
 ·have:h.next+3+3=H5.next:=by omega
  rw[this,oF _ (by omega),o8 _ (by omega) (by omega),o7 _ (by omega) (by omega),o6 _ (by omega)]
  exact m44
 ·have:h.next+3+4=H6.next:=by omega
  rw[this,oF _ (by omega),o8 _ (by omega) (by omega)]
  exact l5.g
 ·have:h.next+3+5=H7.next:=by omega
  rw[this,oF _ (by omega)]
  exact l6.g
theorem kS {nm:ByteArray} {s:AK} {pv:Value} {lo:Nat} (hp:CB lo h pv nm s) (hs:IE s) (hl:E6 s<30000000000000) (hfl:h.floor≤h.next) (hn:40<n) :
  ∃ v' h',AU n 24 [pv] h=some (v',h')∧L9 h' (h.next+3) v' nm s∧h'.next=h.next+9∧h'.floor=h.floor∧∀ i,i<h.next→h'.get i=h.get i:=by
 obtain⟨n,rfl⟩:=DJ hn
 refine PM (BX ⟨rfl,rfl,rfl⟩) (Jv (n:=n) (N:=n) hp hs hl hfl (by omega) (by omega)) fun v' h1 hf _ ht=>?_
 rw[ht.1.v] at hf
 cases hf
end
theorem Hb {P:Program} {t e:TypeId} {w id n c i:Nat} (ht:P.underlying t=some (.slice e)) (he:BN P e=some w) (hi:i<n):CM P t (qS id n c) (iv (i:Int))=some (.pointer (some ⟨id,i*w,none⟩)):=by
 simp only[CM,ht,he,CK]
 rw[if_pos (by omega)]
 simp
theorem TI {H:AA} {id:Nat} {a b c d e f g i:Value} {ty:TypeId} {x y:Bool} (hg:H.get id=.row [a,b,c,d,e,f,g,i] ty x y):AJ 0 (H.get id)=some a∧AJ 1 (H.get id)=some b∧AJ 2 (H.get id)=some c∧AJ 3 (H.get id)=some d∧AJ 4 (H.get id)=some e∧AJ 5 (H.get id)=some f∧AJ 6 (H.get id)=some g∧AJ 7 (H.get id)=some i:=by
 rw[hg]
 exact cC
section
variable {n N:Nat} {h:AA}
end
theorem m_:∀ {l:List (ByteArray × Bool)} {k:Nat} {x:ByteArray × Bool},l[k]?=some x→(C9 l)[k*2]?=some (.string x.1)∧(C9 l)[k*2+1]?=some (.bool x.2)
 | [],k,x,h=>by simp at h
 | y :: l,0,x,h=>by
  cases h
  exact⟨rfl,rfl⟩
 | y :: l,k+1,x,h=>by
  have h':l[k]?=some x:=by simpa using h
  have e:C9 (y :: l)=.string y.1 :: .bool y.2 :: C9 l:=rfl
  obtain⟨a,b⟩:=m_ h'
  rw[e]
  refine⟨?_,?_⟩
  ·rw[show (k+1)*2=k*2+1+1 by omega]
   exact a
  ·rw[show (k+1)*2+1=k*2+1+1+1 by omega]
   exact b
theorem tI {l:List (ByteArray × Bool)} {i:Nat} {x:ByteArray × Bool} (hx:l[i]?=some x) {lo:Nat} {h:AA} {v:Value} (hc:AM lo h v l.length 2 (C9 l)):∃ id p,CM Tryd.prog 30 v (iv (i:Int))=some (qP id p)∧id<h.next∧AJ (p+1) (h.get id)=some (.bool x.2):=by
 obtain⟨id,p,h1,h2,h3⟩:=AM.idx hc Tryd.underlying30 QT (List.getElem?_eq_some_iff.1 hx).1
 refine⟨id,p,h1,h2,?_⟩
 rw[h3 1 (by decide)]
 exact(m_ hx).2
theorem bS {size:Int} {C:List Int} {Q:List (ByteArray × Bool)} (h:size<1∨size>1048576∨C.length≠Q.length):LW size C Q=false:=by
 unfold LW
 rw[if_pos h]
theorem ZY {size:Int} {C:List Int} {Q:List (ByteArray × Bool)} (h:IQ size (HT C Q) 0 0=none):LW size C Q=false:=by
 unfold LW
 split
 ·rfl
 ·rw[h]
theorem Ln {size r o:Int} {C:List Int} {Q:List (ByteArray × Bool)} (h1:1≤size) (h2:size≤1048576) (h3:C.length=Q.length) (h:IQ size (HT C Q) 0 0=some (r,o)):LW size C Q=decide (min size r+o≤4194304):=by
 unfold LW
 rw[if_neg (by omega),h]
theorem zZ (a b:Int):(if b<a then b else a)=min a b:=by
 by_cases h:b<a
 ·rw[if_pos h];omega
 ·rw[if_neg h];omega
section
variable {n N:Nat} {h:AA}
theorem Il {nm:ByteArray} {s:AK} {pv cv:Value} {lo lc:Nat} {size:Int} {C:List Int} (hp:CB lo h pv nm s) (hc:EF lc h cv size C) (hC:C.length<17592186044416) (hQ:s.queues.length<2932031007403) (hN:C.length+10<N) :
  ∃ h',A7 Tryd.prog (AU n) N 39 [pv,cv] h=some (.bool (LW size C s.queues),h')∧∀ i,i<h.next→h'.get i=h.get i:=by
 obtain⟨vr,vq,vv,vt,vu,vo,rfl,p1,p2,p3,p4,p5,p6⟩:=id hp
 obtain⟨vc,rfl,pc⟩:=id hc
 refine EH (R:=fun h'=>∀ i,i<h.next→h'.get i=h.get i) Tryd.func39 rfl (by simp[Tryd.f39]) ?_
 have hr:Tryd.f39.results.toList=[.tmp 4]:=rfl
 have ca:=E3 [.string nm,vr,vq,vv,vt,vu,vo,iv s.miss]
 have oa:=I6 (nm:=nm) p1 p2 p3 p4 p5 p6
 have cb:=E3 [iv size,vc]
 have ob:[iv size,vc].all one=true:=by simp only[List.all_cons,List.all_nil,AM.one pc,JU,Bool.and_self]
 obtain⟨gA,gB,nG,fG,gO⟩:=R5 h (.row [.string nm,vr,vq,vv,vt,vu,vo,iv s.miss] 33 false false) (.row [iv size,vc] 29 false false)
 simp only[eE,seval,↓eP,FU,FB,Fsx,ca,oa,cb,ob,HM,LM]
 generalize (h.push (.row [.string nm,vr,vq,vv,vt,vu,vo,iv s.miss] 33 false false)).push (.row [iv size,vc] 29 false false)=Q at *
 obtain⟨x0,x1,x2,x3,x4,x5,x6,x7⟩:=TI gA
 have y0:AJ 0 (Q.get (h.next+1))=some (iv size):=by rw[gB];rfl
 have y1:AJ 1 (Q.get (h.next+1))=some vc:=by rw[gB];rfl
 have lenC:=fun h'=>JY pc h'
 have lenQ:=fun h'=>U_ p2 h'
 have pq:AM lo Q vq s.queues.length 2 (C9 s.queues):=p2.mono (by omega) fun i _ hi=>gO i hi
 have pC:AT lc Q vc C:=AT.mono pc (by omega) fun i _ hi=>gO i hi
 cases d1:decide (size<1) with
 | true=>
  rw[bS (.inl (by simpa using d1))]
  simp only[eE,seval,↓eP,hr,L4,AV,y0,d1]
  exact gO
 | false=>
 have e1:1≤size:=by simp only[decide_eq_false_iff_not] at d1;omega
 cases d2:decide (size>1048576) with
 | true=>
  rw[bS (.inr (.inl (by simpa using d2)))]
  simp only[eE,seval,↓eP,hr,L4,AV,y0,d1,d2]
  exact gO
 | false=>
 have e2:size≤1048576:=by simp only[decide_eq_false_iff_not] at d2;omega
 cases d3:((C.length:Int) != (s.queues.length:Int)) with
 | true=>
  rw[bS (.inr (.inr (fun h9=>by rw[h9] at d3;simp at d3)))]
  simp only[eE,seval,↓eP,hr,Nat.zero_add,L4,OO,GM,AV,DG,GG,y0,y1,x2,lenC,lenQ,d1,d2,d3]
  exact gO
 | false=>
 have e3:C.length=s.queues.length:=by
  have h9:(C.length:Int)=(s.queues.length:Int):=by simpa using d3
  omega
 simp only[eE,seval,↓eP,Nat.zero_add,L4,OO,GM,AV,DG,GG,y0,y1,x2,lenC,lenQ,d1,d2,d3]
 refine WK.loop (fun i s'=>s'.T.get 2=qP h.next 0∧s'.T.get 3=qP (h.next+1) 0∧s'.T.get 27=vc∧s'.T.get 28=iv (C.length:Int)∧s'.T.get 29=iv (i:Int)∧s'.h=Q∧i≤C.length∧∃ r o:Int,s'.T.get 5=iv r∧s'.T.get 6=iv o∧0≤r∧r≤1048576*(i:Int)∧0≤o∧o≤1048576*(i:Int)∧IQ size ((HT C s.queues).drop i) r o=IQ size (HT C s.queues) 0 0) C.length (by omega) ?_ ?_
 ·exact⟨by simp only[eE,seval,↓eP,rP],by simp only[eE,seval,↓eP,rP],by simp only[eE,seval,↓eP,rP],by simp only[eE,seval,↓eP,rP],by simp only[eE,seval,↓eP,rP] <;> rfl,rfl,by omega,0,0,by simp only[eE,seval,↓eP,rP] <;> rfl,by simp only[eE,seval,↓eP,rP] <;> rfl,by omega,by omega,by omega,by omega,by rw[List.drop_zero]⟩
 rintro i ⟨T1,H1⟩ hi ⟨t2,t3,t27,t28,t29,hh,hil,r,o,t5,t6,r0,r1,o0,o1,hgo⟩
 simp only at t2 t3 t27 t28 t29 t5 t6 hh
 subst hh
 have hbd:1048576*(i:Int)≤1048576*2932031007403:=by omega
 by_cases hlt:i<C.length
 ·have c1:decide ((i:Int)<(C.length:Int))=true:=by simp;omega
  obtain⟨m,hm⟩:∃ m,C[i]?=some m:=⟨_,List.getElem?_eq_getElem hlt⟩
  obtain⟨q,hq⟩:∃ q,s.queues[i]?=some q:=⟨_,List.getElem?_eq_getElem (by omega)⟩
  obtain⟨ida,pa,ea,_,xa⟩:=AT.get pC hm
  obtain⟨idb,pb,eb,_,xb⟩:=tI hq pq
  have w1:=ET i (by omega)
  cases d4:decide (m<1) with
  | true=>
   rw[ZY (by rw[← hgo];exact YS hm hq (.inl (by simpa using d4)))]
   simp only[eE,seval,↓eP,hr,t27,t28,t29,c1,AV,ea,xa,d4]
   exact gO
  | false=>
  have e4:1≤m:=by simp only[decide_eq_false_iff_not] at d4;omega
  cases d5:decide (m>1048576) with
  | true=>
   rw[ZY (by rw[← hgo];exact YS hm hq (.inr (.inl (by simpa using d5))))]
   simp only[eE,seval,↓eP,hr,t27,t28,t29,c1,AV,ea,xa,d4,d5]
   exact gO
  | false=>
  have e5:m≤1048576:=by simp only[decide_eq_false_iff_not] at d5;omega
  have wo:IntKind.i64.wrap (o+m)=o+m:=C7 (by omega) (by omega)
  have wr:IntKind.i64.wrap (r+m)=r+m:=C7 (by omega) (by omega)
  cases d6:q.2 with
  | true=>
   have xb':AJ (pb+1) (H1.get idb)=some (.bool true):=by rw[← d6];exact xb
   simp only[eE,seval,↓eP,hr,Nat.zero_add,t2,t3,t27,t28,t29,t5,t6,c1,GM,NI,AV,GG,FO,x2,ea,xa,eb,d4,d5,xb',wo,w1]
   exact⟨hlt,by omega,r,o+m,rfl,rfl,by omega,by omega,by omega,by omega,by rw[← hgo,Hs hm hq ⟨e4,e5⟩ d6]⟩
  | false=>
  have xb':AJ (pb+1) (H1.get idb)=some (.bool false):=by rw[← d6];exact xb
  cases d7:decide (m>size) with
  | true=>
   rw[ZY (by rw[← hgo];exact YS hm hq (.inr (.inr ⟨d6,by simpa using d7⟩)))]
   simp only[eE,seval,↓eP,hr,Nat.zero_add,t2,t3,t27,t28,t29,c1,L4,GM,NI,AV,GG,FO,y0,x2,ea,xa,eb,d4,d5,xb',d7]
   exact gO
  | false=>
  have e7:m≤size:=by simp only[decide_eq_false_iff_not] at d7;omega
  simp only[eE,seval,↓eP,hr,Nat.zero_add,t2,t3,t27,t28,t29,t5,t6,c1,L4,GM,NI,AV,GG,FO,y0,x2,ea,xa,eb,d4,d5,xb',d7,wr,w1]
  exact⟨hlt,by omega,r+m,o,rfl,rfl,by omega,by omega,by omega,by omega,by rw[← hgo,Nj hm hq ⟨e4,e5⟩ d6 e7]⟩
 have c1:decide ((i:Int)<(C.length:Int))=false:=by simp;omega
 rw[Ln (r:=r) (o:=o) e1 e2 e3 (by rw[← hgo];exact Ge e3 (by omega))]
 have wz:IntKind.i64.wrap ((if r<size then r else size)+o)=(if r<size then r else size)+o:=C7 (by split <;> omega) (by split <;> omega)
 simp only[eE,seval,↓eP,hr,t3,t28,t29,t5,t6,c1,L4,AV,y0,wz]
 rw[zZ]
 exact⟨rfl,gO⟩
theorem Gu {nm:ByteArray} {s:AK} {pv cv:Value} {lo lc:Nat} {size:Int} {C:List Int} (hp:CB lo h pv nm s) (hc:EF lc h cv size C) (hC:C.length<17592186044416) (hQ:s.queues.length<2932031007403) (hn:C.length+20<n):AU n 39 [pv,cv] h=some (.bool (LW size C s.queues),h):=by
 obtain⟨n,rfl⟩:=DJ hn
 exact JR (BX ⟨rfl,rfl,rfl⟩) rfl (Il (n:=n) (N:=n) hp hc hC hQ (by omega))
end
theorem QZ {Q:List (ByteArray × Bool)} {lo:Nat} {h:AA} {v:Value} (hc:AM lo h v Q.length 2 (C9 Q)) {m:Int} (h0:0≤m) (h1:m<Q.length):∃ id p,CM Tryd.prog 30 v (iv m)=some (qP id p)∧id<h.next∧AJ (p+1) (h.get id)=some (.bool (LQ Q m)):=by
 obtain⟨q,hq⟩:∃ q,Q[m.toNat]?=some q:=⟨_,List.getElem?_eq_getElem (by omega)⟩
 obtain⟨id,p,a,b,c⟩:=tI hq hc
 rw[show ((m.toNat:Nat):Int)=m by omega] at a
 refine⟨id,p,a,b,?_⟩
 rw[c]
 unfold LQ
 rw[hq]
 rfl
section
variable {Q:List (ByteArray × Bool)} {x up:AB}
theorem bZ (h:x.kind=8∨x.kind=17∨x.kind=20):JK Q x up=LQ Q x.n:=by
 unfold JK
 rw[if_pos (by rcases h with h | h | h <;> rw[h] <;> rfl)]
theorem sC (h:x.kind=9∨x.kind=21):JK Q x up = !(LQ Q x.n):=by
 unfold JK
 rw[if_neg (by rcases h with h | h <;> rw[h] <;> decide),if_pos (by rcases h with h | h <;> rw[h] <;> rfl)]
theorem Dp (h:x.kind=24) (h2:up.kind=20):JK Q x up = !(LQ Q x.n):=by
 unfold JK
 rw[if_neg (by rw[h];decide),if_neg (by rw[h];decide),if_pos h,if_pos h2]
theorem Fc (h:x.kind=24) (h2:up.kind≠20):JK Q x up=(LQ Q x.n != LQ Q up.n):=by
 unfold JK
 rw[if_neg (by rw[h];decide),if_neg (by rw[h];decide),if_pos h,if_neg h2]
theorem wZ (h:x.kind≠8∧x.kind≠17∧x.kind≠20∧x.kind≠9∧x.kind≠21∧x.kind≠24):JK Q x up=false:=by
 obtain⟨h1,h2,h3,h4,h5,h6⟩:=h
 unfold JK
 rw[if_neg (by simp[h1,h2,h3]),if_neg (by simp[h4,h5]),if_neg h6]
end
theorem KE {t:TypeId} {k:Nat} (ht:BN Tryd.prog t=some k) {H:AA} {vs zs:List Value} (hz:zs.length=k) (hl:vs.length=k) (ho:vs.all one=true) (hf:H.floor≤H.next) :
  ∃ H',A9 Tryd.prog (H.push (.row zs t false false)) t (qP H.next 0) (.agg vs.toArray)=some H'∧H'.get H.next=.row vs t false false∧H'.next=H.next+1∧H'.floor=H.floor∧∀ i,i<H.next→H'.get i=H.get i:=
 ⟨_,I5 ht (BM (h:=H)) hz hl ho hf,B0 rfl (by show H.next<H.next+1;omega),rfl,rfl,fun i hi=>by rw[AX (by show H.next<H.next+1;omega) (by omega),AQ hi]⟩
def ZG:List (Bool × Bool × List Operand):=[AR,AR,AH [.tmp 44],AH [.tmp 44],AR,AR,AR,AH [.tmp 44,.tmp 46,.tmp 49],AH [.tmp 44,.tmp 46,.tmp 49],AH [.tmp 44,.tmp 46,.tmp 49,.tmp 51],AH [.tmp 44,.tmp 46,.tmp 49,.tmp 51],AH [.tmp 44,.tmp 46,.tmp 49],AH [.tmp 44,.tmp 46,.tmp 49],AH [.tmp 44,.tmp 46,.tmp 49],AL,AL]
section
variable {n N:Nat} {h:AA}
theorem yE {nm:ByteArray} {s:AK} {pv:Value} {lo:Nat} {x up:AB} (hp:CB lo h pv nm s) (hx:[8,17,20,9,21,24].contains x.kind=true→0≤x.n∧x.n<s.queues.length) (hu:x.kind=24→up.kind≠20→0≤up.n∧up.n<s.queues.length) :
  ∃ h',A7 Tryd.prog (AU n) N 42 [pv,CH x,CH up] h=some (.bool (JK s.queues x up),h')∧∀ i,i<h.next→h'.get i=h.get i:=by
 obtain⟨vr,vq,vv,vt,vu,vo,rfl,p1,p2,p3,p4,p5,p6⟩:=id hp
 have hsn:=(FT n).2
 refine EH (R:=fun h'=>∀ i,i<h.next→h'.get i=h.get i) Tryd.func42 rfl (by simp[Tryd.f42]) ?_
 have hr:Tryd.f42.results.toList=[.tmp 6]:=rfl
 have ca:=E3 [.string nm,vr,vq,vv,vt,vu,vo,iv s.miss]
 have oa:=I6 (nm:=nm) p1 p2 p3 p4 p5 p6
 have cx:(CH x).cells.toList=AZ x:=rfl
 have ox:(AZ x).all one=true:=rfl
 have cu:(CH up).cells.toList=AZ up:=rfl
 have ou:(AZ up).all one=true:=rfl
 obtain⟨gA,gX,gU,nG,fG,gO⟩:=UI h (.row [.string nm,vr,vq,vv,vt,vu,vo,iv s.miss] 33 false false) (.row (AZ x) 61 false false) (.row (AZ up) 61 false false)
 simp only[eE,seval,↓eP,FU,FB,Fsx,ca,oa,cx,ox,cu,ou,HM,GJ]
 generalize ((h.push (.row [.string nm,vr,vq,vv,vt,vu,vo,iv s.miss] 33 false false)).push (.row (AZ x) 61 false false)).push (.row (AZ up) 61 false false)=G at *
 have nn:h.next+1+1=h.next+2:=rfl
 obtain⟨a0,a1,a2,a3,a4,a5,a6,a7⟩:=TI gA
 have x0:AJ 0 (G.get (h.next+1))=some (iv x.kind):=by rw[gX];rfl
 have x3:AJ 3 (G.get (h.next+1))=some (iv x.n):=by rw[gX];rfl
 have u0:AJ 0 (G.get (h.next+2))=some (iv up.kind):=by rw[gU];rfl
 have u3:AJ 3 (G.get (h.next+2))=some (iv up.n):=by rw[gU];rfl
 have pq:AM lo G vq s.queues.length 2 (C9 s.queues):=p2.mono (by omega) fun i _ hi=>gO i hi
 cases c8:(x.kind==8) with
 | true=>
  have k:=beq_iff_eq.1 c8
  obtain⟨h1,h2⟩:=hx (by rw[k];rfl)
  obtain⟨id,p,e1,e2,e3⟩:=QZ pq h1 h2
  rw[bZ (.inl k)]
  simp only[eE,seval,↓eP,hr,nn,Nat.zero_add,GI,AV,GM,GG,NI,FO,a2,x0,x3,c8,e1,e3]
  exact gO
 | false=>
 cases c17:(x.kind==17) with
 | true=>
  have k:=beq_iff_eq.1 c17
  obtain⟨h1,h2⟩:=hx (by rw[k];rfl)
  obtain⟨id,p,e1,e2,e3⟩:=QZ pq h1 h2
  rw[bZ (.inr (.inl k))]
  simp only[eE,seval,↓eP,hr,nn,Nat.zero_add,GI,AV,GM,GG,NI,FO,a2,x0,x3,c8,c17,e1,e3]
  exact gO
 | false=>
 cases c20:(x.kind==20) with
 | true=>
  have k:=beq_iff_eq.1 c20
  obtain⟨h1,h2⟩:=hx (by rw[k];rfl)
  obtain⟨id,p,e1,e2,e3⟩:=QZ pq h1 h2
  rw[bZ (.inr (.inr k))]
  simp only[eE,seval,↓eP,hr,nn,Nat.zero_add,GI,AV,GM,GG,NI,FO,a2,x0,x3,c8,c17,c20,e1,e3]
  exact gO
 | false=>
 cases c9:(x.kind==9) with
 | true=>
  have k:=beq_iff_eq.1 c9
  obtain⟨h1,h2⟩:=hx (by rw[k];rfl)
  obtain⟨id,p,e1,e2,e3⟩:=QZ pq h1 h2
  rw[sC (.inl k)]
  simp only[eE,seval,↓eP,hr,nn,Nat.zero_add,GI,AV,GM,GG,NI,FO,a2,x0,x3,c8,c17,c20,c9,e1,e3]
  exact gO
 | false=>
 cases c21:(x.kind==21) with
 | true=>
  have k:=beq_iff_eq.1 c21
  obtain⟨h1,h2⟩:=hx (by rw[k];rfl)
  obtain⟨id,p,e1,e2,e3⟩:=QZ pq h1 h2
  rw[sC (.inr k)]
  simp only[eE,seval,↓eP,hr,nn,Nat.zero_add,GI,AV,GM,GG,NI,FO,a2,x0,x3,c8,c17,c20,c9,c21,e1,e3]
  exact gO
 | false=>
 cases c24:(x.kind==24) with
 | false=>
  simp only[beq_eq_false_iff_ne] at c8 c17 c20 c9 c21 c24
  rw[wZ ⟨c8,c17,c20,c9,c21,c24⟩]
  rw[← beq_eq_false_iff_ne] at c8 c17 c20 c9 c21 c24
  simp only[eE,seval,↓eP,hr,nn,x0,c8,c17,c20,c9,c21,c24]
  exact gO
 | true=>
 have k:=beq_iff_eq.1 c24
 obtain⟨h1,h2⟩:=hx (by rw[k];rfl)
 obtain⟨id,p,e1,e2,e3⟩:=QZ pq h1 h2
 cases cu20:(up.kind==20) with
 | true=>
  rw[Dp k (beq_iff_eq.1 cu20)]
  simp only[eE,seval,↓eP,hr,nn,Nat.zero_add,CW,GI,AV,GM,GG,NI,FO,a2,x0,x3,u0,c8,c17,c20,c9,c21,c24,cu20,e1,e3]
  exact gO
 | false=>
 have ku:up.kind≠20:=by simpa using cu20
 obtain⟨h3,h4⟩:=hu k ku
 obtain⟨id2,p2',e4,e5,e6⟩:=QZ pq h3 h4
 rw[Fc k ku]
 simp only[eE,seval,↓eP,nn,CW,AV,x0,u0,c8,c17,c20,c9,c21,c24,cu20]
 refine WK.flags (fs:=ZG) (by kernel_rfl) ?_
 unfold ZG
 iterate 16
  refine EE hsn ?_
  simp only[rG,seval,AC,AF,AE,CZ,DY,CQ,DI,EB,GM,GG,a2,GI,AV,x3,e1,NI,e3,FO,u3,e4,e6,Y8]
 refine D_ ?_
 simp only[eE,seval,↓eP,hr]
 exact gO
theorem Mr {nm:ByteArray} {s:AK} {pv:Value} {lo:Nat} {x up:AB} (hp:CB lo h pv nm s) (hx:[8,17,20,9,21,24].contains x.kind=true→0≤x.n∧x.n<s.queues.length) (hu:x.kind=24→up.kind≠20→0≤up.n∧up.n<s.queues.length) (hn:0<n):AU n 42 [pv,CH x,CH up] h=some (.bool (JK s.queues x up),h):=by
 obtain⟨n,rfl⟩:=DJ hn
 exact JR (BX ⟨rfl,rfl,rfl⟩) rfl (yE (n:=n) (N:=n) hp hx hu)
end
section
variable {n N:Nat} {h:AA}
end
theorem T_ {P:Program} {call:AN} {n:Nat} {c:Code} {s:St} {k:CU} (Q:EM→St→Prop) (h1:WK P call n c s (.top Q)) (h2:∀ e s',Q e s'→k.ap P call n e s'):WK P call n c s k:=WS.mono h1 h2
def DH (l:List Bool):List Value:=l.map (.bool ·)
theorem Lh (l:List Bool):(DH l).length=l.length:=by simp[DH]
theorem mL:GW Tryd.prog 4=some 1:=by kernel_rfl
theorem jF:DC Tryd.prog 4=some (.bool false):=by kernel_rfl
theorem o_ (n:Nat):BY [Value.bool false] n=DH (List.replicate n false):=by
 induction n with
 | zero=>rfl
 | succ n ih=>
  rw[List.replicate_succ]
  show [Value.bool false]++BY [Value.bool false] n=_
  rw[ih]
  rfl
theorem QD {l:List Bool} {i:Nat} {x:Bool} {ty:TypeId} {g ro:Bool} (hx:l[i]?=some x):AJ i (.row (DH l) ty g ro)=some (.bool x):=by simp[AJ,DH,hx]
theorem U4 {h:AA} {id i:Nat} {l:List Bool} {x:Bool} {ty:TypeId} {g:Bool} (hg:h.get id=.row (DH l) ty g false) (hi:i<l.length) (hf:h.floor≤id):A9 Tryd.prog h 4 (qP id i) (.bool x)=some (h.put id (.row (DH (l.set i x)) ty g false)):=by
 have:=HD (v:=.bool x) (off:=i) O4 rfl rfl hg (by rw[Lh];exact hi) hf
 rw[this]
 simp[DH,List.map_set]
theorem TR {id n c i:Nat} (hi:i<n):CM Tryd.prog 76 (qS id n c) (iv (i:Int))=some (qP id i):=by
 have:=Hb (id:=id) (n:=n) (c:=c) (i:=i) Tryd.underlying76 O4 hi
 rwa [Nat.mul_one] at this
structure M8 (h H:AA) (P:List Value) (TP:List Int) (M:GY):Prop where
 p:H.get h.next=.row P 33 false false
 f:H.get (h.next+1)=.row [iv 0,iv 0] 36 false false
 t:H.get (h.next+2)=.row (ints TP) 3 false false
 a:H.get (h.next+3)=.row (ints M.A) 3 false false
 c:H.get (h.next+4)=.row (DH M.C) 4 false false
 u:H.get (h.next+5)=.row (ints M.U) 3 false false
 n:h.next+6≤H.next
 fl:H.floor=h.floor
 o:∀ i,i<h.next→H.get i=h.get i
theorem M8.mono {h H H':AA} {P:List Value} {TP:List Int} {M:GY} (hT:M8 h H P TP M) (hn:H.next≤H'.next) (hf:H'.floor=H.floor) (hg:∀ i,i<h.next+6→H'.get i=H.get i):M8 h H' P TP M:=
 ⟨by rw[hg _ (by omega)];exact hT.p,by rw[hg _ (by omega)];exact hT.f,by rw[hg _ (by omega)];exact hT.t,by rw[hg _ (by omega)];exact hT.a,by rw[hg _ (by omega)];exact hT.c,by rw[hg _ (by omega)];exact hT.u,by have:=hT.n;omega,hf.trans hT.fl,fun i hi=>by rw[hg i (by omega)];exact hT.o i hi⟩
theorem MR {H:AA} {id:Nat} (hg:H.get id=.row [iv 0,iv 0] 36 false false) (hid:id<H.next) (hf:H.floor≤id) (e a:Int) :
  ∃ H',A9 Tryd.prog H 36 (qP id 0) (BG e a)=some H'∧AW 2 0 (H'.get id)=some (BG e a)∧H'.next=H.next∧H'.floor=H.floor∧∀ i,i≠id→H'.get i=H.get i:=
 ⟨_,I5 IP (vs:=[iv e,iv a]) hg rfl rfl rfl hf,by rw[B0 rfl hid];rfl,rfl,rfl,fun i hi=>AX hid (Ne.symm hi)⟩
def TV:List (Bool × Bool × List Operand):=[AL,AL,AL,AL,AL,AL,AR,AR,AR,AR,AH [.tmp 59],AH [.tmp 59],AH [.tmp 59],AH [.tmp 59],AL,AL,AL]
def S2:List (Bool × Bool × List Operand):=[AR,AH [.tmp 1],AH [.tmp 1,.tmp 10],AH [.tmp 1,.tmp 10],AH [.tmp 1,.tmp 10,.tmp 84],AH [.tmp 1,.tmp 10,.tmp 84],AH [.tmp 1,.tmp 10,.tmp 84],AH [.tmp 1,.tmp 10,.tmp 84],AH [.tmp 1,.tmp 10],AH [.tmp 1,.tmp 10],AL,AL]
def S3:List (Bool × Bool × List Operand):=[EU,EU,EU,EU,EU,EU,AR,AR,AH [.tmp 122],AH [.tmp 122],AR,E9 [.tmp 122],E9 [.tmp 122],E9 [.tmp 122],E9 [.tmp 122],AL,AL,AL,AH [.tmp 132],AL,AL,E9 [.tmp 122,.tmp 129,.tmp 132],AL,AL,AL,AL,AL,AL]
def Hq (h H2:AA) (D m i:Nat) (vr:Value) (B:Int) (e:EM) (s':St):Prop:=
 (e=.normal∧s'.h=H2∧s'.T.get 1=qP h.next 0∧s'.T.get 3=qP (h.next+1) 0∧s'.T.get 5=qS (h.next+2) m m∧s'.T.get 6=qS (h.next+3) m m∧s'.T.get 7=qS (h.next+4) m m∧s'.T.get 8=qS (h.next+5) m m∧s'.T.get 37=vr∧s'.T.get 38=iv (m:Int)∧s'.T.get 39=iv (i:Int)∧s'.T.get 9=iv (i:Int)∧s'.T.get 10=qP D 0∧B=0) ∨
  (e=.ret∧s'.T.get 2=Z0∧s'.T.get 3=qP (h.next+1) 0∧B≠0∧AW 2 0 (s'.h.get (h.next+1))=some (BG B i)∧s'.h.floor=h.floor∧h.next≤s'.h.next∧∀ j,j<h.next→s'.h.get j=h.get j)
def G7 (lo:Nat) (h:AA) (v:Value) (l:List Int):Prop:=(v=Z0∧l=[])∨∃ id,v=qS id l.length l.length∧lo≤id∧id<h.next∧h.get id=.row (ints l) 3 false false
theorem G7.ints {lo:Nat} {h:AA} {v:Value} {l:List Int} (ho:G7 lo h v l):AT lo h v l:=by
 rcases ho with⟨rfl,rfl⟩ | ⟨id,rfl,h1,h2,h3⟩
 ·exact AM.nil _ _ _
 ·exact AT.row' h3 ⟨h1,h2⟩ rfl
def eF (h:AA) (lo:Nat) (v:Value) (R:(Int × Int) × List Int):Prop:=∃ tv,v=.tuple #[tv,BG R.1.1 R.1.2]∧G7 lo h tv R.2
theorem Gf {h1:AA} {lo:Nat} {tv:Value} {l:List Int} {e a:Int} (ht:G7 lo h1 tv l) (hf:ED (.tuple #[tv,BG e a])=true) (h:AA):G7 lo h tv l:=by
 rcases ht with h9 | ⟨id,rfl,_⟩
 ·exact .inl h9
 ·simp[ED,flat,BI] at hf
section
variable {n N:Nat} {h:AA}
theorem Ku {nm : ByteArray} {s:AK} {pv:Value} {lo:Nat} (hp:CB lo h pv nm s) (hlies:∀ nm' vr vq vv vt vu vo m,pv=.agg #[.string nm',vr,vq,vv,vt,vu,vo,m]→GS vr s.rows.length) (hs:IE s) (hl:s.rows.length<2932031007403) (hg:h.get 0=CF) (hn0:0<h.next) (hfl:h.floor≤h.next) (hn:2*E6 s+400<n) (hN:s.rows.length+40<N) :
  ∃ v' h',A7 Tryd.prog (AU n) N 19 [pv] h=some (v',h')∧eF h' h.next v' (AS nm s)∧h'.floor=h.floor∧h.next≤h'.next∧∀ i,i<h.next→h'.get i=h.get i:=by
 obtain⟨vr,vq,vv,vt,vu,vo,rfl,p1,p2,p3,p4,p5,p6⟩:=id hp
 have hsn:=(FT n).2
 have htot:E6 s=s.rows.length+s.queues.length+s.vars.length+s.tags.length+s.rules.length+s.on.length:=rfl
 refine UL (R:=fun v' h'=>eF h' h.next v' (AS nm s)∧h'.floor=h.floor∧h.next≤h'.next∧∀ i,i<h.next→h'.get i=h.get i) Tryd.func19 rfl (by simp[Tryd.f19]) ?_
 have hr:Tryd.f19.results.toList=[.tmp 2,.cell 3 36]:=rfl
 have ca:=E3 [.string nm,vr,vq,vv,vt,vu,vo,iv s.miss]
 have oa:=I6 (nm:=nm) p1 p2 p3 p4 p5 p6
 obtain⟨gA,gF,nG,fG,gO⟩:=R5 h (.row [.string nm,vr,vq,vv,vt,vu,vo,iv s.miss] 33 false false) (.row [iv 0,iv 0] 36 false false)
 simp only[eE,seval,↓eP,FU,FB,Fsx,ca,oa,HM,DD,DF,D7]
 generalize (h.push (.row [.string nm,vr,vq,vv,vt,vu,vo,iv s.miss] 33 false false)).push (.row [iv 0,iv 0] 36 false false)=Q at *
 have lA:AW 8 0 (Q.get h.next)=some (.agg #[.string nm,vr,vq,vv,vt,vu,vo,iv s.miss]):=KQ gA rfl
 have x1:AJ 1 (Q.get h.next)=some vr:=by rw[gA];rfl
 have hpQ:CB lo Q (.agg #[.string nm,vr,vq,vv,vt,vu,vo,iv s.miss]) nm s:=hp.mono (by omega) fun i _ hi=>gO i hi
 have hchk:=rV (n:=n) hpQ hlies hs (by omega) (by omega) (by rw[gO 0 hn0];exact hg) (by omega) (by omega)
 cases d1:(FQ nm s != 0) with
 | true=>
  obtain⟨H',s1,s2,s3,s4,s5⟩:=MR gF (by omega) (by omega) (FQ nm s) 0
  have e:AS nm s=((FQ nm s,0),[]):=by unfold AS;rw[if_pos (by simpa using d1)]
  rw[e]
  simp only[eE,seval,↓eP,hr,CT,lA,hchk,d1,QH,s1,CG,s2]
  exact⟨⟨_,rfl,.inl ⟨rfl,rfl⟩⟩,by omega,by omega,fun i hi=>by rw[s5 i (by omega)];exact gO i hi⟩
 | false=>
 have e1:FQ nm s=0:=by simpa using d1
 have hG:=TQ e1
 have eR:AS nm s=EV s.rows s.queues (AD (BD s.rows)) s.rows.length 0:=by unfold AS;rw[if_neg (by rw[e1];decide)]
 rw[eR]
 generalize hZ:BD s.rows=Z at *
 clear hZ eR
 have hsl:=hG.sk.1
 have npos:0<s.rows.length:=by have:=hG.t.pos;omega
 have len1:=fun h'=>NT p1.2 h'
 have LI:∀ H:AA,HB Tryd.prog H 27 (iv (s.rows.length:Int)) (iv (s.rows.length:Int))=some (qS H.next s.rows.length s.rows.length,H.push (.row (ints (List.replicate s.rows.length 0)) 3 false false)):=fun H=>by
  have:=Q5 (P:=Tryd.prog) (h:=H) (t:=27) (e:=3) (z:=.int .i64 0) Tryd.underlying27 CP JC GO rfl rfl (by decide) (by decide) (n:=s.rows.length) (by omega)
  rw[show BY (Value.int IntKind.i64 0).cells.toList s.rows.length=ints (List.replicate s.rows.length 0) from RZ _] at this
  exact this
 have mkB:∀ H:AA,HB Tryd.prog H 76 (iv (s.rows.length:Int)) (iv (s.rows.length:Int))=some (qS H.next s.rows.length s.rows.length,H.push (.row (DH (List.replicate s.rows.length false)) 4 false false)):=fun H=>by
  have:=Q5 (P:=Tryd.prog) (h:=H) (t:=76) (e:=4) (z:=.bool false) Tryd.underlying76 O4 mL jF rfl rfl (by decide) (by decide) (n:=s.rows.length) (by omega)
  rw[show BY (Value.bool false).cells.toList s.rows.length=DH (List.replicate s.rows.length false) from o_ _] at this
  exact this
 have q1:∀ a,AJ 1 ((Q.push a).get h.next)=some vr:=fun a=>by rw[AQ (by omega)];exact x1
 have q2:∀ a b,AJ 1 (((Q.push a).push b).get h.next)=some vr:=fun a b=>by rw[AQ (by show h.next<Q.next+1;omega)];exact q1 a
 have q3:∀ a b c,AJ 1 ((((Q.push a).push b).push c).get h.next)=some vr:=fun a b c=>by rw[AQ (by show h.next<Q.next+2;omega)];exact q2 a b
 have q4:∀ a b c d,AJ 1 (((((Q.push a).push b).push c).push d).get h.next)=some vr:=fun a b c d=>by rw[AQ (by show h.next<Q.next+3;omega)];exact q3 a b c
 have g4:∀ (a b c d:BC),let A:=(((Q.push a).push b).push c).push d
   A.get Q.next=a∧A.get (Q.next+1)=b∧A.get (Q.next+2)=c∧A.get (Q.next+3)=d∧A.next=Q.next+4∧A.floor=Q.floor∧∀ i,i<Q.next→A.get i=Q.get i:=fun a b c d=>
  ⟨by rw[AQ (by show Q.next<Q.next+3;omega),AQ (by show Q.next<Q.next+2;omega)];exact PE,
   by rw[AQ (by show Q.next+1<Q.next+3;omega),AQ (by show Q.next+1<Q.next+2;omega)];exact PK,
   by rw[AQ (by show Q.next+2<Q.next+3;omega)];exact BM (h:=(Q.push a).push b),BM (h:=((Q.push a).push b).push c),rfl,rfl,
   fun i hi=>by rw[AQ (by show i<Q.next+3;omega),AQ (by show i<Q.next+2;omega),AQ (by show i<Q.next+1;omega),AQ hi]⟩
 have h4:=g4 (.row (ints (List.replicate s.rows.length 0)) 3 false false) (.row (ints (List.replicate s.rows.length 0)) 3 false false) (.row (DH (List.replicate s.rows.length false)) 4 false false) (.row (ints (List.replicate s.rows.length 0)) 3 false false)
 simp only[eE,seval,↓eP,CT,lA,hchk,d1,Nat.zero_add,CJ,CL,x1,q1,q2,q3,q4,len1,LI,mkB]
 obtain⟨ga,gb,gc,gd,n4,f4,o4⟩:=h4
 generalize (((Q.push (.row (ints (List.replicate s.rows.length 0)) 3 false false)).push (.row (ints (List.replicate s.rows.length 0)) 3 false false)).push (.row (DH (List.replicate s.rows.length false)) 4 false false)).push (.row (ints (List.replicate s.rows.length 0)) 3 false false)=B at *
 have hT0:M8 h B [.string nm,vr,vq,vv,vt,vu,vo,iv s.miss] (List.replicate s.rows.length 0) (BP s.rows (AD Z) 0):=by
  rw[nG] at ga gb gc gd
  exact⟨by rw[o4 _ (by omega)];exact gA,by rw[o4 _ (by omega)];exact gF,ga,gb,gc,gd,by omega,by omega,fun i hi=>by rw[o4 i (by omega)];exact gO i hi⟩
 refine WK.loop (fun i s'=>s'.T.get 1=qP h.next 0∧s'.T.get 3=qP (h.next+1) 0∧s'.T.get 5=qS (h.next+2) s.rows.length s.rows.length∧s'.T.get 6=qS (h.next+3) s.rows.length s.rows.length∧s'.T.get 7=qS (h.next+4) s.rows.length s.rows.length∧s'.T.get 8=qS (h.next+5) s.rows.length s.rows.length∧s'.T.get 37=vr∧s'.T.get 38=iv (s.rows.length:Int)∧s'.T.get 39=iv (i:Int)∧i≤s.rows.length∧EV s.rows s.queues (AD Z) (s.rows.length-i) i=EV s.rows s.queues (AD Z) s.rows.length 0∧∃ TP:List Int,TP.length=s.rows.length∧(∀ j,j<i→TP[j]?=(s.rows.map (BT ·.kind))[j]?)∧M8 h s'.h [.string nm,vr,vq,vv,vt,vu,vo,iv s.miss] TP (BP s.rows (AD Z) i)) s.rows.length (by omega) ?_ ?_
 ·exact⟨by simp only[eE,seval,↓eP,rP],by simp only[eE,seval,↓eP,rP],by simp only[eE,seval,↓eP,rP,nG],by simp only[eE,seval,↓eP,rP,nG],by simp only[eE,seval,↓eP,rP,nG],by simp only[eE,seval,↓eP,rP,nG],by simp only[eE,seval,↓eP,rP],by simp only[eE,seval,↓eP,rP],by simp only[eE,seval,↓eP,rP] <;> rfl,by omega,rfl,_,by simp,fun j hj=>by omega,hT0⟩
 rintro i ⟨T,H⟩ hi ⟨t1,t3,t5,t6,t7,t8,t37,t38,t39,hil,hgo,TP,hTl,hTP,hT⟩
 simp only at t1 t3 t5 t6 t7 t8 t37 t38 t39 hT
 by_cases hlt:i<s.rows.length
 rotate_left
 ·have c1:decide ((i:Int)<(s.rows.length:Int))=false:=by simp;omega
  have hin:i=s.rows.length:=by omega
  subst hin
  have hTe:TP=s.rows.map (BT ·.kind):=by
   apply List.ext_getElem?
   intro j
   rcases Nat.lt_or_ge j s.rows.length with h1 | h1
   ·exact hTP j h1
   ·rw[List.getElem?_eq_none (by omega),List.getElem?_eq_none (by rw[List.length_map];omega)]
  have hnx:=hT.n
  have hfl':=hT.fl
  obtain⟨H',s1,s2,s3,s4,s5⟩:=MR hT.f (by omega) (by omega) 0 0
  have eG:EV s.rows s.queues (AD Z) s.rows.length 0=((0,0),s.rows.map (BT ·.kind)):=by rw[← hgo,Nat.sub_self];rfl
  rw[eG]
  simp only[eE,seval,↓eP,hr,t3,t5,t38,t39,c1,FR,s1,CG,s2]
  exact⟨⟨_,rfl,.inr ⟨h.next+2,by rw[List.length_map],by omega,by omega,by rw[s5 _ (by omega),← hTe];exact hT.t⟩⟩,by omega,by omega,fun j hj=>by rw[s5 j (by omega)];exact hT.o j hj⟩
 have c1:decide ((i:Int)<(s.rows.length:Int))=true:=by simp;omega
 obtain⟨x,hx⟩:∃ x,s.rows[i]?=some x:=⟨_,List.getElem?_eq_getElem hlt⟩
 obtain⟨r,hr1⟩:∃ r,s.rows.length-i=r+1:=⟨s.rows.length-i-1,by omega⟩
 rw[hr1] at hgo
 have hri:s.rows.length-(i+1)=r:=by omega
 have hnx:=hT.n
 have hfl':=hT.fl
 have hvH:A_ H vr s.rows:=p1.1.mono (by omega) hT.o
 obtain⟨ia,pa,ea,hia,_,_,_,_,_,la⟩:=hvH.row hx
 have fz:flat (CH K5)=true:=rfl
 obtain⟨H1,stX,gX,n1,f1,o1⟩:=KE (t:=61) GJ (H:=H) (zs:=AZ K5) (vs:=AZ x) rfl rfl rfl (by omega)
 have stX':A9 Tryd.prog (H.push (.row (AZ K5) 61 false false)) 61 (qP H.next 0) (CH x)=some H1:=stX
 have hT1:M8 h H1 [.string nm,vr,vq,vv,vt,vu,vo,iv s.miss] TP (BP s.rows (AD Z) i):=hT.mono (by omega) f1 fun j hj=>o1 j (by omega)
 have kx:=hG.ks i x hx
 have ht1:=kD (n:=n) (h:=H1) kx (by omega)
 have y0:AJ 0 (H1.get H.next)=some (iv x.kind):=by rw[gX];rfl
 have ix0:=FL (id:=h.next+2) (n:=s.rows.length) (c:=s.rows.length) (i:=i) hlt
 have st0:A9 Tryd.prog H1 3 (qP (h.next+2) i) (iv (BT x.kind))=some (H1.put (h.next+2) (.row (ints (TP.set i (BT x.kind))) 3 false false)):=LH hT1.t (by omega) (by omega)
 have hT2:M8 h (H1.put (h.next+2) (.row (ints (TP.set i (BT x.kind))) 3 false false)) [.string nm,vr,vq,vv,vt,vu,vo,iv s.miss] (TP.set i (BT x.kind)) (BP s.rows (AD Z) i):=by
  have g:∀ j,j≠h.next+2→(H1.put (h.next+2) (.row (ints (TP.set i (BT x.kind))) 3 false false)).get j=H1.get j:=fun j hj=>AX (by omega) (Ne.symm hj)
  exact⟨by rw[g _ (by omega)];exact hT1.p,by rw[g _ (by omega)];exact hT1.f,B0 rfl (by omega),by rw[g _ (by omega)];exact hT1.a,by rw[g _ (by omega)];exact hT1.c,by rw[g _ (by omega)];exact hT1.u,hT1.n,hT1.fl,fun j hj=>by rw[g j (by omega)];exact hT1.o j hj⟩
 have gX2:(H1.put (h.next+2) (.row (ints (TP.set i (BT x.kind))) 3 false false)).get H.next=.row (AZ x) 61 false false:=by rw[AX (by omega) (by omega)];exact gX
 have n2:(H1.put (h.next+2) (.row (ints (TP.set i (BT x.kind))) 3 false false)).next=H.next+1:=n1
 simp only[S_,seval,↓eP,t38,t39,c1]
 rw[UP]
 simp only[S_,seval,↓eP,t5,t37,t39,ea,IG,la,FY,fz,zr,stX',CW,AV,y0,ht1,ix0,st0]
 have hTl2:(TP.set i (BT x.kind)).length=s.rows.length:=by rw[List.length_set];exact hTl
 have hTP2:∀ j,j<i+1→(TP.set i (BT x.kind))[j]?=(s.rows.map (BT ·.kind))[j]?:=fun j hj=>by
  rcases Nat.lt_or_ge j i with h1 | h1
  ·rw[List.getElem?_set_ne (by omega)]
   exact hTP j h1
  ·have:j=i:=by omega
   subst this
   rw[List.getElem?_set_self (by omega),List.getElem?_map,hx]
   rfl
 generalize H1.put (h.next+2) (.row (ints (TP.set i (BT x.kind))) 3 false false)=H2 at *
 generalize TP.set i (BT x.kind)=TP2 at *
 generalize hD:H.next=D at *
 clear st0 stX stX' y0 ht1 hT1 hT hTP
 obtain⟨m1,m2,m3⟩:=UE (R:=s.rows) (AD Z) i
 obtain⟨a,hA⟩:∃ a,(BP s.rows (AD Z) i).A[i]?=some a:=⟨_,List.getElem?_eq_getElem (by omega)⟩
 obtain⟨c,hC⟩:∃ c,(BP s.rows (AD Z) i).C[i]?=some c:=⟨_,List.getElem?_eq_getElem (by omega)⟩
 obtain⟨u,hU⟩:∃ u,(BP s.rows (AD Z) i).U[i]?=some u:=⟨_,List.getElem?_eq_getElem (by omega)⟩
 have hUb:=p8 (R:=s.rows) (e:=AD Z) rfl npos i (by omega) u (List.mem_of_getElem? hU)
 obtain⟨up,hup⟩:∃ up,s.rows[u.toNat]?=some up:=⟨_,List.getElem?_eq_getElem (by omega)⟩
 have hnx2:=hT2.n
 have hfl2:=hT2.fl
 have lA':AW 8 0 (H2.get h.next)=some (.agg #[.string nm,vr,vq,vv,vt,vu,vo,iv s.miss]):=KQ hT2.p rfl
 have xa1:AJ 1 (H2.get h.next)=some vr:=by rw[hT2.p];rfl
 have y0:AJ 0 (H2.get D)=some (iv x.kind):=by rw[gX2];rfl
 have y4:AJ 4 (H2.get D)=some (iv x.kids):=by rw[gX2];rfl
 have yN:AW 5 0 (H2.get D)=some (CH x):=by rw[gX2];rfl
 have ix1:=FL (id:=h.next+3) (n:=s.rows.length) (c:=s.rows.length) (i:=i) hlt
 have ix2:=TR (id:=h.next+4) (n:=s.rows.length) (c:=s.rows.length) (i:=i) hlt
 have ix3:=FL (id:=h.next+5) (n:=s.rows.length) (c:=s.rows.length) (i:=i) hlt
 have l0:AJ i (H2.get (h.next+2))=some (iv (BT x.kind)):=by
  rw[hT2.t]
  refine NP ?_
  rw[hTP2 i (by omega),List.getElem?_map,hx]
  rfl
 have l1:AJ i (H2.get (h.next+3))=some (iv a):=by rw[hT2.a];exact NP hA
 have l2:AJ i (H2.get (h.next+4))=some (.bool c):=by rw[hT2.c];exact QD hC
 have l3:AJ i (H2.get (h.next+5))=some (iv u):=by rw[hT2.u];exact NP hU
 have hv2:A_ H2 vr s.rows:=p1.1.mono (by omega) hT2.o
 obtain⟨iu,pu,eu,hiu,_,_,_,_,_,lu⟩:=hv2.row hup
 rw[show ((u.toNat:Nat):Int)=u by omega] at eu
 have hvar:=Js (n:=n) (h:=H2) kx (by omega)
 have hp2:CB lo H2 (.agg #[.string nm,vr,vq,vv,vt,vu,vo,iv s.miss]) nm s:=hp.mono (by omega) fun j _ hj=>hT2.o j hj
 have hoth:=Mr (n:=n) (x:=x) (up:=up) hp2 (fun h9=>hG.qn i x hx (Kk h9)) (fun h24 h20=>by
  obtain⟨h0i,up',hup',hU',hrange⟩:=hG.place hx h24
  rw[hU] at hU'
  cases hU'
  rw[show ((i-1:Nat):Int).toNat=i-1 by omega,hup'] at hup
  cases hup
  exact hrange h20) (by omega)
 refine T_ (Hq h H2 D s.rows.length i vr (GZ s.rows s.queues (BP s.rows (AD Z) i) i x)) ?_ ?_
 ·have bad:∀ b:Int,∃ H',A9 Tryd.prog H2 36 (qP (h.next+1) 0) (BG b i)=some H'∧AW 2 0 (H'.get (h.next+1))=some (BG b i)∧H'.floor=h.floor∧h.next≤H'.next∧∀ j,j<h.next→H'.get j=h.get j:=fun b=>by
   obtain⟨H',s1,s2,s3,s4,s5⟩:=MR hT2.f (by omega) (by omega) b i
   exact⟨H',s1,s2,by omega,by omega,fun j hj=>by rw[s5 j (by omega)];exact hT2.o j hj⟩
  rw[UP]
  simp only[eE,seval,↓eP]
  refine T_ (fun e s'=>e=.normal∧s'.h=H2∧s'.T.get 1=qP h.next 0∧s'.T.get 3=qP (h.next+1) 0∧s'.T.get 5=qS (h.next+2) s.rows.length s.rows.length∧s'.T.get 6=qS (h.next+3) s.rows.length s.rows.length∧s'.T.get 7=qS (h.next+4) s.rows.length s.rows.length∧s'.T.get 8=qS (h.next+5) s.rows.length s.rows.length∧s'.T.get 37=vr∧s'.T.get 38=iv (s.rows.length:Int)∧s'.T.get 39=iv (i:Int)∧s'.T.get 9=iv (i:Int)∧s'.T.get 10=qP D 0∧s'.T.get 50=.bool (a != 0&&BT x.kind != a)) ?_ ?_
  ·cases da:(a != 0) with
   | false=>
    refine WK.flags (fs:=TV) (by kernel_rfl) ?_
    unfold TV
    iterate 17
     refine EE hsn ?_
     simp only[rG,seval,AC,AF,AE,CZ,DY,CQ,DI,EB,Option.bind_some,IZ,t6,ix1,l1,AV,da]
    refine D_ ?_
    exact⟨rfl,rfl,by simp only[eE,seval,↓eP,rP,t1],by simp only[eE,seval,↓eP,rP,t3],by simp only[eE,seval,↓eP,rP,t5],by simp only[eE,seval,↓eP,rP,t6],by simp only[eE,seval,↓eP,rP,t7],by simp only[eE,seval,↓eP,rP,t8],by simp only[eE,seval,↓eP,rP,t37],by simp only[eE,seval,↓eP,rP,t38],by simp only[eE,seval,↓eP,rP,t39],by simp only[eE,seval,↓eP,rP],by simp only[eE,seval,↓eP,rP],by simp only[eE,seval,↓eP,rP,Bool.false_and]⟩
   | true=>
    refine WK.flags (fs:=TV) (by kernel_rfl) ?_
    unfold TV
    iterate 17
     refine EE hsn ?_
     simp only[rG,seval,AC,AF,AE,CZ,DY,CQ,DI,EB,Option.bind_some,IZ,t6,ix1,l1,AV,da,t5,ix0,l0]
    refine D_ ?_
    exact⟨rfl,rfl,by simp only[eE,seval,↓eP,rP,t1],by simp only[eE,seval,↓eP,rP,t3],by simp only[eE,seval,↓eP,rP,t5],by simp only[eE,seval,↓eP,rP,t6],by simp only[eE,seval,↓eP,rP,t7],by simp only[eE,seval,↓eP,rP,t8],by simp only[eE,seval,↓eP,rP,t37],by simp only[eE,seval,↓eP,rP,t38],by simp only[eE,seval,↓eP,rP,t39],by simp only[eE,seval,↓eP,rP],by simp only[eE,seval,↓eP,rP],by simp only[eE,seval,↓eP,rP]⟩
  rintro e ⟨T2,HH⟩ ⟨rfl,hh,u1,u3,u5,u6,u7,u8,u37,u38,u39,u9,u10,u50⟩
  simp only at hh u1 u3 u5 u6 u7 u8 u37 u38 u39 u9 u10 u50
  subst hh
  cases d50:(a != 0&&BT x.kind != a) with
  | true=>
   obtain⟨H',s1,s2,s3,s4,s5⟩:=bad 41
   simp only[eE,seval,↓eP,u3,u9,u50,d50,IY,s1]
   simp only[Bool.and_eq_true,bne_iff_ne] at d50
   exact .inr ⟨rfl,by simp only[eE,seval,↓eP,rP],by simp only[eE,seval,↓eP,rP,u3],by rw[TL hA d50.1 d50.2];decide,by rw[TL hA d50.1 d50.2];exact s2,s3,s4,s5⟩
  | false=>
  have n41:¬(a≠0∧BT x.kind≠a):=by
   intro hc
   rw[show (a != 0&&BT x.kind != a)=true by simp[hc.1,hc.2]] at d50
   cases d50
  cases c with
  | false=>
   have b46:=iX (Q:=s.queues) hA n41 hC (x:=x) (by rw[Bool.false_and]) hU hup
   simp only[eE,seval,↓eP,u7,u9,u50,d50,ix2,FO,l2]
   refine WK.flags (fs:=S2) (by kernel_rfl) ?_
   unfold S2
   iterate 12
    refine EE hsn ?_
    simp only[rG,seval,AC,AF,AE,CZ,DY,CQ,DI,EB,Option.bind_some,u1,CT,lA',u10,IG,yN,CJ,CL,xa1,u8,u9,ix3,AV,l3,eu,lu,hoth]
   refine D_ ?_
   cases do_:JK s.queues x up with
   | true=>
    obtain⟨H',s1,s2,s3,s4,s5⟩:=bad 46
    simp only[eE,seval,↓eP,u3,u9,IY,s1]
    exact .inr ⟨rfl,by simp only[eE,seval,↓eP,rP],by simp only[eE,seval,↓eP,rP,u3],by rw[b46,do_];decide,by rw[b46,do_];exact s2,s3,s4,s5⟩
   | false=>
    simp only[eE,seval,↓eP]
    exact .inl ⟨rfl,rfl,by simp only[eE,seval,↓eP,rP,u1],by simp only[eE,seval,↓eP,rP,u3],by simp only[eE,seval,↓eP,rP,u5],by simp only[eE,seval,↓eP,rP,u6],by simp only[eE,seval,↓eP,rP,u7],by simp only[eE,seval,↓eP,rP,u8],by simp only[eE,seval,↓eP,rP,u37],by simp only[eE,seval,↓eP,rP,u38],by simp only[eE,seval,↓eP,rP,u39],by simp only[eE,seval,↓eP,rP,u9],by simp only[eE,seval,↓eP,rP,u10],by rw[b46,do_];rfl⟩
  | true=>
   cases dv:J5 x.kind with
   | true=>
    rw[dv] at hvar
    obtain⟨H',s1,s2,s3,s4,s5⟩:=bad 42
    simp only[eE,seval,↓eP,u3,u7,u9,u10,u50,d50,ix2,FO,l2,CW,AV,y0,hvar,IY,s1]
    exact .inr ⟨rfl,by simp only[eE,seval,↓eP,rP],by simp only[eE,seval,↓eP,rP,u3],by rw[WU hA n41 hC dv];decide,by rw[WU hA n41 hC dv];exact s2,s3,s4,s5⟩
   | false=>
    rw[dv] at hvar
    have b46:=iX (Q:=s.queues) hA n41 hC (x:=x) (by rw[dv,Bool.and_false]) hU hup
    simp only[eE,seval,↓eP,u7,u9,u10,u50,d50,ix2,FO,l2,CW,AV,y0,hvar]
    refine WK.flags (fs:=S2) (by kernel_rfl) ?_
    unfold S2
    iterate 12
     refine EE hsn ?_
     simp only[rG,seval,AC,AF,AE,CZ,DY,CQ,DI,EB,Option.bind_some,u1,CT,lA',u10,IG,yN,CJ,CL,xa1,u8,u9,ix3,AV,l3,eu,lu,hoth]
    refine D_ ?_
    cases do_:JK s.queues x up with
    | true=>
     obtain⟨H',s1,s2,s3,s4,s5⟩:=bad 46
     simp only[eE,seval,↓eP,u3,u9,IY,s1]
     exact .inr ⟨rfl,by simp only[eE,seval,↓eP,rP],by simp only[eE,seval,↓eP,rP,u3],by rw[b46,do_];decide,by rw[b46,do_];exact s2,s3,s4,s5⟩
    | false=>
     simp only[eE,seval,↓eP]
     exact .inl ⟨rfl,rfl,by simp only[eE,seval,↓eP,rP,u1],by simp only[eE,seval,↓eP,rP,u3],by simp only[eE,seval,↓eP,rP,u5],by simp only[eE,seval,↓eP,rP,u6],by simp only[eE,seval,↓eP,rP,u7],by simp only[eE,seval,↓eP,rP,u8],by simp only[eE,seval,↓eP,rP,u37],by simp only[eE,seval,↓eP,rP,u38],by simp only[eE,seval,↓eP,rP,u39],by simp only[eE,seval,↓eP,rP,u9],by simp only[eE,seval,↓eP,rP,u10],by rw[b46,do_];rfl⟩
 rintro e ⟨T3,HH⟩ (⟨rfl,hh,u1,u3,u5,u6,u7,u8,u37,u38,u39,u9,u10,b0⟩ | ⟨rfl,u2,u3,hb0,lF,fF,nF,oF⟩)
 rotate_left
 ·simp only at u2 u3 lF fF nF oF
  have eG:EV s.rows s.queues (AD Z) s.rows.length 0=((GZ s.rows s.queues (BP s.rows (AD Z) i) i x,(i:Int)),[]):=by rw[← hgo];exact rN hx rfl hb0
  rw[eG]
  simp only[eE,seval,↓eP,hr,u2,u3,CG,lF]
  exact⟨⟨_,rfl,.inl ⟨rfl,rfl⟩⟩,fF,nF,oF⟩
 simp only at hh u1 u3 u5 u6 u7 u8 u37 u38 u39 u9 u10
 subst hh
 have hgo2:EV s.rows s.queues (AD Z) (s.rows.length-(i+1)) (i+1)=EV s.rows s.queues (AD Z) s.rows.length 0:=by rw[← hgo,hri];exact(jH hx b0).symm
 have w1:=ET i (by omega)
 obtain⟨k0,hch,hel,hei⟩:=hG.kids0 hx
 have eM:BP s.rows (AD Z) (i+1)=GX i x (BT (((s.rows[i+1]?).map (·.kind)).getD 0)) 0 (BH (AD Z) x.kids.toNat (i+1)) (BP s.rows (AD Z) i):=by
  show JL s.rows (AD Z) i (BP s.rows (AD Z) i)=_
  unfold JL
  rw[hx]
 cases dk:(x.kids==0) with
 | true=>
  have hk0:x.kids.toNat=0:=by have:=beq_iff_eq.1 dk;omega
  have eM0:BP s.rows (AD Z) (i+1)=BP s.rows (AD Z) i:=by rw[eM,hk0];rfl
  simp only[eE,seval,↓eP,u1,u3,u5,u6,u7,u8,u37,u38,u39,u10,Nat.zero_add,VC,AV,y4,dk,w1]
  exact⟨hlt,by omega,hgo2,TP2,hTl2,hTP2,by rw[eM0];exact hT2⟩
 | false=>
 have hk1 : 0 < x.kids := by have:x.kids≠0:=by simpa using dk
                             omega
 have hi1:=hG.next hx hk1
 obtain⟨y,hy⟩:∃ y,s.rows[i+1]?=some y:=⟨_,List.getElem?_eq_getElem hi1⟩
 have ky:=hG.ks _ y hy
 obtain⟨ib,pb,eb,hib,lb,_⟩:=hv2.row hy
 have hty:=kD (n:=n) (h:=HH) ky (by omega)
 obtain⟨zz,hzz,_,hzk⟩:=hG.z hx
 obtain⟨kv,H5,hkids,hkL,f5,n5,o5⟩:=bO (n:=n) hG.t hG.sk hv2 hzz (by omega) (by omega) (by omega)
 rw[← hzk] at hkL
 have hkc:=hkL.ints (Nat.le_refl _)
 have lenK:=fun h'=>JY hkc h'
 have hkl:((BH (AD Z) x.kids.toNat (i+1)).map (fun (k:Nat)=>(k:Int))).length=x.kids.toNat:=by rw[List.length_map,OG]
 rw[hkl,show ((x.kids.toNat:Nat):Int)=x.kids by omega] at lenK
 simp only[eE,seval,↓eP,u1,u9,u10,Nat.zero_add,VC,CW,AV,y4,dk,CJ,CL,xa1,w1,eb,lb,hty,hkids,lenK]
 have eY:((s.rows[i+1]?).map (·.kind)).getD 0=y.kind:=by rw[hy];rfl
 rw[eY] at eM
 have hT5:M8 h H5 [.string nm,vr,vq,vv,vt,vu,vo,iv s.miss] TP2 (BP s.rows (AD Z) i):=hT2.mono (by omega) (by omega) fun j hj=>o5 j (by omega)
 obtain⟨mo1,mo2⟩:=hG.most hx
 have hkn:x.kids.toNat≤s.rows.length:=by have:=IU _ _ _ hch;omega
 refine WK.loop (fun q s'=>s'.T.get 1=qP h.next 0∧s'.T.get 3=qP (h.next+1) 0∧s'.T.get 5=qS (h.next+2) s.rows.length s.rows.length∧s'.T.get 6=qS (h.next+3) s.rows.length s.rows.length∧s'.T.get 7=qS (h.next+4) s.rows.length s.rows.length∧s'.T.get 8=qS (h.next+5) s.rows.length s.rows.length∧s'.T.get 37=vr∧s'.T.get 38=iv (s.rows.length:Int)∧s'.T.get 39=iv (i:Int)∧s'.T.get 9=iv (i:Int)∧s'.T.get 10=qP D 0∧s'.T.get 11=iv (BT y.kind)∧s'.T.get 109=kv∧s'.T.get 110=iv x.kids∧s'.T.get 111=iv (q:Int)∧q≤x.kids.toNat∧H5.next≤s'.h.next∧(∀ j,h.next+6≤j→j<H5.next→s'.h.get j=H5.get j)∧M8 h s'.h [.string nm,vr,vq,vv,vt,vu,vo,iv s.miss] TP2 (GX i x (BT y.kind) 0 ((BH (AD Z) x.kids.toNat (i+1)).take q) (BP s.rows (AD Z) i))) x.kids.toNat (by omega) ?_ ?_
 ·exact⟨by simp only[eE,seval,↓eP,rP,u1],by simp only[eE,seval,↓eP,rP,u3],by simp only[eE,seval,↓eP,rP,u5],by simp only[eE,seval,↓eP,rP,u6],by simp only[eE,seval,↓eP,rP,u7],by simp only[eE,seval,↓eP,rP,u8],by simp only[eE,seval,↓eP,rP,u37],by simp only[eE,seval,↓eP,rP,u38],by simp only[eE,seval,↓eP,rP,u39],by simp only[eE,seval,↓eP,rP,u9],by simp only[eE,seval,↓eP,rP,u10],by simp only[eE,seval,↓eP,rP],by simp only[eE,seval,↓eP,rP],by simp only[eE,seval,↓eP,rP],by simp only[eE,seval,↓eP,rP] <;> rfl,by omega,Nat.le_refl _,fun _ _ _=>rfl,by rw[List.take_zero];exact hT5⟩
 rintro q ⟨T4,H6⟩ hq ⟨wt1,wt3,wt5,wt6,wt7,wt8,wt37,wt38,w39,w9,w10,w11,w109,w110,w111,hqk,n6,o6,hT6⟩
 simp only at wt1 wt3 wt5 wt6 wt7 wt8 wt37 wt38 w39 w9 w10 w11 w109 w110 w111 n6 o6 hT6
 by_cases hql:q<x.kids.toNat
 rotate_left
 ·have c3:decide ((q:Int)<x.kids)=false:=by simp;omega
  simp only[eE,seval,↓eP,wt1,wt3,wt5,wt6,wt7,wt8,wt37,wt38,w39,w110,w111,c3,w1]
  have hq9:q=x.kids.toNat:=by omega
  subst hq9
  have hTk:(BH (AD Z) x.kids.toNat (i+1)).take x.kids.toNat=BH (AD Z) x.kids.toNat (i+1):=List.take_of_length_le (by rw[OG];omega)
  rw[hTk] at hT6
  exact⟨hlt,by omega,hgo2,TP2,hTl2,hTP2,by rw[eM];exact hT6⟩
 have c3:decide ((q:Int)<x.kids)=true:=by simp;omega
 obtain⟨p,hpk⟩:∃ p,(BH (AD Z) x.kids.toNat (i+1))[q]?=some p:=⟨_,List.getElem?_eq_getElem (by rw[OG];exact hql)⟩
 obtain⟨hip,hpl⟩:=hG.kid hx hpk
 have hkc6:AT (h.next+6) H6 kv ((BH (AD Z) x.kids.toNat (i+1)).map (fun (k:Nat)=>(k:Int))):=AT.mono (hkL.ints (by omega)) (by omega) fun j h1 h2=>o6 j h1 h2
 obtain⟨ip,pp,ep,hip2,lp⟩:=AT.get hkc6 (i:=q) (x:=(p:Int)) (by rw[List.getElem?_map,hpk];rfl)
 have w2:=ET q (by omega)
 have eS:=mE (i:=i) (x:=x) (first:=BT y.kind) (BH (AD Z) x.kids.toNat (i+1)) 0 q (BP s.rows (AD Z) i) p hpk
 rw[Nat.zero_add] at eS
 obtain⟨b1,b2,b3⟩:=aG (i:=i) (x:=x) (first:=BT y.kind) ((BH (AD Z) x.kids.toNat (i+1)).take q) 0 (BP s.rows (AD Z) i)
 generalize GX i x (BT y.kind) 0 ((BH (AD Z) x.kids.toNat (i+1)).take q) (BP s.rows (AD Z) i)=Mq at *
 obtain⟨cq,hcq⟩:∃ cq,Mq.C[i]?=some cq:=⟨_,List.getElem?_eq_getElem (by omega)⟩
 have hnx6:=hT6.n
 have hfl6:=hT6.fl
 have z0:AJ 0 (H6.get D)=some (iv x.kind):=by rw[o6 D (by omega) (by omega),o5 D (by omega)];exact y0
 have hask:∀ G:AA,AU n 43 [iv x.kind,iv (q:Int),iv (BT y.kind)] G=some (iv (E_ x.kind q (BT y.kind)),G):=fun G=>xE kx (fun h9=>by have:=mo1 h9;omega) (fun h9=>by have:=mo2 h9;omega) (by omega)
 have hfix:∀ G:AA,AU n 44 [iv x.kind,iv (q:Int)] G=some (.bool (J6 x.kind q),G):=fun G=>Hi (by omega)
 have jx1:=FL (id:=h.next+3) (n:=s.rows.length) (c:=s.rows.length) (i:=p) hpl
 have jx2:=TR (id:=h.next+4) (n:=s.rows.length) (c:=s.rows.length) (i:=p) hpl
 have jx3:=FL (id:=h.next+5) (n:=s.rows.length) (c:=s.rows.length) (i:=p) hpl
 have lc:AJ i (H6.get (h.next+4))=some (.bool cq):=by rw[hT6.c];exact QD hcq
 have hA0:(h.next+4<H6.next)=True:=by simp;omega
 have sa:A9 Tryd.prog H6 3 (qP (h.next+3) p) (iv (E_ x.kind q (BT y.kind)))=some (H6.put (h.next+3) (.row (ints (Mq.A.set p (E_ x.kind q (BT y.kind)))) 3 false false)):=LH hT6.a (by omega) (by omega)
 have na:∀ j,j≠h.next+3→(H6.put (h.next+3) (.row (ints (Mq.A.set p (E_ x.kind q (BT y.kind)))) 3 false false)).get j=H6.get j:=fun j hj=>AX (by omega) (Ne.symm hj)
 have ga1:(H6.put (h.next+3) (.row (ints (Mq.A.set p (E_ x.kind q (BT y.kind)))) 3 false false)).get (h.next+3)=.row (ints (Mq.A.set p (E_ x.kind q (BT y.kind)))) 3 false false:=B0 rfl (by omega)
 have nna:(H6.put (h.next+3) (.row (ints (Mq.A.set p (E_ x.kind q (BT y.kind)))) 3 false false)).next=H6.next:=rfl
 have ffa:(H6.put (h.next+3) (.row (ints (Mq.A.set p (E_ x.kind q (BT y.kind)))) 3 false false)).floor=H6.floor:=rfl
 have fla:(H6.put (h.next+3) (.row (ints (Mq.A.set p (E_ x.kind q (BT y.kind)))) 3 false false)).fl H6.floor=H6.put (h.next+3) (.row (ints (Mq.A.set p (E_ x.kind q (BT y.kind)))) 3 false false):=rfl
 generalize H6.put (h.next+3) (.row (ints (Mq.A.set p (E_ x.kind q (BT y.kind)))) 3 false false)=Ha at *
 have sc:∀ v:Bool,A9 Tryd.prog Ha 4 (qP (h.next+4) p) (.bool v)=some (Ha.put (h.next+4) (.row (DH (Mq.C.set p v)) 4 false false)):=fun v=>U4 (by rw[na _ (by omega)];exact hT6.c) (by omega) (by omega)
 have su:∀ v:Bool,A9 Tryd.prog (Ha.put (h.next+4) (.row (DH (Mq.C.set p v)) 4 false false)) 3 (qP (h.next+5) p) (iv (i:Int))=some ((Ha.put (h.next+4) (.row (DH (Mq.C.set p v)) 4 false false)).put (h.next+5) (.row (ints (Mq.U.set p (i:Int))) 3 false false)):=fun v=>LH (by rw[AX (by omega) (by omega),na _ (by omega)];exact hT6.u) (by omega) (by show Ha.floor≤_;omega)
 have fin:∀ v:Bool,v=(((Mq.C[i]?).getD false)||J6 x.kind q)→M8 h ((Ha.put (h.next+4) (.row (DH (Mq.C.set p v)) 4 false false)).put (h.next+5) (.row (ints (Mq.U.set p (i:Int))) 3 false false)) [.string nm,vr,vq,vv,vt,vu,vo,iv s.miss] TP2 (HQ i x (BT y.kind) Mq q p) ∧
   ∀ j,h.next+6≤j→((Ha.put (h.next+4) (.row (DH (Mq.C.set p v)) 4 false false)).put (h.next+5) (.row (ints (Mq.U.set p (i:Int))) 3 false false)).get j=H6.get j:=fun v hv=>by
  have g:∀ j,j≠h.next+4→j≠h.next+5→((Ha.put (h.next+4) (.row (DH (Mq.C.set p v)) 4 false false)).put (h.next+5) (.row (ints (Mq.U.set p (i:Int))) 3 false false)).get j=Ha.get j:=fun j h1 h2=>by rw[AX (by show _<Ha.next;omega) (Ne.symm h2),AX (by omega) (Ne.symm h1)]
  refine⟨⟨by rw[g _ (by omega) (by omega),na _ (by omega)];exact hT6.p,by rw[g _ (by omega) (by omega),na _ (by omega)];exact hT6.f,by rw[g _ (by omega) (by omega),na _ (by omega)];exact hT6.t,by rw[g _ (by omega) (by omega)];exact ga1,?_,B0 rfl (by show _<Ha.next;omega),by show _≤Ha.next;omega,by show Ha.floor=_;omega,fun j hj=>by rw[g j (by omega) (by omega),na j (by omega)];exact hT6.o j hj⟩,fun j hj=>by rw[g j (by omega) (by omega),na j (by omega)]⟩
  rw[AX (by show _<Ha.next;omega) (by omega),B0 rfl (by omega)]
  show BC.row (DH (Mq.C.set p v)) 4 false false=.row (DH (Mq.C.set p (((Mq.C[i]?).getD false)||J6 x.kind q))) 4 false false
  rw[hv]
 simp only[eE,seval,↓eP,w109,w110,w111,c3,ep,AV,lp]
 cases cq with
 | true=>
  refine WK.flags (fs:=S3) (by kernel_rfl) ?_
  unfold S3
  iterate 28
   refine EE hsn ?_
   simp only[rG,seval,AC,AF,AE,CZ,DY,CQ,DI,EB,Option.bind_some,wt6,wt7,wt8,w10,CW,AV,z0,w11,hask,J7,w9,ix2,FO,lc,hA0,jx1,IZ,sa,fla,jx2,ffa,sc,PA,jx3,MM,su]
  refine D_ ?_
  obtain⟨hT7,o7⟩:=fin (true) (by rw[hcq];rfl)
  simp only[eE,seval,↓eP,wt1,wt3,wt5,wt6,wt7,wt8,wt37,wt38,w39,w9,w10,w11,w109,w110,w111,w2]
  exact⟨hql,by omega,Nat.le_trans n6 (Nat.le_of_eq nna.symm),fun j h1 h2=>by rw[o7 j h1];exact o6 j h1 h2,by rw[eS];exact hT7⟩
 | false=>
  refine WK.flags (fs:=S3) (by kernel_rfl) ?_
  unfold S3
  iterate 28
   refine EE hsn ?_
   simp only[rG,seval,AC,AF,AE,CZ,DY,CQ,DI,EB,Option.bind_some,wt6,wt7,wt8,w10,CW,AV,z0,w11,hask,J7,w9,ix2,FO,lc,hA0,hfix,jx1,IZ,sa,fla,jx2,ffa,sc,PA,jx3,MM,su]
  refine D_ ?_
  obtain⟨hT7,o7⟩:=fin (J6 x.kind q) (by rw[hcq];rfl)
  simp only[eE,seval,↓eP,wt1,wt3,wt5,wt6,wt7,wt8,wt37,wt38,w39,w9,w10,w11,w109,w110,w111,w2]
  exact⟨hql,by omega,Nat.le_trans n6 (Nat.le_of_eq nna.symm),fun j h1 h2=>by rw[o7 j h1];exact o6 j h1 h2,by rw[eS];exact hT7⟩
theorem kG {nm:ByteArray} {s:AK} {pv:Value} {lo:Nat} (hp:CB lo h pv nm s) (hlies:∀ nm' vr vq vv vt vu vo m,pv=.agg #[.string nm',vr,vq,vv,vt,vu,vo,m]→GS vr s.rows.length) (hs:IE s) (hl:s.rows.length<2932031007403) (hg:h.get 0=CF) (hn0:0<h.next) (hfl:h.floor≤h.next) (hn:2*E6 s+450<n) :
  ∃ v' h',AU n 19 [pv] h=some (v',h')∧eF h' h.next v' (AS nm s)∧h'.floor=h.floor∧h.next≤h'.next∧∀ i,i<h.next→h'.get i=h.get i:=by
 obtain⟨n,rfl⟩:=DJ hn
 have htot:E6 s=s.rows.length+s.queues.length+s.vars.length+s.tags.length+s.rules.length+s.on.length:=rfl
 refine PM (BX ⟨rfl,rfl,rfl⟩) (Ku (n:=n) (N:=n) hp hlies hs hl hg hn0 hfl (by omega) (by omega)) fun v' h1 hf _ ht=>?_
 obtain⟨⟨tv,rfl,ht⟩,_⟩:=ht
 exact⟨⟨tv,rfl,Gf ht hf h⟩,rfl,Nat.le_refl _,fun _ _=>rfl⟩
theorem SJ {nm:ByteArray} {s:AK} {pv:Value} {lo:Nat} (hp:CB lo h pv nm s) (hlies:∀ nm' vr vq vv vt vu vo m,pv=.agg #[.string nm',vr,vq,vv,vt,vu,vo,m]→GS vr s.rows.length) (hs:IE s) (hl:s.rows.length<2932031007403) (hg:h.get 0=CF) (hn0:0<h.next) (hfl:h.floor≤h.next) (hn:2*E6 s+450<n) :
  ∃ v' h',AU n 19 [pv] h=some (v',h')∧x8 h' h.next v' (AS nm s)∧h'.floor=h.floor∧h.next≤h'.next∧∀ i,i<h.next→h'.get i=h.get i:=by
 obtain⟨v',h',h1,⟨tv,e,hO⟩,h2⟩:=kG (n:=n) hp hlies hs hl hg hn0 hfl hn
 exact⟨v',h',h1,⟨tv,e,hO.ints⟩,h2⟩
end
end Go.Proofs.YtdejoodfeljmkaaDoor
