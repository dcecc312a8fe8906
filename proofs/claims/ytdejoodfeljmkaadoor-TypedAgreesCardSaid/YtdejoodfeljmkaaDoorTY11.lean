/- Part 11 of what the claim leans on: 29 texts laid one behind another. -/
import Derived.Test.YtdejoodfeljmkaaDoorTY10
import Derived.OpenShut
import Derived.WalkKit
import Derived.Carry
import Derived.ChangeArms
namespace Go.Proofs.YtdejoodfeljmkaaDoor
open Go Go.Sx Go.ChangeShapes Go.WideShapes Go.ChangeAt Go.RowKit
set_option maxRecDepth 100000
set_option linter.unusedSimpArgs false
set_option linter.unusedVariables false
set_option maxHeartbeats 64000000
theorem WR:Tryd.prog.cellsOf 61=5:=by kernel_rfl
theorem M9:Tryd.prog.cellsOf 3=1:=by kernel_rfl
theorem TR:Tryd.prog.cellsOf 9=1:=by kernel_rfl
def PH (x:AB):Prop:=(-9223372036854775808≤x.kind∧x.kind≤9223372036854775807)∧(-9223372036854775808≤x.ends∧x.ends≤9223372036854775807)∧(-9223372036854775808≤x.n∧x.n≤9223372036854775807)∧(-9223372036854775808≤x.kids∧x.kids≤9223372036854775807)
section
variable {H:Type} {enc:TypeId × Value→H} {W:World} {base:Nat} {sp:Nat→Bool} {hd:Bool}
theorem aG {n:Nat} {cs:List Value} {y:DataW H × List MemPlace} (h:DataW.trod enc Tryd.prog W base sp hd n 61 cs=some y):∃ x:AB,cs=AX x∧PH x:=by
 obtain⟨xs,m,_,_,hl,hxl,hf⟩:=DataW.trod_struct Tryd.underlying61 h
 rw[WR] at hl
 obtain⟨c0,c1,c2,c3,c4,rfl⟩:∃ c0 c1 c2 c3 c4,cs=[c0,c1,c2,c3,c4]:=by
  match cs,hl with
  | [a,b,c,d,e],_=>exact⟨a,b,c,d,e,rfl⟩
 have hxl:xs.length=5:=hxl
 have g:∀ i,i<5→∃ y,xs[i]?=some y:=fun i hi=>⟨_,List.getElem?_eq_getElem (by omega)⟩
 obtain⟨y0,e0⟩:=g 0 (by omega)
 obtain⟨y1,e1⟩:=g 1 (by omega)
 obtain⟨y2,e2⟩:=g 2 (by omega)
 obtain⟨y3,e3⟩:=g 3 (by omega)
 obtain⟨y4,e4⟩:=g 4 (by omega)
 have f0:DataW.trod enc Tryd.prog W base sp hd m 3 (([c0,c1,c2,c3,c4].drop 0).take (Tryd.prog.cellsOf 3))=xs[0]?:=hf 0 _ rfl
 rw[M9,e0] at f0
 have f1:DataW.trod enc Tryd.prog W base sp hd m 9 (([c0,c1,c2,c3,c4].drop 1).take (Tryd.prog.cellsOf 9))=xs[1]?:=hf 1 _ rfl
 rw[TR,e1] at f1
 have f2:DataW.trod enc Tryd.prog W base sp hd m 3 (([c0,c1,c2,c3,c4].drop 2).take (Tryd.prog.cellsOf 3))=xs[2]?:=hf 2 _ rfl
 rw[M9,e2] at f2
 have f3:DataW.trod enc Tryd.prog W base sp hd m 3 (([c0,c1,c2,c3,c4].drop 3).take (Tryd.prog.cellsOf 3))=xs[3]?:=hf 3 _ rfl
 rw[M9,e3] at f3
 have f4:DataW.trod enc Tryd.prog W base sp hd m 3 (([c0,c1,c2,c3,c4].drop 4).take (Tryd.prog.cellsOf 3))=xs[4]?:=hf 4 _ rfl
 rw[M9,e4] at f4
 obtain⟨a,ha,_,wa⟩:=DataW.trod_int Tryd.underlying3 f0
 obtain⟨b,hb,_,wb⟩:=DataW.trod_string Tryd.underlying9 f1
 obtain⟨c,hc,_,wc⟩:=DataW.trod_int Tryd.underlying3 f2
 obtain⟨d,hd,_,wd⟩:=DataW.trod_int Tryd.underlying3 f3
 obtain⟨e,he,_,we⟩:=DataW.trod_int Tryd.underlying3 f4
 cases ha
 cases hb
 cases hc
 cases hd
 cases he
 exact⟨⟨a,b,c,d,e⟩,rfl,bounds_i64 wa,bounds_i64 wc,bounds_i64 wd,bounds_i64 we⟩
end
theorem bQ {b off k:Nat}:(⟨b,off,none⟩:Addr).add k=⟨b,off+k,none⟩:=by
 unfold Addr.add
 split
 ·rename_i e;subst e;rfl
 ·rfl
theorem o9 {W:World} {base b off n:Nat} {cs:List Value} (h:W.cells? base ⟨b,off,none⟩ n=some cs):cs.length=n∧∀ i,i<n→W.cell? ⟨b,off+i,none⟩=cs[i]?:=by
 unfold World.cells? at h
 split at h
 ·refine⟨by simpa using mapM_some_length h,fun i hi=>?_⟩
  have:=mapM_some_get h i i (by simp[hi])
  rw[← this,bQ]
 ·cases h
theorem VZ {x:AB} {j:Nat} {v:Value} (h:(AX x)[j]?=some v):BL v=true:=by
 match j,h with
 | 0,h=>cases h;rfl
 | 1,h=>cases h;rfl
 | 2,h=>cases h;rfl
 | 3,h=>cases h;rfl
 | 4,h=>cases h;rfl
end Go.Proofs.YtdejoodfeljmkaaDoor
namespace Go.Proofs.YtdejoodfeljmkaaDoor
open Go Go.Sx
set_option maxRecDepth 100000
set_option linter.unusedSimpArgs false
set_option linter.unusedVariables false
set_option maxHeartbeats 64000000
def LR (a b:AB):Bool:=a.kind==b.kind&&(a.name==b.name&&(a.ends==b.ends&&(a.n==b.n&&a.kids==b.kids)))
theorem QG {P:Program} {t:TypeId} {a b:ByteArray} (h:P.underlying t=some .string) (d:Nat):A8 P (Op.equalIn (d+1) t (.string a) (.string b))=some (a==b):=by
 rw[Op.equalIn,CD,MR h]
 simp[GY]
theorem qD {P:Program} {t:TypeId} {a b:Bool} (h:P.underlying t=some .bool) (d:Nat):A8 P (Op.equalIn (d+1) t (.bool a) (.bool b))=some (a==b):=by
 rw[Op.equalIn,CD,MR h]
 simp[GY]
theorem Ie:Tryd.prog.stoodInHeld 61=false:=by kernel_rfl
theorem Ei:Tryd.prog.stoodInHeld 102=false:=by kernel_rfl
theorem TL {a c d e:Int} {b:ByteArray}:A8 Tryd.prog (part 3 #[.int .i64 a,.string b,.int .i64 c,.int .i64 d,.int .i64 e] 0)=some (.int .i64 a)∧A8 Tryd.prog (part 9 #[.int .i64 a,.string b,.int .i64 c,.int .i64 d,.int .i64 e] 1)=some (.string b)∧A8 Tryd.prog (part 3 #[.int .i64 a,.string b,.int .i64 c,.int .i64 d,.int .i64 e] 2)=some (.int .i64 c) ∧
  A8 Tryd.prog (part 3 #[.int .i64 a,.string b,.int .i64 c,.int .i64 d,.int .i64 e] 3)=some (.int .i64 d)∧A8 Tryd.prog (part 3 #[.int .i64 a,.string b,.int .i64 c,.int .i64 d,.int .i64 e] 4)=some (.int .i64 e):=⟨rfl,rfl,rfl,rfl,rfl⟩
theorem nT {a:ByteArray} {b:Bool}:A8 Tryd.prog (part 9 #[.string a,.bool b] 0)=some (.string a)∧A8 Tryd.prog (part 4 #[.string a,.bool b] 1)=some (.bool b):=⟨rfl,rfl⟩
theorem tP {a b:AB} (n:Nat):A8 Tryd.prog (Op.equalIn (n+2) 61 (CF a) (CF b))=some (LR a b):=by
 obtain⟨a1,a2,a3,a4,a5⟩:=a
 obtain⟨b1,b2,b3,b4,b5⟩:=b
 show A8 Tryd.prog (Op.equalIn (n+2) 61 (.agg #[.int .i64 a1,.string a2,.int .i64 a3,.int .i64 a4,.int .i64 a5]) (.agg #[.int .i64 b1,.string b2,.int .i64 b3,.int .i64 b4,.int .i64 b5]))=some (a1==b1&&(a2==b2&&(a3==b3&&(a4==b4&&a5==b5))))
 rw[Op.equalIn,CD,MR Tryd.underlying61]
 simp only[Option.bind_some,CD,KW,Ie,Bool.false_eq_true,if_false]
 simp only[List.forIn_toArray,List.forIn_cons,List.forIn_nil,ne_eq,String.reduceEq,not_false_eq_true,if_true,CD,TL.1,Option.bind_some,LP Tryd.underlying3,QG Tryd.underlying9]
 cases h1:(a1==b1) <;> simp[CD,GY,TL.2.1,LP Tryd.underlying3,QG Tryd.underlying9,-beq_iff_eq,-beq_eq_false_iff_ne]
 cases h2:(a2==b2) <;> simp[CD,GY,TL.2.2.1,LP Tryd.underlying3,QG Tryd.underlying9,-beq_iff_eq,-beq_eq_false_iff_ne]
 cases h3:(a3==b3) <;> simp[CD,GY,TL.2.2.2.1,LP Tryd.underlying3,QG Tryd.underlying9,-beq_iff_eq,-beq_eq_false_iff_ne]
 cases h4:(a4==b4) <;> simp[CD,GY,TL.2.2.2.2,LP Tryd.underlying3,QG Tryd.underlying9,-beq_iff_eq,-beq_eq_false_iff_ne]
 cases h5:(a5==b5) <;> simp[GY,-beq_iff_eq,-beq_eq_false_iff_ne]
theorem uK {a c:ByteArray} {b d:Bool} (n:Nat):A8 Tryd.prog (Op.equalIn (n+2) 102 (.agg #[.string a,.bool b]) (.agg #[.string c,.bool d]))=some (a==c&&b==d):=by
 rw[Op.equalIn,CD,MR Tryd.underlying102]
 simp only[Option.bind_some,CD,KW,Ei,Bool.false_eq_true,if_false]
 simp only[List.forIn_toArray,List.forIn_cons,List.forIn_nil,ne_eq,String.reduceEq,not_false_eq_true,if_true,CD,nT.1,Option.bind_some,QG Tryd.underlying9,qD Tryd.underlying4]
 cases h1:(a==c) <;> simp[CD,GY,nT.2,QG Tryd.underlying9,qD Tryd.underlying4,-beq_iff_eq,-beq_eq_false_iff_ne]
 cases h2:(b==d) <;> simp[GY,-beq_iff_eq,-beq_eq_false_iff_ne]
theorem nP {a:AB}:flat (CF a)=true:=rfl
theorem pH {a:ByteArray} {b:Bool}:flat (.agg #[.string a,.bool b])=true:=rfl
section
variable {x y:Operand}
theorem kC (op:BinOp) (neg:Bool) (hop:op=if neg then .neq else .eql) {a b:AB}:BT Tryd.prog op 61 x y (CF a) (CF b)=some (.bool (if neg then !(LR a b) else LR a b)):=by
 have k:A8 Tryd.prog (Op.equal 61 (CF a) (CF b))=some (LR a b):=tP 9998
 cases neg with
 | true=>
  subst hop
  have e:A8 Tryd.prog (do eqGuard .neq 61 x y (CF a) (CF b);binOp .neq 61 (CF a) (CF b))=some (.bool (!(LR a b))):=by
   rw[CD]
   have g:A8 Tryd.prog (eqGuard .neq 61 x y (CF a) (CF b))=some ():=by
    unfold eqGuard
    simp[CD,KW,GY]
   rw[g]
   show A8 Tryd.prog ((do pure (.bool (!(← Op.equal 61 (CF a) (CF b))))):Sem Value)=_
   rw[CD,k]
   rfl
  simp only[BT,nP,Bool.and_self,if_true,e,KF]
 | false=>
  subst hop
  have e:A8 Tryd.prog (do eqGuard .eql 61 x y (CF a) (CF b);binOp .eql 61 (CF a) (CF b))=some (.bool (LR a b)):=by
   rw[CD]
   have g:A8 Tryd.prog (eqGuard .eql 61 x y (CF a) (CF b))=some ():=by
    unfold eqGuard
    simp[CD,KW,GY]
   rw[g]
   show A8 Tryd.prog ((do pure (.bool (← Op.equal 61 (CF a) (CF b)))):Sem Value)=_
   rw[CD,k]
   rfl
  simp only[Bool.false_eq_true,if_false,BT,nP,Bool.and_self,if_true,e,KF]
theorem wI {a b:AB}:BT Tryd.prog .neq 61 x y (CF a) (CF b)=some (.bool (!(LR a b))):=kC .neq true rfl
theorem eJ (op:BinOp) (neg:Bool) (hop:op=if neg then .neq else .eql) {a c:ByteArray} {b d:Bool}:BT Tryd.prog op 102 x y (.agg #[.string a,.bool b]) (.agg #[.string c,.bool d])=some (.bool (if neg then !(a==c&&b==d) else (a==c&&b==d))):=by
 have k:A8 Tryd.prog (Op.equal 102 (.agg #[.string a,.bool b]) (.agg #[.string c,.bool d]))=some (a==c&&b==d):=uK 9998
 cases neg with
 | true=>
  subst hop
  have e:A8 Tryd.prog (do eqGuard .neq 102 x y (.agg #[.string a,.bool b]) (.agg #[.string c,.bool d]);binOp .neq 102 (.agg #[.string a,.bool b]) (.agg #[.string c,.bool d]))=some (.bool (!(a==c&&b==d))):=by
   rw[CD]
   have g:A8 Tryd.prog (eqGuard .neq 102 x y (.agg #[.string a,.bool b]) (.agg #[.string c,.bool d]))=some ():=by
    unfold eqGuard
    simp[CD,KW,GY]
   rw[g]
   show A8 Tryd.prog ((do pure (.bool (!(← Op.equal 102 (.agg #[.string a,.bool b]) (.agg #[.string c,.bool d]))))):Sem Value)=_
   rw[CD,k]
   rfl
  simp only[BT,pH,Bool.and_self,if_true,e,KF]
 | false=>
  subst hop
  have e:A8 Tryd.prog (do eqGuard .eql 102 x y (.agg #[.string a,.bool b]) (.agg #[.string c,.bool d]);binOp .eql 102 (.agg #[.string a,.bool b]) (.agg #[.string c,.bool d]))=some (.bool (a==c&&b==d)):=by
   rw[CD]
   have g:A8 Tryd.prog (eqGuard .eql 102 x y (.agg #[.string a,.bool b]) (.agg #[.string c,.bool d]))=some ():=by
    unfold eqGuard
    simp[CD,KW,GY]
   rw[g]
   show A8 Tryd.prog ((do pure (.bool (← Op.equal 102 (.agg #[.string a,.bool b]) (.agg #[.string c,.bool d])))):Sem Value)=_
   rw[CD,k]
   rfl
  simp only[Bool.false_eq_true,if_false,BT,pH,Bool.and_self,if_true,e,KF]
theorem yZ {a c:ByteArray} {b d:Bool}:BT Tryd.prog .neq 102 x y (.agg #[.string a,.bool b]) (.agg #[.string c,.bool d])=some (.bool (!(a==c&&b==d))):=eJ .neq true rfl
end
theorem wM {a b:ByteArray}:(a==b)=true↔a=b:=by
 obtain⟨a⟩:=a
 obtain⟨b⟩:=b
 show (a==b)=true↔_
 rw[beq_iff_eq,ByteArray.mk.injEq]
theorem WZ {a b:AB}:LR a b=true↔a=b:=by
 obtain⟨a1,a2,a3,a4,a5⟩:=a
 obtain⟨b1,b2,b3,b4,b5⟩:=b
 unfold LR
 simp only[Bool.and_eq_true,beq_iff_eq,wM,AB.mk.injEq]
theorem I_ {lo:Nat} {h:AA} {v:Value} {n w:Nat} {cs:List Value} (hc:AO lo h v n w cs) (h':AA):C7 Tryd.prog h' 27 v=some (iv (n:Int)):=AO.len hc Tryd.underlying27
theorem VF {lo:Nat} {h:AA} {v:Value} {n w:Nat} {cs:List Value} (hc:AO lo h v n w cs) (h':AA):C7 Tryd.prog h' 31 v=some (iv (n:Int)):=AO.len hc Tryd.underlying31
theorem UL {lo:Nat} {h:AA} {v:Value} {n w:Nat} {cs:List Value} (hc:AO lo h v n w cs) (h':AA):C7 Tryd.prog h' 30 v=some (iv (n:Int)):=AO.len hc Tryd.underlying30
theorem NJ {lo:Nat} {h:AA} {v:Value} {n w:Nat} {cs:List Value} (hc:AO lo h v n w cs) (h':AA):C7 Tryd.prog h' 26 v=some (iv (n:Int)):=AO.len hc Tryd.underlying26
theorem mO {l:List ByteArray} {i:Nat} {x:ByteArray} (hx:l[i]?=some x) {lo:Nat} {h:AA} {v:Value} (hc:AO lo h v l.length 1 (DE l)):∃ id p,CQ Tryd.prog 31 v (iv (i:Int))=some (qP id p)∧id<h.next∧AJ p (h.get id)=some (.string x):=by
 obtain⟨id,p,h1,h2,h3⟩:=AO.idx hc Tryd.underlying31 MD (List.getElem?_eq_some_iff.1 hx).1
 refine⟨id,p,h1,h2,?_⟩
 have:=h3 0 (by decide)
 rw[Nat.add_zero] at this
 rw[this,Nat.mul_one,Nat.add_zero,DE,List.getElem?_map,hx]
 rfl
theorem aD:∀ {l:List (ByteArray × Bool)} {i:Nat} {x:ByteArray × Bool},l[i]?=some x→((DC l).drop (i*2)).take 2=[.string x.1,.bool x.2]
 | [],i,x,h=>by simp at h
 | q :: l,0,x,h=>by
  simp only[List.getElem?_cons_zero,Option.some.injEq] at h
  subst h
  rfl
 | q :: l,i+1,x,h=>by
  have:=aD (l:=l) (i:=i) (x:=x) (by simpa using h)
  rw[← this,show (i+1)*2=i*2+2 by omega]
  rfl
theorem kP {l:List (ByteArray × Bool)} {i:Nat} {x:ByteArray × Bool} (hx:l[i]?=some x) {lo:Nat} {h:AA} {v:Value} (hc:AO lo h v l.length 2 (DC l)):∃ id p,CQ Tryd.prog 30 v (iv (i:Int))=some (qP id p)∧id<h.next∧AY 2 p (h.get id)=some (.agg #[.string x.1,.bool x.2]):=by
 obtain⟨id,p,h1,h2,h3⟩:=AO.whole hc Tryd.underlying30 P7 (List.getElem?_eq_some_iff.1 hx).1
 rw[aD hx] at h3
 exact⟨id,p,h1,h2,h3⟩
theorem SY {α:Type} {A B:List α} (hl:A.length=B.length) (h:∀ j,j<A.length→A[j]?=B[j]?):A=B:=by
 apply List.ext_getElem?
 intro j
 rcases Nat.lt_or_ge j A.length with h1 | h1
 ·exact h j h1
 ·rw[List.getElem?_eq_none h1,List.getElem?_eq_none (by omega)]
theorem Cm:FB Tryd.prog 102=some true:=by kernel_rfl
theorem Ih {h:AA} {id off:Nat}:EA Tryd.prog h 102 (qP id off)=AY 2 off (h.get id):=MB Cm P7
section
variable {call:AM} {N:Nat} {h:AA}
end
section
variable {call:AM} {N:Nat} {h:AA}
end
def UN (nm nm':ByteArray) (s s':AL):Prop:=nm=nm'∧s.miss=s'.miss∧s.rows=s'.rows∧s.queues=s'.queues∧s.vars=s'.vars∧s.tags=s'.tags∧s.rules=s'.rules∧s.on=s'.on
theorem bZ {a b c d e f g i:Value} {ty:TypeId} {x y:Bool}:AJ 0 (.row [a,b,c,d,e,f,g,i] ty x y)=some a∧AJ 1 (.row [a,b,c,d,e,f,g,i] ty x y)=some b∧AJ 2 (.row [a,b,c,d,e,f,g,i] ty x y)=some c∧AJ 3 (.row [a,b,c,d,e,f,g,i] ty x y)=some d∧AJ 4 (.row [a,b,c,d,e,f,g,i] ty x y)=some e∧AJ 5 (.row [a,b,c,d,e,f,g,i] ty x y)=some f∧AJ 6 (.row [a,b,c,d,e,f,g,i] ty x y)=some g∧AJ 7 (.row [a,b,c,d,e,f,g,i] ty x y)=some i:=⟨rfl,rfl,rfl,rfl,rfl,rfl,rfl,rfl⟩
def IN (s:AL):Prop:=s.rows.length<2932031007403∧s.queues.length<2932031007403∧s.vars.length<2932031007403∧s.tags.length<2932031007403∧s.rules.length<2932031007403∧s.on.length<2932031007403
def FI (s:AL):Nat:=s.rows.length+s.queues.length+s.vars.length+s.tags.length+s.rules.length+s.on.length
section
variable {n N:Nat}
end
instance:DecidableEq AB:=fun _ _=>decidable_of_decidable_of_iff WZ
def LK:List (Bool × Bool × List Operand):=[AQ,AQ,AQ,AQ,AH [.tmp 18],AH [.tmp 18],AH [.tmp 18],AH [.tmp 18],AK]
theorem rW {call:AM} {N:Nat} {h:AA} (hsn:CA call) {va vb:Value} {A B:List Int} {la lb:Nat} (ha:AV la h va A) (hb:AV lb h vb B) (hN:A.length+3<N) (hl:A.length<30000000000000):A7 Tryd.prog call N 59 [va,vb] h=some (.bool (decide (A=B)),h):=by
 refine DG Tryd.func59 rfl (by simp[Tryd.f59]) ?_
 have hr:Tryd.f59.results.toList=[.tmp 4]:=rfl
 have lA:=fun h'=>I_ ha h'
 have lB:=fun h'=>I_ hb h'
 cases d:((A.length:Int) != (B.length:Int)) with
 | true=>
  have hne:A≠B:=fun e=>by subst e;simp at d
  rw[decide_eq_false hne]
  simp only[eE,↓reduceIte,Nat.reduceEqDiff,reduceCtorEq,↓eP,hr,lA,lB,d]
 | false=>
  have hlen:A.length=B.length:=by
   have h9:(A.length:Int)=(B.length:Int):=by simpa using d
   omega
  simp only[eE,↓reduceIte,Nat.reduceEqDiff,reduceCtorEq,↓eP,lA,lB,d]
  refine WK.loop (fun i s'=>s'.T.get 0=va∧s'.T.get 1=vb∧s'.T.get 12=iv A.length∧s'.T.get 13=iv i∧s'.h=h∧i≤A.length∧∀ j,j<i→A[j]?=B[j]?) A.length (by omega) ?_ ?_
  ·exact⟨by simp only[eE,↓reduceIte,Nat.reduceEqDiff,reduceCtorEq,↓eP,rP,Nat.reduceAdd,Nat.reduceLT],by simp only[eE,↓reduceIte,Nat.reduceEqDiff,reduceCtorEq,↓eP,rP,Nat.reduceAdd,Nat.reduceLT],by simp only[eE,↓reduceIte,Nat.reduceEqDiff,reduceCtorEq,↓eP,rP,Nat.reduceAdd,Nat.reduceLT],by simp only[eE,↓reduceIte,Nat.reduceEqDiff,reduceCtorEq,↓eP,rP,Nat.reduceAdd,Nat.reduceLT];rfl,rfl,by omega,fun j hj=>by omega⟩
  ·rintro i ⟨T1,H1⟩ hi ⟨t0,t1,t12,t13,hh,hil,hsame⟩
   simp only at t0 t1 t12 t13 hh
   subst hh
   by_cases hlt:i<A.length
   ·have c1:decide ((i:Int)<(A.length:Int))=true:=by simp;omega
    obtain⟨x,hx⟩:∃ x,A[i]?=some x:=⟨_,List.getElem?_eq_getElem hlt⟩
    obtain⟨y,hy⟩:∃ y,B[i]?=some y:=⟨_,List.getElem?_eq_getElem (by omega)⟩
    obtain⟨ida,pa,ea,_,xa⟩:=AV.get ha hx
    obtain⟨idb,pb,eb,_,xb⟩:=AV.get hb hy
    have w1:=E_ i (by omega)
    simp only[eE,seval,↓eP,t0,t1,t12,t13,c1]
    refine WK.flags (fs:=LK) (by kernel_rfl) ?_
    unfold LK
    iterate 9
     refine EC hsn ?_
     simp only[rG,seval,AC,AF,AE,C0,DW,CR,DD,EG,Option.bind_some,t0,t1,t12,t13,ea,eb,AT,xa,xb,QM]
    refine EF ?_
    cases e:(x != y) with
    | true=>
     have hne:A≠B:=fun h9=>by
      subst h9
      rw[hx] at hy
      cases hy
      simp at e
     rw[decide_eq_false hne]
     simp only[eE,seval,↓eP,hr,e]
    | false=>
     have hxy:x=y:=by simpa using e
     simp only[eE,seval,↓eP,t0,t1,t12,t13,e,w1]
     refine⟨by omega,by omega,fun j hj=>?_⟩
     rcases Nat.lt_or_ge j i with h1 | h1
     ·exact hsame j h1
     ·have:j=i:=by omega
      subst this
      rw[hx,hy,hxy]
   ·have c1:decide ((i:Int)<(A.length:Int))=false:=by simp;omega
    have:i=A.length:=by omega
    subst this
    have hAB:A=B:=SY hlen hsame
    rw[decide_eq_true hAB]
    simp only[eE,seval,↓eP,hr,t0,t1,t12,t13,c1]
theorem rS {n:Nat} {h:AA} {va vb:Value} {A B:List Int} {la lb:Nat} (ha:AV la h va A) (hb:AV lb h vb B) (hl:A.length<2932031007403) (hn:A.length+5<n):AS n 59 [va,vb] h=some (.bool (decide (A=B)),h):=by
 obtain⟨n,rfl⟩:=DF hn
 exact EL (BX ⟨rfl,rfl,rfl⟩) rfl (rW (FL n).2 ha hb (by omega) (by omega))
theorem Ka {call:AM} {N:Nat} {h:AA} (hsn:CA call) {va vb:Value} {A B:List ByteArray} {la lb:Nat} (ha:AO la h va A.length 1 (DE A)) (hb:AO lb h vb B.length 1 (DE B)) (hN:A.length+3<N) (hl:A.length<30000000000000):A7 Tryd.prog call N 58 [va,vb] h=some (.bool (decide (A=B)),h):=by
 refine DG Tryd.func58 rfl (by simp[Tryd.f58]) ?_
 have hr:Tryd.f58.results.toList=[.tmp 4]:=rfl
 have lA:=fun h'=>VF ha h'
 have lB:=fun h'=>VF hb h'
 cases d:((A.length:Int) != (B.length:Int)) with
 | true=>
  have hne:A≠B:=fun e=>by subst e;simp at d
  rw[decide_eq_false hne]
  simp only[eE,↓reduceIte,Nat.reduceEqDiff,reduceCtorEq,↓eP,hr,lA,lB,d]
 | false=>
  have hlen:A.length=B.length:=by
   have h9:(A.length:Int)=(B.length:Int):=by simpa using d
   omega
  simp only[eE,↓reduceIte,Nat.reduceEqDiff,reduceCtorEq,↓eP,lA,lB,d]
  refine WK.loop (fun i s'=>s'.T.get 0=va∧s'.T.get 1=vb∧s'.T.get 12=iv A.length∧s'.T.get 13=iv i∧s'.h=h∧i≤A.length∧∀ j,j<i→A[j]?=B[j]?) A.length (by omega) ?_ ?_
  ·exact⟨by simp only[eE,↓reduceIte,Nat.reduceEqDiff,reduceCtorEq,↓eP,rP,Nat.reduceAdd,Nat.reduceLT],by simp only[eE,↓reduceIte,Nat.reduceEqDiff,reduceCtorEq,↓eP,rP,Nat.reduceAdd,Nat.reduceLT],by simp only[eE,↓reduceIte,Nat.reduceEqDiff,reduceCtorEq,↓eP,rP,Nat.reduceAdd,Nat.reduceLT],by simp only[eE,↓reduceIte,Nat.reduceEqDiff,reduceCtorEq,↓eP,rP,Nat.reduceAdd,Nat.reduceLT];rfl,rfl,by omega,fun j hj=>by omega⟩
  ·rintro i ⟨T1,H1⟩ hi ⟨t0,t1,t12,t13,hh,hil,hsame⟩
   simp only at t0 t1 t12 t13 hh
   subst hh
   by_cases hlt:i<A.length
   ·have c1:decide ((i:Int)<(A.length:Int))=true:=by simp;omega
    obtain⟨x,hx⟩:∃ x,A[i]?=some x:=⟨_,List.getElem?_eq_getElem hlt⟩
    obtain⟨y,hy⟩:∃ y,B[i]?=some y:=⟨_,List.getElem?_eq_getElem (by omega)⟩
    obtain⟨ida,pa,ea,_,xa⟩:=mO hx ha
    obtain⟨idb,pb,eb,_,xb⟩:=mO hy hb
    have w1:=E_ i (by omega)
    simp only[eE,seval,↓eP,t0,t1,t12,t13,c1]
    refine WK.flags (fs:=LK) (by kernel_rfl) ?_
    unfold LK
    iterate 9
     refine EC hsn ?_
     simp only[rG,seval,AC,AF,AE,C0,DW,CR,DD,EG,Option.bind_some,t0,t1,t12,t13,ea,eb,GJ,xa,xb,MH]
    refine EF ?_
    cases e:(!(x==y)) with
    | true=>
     have hne:A≠B:=fun h9=>by
      subst h9
      rw[hx] at hy
      cases hy
      rw[PK] at e;cases e
     rw[decide_eq_false hne]
     simp only[eE,seval,↓eP,hr,e]
    | false=>
     have hxy:x=y:=NE (by simpa using e)
     simp only[eE,seval,↓eP,t0,t1,t12,t13,e,w1]
     refine⟨by omega,by omega,fun j hj=>?_⟩
     rcases Nat.lt_or_ge j i with h1 | h1
     ·exact hsame j h1
     ·have:j=i:=by omega
      subst this
      rw[hx,hy,hxy]
   ·have c1:decide ((i:Int)<(A.length:Int))=false:=by simp;omega
    have:i=A.length:=by omega
    subst this
    have hAB:A=B:=SY hlen hsame
    rw[decide_eq_true hAB]
    simp only[eE,seval,↓eP,hr,t0,t1,t12,t13,c1]
theorem qV {n:Nat} {h:AA} {va vb:Value} {A B:List ByteArray} {la lb:Nat} (ha:AO la h va A.length 1 (DE A)) (hb:AO lb h vb B.length 1 (DE B)) (hl:A.length<2932031007403) (hn:A.length+5<n):AS n 58 [va,vb] h=some (.bool (decide (A=B)),h):=by
 obtain⟨n,rfl⟩:=DF hn
 exact EL (BX ⟨rfl,rfl,rfl⟩) rfl (Ka (FL n).2 ha hb (by omega) (by omega))
theorem Js {call:AM} {N:Nat} {h:AA} (hsn:CA call) {va vb:Value} {A B:List (ByteArray × Bool)} {la lb:Nat} (ha:AO la h va A.length 2 (DC A)) (hb:AO lb h vb B.length 2 (DC B)) (hN:A.length+3<N) (hl:A.length<30000000000000):A7 Tryd.prog call N 57 [va,vb] h=some (.bool (decide (A=B)),h):=by
 refine DG Tryd.func57 rfl (by simp[Tryd.f57]) ?_
 have hr:Tryd.f57.results.toList=[.tmp 4]:=rfl
 have lA:=fun h'=>UL ha h'
 have lB:=fun h'=>UL hb h'
 cases d:((A.length:Int) != (B.length:Int)) with
 | true=>
  have hne:A≠B:=fun e=>by subst e;simp at d
  rw[decide_eq_false hne]
  simp only[eE,↓reduceIte,Nat.reduceEqDiff,reduceCtorEq,↓eP,hr,lA,lB,d]
 | false=>
  have hlen:A.length=B.length:=by
   have h9:(A.length:Int)=(B.length:Int):=by simpa using d
   omega
  simp only[eE,↓reduceIte,Nat.reduceEqDiff,reduceCtorEq,↓eP,lA,lB,d]
  refine WK.loop (fun i s'=>s'.T.get 0=va∧s'.T.get 1=vb∧s'.T.get 12=iv A.length∧s'.T.get 13=iv i∧s'.h=h∧i≤A.length∧∀ j,j<i→A[j]?=B[j]?) A.length (by omega) ?_ ?_
  ·exact⟨by simp only[eE,↓reduceIte,Nat.reduceEqDiff,reduceCtorEq,↓eP,rP,Nat.reduceAdd,Nat.reduceLT],by simp only[eE,↓reduceIte,Nat.reduceEqDiff,reduceCtorEq,↓eP,rP,Nat.reduceAdd,Nat.reduceLT],by simp only[eE,↓reduceIte,Nat.reduceEqDiff,reduceCtorEq,↓eP,rP,Nat.reduceAdd,Nat.reduceLT],by simp only[eE,↓reduceIte,Nat.reduceEqDiff,reduceCtorEq,↓eP,rP,Nat.reduceAdd,Nat.reduceLT];rfl,rfl,by omega,fun j hj=>by omega⟩
  ·rintro i ⟨T1,H1⟩ hi ⟨t0,t1,t12,t13,hh,hil,hsame⟩
   simp only at t0 t1 t12 t13 hh
   subst hh
   by_cases hlt:i<A.length
   ·have c1:decide ((i:Int)<(A.length:Int))=true:=by simp;omega
    obtain⟨x,hx⟩:∃ x,A[i]?=some x:=⟨_,List.getElem?_eq_getElem hlt⟩
    obtain⟨y,hy⟩:∃ y,B[i]?=some y:=⟨_,List.getElem?_eq_getElem (by omega)⟩
    obtain⟨ida,pa,ea,_,xa⟩:=kP hx ha
    obtain⟨idb,pb,eb,_,xb⟩:=kP hy hb
    have w1:=E_ i (by omega)
    simp only[eE,seval,↓eP,t0,t1,t12,t13,c1]
    refine WK.flags (fs:=LK) (by kernel_rfl) ?_
    unfold LK
    iterate 9
     refine EC hsn ?_
     simp only[rG,seval,AC,AF,AE,C0,DW,CR,DD,EG,Option.bind_some,t0,t1,t12,t13,ea,eb,Ih,xa,xb,yZ]
    refine EF ?_
    cases e:(!(x.1==y.1&&x.2==y.2)) with
    | true=>
     have hne:A≠B:=fun h9=>by
      subst h9
      rw[hx] at hy
      cases hy
      rw[PK] at e;simp at e
     rw[decide_eq_false hne]
     simp only[eE,seval,↓eP,hr,e]
    | false=>
     have hxy:x=y:=(by simp only[Bool.not_eq_false',Bool.and_eq_true] at e;exact Prod.ext (NE e.1) (by simpa using e.2))
     simp only[eE,seval,↓eP,t0,t1,t12,t13,e,w1]
     refine⟨by omega,by omega,fun j hj=>?_⟩
     rcases Nat.lt_or_ge j i with h1 | h1
     ·exact hsame j h1
     ·have:j=i:=by omega
      subst this
      rw[hx,hy,hxy]
   ·have c1:decide ((i:Int)<(A.length:Int))=false:=by simp;omega
    have:i=A.length:=by omega
    subst this
    have hAB:A=B:=SY hlen hsame
    rw[decide_eq_true hAB]
    simp only[eE,seval,↓eP,hr,t0,t1,t12,t13,c1]
theorem zG {n:Nat} {h:AA} {va vb:Value} {A B:List (ByteArray × Bool)} {la lb:Nat} (ha:AO la h va A.length 2 (DC A)) (hb:AO lb h vb B.length 2 (DC B)) (hl:A.length<2932031007403) (hn:A.length+5<n):AS n 57 [va,vb] h=some (.bool (decide (A=B)),h):=by
 obtain⟨n,rfl⟩:=DF hn
 exact EL (BX ⟨rfl,rfl,rfl⟩) rfl (Js (FL n).2 ha hb (by omega) (by omega))
theorem lX {h:AA} {v:Value} {l:List AB} (hv:A9 h v l) (h':AA):C7 Tryd.prog h' 26 v=some (iv (l.length:Int)):=hv.len
theorem tC {call:AM} {N:Nat} {h:AA} (hsn:CA call) {va vb:Value} {A B:List AB} (ha:A9 h va A) (hb:A9 h vb B) (hN:A.length+3<N) (hl:A.length<30000000000000):A7 Tryd.prog call N 56 [va,vb] h=some (.bool (decide (A=B)),h):=by
 refine DG Tryd.func56 rfl (by simp[Tryd.f56]) ?_
 have hr:Tryd.f56.results.toList=[.tmp 4]:=rfl
 have lA:=fun h'=>lX ha h'
 have lB:=fun h'=>lX hb h'
 cases d:((A.length:Int) != (B.length:Int)) with
 | true=>
  have hne:A≠B:=fun e=>by subst e;simp at d
  rw[decide_eq_false hne]
  simp only[eE,↓reduceIte,Nat.reduceEqDiff,reduceCtorEq,↓eP,hr,lA,lB,d]
 | false=>
  have hlen:A.length=B.length:=by
   have h9:(A.length:Int)=(B.length:Int):=by simpa using d
   omega
  simp only[eE,↓reduceIte,Nat.reduceEqDiff,reduceCtorEq,↓eP,lA,lB,d]
  refine WK.loop (fun i s'=>s'.T.get 0=va∧s'.T.get 1=vb∧s'.T.get 12=iv A.length∧s'.T.get 13=iv i∧s'.h=h∧i≤A.length∧∀ j,j<i→A[j]?=B[j]?) A.length (by omega) ?_ ?_
  ·exact⟨by simp only[eE,↓reduceIte,Nat.reduceEqDiff,reduceCtorEq,↓eP,rP,Nat.reduceAdd,Nat.reduceLT],by simp only[eE,↓reduceIte,Nat.reduceEqDiff,reduceCtorEq,↓eP,rP,Nat.reduceAdd,Nat.reduceLT],by simp only[eE,↓reduceIte,Nat.reduceEqDiff,reduceCtorEq,↓eP,rP,Nat.reduceAdd,Nat.reduceLT],by simp only[eE,↓reduceIte,Nat.reduceEqDiff,reduceCtorEq,↓eP,rP,Nat.reduceAdd,Nat.reduceLT];rfl,rfl,by omega,fun j hj=>by omega⟩
  ·rintro i ⟨T1,H1⟩ hi ⟨t0,t1,t12,t13,hh,hil,hsame⟩
   simp only at t0 t1 t12 t13 hh
   subst hh
   by_cases hlt:i<A.length
   ·have c1:decide ((i:Int)<(A.length:Int))=true:=by simp;omega
    obtain⟨x,hx⟩:∃ x,A[i]?=some x:=⟨_,List.getElem?_eq_getElem hlt⟩
    obtain⟨y,hy⟩:∃ y,B[i]?=some y:=⟨_,List.getElem?_eq_getElem (by omega)⟩
    obtain⟨ida,pa,ea,_,_,_,_,_,_,xa9⟩:=A9.row ha hx
    have xa:AY 5 pa (H1.get ida)=some (CF x):=xa9
    obtain⟨idb,pb,eb,_,_,_,_,_,_,xb9⟩:=A9.row hb hy
    have xb:AY 5 pb (H1.get idb)=some (CF y):=xb9
    have w1:=E_ i (by omega)
    simp only[eE,seval,↓eP,t0,t1,t12,t13,c1]
    refine WK.flags (fs:=LK) (by kernel_rfl) ?_
    unfold LK
    iterate 9
     refine EC hsn ?_
     simp only[rG,seval,AC,AF,AE,C0,DW,CR,DD,EG,Option.bind_some,t0,t1,t12,t13,ea,eb,HW,xa,xb,wI]
    refine EF ?_
    cases e:(!(LR x y)) with
    | true=>
     have hne:A≠B:=fun h9=>by
      subst h9
      rw[hx] at hy
      cases hy
      rw[WZ.2 rfl] at e;cases e
     rw[decide_eq_false hne]
     simp only[eE,seval,↓eP,hr,e]
    | false=>
     have hxy:x=y:=WZ.1 (by simpa using e)
     simp only[eE,seval,↓eP,t0,t1,t12,t13,e,w1]
     refine⟨by omega,by omega,fun j hj=>?_⟩
     rcases Nat.lt_or_ge j i with h1 | h1
     ·exact hsame j h1
     ·have:j=i:=by omega
      subst this
      rw[hx,hy,hxy]
   ·have c1:decide ((i:Int)<(A.length:Int))=false:=by simp;omega
    have:i=A.length:=by omega
    subst this
    have hAB:A=B:=SY hlen hsame
    rw[decide_eq_true hAB]
    simp only[eE,seval,↓eP,hr,t0,t1,t12,t13,c1]
theorem tW {n:Nat} {h:AA} {va vb:Value} {A B:List AB} (ha:A9 h va A) (hb:A9 h vb B) (hl:A.length<2932031007403) (hn:A.length+5<n):AS n 56 [va,vb] h=some (.bool (decide (A=B)),h):=by
 obtain⟨n,rfl⟩:=DF hn
 exact EL (BX ⟨rfl,rfl,rfl⟩) rfl (tC (FL n).2 ha hb (by omega) (by omega))
abbrev KS:AB:=⟨0,ByteArray.empty,0,0,0⟩
theorem zr:(Value.agg #[.int .i64 0,.string ByteArray.empty,.int .i64 0,.int .i64 0,.int .i64 0]).cells.toList=AX KS:=rfl
abbrev Y7:ByteArray:=⟨#[108,101,110,116]⟩
def mark (i:Nat):AB:=⟨-7,Y7,0,0,i⟩
theorem gM {id n c i:Nat} (hi:i<n):CQ Tryd.prog 26 (qS id n c) (iv (i:Int))=some (.pointer (some ⟨id,i*5,none⟩)):=ON hi
theorem N3 {l:List AB} (h:(BJ l).1.1=0):CH l∧(CY l).1=0∧(DP (BQ l) l.length 0 (CP l)).1=0∧¬ J9 (DP (BQ l) l.length 0 (CP l)).2.2.rows (BQ l) (DP (BQ l) l.length 0 (CP l)).2.2.rules≥0 ∧
  BJ l=((0,0),(DP (BQ l) l.length 0 (CP l)).2.2)∧HR l l.length (BJ l).2:=by
 by_cases h1:(CY l).1≠0
 ·unfold BJ at h
  rw[if_pos h1] at h
  exact absurd h h1
 ·by_cases h2:(DP (BQ l) l.length 0 (CP l)).1≠0
  ·unfold BJ at h
   rw[if_neg h1] at h
   simp only at h
   rw[if_pos h2] at h
   exact absurd h h2
  ·by_cases h3:J9 (DP (BQ l) l.length 0 (CP l)).2.2.rows (BQ l) (DP (BQ l) l.length 0 (CP l)).2.2.rules≥0
   ·unfold BJ at h
    rw[if_neg h1] at h
    simp only at h
    rw[if_neg h2,if_pos h3] at h
    cases h
   ·have e1:(CY l).1=0:=by simpa using h1
    have e2:(DP (BQ l) l.length 0 (CP l)).1=0:=by simpa using h2
    have e:BJ l=((0,0),(DP (BQ l) l.length 0 (CP l)).2.2):=by
     unfold BJ
     rw[if_neg h1]
     simp only
     rw[if_neg h2,if_neg h3]
    have ht:=oS (lQ e1)
    refine⟨ht,e1,e2,h3,e,?_⟩
    rw[e]
    exact qQ ht WQ l.length 0 (CP l) (by omega) (XW l) e2
theorem sA {l:List AB} (h:(BJ l).1.1≠0):DT l=(ByteArray.empty,sZ):=by unfold DT;rw[if_pos h]
theorem R4 {l:List AB} (h:(BJ l).1.1=0):DT l=(K4 l,(BJ l).2):=by unfold DT;rw[if_neg (by rw[h];simp)]
theorem XK {l:List AB} (hl:l.length<2932031007403):IN (DT l).2∧FI (DT l).2≤l.length+200:=by
 by_cases h:(BJ l).1.1=0
 ·rw[R4 h]
  obtain⟨_,_,_,_,_,hi⟩:=N3 h
  have hw:=hi.wf
  have:=hw.q;have:=hw.v;have:=hw.t;have:=hw.u;have:=hw.o;have:=hi.len
  unfold IN FI
  simp only
  omega
 ·rw[sA h]
  exact⟨⟨by decide,by decide,by decide,by decide,by decide,by decide⟩,by show 0≤_;omega⟩
theorem vB (nm:ByteArray) (s:AL):UN nm nm s s:=⟨rfl,rfl,rfl,rfl,rfl,rfl,rfl,rfl⟩
def K9 (x:AB):AB:=if x.kind≠27 then { x with n:=0 } else x
def BB (l:List AB):List AB:=l.map K9
def U2 (nm:ByteArray) (s:AL):Prop:=(BJ (BB s.rows)).1.1=0∧UN nm (DT (BB s.rows)).1 s (DT (BB s.rows)).2
open Classical in
noncomputable def FK (nm:ByteArray) (s:AL):Int:=if U2 nm s then 0 else 23
theorem Z_ {H:AA} {cs:List Value} {e p:Int} (hl:cs.length=8) (ho:cs.all one=true) (hf:H.floor≤H.next) :
  ∃ H':AA × AA,BC Tryd.prog ((H.push (.row CW 33 false false)).push (.row [iv 0,iv 0] 36 false false)) 33 (qP H.next 0) (.agg cs.toArray)=some (H'.1)∧BC Tryd.prog H'.1 36 (qP (H.next+1) 0) (BR e p)=some H'.2 ∧
   HU H.next H'.2 cs e p∧H'.2.next=H.next+2∧H'.2.floor=H.floor∧∀ i,i<H.next→H'.2.get i=H.get i:=by
 have ga:=OI (h:=H) (o:=.row CW 33 false false) (o':=.row [iv 0,iv 0] 36 false false)
 have gb:=OM (h:=H) (o:=.row CW 33 false false) (o':=.row [iv 0,iv 0] 36 false false)
 have gold:∀ i,i<H.next→((H.push (.row CW 33 false false)).push (.row [iv 0,iv 0] 36 false false)).get i=H.get i:=fun i hi=>by rw[AR (by show i<H.next+1;omega),AR hi]
 have hnx:((H.push (.row CW 33 false false)).push (.row [iv 0,iv 0] 36 false false)).next=H.next+2:=rfl
 have hfx:((H.push (.row CW 33 false false)).push (.row [iv 0,iv 0] 36 false false)).floor=H.floor:=rfl
 generalize (H.push (.row CW 33 false false)).push (.row [iv 0,iv 0] 36 false false)=G at *
 obtain⟨H',s1,s2,r1,r2,r3,r4⟩:=SI (a:=H.next) (H:=G) ⟨ga,gb⟩ rfl (by omega) (by omega) (cs':=cs) hl ho (e':=e) (p':=p)
 exact⟨⟨_,H'⟩,s1,s2,r1,by show H'.next=_;omega,by show H'.floor=_;omega,fun i hi=>by show H'.get i=_;rw[r4 i (by omega) (by omega),gold i hi]⟩
theorem J2 {lo:Nat} {h:AA} {nm:ByteArray} {s:AL} {vr vq vv vt vu vo:Value} (h1:HF lo h vr s.rows) (h2:AO lo h vq s.queues.length 2 (DC s.queues)) (h3:AO lo h vv s.vars.length 1 (DE s.vars)) (h4:AO lo h vt s.tags.length 1 (DE s.tags)) (h5:AV lo h vu s.rules) (h6:AV lo h vo s.on) :
  ([.string nm,vr,vq,vv,vt,vu,vo,iv s.miss]:List Value).all one=true:=by
 simp only[List.all_cons,List.all_nil,h1.2.one,h2.one,h3.one,h4.one,AO.one h5,AO.one h6,QU,JW,Bool.and_self]
def IA (v:Value) (n:Nat):Prop:=∃ id off c,v=.slice (some ⟨id,off,none⟩) n c
theorem eU {h:AA} {v:Value} {l:List AB} (hv:A9 h v l) (hne:0<l.length):IA v l.length:=by
 obtain⟨a,c,rfl,⟨h1,_⟩ | ⟨id,off,_,_,_,_,rfl,_⟩⟩:=hv
 ·rw[h1] at hne;exact absurd hne (by simp)
 ·exact⟨id,off,c,rfl⟩
theorem Dv {call:AM} {N:Nat} {h:AA} {l:List AB} {v:Value} (hv:A9 h v l) (hlies:IA v l.length) (hlen:l.length<2932031007403) :
  ∃ v' h',A7 Tryd.prog call N 28 [v] h=some (v',h')∧(∃ o c g,v'=qS o l.length c∧h'.get o=.row (l.flatMap AX) 61 g false∧h.next≤o∧o<h'.next)∧h'.floor=h.floor∧h.next≤h'.next∧∀ i,i<h.next→h'.get i=h.get i:=by
 by_cases h0:0<l.length
 ·obtain⟨h',e,g1,g2,g3,g4⟩:=fJ (call:=call) (N:=N) hv h0 hlen
  exact⟨_,h',e,⟨h.next+1,AP,true,rfl,g1,by omega,by omega⟩,g3,by omega,g4⟩
 ·have hl:l=[]:=List.length_eq_zero_iff.1 (by omega)
  subst hl
  obtain⟨id,off,c,rfl⟩:=hlies
  refine⟨qS h.next 0 0,h.push (.row [] 61 false false),?_,⟨h.next,0,false,rfl,BP,Nat.le_refl _,by show h.next<h.next+1;omega⟩,rfl,by show h.next≤h.next+1;omega,fun i hi=>AR hi⟩
  refine DG Tryd.func28 rfl (by simp[Tryd.f28]) ?_
  have hr:Tryd.f28.results.toList=[.tmp 2]:=rfl
  have hb:BT Tryd.prog .eql 26 (.tmp 3) (.const (Z0)) (.slice (some ⟨id,off,none⟩) ([]:List AB).length c) (Z0)=some (.bool false):=by
   have hf:flat (.slice (some ⟨id,off,none⟩) ([]:List AB).length c)=false:=rfl
   simp only[BT,hf,Bool.false_and,Bool.false_eq_true,if_false,Tryd.underlying26]
  have hbs:FO Tryd.prog h 26 0 []=some (qS h.next 0 0,h.push (.row [] 61 false false)):=by
   simp[FO,Tryd.underlying26,GC,Fsx,flat,BL,M6,I5,BW]
  have hsrc:DZ (h.push (.row [] 61 false false)) 5 ([]:List AB).length (.slice (some ⟨id,off,none⟩) ([]:List AB).length c)=some []:=by simp[DZ]
  have hap:DS Tryd.prog (h.push (.row [] 61 false false)) 26 (qS h.next 0 0) (.slice (some ⟨id,off,none⟩) ([]:List AB).length c)=some (qS h.next 0 0,h.push (.row [] 61 false false)):=by
   have hu:(0:Nat)≠AP:=by unfold AP;omega
   have hzs:(Value.agg #[.int .i64 0,.string ByteArray.empty,.int .i64 0,.int .i64 0,.int .i64 0]).cells.size=5:=rfl
   simp[DS,Tryd.underlying26,GC,RT,Fsx,hzs,DZ,hu]
  simp only[eE,seval,↓eP,hr,hb,hbs,hap]
theorem yK {n:Nat} {h:AA} {l:List AB} {v:Value} (hv:A9 h v l) (hlies:IA v l.length) (hlen:l.length<2932031007403) (hn:0<n) :
  ∃ v' h',AS n 28 [v] h=some (v',h')∧(∃ o c g,v'=qS o l.length c∧h'.get o=.row (l.flatMap AX) 61 g false∧h.next≤o∧o<h'.next)∧h'.floor=h.floor∧h.next≤h'.next∧∀ i,i<h.next→h'.get i=h.get i:=by
 obtain⟨n,rfl⟩:=DF hn
 refine PY (BX ⟨rfl,rfl,rfl⟩) (Dv (call:=AS n) (N:=n) hv hlies hlen) fun v' h1 hf ho ⟨⟨o,c,g,e1,_⟩,_⟩=>?_
 rw[e1] at hf
 cases hf
section
variable {n N:Nat}
theorem tH {nm:ByteArray} {s:AL} {pv:Value} {lo:Nat} {h:AA} (hp:CE lo h pv nm s) (hlies:∀ nm' vr vq vv vt vu vo m,pv=.agg #[.string nm',vr,vq,vv,vt,vu,vo,m]→IA vr s.rows.length) (hs:IN s) (hl:s.rows.length<2932031007403) (hfl:h.floor≤h.next) (hg:h.get 0=CT) (hn0:0<h.next) (hn:2*FI s+200<n) (hN:FI s+200<N) :
  ∃ h',A7 Tryd.prog (AS n) N 38 [pv] h=some (iv (FK nm s),h')∧∀ i,i<h.next→h'.get i=h.get i:=by
 obtain⟨vr,vq,vv,vt,vu,vo,rfl,p1,p2,p3,p4,p5,p6⟩:=hp
 have hlv:=hlies _ _ _ _ _ _ _ _ rfl
 refine EQ (R:=fun h'=>∀ i,i<h.next→h'.get i=h.get i) Tryd.func38 rfl (by simp[Tryd.f38]) ?_
 have hr:Tryd.f38.results.toList=[.tmp 2]:=rfl
 unfold FI at hn hN
 obtain⟨q1,q2,q3,q4,q5,q6⟩:=hs
 have ca:=E1 [.string nm,vr,vq,vv,vt,vu,vo,iv s.miss]
 have oa:=J2 (nm:=nm) p1 p2 p3 p4 p5 p6
 have gA:(h.push (.row [.string nm,vr,vq,vv,vt,vu,vo,iv s.miss] 33 false false)).get h.next=.row [.string nm,vr,vq,vv,vt,vu,vo,iv s.miss] 33 false false:=BP
 have gO:∀ i,i<h.next→(h.push (.row [.string nm,vr,vq,vv,vt,vu,vo,iv s.miss] 33 false false)).get i=h.get i:=fun i hi=>AR hi
 have nA:(h.push (.row [.string nm,vr,vq,vv,vt,vu,vo,iv s.miss] 33 false false)).next=h.next+1:=rfl
 have fA:(h.push (.row [.string nm,vr,vq,vv,vt,vu,vo,iv s.miss] 33 false false)).floor=h.floor:=rfl
 show WK _ _ _ (.seq _ (.seq _ (.seq (.seq _ _) (.seq _ (.seq _ _))))) _ _
 simp only[eE,seval,↓eP,FW,FD,FY,ca,oa,HT]
 generalize h.push (.row [.string nm,vr,vq,vv,vt,vu,vo,iv s.miss] 33 false false)=A at *
 have l1:AJ 1 (A.get h.next)=some vr:=by rw[gA];rfl
 have P1:A9 A vr s.rows:=p1.1.mono (by omega) gO
 obtain⟨v',h1,hcl,⟨o,c,g,rfl,g1,g2,g3⟩,f1,n1,o1⟩:=yK (n:=n) P1 hlv (by omega) (by omega)
 have hlen:∀ h':AA,C7 Tryd.prog h' 26 (qS o s.rows.length c)=some (iv (s.rows.length:Int)):=fun h'=>TY
 simp only[eE,seval,↓eP,Nat.zero_add,CL,CK,l1,hcl,hlen]
 refine WK.loop (fun i s'=>s'.T.get 1=qP h.next 0∧s'.T.get 3=qS o s.rows.length c∧s'.T.get 11=iv (s.rows.length:Int)∧s'.T.get 12=iv i∧i≤s.rows.length∧s'.h.next=h1.next∧s'.h.floor=h1.floor∧(∀ i,i≠o→s'.h.get i=h1.get i) ∧
  ∃ L:List AB,s'.h.get o=.row (L.flatMap AX) 61 g false∧∀ j,L[j]?=(s.rows[j]?).map fun x=>if j<i then K9 x else x) s.rows.length (by omega) ?_ ?_
 ·refine⟨by simp only[eE,↓reduceIte,Nat.reduceEqDiff,reduceCtorEq,↓eP,rP,Nat.reduceAdd,Nat.reduceLT],by simp only[eE,↓reduceIte,Nat.reduceEqDiff,reduceCtorEq,↓eP,rP,Nat.reduceAdd,Nat.reduceLT],by simp only[eE,↓reduceIte,Nat.reduceEqDiff,reduceCtorEq,↓eP,rP,Nat.reduceAdd,Nat.reduceLT],by simp only[eE,↓reduceIte,Nat.reduceEqDiff,reduceCtorEq,↓eP,rP,Nat.reduceAdd,Nat.reduceLT];rfl,by omega,rfl,rfl,fun _ _=>rfl,s.rows,g1,fun j=>?_⟩
  simp
 rintro i ⟨T1,H1⟩ hi ⟨t1,t3,t11,t12,hil,m1,m2,m3,L,gL,hL⟩
 simp only at t1 t3 t11 t12 m1 m2 m3 gL
 have hLl:L.length=s.rows.length:=by
  rcases Nat.lt_trichotomy L.length s.rows.length with h9 | h9 | h9
  ·have:=hL L.length
   rw[List.getElem?_eq_none (Nat.le_refl _),List.getElem?_eq_getElem h9] at this
   cases this
  ·exact h9
  ·have:=hL s.rows.length
   rw[List.getElem?_eq_getElem h9,List.getElem?_eq_none (Nat.le_refl _)] at this
   cases this
 by_cases hlt:i<s.rows.length
 ·have c1:decide ((i:Int)<(s.rows.length:Int))=true:=by simp;omega
  obtain⟨x,hx⟩:∃ x,s.rows[i]?=some x:=⟨_,List.getElem?_eq_getElem hlt⟩
  have hLx:L[i]?=some x:=by rw[hL,hx];simp
  have ea:=gM (id:=o) (n:=s.rows.length) (c:=c) hlt
  have lk:AJ (i*5) (H1.get o)=some (iv x.kind):=by
   have h5:=PL hLx
   rw[gL]
   have:(L.flatMap AX)[i*5]?=(AX x)[0]?:=by
    rw[← h5,List.getElem?_take_of_lt (by omega),List.getElem?_drop,Nat.add_zero]
   simp only[AJ,this]
   rfl
  have w1:=E_ i (by omega)
  cases d:(x.kind != 27) with
  | false=>
   have hz:K9 x=x:=by
    unfold K9
    rw[if_neg (by simpa using d)]
   simp only[eE,seval,↓eP,t1,t3,t11,t12,c1,ea,CX,AT,lk,d,w1]
   refine⟨hlt,by omega,m1,m2,m3,L,gL,fun j=>?_⟩
   rw[hL j]
   by_cases hj:j=i
   ·subst hj
    rw[hx]
    simp[hz]
   ·congr 1
    funext y
    by_cases h9:j<i
    ·rw[if_pos h9,if_pos (by omega)]
    ·rw[if_neg h9,if_neg (by omega)]
  | true=>
   have hz:K9 x={ x with n:=0 }:=by
    unfold K9
    rw[if_pos (by simpa using d)]
   have hst:=H0 (t:=3) (off:=i*5+3) (v:=iv 0) C4 rfl rfl gL (by rw[KA];omega) (by omega)
   rw[Z6 hLx] at hst
   simp only[eE,seval,↓eP,t1,t3,t11,t12,c1,ea,CX,GL,AT,lk,d,hst,w1]
   refine⟨hlt,by omega,m1,m2,fun j hj=>by rw[AW (by omega) (Ne.symm hj)];exact m3 j hj,GF L i 0,B_ rfl (by omega),fun j=>?_⟩
   by_cases hj:j=i
   ·subst hj
    rw[JY hLx,hx]
    simp[hz]
   ·rw[M3 hj,hL j]
    congr 1
    funext y
    by_cases h9:j<i
    ·rw[if_pos h9,if_pos (by omega)]
    ·rw[if_neg h9,if_neg (by omega)]
 have c1:decide ((i:Int)<(s.rows.length:Int))=false:=by simp;omega
 have:i=s.rows.length:=by omega
 subst this
 have hLz:L=BB s.rows:=by
  apply List.ext_getElem?
  intro j
  rw[hL j,BB,List.getElem?_map]
  rcases Nat.lt_or_ge j s.rows.length with h9 | h9
  ·simp[h9]
  ·rw[List.getElem?_eq_none h9]
   rfl
 subst hLz
 have hvz:A9 H1 (qS o s.rows.length c) (BB s.rows):=by
  refine⟨_,_,by rw[hLl],.inr ⟨o,0,_,_,_,_,rfl,gL,by omega,fun k r hk=>by rw[Nat.zero_add];exact PL hk⟩⟩
 have hw1:H1.get 0=CT:=by rw[m3 0 (by omega),o1 0 (by omega),gO 0 hn0];exact hg
 obtain⟨v2,h2,hres,pv,rfl,hp',f2,n2,o2⟩:=cU (n:=n) (h:=H1) (by omega) hw1 (by omega) hvz (by omega) (by omega)
 obtain⟨vr',vq',vv',vt',vu',vo',rfl,b1,b2,b3,b4,b5,b6⟩:=hp'
 obtain⟨⟨hb,h3⟩,s1,s2,rO,n3,f3,o3⟩:=Z_ (H:=h2) (cs:=[.string (DT (BB s.rows)).1,vr',vq',vv',vt',vu',vo',iv (DT (BB s.rows)).2.miss]) (e:=(BJ (BB s.rows)).1.1) (p:=(BJ (BB s.rows)).1.2) rfl (J2 b1 b2 b3 b4 b5 b6) (by omega)
 simp only at s1 s2 rO n3 f3 o3
 have HO:∀ i,i<h.next→h3.get i=h.get i:=fun i hi=>by rw[o3 i (by omega),o2 i (by omega),m3 i (by omega),o1 i (by omega),gO i hi]
 have HA:h3.get h.next=.row [.string nm,vr,vq,vv,vt,vu,vo,iv s.miss] 33 false false:=by rw[o3 _ (by omega),o2 _ (by omega),m3 _ (by omega),o1 _ (by omega)];exact gA
 obtain⟨x0,x1,x2,x3,x4,x5,x6,x7⟩:=bZ (a:=.string nm) (b:=vr) (c:=vq) (d:=vv) (e:=vt) (f:=vu) (g:=vo) (i:=iv s.miss) (ty:=33) (x:=false) (y:=false)
 obtain⟨y0,y1,y2,y3,y4,y5,y6,y7⟩:=bZ (a:=.string (DT (BB s.rows)).1) (b:=vr') (c:=vq') (d:=vv') (e:=vt') (f:=vu') (g:=vo') (i:=iv (DT (BB s.rows)).2.miss) (ty:=33) (x:=false) (y:=false)
 rw[← HA] at x0 x1 x2 x3 x4 x5 x6 x7
 rw[← rO.1] at y0 y1 y2 y3 y4 y5 y6 y7
 have lF:AJ 0 (h3.get (h2.next+1))=some (iv (BJ (BB s.rows)).1.1):=by rw[rO.2];rfl
 have NN:h.next≤h3.next:=by omega
 have A1:=p1.1.mono NN HO
 have A2:=p2.mono NN fun i _ hi=>HO i hi
 have A3:=p3.mono NN fun i _ hi=>HO i hi
 have A4:=p4.mono NN fun i _ hi=>HO i hi
 have A5:=AV.mono p5 NN fun i _ hi=>HO i hi
 have A6:=AV.mono p6 NN fun i _ hi=>HO i hi
 have B1:=(b1.mono (h':=h3) (by omega) fun i _ hi=>o3 i hi).1
 have B2:=b2.mono (h':=h3) (by omega) fun i _ hi=>o3 i hi
 have B3:=b3.mono (h':=h3) (by omega) fun i _ hi=>o3 i hi
 have B4:=b4.mono (h':=h3) (by omega) fun i _ hi=>o3 i hi
 have B5:=AV.mono (h':=h3) b5 (by omega) fun i _ hi=>o3 i hi
 have B6:=AV.mono (h':=h3) b6 (by omega) fun i _ hi=>o3 i hi
 have hR:=tW (n:=n) A1 B1 (by omega) (by omega)
 have hQ:=zG (n:=n) A2 B2 (by omega) (by omega)
 have hV:=qV (n:=n) A3 B3 (by omega) (by omega)
 have hT:=qV (n:=n) A4 B4 (by omega) (by omega)
 have hU:=rS (n:=n) A5 B5 (by omega) (by omega)
 have hO:=rS (n:=n) A6 B6 (by omega) (by omega)
 have yes:(BJ (BB s.rows)).1.1=0→UN nm (DT (BB s.rows)).1 s (DT (BB s.rows)).2→FK nm s=0:=fun h8 h9=>if_pos ⟨h8,h9⟩
 have no1:(BJ (BB s.rows)).1.1≠0→FK nm s=23:=fun h8=>if_neg fun h9=>h8 h9.1
 have no2:¬ UN nm (DT (BB s.rows)).1 s (DT (BB s.rows)).2→FK nm s=23:=fun h8=>if_neg fun h9=>h8 h9.2
 simp only[eE,seval,↓eP,t1,t3,t11,t12,c1,hres,MS,MV,QA,DK,DJ,EO,CB,s1,s2]
 cases d0:((BJ (BB s.rows)).1.1 != 0) with
 | true=>
  rw[no1 (by simpa using d0)]
  simp only[eE,seval,↓eP,hr,t1,List.append_eq,List.toList_toArray,Nat.zero_add,EW,EV,lF,ME,CL,F_,KQ,K3,K0,KY,KH,GJ,AT,CK,F9,JT,DB,x0,x1,x2,x3,x4,x5,x6,x7,y0,y1,y2,y3,y4,y5,y6,y7,MH,d0]
  exact HO
 | false=>
 cases d1:(!(nm==(DT (BB s.rows)).1)) with
 | true=>
  rw[no2 fun h9=>by rw[h9.1,PK] at d1;cases d1]
  simp only[eE,seval,↓eP,hr,t1,List.append_eq,List.toList_toArray,Nat.zero_add,EW,EV,lF,ME,CL,F_,KQ,K3,K0,KY,KH,GJ,AT,CK,F9,JT,DB,x0,x1,x2,x3,x4,x5,x6,x7,y0,y1,y2,y3,y4,y5,y6,y7,MH,d0,d1]
  exact HO
 | false=>
 cases d2:(s.miss != (DT (BB s.rows)).2.miss) with
 | true=>
  rw[no2 fun h9=>by rw[h9.2.1] at d2;simp at d2]
  simp only[eE,seval,↓eP,hr,t1,List.append_eq,List.toList_toArray,Nat.zero_add,EW,EV,lF,ME,CL,F_,KQ,K3,K0,KY,KH,GJ,AT,CK,F9,JT,DB,x0,x1,x2,x3,x4,x5,x6,x7,y0,y1,y2,y3,y4,y5,y6,y7,MH,d0,d1,d2]
  exact HO
 | false=>
 cases d3:decide (s.rows=(DT (BB s.rows)).2.rows) with
 | false=>
  rw[d3] at hR
  rw[no2 fun h9=>(of_decide_eq_false d3) h9.2.2.1]
  simp only[eE,seval,↓eP,hr,t1,List.append_eq,List.toList_toArray,Nat.zero_add,EW,EV,lF,ME,CL,F_,KQ,K3,K0,KY,KH,GJ,AT,CK,F9,JT,DB,x0,x1,x2,x3,x4,x5,x6,x7,y0,y1,y2,y3,y4,y5,y6,y7,MH,d0,d1,d2,hR]
  exact HO
 | true=>
 rw[d3] at hR
 cases d4:decide (s.queues=(DT (BB s.rows)).2.queues) with
 | false=>
  rw[d4] at hQ
  rw[no2 fun h9=>(of_decide_eq_false d4) h9.2.2.2.1]
  simp only[eE,seval,↓eP,hr,t1,List.append_eq,List.toList_toArray,Nat.zero_add,EW,EV,lF,ME,CL,F_,KQ,K3,K0,KY,KH,GJ,AT,CK,F9,JT,DB,x0,x1,x2,x3,x4,x5,x6,x7,y0,y1,y2,y3,y4,y5,y6,y7,MH,d0,d1,d2,hR,hQ]
  exact HO
 | true=>
 rw[d4] at hQ
 cases d5:decide (s.vars=(DT (BB s.rows)).2.vars) with
 | false=>
  rw[d5] at hV
  rw[no2 fun h9=>(of_decide_eq_false d5) h9.2.2.2.2.1]
  simp only[eE,seval,↓eP,hr,t1,List.append_eq,List.toList_toArray,Nat.zero_add,EW,EV,lF,ME,CL,F_,KQ,K3,K0,KY,KH,GJ,AT,CK,F9,JT,DB,x0,x1,x2,x3,x4,x5,x6,x7,y0,y1,y2,y3,y4,y5,y6,y7,MH,d0,d1,d2,hR,hQ,hV]
  exact HO
 | true=>
 rw[d5] at hV
 cases d6:decide (s.tags=(DT (BB s.rows)).2.tags) with
 | false=>
  rw[d6] at hT
  rw[no2 fun h9=>(of_decide_eq_false d6) h9.2.2.2.2.2.1]
  simp only[eE,seval,↓eP,hr,t1,List.append_eq,List.toList_toArray,Nat.zero_add,EW,EV,lF,ME,CL,F_,KQ,K3,K0,KY,KH,GJ,AT,CK,F9,JT,DB,x0,x1,x2,x3,x4,x5,x6,x7,y0,y1,y2,y3,y4,y5,y6,y7,MH,d0,d1,d2,hR,hQ,hV,hT]
  exact HO
 | true=>
 rw[d6] at hT
 cases d7:decide (s.rules=(DT (BB s.rows)).2.rules) with
 | false=>
  rw[d7] at hU
  rw[no2 fun h9=>(of_decide_eq_false d7) h9.2.2.2.2.2.2.1]
  simp only[eE,seval,↓eP,hr,t1,List.append_eq,List.toList_toArray,Nat.zero_add,EW,EV,lF,ME,CL,F_,KQ,K3,K0,KY,KH,GJ,AT,CK,F9,JT,DB,x0,x1,x2,x3,x4,x5,x6,x7,y0,y1,y2,y3,y4,y5,y6,y7,MH,d0,d1,d2,hR,hQ,hV,hT,hU]
  exact HO
 | true=>
 rw[d7] at hU
 cases d8:decide (s.on=(DT (BB s.rows)).2.on) with
 | false=>
  rw[d8] at hO
  rw[no2 fun h9=>(of_decide_eq_false d8) h9.2.2.2.2.2.2.2]
  simp only[eE,seval,↓eP,hr,t1,List.append_eq,List.toList_toArray,Nat.zero_add,EW,EV,lF,ME,CL,F_,KQ,K3,K0,KY,KH,GJ,AT,CK,F9,JT,DB,x0,x1,x2,x3,x4,x5,x6,x7,y0,y1,y2,y3,y4,y5,y6,y7,MH,d0,d1,d2,hR,hQ,hV,hT,hU,hO]
  exact HO
 | true=>
 rw[d8] at hO
 rw[yes (by simpa using d0) ⟨NE (by simpa using d1),by simpa using d2,of_decide_eq_true d3,of_decide_eq_true d4,of_decide_eq_true d5,of_decide_eq_true d6,of_decide_eq_true d7,of_decide_eq_true d8⟩]
 simp only[eE,seval,↓eP,hr,t1,List.append_eq,List.toList_toArray,Nat.zero_add,EW,EV,lF,ME,CL,F_,KQ,K3,K0,KY,KH,GJ,AT,CK,F9,JT,DB,x0,x1,x2,x3,x4,x5,x6,x7,y0,y1,y2,y3,y4,y5,y6,y7,MH,d0,d1,d2,hR,hQ,hV,hT,hU,hO]
 exact HO
theorem mN {nm:ByteArray} {s:AL} {pv:Value} {lo:Nat} {h:AA} (hp:CE lo h pv nm s) (hlies:∀ nm' vr vq vv vt vu vo m,pv=.agg #[.string nm',vr,vq,vv,vt,vu,vo,m]→IA vr s.rows.length) (hs:IN s) (hl:s.rows.length<2932031007403) (hfl:h.floor≤h.next) (hg:h.get 0=CT) (hn0:0<h.next) (hn:2*FI s+300<n) :
  AS n 38 [pv] h=some (iv (FK nm s),h):=by
 obtain⟨n,rfl⟩:=DF hn
 exact JB (BX ⟨rfl,rfl,rfl⟩) rfl (tH hp hlies hs hl hfl hg hn0 (by omega) (by omega))
end
theorem nL {l:List AB}:∀ (a b p q r:Nat),ER l a p q→ER l b q r→ER l (a+b) p r
 | 0,b,p,q,r,h,h2=>by
  have:p=q:=h
  subst this
  rw[Nat.zero_add]
  exact h2
 | a+1,b,p,q,r,⟨p',h1,h3,h4,h5⟩,h2=>by
  rw[show a+1+b=(a+b)+1 by omega]
  exact⟨p',h1,h3,h4,nL a b p' q r h5 h2⟩
section
variable {call:AM} {N:Nat} {h:AA}
theorem Bj {Z L:List AB} {v:Value} {at_ q:Nat} (hsk:MM L Z) (hv:A9 h v L) (hs:DV Z at_ q) (hlen:L.length<30000000000000) (hN:L.length+3<N) :
  A7 Tryd.prog call N 55 [v,iv at_] h=some (iv q,h):=by
 refine DG Tryd.func55 rfl (by simp[Tryd.f55]) ?_
 have hr:Tryd.f55.results.toList=[.tmp 4]:=rfl
 have hl:=fun h'=>hv.len (h':=h')
 have hq:=hs.lt
 have hZ:=hsk.1
 simp only[eE,seval,↓eP,rP,hr]
 refine WK.loop (fun i s'=>s'.h=h∧s'.T.get 0=v∧s'.T.get 1=iv ((at_+i:Nat):Int)∧∃ r:Nat,s'.T.get 5=iv r∧ER Z r (at_+i) q) (q-at_) (by omega) ?_ ?_
 ·exact⟨rfl,by simp only[eE,seval,↓eP,rP],by simp only[eE,seval,↓eP,rP,Nat.add_zero],1,by simp only[eE,seval,↓eP,rP],q,hs,hq.1,hq.2,rfl⟩
 rintro i ⟨T1,H1⟩ hi ⟨rfl,t0,t1,r,t5,hc⟩
 simp only at t0 t1 t5
 cases r with
 | zero=>
  have hpq:at_+i=q:=hc
  have c1:decide (((0:Nat):Int)>0)=false:=rfl
  rw[hpq] at t1
  simp only[eE,seval,↓eP,rP,hr,t0,t1,t5,c1]
 | succ r=>
  obtain⟨p',h1,h2,h3,h4⟩:=hc
  have hle:=IF _ _ _ h4
  have c1:decide (((r+1:Nat):Int)>0)=true:=decide_eq_true (by omega)
  have c2:decide (((at_+i:Nat):Int)≥0)=true:=decide_eq_true (by omega)
  have c3:decide (((at_+i:Nat):Int)<(L.length:Int))=true:=by simp;omega
  obtain⟨x,hx,hk0,_,hch⟩:=h1.kids
  obtain⟨y,hy,hyk⟩:=hsk.2 _ x hx
  obtain⟨id,p,e0,hid,l0,l1,l2,l3,l4,lr⟩:=hv.row hy
  rw[hyk] at l4
  have hcl:=IF _ _ _ hch
  have m1:(if (L.length:Int)<x.kids then (L.length:Int) else x.kids)=x.kids:=if_neg (by omega)
  have m2:(if x.kids>0 then x.kids else 0)=x.kids:=by split <;> omega
  have w1:IntKind.i64.wrap (x.kids-1)=x.kids-1:=C8 (by omega) (by omega)
  have w2:IntKind.i64.wrap (((r+1:Nat):Int)+(x.kids-1))=((x.kids.toNat+r:Nat):Int):=by rw[C8 (by omega) (by omega)];omega
  have w3:IntKind.i64.wrap (((at_+i:Nat):Int)+1)=((at_+(i+1):Nat):Int):=by rw[C8 (by omega) (by omega)];omega
  simp only[eE,seval,↓eP,rP,t0,t1,t5,c1,c2,hl,c3,e0,l4,m1,m2,w1,w2,w3]
  exact⟨by omega,_,rfl,nL _ _ _ _ _ hch h4⟩
theorem Dr {n:Nat} {Z L:List AB} {v:Value} {at_ q:Nat} (hsk:MM L Z) (hv:A9 h v L) (hs:DV Z at_ q) (hlen:L.length<30000000000000) (hn:L.length+5<n) :
  AS n 55 [v,iv at_] h=some (iv q,h):=by
 obtain⟨n,rfl⟩:=DF hn
 exact EL (BX ⟨rfl,rfl,rfl⟩) rfl (Bj hsk hv hs hlen (by omega))
def BE (e:Nat→Nat):Nat→Nat→List Nat
 | 0,_=>[]
 | k+1,p=>p :: BE e k (e p)
theorem NV {e:Nat→Nat}:∀ k p,(BE e k p).length=k
 | 0,p=>rfl
 | k+1,p=>by show (BE e k (e p)).length+1=_;rw[NV k (e p)]
def IX (h:AA) (lo:Nat) (v:Value) (l:List Int):Prop:=
 (v=Z0∧l=[])∨∃ id c,v=qS id l.length c∧lo≤id∧id<h.next∧((c=AP∧h.get id=.row (ints l) 3 true false)∨(c=l.length∧h.get id=.row (ints l) 3 false false))
theorem IX.ints {lo lo':Nat} {v:Value} {l:List Int} (hl:IX h lo v l) (hle:lo'≤lo):AV lo' h v l:=by
 rcases hl with⟨rfl,rfl⟩ | ⟨id,c,rfl,h1,h2,⟨_,h3⟩ | ⟨_,h3⟩⟩
 ·exact AO.nil lo' h 1
 ·exact AV.row' h3 ⟨by omega,h2⟩ rfl
 ·exact AV.row' h3 ⟨by omega,h2⟩ rfl
theorem IX.mono {h':AA} {lo:Nat} {v:Value} {l:List Int} (hl:IX h lo v l) (hn:h.next≤h'.next) (hg:∀ i,lo≤i→i<h.next→h'.get i=h.get i):IX h' lo v l:=by
 rcases hl with h1 | ⟨id,c,h1,h2,h3,h4⟩
 ·exact .inl h1
 ·exact .inr ⟨id,c,h1,h2,by omega,by rw[hg id h2 h3];exact h4⟩
theorem U_:(Value.int .i64 0).cells.size=1:=rfl
theorem aB {lo:Nat} {v:Value} {l:List Int} {x:Int} (hl:IX h lo v l) (hlo:lo≤h.next) (hf:h.floor≤lo) (hb:l.length<17592186044415) :
  ∃ v' h',DS Tryd.prog (h.push (.row [iv x] 3 false false)) 27 v (qS h.next 1 1)=some (v',h')∧IX h' lo v' (l++[x])∧h'.floor=h.floor∧h.next≤h'.next∧∀ i,i<lo→h'.get i=h.get i:=by
 have hsrc:DZ (h.push (.row [iv x] 3 false false)) 1 1 (qS h.next 1 1)=some [iv x]:=by
  simp only[DZ,BP]
  rfl
 have hone:([iv x]:List Value).all one=true:=rfl
 have hi1:ints (l++[x])=ints l++[iv x]:=by simp[ints]
 rcases hl with⟨rfl,rfl⟩ | ⟨id,c,rfl,h1,h2,h3⟩
 ·have hnu:(0:Nat)≠AP:=by unfold AP;omega
  refine⟨.slice (some ⟨(h.push (.row [iv x] 3 false false)).next,0,none⟩) 1 AP,(h.push (.row [iv x] 3 false false)).push (.row [iv x] 3 true false),?_,.inr ⟨_,AP,rfl,?_,?_,.inl ⟨rfl,BP⟩⟩,rfl,by show h.next≤h.next+1+1;omega,fun i hi=>?_⟩
  ·have h0:DZ (h.push (.row [iv x] 3 false false)) 1 0 (Z0)=some []:=by simp[DZ]
   simp only[DS,Tryd.underlying27,C4,J7,IB,U_,hsrc,hone,h0]
   rw[if_pos (by simp),if_pos trivial,if_neg hnu,if_neg (by omega),if_pos (by simp)]
   rfl
  ·show lo≤h.next+1;omega
  ·show h.next+1<h.next+1+1;omega
  ·rw[AR (by show i<h.next+1;omega),AR (by omega)]
 ·have hll:(ints l).length=l.length:=GK l
  rcases h3 with⟨rfl,hg⟩ | ⟨rfl,hg⟩
  ·have hu:l.length≤AP:=by unfold AP;omega
   have hg':(h.push (.row [iv x] 3 false false)).get id=.row (ints l) 3 true false:=by rw[AR h2];exact hg
   have hcut:FN (ints l) 0 (l.length*1)=some (ints l):=by
    simp only[FN,List.drop_zero]
    rw[List.take_of_length_le (by omega),if_pos (by omega)]
   refine⟨.slice (some ⟨(h.push (.row [iv x] 3 false false)).next,0,none⟩) (l.length+1) AP,((h.push (.row [iv x] 3 false false)).put id .dead).push (.row (ints l++[iv x]) 3 true false),?_,.inr ⟨_,AP,by rw[List.length_append];rfl,?_,?_,.inl ⟨rfl,?_⟩⟩,rfl,by show h.next≤h.next+1+1;omega,fun i hi=>?_⟩
   ·simp only[DS,Tryd.underlying27,C4,J7,IB,U_,hsrc,hone,hg',hcut,PW]
    rw[if_pos (by simp;omega),if_pos trivial,if_pos trivial,if_pos (by rw[IL,decide_eq_true (show (l.length+1)*8≤140737488355328 by omega),decide_eq_true (show l.length+1≤140737488355328 by omega),decide_eq_true (show h.floor≤id by omega)];rfl),if_neg (by decide),if_pos trivial,if_pos trivial]
   ·show lo≤h.next+1;omega
   ·show h.next+1<h.next+1+1;omega
   ·rw[hi1]
    exact BP
   ·rw[AR (by show i<h.next+1;omega),AW (by show id<h.next+1;omega) (by omega),AR (by omega)]
  ·have hcut:DZ (h.push (.row [iv x] 3 false false)) 1 l.length (qS id l.length l.length)=some (ints l):=by
    by_cases h0:l.length=0
    ·rw[List.length_eq_zero_iff.1 h0]
     rfl
    ·simp only[DZ,AR h2,hg,FN,List.drop_zero]
     rw[if_neg h0,List.take_of_length_le (by omega),if_pos (by omega)]
   refine⟨.slice (some ⟨(h.push (.row [iv x] 3 false false)).next,0,none⟩) (l.length+1) AP,(h.push (.row [iv x] 3 false false)).push (.row (ints l++[iv x]) 3 true false),?_,.inr ⟨_,AP,by rw[List.length_append];rfl,?_,?_,.inl ⟨rfl,?_⟩⟩,rfl,by show h.next≤h.next+1+1;omega,fun i hi=>?_⟩
   ·simp only[DS,Tryd.underlying27,C4,J7,IB,U_,hsrc,hone,hcut]
    rw[if_pos (by simp),if_pos trivial,if_neg (by unfold AP;omega),if_neg (by omega),if_pos (by simp only[Bool.and_eq_true,decide_eq_true_eq];omega)]
   ·show lo≤h.next+1;omega
   ·show h.next+1<h.next+1+1;omega
   ·rw[hi1]
    exact BP
   ·rw[AR (by show i<h.next+1;omega),AR (by omega)]
theorem vD {n:Nat} {Z L:List AB} {v:Value} {at_:Nat} {x:AB} (ht:CH Z) (hsk:MM L Z) (hv:A9 h v L) (hx:Z[at_]?=some x) (hlen:L.length<2932031007403) (hn:L.length+10<n) (hN:L.length+3<N) (hfl:h.floor≤h.next) :
  ∃ v' h',A7 Tryd.prog (AS n) N 36 [v,iv at_] h=some (v',h')∧(IX h' h.next v' ((BE (AD Z) x.kids.toNat (at_+1)).map (fun (k:Nat)=>(k:Int)))∧h'.floor=h.floor∧h.next≤h'.next∧∀ i,i<h.next→h'.get i=h.get i):=by
 refine TG (R:=fun v' h'=>IX h' h.next v' ((BE (AD Z) x.kids.toNat (at_+1)).map (fun (k:Nat)=>(k:Int)))∧h'.floor=h.floor∧h.next≤h'.next∧∀ i,i<h.next→h'.get i=h.get i) Tryd.func36 rfl (by simp[Tryd.f36]) ?_
 have hr:Tryd.f36.results.toList=[.tmp 4]:=rfl
 have hl:=fun (h':AA)=>hv.len (h':=h')
 have hal:=(List.getElem?_eq_some_iff.1 hx).1
 have hZ:=hsk.1
 have hs:=ht.end hal
 obtain⟨x',hx',hk0,_,hch⟩:=hs.kids
 rw[hx] at hx'
 cases hx'
 have hq:=hs.lt
 have hcl:=IF _ _ _ hch
 obtain⟨y,hy,hyk⟩:=hsk.2 _ x hx
 obtain⟨id,p,e0,hid,l0,l1,l2,l3,l4,lr⟩:=hv.row hy
 rw[hyk] at l4
 have c1:decide ((at_:Int)<0)=false:=by simp
 have c2:decide ((at_:Int)≥(L.length:Int))=false:=by simp;omega
 have w1:=E_ at_ (by omega)
 simp only[eE,seval,↓eP,rP,hr,c1,hl,c2,w1,e0,l4]
 refine WK.loop (fun i s'=>s'.T.get 0=v∧s'.T.get 21=iv x.kids∧s'.T.get 22=iv i∧i≤x.kids.toNat∧h.next≤s'.h.next∧s'.h.floor=h.floor∧(∀ j,j<h.next→s'.h.get j=h.get j)∧∃ p l w,s'.T.get 6=iv ((p:Nat):Int)∧s'.T.get 5=w∧IX s'.h h.next w (l.map (fun (k:Nat)=>(k:Int)))∧l.length=i∧l++BE (AD Z) (x.kids.toNat-i) p=BE (AD Z) x.kids.toNat (at_+1)∧ER Z (x.kids.toNat-i) p (AD Z at_)) x.kids.toNat (by omega) ?_ ?_
 ·exact⟨by simp only[eE,seval,↓eP,rP],by simp only[eE,seval,↓eP,rP],by simp only[eE,seval,↓eP,rP],by omega,Nat.le_refl _,rfl,fun _ _=>rfl,at_+1,[],Z0,by simp only[eE,seval,↓eP,rP],by simp only[eE,seval,↓eP,rP],.inl ⟨rfl,rfl⟩,rfl,rfl,hch⟩
 rintro i ⟨T1,H1⟩ hi ⟨t0,t21,t22,hil,m1,m2,m3,p,l,w,t6,t5,hL,hll,hlk,hc⟩
 simp only at t0 t21 t22 m1 m2 m3 t6 t5 hL
 by_cases hlt:i<x.kids.toNat
 ·have d1:decide ((i:Int)<x.kids)=true:=by simp;omega
  obtain⟨r,hr1⟩:∃ r,x.kids.toNat-i=r+1:=⟨x.kids.toNat-i-1,by omega⟩
  rw[hr1] at hc hlk
  obtain⟨p',s1,s2,s3,s4⟩:=hc
  have hle:=IF _ _ _ s4
  have d2:decide ((p:Int)≥(L.length:Int))=false:=by simp;omega
  have hep:=IP s1
  obtain⟨w',H',happ,hL',fH,nH,oH⟩:=aB (x:=(p:Int)) hL m1 (by omega) (by rw[List.length_map];omega)
  have hvH:A9 H' v L:=hv.mono (by omega) fun j hj=>(oH j hj).trans (m3 j hj)
  have hend:=Dr (n:=n) hsk hvH s1 (by omega) (by omega)
  have w2:=E_ i (by omega)
  simp only[eE,seval,↓eP,t0,t21,t22,t5,t6,d1,hl,d2,NQ,happ,hend,w2]
  refine⟨hlt,by omega,by omega,by omega,fun j hj=>(oH j hj).trans (m3 j hj),p',l++[p],w',rfl,rfl,?_,by rw[List.length_append,hll];rfl,?_,?_⟩
  ·rw[List.map_append]
   exact hL'
  ·rw[List.append_assoc,← hlk,show x.kids.toNat-(i+1)=r by omega]
   show l++(p :: BE (AD Z) r p')=l++(p :: BE (AD Z) r (AD Z p))
   rw[hep]
  ·rw[show x.kids.toNat-(i+1)=r by omega]
   exact s4
 ·have d1:decide ((i:Int)<x.kids)=false:=by simp;omega
  rw[show x.kids.toNat-i=0 by omega] at hlk
  have hl9:l=BE (AD Z) x.kids.toNat (at_+1):=by
   rw[← hlk]
   exact(List.append_nil l).symm
  subst hl9
  simp only[eE,seval,↓eP,hr,t0,t21,t22,t5,t6,d1]
  exact⟨hL,m2,m1,m3⟩
theorem IX.flat {lo:Nat} {v:Value} {l:List Int} (hl:IX h lo v l) (hf:EJ v=true) (h':AA) (lo':Nat):IX h' lo' v l:=by
 rcases hl with h1 | ⟨id,c,rfl,_⟩
 ·exact .inl h1
 ·cases hf
theorem XZ {n:Nat} {Z L:List AB} {v:Value} {at_:Nat} {x:AB} (ht:CH Z) (hsk:MM L Z) (hv:A9 h v L) (hx:Z[at_]?=some x) (hlen:L.length<2932031007403) (hn:L.length+20<n) (hfl:h.floor≤h.next) :
  ∃ v' h',AS n 36 [v,iv at_] h=some (v',h')∧(IX h' h.next v' ((BE (AD Z) x.kids.toNat (at_+1)).map (fun (k:Nat)=>(k:Int)))∧h'.floor=h.floor∧h.next≤h'.next∧∀ i,i<h.next→h'.get i=h.get i):=by
 obtain⟨n,rfl⟩:=DF hn
 exact PY (BX ⟨rfl,rfl,rfl⟩) (vD (n:=n) (N:=n) ht hsk hv hx hlen (by omega) (by omega) hfl) fun v' h1 hf _ ht=>⟨ht.1.flat hf _ _,rfl,Nat.le_refl _,fun _ _=>rfl⟩
end
section
variable {l:List AB} {m:Nat}
theorem YL {p:Nat} {what:Int} (h:(BG AU l m p what).2=true):∃ y:AB,l[p]?=some y∧B9 what y.kind=true∧DH AU y=true:=by
 cases m with
 | zero=>cases h
 | succ m=>
  unfold BG at h
  cases hx:l[p]? with
  | none=>rw[hx] at h;cases h
  | some y=>
   rw[hx] at h
   simp only at h
   split at h
   ·rename_i hc
    rw[Bool.and_eq_true] at hc
    exact⟨y,rfl,hc.1,hc.2⟩
   ·cases h
theorem jT {κ:Int}:∀ r k p q,EB (fun k next=>BG AU l m next (BH κ k)) r k p=(q,true)→∀ (j p':Nat),(BE (AD l) r p)[j]?=some p'→∃ y:AB,l[p']?=some y∧B9 (BH κ (k+j)) y.kind=true:=by
 intro r
 induction r with
 | zero=>intro k p q _ j p' h;simp[BE] at h
 | succ r ih=>
  intro k p q h j p' hj
  unfold EB at h
  split at h
  ·rename_i hc
   have he:AD l p=(BG AU l m p (BH κ k)).1:=IP (.inl ⟨m,BH κ k,Prod.ext rfl hc⟩)
   cases j with
   | zero=>
    have:p=p':=by simpa [BE] using hj
    subst this
    obtain⟨y,h1,h2,_⟩:=YL hc
    exact⟨y,h1,h2⟩
   | succ j=>
    have hj':(BE (AD l) r (AD l p))[j]?=some p':=by simpa [BE] using hj
    rw[he] at hj'
    have:=ih (k+1) _ _ h j p' hj'
    rwa [show k+1+j=k+(j+1) by omega] at this
  ·cases h
theorem rX:∀ (r:Nat) (ev:Bool) (p q:Nat),DX AU l m r ev p=(q,true)→∀ (j p':Nat),(BE (AD l) r p)[j]?=some p'→∃ y:AB,l[p']?=some y∧2≤y.kind∧y.kind≤10:=by
 intro r
 induction r with
 | zero=>intro k p q _ j p' h;simp[BE] at h
 | succ r ih=>
  intro ev p q h j p' hj
  unfold DX at h
  split at h
  ·rename_i hc
   have he:AD l p=(BG AU l m p (F8 ev l[p]?)).1:=IP (.inl ⟨m,_,Prod.ext rfl hc⟩)
   cases j with
   | zero=>
    have:p=p':=by simpa [BE] using hj
    subst this
    obtain⟨y,h1,h2,_⟩:=YL hc
    refine⟨y,h1,?_⟩
    unfold F8 at h2
    split at h2
    ·unfold B9 at h2
     simp at h2
     omega
    ·unfold B9 at h2
     simp at h2
     omega
   | succ j=>
    have hj':(BE (AD l) r (AD l p))[j]?=some p':=by simpa [BE] using hj
    rw[he] at hj'
    exact ih _ _ _ h j p' hj'
  ·cases h
theorem CH.kid {i:Nat} {x:AB} (ht:CH l) (hx:l[i]?=some x) {k p:Nat} (hk:(BE (AD l) x.kids.toNat (i+1))[k]?=some p):∃ y:AB,l[p]?=some y∧(B9 (BH x.kind k) y.kind=true∨(2≤y.kind∧y.kind≤10)):=by
 obtain⟨q,hq⟩:∃ q,DV l i q:=⟨_,ht.end (List.getElem?_eq_some_iff.1 hx).1⟩
 rcases hq with⟨m,what,h⟩ | ⟨rfl,m,h⟩
 ·cases m with
  | zero=>cases h
  | succ m=>
   unfold BG at h
   rw[hx] at h
   simp only at h
   split at h
   ·obtain⟨y,h1,h2⟩:=jT _ _ _ _ h k p hk
    rw[Nat.zero_add] at h2
    exact⟨y,h1,.inl h2⟩
   ·cases h
 ·unfold FR at h
  rw[hx] at h
  simp only at h
  split at h
  ·obtain⟨y,h1,h2⟩:=rX _ _ _ _ h k p hk
   exact⟨y,h1,.inr h2⟩
  ·cases h
theorem CH.fit {i:Nat} {x:AB} (ht:CH l) (hx:l[i]?=some x):DH AU x=true:=by
 obtain⟨q,hq⟩:∃ q,DV l i q:=⟨_,ht.end (List.getElem?_eq_some_iff.1 hx).1⟩
 rcases hq with⟨m,what,h⟩ | ⟨rfl,m,h⟩
 ·obtain⟨y,h1,_,h3⟩:=YL (congrArg (·.2) h)
  rw[hx] at h1
  cases h1
  exact h3
 ·unfold FR at h
  rw[hx] at h
  simp only at h
  split at h
  ·rename_i hc
   rw[Bool.and_eq_true] at hc
   exact hc.2
  ·cases h
theorem CH.place {i:Nat} {x y:AB} (ht:CH l) (hx:l[i]?=some x) {k p:Nat} (hk:(BE (AD l) x.kids.toNat (i+1))[k]?=some p) (hy:l[p]?=some y) (hp:y.kind=24):p=i+1∧(x.kind=19∨x.kind=20):=by
 obtain⟨y',h1,h2⟩:=ht.kid hx hk
 rw[hy] at h1
 cases h1
 have hf:=ht.fit hx
 unfold DH at hf
 simp only[Bool.and_eq_true,decide_eq_true_eq,Bool.or_eq_true] at hf
 obtain⟨⟨_,hl⟩,hm⟩:=hf
 have h19:x.kind=19∨x.kind=20:=by
  rcases h2 with h2 | h2
  ·rw[hp] at h2
   unfold BH at h2
   by_cases e1:x.kind=19
   ·exact .inl e1
   ·by_cases e2:x.kind=20
    ·exact .inr e2
    ·exfalso
     have c6:([19,20]:List Int).contains x.kind=false:=by simp[e1,e2]
     rw[c6] at h2
     (repeat' split at h2) <;> first | (simp[B9] at h2;done) | simp_all [B9]
  ·omega
 have hm1:x.kids≤1:=by
  rcases h19 with e | e <;> (rw[e] at hm;rcases hm with hm | hm <;> simp[CV] at hm <;> omega)
 have hkl:=(List.getElem?_eq_some_iff.1 hk).1
 rw[NV] at hkl
 have hk0:k=0:=by omega
 subst hk0
 obtain⟨r,hr⟩:∃ r,x.kids.toNat=r+1:=⟨x.kids.toNat-1,by omega⟩
 rw[hr] at hk
 have:i+1=p:=by simpa [BE] using hk
 exact⟨this.symm,h19⟩
theorem cI:∀ (r p q:Nat),ER l r p q→∀ at_,p≤at_→at_<q→∃ (j p':Nat),(BE (AD l) r p)[j]?=some p'∧p≤p'∧p'≤at_∧at_<AD l p':=by
 intro r
 induction r with
 | zero=>intro p q h at_ h1 h2;have:p=q:=h;omega
 | succ r ih=>
  intro p q ⟨p',s1,s2,s3,s4⟩ at_ h1 h2
  have he:=IP s1
  rcases Nat.lt_or_ge at_ p' with h3 | h3
  ·exact⟨0,p,by simp[BE],Nat.le_refl _,h1,by omega⟩
  ·obtain⟨j,p2,j1,j2,j3,j4⟩:=ih p' q s4 at_ h3 h2
   refine⟨j+1,p2,?_,by omega,j3,j4⟩
   show (p :: BE (AD l) r (AD l p))[j+1]?=_
   rw[he]
   exact j1
theorem CH.kidOf (ht:CH l):∀ (n i at_:Nat),at_≤i+n→i<at_→at_<AD l i→i<l.length→∃ (j:Nat) (x:AB) (k:Nat),l[j]?=some x∧j<at_∧(BE (AD l) x.kids.toNat (j+1))[k]?=some at_:=by
 intro n
 induction n with
 | zero=>intro i at_ h1 h2;omega
 | succ n ih=>
  intro i at_ h1 h2 h3 h4
  obtain⟨x,hx,_,_,hc⟩:=(ht.end h4).kids
  obtain⟨j,p,j1,j2,j3,j4⟩:=cI _ _ _ hc at_ (by omega) h3
  rcases Nat.lt_or_ge p at_ with h5 | h5
  ·have hpl:p<l.length:=by
    obtain⟨y,hy,_⟩:=ht.kid hx j1
    exact(List.getElem?_eq_some_iff.1 hy).1
   exact ih p at_ (by omega) h5 j4 hpl
  ·obtain rfl:p=at_:=by omega
   exact⟨i,x,j,hx,h2,j1⟩
end
def BS (k:Int):Int:=
 if [27,28,31,32,33,34,38,39,40,41,43,44,45,46].contains k then 1 else if [29,30,35,36,37,42,47,48,49,50,51,52,53,54].contains k then 2 else 0
def EY (kind:Int) (k:Nat) (first:Int):Int:=
 if [4,5,14,41,39,40,43,44,45,46,49,50,51,52].contains kind then 1 else if kind=15 then (if k=1 then 1 else 0) else if [6,42,53,54].contains kind then 2
 else if kind=12 then (if k=0 then 2 else 0) else if kind=13 then (if k=0 then 1 else if k=1 then 2 else 0) else if [47,48].contains kind then (if k=1 then first else 0) else 0
def JM (k:Int):Bool:=[28,31,34,35,36,37,38].contains k
def JP (kind:Int) (k:Nat):Bool:=[4,5,6].contains kind||(kind==13&&k==0)
def K6 (Q:List (ByteArray × Bool)) (n:Int):Bool:=((Q[n.toNat]?).map (·.2)).getD false
def JJ (Q:List (ByteArray × Bool)) (x up:AB):Bool:=
 if [8,17,20].contains x.kind then K6 Q x.n else if [9,21].contains x.kind then !(K6 Q x.n)
 else if x.kind=24 then (if up.kind=20 then !(K6 Q x.n) else K6 Q x.n != K6 Q up.n) else false
structure GS where
 A:List Int
 C:List Bool
 U:List Int
def HJ (i:Nat) (x:AB) (first:Int) (s:GS) (k p:Nat):GS:=⟨s.A.set p (EY x.kind k first),s.C.set p (((s.C[i]?).getD false)||JP x.kind k),s.U.set p (i:Int)⟩
def GU (i:Nat) (x:AB) (first:Int):Nat→List Nat→GS→GS
 | _,[],s=>s
 | k,p :: ps,s=>GU i x first (k+1) ps (HJ i x first s k p)
def JH (R:List AB) (e:Nat→Nat) (i:Nat) (s:GS):GS:=match R[i]? with
 | none=>s
 | some x=>GU i x (BS (((R[i+1]?).map (·.kind)).getD 0)) 0 (BE e x.kids.toNat (i+1)) s
def BM (R:List AB) (e:Nat→Nat):Nat→GS
 | 0=>⟨List.replicate R.length 0,List.replicate R.length false,List.replicate R.length 0⟩
 | i+1=>JH R e i (BM R e i)
def GM (R:List AB) (Q:List (ByteArray × Bool)) (s:GS) (i:Nat) (x:AB):Int:=
 if ((s.A[i]?).getD 0)≠0∧BS x.kind≠(s.A[i]?).getD 0 then 41 else if ((s.C[i]?).getD false&&JM x.kind)=true then 42
 else if JJ Q x ((R[((s.U[i]?).getD 0).toNat]?).getD ⟨0,ByteArray.empty,0,0,0⟩)=true then 46 else 0
def E5 (R:List AB) (Q:List (ByteArray × Bool)) (e:Nat→Nat):Nat→Nat→(Int × Int) × List Int
 | 0,_=>((0,0),R.map (BS ·.kind))
 | r+1,i=>match R[i]? with
  | none=>((0,0),R.map (BS ·.kind))
  | some x=>if GM R Q (BM R e i) i x≠0 then ((GM R Q (BM R e i) i x,(i:Int)),[]) else E5 R Q e r (i+1)
section
variable {i:Nat} {x:AB} {first:Int}
theorem dJ:∀ (ps:List Nat) (k:Nat) (s:GS),(GU i x first k ps s).A.length=s.A.length∧(GU i x first k ps s).C.length=s.C.length∧(GU i x first k ps s).U.length=s.U.length
 | [],k,s=>⟨rfl,rfl,rfl⟩
 | p :: ps,k,s=>by
  have:=dJ ps (k+1) (HJ i x first s k p)
  simpa [GU,HJ] using this
theorem T6:∀ (ps:List Nat) (k:Nat) (s:GS) (q:Nat),q∉ps→(GU i x first k ps s).A[q]?=s.A[q]?∧(GU i x first k ps s).C[q]?=s.C[q]?∧(GU i x first k ps s).U[q]?=s.U[q]?
 | [],k,s,q,_=>⟨rfl,rfl,rfl⟩
 | p :: ps,k,s,q,h=>by
  have h1:q≠p:=fun e=>h (by rw[e];exact List.mem_cons_self)
  have h2:q∉ps:=fun e=>h (List.mem_cons_of_mem _ e)
  obtain⟨a,b,c⟩:=T6 ps (k+1) (HJ i x first s k p) q h2
  refine⟨a.trans ?_,b.trans ?_,c.trans ?_⟩
  ·exact List.getElem?_set_ne (Ne.symm h1)
  ·exact List.getElem?_set_ne (Ne.symm h1)
  ·exact List.getElem?_set_ne (Ne.symm h1)
theorem rC:∀ (ps:List Nat) (k:Nat) (s:GS) (q:Nat),q∈ps→q<s.U.length→(GU i x first k ps s).U[q]?=some (i:Int)
 | [],k,s,q,h,_=>by cases h
 | p :: ps,k,s,q,h,hq=>by
  by_cases h2:q∈ps
  ·exact rC ps (k+1) (HJ i x first s k p) q h2 (by simpa [HJ] using hq)
  ·have h1:q=p:=by
    rcases List.mem_cons.1 h with h | h
    ·exact h
    ·exact absurd h h2
   subst h1
   exact(T6 ps (k+1) (HJ i x first s k q) q h2).2.2.trans (List.getElem?_set_self hq)
end
theorem R6 {l:List AB}:∀ r p q,ER l r p q→∀ z∈BE (AD l) r p,p≤z
 | 0,p,q,_,z,hz=>by cases hz
 | r+1,p,q,⟨p',s1,s2,s3,s4⟩,z,hz=>by
  have hz':z=p∨z∈BE (AD l) r (AD l p):=by simpa [BE] using hz
  rcases hz' with rfl | hz'
  ·exact Nat.le_refl _
  ·rw[IP s1] at hz'
   have:=R6 r p' q s4 z hz'
   omega
section
variable {R:List AB}
theorem TM (e:Nat→Nat):∀ i,(BM R e i).A.length=R.length∧(BM R e i).C.length=R.length∧(BM R e i).U.length=R.length
 | 0=>by simp[BM]
 | i+1=>by
  have h:=TM e i
  unfold BM JH
  cases hx:R[i]? with
  | none=>exact h
  | some x=>
   have:=dJ (i:=i) (x:=x) (first:=BS (((R[i+1]?).map (·.kind)).getD 0)) (BE e x.kids.toNat (i+1)) 0 (BM R e i)
   exact⟨this.1.trans h.1,this.2.1.trans h.2.1,this.2.2.trans h.2.2⟩
theorem uI (ht:CH R) {at_:Nat} {y:AB} (hy:R[at_]?=some y) (h24:y.kind=24) (h0:0<at_):(BM R (AD R) at_).U[at_]?=some ((at_-1:Nat):Int):=by
 have hl:=(List.getElem?_eq_some_iff.1 hy).1
 have h0l:AD R 0=R.length:=IP ht
 obtain⟨j,x,k,hx,hj,hk⟩:=ht.kidOf at_ 0 at_ (by omega) h0 (by omega) (by omega)
 obtain⟨hp,_⟩:=ht.place hx hk hy h24
 obtain⟨i,rfl⟩:∃ i,at_=i+1:=⟨at_-1,by omega⟩
 obtain rfl:j=i:=by omega
 rw[Nat.add_sub_cancel]
 unfold BM JH
 rw[hx]
 exact rC _ 0 _ _ (List.mem_of_getElem? hk) (by rw[(TM (AD R) j).2.2];exact hl)
end
def N9 (s:AL) (k n:Int) (nm:ByteArray):Prop:=
 0≤n∧((k=1∧∃ b,s.queues[n.toNat]?=some (nm,b))∨(k=2∧s.vars[n.toNat]?=some nm)∨(k=3∧s.tags[n.toNat]?=some nm)∨(k=4∧∃ ru:Nat,s.rules[n.toNat]?=some ((ru:Int)+1)∧∃ y:AB,s.rows[ru]?=some y∧y.name=nm))
structure O8 (s s':AL):Prop where
 q:∀ (i:Nat) x,s.queues[i]?=some x→s'.queues[i]?=some x
 v:∀ (i:Nat) x,s.vars[i]?=some x→s'.vars[i]?=some x
 t:∀ (i:Nat) x,s.tags[i]?=some x→s'.tags[i]?=some x
 u:∀ (i:Nat) x,s.rules[i]?=some x→s'.rules[i]?=some x
 r:∀ (i:Nat) (y:AB),s.rows[i]?=some y→∃ y':AB,s'.rows[i]?=some y'∧y'.name=y.name
theorem N9.up {s s':AL} {k n:Int} {nm:ByteArray} (h:N9 s k n nm) (hu:O8 s s'):N9 s' k n nm:=by
 refine⟨h.1,?_⟩
 rcases h.2 with⟨h1,b,h2⟩ | ⟨h1,h2⟩ | ⟨h1,h2⟩ | ⟨h1,ru,h2,y,h3,h4⟩
 ·exact .inl ⟨h1,b,hu.q _ _ h2⟩
 ·exact .inr (.inl ⟨h1,hu.v _ _ h2⟩)
 ·exact .inr (.inr (.inl ⟨h1,hu.t _ _ h2⟩))
 ·obtain⟨y',h5,h6⟩:=hu.r _ _ h3
  exact .inr (.inr (.inr ⟨h1,ru,hu.u _ _ h2,y',h5,h6.trans h4⟩))
theorem UZ {α:Type} {l:List α} {i:Nat} {x y:α} (h:l[i]?=some x):(l++[y])[i]?=some x:=by rw[List.getElem?_append_left (List.getElem?_eq_some_iff.1 h).1];exact h
theorem qT {l:List AB} {k i:Nat} {n:Int} {y:AB} (h:l[i]?=some y):∃ y':AB,(GF l k n)[i]?=some y'∧y'.name=y.name:=by
 by_cases hi:i=k
 ·subst hi
  exact⟨_,JY h,rfl⟩
 ·exact⟨y,(M3 hi).trans h,rfl⟩
theorem dU {k:Int} (h:EE k≠0):BO k=0:=by
 unfold BO
 unfold EE at h
 split
 ·rename_i h1
  simp only[List.contains_cons,List.contains_nil,Bool.or_false,Bool.or_eq_true,beq_iff_eq] at h1
  rcases h1 with rfl | rfl <;> exact absurd rfl h
 split
 ·subst k;exact absurd rfl h
 split
 ·subst k;exact absurd rfl h
 split
 ·subst k;exact absurd rfl h
 rfl
def KL (k:Int):Int:=EE k+BO k
theorem Dg {k:Int} (h:KL k=0):EE k=0∧BO k=0:=by
 have:=p_ k
 have:=QK k
 unfold KL at h
 omega
structure KP (l:List AB) (at_:Nat) (s:AL):Prop where
 rows:∀ (i:Nat) (x:AB),i<at_→s.rows[i]?=some x→(KL x.kind=0→l[i]?=some x)∧(KL x.kind≠0→N9 s (KL x.kind) x.n x.name)
 things:∀ t∈s.things,N9 s t.kind t.num t.name
theorem KP.up {l:List AB} {at_:Nat} {s s':AL} (h:KP l at_ s) (hu:O8 s s') (hr:∀ i,i<at_→s'.rows[i]?=s.rows[i]?) (ht:∀ t∈s'.things,t∈s.things∨N9 s' t.kind t.num t.name):KP l at_ s' where
 rows:=fun i x hi hx=>by
  rw[hr i hi] at hx
  obtain⟨h1,h2⟩:=h.rows i x hi hx
  exact⟨h1,fun h3=>(h2 h3).up hu⟩
 things:=fun t h1=>by
  rcases ht t h1 with h2 | h2
  ·exact(h.things t h2).up hu
  ·exact h2
theorem Fk {at_:Nat} {end_:Int} {x:AB} {s:AL}:O8 s (EU at_ end_ x s) where
 q:=fun i y h=>by simp only[EU];split;(first | exact UZ h | exact h);exact h
 v:=fun i y h=>by simp only[EU];split;(first | exact UZ h | exact h);exact h
 t:=fun i y h=>by simp only[EU];split;(first | exact UZ h | exact h);exact h
 u:=fun i y h=>by simp only[EU];split;(first | exact UZ h | exact h);exact h
 r:=fun i y h=>qT h
theorem Dy (s:AL):O8 s s:=⟨fun _ _ h=>h,fun _ _ h=>h,fun _ _ h=>h,fun _ _ h=>h,fun _ y h=>⟨y,h,rfl⟩⟩
theorem VK {α:Type} (l:List α) (y:α):(l++[y])[l.length]?=some y:=by simp
theorem wX {at_:Nat} {end_:Int} {x:AB} {s:AL} (hx:s.rows[at_]?=some x) (hd:BO x.kind≠0):N9 (EU at_ end_ x s) (BO x.kind) (BV s (BO x.kind)) x.name:=by
 have hk:=QK x.kind
 refine⟨by omega,?_⟩
 rw[Int.toNat_natCast]
 have hc:BO x.kind=1∨BO x.kind=2∨BO x.kind=3∨BO x.kind=4:=by omega
 rcases hc with e | e | e | e
 ·refine .inl ⟨e,x.kind==3,?_⟩
  simp only[EU,BV,e]
  exact VK _ _
 ·refine .inr (.inl ⟨e,?_⟩)
  simp only[EU,BV,e]
  exact VK _ _
 ·refine .inr (.inr (.inl ⟨e,?_⟩))
  simp only[EU,BV,e]
  exact VK _ _
 ·refine .inr (.inr (.inr ⟨e,at_,?_,_,JY hx,rfl⟩))
  simp only[EU,BV,e]
  exact VK _ _
theorem Jd {l:List AB} {at_:Nat} {end_:Int} {x:AB} {s:AL} (h:KP l at_ s) (hx:s.rows[at_]?=some x) :
  KP l at_ (BK at_ end_ x s)∧∃ n,(BK at_ end_ x s).rows[at_]?=some { x with n:=n }∧(BO x.kind=0→n=x.n)∧(BO x.kind≠0→N9 (BK at_ end_ x s) (BO x.kind) n x.name):=by
 unfold BK
 by_cases d0:BO x.kind=0
 ·rw[if_pos d0]
  exact⟨h,x.n,hx,fun _=>rfl,fun h1=>absurd d0 h1⟩
 ·rw[if_neg d0]
  have hs:=wX (end_:=end_) hx d0
  refine⟨h.up Fk (fun i hi=>M3 (by omega)) fun t ht=>?_,_,JY hx,fun h1=>absurd h1 d0,fun _=>hs⟩
  simp only[EU,List.mem_append,List.mem_cons,List.not_mem_nil,or_false] at ht
  rcases ht with h1 | rfl
  ·exact .inl h1
  ·exact .inr hs
theorem Ce {l:List AB} {at_:Nat} {x:AB} {s:AL} (h:KP l at_ s) (hx:s.rows[at_]?=some x) (hc:DL at_ x s=0) :
  KP l at_ (B0 at_ x s)∧O8 s (B0 at_ x s)∧∃ n,(B0 at_ x s).rows[at_]?=some { x with n:=n }∧(EE x.kind=0→n=x.n)∧(EE x.kind≠0→N9 (B0 at_ x s) (EE x.kind) n x.name):=by
 unfold B0
 unfold DL at hc
 by_cases d0:EE x.kind=0
 ·rw[if_pos d0]
  exact⟨h,Dy s,x.n,hx,fun _=>rfl,fun h1=>absurd d0 h1⟩
 ·rw [if_neg d0] at hc ⊢
  cases hf:F2 s.things x.name with
  | none=>simp only[hf] at hc;cases hc
  | some t=>
   simp only[hf] at hc ⊢
   have hk:t.kind=EE x.kind:=by
    split at hc
    ·cases hc
    ·split at hc
     ·cases hc
     ·rename_i h;simpa using h
   have hnm:t.name=x.name:=by
    have:=List.find?_some hf
    exact(NE this).symm
   have hu:O8 s { s with rows:=GF s.rows at_ t.num }:=⟨fun _ _ h=>h,fun _ _ h=>h,fun _ _ h=>h,fun _ _ h=>h,fun _ y h=>qT h⟩
   have hs:=(h.things t (Z4 hf)).up hu
   rw[hk,hnm] at hs
   exact⟨h.up hu (fun i hi=>M3 (by omega)) fun t ht=>.inl ht,hu,_,JY hx,fun h1=>absurd h1 d0,fun _=>hs⟩
theorem uM {l:List AB} {E:List Int} {at_:Nat} {s:AL} (hat:at_<l.length) (hi:HR l at_ s) (h:KP l at_ s) (h0:(E2 E at_ s).1=0):KP l (at_+1) (E2 E at_ s).2:=by
 obtain⟨x,hx⟩:∃ x,s.rows[at_]?=some x:=⟨_,List.getElem?_eq_getElem (by rw[hi.len];exact hat)⟩
 have hxl:l[at_]?=some x:=by rw[← hi.later at_ (Nat.le_refl _)];exact hx
 unfold E2 at h0 ⊢
 rw[hx] at h0 ⊢
 simp only at h0 ⊢
 by_cases hd:EZ x s=0
 case neg=>rw[if_pos hd] at h0;exact absurd h0 hd
 rw[if_neg (by simpa using hd)] at h0 ⊢
 obtain⟨t1,k1,r1,a1,b1⟩:=Jd (end_:=(E[at_]?).getD 0) h hx
 generalize BK at_ ((E[at_]?).getD 0) x s=s1 at *
 rw[r1] at h0 ⊢
 simp only at h0 ⊢
 by_cases hc:DL at_ { x with n:=k1 } s1=0
 case neg=>rw[if_pos hc] at h0;exact absurd h0 hc
 rw[if_neg (by simpa using hc)] at h0 ⊢
 obtain⟨t2,u2,k2,r2,a2,b2⟩:=Ce t1 r1 hc
 simp only at r2 a2 b2
 generalize B0 at_ { x with n:=k1 } s1=s2 at *
 rw[r2] at h0 ⊢
 simp only at h0 ⊢
 by_cases hv:E8 { x with n:=k2 } s2=0
 case neg=>rw[if_pos hv] at h0;exact absurd h0 hv
 rw[if_neg (by simpa using hv)] at h0 ⊢
 have hev:(D9 at_ { x with n:=k2 } s2).queues=s2.queues∧(D9 at_ { x with n:=k2 } s2).vars=s2.vars∧(D9 at_ { x with n:=k2 } s2).tags=s2.tags∧(D9 at_ { x with n:=k2 } s2).rules=s2.rules∧(D9 at_ { x with n:=k2 } s2).rows=s2.rows∧(D9 at_ { x with n:=k2 } s2).things=s2.things:=by
  unfold D9
  split
  ·exact⟨rfl,rfl,rfl,rfl,rfl,rfl⟩
  ·split <;> exact⟨rfl,rfl,rfl,rfl,rfl,rfl⟩
 obtain⟨e1,e2,e3,e4,e5,e6⟩:=hev
 generalize D9 at_ { x with n:=k2 } s2=s3 at *
 have hu3:O8 s2 s3:=⟨fun i y h=>by rw[e1];exact h,fun i y h=>by rw[e2];exact h,fun i y h=>by rw[e3];exact h,fun i y h=>by rw[e4];exact h,fun i y h=>⟨y,by rw[e5];exact h,rfl⟩⟩
 have t3:KP l at_ s3:=t2.up hu3 (fun i _=>by rw[e5]) fun t ht=>.inl (by rw[← e6];exact ht)
 refine⟨fun i y hi' hy=>?_,t3.things⟩
 by_cases hia:i=at_
 ·subst hia
  rw[e5,r2] at hy
  cases hy
  simp only
  refine⟨fun h1=>?_,fun h1=>?_⟩
  ·obtain⟨h2,h3⟩:=Dg h1
   rw[a2 h2,a1 h3]
   exact hxl
  ·by_cases c0:EE x.kind=0
   ·have d0:BO x.kind≠0:=fun h2=>h1 (by unfold KL;omega)
    rw[show KL x.kind=BO x.kind by unfold KL;omega,a2 c0]
    exact((b1 d0).up u2).up hu3
   ·rw[show KL x.kind=EE x.kind by unfold KL;rw[dU c0];omega]
    exact(b2 c0).up hu3
 ·exact t3.rows i y (by omega) hy
theorem l9 {l:List AB} {E:List Int} (ht:CH l) (hE:∀ i:Nat,0≤(E[i]?).getD 0):∀ r at_ s,at_+r=l.length→HR l at_ s→KP l at_ s→(DP E r at_ s).1=0→KP l l.length (DP E r at_ s).2.2
 | 0,at_,s,hr,hi,h,_=>by
  have:at_=l.length:=by omega
  subst this
  exact h
 | r+1,at_,s,hr,hi,h,h0=>by
  unfold DP at h0 ⊢
  by_cases h9:(E2 E at_ s).1=0
  ·rw[if_neg (by simpa using h9)] at h0 ⊢
   exact l9 ht hE r (at_+1) _ (by omega) (VQ ht (hE at_) (by omega) hi h9) (uM (by omega) hi h h9) h0
  ·rw[if_pos h9] at h0
   exact absurd h0 h9
theorem o_ {l:List AB} (h:(BJ l).1.1=0):KP l l.length (BJ l).2:=by
 obtain⟨ht,_,hg,_,he,_⟩:=N3 h
 rw[he]
 exact l9 ht WQ l.length 0 (CP l) (by omega) (XW l) ⟨fun i x hi=>by omega,fun t ht=>by simp[CP] at ht⟩ hg
theorem Ba {x:AB} (h:DH AU x=true):(x.kind≠27→x.n=0)∧0≤x.n:=by
 unfold DH at h
 simp only[Bool.and_eq_true,Bool.or_eq_true,beq_iff_eq,decide_eq_true_eq] at h
 obtain⟨⟨⟨⟨⟨_,_⟩,_⟩,h1⟩,_⟩,_⟩:=h
 rcases h1 with h1 | ⟨⟨h1,h2⟩,_⟩
 ·exact⟨fun _=>h1,by omega⟩
 ·exact⟨fun h3=>absurd h1 h3,by omega⟩
theorem iZ {l:List AB} (h:(BJ l).1.1=0):BB (BJ l).2.rows=l:=by
 have hm:=o_ h
 obtain⟨ht,_,_,_,_,hi⟩:=N3 h
 apply List.ext_getElem?
 intro i
 rw[BB,List.getElem?_map]
 rcases Nat.lt_or_ge i l.length with h1 | h1
 ·obtain⟨x,hx⟩:∃ x,(BJ l).2.rows[i]?=some x:=⟨_,List.getElem?_eq_getElem (by rw[hi.len];exact h1)⟩
  obtain⟨y,hy,hxy⟩:=hi.same i x hx
  rw[hx,hy]
  simp only[Option.map_some,Option.some.injEq]
  have hkind:x.kind=y.kind:=by rw[hxy]
  unfold K9
  by_cases h27:x.kind=27
  ·rw[if_neg (by simpa using h27)]
   have:=(hm.rows i x h1 hx).1 (by rw[h27];rfl)
   rw[hy] at this
   exact(Option.some.inj this).symm
  ·rw[if_pos h27,hxy]
   have:=(Ba (ht.row hy).1).1 (by rw[← hkind];exact h27)
   show { y with n:=0 }=y
   rw[← this]
 ·rw[List.getElem?_eq_none (by rw[hi.len];exact h1),List.getElem?_eq_none h1]
  rfl
theorem Aa {l:List AB} (h:(BJ l).1.1=0):U2 (K4 l) (BJ l).2:=by
 unfold U2
 rw[iZ h,R4 h]
 exact⟨h,vB _ _⟩
theorem eF {l:List AB} (h:(BJ l).1.1=0):FK (K4 l) (BJ l).2=0:=if_pos (Aa h)
def aS (L Z:List AB):Prop:=∀ (i:Nat) (z:AB),Z[i]?=some z→∃ x:AB,L[i]?=some x∧x.kind=z.kind
structure DN (Z:List AB) (s:AL):Prop where
 t:CH Z
 sk:MM s.rows Z
 kk:aS s.rows Z
 ks:∀ (i:Nat) (x:AB),s.rows[i]?=some x→1≤x.kind∧x.kind≤54
 qn:∀ (i:Nat) (x:AB),s.rows[i]?=some x→EE x.kind=1→0≤x.n∧x.n<s.queues.length
 root:∃ z:AB,Z[0]?=some z∧z.kind=1
 num:∀ (i:Nat) (x:AB),s.rows[i]?=some x→x.kind=27→0≤x.n∧x.n≤1073741824
theorem b_ (x:AB):(K9 x).kind=x.kind∧(K9 x).kids=x.kids:=by unfold K9;split <;> exact⟨rfl,rfl⟩
theorem X6 {l:List AB} {i:Nat} {z:AB} (h:(BB l)[i]?=some z):∃ x,l[i]?=some x∧z=K9 x:=by
 unfold BB at h
 rw[List.getElem?_map] at h
 cases hx:l[i]? with
 | none=>rw[hx] at h;cases h
 | some x=>rw[hx] at h;cases h;exact⟨x,rfl,rfl⟩
theorem Fm {l:List AB} (h:IH AU l=none):∃ z:AB,l[0]?=some z∧z.kind=1:=by
 unfold IH at h
 split at h
 ·rename_i hc
  have h1:=hc.1
  unfold FR at h1
  cases hx:l[0]? with
  | none=>rw[hx] at h1;cases h1
  | some x=>
   rw[hx] at h1
   simp only at h1
   split at h1
   ·rename_i h2
    rw[Bool.and_eq_true] at h2
    exact⟨x,rfl,by have:=h2.1;simp[B9] at this;exact this⟩
   ·cases h1
 ·cases h
theorem vO {l:List AB} (h:(CY l).1=0):∃ z:AB,l[0]?=some z∧z.kind=1:=by
 unfold CY at h
 cases hs:IH AU l with
 | none=>exact Fm hs
 | some p=>rw[hs] at h;cases h
theorem XT {nm:ByteArray} {s:AL} (h:FK nm s=0):DN (BB s.rows) s:=by
 have hm:U2 nm s:=by
  unfold FK at h
  split at h
  ·assumption
  ·cases h
 obtain⟨hok,hsame⟩:=hm
 rw[R4 hok] at hsame
 obtain⟨_,e1,e2,e3,e4,e5,e6,e7⟩:=hsame
 simp only at e1 e2 e3 e4 e5 e6 e7
 obtain⟨ht,hck,hgo,_,hres,hi⟩:=N3 hok
 have hzl:(BB s.rows).length=s.rows.length:=by unfold BB;rw[List.length_map]
 have hT:=o_ hok
 have hkinds:=aI ht hi
 generalize (BJ (BB s.rows)).2=s' at *
 have hlt:∀ (i:Nat) (x:AB),s.rows[i]?=some x→i<(BB s.rows).length:=fun i x hx=>by
  have:=(List.getElem?_eq_some_iff.1 hx).1
  omega
 refine⟨ht,⟨hzl.symm,fun i z hz=>?_⟩,fun i z hz=>?_,fun i x hx=>?_,fun i x hx hc=>?_,vO hck,fun i x hx hk=>?_⟩
 ·obtain⟨x,hx,rfl⟩:=X6 hz
  exact⟨x,hx,(b_ x).2.symm⟩
 ·obtain⟨x,hx,rfl⟩:=X6 hz
  exact⟨x,hx,(b_ x).1.symm⟩
 ·rw[e2] at hx
  exact hkinds x (List.mem_of_getElem? hx)
 ·have hl:=hlt i x hx
  rw[e2] at hx
  have hd:=dU (k:=x.kind) (by rw[hc];decide)
  have hs:KL x.kind=1:=by unfold KL;omega
  have:=(hT.rows i x (by omega) hx).2 (by rw[hs];decide)
  rw[hs] at this
  obtain⟨h0,h2⟩:=this
  rcases h2 with⟨_,b,h2⟩ | ⟨h3,_⟩ | ⟨h3,_⟩ | ⟨h3,_⟩
  ·have:=(List.getElem?_eq_some_iff.1 h2).1
   rw[e3]
   omega
  ·omega
  ·omega
  ·omega
 ·have hl:=hlt i x hx
  rw[e2] at hx
  have hz:=(hT.rows i x (by omega) hx).1 (by rw[hk];rfl)
  have hf:=ht.fit hz
  unfold DH at hf
  simp only[Bool.and_eq_true,Bool.or_eq_true,decide_eq_true_eq,beq_iff_eq] at hf
  obtain⟨⟨⟨_,h1⟩,_⟩,_⟩:=hf
  rcases h1 with h1 | ⟨⟨_,h1⟩,h2⟩
  ·omega
  ·omega
section
variable {R Z:List AB} {e:Nat→Nat}
theorem Z8 (hk:aS R Z) (hs:MM R Z) (i:Nat):(R[i]?).map (fun x=>(x.kind,x.kids))=(Z[i]?).map (fun x=>(x.kind,x.kids)):=by
 cases hz:Z[i]? with
 | none=>
  have h1:=hs.1
  have:R[i]?=none:=List.getElem?_eq_none (by have:=List.getElem?_eq_none_iff.1 hz;omega)
  rw[this]
 | some z=>
  obtain⟨x,hx,h1⟩:=hk i z hz
  obtain⟨y,hy,h2⟩:=hs.2 i z hz
  rw[hx] at hy
  cases hy
  rw[hx]
  simp[h1,h2]
theorem mG {i:Nat} {x y:AB} {first:Int} (h:x.kind=y.kind):∀ (ps:List Nat) (k:Nat) (s:GS),GU i x first k ps s=GU i y first k ps s
 | [],k,s=>rfl
 | p :: ps,k,s=>by
  show GU i x first (k+1) ps (HJ i x first s k p)=GU i y first (k+1) ps (HJ i y first s k p)
  have:HJ i x first s k p=HJ i y first s k p:=by unfold HJ;rw[h]
  rw[this]
  exact mG h ps (k+1) _
theorem SU (hk:aS R Z) (hs:MM R Z):∀ i,BM R e i=BM Z e i
 | 0=>by
  show (⟨_,_,_⟩:GS)=⟨_,_,_⟩
  rw[hs.1]
 | i+1=>by
  show JH R e i (BM R e i)=JH Z e i (BM Z e i)
  rw[SU hk hs i]
  unfold JH
  have h1:=Z8 hk hs i
  have h2:=Z8 hk hs (i+1)
  have h3:(R[i+1]?).map (·.kind)=(Z[i+1]?).map (·.kind):=by
   cases hR:R[i+1]? <;> cases hZ:Z[i+1]? <;> rw[hR,hZ] at h2 <;> simp_all
  cases hR:R[i]? with
  | none=>
   cases hZ:Z[i]? with
   | none=>rfl
   | some z=>rw[hR,hZ] at h1;cases h1
  | some x=>
   cases hZ:Z[i]? with
   | none=>rw[hR,hZ] at h1;cases h1
   | some z=>
    rw[hR,hZ] at h1
    simp only[Option.map_some,Option.some.injEq,Prod.mk.injEq] at h1
    simp only
    rw[h3,h1.2]
    exact mG h1.1 _ _ _
theorem g_ {i:Nat} {x:AB} {first:Int}:∀ (ps:List Nat) (k q:Nat) (s:GS) (p:Nat),ps[q]?=some p→GU i x first k (ps.take (q+1)) s=HJ i x first (GU i x first k (ps.take q) s) (k+q) p
 | [],k,q,s,p,h=>by simp at h
 | a :: ps,k,0,s,p,h=>by
  cases h
  rfl
 | a :: ps,k,q+1,s,p,h=>by
  have h':ps[q]?=some p:=by simpa using h
  have:=g_ (i:=i) (x:=x) (first:=first) ps (k+1) q (HJ i x first s k a) p h'
  rw[show k+1+q=k+(q+1) by omega] at this
  exact this
theorem m8 {i m:Nat} {x:AB} {first:Int} (hi:i<m):∀ (ps:List Nat) (k:Nat) (s:GS),(∀ v∈s.U,0≤v∧v<(m:Int))→∀ v∈(GU i x first k ps s).U,0≤v∧v<(m:Int)
 | [],k,s,h=>h
 | p :: ps,k,s,h=>m8 hi ps (k+1) _ fun v hv=>by
  have hv':v∈s.U.set p (i:Int):=hv
  rcases List.mem_or_eq_of_mem_set hv' with h1 | h1
  ·exact h v h1
  ·omega
theorem nU {m:Nat} (hm:R.length=m) (h0:0<m):∀ i,i≤m→∀ v∈(BM R e i).U,0≤v∧v<(m:Int)
 | 0,_,v,hv=>by
  have:v=0:=(List.mem_replicate.1 hv).2
  omega
 | i+1,hi,v,hv=>by
  have ih:=nU hm h0 i (by omega)
  have hv':v∈(JH R e i (BM R e i)).U:=hv
  unfold JH at hv'
  split at hv'
  ·exact ih v hv'
  ·exact m8 (by omega) _ _ _ ih v hv'
end
section
variable {Z:List AB} {s:AL}
theorem DN.z (hG:DN Z s) {i:Nat} {x:AB} (hx:s.rows[i]?=some x):∃ z:AB,Z[i]?=some z∧x.kind=z.kind∧x.kids=z.kids:=by
 have hl:=(List.getElem?_eq_some_iff.1 hx).1
 have h1:=hG.sk.1
 obtain⟨z,hz⟩:∃ z,Z[i]?=some z:=⟨_,List.getElem?_eq_getElem (by omega)⟩
 obtain⟨a,ha,h2⟩:=hG.kk i z hz
 obtain⟨b,hb,h3⟩:=hG.sk.2 i z hz
 rw[hx] at ha hb
 cases ha
 cases hb
 exact⟨z,hz,h2,h3⟩
theorem DN.most (hG:DN Z s) {i:Nat} {x:AB} (hx:s.rows[i]?=some x):([12,13].contains x.kind=true→x.kids≤3)∧([15,47,48].contains x.kind=true→x.kids≤2):=by
 obtain⟨z,hz,h1,h2⟩:=hG.z hx
 have hf:=hG.t.fit hz
 unfold DH at hf
 simp only[Bool.and_eq_true,decide_eq_true_eq,Bool.or_eq_true] at hf
 obtain⟨_,hm⟩:=hf
 rw[← h1,← h2] at hm
 refine⟨fun h=>?_,fun h=>?_⟩
 ·simp only[List.contains_cons,List.contains_nil,Bool.or_false,Bool.or_eq_true,beq_iff_eq] at h
  rcases h with h | h <;> (rw[h] at hm;rcases hm with hm | hm <;> simp[CV] at hm <;> omega)
 ·simp only[List.contains_cons,List.contains_nil,Bool.or_false,Bool.or_eq_true,beq_iff_eq] at h
  rcases h with h | h | h <;> (rw[h] at hm;rcases hm with hm | hm <;> simp[CV] at hm <;> omega)
theorem DN.kids0 (hG:DN Z s) {i:Nat} {x:AB} (hx:s.rows[i]?=some x):0≤x.kids∧ER Z x.kids.toNat (i+1) (AD Z i)∧AD Z i≤s.rows.length∧i<AD Z i:=by
 obtain⟨z,hz,h1,h2⟩:=hG.z hx
 have hs:=hG.t.end (List.getElem?_eq_some_iff.1 hz).1
 obtain⟨y,hy,h3,_,h4⟩:=hs.kids
 rw[hz] at hy
 cases hy
 rw[h2]
 have:=hs.lt
 have:=hG.sk.1
 exact⟨h3,h4,by omega,by omega⟩
theorem DN.kid (hG:DN Z s) {i k p:Nat} {x:AB} (hx:s.rows[i]?=some x) (hk:(BE (AD Z) x.kids.toNat (i+1))[k]?=some p):i<p∧p<s.rows.length:=by
 obtain⟨z,hz,h1,h2⟩:=hG.z hx
 obtain⟨_,hc,_⟩:=hG.kids0 hx
 have hge:=R6 _ _ _ hc p (List.mem_of_getElem? hk)
 rw[h2] at hk
 obtain⟨y,hy,_⟩:=hG.t.kid hz hk
 have:=(List.getElem?_eq_some_iff.1 hy).1
 have:=hG.sk.1
 omega
theorem DN.next (hG:DN Z s) {i:Nat} {x:AB} (hx:s.rows[i]?=some x) (h:0<x.kids):i+1<s.rows.length:=by
 obtain⟨r,hr⟩:∃ r,x.kids.toNat=r+1:=⟨x.kids.toNat-1,by omega⟩
 exact(hG.kid (k:=0) (p:=i+1) hx (by rw[hr];rfl)).2
theorem DN.place (hG:DN Z s) {i:Nat} {x:AB} (hx:s.rows[i]?=some x) (h24:x.kind=24):0<i∧∃ up:AB,s.rows[i-1]?=some up∧(BM s.rows (AD Z) i).U[i]?=some ((i-1:Nat):Int)∧(up.kind≠20→0≤up.n∧up.n<s.queues.length):=by
 obtain⟨z,hz,h1,h2⟩:=hG.z hx
 have hl:=(List.getElem?_eq_some_iff.1 hz).1
 have hsl:=hG.sk.1
 have h0:0<i:=by
  rcases Nat.eq_zero_or_pos i with h | h
  ·subst h
   obtain⟨r,hr,h3⟩:=hG.root
   rw[hz] at hr
   cases hr
   omega
  ·exact h
 have h0l:AD Z 0=Z.length:=IP hG.t
 obtain⟨j,y,k,hy,hj,hk⟩:=hG.t.kidOf i 0 i (by omega) h0 (by omega) (by omega)
 obtain⟨hp,h19⟩:=hG.t.place hy hk hz (by omega)
 obtain⟨up,hup⟩:∃ up,s.rows[i-1]?=some up:=⟨_,List.getElem?_eq_getElem (by omega)⟩
 obtain⟨w,hw,h5,_⟩:=hG.z hup
 have:i-1=j:=by omega
 rw[this,hy] at hw
 cases hw
 refine⟨h0,up,hup,?_,fun h20=>hG.qn _ up hup ?_⟩
 ·rw[SU hG.kk hG.sk]
  exact uI hG.t hz (by omega) h0
 ·rcases h19 with h | h
  ·rw[h5,h];rfl
  ·exact absurd (h5.trans h) h20
theorem tM {k:Int} (h:[8,17,20,9,21,24].contains k=true):EE k=1:=by
 simp only[List.contains_cons,List.contains_nil,Bool.or_false,Bool.or_eq_true,beq_iff_eq] at h
 rcases h with h | h | h | h | h | h <;> (rw[h];rfl)
end
section
variable {R:List AB} {Q:List (ByteArray × Bool)} {e:Nat→Nat} {r i:Nat} {x:AB}
theorem pO (hx:R[i]?=some x) {b:Int} (hb:GM R Q (BM R e i) i x=b) (h0:b≠0):E5 R Q e (r+1) i=((b,(i:Int)),[]):=by
 unfold E5
 rw[hx]
 simp only
 rw[hb,if_pos h0]
theorem jH (hx:R[i]?=some x) (hb:GM R Q (BM R e i) i x=0):E5 R Q e (r+1) i=E5 R Q e r (i+1):=by
 conv=>lhs;unfold E5
 rw[hx]
 simp only
 rw[hb,if_neg (by decide)]
variable {M:GS} {a u:Int} {c:Bool} {up:AB}
theorem SO (hA:M.A[i]?=some a) (h0:a≠0) (h1:BS x.kind≠a):GM R Q M i x=41:=by
 unfold GM
 rw[hA,if_pos ⟨h0,h1⟩]
theorem WU (hA:M.A[i]?=some a) (h0:¬(a≠0∧BS x.kind≠a)) (hC:M.C[i]?=some true) (hv:JM x.kind=true):GM R Q M i x=42:=by
 unfold GM
 rw[hA,if_neg (by simpa using h0),hC,if_pos (by simp[hv])]
theorem lW (hA:M.A[i]?=some a) (h0:¬(a≠0∧BS x.kind≠a)) (hC:M.C[i]?=some c) (hv:(c&&JM x.kind)=false) (hU:M.U[i]?=some u) (hup:R[u.toNat]?=some up):GM R Q M i x=if JJ Q x up=true then 46 else 0:=by
 unfold GM
 rw[hA,if_neg (by simpa using h0),hC,hU]
 rw[if_neg (by simp only[Option.getD_some];rw[hv];decide)]
 simp only[Option.getD_some,hup]
end
noncomputable def A_ (nm:ByteArray) (s:AL):(Int × Int) × List Int:=if FK nm s≠0 then ((FK nm s,0),[]) else E5 s.rows s.queues (AD (BB s.rows)) s.rows.length 0
def Jh (h:AA) (lo:Nat) (v:Value) (R:(Int × Int) × List Int):Prop:=∃ tv,v=.tuple #[tv,BR R.1.1 R.1.2]∧AV lo h tv R.2
def H9 (size:Int):List (Int × Bool)→Int→Int→Option (Int × Int)
 | [],r,o=>some (r,o)
 | (n,g) :: l,r,o=>if n<1∨n>1048576 then none else if g=true then H9 size l r (o+n) else if n>size then none else H9 size l (r+n) o
def HS (C:List Int) (Q:List (ByteArray × Bool)):List (Int × Bool):=C.zip (Q.map (·.2))
def K5 (size:Int) (C:List Int) (Q:List (ByteArray × Bool)):Bool:=
 if size<1∨size>1048576∨C.length≠Q.length then false else match H9 size (HS C Q) 0 0 with
  | none=>false
  | some (r,o)=>decide (min size r+o≤4194304)
section
variable {C:List Int} {Q:List (ByteArray × Bool)} {size r o:Int} {i:Nat}
theorem v8 (h:C.length=Q.length):(HS C Q).length=C.length:=by simp[HS,h]
theorem UE {n:Int} {q:ByteArray × Bool} (h1:C[i]?=some n) (h2:Q[i]?=some q):(HS C Q).drop i=(n,q.2) :: (HS C Q).drop (i+1):=by
 have l1:=(List.getElem?_eq_some_iff.1 h1).1
 have l2:=(List.getElem?_eq_some_iff.1 h2).1
 have hl:i<(HS C Q).length:=by simp only[HS,List.length_zip,List.length_map];omega
 rw[List.drop_eq_getElem_cons hl]
 congr 1
 have e1:C[i]=n:=(List.getElem?_eq_some_iff.1 h1).2
 have e2:Q[i]=q:=(List.getElem?_eq_some_iff.1 h2).2
 simp[HS,e1,e2]
theorem YW {n:Int} {q:ByteArray × Bool} (h1:C[i]?=some n) (h2:Q[i]?=some q) (hb:n<1∨n>1048576∨(q.2=false∧n>size)):H9 size ((HS C Q).drop i) r o=none:=by
 rw[UE h1 h2]
 unfold H9
 rcases hb with hb | hb | ⟨hb,hc⟩
 ·rw[if_pos (.inl hb)]
 ·rw[if_pos (.inr hb)]
 ·by_cases h3:n<1∨n>1048576
  ·rw[if_pos h3]
  ·rw[if_neg h3,if_neg (by rw[hb];decide),if_pos hc]
theorem wJ {n:Int} {q:ByteArray × Bool} (h1:C[i]?=some n) (h2:Q[i]?=some q) (h3:1≤n∧n≤1048576) (h4:q.2=true):H9 size ((HS C Q).drop i) r o=H9 size ((HS C Q).drop (i+1)) r (o+n):=by
 rw[UE h1 h2]
 conv=>lhs;unfold H9
 rw[if_neg (by omega),if_pos h4]
theorem sT {n:Int} {q:ByteArray × Bool} (h1:C[i]?=some n) (h2:Q[i]?=some q) (h3:1≤n∧n≤1048576) (h4:q.2=false) (h5:n≤size):H9 size ((HS C Q).drop i) r o=H9 size ((HS C Q).drop (i+1)) (r+n) o:=by
 rw[UE h1 h2]
 conv=>lhs;unfold H9
 rw[if_neg (by omega),if_neg (by rw[h4];decide),if_neg (by omega)]
theorem Ak (h:C.length=Q.length) (hi:i=C.length):H9 size ((HS C Q).drop i) r o=some (r,o):=by
 rw[List.drop_of_length_le (by rw[v8 h];omega)]
 rfl
end
def HM (k:Int):Bool:=[39,40,41,43,44,45,46].contains k
def LA (k:Int):Bool:=[42,47,48,49,50,51,52,53,54].contains k
def GN (k:Int):Bool:=[41,42].contains k
def F5 (k:Int):Bool:=[39,40,43,44,45,46,47,48,49,50,51,52,53,54].contains k
def GV (k a b:Int):Int:=if k=39 then (if b<a then b else a) else if k=40 then (if b>a then b else a) else if k=41 then -a else if k=43 then a*b else if k=44 then KD a b else if k=45 then a+b else a-b
def JZ (k a b:Int):Bool:=if k=47 then a==b else if k=48 then a != b else if k=49 then decide (a<b) else if k=50 then decide (a≤b) else if k=51 then decide (a>b) else if k=52 then decide (a≥b) else if k=42 then a==0 else if k=53 then (a != 0&&b != 0) else (a != 0||b != 0)
def F4 (k a b:Int):Int:=if HM k=true then FM (GV k a b) else if JZ k a b=true then 1 else 0
def DM (size:Int) (C:List Int) (x:AB):Option Int:=if x.kind=27 then some x.n else if x.kind=33 then some size else if x.kind=32 then some ((C[x.n.toNat]?).getD 0) else if x.kind=29 then some 1 else if x.kind=30 then some 0 else none
def KN (R:List AB) (e:Nat→Nat) (size:Int) (C:List Int):Nat→Nat→Option Int
 | 0,_=>none
 | f+1,i=>match R[i]? with
  | none=>none
  | some x=>if GN x.kind=true then (KN R e size C f (i+1)).map (fun a=>F4 x.kind a a)
   else if F5 x.kind=true then (match KN R e size C f (i+1),KN R e size C f (e (i+1)) with
    | some a,some b=>some (F4 x.kind a b)
    | _,_=>none)
   else DM size C x
def BZ (R:List AB) (e:Nat→Nat) (size:Int) (C:List Int) (i:Nat):Option Int:=KN R e size C R.length i
theorem ZN {k:Int}:(GN k=true∨F5 k=true)↔(HM k=true∨LA k=true):=by
 simp only[GN,F5,HM,LA,List.contains_cons,List.contains_nil,Bool.or_false,Bool.or_eq_true,beq_iff_eq]
 omega
section
variable {Z:List AB} {s:AL}
theorem DN.un (hG:DN Z s) {i:Nat} {x:AB} (hx:s.rows[i]?=some x) (h:GN x.kind=true):x.kids=1:=by
 obtain⟨z,hz,h1,h2⟩:=hG.z hx
 have hf:=hG.t.fit hz
 unfold DH at hf
 simp only[Bool.and_eq_true,decide_eq_true_eq,Bool.or_eq_true] at hf
 obtain⟨⟨_,hl⟩,hm⟩:=hf
 rw[← h1,← h2] at hl hm
 unfold GN at h
 simp only[List.contains_cons,List.contains_nil,Bool.or_false,Bool.or_eq_true,beq_iff_eq] at h
 rcases h with h | h <;> (rw[h] at hl hm;rcases hm with hm | hm <;> simp[CV,F7] at hm hl <;> omega)
theorem DN.bin (hG:DN Z s) {i:Nat} {x:AB} (hx:s.rows[i]?=some x) (h:F5 x.kind=true):x.kids=2:=by
 obtain⟨z,hz,h1,h2⟩:=hG.z hx
 have hf:=hG.t.fit hz
 unfold DH at hf
 simp only[Bool.and_eq_true,decide_eq_true_eq,Bool.or_eq_true] at hf
 obtain⟨⟨_,hl⟩,hm⟩:=hf
 rw[← h1,← h2] at hl hm
 unfold F5 at h
 simp only[List.contains_cons,List.contains_nil,Bool.or_false,Bool.or_eq_true,beq_iff_eq] at h
 rcases h with h | h | h | h | h | h | h | h | h | h | h | h | h | h <;> (rw[h] at hl hm;rcases hm with hm | hm <;> simp[CV,F7] at hm hl <;> omega)
theorem DN.kid0 (hG:DN Z s) {i:Nat} {x:AB} (hx:s.rows[i]?=some x) (h:0<x.kids):i<i+1∧i+1<s.rows.length:=⟨by omega,hG.next hx h⟩
theorem DN.kid1 (hG:DN Z s) {i:Nat} {x:AB} (hx:s.rows[i]?=some x) (h:x.kids=2):i<AD Z (i+1)∧AD Z (i+1)<s.rows.length:=
 hG.kid (k:=1) hx (by rw[h];rfl)
variable {size:Int} {C:List Int}
theorem R0 (hG:DN Z s):∀ (d i f g:Nat),s.rows.length-i≤d→s.rows.length-i≤f→s.rows.length-i≤g→i<s.rows.length→KN s.rows (AD Z) size C f i=KN s.rows (AD Z) size C g i
 | 0,i,f,g,h1,_,_,h4=>by omega
 | d+1,i,f,g,h1,h2,h3,h4=>by
  obtain⟨f,rfl⟩:∃ j,f=j+1:=⟨f-1,by omega⟩
  obtain⟨g,rfl⟩:∃ j,g=j+1:=⟨g-1,by omega⟩
  obtain⟨x,hx⟩:∃ x,s.rows[i]?=some x:=⟨_,List.getElem?_eq_getElem h4⟩
  unfold KN
  rw[hx]
  simp only
  by_cases hu:GN x.kind=true
  ·have hk:=hG.un hx hu
   have k0:=hG.kid0 hx (by omega)
   rw[if_pos hu,if_pos hu,R0 hG d (i+1) f g (by omega) (by omega) (by omega) k0.2]
  ·rw[if_neg hu,if_neg hu]
   by_cases hb:F5 x.kind=true
   ·have hk:=hG.bin hx hb
    have k0:=hG.kid0 hx (by omega)
    have k1:=hG.kid1 hx hk
    rw[if_pos hb,if_pos hb,R0 hG d (i+1) f g (by omega) (by omega) (by omega) k0.2,R0 hG d (AD Z (i+1)) f g (by omega) (by omega) (by omega) k1.2]
   ·rw[if_neg hb,if_neg hb]
theorem SC (hG:DN Z s) {i:Nat} {x:AB} (hx:s.rows[i]?=some x):BZ s.rows (AD Z) size C i=if GN x.kind=true then (BZ s.rows (AD Z) size C (i+1)).map (fun a=>F4 x.kind a a)
   else if F5 x.kind=true then (match BZ s.rows (AD Z) size C (i+1),BZ s.rows (AD Z) size C (AD Z (i+1)) with
    | some a,some b=>some (F4 x.kind a b)
    | _,_=>none)
   else DM size C x:=by
 have hl:=(List.getElem?_eq_some_iff.1 hx).1
 unfold BZ
 obtain⟨f,hf⟩:∃ f,s.rows.length=f+1:=⟨s.rows.length-1,by omega⟩
 by_cases hu:GN x.kind=true
 ·have hk:=hG.un hx hu
  have k0:=hG.kid0 hx (by omega)
  rw[if_pos hu,← R0 hG s.rows.length (i+1) f s.rows.length (by omega) (by omega) (by omega) k0.2]
  conv=>lhs;rw[hf];unfold KN
  rw[hx]
  simp only
  rw[if_pos hu]
 ·rw[if_neg hu]
  by_cases hb:F5 x.kind=true
  ·have hk:=hG.bin hx hb
   have k0:=hG.kid0 hx (by omega)
   have k1:=hG.kid1 hx hk
   rw[if_pos hb,← R0 hG s.rows.length (i+1) f s.rows.length (by omega) (by omega) (by omega) k0.2,← R0 hG s.rows.length (AD Z (i+1)) f s.rows.length (by omega) (by omega) (by omega) k1.2]
   conv=>lhs;rw[hf];unfold KN
   rw[hx]
   simp only
   rw[if_neg hu,if_pos hb]
  ·rw[if_neg hb]
   conv=>lhs;rw[hf];unfold KN
   rw[hx]
   simp only
   rw[if_neg hu,if_neg hb]
structure QB (s:AL) (size:Int) (C:List Int):Prop where
 sz:1≤size∧size≤1048576
 len:C.length=s.queues.length
 all:∀ c∈C,1≤c∧c≤1048576
theorem ZQ {size:Int}:∀ (l:List (Int × Bool)) (r o:Int) {p:Int × Int},H9 size l r o=some p→∀ y∈l,1≤y.1∧y.1≤1048576
 | [],r,o,p,_,y,hy=>by cases hy
 | (n,g) :: l,r,o,p,h,y,hy=>by
  unfold H9 at h
  split at h
  ·cases h
  rename_i hc
  have hn:1≤n∧n≤1048576:=by omega
  rcases List.mem_cons.1 hy with rfl | hy
  ·exact hn
  split at h
  ·exact ZQ l _ _ h y hy
  split at h
  ·cases h
  ·exact ZQ l _ _ h y hy
theorem Jl {s:AL} (h:K5 size C s.queues=true):QB s size C:=by
 unfold K5 at h
 split at h
 ·cases h
 rename_i hc
 have hl:C.length=s.queues.length:=by omega
 refine⟨by omega,hl,fun c hc'=>?_⟩
 cases hg:H9 size (HS C s.queues) 0 0 with
 | none=>rw[hg] at h;cases h
 | some p=>
  obtain⟨j,hj⟩:=List.getElem?_of_mem hc'
  have hjl:=(List.getElem?_eq_some_iff.1 hj).1
  obtain⟨q,hq⟩:∃ q,s.queues[j]?=some q:=⟨_,List.getElem?_eq_getElem (by omega)⟩
  have hz:=UE hj hq
  have hm:(c,q.2)∈HS C s.queues:=List.mem_of_mem_drop (i:=j) (by rw[hz];exact List.mem_cons_self)
  exact ZQ _ _ _ hg _ hm
theorem mI (k a b:Int):-1073741824≤F4 k a b∧F4 k a b≤1073741824:=by
 unfold F4
 split
 ·exact nY _
 ·split <;> omega
theorem vE (hG:DN Z s) (hF:QB s size C) {i:Nat} {x:AB} (hx:s.rows[i]?=some x) {v:Int} (h:DM size C x=some v):-1073741824≤v∧v≤1073741824:=by
 unfold DM at h
 have hs:=hF.sz
 split at h
 ·rename_i hk
  have:=hG.num i x hx hk
  cases h
  omega
 split at h
 ·cases h
  omega
 split at h
 ·rename_i hk
  have hq:=hG.qn i x hx (by rw[hk];rfl)
  have hl:=hF.len
  obtain⟨c,hc⟩:∃ c,C[x.n.toNat]?=some c:=⟨_,List.getElem?_eq_getElem (by omega)⟩
  have:=hF.all c (List.mem_of_getElem? hc)
  rw[hc] at h
  cases h
  show -1073741824≤c∧c≤1073741824
  omega
 split at h
 ·cases h
  omega
 split at h
 ·cases h
  omega
 ·cases h
theorem UP (hG:DN Z s) (hF:QB s size C) {i:Nat} (hi:i<s.rows.length) {v:Int} (h:BZ s.rows (AD Z) size C i=some v):-1073741824≤v∧v≤1073741824:=by
 obtain⟨x,hx⟩:∃ x,s.rows[i]?=some x:=⟨_,List.getElem?_eq_getElem hi⟩
 rw[SC hG hx] at h
 split at h
 ·cases hc:BZ s.rows (AD Z) size C (i+1) with
  | none=>rw[hc] at h;cases h
  | some a=>rw[hc] at h;cases h;exact mI _ _ _
 split at h
 ·split at h
  ·cases h;exact mI _ _ _
  ·cases h
 ·exact vE hG hF hx h
end
section
variable {l:List AB}
theorem Q7:∀ (r p q:Nat),ER l r p q→∀ (a b u v:Nat),a<b→(BE (AD l) r p)[a]?=some u→(BE (AD l) r p)[b]?=some v→AD l u≤v
 | 0,p,q,_,a,b,u,v,_,h,_=>by simp[BE] at h
 | r+1,p,q,⟨p',s1,s2,s3,s4⟩,a,b,u,v,hab,ha,hb=>by
  have he:=IP s1
  obtain⟨b,rfl⟩:∃ j,b=j+1:=⟨b-1,by omega⟩
  have hb':(BE (AD l) r p')[b]?=some v:=by rw[← he];simpa [BE] using hb
  cases a with
  | zero=>
   have:p=u:=by simpa [BE] using ha
   subst this
   rw[he]
   exact R6 _ _ _ s4 v (List.mem_of_getElem? hb')
  | succ a=>
   have ha':(BE (AD l) r p')[a]?=some u:=by rw[← he];simpa [BE] using ha
   exact Q7 r p' q s4 a b u v (by omega) ha' hb'
theorem V9:∀ (r p q:Nat),ER l r p q→∀ (a u:Nat),(BE (AD l) r p)[a]?=some u→u<AD l u∧AD l u≤q
 | 0,p,q,_,a,u,h=>by simp[BE] at h
 | r+1,p,q,⟨p',s1,s2,s3,s4⟩,a,u,ha=>by
  have he:=IP s1
  cases a with
  | zero=>
   have:p=u:=by simpa [BE] using ha
   subst this
   rw[he]
   have:=IF _ _ _ s4
   exact⟨s2,by omega⟩
  | succ a=>
   have ha':(BE (AD l) r p')[a]?=some u:=by rw[← he];simpa [BE] using ha
   exact V9 r p' q s4 a u ha'
theorem CH.nest (ht:CH l) {i j:Nat} (hi:i<l.length) (h1:i≤j) (h2:j<AD l i):AD l j≤AD l i:=by
 obtain⟨q,hq,h3⟩:=DV.cover l.length (by have:=(ht.end hi).lt;omega) (ht.end hi) j h1 h2
 rw[IP hq]
 exact h3
theorem fX {i:Nat} {x:AB} {first:Int}:∀ (ps:List Nat) (k0 q p:Nat) (s:GS),ps[q]?=some p→(∀ q',q<q'→ps[q']?≠some p)→(∀ u∈ps,u≠i)→p<s.A.length→p<s.C.length →
  (GU i x first k0 ps s).A[p]?=some (EY x.kind (k0+q) first)∧(GU i x first k0 ps s).C[p]?=some (((s.C[i]?).getD false)||JP x.kind (k0+q))
 | [],k0,q,p,s,h,_,_,_,_=>by simp at h
 | a :: ps,k0,0,p,s,h,hl,hi,hA,hC=>by
  have:a=p:=by simpa using h
  subst this
  have hn:a∉ps:=fun hm=>by
   obtain⟨j,hj⟩:=List.getElem?_of_mem hm
   exact hl (j+1) (by omega) (by simpa using hj)
  obtain⟨o1,o2,_⟩:=T6 (i:=i) (x:=x) (first:=first) ps (k0+1) (HJ i x first s k0 a) a hn
  refine⟨o1.trans ?_,o2.trans ?_⟩
  ·exact List.getElem?_set_self hA
  ·exact List.getElem?_set_self hC
 | a :: ps,k0,q+1,p,s,h,hl,hi,hA,hC=>by
  have h':ps[q]?=some p:=by simpa using h
  have ha:a≠i:=hi a List.mem_cons_self
  have ih:=fX (i:=i) (x:=x) (first:=first) ps (k0+1) q p (HJ i x first s k0 a) h' (fun q' hq' hc=>hl (q'+1) (by omega) (by simpa using hc)) (fun u hu=>hi u (List.mem_cons_of_mem _ hu)) (by simpa [HJ] using hA) (by simpa [HJ] using hC)
  have hci:(HJ i x first s k0 a).C[i]?=s.C[i]?:=List.getElem?_set_ne ha
  rw[hci,show k0+1+q=k0+(q+1) by omega] at ih
  exact ih
theorem Iq (ht:CH l) {i k p:Nat} {x:AB} (hx:l[i]?=some x) (hk:(BE (AD l) x.kids.toNat (i+1))[k]?=some p) :
  (BM l (AD l) p).A[p]?=some (EY x.kind k (BS (((l[i+1]?).map (·.kind)).getD 0)))∧(BM l (AD l) p).C[p]?=some ((((BM l (AD l) i).C[i]?).getD false)||JP x.kind k):=by
 have hil:=(List.getElem?_eq_some_iff.1 hx).1
 have hs:=ht.end hil
 obtain⟨y,hy,_,_,hch⟩:=hs.kids
 rw[hx] at hy
 cases hy
 have hpi:=R6 _ _ _ hch p (List.mem_of_getElem? hk)
 obtain⟨y,hy,_⟩:=ht.kid hx hk
 have hpl:=(List.getElem?_eq_some_iff.1 hy).1
 obtain⟨hin1,hin2⟩:=V9 _ _ _ hch _ _ hk
 have hM:∀ j,i+1≤j→j≤p→(BM l (AD l) j).A[p]?=some (EY x.kind k (BS (((l[i+1]?).map (·.kind)).getD 0)))∧(BM l (AD l) j).C[p]?=some ((((BM l (AD l) i).C[i]?).getD false)||JP x.kind k):=by
  intro j
  induction j with
  | zero=>intro h;omega
  | succ j ih=>
   intro h1 h2
   rcases Nat.lt_or_ge i j with h3 | h3
   ·obtain⟨e1,e2⟩:=ih (by omega) (by omega)
    have hs1:BM l (AD l) (j+1)=JH l (AD l) j (BM l (AD l) j):=rfl
    rw[hs1]
    unfold JH
    cases hw:l[j]? with
    | none=>exact⟨e1,e2⟩
    | some w=>
     simp only
     have hjl:=(List.getElem?_eq_some_iff.1 hw).1
     obtain⟨w',hw',_,_,hcj⟩:=(ht.end hjl).kids
     rw[hw] at hw'
     cases hw'
     obtain⟨jj,p',j1,j2,j3,j4⟩:=cI _ _ _ hch j (by omega) (by omega)
     have hp'l:p'<l.length:=by
      obtain⟨y',hy',_⟩:=ht.kid hx j1
      exact(List.getElem?_eq_some_iff.1 hy').1
     have hjp:AD l j≤p:=by
      have hn:=ht.nest hp'l j3 j4
      rcases Nat.lt_trichotomy jj k with h4 | h4 | h4
      ·have:=Q7 _ _ _ hch _ _ _ _ h4 j1 hk
       omega
      ·subst h4
       rw[j1] at hk
       cases hk
       omega
      ·have:=Q7 _ _ _ hch _ _ _ _ h4 hk j1
       omega
     have hnp:p∉BE (AD l) w.kids.toNat (j+1):=fun hm=>by
      obtain⟨q,hq⟩:=List.getElem?_of_mem hm
      obtain⟨a1,a2⟩:=V9 _ _ _ hcj _ _ hq
      omega
     obtain⟨o1,o2,_⟩:=T6 (i:=j) (x:=w) (first:=BS (((l[j+1]?).map (·.kind)).getD 0)) _ 0 (BM l (AD l) j) p hnp
     exact⟨o1.trans e1,o2.trans e2⟩
   ·obtain rfl:j=i:=by omega
    have hs1:BM l (AD l) (j+1)=JH l (AD l) j (BM l (AD l) j):=rfl
    rw[hs1]
    unfold JH
    rw[hx]
    simp only
    obtain⟨m1,m2,_⟩:=TM (R:=l) (AD l) j
    have:=fX (i:=j) (x:=x) (first:=BS (((l[j+1]?).map (·.kind)).getD 0)) _ 0 k p (BM l (AD l) j) hk (fun q' hq' hc=>by
     have:=Q7 _ _ _ hch _ _ _ _ hq' hk hc
     omega) (fun u hu=>by have:=R6 _ _ _ hch u hu;omega) (by omega) (by omega)
    rw[Nat.zero_add] at this
    exact this
 exact hM p (by omega) (Nat.le_refl _)
end
def T_ (Z:List AB) (s:AL):Prop:=∀ (i:Nat) (x:AB),s.rows[i]?=some x→GM s.rows s.queues (BM s.rows (AD Z) i) i x=0
theorem kK {R:List AB} {Q:List (ByteArray × Bool)} {e:Nat→Nat}:∀ (r i:Nat),i+r=R.length→(E5 R Q e r i).1.1=0→∀ (j:Nat) (x:AB),i≤j→R[j]?=some x→GM R Q (BM R e j) j x=0
 | 0,i,h,_,j,x,h1,hx=>by
  have:=(List.getElem?_eq_some_iff.1 hx).1
  omega
 | r+1,i,h,h0,j,x,h1,hx=>by
  obtain⟨y,hy⟩:∃ y,R[i]?=some y:=⟨_,List.getElem?_eq_getElem (by omega)⟩
  by_cases hb:GM R Q (BM R e i) i y=0
  ·rw[jH hy hb] at h0
   rcases Nat.eq_or_lt_of_le h1 with e1 | e1
   ·subst e1
    rw[hy] at hx
    cases hx
    exact hb
   ·exact kK r (i+1) (by omega) h0 j x (by omega) hx
  ·rw[pO hy rfl hb] at h0
   exact absurd h0 hb
theorem q_ {R:List AB} {Q:List (ByteArray × Bool)} {e:Nat→Nat}:∀ (r i:Nat),(E5 R Q e r i).1.1=0→(E5 R Q e r i).1=(0,0)
 | 0,i,_=>rfl
 | r+1,i,h=>by
  unfold E5 at h ⊢
  split
  ·rfl
  ·rename_i y hy
   rw[hy] at h
   simp only at h
   split
   ·rename_i hb
    rw[if_pos hb] at h
    exact absurd h hb
   ·rename_i hb
    rw[if_neg hb] at h
    exact q_ r (i+1) h
theorem WA {nm:ByteArray} {s:AL} (h:(A_ nm s).1.1=0):FK nm s=0∧DN (BB s.rows) s∧T_ (BB s.rows) s∧(A_ nm s).1=(0,0):=by
 unfold A_ at h ⊢
 split at h
 ·rename_i hc
  exact absurd h hc
 ·rename_i hc
  have hc0:FK nm s=0:=by simpa using hc
  rw[if_neg hc]
  exact⟨hc0,XT hc0,fun i x hx=>kK _ _ (by omega) h i x (Nat.zero_le _) hx,q_ _ _ h⟩
section
variable {Z:List AB} {s:AL}
theorem cO (hG:DN Z s) (hO:T_ Z s) {i k p:Nat} {x y:AB} (hx:s.rows[i]?=some x) (hk:(BE (AD Z) x.kids.toNat (i+1))[k]?=some p) (hy:s.rows[p]?=some y) :
  (EY x.kind k (BS (((s.rows[i+1]?).map (·.kind)).getD 0))≠0→BS y.kind=EY x.kind k (BS (((s.rows[i+1]?).map (·.kind)).getD 0)))∧(((((BM s.rows (AD Z) i).C[i]?).getD false)||JP x.kind k)=true→JM y.kind=false)∧(BM s.rows (AD Z) p).C[p]?=some ((((BM s.rows (AD Z) i).C[i]?).getD false)||JP x.kind k):=by
 obtain⟨z,hz,h1,h2⟩:=hG.z hx
 have hk':=hk
 rw[h2] at hk'
 obtain⟨mA,mC⟩:=Iq hG.t hz hk'
 have h3:=Z8 hG.kk hG.sk (i+1)
 have h4:(s.rows[i+1]?).map (·.kind)=(Z[i+1]?).map (·.kind):=by
  cases hR:s.rows[i+1]? <;> cases hZ:Z[i+1]? <;> rw[hR,hZ] at h3 <;> simp_all
 rw[← SU hG.kk hG.sk] at mA
 rw[← SU hG.kk hG.sk,← SU hG.kk hG.sk] at mC
 rw[← h1,← h4] at mA
 rw[← h1] at mC
 have hb:=hO p y hy
 refine⟨fun h0=>?_,fun hc=>?_,mC⟩
 ·by_cases h9:BS y.kind=EY x.kind k (BS (((s.rows[i+1]?).map (·.kind)).getD 0))
  ·exact h9
  ·rw[SO mA h0 h9] at hb
   cases hb
 ·rw[hc] at mC
  cases hv:JM y.kind with
  | false=>rfl
  | true=>
   by_cases h9:EY x.kind k (BS (((s.rows[i+1]?).map (·.kind)).getD 0))≠0∧BS y.kind≠EY x.kind k (BS (((s.rows[i+1]?).map (·.kind)).getD 0))
   ·rw[SO mA h9.1 h9.2] at hb
    cases hb
   ·rw[WU mA h9 mC hv] at hb
    cases hb
theorem CH.kid2 {l:List AB} {i:Nat} {x:AB} (ht:CH l) (hx:l[i]?=some x) (h2:2≤x.kind) {k p:Nat} (hk:(BE (AD l) x.kids.toNat (i+1))[k]?=some p):∃ y:AB,l[p]?=some y∧B9 (BH x.kind k) y.kind=true:=by
 obtain⟨q,hq⟩:∃ q,DV l i q:=⟨_,ht.end (List.getElem?_eq_some_iff.1 hx).1⟩
 rcases hq with⟨m,what,h⟩ | ⟨rfl,m,h⟩
 ·cases m with
  | zero=>cases h
  | succ m=>
   unfold BG at h
   rw[hx] at h
   simp only at h
   split at h
   ·obtain⟨y,h1,h2⟩:=jT _ _ _ _ h k p hk
    rw[Nat.zero_add] at h2
    exact⟨y,h1,h2⟩
   ·cases h
 ·unfold FR at h
  rw[hx] at h
  simp only at h
  split at h
  ·rename_i hc
   rw[Bool.and_eq_true] at hc
   have h9:=hc.1
   simp[B9] at h9
   omega
  ·cases h
theorem DN.expr (hG:DN Z s) {i k p:Nat} {x:AB} (hx:s.rows[i]?=some x) (h39:39≤x.kind) (hk:(BE (AD Z) x.kids.toNat (i+1))[k]?=some p):∃ y:AB,s.rows[p]?=some y∧27≤y.kind∧y.kind≤54:=by
 obtain⟨z,hz,h1,h2⟩:=hG.z hx
 have hpl:=(hG.kid hx hk).2
 rw[h2] at hk
 obtain⟨w,hw,hs⟩:=hG.t.kid2 hz (by omega) hk
 obtain⟨y,hy⟩:∃ y,s.rows[p]?=some y:=⟨_,List.getElem?_eq_getElem hpl⟩
 obtain⟨w',hw',h3,_⟩:=hG.z hy
 rw[hw] at hw'
 cases hw'
 refine⟨y,hy,?_⟩
 rw[h3]
 have e:BH z.kind k=7:=by
  unfold BH
  rw[← h1]
  have c1:x.kind≠11:=by omega
  have c2:([7,8,9,10]:List Int).contains x.kind=false:=by simp;omega
  have c3:x.kind≠12:=by omega
  have c4:x.kind≠13:=by omega
  have c5:x.kind≠15:=by omega
  have c6:([19,20]:List Int).contains x.kind=false:=by simp;omega
  have c7:x.kind≠38:=by omega
  rw[if_neg c1,if_neg (by rw[c2];decide),if_neg c3,if_neg c4,if_neg c5,if_neg (by rw[c6];decide),if_neg c7]
 rw[e] at hs
 unfold B9 at hs
 simpa using hs
theorem oY {size:Int} {C:List Int} (hG:DN Z s) {i:Nat} {x:AB} (hx:s.rows[i]?=some x) (h2:BS x.kind=2) {v:Int} (h:BZ s.rows (AD Z) size C i=some v):v=0∨v=1:=by
 have hop:∀ a b,(GN x.kind=true∨F5 x.kind=true)→F4 x.kind a b=0∨F4 x.kind a b=1:=fun a b hk=>by
  have hr:HM x.kind=false:=by
   cases h9:HM x.kind with
   | false=>rfl
   | true=>
    exfalso
    unfold HM at h9
    simp only[List.contains_cons,List.contains_nil,Bool.or_false,Bool.or_eq_true,beq_iff_eq] at h9
    rcases h9 with h9 | h9 | h9 | h9 | h9 | h9 | h9 <;> (rw[h9] at h2;cases h2)
  unfold F4
  rw[if_neg (by rw[hr];decide)]
  split <;> simp
 rw[SC hG hx] at h
 split at h
 ·rename_i hu
  cases hc:BZ s.rows (AD Z) size C (i+1) with
  | none=>rw[hc] at h;cases h
  | some a=>rw[hc] at h;cases h;exact hop a a (.inl hu)
 split at h
 ·rename_i hb
  split at h
  ·cases h;exact hop _ _ (.inr hb)
  ·cases h
 unfold DM at h
 split at h
 ·rename_i hk;rw[hk] at h2;cases h2
 split at h
 ·rename_i hk;rw[hk] at h2;cases h2
 split at h
 ·rename_i hk;rw[hk] at h2;cases h2
 split at h
 ·cases h;exact .inr rfl
 split at h
 ·cases h;exact .inl rfl
 ·cases h
theorem DN.leaf (hG:DN Z s) {i:Nat} {x:AB} (hx:s.rows[i]?=some x) (hk:[27,28,29,30,31,32,33,34,35,36,37].contains x.kind=true):AD Z i=i+1:=by
 obtain⟨z,hz,h1,h2⟩:=hG.z hx
 obtain⟨k0,hch,_⟩:=hG.kids0 hx
 have hf:=hG.t.fit hz
 unfold DH at hf
 simp only[Bool.and_eq_true,decide_eq_true_eq,Bool.or_eq_true] at hf
 obtain⟨_,hm⟩:=hf
 rw[← h1,← h2] at hm
 have hk0:x.kids=0:=by
  simp only[List.contains_cons,List.contains_nil,Bool.or_false,Bool.or_eq_true,beq_iff_eq] at hk
  rcases hk with h | h | h | h | h | h | h | h | h | h | h <;> (rw[h] at hm;rcases hm with hm | hm <;> simp[CV] at hm <;> omega)
 rw[hk0] at hch
 exact hch.symm
theorem WG {size:Int} {C:List Int} (hG:DN Z s):∀ (d i:Nat) (x:AB),s.rows.length-i≤d→s.rows[i]?=some x→27≤x.kind→((BZ s.rows (AD Z) size C i).isSome=true↔∀ (j:Nat) (y:AB),i≤j→j<AD Z i→s.rows[j]?=some y→JM y.kind=false)
 | 0,i,x,hd,hx,_=>by have:=(List.getElem?_eq_some_iff.1 hx).1;omega
 | d + 1,i,x,hd,hx,h27=>by
  have hil:=(List.getElem?_eq_some_iff.1 hx).1
  have h54:=(hG.ks i x hx).2
  obtain⟨k0,hch,hel,hei⟩:=hG.kids0 hx
  rw[SC hG hx]
  cases hu:GN x.kind with
  | true=>
   have hk:=hG.un hx hu
   have h39:39≤x.kind:=by unfold GN at hu;simp at hu;omega
   obtain⟨y,hy,hy27,_⟩:=hG.expr (k:=0) (p:=i+1) hx h39 (by rw[hk];rfl)
   have ih:=WG (size:=size) (C:=C) hG d (i+1) y (by omega) hy hy27
   have he:AD Z (i+1)=AD Z i:=by
    rw[hk] at hch
    obtain⟨p',s1,_,_,s4⟩:=hch
    rw[IP s1]
    exact s4
   have hv:JM x.kind=false:=by unfold GN at hu;simp at hu;rcases hu with h | h <;> (rw[h];rfl)
   rw[if_pos rfl,Option.isSome_map,ih,he]
   refine⟨fun h j y' h1 h2 h3=>?_,fun h j y' h1 h2 h3=>h j y' (by omega) h2 h3⟩
   rcases Nat.eq_or_lt_of_le h1 with e | e
   ·subst e
    rw[hx] at h3
    cases h3
    exact hv
   ·exact h j y' (by omega) h2 h3
  | false=>
  rw[if_neg (by decide)]
  cases hb:F5 x.kind with
  | true=>
   have hk:=hG.bin hx hb
   have h39:39≤x.kind:=by unfold F5 at hb;simp at hb;omega
   obtain⟨y,hy,hy27,_⟩:=hG.expr (k:=0) (p:=i+1) hx h39 (by rw[hk];rfl)
   obtain⟨w,hw,hw27,_⟩:=hG.expr (k:=1) (p:=AD Z (i+1)) hx h39 (by rw[hk];rfl)
   have hk1:=hG.kid1 hx hk
   have ih1:=WG (size:=size) (C:=C) hG d (i+1) y (by omega) hy hy27
   have ih2:=WG (size:=size) (C:=C) hG d (AD Z (i+1)) w (by omega) hw hw27
   have he:AD Z (AD Z (i+1))=AD Z i:=by
    rw[hk] at hch
    obtain⟨p',s1,_,_,p2,s5,_,_,s8⟩:=hch
    rw[IP s1,IP s5]
    exact s8
   have hlt2:=(hG.kids0 hw).2.2.2
   have hlt1:=(hG.kids0 hy).2.2.2
   have hv:JM x.kind=false:=by
    unfold F5 at hb
    simp only[List.contains_cons,List.contains_nil,Bool.or_false,Bool.or_eq_true,beq_iff_eq] at hb
    rcases hb with h | h | h | h | h | h | h | h | h | h | h | h | h | h <;> (rw[h];rfl)
   rw[if_pos rfl]
   refine Iff.trans (b:=(BZ s.rows (AD Z) size C (i+1)).isSome=true∧(BZ s.rows (AD Z) size C (AD Z (i+1))).isSome=true) ?_ ?_
   ·cases BZ s.rows (AD Z) size C (i+1) <;> cases BZ s.rows (AD Z) size C (AD Z (i+1)) <;> simp
   rw[ih1,ih2,he]
   refine⟨fun h j y' h1 h2 h3=>?_,fun h=>⟨fun j y' h1 h2 h3=>h j y' (by omega) (by omega) h3,fun j y' h1 h2 h3=>h j y' (by omega) h2 h3⟩⟩
   rcases Nat.eq_or_lt_of_le h1 with e | e
   ·subst e
    rw[hx] at h3
    cases h3
    exact hv
   ·rcases Nat.lt_or_ge j (AD Z (i+1)) with h4 | h4
    ·exact h.1 j y' (by omega) h4 h3
    ·exact h.2 j y' h4 h2 h3
  | false=>
   rw[if_neg (by decide)]
   cases hv:JM x.kind with
   | true=>
    have e:DM size C x=none:=by
     unfold JM at hv
     simp only[List.contains_cons,List.contains_nil,Bool.or_false,Bool.or_eq_true,beq_iff_eq] at hv
     unfold DM
     rw[if_neg (by omega),if_neg (by omega),if_neg (by omega),if_neg (by omega),if_neg (by omega)]
    rw[e]
    refine⟨fun h=>(by cases h),fun h=>?_⟩
    have:=h i x (Nat.le_refl _) hei hx
    rw[hv] at this
    cases this
   | false=>
    have hlf:x.kind=27∨x.kind=29∨x.kind=30∨x.kind=32∨x.kind=33:=by
     unfold GN at hu
     unfold F5 at hb
     unfold JM at hv
     simp only[List.contains_cons,List.contains_nil,Bool.or_false,Bool.or_eq_false_iff,beq_eq_false_iff_ne] at hu hb hv
     omega
    have he:AD Z i=i+1:=hG.leaf hx (by rcases hlf with h | h | h | h | h <;> (rw[h];rfl))
    refine⟨fun _ j y' h1 h2 h3=>?_,fun _=>?_⟩
    ·have:j=i:=by omega
     subst this
     rw[hx] at h3
     cases h3
     exact hv
    ·unfold DM
     rcases hlf with h | h | h | h | h <;> (rw[h];rfl)
end
structure FJ where
 V:List (Int × Int × Int)
 G:List Int
 Rd:List Int
def DY (e:Nat→Nat) (val:Nat→Int) (i:Nat) (x:AB) (t:FJ):Int × FJ:=
 if x.kind=4 then (if val (i+1)<val (e (i+1))∨val (i+1)>val (e (e (i+1))) then (43,t) else (0,{ t with V:=t.V++[(val (i+1),val (e (i+1)),val (e (e (i+1))))] }))
 else if x.kind=5 then (if val (i+1)<1∨val (i+1)>255 then (43,t) else (0,{ t with G:=t.G++[val (i+1)] }))
 else if x.kind=6 then (if val (i+1)=0 then (44,t) else (0,t))
 else if x.kind=13 then (if val (i+1)<0∨val (i+1)>4194304 then (43,t) else (0,{ t with Rd:=t.Rd.set i (val (i+1)) }))
 else (0,t)
def EP (R:List AB) (e:Nat→Nat) (val:Nat→Int):Nat→Nat→FJ→(Int × Int) × FJ
 | 0,_,t=>((0,0),t)
 | r+1,i,t=>match R[i]? with
  | none=>((0,0),t)
  | some x=>if (DY e val i x t).1≠0 then (((DY e val i x t).1,(i:Int)),⟨[],[],[]⟩) else EP R e val r (i+1) (DY e val i x t).2
section
variable {R:List AB} {e:Nat→Nat} {val:Nat→Int} {r i:Nat} {x:AB} {t:FJ}
theorem NB (hx:R[i]?=some x) {b:Int} (hb:(DY e val i x t).1=b) (h0:b≠0):EP R e val (r+1) i t=((b,(i:Int)),⟨[],[],[]⟩):=by
 unfold EP
 rw[hx]
 simp only
 rw[hb,if_pos h0]
theorem OU (hx:R[i]?=some x) (hb:(DY e val i x t).1=0):EP R e val (r+1) i t=EP R e val r (i+1) (DY e val i x t).2:=by
 conv=>lhs;unfold EP
 rw[hx]
 simp only
 rw[hb,if_neg (by decide)]
end
section
variable {Z:List AB} {s:AL}
theorem jI (hG:DN Z s) (hO:T_ Z s) {p:Nat} {y:AB} (hy:s.rows[p]?=some y) (hC:(BM s.rows (AD Z) p).C[p]?=some true):∀ (d j:Nat),j≤p+d→p≤j→j<AD Z p→(BM s.rows (AD Z) j).C[j]?=some true
 | 0,j,h1,h2,_=>by
  obtain rfl:j=p:=by omega
  exact hC
 | d + 1,j,h1,h2,h3=>by
  rcases Nat.eq_or_lt_of_le h2 with e | e
  ·subst e;exact hC
  obtain⟨z,hz,_,_⟩:=hG.z hy
  have hpl:=(List.getElem?_eq_some_iff.1 hz).1
  have hend:=(hG.t.end hpl).lt
  have h0l:AD Z 0=Z.length:=IP hG.t
  obtain⟨i,x,k,hx,hij,hk⟩:=hG.t.kidOf j 0 j (by omega) (by omega) (by omega) (by omega)
  have hil:=(List.getElem?_eq_some_iff.1 hx).1
  obtain⟨x',hx',_,_,hch⟩:=(hG.t.end hil).kids
  rw[hx] at hx'
  cases hx'
  obtain⟨hj1,hj2⟩:=V9 _ _ _ hch _ _ hk
  have hip:p≤i:=by
   rcases Nat.lt_or_ge i p with h4 | h4
   ·exfalso
    obtain⟨jj,p',j1,j2,j3,j4⟩:=cI _ _ _ hch p (by omega) (by omega)
    have hp'l:p'<Z.length:=by
     obtain⟨y',hy',_⟩:=hG.t.kid hx j1
     exact(List.getElem?_eq_some_iff.1 hy').1
    have hn:=hG.t.nest hp'l j3 j4
    rcases Nat.lt_trichotomy jj k with h5 | h5 | h5
    ·have:=Q7 _ _ _ hch _ _ _ _ h5 j1 hk
     omega
    ·subst h5
     rw[j1] at hk
     cases hk
     omega
    ·have:=Q7 _ _ _ hch _ _ _ _ h5 hk j1
     omega
   ·exact h4
  have hsl:=hG.sk.1
  obtain⟨w,hw⟩:∃ w,s.rows[i]?=some w:=⟨_,List.getElem?_eq_getElem (by omega)⟩
  obtain⟨v,hv⟩:∃ v,s.rows[j]?=some v:=⟨_,List.getElem?_eq_getElem (by omega)⟩
  obtain⟨w',hw',_,h6⟩:=hG.z hw
  rw[hx] at hw'
  cases hw'
  rw[← h6] at hk
  have hi:=jI hG hO hy hC d i (by omega) hip (by omega)
  have:=(cO hG hO hw hk hv).2.2
  rw[hi] at this
  exact this
theorem Ea {size:Int} {C:List Int} (hG:DN Z s) (hO:T_ Z s) {p:Nat} {y:AB} (hy:s.rows[p]?=some y) (h27:27≤y.kind) (hC:(BM s.rows (AD Z) p).C[p]?=some true):∃ v,BZ s.rows (AD Z) size C p=some v:=by
 have h:=(WG (size:=size) (C:=C) hG s.rows.length p y (by omega) hy h27).2 fun j w h1 h2 hw=>by
  have hc:=jI hG hO hy hC j j (by omega) h1 h2
  have hb:=hO j w hw
  obtain⟨m1,_,_⟩:=TM (R:=s.rows) (AD Z) j
  have hjl:=(List.getElem?_eq_some_iff.1 hw).1
  obtain⟨a,hA⟩:∃ a,(BM s.rows (AD Z) j).A[j]?=some a:=⟨_,List.getElem?_eq_getElem (by omega)⟩
  cases hv:JM w.kind with
  | false=>rfl
  | true=>
   by_cases h9:a≠0∧BS w.kind≠a
   ·rw[SO hA h9.1 h9.2] at hb
    cases hb
   ·rw[WU hA h9 hc hv] at hb
    cases hb
 exact Option.isSome_iff_exists.1 h
theorem Br {size:Int} {C:List Int} (hG:DN Z s) (hO:T_ Z s) {i k p:Nat} {x:AB} (hx:s.rows[i]?=some x) (hk:(BE (AD Z) x.kids.toNat (i+1))[k]?=some p) (hf:JP x.kind k=true):∃ (y:AB) (v:Int),s.rows[p]?=some y∧27≤y.kind∧BZ s.rows (AD Z) size C p=some v:=by
 obtain⟨z,hz,h1,h2⟩:=hG.z hx
 have hpl:=(hG.kid hx hk).2
 obtain⟨y,hy⟩:∃ y,s.rows[p]?=some y:=⟨_,List.getElem?_eq_getElem hpl⟩
 have hc:=(cO hG hO hx hk hy).2.2
 rw[hf,Bool.or_true] at hc
 have hk':=hk
 rw[h2] at hk'
 have hkk:x.kind=4∨x.kind=5∨x.kind=6∨(x.kind=13∧k=0):=by
  unfold JP at hf
  simp at hf
  omega
 obtain⟨w,hw,hs⟩:=hG.t.kid2 hz (by omega) hk'
 obtain⟨w',hw',h3,_⟩:=hG.z hy
 rw[hw] at hw'
 cases hw'
 have e:BH z.kind k=7:=by
  rw[← h1]
  rcases hkk with h | h | h | ⟨h,h9⟩
  ·rw[h];rfl
  ·rw[h];rfl
  ·rw[h];rfl
  ·rw[h,h9];rfl
 rw[e] at hs
 have h27:27≤y.kind:=by
  rw[h3]
  unfold B9 at hs
  simp at hs
  omega
 obtain⟨v,hv⟩:=Ea (size:=size) (C:=C) hG hO hy h27 hc
 exact⟨y,v,hy,h27,hv⟩
end
theorem pT {α:Type} {F G:Int→α} (h:JD.map F=JD.map G) {k:Int} (hk:1≤k∧k≤54):F k=G k:=(List.map_inj_left.1 h) k (W8 hk)
def V3:List Int:=JD.filter fun k=>!([12,13,15,47,48].contains k)
theorem uC {α:Type} {F G:Int→α} (h:V3.map F=V3.map G) {k:Int} (hk:1≤k∧k≤54) (hr:[12,13,15,47,48].contains k=false):F k=G k:=
 (List.map_inj_left.1 h) k (List.mem_filter.2 ⟨W8 hk,by rw[hr];rfl⟩)
section
variable (call:AM) (N:Nat) (h:AA)
theorem Am:(JD.map fun k=>A7 Tryd.prog call N 40 [iv k] h)=JD.map fun k=>some (iv (BS k),h):=by kernel_rfl
theorem sL:(JD.map fun k=>A7 Tryd.prog call N 41 [iv k] h)=JD.map fun k=>some (.bool (JM k),h):=by kernel_rfl
theorem Fp (j:Nat) (first:Int):(V3.map fun k=>A7 Tryd.prog call N 43 [iv k,iv j,iv first] h)=V3.map fun k=>some (iv (EY k j first),h):=by kernel_rfl
end
section
variable {n:Nat} {h:AA} {k:Int}
theorem mM (hk:1≤k∧k≤54) (hn:0<n):AS n 40 [iv k] h=some (iv (BS k),h):=by
 obtain⟨n,rfl⟩:=DF hn
 exact EL (BX ⟨rfl,rfl,rfl⟩) rfl (pT (Am (AS n) n h) hk)
theorem Ap (hk:1≤k∧k≤54) (hn:0<n):AS n 41 [iv k] h=some (.bool (JM k),h):=by
 obtain⟨n,rfl⟩:=DF hn
 exact EL (BX ⟨rfl,rfl,rfl⟩) rfl (pT (sL (AS n) n h) hk)
theorem zV (a:Int) (j:Nat):JP a j=(a==4||(a==5||(a==6||(a==13&&(j:Int)==0)))):=by
 have hj:((j:Int)==0)=(j==0):=by
  rw[Bool.eq_iff_iff]
  simp
 unfold JP
 rw[hj]
 simp only[List.contains_cons,List.contains_nil,Bool.or_false,Bool.or_assoc]
theorem Bd {a:Int} {j:Nat} (hn:0<n):AS n 44 [iv a,iv (j:Int)] h=some (.bool (JP a j),h):=by
 obtain⟨n,rfl⟩:=DF hn
 refine EL (BX ⟨rfl,rfl,rfl⟩) rfl ?_
 refine DG Tryd.func44 rfl (by simp[Tryd.f44]) ?_
 have hr:Tryd.f44.results.toList=[.tmp 4]:=rfl
 rw[zV]
 cases c4:(a==4) with
 | true=>simp only[eE,seval,↓eP,hr,c4,Bool.true_or]
 | false=>
 cases c5:(a==5) with
 | true=>simp only[eE,seval,↓eP,hr,c4,c5,Bool.true_or,Bool.or_true]
 | false=>
 cases c6:(a==6) with
 | true=>simp only[eE,seval,↓eP,hr,c4,c5,c6,Bool.true_or,Bool.or_true]
 | false=>
 cases c13:(a==13) with
 | false=>simp only[eE,seval,↓eP,hr,c4,c5,c6,c13,Bool.or_false,Bool.false_and]
 | true=>
 cases cj:((j:Int)==0) with
 | false=>simp only[eE,seval,↓eP,hr,c4,c5,c6,c13,cj,Bool.or_false,Bool.and_false]
 | true=>simp only[eE,seval,↓eP,hr,c4,c5,c6,c13,cj,Bool.or_true,Bool.and_true]
theorem iK {a b:Int}:FO Tryd.prog h 27 2 [(0,iv a),(1,iv b)]=some (qS h.next 2 2,h.push (.row [iv a,iv b] 3 false false)):=by
 have hc:∀ x:Int,(iv x).cells=#[iv x]:=fun _=>rfl
 simp[FO,Tryd.underlying27,C4,IB,flat,BL,hc,I5,BW,Go.Sx.lay]
theorem Q1 {a b c:Int}:FO Tryd.prog h 27 3 [(0,iv a),(1,iv b),(2,iv c)]=some (qS h.next 3 3,h.push (.row [iv a,iv b,iv c] 3 false false)):=by
 have hc:∀ x:Int,(iv x).cells=#[iv x]:=fun _=>rfl
 simp[FO,Tryd.underlying27,C4,IB,flat,BL,hc,I5,BW,Go.Sx.lay]
theorem OD {o:BA}:∀ i,i<h.next→(h.push o).get i=h.get i:=fun i hi=>AR hi
theorem Hl {call:AM} {N:Nat} {j:Nat} {first:Int} (hk:1≤k∧k≤54) (hj:[12,13].contains k=true→j<3) (hj2:[15,47,48].contains k=true→j<2):∃ h1,A7 Tryd.prog call N 43 [iv k,iv (j:Int),iv first] h=some (iv (EY k j first),h1)∧∀ i,i<h.next→h1.get i=h.get i:=by
 by_cases hr:[12,13,15,47,48].contains k=false
 ·exact⟨h,uC (Fp call N h j first) hk hr,fun _ _=>rfl⟩
 have hr':k=12∨k=13∨k=15∨k=47∨k=48:=by
  simp only[Bool.not_eq_false,List.contains_cons,List.contains_nil,Bool.or_false,Bool.or_eq_true,beq_iff_eq] at hr
  omega
 have hR:Tryd.f43.results.toList=[.tmp 6]:=rfl
 rcases hr' with rfl | rfl | rfl | rfl | rfl
 ·have h3:j=0∨j=1∨j=2:=by have:=hj rfl;omega
  rcases h3 with rfl | rfl | rfl
  ·have hix:CQ Tryd.prog 27 (qS h.next 3 3) (iv 0)=some (qP h.next 0):=FP (id:=h.next) (n:=3) (c:=3) (i:=0) (by decide)
   change ∃ h1,A7 Tryd.prog call N 43 [iv 12,iv 0,iv first] h=some (iv (EY 12 0 first),h1)∧_
   refine EQ (R:=fun h1=>∀ i,i<h.next→h1.get i=h.get i) Tryd.func43 rfl (by simp[Tryd.f43]) ?_
   simp only[eE,seval,↓eP,Int.reduceBEq,hR,Q1,hix,AT,BP,AJ]
   exact⟨rfl,OD⟩
  ·have hix:CQ Tryd.prog 27 (qS h.next 3 3) (iv 1)=some (qP h.next 1):=FP (id:=h.next) (n:=3) (c:=3) (i:=1) (by decide)
   change ∃ h1,A7 Tryd.prog call N 43 [iv 12,iv 1,iv first] h=some (iv (EY 12 1 first),h1)∧_
   refine EQ (R:=fun h1=>∀ i,i<h.next→h1.get i=h.get i) Tryd.func43 rfl (by simp[Tryd.f43]) ?_
   simp only[eE,seval,↓eP,Int.reduceBEq,hR,Q1,hix,AT,BP,AJ]
   exact⟨rfl,OD⟩
  ·have hix:CQ Tryd.prog 27 (qS h.next 3 3) (iv 2)=some (qP h.next 2):=FP (id:=h.next) (n:=3) (c:=3) (i:=2) (by decide)
   change ∃ h1,A7 Tryd.prog call N 43 [iv 12,iv 2,iv first] h=some (iv (EY 12 2 first),h1)∧_
   refine EQ (R:=fun h1=>∀ i,i<h.next→h1.get i=h.get i) Tryd.func43 rfl (by simp[Tryd.f43]) ?_
   simp only[eE,seval,↓eP,Int.reduceBEq,hR,Q1,hix,AT,BP,AJ]
   exact⟨rfl,OD⟩
 ·have h3:j=0∨j=1∨j=2:=by have:=hj rfl;omega
  rcases h3 with rfl | rfl | rfl
  ·have hix:CQ Tryd.prog 27 (qS h.next 3 3) (iv 0)=some (qP h.next 0):=FP (id:=h.next) (n:=3) (c:=3) (i:=0) (by decide)
   change ∃ h1,A7 Tryd.prog call N 43 [iv 13,iv 0,iv first] h=some (iv (EY 13 0 first),h1)∧_
   refine EQ (R:=fun h1=>∀ i,i<h.next→h1.get i=h.get i) Tryd.func43 rfl (by simp[Tryd.f43]) ?_
   simp only[eE,seval,↓eP,Int.reduceBEq,hR,Q1,hix,AT,BP,AJ]
   exact⟨rfl,OD⟩
  ·have hix:CQ Tryd.prog 27 (qS h.next 3 3) (iv 1)=some (qP h.next 1):=FP (id:=h.next) (n:=3) (c:=3) (i:=1) (by decide)
   change ∃ h1,A7 Tryd.prog call N 43 [iv 13,iv 1,iv first] h=some (iv (EY 13 1 first),h1)∧_
   refine EQ (R:=fun h1=>∀ i,i<h.next→h1.get i=h.get i) Tryd.func43 rfl (by simp[Tryd.f43]) ?_
   simp only[eE,seval,↓eP,Int.reduceBEq,hR,Q1,hix,AT,BP,AJ]
   exact⟨rfl,OD⟩
  ·have hix:CQ Tryd.prog 27 (qS h.next 3 3) (iv 2)=some (qP h.next 2):=FP (id:=h.next) (n:=3) (c:=3) (i:=2) (by decide)
   change ∃ h1,A7 Tryd.prog call N 43 [iv 13,iv 2,iv first] h=some (iv (EY 13 2 first),h1)∧_
   refine EQ (R:=fun h1=>∀ i,i<h.next→h1.get i=h.get i) Tryd.func43 rfl (by simp[Tryd.f43]) ?_
   simp only[eE,seval,↓eP,Int.reduceBEq,hR,Q1,hix,AT,BP,AJ]
   exact⟨rfl,OD⟩
 ·have h3:j=0∨j=1:=by have:=hj2 rfl;omega
  rcases h3 with rfl | rfl
  ·have hix:CQ Tryd.prog 27 (qS h.next 2 2) (iv 0)=some (qP h.next 0):=FP (id:=h.next) (n:=2) (c:=2) (i:=0) (by decide)
   change ∃ h1,A7 Tryd.prog call N 43 [iv 15,iv 0,iv first] h=some (iv (EY 15 0 first),h1)∧_
   refine EQ (R:=fun h1=>∀ i,i<h.next→h1.get i=h.get i) Tryd.func43 rfl (by simp[Tryd.f43]) ?_
   simp only[eE,seval,↓eP,Int.reduceBEq,hR,iK,hix,AT,BP,AJ]
   exact⟨rfl,OD⟩
  ·have hix:CQ Tryd.prog 27 (qS h.next 2 2) (iv 1)=some (qP h.next 1):=FP (id:=h.next) (n:=2) (c:=2) (i:=1) (by decide)
   change ∃ h1,A7 Tryd.prog call N 43 [iv 15,iv 1,iv first] h=some (iv (EY 15 1 first),h1)∧_
   refine EQ (R:=fun h1=>∀ i,i<h.next→h1.get i=h.get i) Tryd.func43 rfl (by simp[Tryd.f43]) ?_
   simp only[eE,seval,↓eP,Int.reduceBEq,hR,iK,hix,AT,BP,AJ]
   exact⟨rfl,OD⟩
 ·have h3:j=0∨j=1:=by have:=hj2 rfl;omega
  rcases h3 with rfl | rfl
  ·exact⟨h,by kernel_rfl,fun _ _=>rfl⟩
  ·exact⟨h,by kernel_rfl,fun _ _=>rfl⟩
 ·have h3:j=0∨j=1:=by have:=hj2 rfl;omega
  rcases h3 with rfl | rfl
  ·exact⟨h,by kernel_rfl,fun _ _=>rfl⟩
  ·exact⟨h,by kernel_rfl,fun _ _=>rfl⟩
theorem Ho {j:Nat} {first:Int} (hk:1≤k∧k≤54) (hj:[12,13].contains k=true→j<3) (hj2:[15,47,48].contains k=true→j<2) (hn:0<n):AS n 43 [iv k,iv (j:Int),iv first] h=some (iv (EY k j first),h):=by
 obtain⟨n,rfl⟩:=DF hn
 exact JB (BX ⟨rfl,rfl,rfl⟩) rfl (Hl hk hj hj2)
end
section
variable {P:Program} {t e:TypeId} {w b:Nat} {z:Value} {h:AA}
end
structure N7 (h:AA) (o n w:Nat) (cs mk z:List Value) (e:TypeId):Prop where
 g:h.get o=.row (cs++(mk++BW z 2)) e false false
 len:cs.length=n*w
 mlen:mk.length=w
 zlen:z.length=w
section
variable {t e:TypeId} {w b:Nat} {z:Value} {h:AA}
end
section
variable {t e:TypeId} {w b:Nat} {z:Value} {h:AA}
end
section
variable {h h':AA} {o n w:Nat} {cs mk z:List Value} {e:TypeId}
theorem N7.mono (hl:N7 h o n w cs mk z e) (hg:h'.get o=h.get o):N7 h' o n w cs mk z e:=⟨by rw[hg];exact hl.g,hl.len,hl.mlen,hl.zlen⟩
theorem N7.cells (hl:N7 h o n w cs mk z e) {lo c:Nat} (ho:lo≤o∧o<h.next):AO lo h (qS o n c) n w cs:=AO.row hl.g ho hl.len
theorem N7.mark (hl:N7 h o n w cs mk z e) {lo c:Nat} (ho:lo≤o∧o<h.next):AO lo h (qS o (n+1) c) (n+1) w (cs++mk):=
 AO.row (ex:=BW z 2) (by rw[List.append_assoc];exact hl.g) ho (by rw[List.length_append,hl.len,hl.mlen,Nat.succ_mul])
end
section
variable {P:Program} {t e:TypeId} {w b:Nat} {z:Value} {h:AA}
theorem R2 (ht:P.underlying t=some (.slice e)) (he:BI P e=some w) (hb:GQ P e=some b) (hz:C6 P e=some z) (hzc:z.cells.size=w) (hzf:flat z=true) (hw:0<w) (hbb:b≤64) {n:Nat} (hn:n<4000000000000) :
  GW P h t (iv (n:Int)) (iv (n:Int))=some (qS h.next n n,h.push (.row (BW z.cells.toList n) e false false)):=by
 simp only[GW,ht,he,hz,hb]
 have hmul:(b:Int)*(n:Int)≤64*(n:Int):=Int.mul_le_mul_of_nonneg_right (by omega) (by omega)
 rw[if_pos (by simp[hzf,hzc,hw];omega)]
 simp
end
def LL (i:Nat):Int:=-77-(i:Int)
structure N6 (h:AA) (o:Nat) (l L:List Int):Prop where
 g:h.get o=.row (ints L) 3 false false
 len:L.length=l.length+5
 own:∀ j,j<l.length→L[j]?=l[j]?
 marks:∀ q,q<5→L[l.length+q]?=some (LL (l.length+q))
theorem N6.cells {h:AA} {o:Nat} {l L:List Int} (hl:N6 h o l L) {lo c:Nat} (ho:lo≤o∧o<h.next):AV lo h (qS o l.length c) l:=by
 have e:L=l++L.drop l.length:=by
  apply List.ext_getElem?
  intro j
  rcases Nat.lt_or_ge j l.length with h1 | h1
  ·rw[List.getElem?_append_left h1,hl.own j h1]
  ·rw[List.getElem?_append_right h1,List.getElem?_drop]
   congr 1
   omega
 have g:=hl.g
 rw[e] at g
 have g':h.get o=.row (ints l++ints (L.drop l.length)) 3 false false:=by rw[g];simp[ints]
 exact AO.row g' ho (by rw[GK];omega)
section
variable {call:AM} {N n:Nat} {h:AA}
end
section
variable {call:AM} {N n:Nat} {h:AA}
end
theorem LY:BI Tryd.prog 29=some 2:=by kernel_rfl
theorem yX:FB Tryd.prog 29=some true:=by kernel_rfl
section
variable {h:AA} {id off:Nat}
theorem EN:EA Tryd.prog h 29 (qP id off)=AY 2 off (h.get id):=MB yX LY
theorem LM:BF Tryd.prog 29 (qP id off) 0=some (qP id off):=by simp[BF,Tryd.underlying29,C4,CI]
theorem NT:BF Tryd.prog 29 (qP id off) 1=some (qP id (off+1)):=by simp[BF,Tryd.underlying29,LH,CI]
end
def E3 (lo:Nat) (h:AA) (v:Value) (size:Int) (C:List Int):Prop:=∃ vc,v=.agg #[iv size,vc]∧AV lo h vc C
theorem E3.mono {lo:Nat} {h h':AA} {v:Value} {size:Int} {C:List Int} (hc:E3 lo h v size C) (hn:h.next≤h'.next) (hg:∀ i,lo≤i→i<h.next→h'.get i=h.get i):E3 lo h' v size C:=by
 obtain⟨vc,h1,h2⟩:=hc
 exact⟨vc,h1,AV.mono h2 hn hg⟩
structure SZ (h:AA) (b:Nat) (v:Value) (size:Int) (C:List Int):Prop where
 v:v=.agg #[iv size,qS b C.length (C.length+5)]
 lt:b<h.next
 l:∃ L,N6 h b C L
theorem SZ.mono {h h':AA} {b:Nat} {v:Value} {size:Int} {C:List Int} (hl:SZ h b v size C) (hn:h.next≤h'.next) (hg:h'.get b=h.get b):SZ h' b v size C:=by
 obtain⟨hv,hlt,⟨L,hL⟩⟩:=hl
 exact⟨hv,by omega,L,by rw[hg];exact hL.g,hL.len,hL.own,hL.marks⟩
section
variable {n N:Nat} {h:AA}
end
def qI (i:Nat):AB:=⟨-9,ByteArray.empty,0,i,0⟩
structure aL (h:AA) (o:Nat) (l L:List AB):Prop where
 g:h.get o=.row (L.flatMap AX) 61 false false
 len:L.length=l.length+9
 own:∀ j,j<l.length→L[j]?=l[j]?
 marks:∀ q,q<9→L[l.length+q]?=some (qI (l.length+q))
structure M2 (h:AA) (b:Nat) (v:Value) (nm:ByteArray) (s:AL):Prop where
 v:v=.agg #[.string nm,qS b s.rows.length (s.rows.length+9),qS (b+1) s.queues.length (s.queues.length+3),qS (b+2) s.vars.length (s.vars.length+3),qS (b+3) s.tags.length (s.tags.length+3),qS (b+4) s.rules.length (s.rules.length+5),qS (b+5) s.on.length (s.on.length+5),iv s.miss]
 lt:b+5<h.next
 r:∃ L,aL h b s.rows L
 q:h.get (b+1)=.row (DC s.queues++BW [.string ByteArray.empty,.bool false] 3) 102 false false
 w:h.get (b+2)=.row (DE s.vars++BW [.string ByteArray.empty] 3) 9 false false
 t:h.get (b+3)=.row (DE s.tags++BW [.string ByteArray.empty] 3) 9 false false
 u:∃ L,N6 h (b+4) s.rules L
 o:∃ L,N6 h (b+5) s.on L
theorem aL.cells {h:AA} {o:Nat} {l L:List AB} (hl:aL h o l L) {lo c:Nat} (ho:lo≤o∧o<h.next):HF lo h (qS o l.length c) l:=by
 have e:L=l++L.drop l.length:=by
  apply List.ext_getElem?
  intro j
  rcases Nat.lt_or_ge j l.length with h1 | h1
  ·rw[List.getElem?_append_left h1,hl.own j h1]
  ·rw[List.getElem?_append_right h1,List.getElem?_drop]
   congr 1
   omega
 have g:=hl.g
 rw[e] at g
 have g':h.get o=.row (l.flatMap AX++(L.drop l.length).flatMap AX) 61 false false:=by rw[g,List.flatMap_append]
 exact HF.of (AO.row g' ho (KA l))
theorem M2.pol {h:AA} {b:Nat} {v:Value} {nm:ByteArray} {s:AL} (hl:M2 h b v nm s):CE b h v nm s:=by
 obtain⟨hv,hlt,⟨L1,r⟩,q,w,t,⟨L2,u⟩,⟨L3,o⟩⟩:=hl
 have qn:∀ l:List (ByteArray × Bool),(DC l).length=l.length*2:=fun l=>by
  unfold DC
  induction l with
  | nil=>rfl
  | cons x l ih=>rw[List.flatMap_cons,List.length_append,ih,List.length_cons];simp only[List.length_cons,List.length_nil];omega
 have ql:=qn s.queues
 exact⟨_,_,_,_,_,_,hv,r.cells ⟨by omega,by omega⟩,AO.row q ⟨by omega,by omega⟩ ql,AO.row w ⟨by omega,by omega⟩ (by simp[DE]),AO.row t ⟨by omega,by omega⟩ (by simp[DE]),u.cells ⟨by omega,by omega⟩,o.cells ⟨by omega,by omega⟩⟩
section
variable {t e:TypeId} {w b:Nat} {z:Value} {H:AA}
end
section
variable {n N:Nat} {h:AA}
end
theorem Ay {P:Program} {t e:TypeId} {w id n c i:Nat} (ht:P.underlying t=some (.slice e)) (he:BI P e=some w) (hi:i<n):CQ P t (qS id n c) (iv (i:Int))=some (.pointer (some ⟨id,i*w,none⟩)):=by
 simp only[CQ,ht,he,CI]
 rw[if_pos (by omega)]
 simp
theorem T8 {H:AA} {id:Nat} {a b c d e f g i:Value} {ty:TypeId} {x y:Bool} (hg:H.get id=.row [a,b,c,d,e,f,g,i] ty x y):AJ 0 (H.get id)=some a∧AJ 1 (H.get id)=some b∧AJ 2 (H.get id)=some c∧AJ 3 (H.get id)=some d∧AJ 4 (H.get id)=some e∧AJ 5 (H.get id)=some f∧AJ 6 (H.get id)=some g∧AJ 7 (H.get id)=some i:=by
 rw[hg]
 exact bZ
section
variable {n N:Nat} {h:AA}
end
theorem iN:∀ {l:List (ByteArray × Bool)} {k:Nat} {x:ByteArray × Bool},l[k]?=some x→(DC l)[k*2]?=some (.string x.1)∧(DC l)[k*2+1]?=some (.bool x.2)
 | [],k,x,h=>by simp at h
 | y :: l,0,x,h=>by
  cases h
  exact⟨rfl,rfl⟩
 | y :: l,k+1,x,h=>by
  have h':l[k]?=some x:=by simpa using h
  have e:DC (y :: l)=.string y.1 :: .bool y.2 :: DC l:=rfl
  obtain⟨a,b⟩:=iN h'
  rw[e]
  refine⟨?_,?_⟩
  ·rw[show (k+1)*2=k*2+1+1 by omega]
   exact a
  ·rw[show (k+1)*2+1=k*2+1+1+1 by omega]
   exact b
theorem kO {l:List (ByteArray × Bool)} {i:Nat} {x:ByteArray × Bool} (hx:l[i]?=some x) {lo:Nat} {h:AA} {v:Value} (hc:AO lo h v l.length 2 (DC l)):∃ id p,CQ Tryd.prog 30 v (iv (i:Int))=some (qP id p)∧id<h.next∧AJ (p+1) (h.get id)=some (.bool x.2):=by
 obtain⟨id,p,h1,h2,h3⟩:=AO.idx hc Tryd.underlying30 P7 (List.getElem?_eq_some_iff.1 hx).1
 refine⟨id,p,h1,h2,?_⟩
 rw[h3 1 (by decide)]
 exact(iN hx).2
theorem bC {size:Int} {C:List Int} {Q:List (ByteArray × Bool)} (h:size<1∨size>1048576∨C.length≠Q.length):K5 size C Q=false:=by
 unfold K5
 rw[if_pos h]
theorem bF {size:Int} {C:List Int} {Q:List (ByteArray × Bool)} (h:H9 size (HS C Q) 0 0=none):K5 size C Q=false:=by
 unfold K5
 split
 ·rfl
 ·rw[h]
theorem Ck {size r o:Int} {C:List Int} {Q:List (ByteArray × Bool)} (h1:1≤size) (h2:size≤1048576) (h3:C.length=Q.length) (h:H9 size (HS C Q) 0 0=some (r,o)):K5 size C Q=decide (min size r+o≤4194304):=by
 unfold K5
 rw[if_neg (by omega),h]
theorem Eh (a b:Int):(if b<a then b else a)=min a b:=by
 by_cases h:b<a
 ·rw[if_pos h];omega
 ·rw[if_neg h];omega
section
variable {n N:Nat} {h:AA}
theorem sV {nm:ByteArray} {s:AL} {pv cv:Value} {lo lc:Nat} {size:Int} {C:List Int} (hp:CE lo h pv nm s) (hc:E3 lc h cv size C) (hC:C.length<17592186044416) (hQ:s.queues.length<2932031007403) (hN:C.length+10<N) :
  ∃ h',A7 Tryd.prog (AS n) N 39 [pv,cv] h=some (.bool (K5 size C s.queues),h')∧∀ i,i<h.next→h'.get i=h.get i:=by
 obtain⟨vr,vq,vv,vt,vu,vo,rfl,p1,p2,p3,p4,p5,p6⟩:=id hp
 obtain⟨vc,rfl,pc⟩:=id hc
 refine EQ (R:=fun h'=>∀ i,i<h.next→h'.get i=h.get i) Tryd.func39 rfl (by simp[Tryd.f39]) ?_
 have hr:Tryd.f39.results.toList=[.tmp 4]:=rfl
 have ca:=E1 [.string nm,vr,vq,vv,vt,vu,vo,iv s.miss]
 have oa:=J2 (nm:=nm) p1 p2 p3 p4 p5 p6
 have cb:=E1 [iv size,vc]
 have ob:[iv size,vc].all one=true:=by simp only[List.all_cons,List.all_nil,AO.one pc,JW,Bool.and_self]
 obtain⟨gA,gB,nG,fG,gO⟩:=Q9 h (.row [.string nm,vr,vq,vv,vt,vu,vo,iv s.miss] 33 false false) (.row [iv size,vc] 29 false false)
 simp only[eE,seval,↓eP,FW,FD,FY,ca,oa,cb,ob,HT,LY]
 generalize (h.push (.row [.string nm,vr,vq,vv,vt,vu,vo,iv s.miss] 33 false false)).push (.row [iv size,vc] 29 false false)=Q at *
 obtain⟨x0,x1,x2,x3,x4,x5,x6,x7⟩:=T8 gA
 have y0:AJ 0 (Q.get (h.next+1))=some (iv size):=by rw[gB];rfl
 have y1:AJ 1 (Q.get (h.next+1))=some vc:=by rw[gB];rfl
 have lenC:=fun h'=>I_ pc h'
 have lenQ:=fun h'=>UL p2 h'
 have pq:AO lo Q vq s.queues.length 2 (DC s.queues):=p2.mono (by omega) fun i _ hi=>gO i hi
 have pC:AV lc Q vc C:=AV.mono pc (by omega) fun i _ hi=>gO i hi
 cases d1:decide (size<1) with
 | true=>
  rw[bC (.inl (by simpa using d1))]
  simp only[eE,seval,↓eP,hr,LM,AT,y0,d1]
  exact gO
 | false=>
 have e1:1≤size:=by simp only[decide_eq_false_iff_not] at d1;omega
 cases d2:decide (size>1048576) with
 | true=>
  rw[bC (.inr (.inl (by simpa using d2)))]
  simp only[eE,seval,↓eP,hr,LM,AT,y0,d1,d2]
  exact gO
 | false=>
 have e2:size≤1048576:=by simp only[decide_eq_false_iff_not] at d2;omega
 cases d3:((C.length:Int) != (s.queues.length:Int)) with
 | true=>
  rw[bC (.inr (.inr (fun h9=>by rw[h9] at d3;simp at d3)))]
  simp only[eE,seval,↓eP,hr,Nat.zero_add,LM,NT,F_,AT,DB,F9,y0,y1,x2,lenC,lenQ,d1,d2,d3]
  exact gO
 | false=>
 have e3:C.length=s.queues.length:=by
  have h9:(C.length:Int)=(s.queues.length:Int):=by simpa using d3
  omega
 simp only[eE,seval,↓eP,Nat.zero_add,LM,NT,F_,AT,DB,F9,y0,y1,x2,lenC,lenQ,d1,d2,d3]
 refine WK.loop (fun i s'=>s'.T.get 2=qP h.next 0∧s'.T.get 3=qP (h.next+1) 0∧s'.T.get 27=vc∧s'.T.get 28=iv (C.length:Int)∧s'.T.get 29=iv (i:Int)∧s'.h=Q∧i≤C.length∧∃ r o:Int,s'.T.get 5=iv r∧s'.T.get 6=iv o∧0≤r∧r≤1048576*(i:Int)∧0≤o∧o≤1048576*(i:Int)∧H9 size ((HS C s.queues).drop i) r o=H9 size (HS C s.queues) 0 0) C.length (by omega) ?_ ?_
 ·exact⟨by simp only[eE,seval,↓eP,rP],by simp only[eE,seval,↓eP,rP],by simp only[eE,seval,↓eP,rP],by simp only[eE,seval,↓eP,rP],by simp only[eE,seval,↓eP,rP] <;> rfl,rfl,by omega,0,0,by simp only[eE,seval,↓eP,rP] <;> rfl,by simp only[eE,seval,↓eP,rP] <;> rfl,by omega,by omega,by omega,by omega,by rw[List.drop_zero]⟩
 rintro i ⟨T1,H1⟩ hi ⟨t2,t3,t27,t28,t29,hh,hil,r,o,t5,t6,r0,r1,o0,o1,hgo⟩
 simp only at t2 t3 t27 t28 t29 t5 t6 hh
 subst hh
 have hbd:1048576*(i:Int)≤1048576*2932031007403:=by omega
 by_cases hlt:i<C.length
 ·have c1:decide ((i:Int)<(C.length:Int))=true:=by simp;omega
  obtain⟨m,hm⟩:∃ m,C[i]?=some m:=⟨_,List.getElem?_eq_getElem hlt⟩
  obtain⟨q,hq⟩:∃ q,s.queues[i]?=some q:=⟨_,List.getElem?_eq_getElem (by omega)⟩
  obtain⟨ida,pa,ea,_,xa⟩:=AV.get pC hm
  obtain⟨idb,pb,eb,_,xb⟩:=kO hq pq
  have w1:=E_ i (by omega)
  cases d4:decide (m<1) with
  | true=>
   rw[bF (by rw[← hgo];exact YW hm hq (.inl (by simpa using d4)))]
   simp only[eE,seval,↓eP,hr,t27,t28,t29,c1,AT,ea,xa,d4]
   exact gO
  | false=>
  have e4:1≤m:=by simp only[decide_eq_false_iff_not] at d4;omega
  cases d5:decide (m>1048576) with
  | true=>
   rw[bF (by rw[← hgo];exact YW hm hq (.inr (.inl (by simpa using d5))))]
   simp only[eE,seval,↓eP,hr,t27,t28,t29,c1,AT,ea,xa,d4,d5]
   exact gO
  | false=>
  have e5:m≤1048576:=by simp only[decide_eq_false_iff_not] at d5;omega
  have wo:IntKind.i64.wrap (o+m)=o+m:=C8 (by omega) (by omega)
  have wr:IntKind.i64.wrap (r+m)=r+m:=C8 (by omega) (by omega)
  cases d6:q.2 with
  | true=>
   have xb':AJ (pb+1) (H1.get idb)=some (.bool true):=by rw[← d6];exact xb
   simp only[eE,seval,↓eP,hr,Nat.zero_add,t2,t3,t27,t28,t29,t5,t6,c1,F_,MY,AT,F9,FH,x2,ea,xa,eb,d4,d5,xb',wo,w1]
   exact⟨hlt,by omega,r,o+m,rfl,rfl,by omega,by omega,by omega,by omega,by rw[← hgo,wJ hm hq ⟨e4,e5⟩ d6]⟩
  | false=>
  have xb':AJ (pb+1) (H1.get idb)=some (.bool false):=by rw[← d6];exact xb
  cases d7:decide (m>size) with
  | true=>
   rw[bF (by rw[← hgo];exact YW hm hq (.inr (.inr ⟨d6,by simpa using d7⟩)))]
   simp only[eE,seval,↓eP,hr,Nat.zero_add,t2,t3,t27,t28,t29,c1,LM,F_,MY,AT,F9,FH,y0,x2,ea,xa,eb,d4,d5,xb',d7]
   exact gO
  | false=>
  have e7:m≤size:=by simp only[decide_eq_false_iff_not] at d7;omega
  simp only[eE,seval,↓eP,hr,Nat.zero_add,t2,t3,t27,t28,t29,t5,t6,c1,LM,F_,MY,AT,F9,FH,y0,x2,ea,xa,eb,d4,d5,xb',d7,wr,w1]
  exact⟨hlt,by omega,r+m,o,rfl,rfl,by omega,by omega,by omega,by omega,by rw[← hgo,sT hm hq ⟨e4,e5⟩ d6 e7]⟩
 have c1:decide ((i:Int)<(C.length:Int))=false:=by simp;omega
 rw[Ck (r:=r) (o:=o) e1 e2 e3 (by rw[← hgo];exact Ak e3 (by omega))]
 have wz:IntKind.i64.wrap ((if r<size then r else size)+o)=(if r<size then r else size)+o:=C8 (by split <;> omega) (by split <;> omega)
 simp only[eE,seval,↓eP,hr,t3,t28,t29,t5,t6,c1,LM,AT,y0,wz]
 rw[Eh]
 exact⟨rfl,gO⟩
theorem Kw {nm:ByteArray} {s:AL} {pv cv:Value} {lo lc:Nat} {size:Int} {C:List Int} (hp:CE lo h pv nm s) (hc:E3 lc h cv size C) (hC:C.length<17592186044416) (hQ:s.queues.length<2932031007403) (hn:C.length+20<n):AS n 39 [pv,cv] h=some (.bool (K5 size C s.queues),h):=by
 obtain⟨n,rfl⟩:=DF hn
 exact JB (BX ⟨rfl,rfl,rfl⟩) rfl (sV (n:=n) (N:=n) hp hc hC hQ (by omega))
end
theorem PN {Q:List (ByteArray × Bool)} {lo:Nat} {h:AA} {v:Value} (hc:AO lo h v Q.length 2 (DC Q)) {m:Int} (h0:0≤m) (h1:m<Q.length):∃ id p,CQ Tryd.prog 30 v (iv m)=some (qP id p)∧id<h.next∧AJ (p+1) (h.get id)=some (.bool (K6 Q m)):=by
 obtain⟨q,hq⟩:∃ q,Q[m.toNat]?=some q:=⟨_,List.getElem?_eq_getElem (by omega)⟩
 obtain⟨id,p,a,b,c⟩:=kO hq hc
 rw[show ((m.toNat:Nat):Int)=m by omega] at a
 refine⟨id,p,a,b,?_⟩
 rw[c]
 unfold K6
 rw[hq]
 rfl
section
variable {Q:List (ByteArray × Bool)} {x up:AB}
theorem cV (h:x.kind=8∨x.kind=17∨x.kind=20):JJ Q x up=K6 Q x.n:=by
 unfold JJ
 rw[if_pos (by rcases h with h | h | h <;> rw[h] <;> rfl)]
theorem kJ (h:x.kind=9∨x.kind=21):JJ Q x up = !(K6 Q x.n):=by
 unfold JJ
 rw[if_neg (by rcases h with h | h <;> rw[h] <;> decide),if_pos (by rcases h with h | h <;> rw[h] <;> rfl)]
theorem Jp (h:x.kind=24) (h2:up.kind=20):JJ Q x up = !(K6 Q x.n):=by
 unfold JJ
 rw[if_neg (by rw[h];decide),if_neg (by rw[h];decide),if_pos h,if_pos h2]
theorem sB (h:x.kind=24) (h2:up.kind≠20):JJ Q x up=(K6 Q x.n != K6 Q up.n):=by
 unfold JJ
 rw[if_neg (by rw[h];decide),if_neg (by rw[h];decide),if_pos h,if_neg h2]
theorem Dx (h:x.kind≠8∧x.kind≠17∧x.kind≠20∧x.kind≠9∧x.kind≠21∧x.kind≠24):JJ Q x up=false:=by
 obtain⟨h1,h2,h3,h4,h5,h6⟩:=h
 unfold JJ
 rw[if_neg (by simp[h1,h2,h3]),if_neg (by simp[h4,h5]),if_neg h6]
end
theorem LG {t:TypeId} {k:Nat} (ht:BI Tryd.prog t=some k) {H:AA} {vs zs:List Value} (hz:zs.length=k) (hl:vs.length=k) (ho:vs.all one=true) (hf:H.floor≤H.next) :
  ∃ H',BC Tryd.prog (H.push (.row zs t false false)) t (qP H.next 0) (.agg vs.toArray)=some H'∧H'.get H.next=.row vs t false false∧H'.next=H.next+1∧H'.floor=H.floor∧∀ i,i<H.next→H'.get i=H.get i:=
 ⟨_,JQ ht (BP (h:=H)) hz hl ho hf,B_ rfl (by show H.next<H.next+1;omega),rfl,rfl,fun i hi=>by rw[AW (by show H.next<H.next+1;omega) (by omega),AR hi]⟩
def dG:List (Bool × Bool × List Operand):=[AQ,AQ,AH [.tmp 44],AH [.tmp 44],AQ,AQ,AQ,AH [.tmp 44,.tmp 46,.tmp 49],AH [.tmp 44,.tmp 46,.tmp 49],AH [.tmp 44,.tmp 46,.tmp 49,.tmp 51],AH [.tmp 44,.tmp 46,.tmp 49,.tmp 51],AH [.tmp 44,.tmp 46,.tmp 49],AH [.tmp 44,.tmp 46,.tmp 49],AH [.tmp 44,.tmp 46,.tmp 49],AK,AK]
section
variable {n N:Nat} {h:AA}
theorem Lm {nm:ByteArray} {s:AL} {pv:Value} {lo:Nat} {x up:AB} (hp:CE lo h pv nm s) (hx:[8,17,20,9,21,24].contains x.kind=true→0≤x.n∧x.n<s.queues.length) (hu:x.kind=24→up.kind≠20→0≤up.n∧up.n<s.queues.length) :
  ∃ h',A7 Tryd.prog (AS n) N 42 [pv,CF x,CF up] h=some (.bool (JJ s.queues x up),h')∧∀ i,i<h.next→h'.get i=h.get i:=by
 obtain⟨vr,vq,vv,vt,vu,vo,rfl,p1,p2,p3,p4,p5,p6⟩:=id hp
 have hsn:=(FL n).2
 refine EQ (R:=fun h'=>∀ i,i<h.next→h'.get i=h.get i) Tryd.func42 rfl (by simp[Tryd.f42]) ?_
 have hr:Tryd.f42.results.toList=[.tmp 6]:=rfl
 have ca:=E1 [.string nm,vr,vq,vv,vt,vu,vo,iv s.miss]
 have oa:=J2 (nm:=nm) p1 p2 p3 p4 p5 p6
 have cx:(CF x).cells.toList=AX x:=rfl
 have ox:(AX x).all one=true:=rfl
 have cu:(CF up).cells.toList=AX up:=rfl
 have ou:(AX up).all one=true:=rfl
 obtain⟨gA,gX,gU,nG,fG,gO⟩:=SR h (.row [.string nm,vr,vq,vv,vt,vu,vo,iv s.miss] 33 false false) (.row (AX x) 61 false false) (.row (AX up) 61 false false)
 simp only[eE,seval,↓eP,FW,FD,FY,ca,oa,cx,ox,cu,ou,HT,GC]
 generalize ((h.push (.row [.string nm,vr,vq,vv,vt,vu,vo,iv s.miss] 33 false false)).push (.row (AX x) 61 false false)).push (.row (AX up) 61 false false)=G at *
 have nn:h.next+1+1=h.next+2:=rfl
 obtain⟨a0,a1,a2,a3,a4,a5,a6,a7⟩:=T8 gA
 have x0:AJ 0 (G.get (h.next+1))=some (iv x.kind):=by rw[gX];rfl
 have x3:AJ 3 (G.get (h.next+1))=some (iv x.n):=by rw[gX];rfl
 have u0:AJ 0 (G.get (h.next+2))=some (iv up.kind):=by rw[gU];rfl
 have u3:AJ 3 (G.get (h.next+2))=some (iv up.n):=by rw[gU];rfl
 have pq:AO lo G vq s.queues.length 2 (DC s.queues):=p2.mono (by omega) fun i _ hi=>gO i hi
 cases c8:(x.kind==8) with
 | true=>
  have k:=beq_iff_eq.1 c8
  obtain⟨h1,h2⟩:=hx (by rw[k];rfl)
  obtain⟨id,p,e1,e2,e3⟩:=PN pq h1 h2
  rw[cV (.inl k)]
  simp only[eE,seval,↓eP,hr,nn,Nat.zero_add,GL,AT,F_,F9,MY,FH,a2,x0,x3,c8,e1,e3]
  exact gO
 | false=>
 cases c17:(x.kind==17) with
 | true=>
  have k:=beq_iff_eq.1 c17
  obtain⟨h1,h2⟩:=hx (by rw[k];rfl)
  obtain⟨id,p,e1,e2,e3⟩:=PN pq h1 h2
  rw[cV (.inr (.inl k))]
  simp only[eE,seval,↓eP,hr,nn,Nat.zero_add,GL,AT,F_,F9,MY,FH,a2,x0,x3,c8,c17,e1,e3]
  exact gO
 | false=>
 cases c20:(x.kind==20) with
 | true=>
  have k:=beq_iff_eq.1 c20
  obtain⟨h1,h2⟩:=hx (by rw[k];rfl)
  obtain⟨id,p,e1,e2,e3⟩:=PN pq h1 h2
  rw[cV (.inr (.inr k))]
  simp only[eE,seval,↓eP,hr,nn,Nat.zero_add,GL,AT,F_,F9,MY,FH,a2,x0,x3,c8,c17,c20,e1,e3]
  exact gO
 | false=>
 cases c9:(x.kind==9) with
 | true=>
  have k:=beq_iff_eq.1 c9
  obtain⟨h1,h2⟩:=hx (by rw[k];rfl)
  obtain⟨id,p,e1,e2,e3⟩:=PN pq h1 h2
  rw[kJ (.inl k)]
  simp only[eE,seval,↓eP,hr,nn,Nat.zero_add,GL,AT,F_,F9,MY,FH,a2,x0,x3,c8,c17,c20,c9,e1,e3]
  exact gO
 | false=>
 cases c21:(x.kind==21) with
 | true=>
  have k:=beq_iff_eq.1 c21
  obtain⟨h1,h2⟩:=hx (by rw[k];rfl)
  obtain⟨id,p,e1,e2,e3⟩:=PN pq h1 h2
  rw[kJ (.inr k)]
  simp only[eE,seval,↓eP,hr,nn,Nat.zero_add,GL,AT,F_,F9,MY,FH,a2,x0,x3,c8,c17,c20,c9,c21,e1,e3]
  exact gO
 | false=>
 cases c24:(x.kind==24) with
 | false=>
  simp only[beq_eq_false_iff_ne] at c8 c17 c20 c9 c21 c24
  rw[Dx ⟨c8,c17,c20,c9,c21,c24⟩]
  rw[← beq_eq_false_iff_ne] at c8 c17 c20 c9 c21 c24
  simp only[eE,seval,↓eP,hr,nn,x0,c8,c17,c20,c9,c21,c24]
  exact gO
 | true=>
 have k:=beq_iff_eq.1 c24
 obtain⟨h1,h2⟩:=hx (by rw[k];rfl)
 obtain⟨id,p,e1,e2,e3⟩:=PN pq h1 h2
 cases cu20:(up.kind==20) with
 | true=>
  rw[Jp k (beq_iff_eq.1 cu20)]
  simp only[eE,seval,↓eP,hr,nn,Nat.zero_add,CX,GL,AT,F_,F9,MY,FH,a2,x0,x3,u0,c8,c17,c20,c9,c21,c24,cu20,e1,e3]
  exact gO
 | false=>
 have ku:up.kind≠20:=by simpa using cu20
 obtain⟨h3,h4⟩:=hu k ku
 obtain⟨id2,p2',e4,e5,e6⟩:=PN pq h3 h4
 rw[sB k ku]
 simp only[eE,seval,↓eP,nn,CX,AT,x0,u0,c8,c17,c20,c9,c21,c24,cu20]
 refine WK.flags (fs:=dG) (by kernel_rfl) ?_
 unfold dG
 iterate 16
  refine EC hsn ?_
  simp only[rG,seval,AC,AF,AE,C0,DW,CR,DD,EG,F_,F9,a2,GL,AT,x3,e1,MY,e3,FH,u3,e4,e6,YH]
 refine EF ?_
 simp only[eE,seval,↓eP,hr]
 exact gO
theorem xJ {nm:ByteArray} {s:AL} {pv:Value} {lo:Nat} {x up:AB} (hp:CE lo h pv nm s) (hx:[8,17,20,9,21,24].contains x.kind=true→0≤x.n∧x.n<s.queues.length) (hu:x.kind=24→up.kind≠20→0≤up.n∧up.n<s.queues.length) (hn:0<n):AS n 42 [pv,CF x,CF up] h=some (.bool (JJ s.queues x up),h):=by
 obtain⟨n,rfl⟩:=DF hn
 exact JB (BX ⟨rfl,rfl,rfl⟩) rfl (Lm (n:=n) (N:=n) hp hx hu)
end
section
variable {n N:Nat} {h:AA}
end
theorem TN {P:Program} {call:AM} {n:Nat} {c:Code} {s:St} {k:CO} (Q:EI→St→Prop) (h1:WK P call n c s (.top Q)) (h2:∀ e s',Q e s'→k.ap P call n e s'):WK P call n c s k:=WS.mono h1 h2
def DA (l:List Bool):List Value:=l.map (.bool ·)
theorem sM (l:List Bool):(DA l).length=l.length:=by simp[DA]
theorem nS:GQ Tryd.prog 4=some 1:=by kernel_rfl
theorem iL:C6 Tryd.prog 4=some (.bool false):=by kernel_rfl
theorem oV (n:Nat):BW [Value.bool false] n=DA (List.replicate n false):=by
 induction n with
 | zero=>rfl
 | succ n ih=>
  rw[List.replicate_succ]
  show [Value.bool false]++BW [Value.bool false] n=_
  rw[ih]
  rfl
theorem QF {l:List Bool} {i:Nat} {x:Bool} {ty:TypeId} {g ro:Bool} (hx:l[i]?=some x):AJ i (.row (DA l) ty g ro)=some (.bool x):=by simp[AJ,DA,hx]
theorem V2 {h:AA} {id i:Nat} {l:List Bool} {x:Bool} {ty:TypeId} {g:Bool} (hg:h.get id=.row (DA l) ty g false) (hi:i<l.length) (hf:h.floor≤id):BC Tryd.prog h 4 (qP id i) (.bool x)=some (h.put id (.row (DA (l.set i x)) ty g false)):=by
 have:=H0 (v:=.bool x) (off:=i) OW rfl rfl hg (by rw[sM];exact hi) hf
 rw[this]
 simp[DA,List.map_set]
theorem TD {id n c i:Nat} (hi:i<n):CQ Tryd.prog 76 (qS id n c) (iv (i:Int))=some (qP id i):=by
 have:=Ay (id:=id) (n:=n) (c:=c) (i:=i) Tryd.underlying76 OW hi
 rwa [Nat.mul_one] at this
structure MT (h H:AA) (P:List Value) (TP:List Int) (M:GS):Prop where
 p:H.get h.next=.row P 33 false false
 f:H.get (h.next+1)=.row [iv 0,iv 0] 36 false false
 t:H.get (h.next+2)=.row (ints TP) 3 false false
 a:H.get (h.next+3)=.row (ints M.A) 3 false false
 c:H.get (h.next+4)=.row (DA M.C) 4 false false
 u:H.get (h.next+5)=.row (ints M.U) 3 false false
 n:h.next+6≤H.next
 fl:H.floor=h.floor
 o:∀ i,i<h.next→H.get i=h.get i
theorem MT.mono {h H H':AA} {P:List Value} {TP:List Int} {M:GS} (hT:MT h H P TP M) (hn:H.next≤H'.next) (hf:H'.floor=H.floor) (hg:∀ i,i<h.next+6→H'.get i=H.get i):MT h H' P TP M:=
 ⟨by rw[hg _ (by omega)];exact hT.p,by rw[hg _ (by omega)];exact hT.f,by rw[hg _ (by omega)];exact hT.t,by rw[hg _ (by omega)];exact hT.a,by rw[hg _ (by omega)];exact hT.c,by rw[hg _ (by omega)];exact hT.u,by have:=hT.n;omega,hf.trans hT.fl,fun i hi=>by rw[hg i (by omega)];exact hT.o i hi⟩
theorem MP {H:AA} {id:Nat} (hg:H.get id=.row [iv 0,iv 0] 36 false false) (hid:id<H.next) (hf:H.floor≤id) (e a:Int) :
  ∃ H',BC Tryd.prog H 36 (qP id 0) (BR e a)=some H'∧AY 2 0 (H'.get id)=some (BR e a)∧H'.next=H.next∧H'.floor=H.floor∧∀ i,i≠id→H'.get i=H.get i:=
 ⟨_,JQ IS (vs:=[iv e,iv a]) hg rfl rfl rfl hf,by rw[B_ rfl hid];rfl,rfl,rfl,fun i hi=>AW hid (Ne.symm hi)⟩
def T7:List (Bool × Bool × List Operand):=[AK,AK,AK,AK,AK,AK,AQ,AQ,AQ,AQ,AH [.tmp 59],AH [.tmp 59],AH [.tmp 59],AH [.tmp 59],AK,AK,AK]
def TB:List (Bool × Bool × List Operand):=[AQ,AH [.tmp 1],AH [.tmp 1,.tmp 10],AH [.tmp 1,.tmp 10],AH [.tmp 1,.tmp 10,.tmp 84],AH [.tmp 1,.tmp 10,.tmp 84],AH [.tmp 1,.tmp 10,.tmp 84],AH [.tmp 1,.tmp 10,.tmp 84],AH [.tmp 1,.tmp 10],AH [.tmp 1,.tmp 10],AK,AK]
def S4:List (Bool × Bool × List Operand):=[EX,EX,EX,EX,EX,EX,AQ,AQ,AH [.tmp 122],AH [.tmp 122],AQ,F3 [.tmp 122],F3 [.tmp 122],F3 [.tmp 122],F3 [.tmp 122],AK,AK,AK,AH [.tmp 132],AK,AK,F3 [.tmp 122,.tmp 129,.tmp 132],AK,AK,AK,AK,AK,AK]
def Iw (h H2:AA) (D m i:Nat) (vr:Value) (B:Int) (e:EI) (s':St):Prop:=
 (e=.normal∧s'.h=H2∧s'.T.get 1=qP h.next 0∧s'.T.get 3=qP (h.next+1) 0∧s'.T.get 5=qS (h.next+2) m m∧s'.T.get 6=qS (h.next+3) m m∧s'.T.get 7=qS (h.next+4) m m∧s'.T.get 8=qS (h.next+5) m m∧s'.T.get 37=vr∧s'.T.get 38=iv (m:Int)∧s'.T.get 39=iv (i:Int)∧s'.T.get 9=iv (i:Int)∧s'.T.get 10=qP D 0∧B=0) ∨
  (e=.ret∧s'.T.get 2=Z0∧s'.T.get 3=qP (h.next+1) 0∧B≠0∧AY 2 0 (s'.h.get (h.next+1))=some (BR B i)∧s'.h.floor=h.floor∧h.next≤s'.h.next∧∀ j,j<h.next→s'.h.get j=h.get j)
def SP (lo:Nat) (h:AA) (v:Value) (l:List Int):Prop:=(v=Z0∧l=[])∨∃ id,v=qS id l.length l.length∧lo≤id∧id<h.next∧h.get id=.row (ints l) 3 false false
theorem SP.ints {lo:Nat} {h:AA} {v:Value} {l:List Int} (ho:SP lo h v l):AV lo h v l:=by
 rcases ho with⟨rfl,rfl⟩ | ⟨id,rfl,h1,h2,h3⟩
 ·exact AO.nil _ _ _
 ·exact AV.row' h3 ⟨h1,h2⟩ rfl
def X5 (h:AA) (lo:Nat) (v:Value) (R:(Int × Int) × List Int):Prop:=∃ tv,v=.tuple #[tv,BR R.1.1 R.1.2]∧SP lo h tv R.2
theorem Lp {h1:AA} {lo:Nat} {tv:Value} {l:List Int} {e a:Int} (ht:SP lo h1 tv l) (hf:EJ (.tuple #[tv,BR e a])=true) (h:AA):SP lo h tv l:=by
 rcases ht with h9 | ⟨id,rfl,_⟩
 ·exact .inl h9
 ·simp[EJ,flat,BL] at hf
section
variable {n N:Nat} {h:AA}
theorem tL {nm : ByteArray} {s:AL} {pv:Value} {lo:Nat} (hp:CE lo h pv nm s) (hlies:∀ nm' vr vq vv vt vu vo m,pv=.agg #[.string nm',vr,vq,vv,vt,vu,vo,m]→IA vr s.rows.length) (hs:IN s) (hl:s.rows.length<2932031007403) (hg:h.get 0=CT) (hn0:0<h.next) (hfl:h.floor≤h.next) (hn:2*FI s+400<n) (hN:s.rows.length+40<N) :
  ∃ v' h',A7 Tryd.prog (AS n) N 19 [pv] h=some (v',h')∧X5 h' h.next v' (A_ nm s)∧h'.floor=h.floor∧h.next≤h'.next∧∀ i,i<h.next→h'.get i=h.get i:=by
 obtain⟨vr,vq,vv,vt,vu,vo,rfl,p1,p2,p3,p4,p5,p6⟩:=id hp
 have hsn:=(FL n).2
 have htot:FI s=s.rows.length+s.queues.length+s.vars.length+s.tags.length+s.rules.length+s.on.length:=rfl
 refine TG (R:=fun v' h'=>X5 h' h.next v' (A_ nm s)∧h'.floor=h.floor∧h.next≤h'.next∧∀ i,i<h.next→h'.get i=h.get i) Tryd.func19 rfl (by simp[Tryd.f19]) ?_
 have hr:Tryd.f19.results.toList=[.tmp 2,.cell 3 36]:=rfl
 have ca:=E1 [.string nm,vr,vq,vv,vt,vu,vo,iv s.miss]
 have oa:=J2 (nm:=nm) p1 p2 p3 p4 p5 p6
 obtain⟨gA,gF,nG,fG,gO⟩:=Q9 h (.row [.string nm,vr,vq,vv,vt,vu,vo,iv s.miss] 33 false false) (.row [iv 0,iv 0] 36 false false)
 simp only[eE,seval,↓eP,FW,FD,FY,ca,oa,HT,DK,DJ,EO]
 generalize (h.push (.row [.string nm,vr,vq,vv,vt,vu,vo,iv s.miss] 33 false false)).push (.row [iv 0,iv 0] 36 false false)=Q at *
 have lA:AY 8 0 (Q.get h.next)=some (.agg #[.string nm,vr,vq,vv,vt,vu,vo,iv s.miss]):=K7 gA rfl
 have x1:AJ 1 (Q.get h.next)=some vr:=by rw[gA];rfl
 have hpQ:CE lo Q (.agg #[.string nm,vr,vq,vv,vt,vu,vo,iv s.miss]) nm s:=hp.mono (by omega) fun i _ hi=>gO i hi
 have hchk:=mN (n:=n) hpQ hlies hs (by omega) (by omega) (by rw[gO 0 hn0];exact hg) (by omega) (by omega)
 cases d1:(FK nm s != 0) with
 | true=>
  obtain⟨H',s1,s2,s3,s4,s5⟩:=MP gF (by omega) (by omega) (FK nm s) 0
  have e:A_ nm s=((FK nm s,0),[]):=by unfold A_;rw[if_pos (by simpa using d1)]
  rw[e]
  simp only[eE,seval,↓eP,hr,C2,lA,hchk,d1,PE,s1,CM,s2]
  exact⟨⟨_,rfl,.inl ⟨rfl,rfl⟩⟩,by omega,by omega,fun i hi=>by rw[s5 i (by omega)];exact gO i hi⟩
 | false=>
 have e1:FK nm s=0:=by simpa using d1
 have hG:=XT e1
 have eR:A_ nm s=E5 s.rows s.queues (AD (BB s.rows)) s.rows.length 0:=by unfold A_;rw[if_neg (by rw[e1];decide)]
 rw[eR]
 generalize hZ:BB s.rows=Z at *
 clear hZ eR
 have hsl:=hG.sk.1
 have npos:0<s.rows.length:=by have:=hG.t.pos;omega
 have len1:=fun h'=>NJ p1.2 h'
 have LL:∀ H:AA,GW Tryd.prog H 27 (iv (s.rows.length:Int)) (iv (s.rows.length:Int))=some (qS H.next s.rows.length s.rows.length,H.push (.row (ints (List.replicate s.rows.length 0)) 3 false false)):=fun H=>by
  have:=R2 (P:=Tryd.prog) (h:=H) (t:=27) (e:=3) (z:=.int .i64 0) Tryd.underlying27 C4 J7 IB rfl rfl (by decide) (by decide) (n:=s.rows.length) (by omega)
  rw[show BW (Value.int IntKind.i64 0).cells.toList s.rows.length=ints (List.replicate s.rows.length 0) from R_ _] at this
  exact this
 have mkB:∀ H:AA,GW Tryd.prog H 76 (iv (s.rows.length:Int)) (iv (s.rows.length:Int))=some (qS H.next s.rows.length s.rows.length,H.push (.row (DA (List.replicate s.rows.length false)) 4 false false)):=fun H=>by
  have:=R2 (P:=Tryd.prog) (h:=H) (t:=76) (e:=4) (z:=.bool false) Tryd.underlying76 OW nS iL rfl rfl (by decide) (by decide) (n:=s.rows.length) (by omega)
  rw[show BW (Value.bool false).cells.toList s.rows.length=DA (List.replicate s.rows.length false) from oV _] at this
  exact this
 have q1:∀ a,AJ 1 ((Q.push a).get h.next)=some vr:=fun a=>by rw[AR (by omega)];exact x1
 have q2:∀ a b,AJ 1 (((Q.push a).push b).get h.next)=some vr:=fun a b=>by rw[AR (by show h.next<Q.next+1;omega)];exact q1 a
 have q3:∀ a b c,AJ 1 ((((Q.push a).push b).push c).get h.next)=some vr:=fun a b c=>by rw[AR (by show h.next<Q.next+2;omega)];exact q2 a b
 have q4:∀ a b c d,AJ 1 (((((Q.push a).push b).push c).push d).get h.next)=some vr:=fun a b c d=>by rw[AR (by show h.next<Q.next+3;omega)];exact q3 a b c
 have g4:∀ (a b c d:BA),let A:=(((Q.push a).push b).push c).push d
   A.get Q.next=a∧A.get (Q.next+1)=b∧A.get (Q.next+2)=c∧A.get (Q.next+3)=d∧A.next=Q.next+4∧A.floor=Q.floor∧∀ i,i<Q.next→A.get i=Q.get i:=fun a b c d=>
  ⟨by rw[AR (by show Q.next<Q.next+3;omega),AR (by show Q.next<Q.next+2;omega)];exact OI,
   by rw[AR (by show Q.next+1<Q.next+3;omega),AR (by show Q.next+1<Q.next+2;omega)];exact OM,
   by rw[AR (by show Q.next+2<Q.next+3;omega)];exact BP (h:=(Q.push a).push b),BP (h:=((Q.push a).push b).push c),rfl,rfl,
   fun i hi=>by rw[AR (by show i<Q.next+3;omega),AR (by show i<Q.next+2;omega),AR (by show i<Q.next+1;omega),AR hi]⟩
 have h4:=g4 (.row (ints (List.replicate s.rows.length 0)) 3 false false) (.row (ints (List.replicate s.rows.length 0)) 3 false false) (.row (DA (List.replicate s.rows.length false)) 4 false false) (.row (ints (List.replicate s.rows.length 0)) 3 false false)
 simp only[eE,seval,↓eP,C2,lA,hchk,d1,Nat.zero_add,CL,CK,x1,q1,q2,q3,q4,len1,LL,mkB]
 obtain⟨ga,gb,gc,gd,n4,f4,o4⟩:=h4
 generalize (((Q.push (.row (ints (List.replicate s.rows.length 0)) 3 false false)).push (.row (ints (List.replicate s.rows.length 0)) 3 false false)).push (.row (DA (List.replicate s.rows.length false)) 4 false false)).push (.row (ints (List.replicate s.rows.length 0)) 3 false false)=B at *
 have hT0:MT h B [.string nm,vr,vq,vv,vt,vu,vo,iv s.miss] (List.replicate s.rows.length 0) (BM s.rows (AD Z) 0):=by
  rw[nG] at ga gb gc gd
  exact⟨by rw[o4 _ (by omega)];exact gA,by rw[o4 _ (by omega)];exact gF,ga,gb,gc,gd,by omega,by omega,fun i hi=>by rw[o4 i (by omega)];exact gO i hi⟩
 refine WK.loop (fun i s'=>s'.T.get 1=qP h.next 0∧s'.T.get 3=qP (h.next+1) 0∧s'.T.get 5=qS (h.next+2) s.rows.length s.rows.length∧s'.T.get 6=qS (h.next+3) s.rows.length s.rows.length∧s'.T.get 7=qS (h.next+4) s.rows.length s.rows.length∧s'.T.get 8=qS (h.next+5) s.rows.length s.rows.length∧s'.T.get 37=vr∧s'.T.get 38=iv (s.rows.length:Int)∧s'.T.get 39=iv (i:Int)∧i≤s.rows.length∧E5 s.rows s.queues (AD Z) (s.rows.length-i) i=E5 s.rows s.queues (AD Z) s.rows.length 0∧∃ TP:List Int,TP.length=s.rows.length∧(∀ j,j<i→TP[j]?=(s.rows.map (BS ·.kind))[j]?)∧MT h s'.h [.string nm,vr,vq,vv,vt,vu,vo,iv s.miss] TP (BM s.rows (AD Z) i)) s.rows.length (by omega) ?_ ?_
 ·exact⟨by simp only[eE,seval,↓eP,rP],by simp only[eE,seval,↓eP,rP],by simp only[eE,seval,↓eP,rP,nG],by simp only[eE,seval,↓eP,rP,nG],by simp only[eE,seval,↓eP,rP,nG],by simp only[eE,seval,↓eP,rP,nG],by simp only[eE,seval,↓eP,rP],by simp only[eE,seval,↓eP,rP],by simp only[eE,seval,↓eP,rP] <;> rfl,by omega,rfl,_,by simp,fun j hj=>by omega,hT0⟩
 rintro i ⟨T,H⟩ hi ⟨t1,t3,t5,t6,t7,t8,t37,t38,t39,hil,hgo,TP,hTl,hTP,hT⟩
 simp only at t1 t3 t5 t6 t7 t8 t37 t38 t39 hT
 by_cases hlt:i<s.rows.length
 rotate_left
 ·have c1:decide ((i:Int)<(s.rows.length:Int))=false:=by simp;omega
  have hin:i=s.rows.length:=by omega
  subst hin
  have hTe:TP=s.rows.map (BS ·.kind):=by
   apply List.ext_getElem?
   intro j
   rcases Nat.lt_or_ge j s.rows.length with h1 | h1
   ·exact hTP j h1
   ·rw[List.getElem?_eq_none (by omega),List.getElem?_eq_none (by rw[List.length_map];omega)]
  have hnx:=hT.n
  have hfl':=hT.fl
  obtain⟨H',s1,s2,s3,s4,s5⟩:=MP hT.f (by omega) (by omega) 0 0
  have eG:E5 s.rows s.queues (AD Z) s.rows.length 0=((0,0),s.rows.map (BS ·.kind)):=by rw[← hgo,Nat.sub_self];rfl
  rw[eG]
  simp only[eE,seval,↓eP,hr,t3,t5,t38,t39,c1,FQ,s1,CM,s2]
  exact⟨⟨_,rfl,.inr ⟨h.next+2,by rw[List.length_map],by omega,by omega,by rw[s5 _ (by omega),← hTe];exact hT.t⟩⟩,by omega,by omega,fun j hj=>by rw[s5 j (by omega)];exact hT.o j hj⟩
 have c1:decide ((i:Int)<(s.rows.length:Int))=true:=by simp;omega
 obtain⟨x,hx⟩:∃ x,s.rows[i]?=some x:=⟨_,List.getElem?_eq_getElem hlt⟩
 obtain⟨r,hr1⟩:∃ r,s.rows.length-i=r+1:=⟨s.rows.length-i-1,by omega⟩
 rw[hr1] at hgo
 have hri:s.rows.length-(i+1)=r:=by omega
 have hnx:=hT.n
 have hfl':=hT.fl
 have hvH:A9 H vr s.rows:=p1.1.mono (by omega) hT.o
 obtain⟨ia,pa,ea,hia,_,_,_,_,_,la⟩:=hvH.row hx
 have fz:flat (CF KS)=true:=rfl
 obtain⟨H1,stX,gX,n1,f1,o1⟩:=LG (t:=61) GC (H:=H) (zs:=AX KS) (vs:=AX x) rfl rfl rfl (by omega)
 have stX':BC Tryd.prog (H.push (.row (AX KS) 61 false false)) 61 (qP H.next 0) (CF x)=some H1:=stX
 have hT1:MT h H1 [.string nm,vr,vq,vv,vt,vu,vo,iv s.miss] TP (BM s.rows (AD Z) i):=hT.mono (by omega) f1 fun j hj=>o1 j (by omega)
 have kx:=hG.ks i x hx
 have ht1:=mM (n:=n) (h:=H1) kx (by omega)
 have y0:AJ 0 (H1.get H.next)=some (iv x.kind):=by rw[gX];rfl
 have ix0:=FP (id:=h.next+2) (n:=s.rows.length) (c:=s.rows.length) (i:=i) hlt
 have st0:BC Tryd.prog H1 3 (qP (h.next+2) i) (iv (BS x.kind))=some (H1.put (h.next+2) (.row (ints (TP.set i (BS x.kind))) 3 false false)):=M5 hT1.t (by omega) (by omega)
 have hT2:MT h (H1.put (h.next+2) (.row (ints (TP.set i (BS x.kind))) 3 false false)) [.string nm,vr,vq,vv,vt,vu,vo,iv s.miss] (TP.set i (BS x.kind)) (BM s.rows (AD Z) i):=by
  have g:∀ j,j≠h.next+2→(H1.put (h.next+2) (.row (ints (TP.set i (BS x.kind))) 3 false false)).get j=H1.get j:=fun j hj=>AW (by omega) (Ne.symm hj)
  exact⟨by rw[g _ (by omega)];exact hT1.p,by rw[g _ (by omega)];exact hT1.f,B_ rfl (by omega),by rw[g _ (by omega)];exact hT1.a,by rw[g _ (by omega)];exact hT1.c,by rw[g _ (by omega)];exact hT1.u,hT1.n,hT1.fl,fun j hj=>by rw[g j (by omega)];exact hT1.o j hj⟩
 have gX2:(H1.put (h.next+2) (.row (ints (TP.set i (BS x.kind))) 3 false false)).get H.next=.row (AX x) 61 false false:=by rw[AW (by omega) (by omega)];exact gX
 have n2:(H1.put (h.next+2) (.row (ints (TP.set i (BS x.kind))) 3 false false)).next=H.next+1:=n1
 simp only[TT,seval,↓eP,t38,t39,c1]
 rw[S_]
 simp only[TT,seval,↓eP,t5,t37,t39,ea,HW,la,Fsx,fz,zr,stX',CX,AT,y0,ht1,ix0,st0]
 have hTl2:(TP.set i (BS x.kind)).length=s.rows.length:=by rw[List.length_set];exact hTl
 have hTP2:∀ j,j<i+1→(TP.set i (BS x.kind))[j]?=(s.rows.map (BS ·.kind))[j]?:=fun j hj=>by
  rcases Nat.lt_or_ge j i with h1 | h1
  ·rw[List.getElem?_set_ne (by omega)]
   exact hTP j h1
  ·have:j=i:=by omega
   subst this
   rw[List.getElem?_set_self (by omega),List.getElem?_map,hx]
   rfl
 generalize H1.put (h.next+2) (.row (ints (TP.set i (BS x.kind))) 3 false false)=H2 at *
 generalize TP.set i (BS x.kind)=TP2 at *
 generalize hD:H.next=D at *
 clear st0 stX stX' y0 ht1 hT1 hT hTP
 obtain⟨m1,m2,m3⟩:=TM (R:=s.rows) (AD Z) i
 obtain⟨a,hA⟩:∃ a,(BM s.rows (AD Z) i).A[i]?=some a:=⟨_,List.getElem?_eq_getElem (by omega)⟩
 obtain⟨c,hC⟩:∃ c,(BM s.rows (AD Z) i).C[i]?=some c:=⟨_,List.getElem?_eq_getElem (by omega)⟩
 obtain⟨u,hU⟩:∃ u,(BM s.rows (AD Z) i).U[i]?=some u:=⟨_,List.getElem?_eq_getElem (by omega)⟩
 have hUb:=nU (R:=s.rows) (e:=AD Z) rfl npos i (by omega) u (List.mem_of_getElem? hU)
 obtain⟨up,hup⟩:∃ up,s.rows[u.toNat]?=some up:=⟨_,List.getElem?_eq_getElem (by omega)⟩
 have hnx2:=hT2.n
 have hfl2:=hT2.fl
 have lA':AY 8 0 (H2.get h.next)=some (.agg #[.string nm,vr,vq,vv,vt,vu,vo,iv s.miss]):=K7 hT2.p rfl
 have xa1:AJ 1 (H2.get h.next)=some vr:=by rw[hT2.p];rfl
 have y0:AJ 0 (H2.get D)=some (iv x.kind):=by rw[gX2];rfl
 have y4:AJ 4 (H2.get D)=some (iv x.kids):=by rw[gX2];rfl
 have yN:AY 5 0 (H2.get D)=some (CF x):=by rw[gX2];rfl
 have ix1:=FP (id:=h.next+3) (n:=s.rows.length) (c:=s.rows.length) (i:=i) hlt
 have ix2:=TD (id:=h.next+4) (n:=s.rows.length) (c:=s.rows.length) (i:=i) hlt
 have ix3:=FP (id:=h.next+5) (n:=s.rows.length) (c:=s.rows.length) (i:=i) hlt
 have l0:AJ i (H2.get (h.next+2))=some (iv (BS x.kind)):=by
  rw[hT2.t]
  refine MZ ?_
  rw[hTP2 i (by omega),List.getElem?_map,hx]
  rfl
 have l1:AJ i (H2.get (h.next+3))=some (iv a):=by rw[hT2.a];exact MZ hA
 have l2:AJ i (H2.get (h.next+4))=some (.bool c):=by rw[hT2.c];exact QF hC
 have l3:AJ i (H2.get (h.next+5))=some (iv u):=by rw[hT2.u];exact MZ hU
 have hv2:A9 H2 vr s.rows:=p1.1.mono (by omega) hT2.o
 obtain⟨iu,pu,eu,hiu,_,_,_,_,_,lu⟩:=hv2.row hup
 rw[show ((u.toNat:Nat):Int)=u by omega] at eu
 have hvar:=Ap (n:=n) (h:=H2) kx (by omega)
 have hp2:CE lo H2 (.agg #[.string nm,vr,vq,vv,vt,vu,vo,iv s.miss]) nm s:=hp.mono (by omega) fun j _ hj=>hT2.o j hj
 have hoth:=xJ (n:=n) (x:=x) (up:=up) hp2 (fun h9=>hG.qn i x hx (tM h9)) (fun h24 h20=>by
  obtain⟨h0i,up',hup',hU',hrange⟩:=hG.place hx h24
  rw[hU] at hU'
  cases hU'
  rw[show ((i-1:Nat):Int).toNat=i-1 by omega,hup'] at hup
  cases hup
  exact hrange h20) (by omega)
 refine TN (Iw h H2 D s.rows.length i vr (GM s.rows s.queues (BM s.rows (AD Z) i) i x)) ?_ ?_
 ·have bad:∀ b:Int,∃ H',BC Tryd.prog H2 36 (qP (h.next+1) 0) (BR b i)=some H'∧AY 2 0 (H'.get (h.next+1))=some (BR b i)∧H'.floor=h.floor∧h.next≤H'.next∧∀ j,j<h.next→H'.get j=h.get j:=fun b=>by
   obtain⟨H',s1,s2,s3,s4,s5⟩:=MP hT2.f (by omega) (by omega) b i
   exact⟨H',s1,s2,by omega,by omega,fun j hj=>by rw[s5 j (by omega)];exact hT2.o j hj⟩
  rw[S_]
  simp only[eE,seval,↓eP]
  refine TN (fun e s'=>e=.normal∧s'.h=H2∧s'.T.get 1=qP h.next 0∧s'.T.get 3=qP (h.next+1) 0∧s'.T.get 5=qS (h.next+2) s.rows.length s.rows.length∧s'.T.get 6=qS (h.next+3) s.rows.length s.rows.length∧s'.T.get 7=qS (h.next+4) s.rows.length s.rows.length∧s'.T.get 8=qS (h.next+5) s.rows.length s.rows.length∧s'.T.get 37=vr∧s'.T.get 38=iv (s.rows.length:Int)∧s'.T.get 39=iv (i:Int)∧s'.T.get 9=iv (i:Int)∧s'.T.get 10=qP D 0∧s'.T.get 50=.bool (a != 0&&BS x.kind != a)) ?_ ?_
  ·cases da:(a != 0) with
   | false=>
    refine WK.flags (fs:=T7) (by kernel_rfl) ?_
    unfold T7
    iterate 17
     refine EC hsn ?_
     simp only[rG,seval,AC,AF,AE,C0,DW,CR,DD,EG,Option.bind_some,I3,t6,ix1,l1,AT,da]
    refine EF ?_
    exact⟨rfl,rfl,by simp only[eE,seval,↓eP,rP,t1],by simp only[eE,seval,↓eP,rP,t3],by simp only[eE,seval,↓eP,rP,t5],by simp only[eE,seval,↓eP,rP,t6],by simp only[eE,seval,↓eP,rP,t7],by simp only[eE,seval,↓eP,rP,t8],by simp only[eE,seval,↓eP,rP,t37],by simp only[eE,seval,↓eP,rP,t38],by simp only[eE,seval,↓eP,rP,t39],by simp only[eE,seval,↓eP,rP],by simp only[eE,seval,↓eP,rP],by simp only[eE,seval,↓eP,rP,Bool.false_and]⟩
   | true=>
    refine WK.flags (fs:=T7) (by kernel_rfl) ?_
    unfold T7
    iterate 17
     refine EC hsn ?_
     simp only[rG,seval,AC,AF,AE,C0,DW,CR,DD,EG,Option.bind_some,I3,t6,ix1,l1,AT,da,t5,ix0,l0]
    refine EF ?_
    exact⟨rfl,rfl,by simp only[eE,seval,↓eP,rP,t1],by simp only[eE,seval,↓eP,rP,t3],by simp only[eE,seval,↓eP,rP,t5],by simp only[eE,seval,↓eP,rP,t6],by simp only[eE,seval,↓eP,rP,t7],by simp only[eE,seval,↓eP,rP,t8],by simp only[eE,seval,↓eP,rP,t37],by simp only[eE,seval,↓eP,rP,t38],by simp only[eE,seval,↓eP,rP,t39],by simp only[eE,seval,↓eP,rP],by simp only[eE,seval,↓eP,rP],by simp only[eE,seval,↓eP,rP]⟩
  rintro e ⟨T2,HH⟩ ⟨rfl,hh,u1,u3,u5,u6,u7,u8,u37,u38,u39,u9,u10,u50⟩
  simp only at hh u1 u3 u5 u6 u7 u8 u37 u38 u39 u9 u10 u50
  subst hh
  cases d50:(a != 0&&BS x.kind != a) with
  | true=>
   obtain⟨H',s1,s2,s3,s4,s5⟩:=bad 41
   simp only[eE,seval,↓eP,u3,u9,u50,d50,IQ,s1]
   simp only[Bool.and_eq_true,bne_iff_ne] at d50
   exact .inr ⟨rfl,by simp only[eE,seval,↓eP,rP],by simp only[eE,seval,↓eP,rP,u3],by rw[SO hA d50.1 d50.2];decide,by rw[SO hA d50.1 d50.2];exact s2,s3,s4,s5⟩
  | false=>
  have n41:¬(a≠0∧BS x.kind≠a):=by
   intro hc
   rw[show (a != 0&&BS x.kind != a)=true by simp[hc.1,hc.2]] at d50
   cases d50
  cases c with
  | false=>
   have b46:=lW (Q:=s.queues) hA n41 hC (x:=x) (by rw[Bool.false_and]) hU hup
   simp only[eE,seval,↓eP,u7,u9,u50,d50,ix2,FH,l2]
   refine WK.flags (fs:=TB) (by kernel_rfl) ?_
   unfold TB
   iterate 12
    refine EC hsn ?_
    simp only[rG,seval,AC,AF,AE,C0,DW,CR,DD,EG,Option.bind_some,u1,C2,lA',u10,HW,yN,CL,CK,xa1,u8,u9,ix3,AT,l3,eu,lu,hoth]
   refine EF ?_
   cases do_:JJ s.queues x up with
   | true=>
    obtain⟨H',s1,s2,s3,s4,s5⟩:=bad 46
    simp only[eE,seval,↓eP,u3,u9,IQ,s1]
    exact .inr ⟨rfl,by simp only[eE,seval,↓eP,rP],by simp only[eE,seval,↓eP,rP,u3],by rw[b46,do_];decide,by rw[b46,do_];exact s2,s3,s4,s5⟩
   | false=>
    simp only[eE,seval,↓eP]
    exact .inl ⟨rfl,rfl,by simp only[eE,seval,↓eP,rP,u1],by simp only[eE,seval,↓eP,rP,u3],by simp only[eE,seval,↓eP,rP,u5],by simp only[eE,seval,↓eP,rP,u6],by simp only[eE,seval,↓eP,rP,u7],by simp only[eE,seval,↓eP,rP,u8],by simp only[eE,seval,↓eP,rP,u37],by simp only[eE,seval,↓eP,rP,u38],by simp only[eE,seval,↓eP,rP,u39],by simp only[eE,seval,↓eP,rP,u9],by simp only[eE,seval,↓eP,rP,u10],by rw[b46,do_];rfl⟩
  | true=>
   cases dv:JM x.kind with
   | true=>
    rw[dv] at hvar
    obtain⟨H',s1,s2,s3,s4,s5⟩:=bad 42
    simp only[eE,seval,↓eP,u3,u7,u9,u10,u50,d50,ix2,FH,l2,CX,AT,y0,hvar,IQ,s1]
    exact .inr ⟨rfl,by simp only[eE,seval,↓eP,rP],by simp only[eE,seval,↓eP,rP,u3],by rw[WU hA n41 hC dv];decide,by rw[WU hA n41 hC dv];exact s2,s3,s4,s5⟩
   | false=>
    rw[dv] at hvar
    have b46:=lW (Q:=s.queues) hA n41 hC (x:=x) (by rw[dv,Bool.and_false]) hU hup
    simp only[eE,seval,↓eP,u7,u9,u10,u50,d50,ix2,FH,l2,CX,AT,y0,hvar]
    refine WK.flags (fs:=TB) (by kernel_rfl) ?_
    unfold TB
    iterate 12
     refine EC hsn ?_
     simp only[rG,seval,AC,AF,AE,C0,DW,CR,DD,EG,Option.bind_some,u1,C2,lA',u10,HW,yN,CL,CK,xa1,u8,u9,ix3,AT,l3,eu,lu,hoth]
    refine EF ?_
    cases do_:JJ s.queues x up with
    | true=>
     obtain⟨H',s1,s2,s3,s4,s5⟩:=bad 46
     simp only[eE,seval,↓eP,u3,u9,IQ,s1]
     exact .inr ⟨rfl,by simp only[eE,seval,↓eP,rP],by simp only[eE,seval,↓eP,rP,u3],by rw[b46,do_];decide,by rw[b46,do_];exact s2,s3,s4,s5⟩
    | false=>
     simp only[eE,seval,↓eP]
     exact .inl ⟨rfl,rfl,by simp only[eE,seval,↓eP,rP,u1],by simp only[eE,seval,↓eP,rP,u3],by simp only[eE,seval,↓eP,rP,u5],by simp only[eE,seval,↓eP,rP,u6],by simp only[eE,seval,↓eP,rP,u7],by simp only[eE,seval,↓eP,rP,u8],by simp only[eE,seval,↓eP,rP,u37],by simp only[eE,seval,↓eP,rP,u38],by simp only[eE,seval,↓eP,rP,u39],by simp only[eE,seval,↓eP,rP,u9],by simp only[eE,seval,↓eP,rP,u10],by rw[b46,do_];rfl⟩
 rintro e ⟨T3,HH⟩ (⟨rfl,hh,u1,u3,u5,u6,u7,u8,u37,u38,u39,u9,u10,b0⟩ | ⟨rfl,u2,u3,hb0,lF,fF,nF,oF⟩)
 rotate_left
 ·simp only at u2 u3 lF fF nF oF
  have eG:E5 s.rows s.queues (AD Z) s.rows.length 0=((GM s.rows s.queues (BM s.rows (AD Z) i) i x,(i:Int)),[]):=by rw[← hgo];exact pO hx rfl hb0
  rw[eG]
  simp only[eE,seval,↓eP,hr,u2,u3,CM,lF]
  exact⟨⟨_,rfl,.inl ⟨rfl,rfl⟩⟩,fF,nF,oF⟩
 simp only at hh u1 u3 u5 u6 u7 u8 u37 u38 u39 u9 u10
 subst hh
 have hgo2:E5 s.rows s.queues (AD Z) (s.rows.length-(i+1)) (i+1)=E5 s.rows s.queues (AD Z) s.rows.length 0:=by rw[← hgo,hri];exact(jH hx b0).symm
 have w1:=E_ i (by omega)
 obtain⟨k0,hch,hel,hei⟩:=hG.kids0 hx
 have eM:BM s.rows (AD Z) (i+1)=GU i x (BS (((s.rows[i+1]?).map (·.kind)).getD 0)) 0 (BE (AD Z) x.kids.toNat (i+1)) (BM s.rows (AD Z) i):=by
  show JH s.rows (AD Z) i (BM s.rows (AD Z) i)=_
  unfold JH
  rw[hx]
 cases dk:(x.kids==0) with
 | true=>
  have hk0:x.kids.toNat=0:=by have:=beq_iff_eq.1 dk;omega
  have eM0:BM s.rows (AD Z) (i+1)=BM s.rows (AD Z) i:=by rw[eM,hk0];rfl
  simp only[eE,seval,↓eP,u1,u3,u5,u6,u7,u8,u37,u38,u39,u10,Nat.zero_add,V_,AT,y4,dk,w1]
  exact⟨hlt,by omega,hgo2,TP2,hTl2,hTP2,by rw[eM0];exact hT2⟩
 | false=>
 have hk1 : 0 < x.kids := by have:x.kids≠0:=by simpa using dk
                             omega
 have hi1:=hG.next hx hk1
 obtain⟨y,hy⟩:∃ y,s.rows[i+1]?=some y:=⟨_,List.getElem?_eq_getElem hi1⟩
 have ky:=hG.ks _ y hy
 obtain⟨ib,pb,eb,hib,lb,_⟩:=hv2.row hy
 have hty:=mM (n:=n) (h:=HH) ky (by omega)
 obtain⟨zz,hzz,_,hzk⟩:=hG.z hx
 obtain⟨kv,H5,hkids,hkL,f5,n5,o5⟩:=XZ (n:=n) hG.t hG.sk hv2 hzz (by omega) (by omega) (by omega)
 rw[← hzk] at hkL
 have hkc:=hkL.ints (Nat.le_refl _)
 have lenK:=fun h'=>I_ hkc h'
 have hkl:((BE (AD Z) x.kids.toNat (i+1)).map (fun (k:Nat)=>(k:Int))).length=x.kids.toNat:=by rw[List.length_map,NV]
 rw[hkl,show ((x.kids.toNat:Nat):Int)=x.kids by omega] at lenK
 simp only[eE,seval,↓eP,u1,u9,u10,Nat.zero_add,V_,CX,AT,y4,dk,CL,CK,xa1,w1,eb,lb,hty,hkids,lenK]
 have eY:((s.rows[i+1]?).map (·.kind)).getD 0=y.kind:=by rw[hy];rfl
 rw[eY] at eM
 have hT5:MT h H5 [.string nm,vr,vq,vv,vt,vu,vo,iv s.miss] TP2 (BM s.rows (AD Z) i):=hT2.mono (by omega) (by omega) fun j hj=>o5 j (by omega)
 obtain⟨mo1,mo2⟩:=hG.most hx
 have hkn:x.kids.toNat≤s.rows.length:=by have:=IF _ _ _ hch;omega
 refine WK.loop (fun q s'=>s'.T.get 1=qP h.next 0∧s'.T.get 3=qP (h.next+1) 0∧s'.T.get 5=qS (h.next+2) s.rows.length s.rows.length∧s'.T.get 6=qS (h.next+3) s.rows.length s.rows.length∧s'.T.get 7=qS (h.next+4) s.rows.length s.rows.length∧s'.T.get 8=qS (h.next+5) s.rows.length s.rows.length∧s'.T.get 37=vr∧s'.T.get 38=iv (s.rows.length:Int)∧s'.T.get 39=iv (i:Int)∧s'.T.get 9=iv (i:Int)∧s'.T.get 10=qP D 0∧s'.T.get 11=iv (BS y.kind)∧s'.T.get 109=kv∧s'.T.get 110=iv x.kids∧s'.T.get 111=iv (q:Int)∧q≤x.kids.toNat∧H5.next≤s'.h.next∧(∀ j,h.next+6≤j→j<H5.next→s'.h.get j=H5.get j)∧MT h s'.h [.string nm,vr,vq,vv,vt,vu,vo,iv s.miss] TP2 (GU i x (BS y.kind) 0 ((BE (AD Z) x.kids.toNat (i+1)).take q) (BM s.rows (AD Z) i))) x.kids.toNat (by omega) ?_ ?_
 ·exact⟨by simp only[eE,seval,↓eP,rP,u1],by simp only[eE,seval,↓eP,rP,u3],by simp only[eE,seval,↓eP,rP,u5],by simp only[eE,seval,↓eP,rP,u6],by simp only[eE,seval,↓eP,rP,u7],by simp only[eE,seval,↓eP,rP,u8],by simp only[eE,seval,↓eP,rP,u37],by simp only[eE,seval,↓eP,rP,u38],by simp only[eE,seval,↓eP,rP,u39],by simp only[eE,seval,↓eP,rP,u9],by simp only[eE,seval,↓eP,rP,u10],by simp only[eE,seval,↓eP,rP],by simp only[eE,seval,↓eP,rP],by simp only[eE,seval,↓eP,rP],by simp only[eE,seval,↓eP,rP] <;> rfl,by omega,Nat.le_refl _,fun _ _ _=>rfl,by rw[List.take_zero];exact hT5⟩
 rintro q ⟨T4,H6⟩ hq ⟨wt1,wt3,wt5,wt6,wt7,wt8,wt37,wt38,w39,w9,w10,w11,w109,w110,w111,hqk,n6,o6,hT6⟩
 simp only at wt1 wt3 wt5 wt6 wt7 wt8 wt37 wt38 w39 w9 w10 w11 w109 w110 w111 n6 o6 hT6
 by_cases hql:q<x.kids.toNat
 rotate_left
 ·have c3:decide ((q:Int)<x.kids)=false:=by simp;omega
  simp only[eE,seval,↓eP,wt1,wt3,wt5,wt6,wt7,wt8,wt37,wt38,w39,w110,w111,c3,w1]
  have hq9:q=x.kids.toNat:=by omega
  subst hq9
  have hTk:(BE (AD Z) x.kids.toNat (i+1)).take x.kids.toNat=BE (AD Z) x.kids.toNat (i+1):=List.take_of_length_le (by rw[NV];omega)
  rw[hTk] at hT6
  exact⟨hlt,by omega,hgo2,TP2,hTl2,hTP2,by rw[eM];exact hT6⟩
 have c3:decide ((q:Int)<x.kids)=true:=by simp;omega
 obtain⟨p,hpk⟩:∃ p,(BE (AD Z) x.kids.toNat (i+1))[q]?=some p:=⟨_,List.getElem?_eq_getElem (by rw[NV];exact hql)⟩
 obtain⟨hip,hpl⟩:=hG.kid hx hpk
 have hkc6:AV (h.next+6) H6 kv ((BE (AD Z) x.kids.toNat (i+1)).map (fun (k:Nat)=>(k:Int))):=AV.mono (hkL.ints (by omega)) (by omega) fun j h1 h2=>o6 j h1 h2
 obtain⟨ip,pp,ep,hip2,lp⟩:=AV.get hkc6 (i:=q) (x:=(p:Int)) (by rw[List.getElem?_map,hpk];rfl)
 have w2:=E_ q (by omega)
 have eS:=g_ (i:=i) (x:=x) (first:=BS y.kind) (BE (AD Z) x.kids.toNat (i+1)) 0 q (BM s.rows (AD Z) i) p hpk
 rw[Nat.zero_add] at eS
 obtain⟨b1,b2,b3⟩:=dJ (i:=i) (x:=x) (first:=BS y.kind) ((BE (AD Z) x.kids.toNat (i+1)).take q) 0 (BM s.rows (AD Z) i)
 generalize GU i x (BS y.kind) 0 ((BE (AD Z) x.kids.toNat (i+1)).take q) (BM s.rows (AD Z) i)=Mq at *
 obtain⟨cq,hcq⟩:∃ cq,Mq.C[i]?=some cq:=⟨_,List.getElem?_eq_getElem (by omega)⟩
 have hnx6:=hT6.n
 have hfl6:=hT6.fl
 have z0:AJ 0 (H6.get D)=some (iv x.kind):=by rw[o6 D (by omega) (by omega),o5 D (by omega)];exact y0
 have hask:∀ G:AA,AS n 43 [iv x.kind,iv (q:Int),iv (BS y.kind)] G=some (iv (EY x.kind q (BS y.kind)),G):=fun G=>Ho kx (fun h9=>by have:=mo1 h9;omega) (fun h9=>by have:=mo2 h9;omega) (by omega)
 have hfix:∀ G:AA,AS n 44 [iv x.kind,iv (q:Int)] G=some (.bool (JP x.kind q),G):=fun G=>Bd (by omega)
 have jx1:=FP (id:=h.next+3) (n:=s.rows.length) (c:=s.rows.length) (i:=p) hpl
 have jx2:=TD (id:=h.next+4) (n:=s.rows.length) (c:=s.rows.length) (i:=p) hpl
 have jx3:=FP (id:=h.next+5) (n:=s.rows.length) (c:=s.rows.length) (i:=p) hpl
 have lc:AJ i (H6.get (h.next+4))=some (.bool cq):=by rw[hT6.c];exact QF hcq
 have hA0:(h.next+4<H6.next)=True:=by simp;omega
 have sa:BC Tryd.prog H6 3 (qP (h.next+3) p) (iv (EY x.kind q (BS y.kind)))=some (H6.put (h.next+3) (.row (ints (Mq.A.set p (EY x.kind q (BS y.kind)))) 3 false false)):=M5 hT6.a (by omega) (by omega)
 have na:∀ j,j≠h.next+3→(H6.put (h.next+3) (.row (ints (Mq.A.set p (EY x.kind q (BS y.kind)))) 3 false false)).get j=H6.get j:=fun j hj=>AW (by omega) (Ne.symm hj)
 have ga1:(H6.put (h.next+3) (.row (ints (Mq.A.set p (EY x.kind q (BS y.kind)))) 3 false false)).get (h.next+3)=.row (ints (Mq.A.set p (EY x.kind q (BS y.kind)))) 3 false false:=B_ rfl (by omega)
 have nna:(H6.put (h.next+3) (.row (ints (Mq.A.set p (EY x.kind q (BS y.kind)))) 3 false false)).next=H6.next:=rfl
 have ffa:(H6.put (h.next+3) (.row (ints (Mq.A.set p (EY x.kind q (BS y.kind)))) 3 false false)).floor=H6.floor:=rfl
 have fla:(H6.put (h.next+3) (.row (ints (Mq.A.set p (EY x.kind q (BS y.kind)))) 3 false false)).fl H6.floor=H6.put (h.next+3) (.row (ints (Mq.A.set p (EY x.kind q (BS y.kind)))) 3 false false):=rfl
 generalize H6.put (h.next+3) (.row (ints (Mq.A.set p (EY x.kind q (BS y.kind)))) 3 false false)=Ha at *
 have sc:∀ v:Bool,BC Tryd.prog Ha 4 (qP (h.next+4) p) (.bool v)=some (Ha.put (h.next+4) (.row (DA (Mq.C.set p v)) 4 false false)):=fun v=>V2 (by rw[na _ (by omega)];exact hT6.c) (by omega) (by omega)
 have su:∀ v:Bool,BC Tryd.prog (Ha.put (h.next+4) (.row (DA (Mq.C.set p v)) 4 false false)) 3 (qP (h.next+5) p) (iv (i:Int))=some ((Ha.put (h.next+4) (.row (DA (Mq.C.set p v)) 4 false false)).put (h.next+5) (.row (ints (Mq.U.set p (i:Int))) 3 false false)):=fun v=>M5 (by rw[AW (by omega) (by omega),na _ (by omega)];exact hT6.u) (by omega) (by show Ha.floor≤_;omega)
 have fin:∀ v:Bool,v=(((Mq.C[i]?).getD false)||JP x.kind q)→MT h ((Ha.put (h.next+4) (.row (DA (Mq.C.set p v)) 4 false false)).put (h.next+5) (.row (ints (Mq.U.set p (i:Int))) 3 false false)) [.string nm,vr,vq,vv,vt,vu,vo,iv s.miss] TP2 (HJ i x (BS y.kind) Mq q p) ∧
   ∀ j,h.next+6≤j→((Ha.put (h.next+4) (.row (DA (Mq.C.set p v)) 4 false false)).put (h.next+5) (.row (ints (Mq.U.set p (i:Int))) 3 false false)).get j=H6.get j:=fun v hv=>by
  have g:∀ j,j≠h.next+4→j≠h.next+5→((Ha.put (h.next+4) (.row (DA (Mq.C.set p v)) 4 false false)).put (h.next+5) (.row (ints (Mq.U.set p (i:Int))) 3 false false)).get j=Ha.get j:=fun j h1 h2=>by rw[AW (by show _<Ha.next;omega) (Ne.symm h2),AW (by omega) (Ne.symm h1)]
  refine⟨⟨by rw[g _ (by omega) (by omega),na _ (by omega)];exact hT6.p,by rw[g _ (by omega) (by omega),na _ (by omega)];exact hT6.f,by rw[g _ (by omega) (by omega),na _ (by omega)];exact hT6.t,by rw[g _ (by omega) (by omega)];exact ga1,?_,B_ rfl (by show _<Ha.next;omega),by show _≤Ha.next;omega,by show Ha.floor=_;omega,fun j hj=>by rw[g j (by omega) (by omega),na j (by omega)];exact hT6.o j hj⟩,fun j hj=>by rw[g j (by omega) (by omega),na j (by omega)]⟩
  rw[AW (by show _<Ha.next;omega) (by omega),B_ rfl (by omega)]
  show BA.row (DA (Mq.C.set p v)) 4 false false=.row (DA (Mq.C.set p (((Mq.C[i]?).getD false)||JP x.kind q))) 4 false false
  rw[hv]
 simp only[eE,seval,↓eP,w109,w110,w111,c3,ep,AT,lp]
 cases cq with
 | true=>
  refine WK.flags (fs:=S4) (by kernel_rfl) ?_
  unfold S4
  iterate 28
   refine EC hsn ?_
   simp only[rG,seval,AC,AF,AE,C0,DW,CR,DD,EG,Option.bind_some,wt6,wt7,wt8,w10,CX,AT,z0,w11,hask,J6,w9,ix2,FH,lc,hA0,jx1,I3,sa,fla,jx2,ffa,sc,OQ,jx3,LX,su]
  refine EF ?_
  obtain⟨hT7,o7⟩:=fin (true) (by rw[hcq];rfl)
  simp only[eE,seval,↓eP,wt1,wt3,wt5,wt6,wt7,wt8,wt37,wt38,w39,w9,w10,w11,w109,w110,w111,w2]
  exact⟨hql,by omega,Nat.le_trans n6 (Nat.le_of_eq nna.symm),fun j h1 h2=>by rw[o7 j h1];exact o6 j h1 h2,by rw[eS];exact hT7⟩
 | false=>
  refine WK.flags (fs:=S4) (by kernel_rfl) ?_
  unfold S4
  iterate 28
   refine EC hsn ?_
   simp only[rG,seval,AC,AF,AE,C0,DW,CR,DD,EG,Option.bind_some,wt6,wt7,wt8,w10,CX,AT,z0,w11,hask,J6,w9,ix2,FH,lc,hA0,hfix,jx1,I3,sa,fla,jx2,ffa,sc,OQ,jx3,LX,su]
  refine EF ?_
  obtain⟨hT7,o7⟩:=fin (JP x.kind q) (by rw[hcq];rfl)
  simp only[eE,seval,↓eP,wt1,wt3,wt5,wt6,wt7,wt8,wt37,wt38,w39,w9,w10,w11,w109,w110,w111,w2]
  exact⟨hql,by omega,Nat.le_trans n6 (Nat.le_of_eq nna.symm),fun j h1 h2=>by rw[o7 j h1];exact o6 j h1 h2,by rw[eS];exact hT7⟩
theorem Ao {nm:ByteArray} {s:AL} {pv:Value} {lo:Nat} (hp:CE lo h pv nm s) (hlies:∀ nm' vr vq vv vt vu vo m,pv=.agg #[.string nm',vr,vq,vv,vt,vu,vo,m]→IA vr s.rows.length) (hs:IN s) (hl:s.rows.length<2932031007403) (hg:h.get 0=CT) (hn0:0<h.next) (hfl:h.floor≤h.next) (hn:2*FI s+450<n) :
  ∃ v' h',AS n 19 [pv] h=some (v',h')∧X5 h' h.next v' (A_ nm s)∧h'.floor=h.floor∧h.next≤h'.next∧∀ i,i<h.next→h'.get i=h.get i:=by
 obtain⟨n,rfl⟩:=DF hn
 have htot:FI s=s.rows.length+s.queues.length+s.vars.length+s.tags.length+s.rules.length+s.on.length:=rfl
 refine PY (BX ⟨rfl,rfl,rfl⟩) (tL (n:=n) (N:=n) hp hlies hs hl hg hn0 hfl (by omega) (by omega)) fun v' h1 hf _ ht=>?_
 obtain⟨⟨tv,rfl,ht⟩,_⟩:=ht
 exact⟨⟨tv,rfl,Lp ht hf h⟩,rfl,Nat.le_refl _,fun _ _=>rfl⟩
theorem dN {nm:ByteArray} {s:AL} {pv:Value} {lo:Nat} (hp:CE lo h pv nm s) (hlies:∀ nm' vr vq vv vt vu vo m,pv=.agg #[.string nm',vr,vq,vv,vt,vu,vo,m]→IA vr s.rows.length) (hs:IN s) (hl:s.rows.length<2932031007403) (hg:h.get 0=CT) (hn0:0<h.next) (hfl:h.floor≤h.next) (hn:2*FI s+450<n) :
  ∃ v' h',AS n 19 [pv] h=some (v',h')∧Jh h' h.next v' (A_ nm s)∧h'.floor=h.floor∧h.next≤h'.next∧∀ i,i<h.next→h'.get i=h.get i:=by
 obtain⟨v',h',h1,⟨tv,e,hO⟩,h2⟩:=Ao (n:=n) hp hlies hs hl hg hn0 hfl hn
 exact⟨v',h',h1,⟨tv,e,hO.ints⟩,h2⟩
end
def L_ (e:TypeId) (h:AA) (lo:Nat) (v:Value) (n:Nat) (cs:List Value):Prop:=
 (v=Z0∧n=0∧cs=[])∨∃ id,v=qS id n AP∧lo≤id∧id<h.next∧h.get id=.row cs e true false
theorem L_.mono {e:TypeId} {h h':AA} {lo:Nat} {v:Value} {n:Nat} {cs:List Value} (hl:L_ e h lo v n cs) (hn:h.next≤h'.next) (hg:∀ i,i<h.next→(∃ cs' g,h.get i=.row cs' e g false)→lo≤i→h'.get i=h.get i):L_ e h' lo v n cs:=by
 rcases hl with h1 | ⟨id,h1,h2,h3,h4⟩
 ·exact .inl h1
 ·exact .inr ⟨id,h1,h2,by omega,by rw[hg id h3 ⟨_,_,h4⟩ h2];exact h4⟩
theorem L_.cells {e:TypeId} {h:AA} {lo lo':Nat} {v:Value} {n w:Nat} {cs:List Value} (hl:L_ e h lo v n cs) (hw:cs.length=n*w) (hle:lo'≤lo):AO lo' h v n w cs:=by
 rcases hl with⟨rfl,rfl,rfl⟩ | ⟨id,rfl,h2,h3,h4⟩
 ·exact⟨by simp,_,_,rfl,.inl ⟨rfl,rfl⟩⟩
 ·exact⟨hw,_,_,rfl,.inr ⟨id,0,cs,e,true,false,rfl,h4,by omega,by rw[List.drop_zero,List.take_of_length_le (by omega)],fun _=>rfl⟩⟩
section
variable {P:Program} {t e:TypeId} {w b:Nat} {z:Value} {h:AA}
theorem gW (ht:P.underlying t=some (.slice e)) (he:BI P e=some w) (hb:GQ P e=some b) (hz:C6 P e=some z) (hzc:z.cells.size=w) (hw:0<w) (hbb:b≤32) {lo n:Nat} {v:Value} {cs new:List Value} (hl:L_ e h lo v n cs) (hcl:cs.length=n*w) (hco:cs.all one=true) (hnl:new.length=w) (hno:new.all one=true) (hlo:lo≤h.next) (hf:h.floor≤lo) (hn:n<2932031007403) :
  ∃ v' h',DS P (h.push (.row new e false false)) t v (qS h.next 1 1)=some (v',h')∧L_ e h' lo v' (n+1) (cs++new)∧h'.floor=h.floor∧h.next≤h'.next∧∀ i,i<h.next→(i<lo∨∃ cs' e' g,e'≠e∧h.get i=.row cs' e' g false)→h'.get i=h.get i:=by
 have hsrc:DZ (h.push (.row new e false false)) w 1 (qS h.next 1 1)=some new:=by
  simp only[DZ,BP,FN,List.drop_zero,Nat.one_mul]
  rw[if_neg (by decide),List.take_of_length_le (by omega),if_pos hnl]
 have hb1:(n+1)*b≤(n+1)*32:=Nat.mul_le_mul_left _ hbb
 rcases hl with⟨rfl,rfl,rfl⟩ | ⟨id,rfl,h1,h2,hg⟩
 ·have hnu:(0:Nat)≠AP:=by unfold AP;omega
  refine⟨.slice (some ⟨(h.push (.row new e false false)).next,0,none⟩) (0+1) AP,(h.push (.row new e false false)).push (.row ([]++new) e true false),?_,.inr ⟨_,rfl,?_,?_,BP⟩,rfl,by show h.next≤h.next+1+1;omega,fun i hi _=>?_⟩
  ·have h0:DZ (h.push (.row new e false false)) w 0 (Z0)=some []:=by simp[DZ]
   simp only[DS,ht,he,hb,hz,hsrc,hno,h0]
   rw[if_pos (by simp[hzc,hw]),if_pos trivial,if_neg hnu,if_neg (by omega),if_pos (by simp;omega)]
  ·show lo≤h.next+1;omega
  ·show h.next+1<h.next+1+1;omega
  ·rw[AR (by show i<h.next+1;omega),AR (by omega)]
 ·have hu:n≤AP:=by unfold AP;omega
  have hg':(h.push (.row new e false false)).get id=.row cs e true false:=by rw[AR h2];exact hg
  have hcut:FN cs 0 (n*w)=some cs:=by
   simp only[FN,List.drop_zero]
   rw[List.take_of_length_le (by omega),if_pos (by omega)]
  refine⟨.slice (some ⟨(h.push (.row new e false false)).next,0,none⟩) (n+1) AP,((h.push (.row new e false false)).put id .dead).push (.row (cs++new) e true false),?_,.inr ⟨_,rfl,?_,?_,BP⟩,rfl,by show h.next≤h.next+1+1;omega,fun i hi hi2=>?_⟩
  ·simp only[DS,ht,he,hb,hz,hsrc,hno,hg',hcut,hco]
   rw[if_pos (by simp[hzc,hw];omega),if_pos trivial,if_pos trivial,if_pos (by rw[IL,decide_eq_true (show (n+1)*b≤140737488355328 by omega),decide_eq_true (show n+1≤140737488355328 by omega),decide_eq_true (show h.floor≤id by omega)];rfl),if_neg (by decide),if_pos trivial,if_pos trivial]
  ·show lo≤h.next+1;omega
  ·show h.next+1<h.next+1+1;omega
  ·have hne:id≠i:=by
    rintro rfl
    rcases hi2 with h9 | ⟨cs',e',g,h8,h9⟩
    ·omega
    ·rw[hg] at h9
     injection h9 with _ h7
     exact h8 h7.symm
   rw[AR (by show i<h.next+1;omega),AW (by show id<h.next+1;omega) hne,AR (by omega)]
end
def IY (l:List (Int × Int × Int)):List Value:=l.flatMap fun x=>[iv x.1,iv x.2.1,iv x.2.2]
theorem aT:∀ l,(IY l).length=l.length*3
 | []=>rfl
 | x :: l=>by
  have e:IY (x :: l)=iv x.1 :: iv x.2.1 :: iv x.2.2 :: IY l:=rfl
  rw[e]
  simp only[List.length_cons,aT l]
  omega
theorem Bx (l:List (Int × Int × Int)):(IY l).all one=true:=by
 unfold IY
 rw[List.all_flatMap]
 exact List.all_eq_true.2 fun x _=>rfl
theorem RP:BI Tryd.prog 58=some 3:=by kernel_rfl
theorem mJ:BI Tryd.prog 41=some 1:=by kernel_rfl
theorem xV:GQ Tryd.prog 58=some 24:=by kernel_rfl
abbrev FE (a b c:Int):Value:=.agg #[iv a,iv b,iv c]
theorem kU:C6 Tryd.prog 58=some (FE 0 0 0):=by kernel_rfl
theorem P_:BI Tryd.prog 43=some 3:=by kernel_rfl
theorem Di:FB Tryd.prog 43=some true:=by kernel_rfl
abbrev zT:Value:=.agg #[Z0,Z0,Z0]
theorem MG:C6 Tryd.prog 43=some zT:=by kernel_rfl
theorem L7:flat zT=true:=rfl
theorem jU:H_ Tryd.prog (match Tryd.prog.underlying 43 with | some (.struct fs)=>fs.toList | _=>[])=some [(0,1),(1,1),(2,1)]:=by kernel_rfl
theorem N0:C_ Tryd.prog 43 []=some zT:=by
 have h:=jU
 rw[Tryd.underlying43] at h
 simp only at h
 simp only[C_,MG,L7,if_true,Tryd.underlying43,h]
 rfl
theorem x8 {a:Option Addr} {n c:Nat}:C_ Tryd.prog 43 [(2,.slice a n c)]=some (.agg #[Z0,Z0,.slice a n c]):=by
 have h:=jU
 rw[Tryd.underlying43] at h
 simp only at h
 simp only[C_,MG,L7,if_true,Tryd.underlying43,h]
 rfl
section
variable {h:AA} {id off:Nat}
theorem KV:EA Tryd.prog h 43 (qP id off)=AY 3 off (h.get id):=MB Di P_
theorem NU:EA Tryd.prog h 41 (qP id off)=AJ off (h.get id):=KR (by kernel_rfl)
theorem N_:BF Tryd.prog 43 (qP id off) 0=some (qP id off):=by simp[BF,Tryd.underlying43,mJ,CI]
theorem RS:BF Tryd.prog 43 (qP id off) 1=some (qP id (off+1)):=by simp[BF,Tryd.underlying43,LH,CI]
theorem M8:BF Tryd.prog 43 (qP id off) 2=some (qP id (off+2)):=by simp[BF,Tryd.underlying43,LH,CI]
theorem X7 {a b c:Int}:FO Tryd.prog h 41 1 [(0,FE a b c)]=some (qS h.next 1 1,h.push (.row [iv a,iv b,iv c] 58 false false)):=by
 simp[FO,Tryd.underlying41,RP,kU,flat,BL,M6,I5,BW,Go.Sx.lay]
end
def G7 (lo:Nat) (H:AA) (v:Value) (t:FJ):Prop:=∃ vv gv rv,v=.agg #[vv,gv,rv]∧AO lo H vv t.V.length 3 (IY t.V)∧AV lo H gv t.G∧AV lo H rv t.Rd
theorem G7.mono {lo:Nat} {H H':AA} {v:Value} {t:FJ} (ht:G7 lo H v t) (hn:H.next≤H'.next) (hg:∀ i,lo≤i→i<H.next→H'.get i=H.get i):G7 lo H' v t:=by
 obtain⟨vv,gv,rv,rfl,h1,h2,h3⟩:=ht
 exact⟨vv,gv,rv,rfl,h1.mono hn hg,h2.mono hn hg,h3.mono hn hg⟩
theorem G7.weak {lo lo':Nat} {H:AA} {v:Value} {t:FJ} (ht:G7 lo H v t) (hl:lo'≤lo):G7 lo' H v t:=by
 obtain⟨vv,gv,rv,rfl,h1,h2,h3⟩:=ht
 exact⟨vv,gv,rv,rfl,h1.weak hl,h2.weak hl,h3.weak hl⟩
abbrev TV:FJ:=⟨[],[],[]⟩
theorem N5 (lo:Nat) (H:AA):G7 lo H zT TV:=⟨_,_,_,rfl,⟨rfl,_,_,rfl,.inl ⟨rfl,rfl⟩⟩,AO.nil lo H 1,AO.nil lo H 1⟩
theorem ZH {lo:Nat} {h:AA} {v:Value} {n w:Nat} {cs:List Value} (hc:AO lo h v n w cs) (hf:BL v=true) (lo':Nat) (h':AA):AO lo' h' v n w cs:=by
 obtain⟨hl,a,c,rfl,⟨h0,rfl⟩ | ⟨id,off,row,ty,g,ro,rfl,g1,g2,g3⟩⟩:=hc
 ·exact⟨hl,_,_,rfl,.inl ⟨h0,rfl⟩⟩
 ·cases hf
theorem wN {lo:Nat} {H:AA} {v f:Value} {t:FJ} (ht:G7 lo H v t) (hf:EJ (.tuple #[v,f])=true) (lo':Nat) (H':AA):G7 lo' H' v t:=by
 obtain⟨vv,gv,rv,rfl,h1,h2,h3⟩:=ht
 have h9:BL vv=true∧BL gv=true∧BL rv=true:=by
  simp[EJ,flat,BL] at hf ⊢
  exact⟨hf.1.1,hf.1.2.1,hf.1.2.2⟩
 exact⟨vv,gv,rv,rfl,ZH h1 h9.1 lo' H',ZH h2 h9.2.1 lo' H',ZH h3 h9.2.2 lo' H'⟩
structure IZ (B:AA) (RI m:Nat) (H:AA) (t:FJ):Prop where
 r:H.get RI=.row (ints t.Rd) 3 false false
 l:t.Rd.length=m
 y:∃ vv gv,H.get (RI+1)=.row [vv,gv,qS RI m m] 43 false false∧L_ 58 H (RI+2) vv t.V.length (IY t.V)∧L_ 3 H (RI+2) gv t.G.length (ints t.G)
 n:RI+2≤H.next
 fl:H.floor=B.floor
 o:∀ i,i<RI→H.get i=B.get i
section
variable {B H H':AA} {RI m:Nat} {t:FJ}
theorem IZ.mono (hK:IZ B RI m H t) (hn:H.next≤H'.next) (hf:H'.floor=H.floor) (hg:∀ i,i<H.next→H'.get i=H.get i):IZ B RI m H' t:=by
 have h1:=hK.n
 obtain⟨vv,gv,y1,y2,y3⟩:=hK.y
 exact⟨by rw[hg _ (by omega)];exact hK.r,hK.l,⟨vv,gv,by rw[hg _ (by omega)];exact y1,y2.mono hn fun i hi _ _=>hg i hi,y3.mono hn fun i hi _ _=>hg i hi⟩,by omega,hf.trans hK.fl,fun i hi=>by rw[hg i (by omega)];exact hK.o i hi⟩
theorem IZ.typed (hK:IZ B RI m H t):∃ v,AY 3 0 (H.get (RI+1))=some v∧G7 RI H v t∧v.cells.size=3:=by
 have h1:=hK.n
 obtain⟨vv,gv,y1,y2,y3⟩:=hK.y
 exact⟨.agg #[vv,gv,qS RI m m],by rw[y1];rfl,⟨vv,gv,_,rfl,y2.cells (aT _) (by omega),y3.cells (by rw[GK];omega) (by omega),AV.row' hK.r ⟨by omega,by omega⟩ hK.l.symm⟩,rfl⟩
theorem IZ.setR (hK:IZ B RI m H t) (hf:B.floor≤RI) {i:Nat} (hi:i<m) (v:Int) :
  ∃ H2,BC Tryd.prog H 3 (qP RI i) (iv v)=some H2∧IZ B RI m H2 { t with Rd:=t.Rd.set i v }∧H2.next=H.next:=by
 have h1:=hK.n
 have h2:=hK.l
 have h3:=hK.fl
 obtain⟨vv,gv,y1,y2,y3⟩:=hK.y
 have g:∀ j,j≠RI→(H.put RI (.row (ints (t.Rd.set i v)) 3 false false)).get j=H.get j:=fun j hj=>AW (by omega) (Ne.symm hj)
 exact⟨_,M5 hK.r (by omega) (by omega),⟨B_ rfl (by omega),by rw[List.length_set];exact h2,⟨vv,gv,by rw[g _ (by omega)];exact y1,y2.mono (Nat.le_refl _) fun j _ _ hj=>g j (by omega),y3.mono (Nat.le_refl _) fun j _ _ hj=>g j (by omega)⟩,h1,h3,fun j hj=>by rw[g j (by omega)];exact hK.o j hj⟩,rfl⟩
theorem wD:(FE 0 0 0).cells.size=3:=rfl
theorem L_.cell {e:TypeId} {lo n:Nat} {v:Value} {cs:List Value} (hl:L_ e H lo v n cs):v.cells=#[v]∧one v=true:=by
 rcases hl with⟨rfl,_⟩ | ⟨id,rfl,_⟩
 ·exact⟨rfl,rfl⟩
 ·exact⟨rfl,rfl⟩
theorem IZ.addV (hK:IZ B RI m H t) (hf:B.floor≤RI) (hb:t.V.length<2932031007403) (a b c:Int) :
  ∃ vv v' H1 H2,AJ 0 (H.get (RI+1))=some vv∧DS Tryd.prog (H.push (.row [iv a,iv b,iv c] 58 false false)) 41 vv (qS H.next 1 1)=some (v',H1) ∧
   BC Tryd.prog H1 41 (qP (RI+1) 0) v'=some H2∧IZ B RI m H2 { t with V:=t.V++[(a,b,c)] }∧H.next≤H2.next:=by
 have h1:=hK.n
 have h3:=hK.fl
 obtain⟨vv,gv,y1,y2,y3⟩:=hK.y
 obtain⟨v',H1,e1,e2,e3,e4,e5⟩:=gW (new:=[iv a,iv b,iv c]) Tryd.underlying41 RP xV kU wD (by decide) (by decide) y2 (aT _) (Bx _) rfl rfl (by omega) (by omega) hb
 have g1:H1.get (RI+1)=.row [vv,gv,qS RI m m] 43 false false:=by rw[e5 _ (by omega) (.inl (by omega))];exact y1
 have hst:=H0 (off:=0) mJ e2.cell.1 e2.cell.2 g1 (by simp) (by omega)
 have g:∀ j,j≠RI+1→(H1.put (RI+1) (.row [v',gv,qS RI m m] 43 false false)).get j=H1.get j:=fun j hj=>AW (by omega) (Ne.symm hj)
 refine⟨vv,v',H1,_,by rw[y1];rfl,e1,hst,⟨by rw[List.set_cons_zero,g _ (by omega),e5 _ (by omega) (.inl (by omega))];exact hK.r,hK.l,⟨v',gv,B_ rfl (by omega),?_,?_⟩,?_,?_,fun i hi=>by rw[List.set_cons_zero,g _ (by omega),e5 _ (by omega) (.inl (by omega))];exact hK.o i hi⟩,e4⟩
 ·have ev:IY (t.V++[(a,b,c)])=IY t.V++[iv a,iv b,iv c]:=by simp[IY]
  rw[ev,List.length_append]
  exact e2.mono (Nat.le_refl _) fun j _ _ hj=>g j (by omega)
 ·exact y3.mono e4 fun j hj hj2 hj3=>by
   obtain⟨cs',g',hj4⟩:=hj2
   rw[List.set_cons_zero,g j (by omega),e5 j hj (.inr ⟨cs',3,g',by decide,hj4⟩)]
 ·show RI+2≤H1.next;omega
 ·show H1.floor=_;omega
theorem IZ.addG (hK:IZ B RI m H t) (hf:B.floor≤RI) (hb:t.G.length<2932031007403) (a:Int) :
  ∃ vv v' H1 H2,AJ 1 (H.get (RI+1))=some vv∧DS Tryd.prog (H.push (.row [iv a] 3 false false)) 27 vv (qS H.next 1 1)=some (v',H1) ∧
   BC Tryd.prog H1 27 (qP (RI+1) 1) v'=some H2∧IZ B RI m H2 { t with G:=t.G++[a] }∧H.next≤H2.next:=by
 have h1:=hK.n
 have h3:=hK.fl
 obtain⟨vv,gv,y1,y2,y3⟩:=hK.y
 obtain⟨v',H1,e1,e2,e3,e4,e5⟩:=gW (new:=[iv a]) Tryd.underlying27 C4 J7 IB U_ (by decide) (by decide) y3 (by rw[GK];omega) (PW _) rfl rfl (by omega) (by omega) hb
 have g1:H1.get (RI+1)=.row [vv,gv,qS RI m m] 43 false false:=by rw[e5 _ (by omega) (.inl (by omega))];exact y1
 have hst:=H0 (off:=1) LH e2.cell.1 e2.cell.2 g1 (by simp) (by omega)
 have g:∀ j,j≠RI+1→(H1.put (RI+1) (.row [vv,v',qS RI m m] 43 false false)).get j=H1.get j:=fun j hj=>AW (by omega) (Ne.symm hj)
 have es:([vv,gv,qS RI m m]:List Value).set 1 v'=[vv,v',qS RI m m]:=rfl
 rw[es] at hst
 refine⟨gv,v',H1,_,by rw[y1];rfl,e1,hst,⟨by rw[g _ (by omega),e5 _ (by omega) (.inl (by omega))];exact hK.r,hK.l,⟨vv,v',B_ rfl (by omega),?_,?_⟩,?_,?_,fun i hi=>by rw[g _ (by omega),e5 _ (by omega) (.inl (by omega))];exact hK.o i hi⟩,e4⟩
 ·exact y2.mono e4 fun j hj hj2 hj3=>by
   obtain⟨cs',g',hj4⟩:=hj2
   rw[g j (by omega),e5 j hj (.inr ⟨cs',58,g',by decide,hj4⟩)]
 ·have ev:ints (t.G++[a])=ints t.G++[iv a]:=by simp[ints]
  rw[ev,List.length_append]
  exact e2.mono (Nat.le_refl _) fun j _ _ hj=>g j (by omega)
 ·show RI+2≤H1.next;omega
 ·show H1.floor=_;omega
theorem NI {a:Nat} {v:Value} (ga:H.get a=.row [Z0,Z0,Z0] 43 false false) (gb:H.get (a+1)=.row [iv 0,iv 0] 36 false false) (hb:a+1<H.next) (hf:H.floor≤a) (ht:G7 (a+2) H v t) (e x:Int) :
  ∃ H1 H2,BC Tryd.prog H 43 (qP a 0) v=some H1∧BC Tryd.prog H1 36 (qP (a+1) 0) (BR e x)=some H2∧AY 3 0 (H2.get a)=some v∧AY 2 0 (H2.get (a+1))=some (BR e x) ∧
   G7 (a+2) H2 v t∧H1.next=H.next∧H2.next=H.next∧H1.floor=H.floor∧H2.floor=H.floor∧(∀ i,i≠a→H1.get i=H.get i)∧∀ i,i<a→H2.get i=H.get i:=by
 obtain⟨vv,gv,rv,rfl,h1,h2,h3⟩:=id ht
 have o1:([vv,gv,rv]:List Value).all one=true:=by simp only[List.all_cons,List.all_nil,AO.one h1,AO.one h2,AO.one h3,Bool.and_self]
 have s1:=JQ (vs:=[vv,gv,rv]) P_ ga rfl rfl o1 hf
 have g1:∀ j,j≠a→(H.put a (.row [vv,gv,rv] 43 false false)).get j=H.get j:=fun j hj=>AW (by omega) (Ne.symm hj)
 obtain⟨H2,s2,s3,s4,s5,s6⟩:=MP (H:=H.put a (.row [vv,gv,rv] 43 false false)) (id:=a+1) (by rw[g1 _ (by omega)];exact gb) hb (by show H.floor≤a+1;omega) e x
 have e2:H2.get a=.row [vv,gv,rv] 43 false false:=by rw[s6 a (by omega),B_ rfl (by omega)]
 exact⟨_,H2,s1,s2,by rw[e2];rfl,s3,ht.mono (by rw[s4];exact Nat.le_refl _) fun i h8 h9=>by rw[s6 i (by omega),g1 i (by omega)],rfl,s4,rfl,s5,g1,fun i hi=>by rw[s6 i (by omega),g1 i (by omega)]⟩
end
def GE (k:Int) (l:List Int):Value:=
 if k=4 then .iface 82 (FE (l.getD 0 0) (l.getD 1 0) (l.getD 2 0)) else if k=5 then .iface 83 (iv (l.getD 0 0)) else if k=6 then .iface 84 (.bool (l.getD 0 0 != 0)) else if k=13 then .iface 85 (iv (l.getD 0 0)) else .nilIface
theorem V5:C6 Tryd.prog 82=some (FE 0 0 0):=by kernel_rfl
theorem tF:H_ Tryd.prog (match Tryd.prog.underlying 82 with | some (.struct fs)=>fs.toList | _=>[])=some [(0,1),(1,1),(2,1)]:=by kernel_rfl
theorem VB {a b c:Int}:flat (FE a b c)=true:=rfl
theorem Ir {a b c:Int}:C_ Tryd.prog 82 [(0,iv a),(1,iv b),(2,iv c)]=some (FE a b c):=by
 have h:=tF
 rw[Tryd.underlying82] at h
 simp only at h
 simp only[C_,V5,VB,if_true,Tryd.underlying82,h]
 rfl
def YQ:List (Bool × Bool × List Operand):=[AQ,AQ,AQ,AH [.tmp 9],AH [.tmp 9],AH [.tmp 9],AH [.tmp 9,.tmp 12],AH [.tmp 9,.tmp 12],AH [.tmp 9,.tmp 12],AK,AK,AK]
section
variable {n N:Nat} {h:AA}
theorem N8 {l:List Int} {i:Nat} {a:Int} (h:l[i]?=some a):l.getD i 0=a:=by rw[List.getD_eq_getElem?_getD,h];rfl
theorem vC {k:Int} {l:List Int} {lv:Value} {lo:Nat} (hl:AV lo h lv l) (h4:k=4→3≤l.length) (h1:k=5∨k=6∨k=13→1≤l.length) :
  A7 Tryd.prog (AS n) N 37 [iv k,lv] h=some (GE k l,h):=by
 have hsn:=(FL n).2
 refine DG Tryd.func37 rfl (by simp[Tryd.f37]) ?_
 have hr:Tryd.f37.results.toList=[.tmp 4]:=rfl
 cases c4:(k==4) with
 | true=>
  have e:=beq_iff_eq.1 c4
  have hl3:=h4 e
  obtain⟨a,ha⟩:∃ a,l[0]?=some a:=⟨_,List.getElem?_eq_getElem (by omega)⟩
  obtain⟨b,hb⟩:∃ b,l[1]?=some b:=⟨_,List.getElem?_eq_getElem (by omega)⟩
  obtain⟨c,hc⟩:∃ c,l[2]?=some c:=⟨_,List.getElem?_eq_getElem (by omega)⟩
  obtain⟨ia,pa,ea,hia,la⟩:=AV.get hl ha
  obtain⟨ib,pb,eb,hib,lb⟩:=AV.get hl hb
  obtain⟨ic,pc,ec,hic,lc⟩:=AV.get hl hc
  have ea':CQ Tryd.prog 27 lv (iv 0)=some (qP ia pa):=ea
  have eb':CQ Tryd.prog 27 lv (iv 1)=some (qP ib pb):=eb
  have ec':CQ Tryd.prog 27 lv (iv 2)=some (qP ic pc):=ec
  have hA0:(ia<h.next)=True:=eq_true hia
  have hB0:(ib<h.next)=True:=eq_true hib
  have hC0:(ic<h.next)=True:=eq_true hic
  rw[show GE k l=.iface 82 (FE a b c) by unfold GE;rw[if_pos e,N8 ha,N8 hb,N8 hc]]
  simp only[eE,seval,↓eP,c4]
  refine WK.flags (fs:=YQ) (by kernel_rfl) ?_
  unfold YQ
  iterate 12
   refine EC hsn ?_
   simp only[rG,seval,AC,AF,AE,C0,DW,CR,DD,EG,Tryd.underlying82,ea',la,AT,hA0,eb',lb,hB0,ec',lc,hC0,List.map_cons,List.map_nil,Ir]
  refine EF ?_
  simp only[eE,seval,↓eP,hr]
 | false=>
 have n4:k≠4:=by simpa using c4
 cases c5:(k==5) with
 | true=>
  have e:=beq_iff_eq.1 c5
  have hl1:=h1 (.inl e)
  obtain⟨a,ha⟩:∃ a,l[0]?=some a:=⟨_,List.getElem?_eq_getElem (by omega)⟩
  obtain⟨ia,pa,ea,hia,la⟩:=AV.get hl ha
  have ea':CQ Tryd.prog 27 lv (iv 0)=some (qP ia pa):=ea
  rw[show GE k l=.iface 83 (iv a) by unfold GE;rw[if_neg n4,if_pos e,N8 ha]]
  simp only[eE,seval,↓eP,hr,c4,c5,ea',AT,la,Tryd.underlying83]
 | false=>
 have n5:k≠5:=by simpa using c5
 cases c6:(k==6) with
 | true=>
  have e:=beq_iff_eq.1 c6
  have hl1:=h1 (.inr (.inl e))
  obtain⟨a,ha⟩:∃ a,l[0]?=some a:=⟨_,List.getElem?_eq_getElem (by omega)⟩
  obtain⟨ia,pa,ea,hia,la⟩:=AV.get hl ha
  have ea':CQ Tryd.prog 27 lv (iv 0)=some (qP ia pa):=ea
  rw[show GE k l=.iface 84 (.bool (a != 0)) by unfold GE;rw[if_neg n4,if_neg n5,if_pos e,N8 ha]]
  simp only[eE,seval,↓eP,hr,c4,c5,c6,ea',AT,la,Tryd.underlying84]
 | false=>
 have n6:k≠6:=by simpa using c6
 cases c13:(k==13) with
 | true=>
  have e:=beq_iff_eq.1 c13
  have hl1:=h1 (.inr (.inr e))
  obtain⟨a,ha⟩:∃ a,l[0]?=some a:=⟨_,List.getElem?_eq_getElem (by omega)⟩
  obtain⟨ia,pa,ea,hia,la⟩:=AV.get hl ha
  have ea':CQ Tryd.prog 27 lv (iv 0)=some (qP ia pa):=ea
  rw[show GE k l=.iface 85 (iv a) by unfold GE;rw[if_neg n4,if_neg n5,if_neg n6,if_pos e,N8 ha]]
  simp only[eE,seval,↓eP,hr,c4,c5,c6,c13,ea',AT,la,Tryd.underlying85]
 | false=>
  have n13:k≠13:=by simpa using c13
  rw[show GE k l=.nilIface by unfold GE;rw[if_neg n4,if_neg n5,if_neg n6,if_neg n13]]
  simp only[eE,seval,↓eP,hr,c4,c5,c6,c13]
theorem Au {k:Int} {l:List Int} {lv:Value} {lo:Nat} (hl:AV lo h lv l) (h4:k=4→3≤l.length) (h1:k=5∨k=6∨k=13→1≤l.length) (hn:0<n) :
  AS n 37 [iv k,lv] h=some (GE k l,h):=by
 obtain⟨n,rfl⟩:=DF hn
 have hw:=vC (n:=n) (N:=n) hl h4 h1
 cases hv:EJ (GE k l) with
 | true=>exact EL (BX ⟨rfl,rfl,rfl⟩) hv hw
 | false=>
  obtain⟨h',e,rfl⟩:=PZ (R:=fun h'=>h'=h) (BX ⟨rfl,rfl,rfl⟩) hv ⟨h,hw,rfl⟩
  exact e
end
theorem YI (v:Value):G8 Tryd.prog (.iface 82 v) 82 true=some (.tuple #[v,.bool true]):=by kernel_rfl
theorem ZP (v:Value):G8 Tryd.prog (.iface 83 v) 82 true=some (.tuple #[FE 0 0 0,.bool false]):=by kernel_rfl
theorem iP (v:Value):G8 Tryd.prog (.iface 84 v) 82 true=some (.tuple #[FE 0 0 0,.bool false]):=by kernel_rfl
theorem YM (v:Value):G8 Tryd.prog (.iface 85 v) 82 true=some (.tuple #[FE 0 0 0,.bool false]):=by kernel_rfl
theorem Bm:G8 Tryd.prog .nilIface 82 true=some (.tuple #[FE 0 0 0,.bool false]):=by kernel_rfl
theorem YA (v:Value):G8 Tryd.prog (.iface 83 v) 83 true=some (.tuple #[v,.bool true]):=by kernel_rfl
theorem fI (v:Value):G8 Tryd.prog (.iface 84 v) 83 true=some (.tuple #[iv 0,.bool false]):=by kernel_rfl
theorem X2 (v:Value):G8 Tryd.prog (.iface 85 v) 83 true=some (.tuple #[iv 0,.bool false]):=by kernel_rfl
theorem wC:G8 Tryd.prog .nilIface 83 true=some (.tuple #[iv 0,.bool false]):=by kernel_rfl
theorem mB (v:Value):G8 Tryd.prog (.iface 84 v) 84 true=some (.tuple #[v,.bool true]):=by kernel_rfl
theorem cZ (v:Value):G8 Tryd.prog (.iface 85 v) 84 true=some (.tuple #[.bool false,.bool false]):=by kernel_rfl
theorem xS:G8 Tryd.prog .nilIface 84 true=some (.tuple #[.bool false,.bool false]):=by kernel_rfl
theorem YT (v:Value):G8 Tryd.prog (.iface 85 v) 85 true=some (.tuple #[v,.bool true]):=by kernel_rfl
theorem zN:G8 Tryd.prog .nilIface 85 true=some (.tuple #[iv 0,.bool false]):=by kernel_rfl
end Go.Proofs.YtdejoodfeljmkaaDoor
