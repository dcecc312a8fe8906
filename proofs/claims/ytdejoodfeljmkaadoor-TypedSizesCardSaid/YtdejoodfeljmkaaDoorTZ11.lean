/- Part 11 of what the claim leans on: 30 texts laid one behind another. -/
import Derived.Test.YtdejoodfeljmkaaDoorTZ10
import Derived.OpenShut
import Derived.WalkKit
import Derived.Carry
import Derived.ChangeArms
namespace Go.Proofs.YtdejoodfeljmkaaDoor
open Go Go.Sx Go.ChangeShapes Go.WideShapes Go.ChangeAt Go.RowKit
set_option maxRecDepth 100000
set_option linter.unusedSimpArgs false
set_option linter.unusedVariables false
set_option maxHeartbeats 64000000
theorem XB:Tryd.prog.cellsOf 61=5:=by kernel_rfl
theorem M_:Tryd.prog.cellsOf 3=1:=by kernel_rfl
theorem TI:Tryd.prog.cellsOf 9=1:=by kernel_rfl
def PZ (x:AB):Prop:=(-9223372036854775808≤x.kind∧x.kind≤9223372036854775807)∧(-9223372036854775808≤x.ends∧x.ends≤9223372036854775807)∧(-9223372036854775808≤x.n∧x.n≤9223372036854775807)∧(-9223372036854775808≤x.kids∧x.kids≤9223372036854775807)
section
variable {H:Type} {enc:TypeId × Value→H} {W:World} {base:Nat} {sp:Nat→Bool} {hd:Bool}
theorem XJ {n:Nat} {cs:List Value} {y:DataW H × List MemPlace} (h:DataW.trod enc Tryd.prog W base sp hd n 61 cs=some y):∃ x:AB,cs=AW x∧PZ x:=by
 obtain⟨xs,m,_,_,hl,hxl,hf⟩:=DataW.trod_struct Tryd.underlying61 h
 rw[XB] at hl
 obtain⟨c0,c1,c2,c3,c4,rfl⟩:∃ c0 c1 c2 c3 c4,cs=[c0,c1,c2,c3,c4]:=by
  match cs,hl with
  | [a,b,c,d,e],_=>exact⟨a,b,c,d,e,rfl⟩
 have hxl:xs.length=5:=hxl
 have g:∀ i,i<5→∃ y,xs[i]?=some y:=fun i hi=>⟨_,List.getElem?_eq_getElem (by omega)⟩
 obtain⟨y0,e0⟩:=g 0 (by omega)
 obtain⟨y1,e1⟩:=g 1 (by omega)
 obtain⟨y2,e2⟩:=g 2 (by omega)
 obtain⟨y3,e3⟩:=g 3 (by omega)
 obtain⟨y4,e4⟩:=g 4 (by omega)
 have f0:DataW.trod enc Tryd.prog W base sp hd m 3 (([c0,c1,c2,c3,c4].drop 0).take (Tryd.prog.cellsOf 3))=xs[0]?:=hf 0 _ rfl
 rw[M_,e0] at f0
 have f1:DataW.trod enc Tryd.prog W base sp hd m 9 (([c0,c1,c2,c3,c4].drop 1).take (Tryd.prog.cellsOf 9))=xs[1]?:=hf 1 _ rfl
 rw[TI,e1] at f1
 have f2:DataW.trod enc Tryd.prog W base sp hd m 3 (([c0,c1,c2,c3,c4].drop 2).take (Tryd.prog.cellsOf 3))=xs[2]?:=hf 2 _ rfl
 rw[M_,e2] at f2
 have f3:DataW.trod enc Tryd.prog W base sp hd m 3 (([c0,c1,c2,c3,c4].drop 3).take (Tryd.prog.cellsOf 3))=xs[3]?:=hf 3 _ rfl
 rw[M_,e3] at f3
 have f4:DataW.trod enc Tryd.prog W base sp hd m 3 (([c0,c1,c2,c3,c4].drop 4).take (Tryd.prog.cellsOf 3))=xs[4]?:=hf 4 _ rfl
 rw[M_,e4] at f4
 obtain⟨a,ha,_,wa⟩:=DataW.trod_int Tryd.underlying3 f0
 obtain⟨b,hb,_,wb⟩:=DataW.trod_string Tryd.underlying9 f1
 obtain⟨c,hc,_,wc⟩:=DataW.trod_int Tryd.underlying3 f2
 obtain⟨d,hd,_,wd⟩:=DataW.trod_int Tryd.underlying3 f3
 obtain⟨e,he,_,we⟩:=DataW.trod_int Tryd.underlying3 f4
 cases ha
 cases hb
 cases hc
 cases hd
 cases he
 exact⟨⟨a,b,c,d,e⟩,rfl,bounds_i64 wa,bounds_i64 wc,bounds_i64 wd,bounds_i64 we⟩
end
theorem cG {b off k:Nat}:(⟨b,off,none⟩:Addr).add k=⟨b,off+k,none⟩:=by
 unfold Addr.add
 split
 ·rename_i e;subst e;rfl
 ·rfl
theorem lI {W:World} {base b off n:Nat} {cs:List Value} (h:W.cells? base ⟨b,off,none⟩ n=some cs):cs.length=n∧∀ i,i<n→W.cell? ⟨b,off+i,none⟩=cs[i]?:=by
 unfold World.cells? at h
 split at h
 ·refine⟨by simpa using mapM_some_length h,fun i hi=>?_⟩
  have:=mapM_some_get h i i (by simp[hi])
  rw[← this,cG]
 ·cases h
theorem WH {x:AB} {j:Nat} {v:Value} (h:(AW x)[j]?=some v):BI v=true:=by
 match j,h with
 | 0,h=>cases h;rfl
 | 1,h=>cases h;rfl
 | 2,h=>cases h;rfl
 | 3,h=>cases h;rfl
 | 4,h=>cases h;rfl
end Go.Proofs.YtdejoodfeljmkaaDoor
namespace Go.Proofs.YtdejoodfeljmkaaDoor
open Go Go.Sx
set_option maxRecDepth 100000
set_option linter.unusedSimpArgs false
set_option linter.unusedVariables false
set_option maxHeartbeats 64000000
def KV (a b:AB):Bool:=a.kind==b.kind&&(a.name==b.name&&(a.ends==b.ends&&(a.n==b.n&&a.kids==b.kids)))
theorem PU {P:Program} {t:TypeId} {a b:ByteArray} (h:P.underlying t=some .string) (d:Nat):AZ P (Op.equalIn (d+1) t (.string a) (.string b))=some (a==b):=by
 rw[Op.equalIn,B9,M2 h]
 simp[GQ]
theorem eF {P:Program} {t:TypeId} {a b:Bool} (h:P.underlying t=some .bool) (d:Nat):AZ P (Op.equalIn (d+1) t (.bool a) (.bool b))=some (a==b):=by
 rw[Op.equalIn,B9,M2 h]
 simp[GQ]
theorem yB:Tryd.prog.stoodInHeld 61=false:=by kernel_rfl
theorem Ip:Tryd.prog.stoodInHeld 102=false:=by kernel_rfl
theorem TG {a c d e:Int} {b:ByteArray}:AZ Tryd.prog (part 3 #[.int .i64 a,.string b,.int .i64 c,.int .i64 d,.int .i64 e] 0)=some (.int .i64 a)∧AZ Tryd.prog (part 9 #[.int .i64 a,.string b,.int .i64 c,.int .i64 d,.int .i64 e] 1)=some (.string b)∧AZ Tryd.prog (part 3 #[.int .i64 a,.string b,.int .i64 c,.int .i64 d,.int .i64 e] 2)=some (.int .i64 c) ∧
  AZ Tryd.prog (part 3 #[.int .i64 a,.string b,.int .i64 c,.int .i64 d,.int .i64 e] 3)=some (.int .i64 d)∧AZ Tryd.prog (part 3 #[.int .i64 a,.string b,.int .i64 c,.int .i64 d,.int .i64 e] 4)=some (.int .i64 e):=⟨rfl,rfl,rfl,rfl,rfl⟩
theorem mY {a:ByteArray} {b:Bool}:AZ Tryd.prog (part 9 #[.string a,.bool b] 0)=some (.string a)∧AZ Tryd.prog (part 4 #[.string a,.bool b] 1)=some (.bool b):=⟨rfl,rfl⟩
theorem Ay {a b:AB} (n:Nat):AZ Tryd.prog (Op.equalIn (n+2) 61 (CA a) (CA b))=some (KV a b):=by
 obtain⟨a1,a2,a3,a4,a5⟩:=a
 obtain⟨b1,b2,b3,b4,b5⟩:=b
 show AZ Tryd.prog (Op.equalIn (n+2) 61 (.agg #[.int .i64 a1,.string a2,.int .i64 a3,.int .i64 a4,.int .i64 a5]) (.agg #[.int .i64 b1,.string b2,.int .i64 b3,.int .i64 b4,.int .i64 b5]))=some (a1==b1&&(a2==b2&&(a3==b3&&(a4==b4&&a5==b5))))
 rw[Op.equalIn,B9,M2 Tryd.underlying61]
 simp only[Option.bind_some,B9,KK,yB,Bool.false_eq_true,if_false]
 simp only[List.forIn_toArray,List.forIn_cons,List.forIn_nil,ne_eq,String.reduceEq,not_false_eq_true,if_true,B9,TG.1,Option.bind_some,KW Tryd.underlying3,PU Tryd.underlying9]
 cases h1:(a1==b1) <;> simp[B9,GQ,TG.2.1,KW Tryd.underlying3,PU Tryd.underlying9,-beq_iff_eq,-beq_eq_false_iff_ne]
 cases h2:(a2==b2) <;> simp[B9,GQ,TG.2.2.1,KW Tryd.underlying3,PU Tryd.underlying9,-beq_iff_eq,-beq_eq_false_iff_ne]
 cases h3:(a3==b3) <;> simp[B9,GQ,TG.2.2.2.1,KW Tryd.underlying3,PU Tryd.underlying9,-beq_iff_eq,-beq_eq_false_iff_ne]
 cases h4:(a4==b4) <;> simp[B9,GQ,TG.2.2.2.2,KW Tryd.underlying3,PU Tryd.underlying9,-beq_iff_eq,-beq_eq_false_iff_ne]
 cases h5:(a5==b5) <;> simp[GQ,-beq_iff_eq,-beq_eq_false_iff_ne]
theorem Ew {a c:ByteArray} {b d:Bool} (n:Nat):AZ Tryd.prog (Op.equalIn (n+2) 102 (.agg #[.string a,.bool b]) (.agg #[.string c,.bool d]))=some (a==c&&b==d):=by
 rw[Op.equalIn,B9,M2 Tryd.underlying102]
 simp only[Option.bind_some,B9,KK,Ip,Bool.false_eq_true,if_false]
 simp only[List.forIn_toArray,List.forIn_cons,List.forIn_nil,ne_eq,String.reduceEq,not_false_eq_true,if_true,B9,mY.1,Option.bind_some,PU Tryd.underlying9,eF Tryd.underlying4]
 cases h1:(a==c) <;> simp[B9,GQ,mY.2,PU Tryd.underlying9,eF Tryd.underlying4,-beq_iff_eq,-beq_eq_false_iff_ne]
 cases h2:(b==d) <;> simp[GQ,-beq_iff_eq,-beq_eq_false_iff_ne]
theorem dQ {a:AB}:flat (CA a)=true:=rfl
theorem k8 {a:ByteArray} {b:Bool}:flat (.agg #[.string a,.bool b])=true:=rfl
section
variable {x y:Operand}
theorem kO (op:BinOp) (neg:Bool) (hop:op=if neg then .neq else .eql) {a b:AB}:BR Tryd.prog op 61 x y (CA a) (CA b)=some (.bool (if neg then !(KV a b) else KV a b)):=by
 have k:AZ Tryd.prog (Op.equal 61 (CA a) (CA b))=some (KV a b):=Ay 9998
 cases neg with
 | true=>
  subst hop
  have e:AZ Tryd.prog (do eqGuard .neq 61 x y (CA a) (CA b);binOp .neq 61 (CA a) (CA b))=some (.bool (!(KV a b))):=by
   rw[B9]
   have g:AZ Tryd.prog (eqGuard .neq 61 x y (CA a) (CA b))=some ():=by
    unfold eqGuard
    simp[B9,KK,GQ]
   rw[g]
   show AZ Tryd.prog ((do pure (.bool (!(← Op.equal 61 (CA a) (CA b))))):Sem Value)=_
   rw[B9,k]
   rfl
  simp only[BR,dQ,Bool.and_self,if_true,e,JZ]
 | false=>
  subst hop
  have e:AZ Tryd.prog (do eqGuard .eql 61 x y (CA a) (CA b);binOp .eql 61 (CA a) (CA b))=some (.bool (KV a b)):=by
   rw[B9]
   have g:AZ Tryd.prog (eqGuard .eql 61 x y (CA a) (CA b))=some ():=by
    unfold eqGuard
    simp[B9,KK,GQ]
   rw[g]
   show AZ Tryd.prog ((do pure (.bool (← Op.equal 61 (CA a) (CA b)))):Sem Value)=_
   rw[B9,k]
   rfl
  simp only[Bool.false_eq_true,if_false,BR,dQ,Bool.and_self,if_true,e,JZ]
theorem vD {a b:AB}:BR Tryd.prog .neq 61 x y (CA a) (CA b)=some (.bool (!(KV a b))):=kO .neq true rfl
theorem dG (op:BinOp) (neg:Bool) (hop:op=if neg then .neq else .eql) {a c:ByteArray} {b d:Bool}:BR Tryd.prog op 102 x y (.agg #[.string a,.bool b]) (.agg #[.string c,.bool d])=some (.bool (if neg then !(a==c&&b==d) else (a==c&&b==d))):=by
 have k:AZ Tryd.prog (Op.equal 102 (.agg #[.string a,.bool b]) (.agg #[.string c,.bool d]))=some (a==c&&b==d):=Ew 9998
 cases neg with
 | true=>
  subst hop
  have e:AZ Tryd.prog (do eqGuard .neq 102 x y (.agg #[.string a,.bool b]) (.agg #[.string c,.bool d]);binOp .neq 102 (.agg #[.string a,.bool b]) (.agg #[.string c,.bool d]))=some (.bool (!(a==c&&b==d))):=by
   rw[B9]
   have g:AZ Tryd.prog (eqGuard .neq 102 x y (.agg #[.string a,.bool b]) (.agg #[.string c,.bool d]))=some ():=by
    unfold eqGuard
    simp[B9,KK,GQ]
   rw[g]
   show AZ Tryd.prog ((do pure (.bool (!(← Op.equal 102 (.agg #[.string a,.bool b]) (.agg #[.string c,.bool d]))))):Sem Value)=_
   rw[B9,k]
   rfl
  simp only[BR,k8,Bool.and_self,if_true,e,JZ]
 | false=>
  subst hop
  have e:AZ Tryd.prog (do eqGuard .eql 102 x y (.agg #[.string a,.bool b]) (.agg #[.string c,.bool d]);binOp .eql 102 (.agg #[.string a,.bool b]) (.agg #[.string c,.bool d]))=some (.bool (a==c&&b==d)):=by
   rw[B9]
   have g:AZ Tryd.prog (eqGuard .eql 102 x y (.agg #[.string a,.bool b]) (.agg #[.string c,.bool d]))=some ():=by
    unfold eqGuard
    simp[B9,KK,GQ]
   rw[g]
   show AZ Tryd.prog ((do pure (.bool (← Op.equal 102 (.agg #[.string a,.bool b]) (.agg #[.string c,.bool d])))):Sem Value)=_
   rw[B9,k]
   rfl
  simp only[Bool.false_eq_true,if_false,BR,k8,Bool.and_self,if_true,e,JZ]
theorem qJ {a c:ByteArray} {b d:Bool}:BR Tryd.prog .neq 102 x y (.agg #[.string a,.bool b]) (.agg #[.string c,.bool d])=some (.bool (!(a==c&&b==d))):=dG .neq true rfl
end
theorem Az {a b:ByteArray}:(a==b)=true↔a=b:=by
 obtain⟨a⟩:=a
 obtain⟨b⟩:=b
 show (a==b)=true↔_
 rw[beq_iff_eq,ByteArray.mk.injEq]
theorem WP {a b:AB}:KV a b=true↔a=b:=by
 obtain⟨a1,a2,a3,a4,a5⟩:=a
 obtain⟨b1,b2,b3,b4,b5⟩:=b
 unfold KV
 simp only[Bool.and_eq_true,beq_iff_eq,Az,AB.mk.injEq]
theorem KQ {lo:Nat} {h:AA} {v:Value} {n w:Nat} {cs:List Value} (hc:AP lo h v n w cs) (h':AA):CX Tryd.prog h' 27 v=some (iv (n:Int)):=AP.len hc Tryd.underlying27
theorem WC {lo:Nat} {h:AA} {v:Value} {n w:Nat} {cs:List Value} (hc:AP lo h v n w cs) (h':AA):CX Tryd.prog h' 31 v=some (iv (n:Int)):=AP.len hc Tryd.underlying31
theorem TU {lo:Nat} {h:AA} {v:Value} {n w:Nat} {cs:List Value} (hc:AP lo h v n w cs) (h':AA):CX Tryd.prog h' 30 v=some (iv (n:Int)):=AP.len hc Tryd.underlying30
theorem PB {lo:Nat} {h:AA} {v:Value} {n w:Nat} {cs:List Value} (hc:AP lo h v n w cs) (h':AA):CX Tryd.prog h' 26 v=some (iv (n:Int)):=AP.len hc Tryd.underlying26
theorem pQ {l:List ByteArray} {i:Nat} {x:ByteArray} (hx:l[i]?=some x) {lo:Nat} {h:AA} {v:Value} (hc:AP lo h v l.length 1 (C7 l)):∃ id p,CL Tryd.prog 31 v (iv (i:Int))=some (qP id p)∧id<h.next∧AJ p (h.get id)=some (.string x):=by
 obtain⟨id,p,h1,h2,h3⟩:=AP.idx hc Tryd.underlying31 L_ (List.getElem?_eq_some_iff.1 hx).1
 refine⟨id,p,h1,h2,?_⟩
 have:=h3 0 (by decide)
 rw[Nat.add_zero] at this
 rw[this,Nat.mul_one,Nat.add_zero,C7,List.getElem?_map,hx]
 rfl
theorem YJ:∀ {l:List (ByteArray × Bool)} {i:Nat} {x:ByteArray × Bool},l[i]?=some x→((C1 l).drop (i*2)).take 2=[.string x.1,.bool x.2]
 | [],i,x,h=>by simp at h
 | q :: l,0,x,h=>by
  simp only[List.getElem?_cons_zero,Option.some.injEq] at h
  subst h
  rfl
 | q :: l,i+1,x,h=>by
  have:=YJ (l:=l) (i:=i) (x:=x) (by simpa using h)
  rw[← this,show (i+1)*2=i*2+2 by omega]
  rfl
theorem o_ {l:List (ByteArray × Bool)} {i:Nat} {x:ByteArray × Bool} (hx:l[i]?=some x) {lo:Nat} {h:AA} {v:Value} (hc:AP lo h v l.length 2 (C1 l)):∃ id p,CL Tryd.prog 30 v (iv (i:Int))=some (qP id p)∧id<h.next∧BF 2 p (h.get id)=some (.agg #[.string x.1,.bool x.2]):=by
 obtain⟨id,p,h1,h2,h3⟩:=AP.whole hc Tryd.underlying30 O3 (List.getElem?_eq_some_iff.1 hx).1
 rw[YJ hx] at h3
 exact⟨id,p,h1,h2,h3⟩
theorem SQ {α:Type} {A B:List α} (hl:A.length=B.length) (h:∀ j,j<A.length→A[j]?=B[j]?):A=B:=by
 apply List.ext_getElem?
 intro j
 rcases Nat.lt_or_ge j A.length with h1 | h1
 ·exact h j h1
 ·rw[List.getElem?_eq_none h1,List.getElem?_eq_none (by omega)]
theorem zX:E1 Tryd.prog 102=some true:=by kernel_rfl
theorem rT {h:AA} {id off:Nat}:DY Tryd.prog h 102 (qP id off)=BF 2 off (h.get id):=LX zX O3
section
variable {call:AM} {N:Nat} {h:AA}
end
section
variable {call:AM} {N:Nat} {h:AA}
end
def V1 (nm nm':ByteArray) (s s':AN):Prop:=nm=nm'∧s.miss=s'.miss∧s.rows=s'.rows∧s.queues=s'.queues∧s.vars=s'.vars∧s.tags=s'.tags∧s.rules=s'.rules∧s.on=s'.on
theorem cC {a b c d e f g i:Value} {ty:TypeId} {x y:Bool}:AJ 0 (.row [a,b,c,d,e,f,g,i] ty x y)=some a∧AJ 1 (.row [a,b,c,d,e,f,g,i] ty x y)=some b∧AJ 2 (.row [a,b,c,d,e,f,g,i] ty x y)=some c∧AJ 3 (.row [a,b,c,d,e,f,g,i] ty x y)=some d∧AJ 4 (.row [a,b,c,d,e,f,g,i] ty x y)=some e∧AJ 5 (.row [a,b,c,d,e,f,g,i] ty x y)=some f∧AJ 6 (.row [a,b,c,d,e,f,g,i] ty x y)=some g∧AJ 7 (.row [a,b,c,d,e,f,g,i] ty x y)=some i:=⟨rfl,rfl,rfl,rfl,rfl,rfl,rfl,rfl⟩
def JJ (s:AN):Prop:=s.rows.length<2932031007403∧s.queues.length<2932031007403∧s.vars.length<2932031007403∧s.tags.length<2932031007403∧s.rules.length<2932031007403∧s.on.length<2932031007403
def FZ (s:AN):Nat:=s.rows.length+s.queues.length+s.vars.length+s.tags.length+s.rules.length+s.on.length
section
variable {n N:Nat}
end
instance:DecidableEq AB:=fun _ _=>decidable_of_decidable_of_iff WP
def K5:List (Bool × Bool × List Operand):=[AQ,AQ,AQ,AQ,AH [.tmp 18],AH [.tmp 18],AH [.tmp 18],AH [.tmp 18],AK]
theorem yY {call:AM} {N:Nat} {h:AA} (hsn:B8 call) {va vb:Value} {A B:List Int} {la lb:Nat} (ha:AX la h va A) (hb:AX lb h vb B) (hN:A.length+3<N) (hl:A.length<30000000000000):A8 Tryd.prog call N 59 [va,vb] h=some (.bool (decide (A=B)),h):=by
 refine DA Tryd.func59 rfl (by simp[Tryd.f59]) ?_
 have hr:Tryd.f59.results.toList=[.tmp 4]:=rfl
 have lA:=fun h'=>KQ ha h'
 have lB:=fun h'=>KQ hb h'
 cases d:((A.length:Int) != (B.length:Int)) with
 | true=>
  have hne:A≠B:=fun e=>by subst e;simp at d
  rw[decide_eq_false hne]
  simp only[eE,↓reduceIte,Nat.reduceEqDiff,reduceCtorEq,↓eP,hr,lA,lB,d]
 | false=>
  have hlen:A.length=B.length:=by
   have h9:(A.length:Int)=(B.length:Int):=by simpa using d
   omega
  simp only[eE,↓reduceIte,Nat.reduceEqDiff,reduceCtorEq,↓eP,lA,lB,d]
  refine WK.loop (fun i s'=>s'.T.get 0=va∧s'.T.get 1=vb∧s'.T.get 12=iv A.length∧s'.T.get 13=iv i∧s'.h=h∧i≤A.length∧∀ j,j<i→A[j]?=B[j]?) A.length (by omega) ?_ ?_
  ·exact⟨by simp only[eE,↓reduceIte,Nat.reduceEqDiff,reduceCtorEq,↓eP,rP,Nat.reduceAdd,Nat.reduceLT],by simp only[eE,↓reduceIte,Nat.reduceEqDiff,reduceCtorEq,↓eP,rP,Nat.reduceAdd,Nat.reduceLT],by simp only[eE,↓reduceIte,Nat.reduceEqDiff,reduceCtorEq,↓eP,rP,Nat.reduceAdd,Nat.reduceLT],by simp only[eE,↓reduceIte,Nat.reduceEqDiff,reduceCtorEq,↓eP,rP,Nat.reduceAdd,Nat.reduceLT];rfl,rfl,by omega,fun j hj=>by omega⟩
  ·rintro i ⟨T1,H1⟩ hi ⟨t0,t1,t12,t13,hh,hil,hsame⟩
   simp only at t0 t1 t12 t13 hh
   subst hh
   by_cases hlt:i<A.length
   ·have c1:decide ((i:Int)<(A.length:Int))=true:=by simp;omega
    obtain⟨x,hx⟩:∃ x,A[i]?=some x:=⟨_,List.getElem?_eq_getElem hlt⟩
    obtain⟨y,hy⟩:∃ y,B[i]?=some y:=⟨_,List.getElem?_eq_getElem (by omega)⟩
    obtain⟨ida,pa,ea,_,xa⟩:=AX.get ha hx
    obtain⟨idb,pb,eb,_,xb⟩:=AX.get hb hy
    have w1:=EU i (by omega)
    simp only[eE,seval,↓eP,t0,t1,t12,t13,c1]
    refine WK.flags (fs:=K5) (by kernel_rfl) ?_
    unfold K5
    iterate 9
     refine D9 hsn ?_
     simp only[rG,seval,AC,AF,AE,CT,DU,CK,C6,EA,Option.bind_some,t0,t1,t12,t13,ea,eb,AU,xa,xb,QM]
    refine D4 ?_
    cases e:(x != y) with
    | true=>
     have hne:A≠B:=fun h9=>by
      subst h9
      rw[hx] at hy
      cases hy
      simp at e
     rw[decide_eq_false hne]
     simp only[eE,seval,↓eP,hr,e]
    | false=>
     have hxy:x=y:=by simpa using e
     simp only[eE,seval,↓eP,t0,t1,t12,t13,e,w1]
     refine⟨by omega,by omega,fun j hj=>?_⟩
     rcases Nat.lt_or_ge j i with h1 | h1
     ·exact hsame j h1
     ·have:j=i:=by omega
      subst this
      rw[hx,hy,hxy]
   ·have c1:decide ((i:Int)<(A.length:Int))=false:=by simp;omega
    have:i=A.length:=by omega
    subst this
    have hAB:A=B:=SQ hlen hsame
    rw[decide_eq_true hAB]
    simp only[eE,seval,↓eP,hr,t0,t1,t12,t13,c1]
theorem k_ {n:Nat} {h:AA} {va vb:Value} {A B:List Int} {la lb:Nat} (ha:AX la h va A) (hb:AX lb h vb B) (hl:A.length<2932031007403) (hn:A.length+5<n):AS n 59 [va,vb] h=some (.bool (decide (A=B)),h):=by
 obtain⟨n,rfl⟩:=C_ hn
 exact EE (BT ⟨rfl,rfl,rfl⟩) rfl (yY (FD n).2 ha hb (by omega) (by omega))
theorem tT {call:AM} {N:Nat} {h:AA} (hsn:B8 call) {va vb:Value} {A B:List ByteArray} {la lb:Nat} (ha:AP la h va A.length 1 (C7 A)) (hb:AP lb h vb B.length 1 (C7 B)) (hN:A.length+3<N) (hl:A.length<30000000000000):A8 Tryd.prog call N 58 [va,vb] h=some (.bool (decide (A=B)),h):=by
 refine DA Tryd.func58 rfl (by simp[Tryd.f58]) ?_
 have hr:Tryd.f58.results.toList=[.tmp 4]:=rfl
 have lA:=fun h'=>WC ha h'
 have lB:=fun h'=>WC hb h'
 cases d:((A.length:Int) != (B.length:Int)) with
 | true=>
  have hne:A≠B:=fun e=>by subst e;simp at d
  rw[decide_eq_false hne]
  simp only[eE,↓reduceIte,Nat.reduceEqDiff,reduceCtorEq,↓eP,hr,lA,lB,d]
 | false=>
  have hlen:A.length=B.length:=by
   have h9:(A.length:Int)=(B.length:Int):=by simpa using d
   omega
  simp only[eE,↓reduceIte,Nat.reduceEqDiff,reduceCtorEq,↓eP,lA,lB,d]
  refine WK.loop (fun i s'=>s'.T.get 0=va∧s'.T.get 1=vb∧s'.T.get 12=iv A.length∧s'.T.get 13=iv i∧s'.h=h∧i≤A.length∧∀ j,j<i→A[j]?=B[j]?) A.length (by omega) ?_ ?_
  ·exact⟨by simp only[eE,↓reduceIte,Nat.reduceEqDiff,reduceCtorEq,↓eP,rP,Nat.reduceAdd,Nat.reduceLT],by simp only[eE,↓reduceIte,Nat.reduceEqDiff,reduceCtorEq,↓eP,rP,Nat.reduceAdd,Nat.reduceLT],by simp only[eE,↓reduceIte,Nat.reduceEqDiff,reduceCtorEq,↓eP,rP,Nat.reduceAdd,Nat.reduceLT],by simp only[eE,↓reduceIte,Nat.reduceEqDiff,reduceCtorEq,↓eP,rP,Nat.reduceAdd,Nat.reduceLT];rfl,rfl,by omega,fun j hj=>by omega⟩
  ·rintro i ⟨T1,H1⟩ hi ⟨t0,t1,t12,t13,hh,hil,hsame⟩
   simp only at t0 t1 t12 t13 hh
   subst hh
   by_cases hlt:i<A.length
   ·have c1:decide ((i:Int)<(A.length:Int))=true:=by simp;omega
    obtain⟨x,hx⟩:∃ x,A[i]?=some x:=⟨_,List.getElem?_eq_getElem hlt⟩
    obtain⟨y,hy⟩:∃ y,B[i]?=some y:=⟨_,List.getElem?_eq_getElem (by omega)⟩
    obtain⟨ida,pa,ea,_,xa⟩:=pQ hx ha
    obtain⟨idb,pb,eb,_,xb⟩:=pQ hy hb
    have w1:=EU i (by omega)
    simp only[eE,seval,↓eP,t0,t1,t12,t13,c1]
    refine WK.flags (fs:=K5) (by kernel_rfl) ?_
    unfold K5
    iterate 9
     refine D9 hsn ?_
     simp only[rG,seval,AC,AF,AE,CT,DU,CK,C6,EA,Option.bind_some,t0,t1,t12,t13,ea,eb,GE,xa,xb,L7]
    refine D4 ?_
    cases e:(!(x==y)) with
    | true=>
     have hne:A≠B:=fun h9=>by
      subst h9
      rw[hx] at hy
      cases hy
      rw[PR] at e;cases e
     rw[decide_eq_false hne]
     simp only[eE,seval,↓eP,hr,e]
    | false=>
     have hxy:x=y:=MF (by simpa using e)
     simp only[eE,seval,↓eP,t0,t1,t12,t13,e,w1]
     refine⟨by omega,by omega,fun j hj=>?_⟩
     rcases Nat.lt_or_ge j i with h1 | h1
     ·exact hsame j h1
     ·have:j=i:=by omega
      subst this
      rw[hx,hy,hxy]
   ·have c1:decide ((i:Int)<(A.length:Int))=false:=by simp;omega
    have:i=A.length:=by omega
    subst this
    have hAB:A=B:=SQ hlen hsame
    rw[decide_eq_true hAB]
    simp only[eE,seval,↓eP,hr,t0,t1,t12,t13,c1]
theorem iI {n:Nat} {h:AA} {va vb:Value} {A B:List ByteArray} {la lb:Nat} (ha:AP la h va A.length 1 (C7 A)) (hb:AP lb h vb B.length 1 (C7 B)) (hl:A.length<2932031007403) (hn:A.length+5<n):AS n 58 [va,vb] h=some (.bool (decide (A=B)),h):=by
 obtain⟨n,rfl⟩:=C_ hn
 exact EE (BT ⟨rfl,rfl,rfl⟩) rfl (tT (FD n).2 ha hb (by omega) (by omega))
theorem vW {call:AM} {N:Nat} {h:AA} (hsn:B8 call) {va vb:Value} {A B:List (ByteArray × Bool)} {la lb:Nat} (ha:AP la h va A.length 2 (C1 A)) (hb:AP lb h vb B.length 2 (C1 B)) (hN:A.length+3<N) (hl:A.length<30000000000000):A8 Tryd.prog call N 57 [va,vb] h=some (.bool (decide (A=B)),h):=by
 refine DA Tryd.func57 rfl (by simp[Tryd.f57]) ?_
 have hr:Tryd.f57.results.toList=[.tmp 4]:=rfl
 have lA:=fun h'=>TU ha h'
 have lB:=fun h'=>TU hb h'
 cases d:((A.length:Int) != (B.length:Int)) with
 | true=>
  have hne:A≠B:=fun e=>by subst e;simp at d
  rw[decide_eq_false hne]
  simp only[eE,↓reduceIte,Nat.reduceEqDiff,reduceCtorEq,↓eP,hr,lA,lB,d]
 | false=>
  have hlen:A.length=B.length:=by
   have h9:(A.length:Int)=(B.length:Int):=by simpa using d
   omega
  simp only[eE,↓reduceIte,Nat.reduceEqDiff,reduceCtorEq,↓eP,lA,lB,d]
  refine WK.loop (fun i s'=>s'.T.get 0=va∧s'.T.get 1=vb∧s'.T.get 12=iv A.length∧s'.T.get 13=iv i∧s'.h=h∧i≤A.length∧∀ j,j<i→A[j]?=B[j]?) A.length (by omega) ?_ ?_
  ·exact⟨by simp only[eE,↓reduceIte,Nat.reduceEqDiff,reduceCtorEq,↓eP,rP,Nat.reduceAdd,Nat.reduceLT],by simp only[eE,↓reduceIte,Nat.reduceEqDiff,reduceCtorEq,↓eP,rP,Nat.reduceAdd,Nat.reduceLT],by simp only[eE,↓reduceIte,Nat.reduceEqDiff,reduceCtorEq,↓eP,rP,Nat.reduceAdd,Nat.reduceLT],by simp only[eE,↓reduceIte,Nat.reduceEqDiff,reduceCtorEq,↓eP,rP,Nat.reduceAdd,Nat.reduceLT];rfl,rfl,by omega,fun j hj=>by omega⟩
  ·rintro i ⟨T1,H1⟩ hi ⟨t0,t1,t12,t13,hh,hil,hsame⟩
   simp only at t0 t1 t12 t13 hh
   subst hh
   by_cases hlt:i<A.length
   ·have c1:decide ((i:Int)<(A.length:Int))=true:=by simp;omega
    obtain⟨x,hx⟩:∃ x,A[i]?=some x:=⟨_,List.getElem?_eq_getElem hlt⟩
    obtain⟨y,hy⟩:∃ y,B[i]?=some y:=⟨_,List.getElem?_eq_getElem (by omega)⟩
    obtain⟨ida,pa,ea,_,xa⟩:=o_ hx ha
    obtain⟨idb,pb,eb,_,xb⟩:=o_ hy hb
    have w1:=EU i (by omega)
    simp only[eE,seval,↓eP,t0,t1,t12,t13,c1]
    refine WK.flags (fs:=K5) (by kernel_rfl) ?_
    unfold K5
    iterate 9
     refine D9 hsn ?_
     simp only[rG,seval,AC,AF,AE,CT,DU,CK,C6,EA,Option.bind_some,t0,t1,t12,t13,ea,eb,rT,xa,xb,qJ]
    refine D4 ?_
    cases e:(!(x.1==y.1&&x.2==y.2)) with
    | true=>
     have hne:A≠B:=fun h9=>by
      subst h9
      rw[hx] at hy
      cases hy
      rw[PR] at e;simp at e
     rw[decide_eq_false hne]
     simp only[eE,seval,↓eP,hr,e]
    | false=>
     have hxy:x=y:=(by simp only[Bool.not_eq_false',Bool.and_eq_true] at e;exact Prod.ext (MF e.1) (by simpa using e.2))
     simp only[eE,seval,↓eP,t0,t1,t12,t13,e,w1]
     refine⟨by omega,by omega,fun j hj=>?_⟩
     rcases Nat.lt_or_ge j i with h1 | h1
     ·exact hsame j h1
     ·have:j=i:=by omega
      subst this
      rw[hx,hy,hxy]
   ·have c1:decide ((i:Int)<(A.length:Int))=false:=by simp;omega
    have:i=A.length:=by omega
    subst this
    have hAB:A=B:=SQ hlen hsame
    rw[decide_eq_true hAB]
    simp only[eE,seval,↓eP,hr,t0,t1,t12,t13,c1]
theorem Bc {n:Nat} {h:AA} {va vb:Value} {A B:List (ByteArray × Bool)} {la lb:Nat} (ha:AP la h va A.length 2 (C1 A)) (hb:AP lb h vb B.length 2 (C1 B)) (hl:A.length<2932031007403) (hn:A.length+5<n):AS n 57 [va,vb] h=some (.bool (decide (A=B)),h):=by
 obtain⟨n,rfl⟩:=C_ hn
 exact EE (BT ⟨rfl,rfl,rfl⟩) rfl (vW (FD n).2 ha hb (by omega) (by omega))
theorem nL {h:AA} {v:Value} {l:List AB} (hv:A7 h v l) (h':AA):CX Tryd.prog h' 26 v=some (iv (l.length:Int)):=hv.len
theorem Ar {call:AM} {N:Nat} {h:AA} (hsn:B8 call) {va vb:Value} {A B:List AB} (ha:A7 h va A) (hb:A7 h vb B) (hN:A.length+3<N) (hl:A.length<30000000000000):A8 Tryd.prog call N 56 [va,vb] h=some (.bool (decide (A=B)),h):=by
 refine DA Tryd.func56 rfl (by simp[Tryd.f56]) ?_
 have hr:Tryd.f56.results.toList=[.tmp 4]:=rfl
 have lA:=fun h'=>nL ha h'
 have lB:=fun h'=>nL hb h'
 cases d:((A.length:Int) != (B.length:Int)) with
 | true=>
  have hne:A≠B:=fun e=>by subst e;simp at d
  rw[decide_eq_false hne]
  simp only[eE,↓reduceIte,Nat.reduceEqDiff,reduceCtorEq,↓eP,hr,lA,lB,d]
 | false=>
  have hlen:A.length=B.length:=by
   have h9:(A.length:Int)=(B.length:Int):=by simpa using d
   omega
  simp only[eE,↓reduceIte,Nat.reduceEqDiff,reduceCtorEq,↓eP,lA,lB,d]
  refine WK.loop (fun i s'=>s'.T.get 0=va∧s'.T.get 1=vb∧s'.T.get 12=iv A.length∧s'.T.get 13=iv i∧s'.h=h∧i≤A.length∧∀ j,j<i→A[j]?=B[j]?) A.length (by omega) ?_ ?_
  ·exact⟨by simp only[eE,↓reduceIte,Nat.reduceEqDiff,reduceCtorEq,↓eP,rP,Nat.reduceAdd,Nat.reduceLT],by simp only[eE,↓reduceIte,Nat.reduceEqDiff,reduceCtorEq,↓eP,rP,Nat.reduceAdd,Nat.reduceLT],by simp only[eE,↓reduceIte,Nat.reduceEqDiff,reduceCtorEq,↓eP,rP,Nat.reduceAdd,Nat.reduceLT],by simp only[eE,↓reduceIte,Nat.reduceEqDiff,reduceCtorEq,↓eP,rP,Nat.reduceAdd,Nat.reduceLT];rfl,rfl,by omega,fun j hj=>by omega⟩
  ·rintro i ⟨T1,H1⟩ hi ⟨t0,t1,t12,t13,hh,hil,hsame⟩
   simp only at t0 t1 t12 t13 hh
   subst hh
   by_cases hlt:i<A.length
   ·have c1:decide ((i:Int)<(A.length:Int))=true:=by simp;omega
    obtain⟨x,hx⟩:∃ x,A[i]?=some x:=⟨_,List.getElem?_eq_getElem hlt⟩
    obtain⟨y,hy⟩:∃ y,B[i]?=some y:=⟨_,List.getElem?_eq_getElem (by omega)⟩
    obtain⟨ida,pa,ea,_,_,_,_,_,_,xa9⟩:=A7.row ha hx
    have xa:BF 5 pa (H1.get ida)=some (CA x):=xa9
    obtain⟨idb,pb,eb,_,_,_,_,_,_,xb9⟩:=A7.row hb hy
    have xb:BF 5 pb (H1.get idb)=some (CA y):=xb9
    have w1:=EU i (by omega)
    simp only[eE,seval,↓eP,t0,t1,t12,t13,c1]
    refine WK.flags (fs:=K5) (by kernel_rfl) ?_
    unfold K5
    iterate 9
     refine D9 hsn ?_
     simp only[rG,seval,AC,AF,AE,CT,DU,CK,C6,EA,Option.bind_some,t0,t1,t12,t13,ea,eb,HN,xa,xb,vD]
    refine D4 ?_
    cases e:(!(KV x y)) with
    | true=>
     have hne:A≠B:=fun h9=>by
      subst h9
      rw[hx] at hy
      cases hy
      rw[WP.2 rfl] at e;cases e
     rw[decide_eq_false hne]
     simp only[eE,seval,↓eP,hr,e]
    | false=>
     have hxy:x=y:=WP.1 (by simpa using e)
     simp only[eE,seval,↓eP,t0,t1,t12,t13,e,w1]
     refine⟨by omega,by omega,fun j hj=>?_⟩
     rcases Nat.lt_or_ge j i with h1 | h1
     ·exact hsame j h1
     ·have:j=i:=by omega
      subst this
      rw[hx,hy,hxy]
   ·have c1:decide ((i:Int)<(A.length:Int))=false:=by simp;omega
    have:i=A.length:=by omega
    subst this
    have hAB:A=B:=SQ hlen hsame
    rw[decide_eq_true hAB]
    simp only[eE,seval,↓eP,hr,t0,t1,t12,t13,c1]
theorem vF {n:Nat} {h:AA} {va vb:Value} {A B:List AB} (ha:A7 h va A) (hb:A7 h vb B) (hl:A.length<2932031007403) (hn:A.length+5<n):AS n 56 [va,vb] h=some (.bool (decide (A=B)),h):=by
 obtain⟨n,rfl⟩:=C_ hn
 exact EE (BT ⟨rfl,rfl,rfl⟩) rfl (Ar (FD n).2 ha hb (by omega) (by omega))
abbrev KD:AB:=⟨0,ByteArray.empty,0,0,0⟩
theorem zr:(Value.agg #[.int .i64 0,.string ByteArray.empty,.int .i64 0,.int .i64 0,.int .i64 0]).cells.toList=AW KD:=rfl
abbrev aH:ByteArray:=⟨#[108,101,110,116]⟩
def mark (i:Nat):AB:=⟨-7,aH,0,0,i⟩
theorem dR {id n c i:Nat} (hi:i<n):CL Tryd.prog 26 (qS id n c) (iv (i:Int))=some (.pointer (some ⟨id,i*5,none⟩)):=ON hi
theorem RR {l:List AB} (h:(BZ l).1.1=0):CE l∧(CQ l).1=0∧(DW (BL l) l.length 0 (CI l)).1=0∧¬ J4 (DW (BL l) l.length 0 (CI l)).2.2.rows (BL l) (DW (BL l) l.length 0 (CI l)).2.2.rules≥0 ∧
  BZ l=((0,0),(DW (BL l) l.length 0 (CI l)).2.2)∧HG l l.length (BZ l).2:=by
 by_cases h1:(CQ l).1≠0
 ·unfold BZ at h
  rw[if_pos h1] at h
  exact absurd h h1
 ·by_cases h2:(DW (BL l) l.length 0 (CI l)).1≠0
  ·unfold BZ at h
   rw[if_neg h1] at h
   simp only at h
   rw[if_pos h2] at h
   exact absurd h h2
  ·by_cases h3:J4 (DW (BL l) l.length 0 (CI l)).2.2.rows (BL l) (DW (BL l) l.length 0 (CI l)).2.2.rules≥0
   ·unfold BZ at h
    rw[if_neg h1] at h
    simp only at h
    rw[if_neg h2,if_pos h3] at h
    cases h
   ·have e1:(CQ l).1=0:=by simpa using h1
    have e2:(DW (BL l) l.length 0 (CI l)).1=0:=by simpa using h2
    have e:BZ l=((0,0),(DW (BL l) l.length 0 (CI l)).2.2):=by
     unfold BZ
     rw[if_neg h1]
     simp only
     rw[if_neg h2,if_neg h3]
    have ht:=pH (fS e1)
    refine⟨ht,e1,e2,h3,e,?_⟩
    rw[e]
    exact m_ ht UQ l.length 0 (CI l) (by omega) (YM l) e2
theorem zF {l:List AB} (h:(BZ l).1.1≠0):DR l=(ByteArray.empty,sZ):=by unfold DR;rw[if_pos h]
theorem S1 {l:List AB} (h:(BZ l).1.1=0):DR l=(L4 l,(BZ l).2):=by unfold DR;rw[if_neg (by rw[h];simp)]
theorem lQ {l:List AB} (hl:l.length<2932031007403):JJ (DR l).2∧FZ (DR l).2≤l.length+200:=by
 by_cases h:(BZ l).1.1=0
 ·rw[S1 h]
  obtain⟨_,_,_,_,_,hi⟩:=RR h
  have hw:=hi.wf
  have:=hw.q;have:=hw.v;have:=hw.t;have:=hw.u;have:=hw.o;have:=hi.len
  unfold JJ FZ
  simp only
  omega
 ·rw[zF h]
  exact⟨⟨by decide,by decide,by decide,by decide,by decide,by decide⟩,by show 0≤_;omega⟩
theorem sK (nm:ByteArray) (s:AN):V1 nm nm s s:=⟨rfl,rfl,rfl,rfl,rfl,rfl,rfl,rfl⟩
def K4 (x:AB):AB:=if x.kind≠27 then { x with n:=0 } else x
def BC (l:List AB):List AB:=l.map K4
def W8 (nm:ByteArray) (s:AN):Prop:=(BZ (BC s.rows)).1.1=0∧V1 nm (DR (BC s.rows)).1 s (DR (BC s.rows)).2
open Classical in
noncomputable def FF (nm:ByteArray) (s:AN):Int:=if W8 nm s then 0 else 23
theorem lO {H:AA} {cs:List Value} {e p:Int} (hl:cs.length=8) (ho:cs.all one=true) (hf:H.floor≤H.next) :
  ∃ H':AA × AA,A_ Tryd.prog ((H.push (.row CN 33 false false)).push (.row [iv 0,iv 0] 36 false false)) 33 (qP H.next 0) (.agg cs.toArray)=some (H'.1)∧A_ Tryd.prog H'.1 36 (qP (H.next+1) 0) (CD e p)=some H'.2 ∧
   HF H.next H'.2 cs e p∧H'.2.next=H.next+2∧H'.2.floor=H.floor∧∀ i,i<H.next→H'.2.get i=H.get i:=by
 have ga:=OA (h:=H) (o:=.row CN 33 false false) (o':=.row [iv 0,iv 0] 36 false false)
 have gb:=OL (h:=H) (o:=.row CN 33 false false) (o':=.row [iv 0,iv 0] 36 false false)
 have gold:∀ i,i<H.next→((H.push (.row CN 33 false false)).push (.row [iv 0,iv 0] 36 false false)).get i=H.get i:=fun i hi=>by rw[AR (by show i<H.next+1;omega),AR hi]
 have hnx:((H.push (.row CN 33 false false)).push (.row [iv 0,iv 0] 36 false false)).next=H.next+2:=rfl
 have hfx:((H.push (.row CN 33 false false)).push (.row [iv 0,iv 0] 36 false false)).floor=H.floor:=rfl
 generalize (H.push (.row CN 33 false false)).push (.row [iv 0,iv 0] 36 false false)=G at *
 obtain⟨H',s1,s2,r1,r2,r3,r4⟩:=SM (a:=H.next) (H:=G) ⟨ga,gb⟩ rfl (by omega) (by omega) (cs':=cs) hl ho (e':=e) (p':=p)
 exact⟨⟨_,H'⟩,s1,s2,r1,by show H'.next=_;omega,by show H'.floor=_;omega,fun i hi=>by show H'.get i=_;rw[r4 i (by omega) (by omega),gold i hi]⟩
theorem KI {lo:Nat} {h:AA} {nm:ByteArray} {s:AN} {vr vq vv vt vu vo:Value} (h1:HJ lo h vr s.rows) (h2:AP lo h vq s.queues.length 2 (C1 s.queues)) (h3:AP lo h vv s.vars.length 1 (C7 s.vars)) (h4:AP lo h vt s.tags.length 1 (C7 s.tags)) (h5:AX lo h vu s.rules) (h6:AX lo h vo s.on) :
  ([.string nm,vr,vq,vv,vt,vu,vo,iv s.miss]:List Value).all one=true:=by
 simp only[List.all_cons,List.all_nil,h1.2.one,h2.one,h3.one,h4.one,AP.one h5,AP.one h6,QB,KH,Bool.and_self]
def JN (v:Value) (n:Nat):Prop:=∃ id off c,v=.slice (some ⟨id,off,none⟩) n c
theorem Dv {h:AA} {v:Value} {l:List AB} (hv:A7 h v l) (hne:0<l.length):JN v l.length:=by
 obtain⟨a,c,rfl,⟨h1,_⟩ | ⟨id,off,_,_,_,_,rfl,_⟩⟩:=hv
 ·rw[h1] at hne;exact absurd hne (by simp)
 ·exact⟨id,off,c,rfl⟩
theorem zU {call:AM} {N:Nat} {h:AA} {l:List AB} {v:Value} (hv:A7 h v l) (hlies:JN v l.length) (hlen:l.length<2932031007403) :
  ∃ v' h',A8 Tryd.prog call N 28 [v] h=some (v',h')∧(∃ o c g,v'=qS o l.length c∧h'.get o=.row (l.flatMap AW) 61 g false∧h.next≤o∧o<h'.next)∧h'.floor=h.floor∧h.next≤h'.next∧∀ i,i<h.next→h'.get i=h.get i:=by
 by_cases h0:0<l.length
 ·obtain⟨h',e,g1,g2,g3,g4⟩:=oC (call:=call) (N:=N) hv h0 hlen
  exact⟨_,h',e,⟨h.next+1,AO,true,rfl,g1,by omega,by omega⟩,g3,by omega,g4⟩
 ·have hl:l=[]:=List.length_eq_zero_iff.1 (by omega)
  subst hl
  obtain⟨id,off,c,rfl⟩:=hlies
  refine⟨qS h.next 0 0,h.push (.row [] 61 false false),?_,⟨h.next,0,false,rfl,BM,Nat.le_refl _,by show h.next<h.next+1;omega⟩,rfl,by show h.next≤h.next+1;omega,fun i hi=>AR hi⟩
  refine DA Tryd.func28 rfl (by simp[Tryd.f28]) ?_
  have hr:Tryd.f28.results.toList=[.tmp 2]:=rfl
  have hb:BR Tryd.prog .eql 26 (.tmp 3) (.const (Z0)) (.slice (some ⟨id,off,none⟩) ([]:List AB).length c) (Z0)=some (.bool false):=by
   have hf:flat (.slice (some ⟨id,off,none⟩) ([]:List AB).length c)=false:=rfl
   simp only[BR,hf,Bool.false_and,Bool.false_eq_true,if_false,Tryd.underlying26]
  have hbs:FC Tryd.prog h 26 0 []=some (qS h.next 0 0,h.push (.row [] 61 false false)):=by
   simp[FC,Tryd.underlying26,FV,FI,flat,BI,MI,IQ,BQ]
  have hsrc:DQ (h.push (.row [] 61 false false)) 5 ([]:List AB).length (.slice (some ⟨id,off,none⟩) ([]:List AB).length c)=some []:=by simp[DQ]
  have hap:DL Tryd.prog (h.push (.row [] 61 false false)) 26 (qS h.next 0 0) (.slice (some ⟨id,off,none⟩) ([]:List AB).length c)=some (qS h.next 0 0,h.push (.row [] 61 false false)):=by
   have hu:(0:Nat)≠AO:=by unfold AO;omega
   have hzs:(Value.agg #[.int .i64 0,.string ByteArray.empty,.int .i64 0,.int .i64 0,.int .i64 0]).cells.size=5:=rfl
   simp[DL,Tryd.underlying26,FV,QD,FI,hzs,DQ,hu]
  simp only[eE,seval,↓eP,hr,hb,hbs,hap]
theorem Cl {n:Nat} {h:AA} {l:List AB} {v:Value} (hv:A7 h v l) (hlies:JN v l.length) (hlen:l.length<2932031007403) (hn:0<n) :
  ∃ v' h',AS n 28 [v] h=some (v',h')∧(∃ o c g,v'=qS o l.length c∧h'.get o=.row (l.flatMap AW) 61 g false∧h.next≤o∧o<h'.next)∧h'.floor=h.floor∧h.next≤h'.next∧∀ i,i<h.next→h'.get i=h.get i:=by
 obtain⟨n,rfl⟩:=C_ hn
 refine PN (BT ⟨rfl,rfl,rfl⟩) (zU (call:=AS n) (N:=n) hv hlies hlen) fun v' h1 hf ho ⟨⟨o,c,g,e1,_⟩,_⟩=>?_
 rw[e1] at hf
 cases hf
section
variable {n N:Nat}
theorem Dc {nm:ByteArray} {s:AN} {pv:Value} {lo:Nat} {h:AA} (hp:CO lo h pv nm s) (hlies:∀ nm' vr vq vv vt vu vo m,pv=.agg #[.string nm',vr,vq,vv,vt,vu,vo,m]→JN vr s.rows.length) (hs:JJ s) (hl:s.rows.length<2932031007403) (hfl:h.floor≤h.next) (hg:h.get 0=CW) (hn0:0<h.next) (hn:2*FZ s+200<n) (hN:FZ s+200<N) :
  ∃ h',A8 Tryd.prog (AS n) N 38 [pv] h=some (iv (FF nm s),h')∧∀ i,i<h.next→h'.get i=h.get i:=by
 obtain⟨vr,vq,vv,vt,vu,vo,rfl,p1,p2,p3,p4,p5,p6⟩:=hp
 have hlv:=hlies _ _ _ _ _ _ _ _ rfl
 refine EL (R:=fun h'=>∀ i,i<h.next→h'.get i=h.get i) Tryd.func38 rfl (by simp[Tryd.f38]) ?_
 have hr:Tryd.f38.results.toList=[.tmp 2]:=rfl
 unfold FZ at hn hN
 obtain⟨q1,q2,q3,q4,q5,q6⟩:=hs
 have ca:=E_ [.string nm,vr,vq,vv,vt,vu,vo,iv s.miss]
 have oa:=KI (nm:=nm) p1 p2 p3 p4 p5 p6
 have gA:(h.push (.row [.string nm,vr,vq,vv,vt,vu,vo,iv s.miss] 33 false false)).get h.next=.row [.string nm,vr,vq,vv,vt,vu,vo,iv s.miss] 33 false false:=BM
 have gO:∀ i,i<h.next→(h.push (.row [.string nm,vr,vq,vv,vt,vu,vo,iv s.miss] 33 false false)).get i=h.get i:=fun i hi=>AR hi
 have nA:(h.push (.row [.string nm,vr,vq,vv,vt,vu,vo,iv s.miss] 33 false false)).next=h.next+1:=rfl
 have fA:(h.push (.row [.string nm,vr,vq,vv,vt,vu,vo,iv s.miss] 33 false false)).floor=h.floor:=rfl
 show WK _ _ _ (.seq _ (.seq _ (.seq (.seq _ _) (.seq _ (.seq _ _))))) _ _
 simp only[eE,seval,↓eP,F5,E9,F6,ca,oa,HU]
 generalize h.push (.row [.string nm,vr,vq,vv,vt,vu,vo,iv s.miss] 33 false false)=A at *
 have l1:AJ 1 (A.get h.next)=some vr:=by rw[gA];rfl
 have P1:A7 A vr s.rows:=p1.1.mono (by omega) gO
 obtain⟨v',h1,hcl,⟨o,c,g,rfl,g1,g2,g3⟩,f1,n1,o1⟩:=Cl (n:=n) P1 hlv (by omega) (by omega)
 have hlen:∀ h':AA,CX Tryd.prog h' 26 (qS o s.rows.length c)=some (iv (s.rows.length:Int)):=fun h'=>S_
 simp only[eE,seval,↓eP,Nat.zero_add,DI,DK,l1,hcl,hlen]
 refine WK.loop (fun i s'=>s'.T.get 1=qP h.next 0∧s'.T.get 3=qS o s.rows.length c∧s'.T.get 11=iv (s.rows.length:Int)∧s'.T.get 12=iv i∧i≤s.rows.length∧s'.h.next=h1.next∧s'.h.floor=h1.floor∧(∀ i,i≠o→s'.h.get i=h1.get i) ∧
  ∃ L:List AB,s'.h.get o=.row (L.flatMap AW) 61 g false∧∀ j,L[j]?=(s.rows[j]?).map fun x=>if j<i then K4 x else x) s.rows.length (by omega) ?_ ?_
 ·refine⟨by simp only[eE,↓reduceIte,Nat.reduceEqDiff,reduceCtorEq,↓eP,rP,Nat.reduceAdd,Nat.reduceLT],by simp only[eE,↓reduceIte,Nat.reduceEqDiff,reduceCtorEq,↓eP,rP,Nat.reduceAdd,Nat.reduceLT],by simp only[eE,↓reduceIte,Nat.reduceEqDiff,reduceCtorEq,↓eP,rP,Nat.reduceAdd,Nat.reduceLT],by simp only[eE,↓reduceIte,Nat.reduceEqDiff,reduceCtorEq,↓eP,rP,Nat.reduceAdd,Nat.reduceLT];rfl,by omega,rfl,rfl,fun _ _=>rfl,s.rows,g1,fun j=>?_⟩
  simp
 rintro i ⟨T1,H1⟩ hi ⟨t1,t3,t11,t12,hil,m1,m2,m3,L,gL,hL⟩
 simp only at t1 t3 t11 t12 m1 m2 m3 gL
 have hLl:L.length=s.rows.length:=by
  rcases Nat.lt_trichotomy L.length s.rows.length with h9 | h9 | h9
  ·have:=hL L.length
   rw[List.getElem?_eq_none (Nat.le_refl _),List.getElem?_eq_getElem h9] at this
   cases this
  ·exact h9
  ·have:=hL s.rows.length
   rw[List.getElem?_eq_getElem h9,List.getElem?_eq_none (Nat.le_refl _)] at this
   cases this
 by_cases hlt:i<s.rows.length
 ·have c1:decide ((i:Int)<(s.rows.length:Int))=true:=by simp;omega
  obtain⟨x,hx⟩:∃ x,s.rows[i]?=some x:=⟨_,List.getElem?_eq_getElem hlt⟩
  have hLx:L[i]?=some x:=by rw[hL,hx];simp
  have ea:=dR (id:=o) (n:=s.rows.length) (c:=c) hlt
  have lk:AJ (i*5) (H1.get o)=some (iv x.kind):=by
   have h5:=PO hLx
   rw[gL]
   have:(L.flatMap AW)[i*5]?=(AW x)[0]?:=by
    rw[← h5,List.getElem?_take_of_lt (by omega),List.getElem?_drop,Nat.add_zero]
   simp only[AJ,this]
   rfl
  have w1:=EU i (by omega)
  cases d:(x.kind != 27) with
  | false=>
   have hz:K4 x=x:=by
    unfold K4
    rw[if_neg (by simpa using d)]
   simp only[eE,seval,↓eP,t1,t3,t11,t12,c1,ea,C2,AU,lk,d,w1]
   refine⟨hlt,by omega,m1,m2,m3,L,gL,fun j=>?_⟩
   rw[hL j]
   by_cases hj:j=i
   ·subst hj
    rw[hx]
    simp[hz]
   ·congr 1
    funext y
    by_cases h9:j<i
    ·rw[if_pos h9,if_pos (by omega)]
    ·rw[if_neg h9,if_neg (by omega)]
  | true=>
   have hz:K4 x={ x with n:=0 }:=by
    unfold K4
    rw[if_pos (by simpa using d)]
   have hst:=HW (t:=3) (off:=i*5+3) (v:=iv 0) C4 rfl rfl gL (by rw[J2];omega) (by omega)
   rw[bE hLx] at hst
   simp only[eE,seval,↓eP,t1,t3,t11,t12,c1,ea,C2,F8,AU,lk,d,hst,w1]
   refine⟨hlt,by omega,m1,m2,fun j hj=>by rw[AV (by omega) (Ne.symm hj)];exact m3 j hj,GT L i 0,B0 rfl (by omega),fun j=>?_⟩
   by_cases hj:j=i
   ·subst hj
    rw[JV hLx,hx]
    simp[hz]
   ·rw[NR hj,hL j]
    congr 1
    funext y
    by_cases h9:j<i
    ·rw[if_pos h9,if_pos (by omega)]
    ·rw[if_neg h9,if_neg (by omega)]
 have c1:decide ((i:Int)<(s.rows.length:Int))=false:=by simp;omega
 have:i=s.rows.length:=by omega
 subst this
 have hLz:L=BC s.rows:=by
  apply List.ext_getElem?
  intro j
  rw[hL j,BC,List.getElem?_map]
  rcases Nat.lt_or_ge j s.rows.length with h9 | h9
  ·simp[h9]
  ·rw[List.getElem?_eq_none h9]
   rfl
 subst hLz
 have hvz:A7 H1 (qS o s.rows.length c) (BC s.rows):=by
  refine⟨_,_,by rw[hLl],.inr ⟨o,0,_,_,_,_,rfl,gL,by omega,fun k r hk=>by rw[Nat.zero_add];exact PO hk⟩⟩
 have hw1:H1.get 0=CW:=by rw[m3 0 (by omega),o1 0 (by omega),gO 0 hn0];exact hg
 obtain⟨v2,h2,hres,pv,rfl,hp',f2,n2,o2⟩:=kX (n:=n) (h:=H1) (by omega) hw1 (by omega) hvz (by omega) (by omega)
 obtain⟨vr',vq',vv',vt',vu',vo',rfl,b1,b2,b3,b4,b5,b6⟩:=hp'
 obtain⟨⟨hb,h3⟩,s1,s2,rO,n3,f3,o3⟩:=lO (H:=h2) (cs:=[.string (DR (BC s.rows)).1,vr',vq',vv',vt',vu',vo',iv (DR (BC s.rows)).2.miss]) (e:=(BZ (BC s.rows)).1.1) (p:=(BZ (BC s.rows)).1.2) rfl (KI b1 b2 b3 b4 b5 b6) (by omega)
 simp only at s1 s2 rO n3 f3 o3
 have HO:∀ i,i<h.next→h3.get i=h.get i:=fun i hi=>by rw[o3 i (by omega),o2 i (by omega),m3 i (by omega),o1 i (by omega),gO i hi]
 have HA:h3.get h.next=.row [.string nm,vr,vq,vv,vt,vu,vo,iv s.miss] 33 false false:=by rw[o3 _ (by omega),o2 _ (by omega),m3 _ (by omega),o1 _ (by omega)];exact gA
 obtain⟨x0,x1,x2,x3,x4,x5,x6,x7⟩:=cC (a:=.string nm) (b:=vr) (c:=vq) (d:=vv) (e:=vt) (f:=vu) (g:=vo) (i:=iv s.miss) (ty:=33) (x:=false) (y:=false)
 obtain⟨y0,y1,y2,y3,y4,y5,y6,y7⟩:=cC (a:=.string (DR (BC s.rows)).1) (b:=vr') (c:=vq') (d:=vv') (e:=vt') (f:=vu') (g:=vo') (i:=iv (DR (BC s.rows)).2.miss) (ty:=33) (x:=false) (y:=false)
 rw[← HA] at x0 x1 x2 x3 x4 x5 x6 x7
 rw[← rO.1] at y0 y1 y2 y3 y4 y5 y6 y7
 have lF:AJ 0 (h3.get (h2.next+1))=some (iv (BZ (BC s.rows)).1.1):=by rw[rO.2];rfl
 have NN:h.next≤h3.next:=by omega
 have A1:=p1.1.mono NN HO
 have A2:=p2.mono NN fun i _ hi=>HO i hi
 have A3:=p3.mono NN fun i _ hi=>HO i hi
 have A4:=p4.mono NN fun i _ hi=>HO i hi
 have A5:=AX.mono p5 NN fun i _ hi=>HO i hi
 have A6:=AX.mono p6 NN fun i _ hi=>HO i hi
 have B1:=(b1.mono (h':=h3) (by omega) fun i _ hi=>o3 i hi).1
 have B2:=b2.mono (h':=h3) (by omega) fun i _ hi=>o3 i hi
 have B3:=b3.mono (h':=h3) (by omega) fun i _ hi=>o3 i hi
 have B4:=b4.mono (h':=h3) (by omega) fun i _ hi=>o3 i hi
 have B5:=AX.mono (h':=h3) b5 (by omega) fun i _ hi=>o3 i hi
 have B6:=AX.mono (h':=h3) b6 (by omega) fun i _ hi=>o3 i hi
 have hR:=vF (n:=n) A1 B1 (by omega) (by omega)
 have hQ:=Bc (n:=n) A2 B2 (by omega) (by omega)
 have hV:=iI (n:=n) A3 B3 (by omega) (by omega)
 have hT:=iI (n:=n) A4 B4 (by omega) (by omega)
 have hU:=k_ (n:=n) A5 B5 (by omega) (by omega)
 have hO:=k_ (n:=n) A6 B6 (by omega) (by omega)
 have yes:(BZ (BC s.rows)).1.1=0→V1 nm (DR (BC s.rows)).1 s (DR (BC s.rows)).2→FF nm s=0:=fun h8 h9=>if_pos ⟨h8,h9⟩
 have no1:(BZ (BC s.rows)).1.1≠0→FF nm s=23:=fun h8=>if_neg fun h9=>h8 h9.1
 have no2:¬ V1 nm (DR (BC s.rows)).1 s (DR (BC s.rows)).2→FF nm s=23:=fun h8=>if_neg fun h9=>h8 h9.2
 simp only[eE,seval,↓eP,t1,t3,t11,t12,c1,hres,NF,NJ,QR,E2,EZ,F7,CY,s1,s2]
 cases d0:((BZ (BC s.rows)).1.1 != 0) with
 | true=>
  rw[no1 (by simpa using d0)]
  simp only[eE,seval,↓eP,hr,t1,List.append_eq,List.toList_toArray,Nat.zero_add,EP,EQ,lF,LQ,DI,FX,K_,LB,KC,KU,J_,GE,AU,DK,FY,JR,DV,x0,x1,x2,x3,x4,x5,x6,x7,y0,y1,y2,y3,y4,y5,y6,y7,L7,d0]
  exact HO
 | false=>
 cases d1:(!(nm==(DR (BC s.rows)).1)) with
 | true=>
  rw[no2 fun h9=>by rw[h9.1,PR] at d1;cases d1]
  simp only[eE,seval,↓eP,hr,t1,List.append_eq,List.toList_toArray,Nat.zero_add,EP,EQ,lF,LQ,DI,FX,K_,LB,KC,KU,J_,GE,AU,DK,FY,JR,DV,x0,x1,x2,x3,x4,x5,x6,x7,y0,y1,y2,y3,y4,y5,y6,y7,L7,d0,d1]
  exact HO
 | false=>
 cases d2:(s.miss != (DR (BC s.rows)).2.miss) with
 | true=>
  rw[no2 fun h9=>by rw[h9.2.1] at d2;simp at d2]
  simp only[eE,seval,↓eP,hr,t1,List.append_eq,List.toList_toArray,Nat.zero_add,EP,EQ,lF,LQ,DI,FX,K_,LB,KC,KU,J_,GE,AU,DK,FY,JR,DV,x0,x1,x2,x3,x4,x5,x6,x7,y0,y1,y2,y3,y4,y5,y6,y7,L7,d0,d1,d2]
  exact HO
 | false=>
 cases d3:decide (s.rows=(DR (BC s.rows)).2.rows) with
 | false=>
  rw[d3] at hR
  rw[no2 fun h9=>(of_decide_eq_false d3) h9.2.2.1]
  simp only[eE,seval,↓eP,hr,t1,List.append_eq,List.toList_toArray,Nat.zero_add,EP,EQ,lF,LQ,DI,FX,K_,LB,KC,KU,J_,GE,AU,DK,FY,JR,DV,x0,x1,x2,x3,x4,x5,x6,x7,y0,y1,y2,y3,y4,y5,y6,y7,L7,d0,d1,d2,hR]
  exact HO
 | true=>
 rw[d3] at hR
 cases d4:decide (s.queues=(DR (BC s.rows)).2.queues) with
 | false=>
  rw[d4] at hQ
  rw[no2 fun h9=>(of_decide_eq_false d4) h9.2.2.2.1]
  simp only[eE,seval,↓eP,hr,t1,List.append_eq,List.toList_toArray,Nat.zero_add,EP,EQ,lF,LQ,DI,FX,K_,LB,KC,KU,J_,GE,AU,DK,FY,JR,DV,x0,x1,x2,x3,x4,x5,x6,x7,y0,y1,y2,y3,y4,y5,y6,y7,L7,d0,d1,d2,hR,hQ]
  exact HO
 | true=>
 rw[d4] at hQ
 cases d5:decide (s.vars=(DR (BC s.rows)).2.vars) with
 | false=>
  rw[d5] at hV
  rw[no2 fun h9=>(of_decide_eq_false d5) h9.2.2.2.2.1]
  simp only[eE,seval,↓eP,hr,t1,List.append_eq,List.toList_toArray,Nat.zero_add,EP,EQ,lF,LQ,DI,FX,K_,LB,KC,KU,J_,GE,AU,DK,FY,JR,DV,x0,x1,x2,x3,x4,x5,x6,x7,y0,y1,y2,y3,y4,y5,y6,y7,L7,d0,d1,d2,hR,hQ,hV]
  exact HO
 | true=>
 rw[d5] at hV
 cases d6:decide (s.tags=(DR (BC s.rows)).2.tags) with
 | false=>
  rw[d6] at hT
  rw[no2 fun h9=>(of_decide_eq_false d6) h9.2.2.2.2.2.1]
  simp only[eE,seval,↓eP,hr,t1,List.append_eq,List.toList_toArray,Nat.zero_add,EP,EQ,lF,LQ,DI,FX,K_,LB,KC,KU,J_,GE,AU,DK,FY,JR,DV,x0,x1,x2,x3,x4,x5,x6,x7,y0,y1,y2,y3,y4,y5,y6,y7,L7,d0,d1,d2,hR,hQ,hV,hT]
  exact HO
 | true=>
 rw[d6] at hT
 cases d7:decide (s.rules=(DR (BC s.rows)).2.rules) with
 | false=>
  rw[d7] at hU
  rw[no2 fun h9=>(of_decide_eq_false d7) h9.2.2.2.2.2.2.1]
  simp only[eE,seval,↓eP,hr,t1,List.append_eq,List.toList_toArray,Nat.zero_add,EP,EQ,lF,LQ,DI,FX,K_,LB,KC,KU,J_,GE,AU,DK,FY,JR,DV,x0,x1,x2,x3,x4,x5,x6,x7,y0,y1,y2,y3,y4,y5,y6,y7,L7,d0,d1,d2,hR,hQ,hV,hT,hU]
  exact HO
 | true=>
 rw[d7] at hU
 cases d8:decide (s.on=(DR (BC s.rows)).2.on) with
 | false=>
  rw[d8] at hO
  rw[no2 fun h9=>(of_decide_eq_false d8) h9.2.2.2.2.2.2.2]
  simp only[eE,seval,↓eP,hr,t1,List.append_eq,List.toList_toArray,Nat.zero_add,EP,EQ,lF,LQ,DI,FX,K_,LB,KC,KU,J_,GE,AU,DK,FY,JR,DV,x0,x1,x2,x3,x4,x5,x6,x7,y0,y1,y2,y3,y4,y5,y6,y7,L7,d0,d1,d2,hR,hQ,hV,hT,hU,hO]
  exact HO
 | true=>
 rw[d8] at hO
 rw[yes (by simpa using d0) ⟨MF (by simpa using d1),by simpa using d2,of_decide_eq_true d3,of_decide_eq_true d4,of_decide_eq_true d5,of_decide_eq_true d6,of_decide_eq_true d7,of_decide_eq_true d8⟩]
 simp only[eE,seval,↓eP,hr,t1,List.append_eq,List.toList_toArray,Nat.zero_add,EP,EQ,lF,LQ,DI,FX,K_,LB,KC,KU,J_,GE,AU,DK,FY,JR,DV,x0,x1,x2,x3,x4,x5,x6,x7,y0,y1,y2,y3,y4,y5,y6,y7,L7,d0,d1,d2,hR,hQ,hV,hT,hU,hO]
 exact HO
theorem jY {nm:ByteArray} {s:AN} {pv:Value} {lo:Nat} {h:AA} (hp:CO lo h pv nm s) (hlies:∀ nm' vr vq vv vt vu vo m,pv=.agg #[.string nm',vr,vq,vv,vt,vu,vo,m]→JN vr s.rows.length) (hs:JJ s) (hl:s.rows.length<2932031007403) (hfl:h.floor≤h.next) (hg:h.get 0=CW) (hn0:0<h.next) (hn:2*FZ s+300<n) :
  AS n 38 [pv] h=some (iv (FF nm s),h):=by
 obtain⟨n,rfl⟩:=C_ hn
 exact JQ (BT ⟨rfl,rfl,rfl⟩) rfl (Dc hp hlies hs hl hfl hg hn0 (by omega) (by omega))
end
theorem gP {l:List AB}:∀ (a b p q r:Nat),EH l a p q→EH l b q r→EH l (a+b) p r
 | 0,b,p,q,r,h,h2=>by
  have:p=q:=h
  subst this
  rw[Nat.zero_add]
  exact h2
 | a+1,b,p,q,r,⟨p',h1,h3,h4,h5⟩,h2=>by
  rw[show a+1+b=(a+b)+1 by omega]
  exact⟨p',h1,h3,h4,gP a b p' q r h5 h2⟩
section
variable {call:AM} {N:Nat} {h:AA}
theorem Bn {Z L:List AB} {v:Value} {at_ q:Nat} (hsk:MZ L Z) (hv:A7 h v L) (hs:DM Z at_ q) (hlen:L.length<30000000000000) (hN:L.length+3<N) :
  A8 Tryd.prog call N 55 [v,iv at_] h=some (iv q,h):=by
 refine DA Tryd.func55 rfl (by simp[Tryd.f55]) ?_
 have hr:Tryd.f55.results.toList=[.tmp 4]:=rfl
 have hl:=fun h'=>hv.len (h':=h')
 have hq:=hs.lt
 have hZ:=hsk.1
 simp only[eE,seval,↓eP,rP,hr]
 refine WK.loop (fun i s'=>s'.h=h∧s'.T.get 0=v∧s'.T.get 1=iv ((at_+i:Nat):Int)∧∃ r:Nat,s'.T.get 5=iv r∧EH Z r (at_+i) q) (q-at_) (by omega) ?_ ?_
 ·exact⟨rfl,by simp only[eE,seval,↓eP,rP],by simp only[eE,seval,↓eP,rP,Nat.add_zero],1,by simp only[eE,seval,↓eP,rP],q,hs,hq.1,hq.2,rfl⟩
 rintro i ⟨T1,H1⟩ hi ⟨rfl,t0,t1,r,t5,hc⟩
 simp only at t0 t1 t5
 cases r with
 | zero=>
  have hpq:at_+i=q:=hc
  have c1:decide (((0:Nat):Int)>0)=false:=rfl
  rw[hpq] at t1
  simp only[eE,seval,↓eP,rP,hr,t0,t1,t5,c1]
 | succ r=>
  obtain⟨p',h1,h2,h3,h4⟩:=hc
  have hle:=IF _ _ _ h4
  have c1:decide (((r+1:Nat):Int)>0)=true:=decide_eq_true (by omega)
  have c2:decide (((at_+i:Nat):Int)≥0)=true:=decide_eq_true (by omega)
  have c3:decide (((at_+i:Nat):Int)<(L.length:Int))=true:=by simp;omega
  obtain⟨x,hx,hk0,_,hch⟩:=h1.kids
  obtain⟨y,hy,hyk⟩:=hsk.2 _ x hx
  obtain⟨id,p,e0,hid,l0,l1,l2,l3,l4,lr⟩:=hv.row hy
  rw[hyk] at l4
  have hcl:=IF _ _ _ hch
  have m1:(if (L.length:Int)<x.kids then (L.length:Int) else x.kids)=x.kids:=if_neg (by omega)
  have m2:(if x.kids>0 then x.kids else 0)=x.kids:=by split <;> omega
  have w1:IntKind.i64.wrap (x.kids-1)=x.kids-1:=C9 (by omega) (by omega)
  have w2:IntKind.i64.wrap (((r+1:Nat):Int)+(x.kids-1))=((x.kids.toNat+r:Nat):Int):=by rw[C9 (by omega) (by omega)];omega
  have w3:IntKind.i64.wrap (((at_+i:Nat):Int)+1)=((at_+(i+1):Nat):Int):=by rw[C9 (by omega) (by omega)];omega
  simp only[eE,seval,↓eP,rP,t0,t1,t5,c1,c2,hl,c3,e0,l4,m1,m2,w1,w2,w3]
  exact⟨by omega,_,rfl,gP _ _ _ _ _ hch h4⟩
theorem Ap {n:Nat} {Z L:List AB} {v:Value} {at_ q:Nat} (hsk:MZ L Z) (hv:A7 h v L) (hs:DM Z at_ q) (hlen:L.length<30000000000000) (hn:L.length+5<n) :
  AS n 55 [v,iv at_] h=some (iv q,h):=by
 obtain⟨n,rfl⟩:=C_ hn
 exact EE (BT ⟨rfl,rfl,rfl⟩) rfl (Bn hsk hv hs hlen (by omega))
def BB (e:Nat→Nat):Nat→Nat→List Nat
 | 0,_=>[]
 | k+1,p=>p :: BB e k (e p)
theorem NE {e:Nat→Nat}:∀ k p,(BB e k p).length=k
 | 0,p=>rfl
 | k+1,p=>by show (BB e k (e p)).length+1=_;rw[NE k (e p)]
def IK (h:AA) (lo:Nat) (v:Value) (l:List Int):Prop:=
 (v=Z0∧l=[])∨∃ id c,v=qS id l.length c∧lo≤id∧id<h.next∧((c=AO∧h.get id=.row (ints l) 3 true false)∨(c=l.length∧h.get id=.row (ints l) 3 false false))
theorem IK.ints {lo lo':Nat} {v:Value} {l:List Int} (hl:IK h lo v l) (hle:lo'≤lo):AX lo' h v l:=by
 rcases hl with⟨rfl,rfl⟩ | ⟨id,c,rfl,h1,h2,⟨_,h3⟩ | ⟨_,h3⟩⟩
 ·exact AP.nil lo' h 1
 ·exact AX.row' h3 ⟨by omega,h2⟩ rfl
 ·exact AX.row' h3 ⟨by omega,h2⟩ rfl
theorem IK.mono {h':AA} {lo:Nat} {v:Value} {l:List Int} (hl:IK h lo v l) (hn:h.next≤h'.next) (hg:∀ i,lo≤i→i<h.next→h'.get i=h.get i):IK h' lo v l:=by
 rcases hl with h1 | ⟨id,c,h1,h2,h3,h4⟩
 ·exact .inl h1
 ·exact .inr ⟨id,c,h1,h2,by omega,by rw[hg id h2 h3];exact h4⟩
theorem VL:(Value.int .i64 0).cells.size=1:=rfl
theorem bR {lo:Nat} {v:Value} {l:List Int} {x:Int} (hl:IK h lo v l) (hlo:lo≤h.next) (hf:h.floor≤lo) (hb:l.length<17592186044415) :
  ∃ v' h',DL Tryd.prog (h.push (.row [iv x] 3 false false)) 27 v (qS h.next 1 1)=some (v',h')∧IK h' lo v' (l++[x])∧h'.floor=h.floor∧h.next≤h'.next∧∀ i,i<lo→h'.get i=h.get i:=by
 have hsrc:DQ (h.push (.row [iv x] 3 false false)) 1 1 (qS h.next 1 1)=some [iv x]:=by
  simp only[DQ,BM]
  rfl
 have hone:([iv x]:List Value).all one=true:=rfl
 have hi1:ints (l++[x])=ints l++[iv x]:=by simp[ints]
 rcases hl with⟨rfl,rfl⟩ | ⟨id,c,rfl,h1,h2,h3⟩
 ·have hnu:(0:Nat)≠AO:=by unfold AO;omega
  refine⟨.slice (some ⟨(h.push (.row [iv x] 3 false false)).next,0,none⟩) 1 AO,(h.push (.row [iv x] 3 false false)).push (.row [iv x] 3 true false),?_,.inr ⟨_,AO,rfl,?_,?_,.inl ⟨rfl,BM⟩⟩,rfl,by show h.next≤h.next+1+1;omega,fun i hi=>?_⟩
  ·have h0:DQ (h.push (.row [iv x] 3 false false)) 1 0 (Z0)=some []:=by simp[DQ]
   simp only[DL,Tryd.underlying27,C4,J1,HZ,VL,hsrc,hone,h0]
   rw[if_pos (by simp),if_pos trivial,if_neg hnu,if_neg (by omega),if_pos (by simp)]
   rfl
  ·show lo≤h.next+1;omega
  ·show h.next+1<h.next+1+1;omega
  ·rw[AR (by show i<h.next+1;omega),AR (by omega)]
 ·have hll:(ints l).length=l.length:=F9 l
  rcases h3 with⟨rfl,hg⟩ | ⟨rfl,hg⟩
  ·have hu:l.length≤AO:=by unfold AO;omega
   have hg':(h.push (.row [iv x] 3 false false)).get id=.row (ints l) 3 true false:=by rw[AR h2];exact hg
   have hcut:F1 (ints l) 0 (l.length*1)=some (ints l):=by
    simp only[F1,List.drop_zero]
    rw[List.take_of_length_le (by omega),if_pos (by omega)]
   refine⟨.slice (some ⟨(h.push (.row [iv x] 3 false false)).next,0,none⟩) (l.length+1) AO,((h.push (.row [iv x] 3 false false)).put id .dead).push (.row (ints l++[iv x]) 3 true false),?_,.inr ⟨_,AO,by rw[List.length_append];rfl,?_,?_,.inl ⟨rfl,?_⟩⟩,rfl,by show h.next≤h.next+1+1;omega,fun i hi=>?_⟩
   ·simp only[DL,Tryd.underlying27,C4,J1,HZ,VL,hsrc,hone,hg',hcut,OY]
    rw[if_pos (by simp;omega),if_pos trivial,if_pos trivial,if_pos (by rw[IC,decide_eq_true (show (l.length+1)*8≤140737488355328 by omega),decide_eq_true (show l.length+1≤140737488355328 by omega),decide_eq_true (show h.floor≤id by omega)];rfl),if_neg (by decide),if_pos trivial,if_pos trivial]
   ·show lo≤h.next+1;omega
   ·show h.next+1<h.next+1+1;omega
   ·rw[hi1]
    exact BM
   ·rw[AR (by show i<h.next+1;omega),AV (by show id<h.next+1;omega) (by omega),AR (by omega)]
  ·have hcut:DQ (h.push (.row [iv x] 3 false false)) 1 l.length (qS id l.length l.length)=some (ints l):=by
    by_cases h0:l.length=0
    ·rw[List.length_eq_zero_iff.1 h0]
     rfl
    ·simp only[DQ,AR h2,hg,F1,List.drop_zero]
     rw[if_neg h0,List.take_of_length_le (by omega),if_pos (by omega)]
   refine⟨.slice (some ⟨(h.push (.row [iv x] 3 false false)).next,0,none⟩) (l.length+1) AO,(h.push (.row [iv x] 3 false false)).push (.row (ints l++[iv x]) 3 true false),?_,.inr ⟨_,AO,by rw[List.length_append];rfl,?_,?_,.inl ⟨rfl,?_⟩⟩,rfl,by show h.next≤h.next+1+1;omega,fun i hi=>?_⟩
   ·simp only[DL,Tryd.underlying27,C4,J1,HZ,VL,hsrc,hone,hcut]
    rw[if_pos (by simp),if_pos trivial,if_neg (by unfold AO;omega),if_neg (by omega),if_pos (by simp only[Bool.and_eq_true,decide_eq_true_eq];omega)]
   ·show lo≤h.next+1;omega
   ·show h.next+1<h.next+1+1;omega
   ·rw[hi1]
    exact BM
   ·rw[AR (by show i<h.next+1;omega),AR (by omega)]
theorem qB {n:Nat} {Z L:List AB} {v:Value} {at_:Nat} {x:AB} (ht:CE Z) (hsk:MZ L Z) (hv:A7 h v L) (hx:Z[at_]?=some x) (hlen:L.length<2932031007403) (hn:L.length+10<n) (hN:L.length+3<N) (hfl:h.floor≤h.next) :
  ∃ v' h',A8 Tryd.prog (AS n) N 36 [v,iv at_] h=some (v',h')∧(IK h' h.next v' ((BB (AD Z) x.kids.toNat (at_+1)).map (fun (k:Nat)=>(k:Int)))∧h'.floor=h.floor∧h.next≤h'.next∧∀ i,i<h.next→h'.get i=h.get i):=by
 refine S3 (R:=fun v' h'=>IK h' h.next v' ((BB (AD Z) x.kids.toNat (at_+1)).map (fun (k:Nat)=>(k:Int)))∧h'.floor=h.floor∧h.next≤h'.next∧∀ i,i<h.next→h'.get i=h.get i) Tryd.func36 rfl (by simp[Tryd.f36]) ?_
 have hr:Tryd.f36.results.toList=[.tmp 4]:=rfl
 have hl:=fun (h':AA)=>hv.len (h':=h')
 have hal:=(List.getElem?_eq_some_iff.1 hx).1
 have hZ:=hsk.1
 have hs:=ht.end hal
 obtain⟨x',hx',hk0,_,hch⟩:=hs.kids
 rw[hx] at hx'
 cases hx'
 have hq:=hs.lt
 have hcl:=IF _ _ _ hch
 obtain⟨y,hy,hyk⟩:=hsk.2 _ x hx
 obtain⟨id,p,e0,hid,l0,l1,l2,l3,l4,lr⟩:=hv.row hy
 rw[hyk] at l4
 have c1:decide ((at_:Int)<0)=false:=by simp
 have c2:decide ((at_:Int)≥(L.length:Int))=false:=by simp;omega
 have w1:=EU at_ (by omega)
 simp only[eE,seval,↓eP,rP,hr,c1,hl,c2,w1,e0,l4]
 refine WK.loop (fun i s'=>s'.T.get 0=v∧s'.T.get 21=iv x.kids∧s'.T.get 22=iv i∧i≤x.kids.toNat∧h.next≤s'.h.next∧s'.h.floor=h.floor∧(∀ j,j<h.next→s'.h.get j=h.get j)∧∃ p l w,s'.T.get 6=iv ((p:Nat):Int)∧s'.T.get 5=w∧IK s'.h h.next w (l.map (fun (k:Nat)=>(k:Int)))∧l.length=i∧l++BB (AD Z) (x.kids.toNat-i) p=BB (AD Z) x.kids.toNat (at_+1)∧EH Z (x.kids.toNat-i) p (AD Z at_)) x.kids.toNat (by omega) ?_ ?_
 ·exact⟨by simp only[eE,seval,↓eP,rP],by simp only[eE,seval,↓eP,rP],by simp only[eE,seval,↓eP,rP],by omega,Nat.le_refl _,rfl,fun _ _=>rfl,at_+1,[],Z0,by simp only[eE,seval,↓eP,rP],by simp only[eE,seval,↓eP,rP],.inl ⟨rfl,rfl⟩,rfl,rfl,hch⟩
 rintro i ⟨T1,H1⟩ hi ⟨t0,t21,t22,hil,m1,m2,m3,p,l,w,t6,t5,hL,hll,hlk,hc⟩
 simp only at t0 t21 t22 m1 m2 m3 t6 t5 hL
 by_cases hlt:i<x.kids.toNat
 ·have d1:decide ((i:Int)<x.kids)=true:=by simp;omega
  obtain⟨r,hr1⟩:∃ r,x.kids.toNat-i=r+1:=⟨x.kids.toNat-i-1,by omega⟩
  rw[hr1] at hc hlk
  obtain⟨p',s1,s2,s3,s4⟩:=hc
  have hle:=IF _ _ _ s4
  have d2:decide ((p:Int)≥(L.length:Int))=false:=by simp;omega
  have hep:=ID s1
  obtain⟨w',H',happ,hL',fH,nH,oH⟩:=bR (x:=(p:Int)) hL m1 (by omega) (by rw[List.length_map];omega)
  have hvH:A7 H' v L:=hv.mono (by omega) fun j hj=>(oH j hj).trans (m3 j hj)
  have hend:=Ap (n:=n) hsk hvH s1 (by omega) (by omega)
  have w2:=EU i (by omega)
  simp only[eE,seval,↓eP,t0,t21,t22,t5,t6,d1,hl,d2,NS,happ,hend,w2]
  refine⟨hlt,by omega,by omega,by omega,fun j hj=>(oH j hj).trans (m3 j hj),p',l++[p],w',rfl,rfl,?_,by rw[List.length_append,hll];rfl,?_,?_⟩
  ·rw[List.map_append]
   exact hL'
  ·rw[List.append_assoc,← hlk,show x.kids.toNat-(i+1)=r by omega]
   show l++(p :: BB (AD Z) r p')=l++(p :: BB (AD Z) r (AD Z p))
   rw[hep]
  ·rw[show x.kids.toNat-(i+1)=r by omega]
   exact s4
 ·have d1:decide ((i:Int)<x.kids)=false:=by simp;omega
  rw[show x.kids.toNat-i=0 by omega] at hlk
  have hl9:l=BB (AD Z) x.kids.toNat (at_+1):=by
   rw[← hlk]
   exact(List.append_nil l).symm
  subst hl9
  simp only[eE,seval,↓eP,hr,t0,t21,t22,t5,t6,d1]
  exact⟨hL,m2,m1,m3⟩
theorem IK.flat {lo:Nat} {v:Value} {l:List Int} (hl:IK h lo v l) (hf:EF v=true) (h':AA) (lo':Nat):IK h' lo' v l:=by
 rcases hl with h1 | ⟨id,c,rfl,_⟩
 ·exact .inl h1
 ·cases hf
theorem ZN {n:Nat} {Z L:List AB} {v:Value} {at_:Nat} {x:AB} (ht:CE Z) (hsk:MZ L Z) (hv:A7 h v L) (hx:Z[at_]?=some x) (hlen:L.length<2932031007403) (hn:L.length+20<n) (hfl:h.floor≤h.next) :
  ∃ v' h',AS n 36 [v,iv at_] h=some (v',h')∧(IK h' h.next v' ((BB (AD Z) x.kids.toNat (at_+1)).map (fun (k:Nat)=>(k:Int)))∧h'.floor=h.floor∧h.next≤h'.next∧∀ i,i<h.next→h'.get i=h.get i):=by
 obtain⟨n,rfl⟩:=C_ hn
 exact PN (BT ⟨rfl,rfl,rfl⟩) (qB (n:=n) (N:=n) ht hsk hv hx hlen (by omega) (by omega) hfl) fun v' h1 hf _ ht=>⟨ht.1.flat hf _ _,rfl,Nat.le_refl _,fun _ _=>rfl⟩
end
section
variable {l:List AB} {m:Nat}
theorem bQ {p:Nat} {what:Int} (h:(BE AT l m p what).2=true):∃ y:AB,l[p]?=some y∧BX what y.kind=true∧C8 AT y=true:=by
 cases m with
 | zero=>cases h
 | succ m=>
  unfold BE at h
  cases hx:l[p]? with
  | none=>rw[hx] at h;cases h
  | some y=>
   rw[hx] at h
   simp only at h
   split at h
   ·rename_i hc
    rw[Bool.and_eq_true] at hc
    exact⟨y,rfl,hc.1,hc.2⟩
   ·cases h
theorem cX {κ:Int}:∀ r k p q,D2 (fun k next=>BE AT l m next (BD κ k)) r k p=(q,true)→∀ (j p':Nat),(BB (AD l) r p)[j]?=some p'→∃ y:AB,l[p']?=some y∧BX (BD κ (k+j)) y.kind=true:=by
 intro r
 induction r with
 | zero=>intro k p q _ j p' h;simp[BB] at h
 | succ r ih=>
  intro k p q h j p' hj
  unfold D2 at h
  split at h
  ·rename_i hc
   have he:AD l p=(BE AT l m p (BD κ k)).1:=ID (.inl ⟨m,BD κ k,Prod.ext rfl hc⟩)
   cases j with
   | zero=>
    have:p=p':=by simpa [BB] using hj
    subst this
    obtain⟨y,h1,h2,_⟩:=bQ hc
    exact⟨y,h1,h2⟩
   | succ j=>
    have hj':(BB (AD l) r (AD l p))[j]?=some p':=by simpa [BB] using hj
    rw[he] at hj'
    have:=ih (k+1) _ _ h j p' hj'
    rwa [show k+1+j=k+(j+1) by omega] at this
  ·cases h
theorem Dz:∀ (r:Nat) (ev:Bool) (p q:Nat),DN AT l m r ev p=(q,true)→∀ (j p':Nat),(BB (AD l) r p)[j]?=some p'→∃ y:AB,l[p']?=some y∧2≤y.kind∧y.kind≤10:=by
 intro r
 induction r with
 | zero=>intro k p q _ j p' h;simp[BB] at h
 | succ r ih=>
  intro ev p q h j p' hj
  unfold DN at h
  split at h
  ·rename_i hc
   have he:AD l p=(BE AT l m p (F4 ev l[p]?)).1:=ID (.inl ⟨m,_,Prod.ext rfl hc⟩)
   cases j with
   | zero=>
    have:p=p':=by simpa [BB] using hj
    subst this
    obtain⟨y,h1,h2,_⟩:=bQ hc
    refine⟨y,h1,?_⟩
    unfold F4 at h2
    split at h2
    ·unfold BX at h2
     simp at h2
     omega
    ·unfold BX at h2
     simp at h2
     omega
   | succ j=>
    have hj':(BB (AD l) r (AD l p))[j]?=some p':=by simpa [BB] using hj
    rw[he] at hj'
    exact ih _ _ _ h j p' hj'
  ·cases h
theorem CE.kid {i:Nat} {x:AB} (ht:CE l) (hx:l[i]?=some x) {k p:Nat} (hk:(BB (AD l) x.kids.toNat (i+1))[k]?=some p):∃ y:AB,l[p]?=some y∧(BX (BD x.kind k) y.kind=true∨(2≤y.kind∧y.kind≤10)):=by
 obtain⟨q,hq⟩:∃ q,DM l i q:=⟨_,ht.end (List.getElem?_eq_some_iff.1 hx).1⟩
 rcases hq with⟨m,what,h⟩ | ⟨rfl,m,h⟩
 ·cases m with
  | zero=>cases h
  | succ m=>
   unfold BE at h
   rw[hx] at h
   simp only at h
   split at h
   ·obtain⟨y,h1,h2⟩:=cX _ _ _ _ h k p hk
    rw[Nat.zero_add] at h2
    exact⟨y,h1,.inl h2⟩
   ·cases h
 ·unfold FE at h
  rw[hx] at h
  simp only at h
  split at h
  ·obtain⟨y,h1,h2⟩:=Dz _ _ _ _ h k p hk
   exact⟨y,h1,.inr h2⟩
  ·cases h
theorem CE.fit {i:Nat} {x:AB} (ht:CE l) (hx:l[i]?=some x):C8 AT x=true:=by
 obtain⟨q,hq⟩:∃ q,DM l i q:=⟨_,ht.end (List.getElem?_eq_some_iff.1 hx).1⟩
 rcases hq with⟨m,what,h⟩ | ⟨rfl,m,h⟩
 ·obtain⟨y,h1,_,h3⟩:=bQ (congrArg (·.2) h)
  rw[hx] at h1
  cases h1
  exact h3
 ·unfold FE at h
  rw[hx] at h
  simp only at h
  split at h
  ·rename_i hc
   rw[Bool.and_eq_true] at hc
   exact hc.2
  ·cases h
theorem CE.place {i:Nat} {x y:AB} (ht:CE l) (hx:l[i]?=some x) {k p:Nat} (hk:(BB (AD l) x.kids.toNat (i+1))[k]?=some p) (hy:l[p]?=some y) (hp:y.kind=24):p=i+1∧(x.kind=19∨x.kind=20):=by
 obtain⟨y',h1,h2⟩:=ht.kid hx hk
 rw[hy] at h1
 cases h1
 have hf:=ht.fit hx
 unfold C8 at hf
 simp only[Bool.and_eq_true,decide_eq_true_eq,Bool.or_eq_true] at hf
 obtain⟨⟨_,hl⟩,hm⟩:=hf
 have h19:x.kind=19∨x.kind=20:=by
  rcases h2 with h2 | h2
  ·rw[hp] at h2
   unfold BD at h2
   by_cases e1:x.kind=19
   ·exact .inl e1
   ·by_cases e2:x.kind=20
    ·exact .inr e2
    ·exfalso
     have c6:([19,20]:List Int).contains x.kind=false:=by simp[e1,e2]
     rw[c6] at h2
     (repeat' split at h2) <;> first | (simp[BX] at h2;done) | simp_all [BX]
  ·omega
 have hm1:x.kids≤1:=by
  rcases h19 with e | e <;> (rw[e] at hm;rcases hm with hm | hm <;> simp[CM] at hm <;> omega)
 have hkl:=(List.getElem?_eq_some_iff.1 hk).1
 rw[NE] at hkl
 have hk0:k=0:=by omega
 subst hk0
 obtain⟨r,hr⟩:∃ r,x.kids.toNat=r+1:=⟨x.kids.toNat-1,by omega⟩
 rw[hr] at hk
 have:i+1=p:=by simpa [BB] using hk
 exact⟨this.symm,h19⟩
theorem bZ:∀ (r p q:Nat),EH l r p q→∀ at_,p≤at_→at_<q→∃ (j p':Nat),(BB (AD l) r p)[j]?=some p'∧p≤p'∧p'≤at_∧at_<AD l p':=by
 intro r
 induction r with
 | zero=>intro p q h at_ h1 h2;have:p=q:=h;omega
 | succ r ih=>
  intro p q ⟨p',s1,s2,s3,s4⟩ at_ h1 h2
  have he:=ID s1
  rcases Nat.lt_or_ge at_ p' with h3 | h3
  ·exact⟨0,p,by simp[BB],Nat.le_refl _,h1,by omega⟩
  ·obtain⟨j,p2,j1,j2,j3,j4⟩:=ih p' q s4 at_ h3 h2
   refine⟨j+1,p2,?_,by omega,j3,j4⟩
   show (p :: BB (AD l) r (AD l p))[j+1]?=_
   rw[he]
   exact j1
theorem CE.kidOf (ht:CE l):∀ (n i at_:Nat),at_≤i+n→i<at_→at_<AD l i→i<l.length→∃ (j:Nat) (x:AB) (k:Nat),l[j]?=some x∧j<at_∧(BB (AD l) x.kids.toNat (j+1))[k]?=some at_:=by
 intro n
 induction n with
 | zero=>intro i at_ h1 h2;omega
 | succ n ih=>
  intro i at_ h1 h2 h3 h4
  obtain⟨x,hx,_,_,hc⟩:=(ht.end h4).kids
  obtain⟨j,p,j1,j2,j3,j4⟩:=bZ _ _ _ hc at_ (by omega) h3
  rcases Nat.lt_or_ge p at_ with h5 | h5
  ·have hpl:p<l.length:=by
    obtain⟨y,hy,_⟩:=ht.kid hx j1
    exact(List.getElem?_eq_some_iff.1 hy).1
   exact ih p at_ (by omega) h5 j4 hpl
  ·obtain rfl:p=at_:=by omega
   exact⟨i,x,j,hx,h2,j1⟩
end
def BU (k:Int):Int:=
 if [27,28,31,32,33,34,38,39,40,41,43,44,45,46].contains k then 1 else if [29,30,35,36,37,42,47,48,49,50,51,52,53,54].contains k then 2 else 0
def EO (kind:Int) (k:Nat) (first:Int):Int:=
 if [4,5,14,41,39,40,43,44,45,46,49,50,51,52].contains kind then 1 else if kind=15 then (if k=1 then 1 else 0) else if [6,42,53,54].contains kind then 2
 else if kind=12 then (if k=0 then 2 else 0) else if kind=13 then (if k=0 then 1 else if k=1 then 2 else 0) else if [47,48].contains kind then (if k=1 then first else 0) else 0
def JO (k:Int):Bool:=[28,31,34,35,36,37,38].contains k
def JM (kind:Int) (k:Nat):Bool:=[4,5,6].contains kind||(kind==13&&k==0)
def LJ (Q:List (ByteArray × Bool)) (n:Int):Bool:=((Q[n.toNat]?).map (·.2)).getD false
def IX (Q:List (ByteArray × Bool)) (x up:AB):Bool:=
 if [8,17,20].contains x.kind then LJ Q x.n else if [9,21].contains x.kind then !(LJ Q x.n)
 else if x.kind=24 then (if up.kind=20 then !(LJ Q x.n) else LJ Q x.n != LJ Q up.n) else false
structure GJ where
 A:List Int
 C:List Bool
 U:List Int
def HC (i:Nat) (x:AB) (first:Int) (s:GJ) (k p:Nat):GJ:=⟨s.A.set p (EO x.kind k first),s.C.set p (((s.C[i]?).getD false)||JM x.kind k),s.U.set p (i:Int)⟩
def GI (i:Nat) (x:AB) (first:Int):Nat→List Nat→GJ→GJ
 | _,[],s=>s
 | k,p :: ps,s=>GI i x first (k+1) ps (HC i x first s k p)
def I1 (R:List AB) (e:Nat→Nat) (i:Nat) (s:GJ):GJ:=match R[i]? with
 | none=>s
 | some x=>GI i x (BU (((R[i+1]?).map (·.kind)).getD 0)) 0 (BB e x.kids.toNat (i+1)) s
def BK (R:List AB) (e:Nat→Nat):Nat→GJ
 | 0=>⟨List.replicate R.length 0,List.replicate R.length false,List.replicate R.length 0⟩
 | i+1=>I1 R e i (BK R e i)
def HD (R:List AB) (Q:List (ByteArray × Bool)) (s:GJ) (i:Nat) (x:AB):Int:=
 if ((s.A[i]?).getD 0)≠0∧BU x.kind≠(s.A[i]?).getD 0 then 41 else if ((s.C[i]?).getD false&&JO x.kind)=true then 42
 else if IX Q x ((R[((s.U[i]?).getD 0).toNat]?).getD ⟨0,ByteArray.empty,0,0,0⟩)=true then 46 else 0
def GD (R:List AB) (Q:List (ByteArray × Bool)) (e:Nat→Nat):Nat→Nat→(Int × Int) × List Int
 | 0,_=>((0,0),R.map (BU ·.kind))
 | r+1,i=>match R[i]? with
  | none=>((0,0),R.map (BU ·.kind))
  | some x=>if HD R Q (BK R e i) i x≠0 then ((HD R Q (BK R e i) i x,(i:Int)),[]) else GD R Q e r (i+1)
section
variable {i:Nat} {x:AB} {first:Int}
theorem YS:∀ (ps:List Nat) (k:Nat) (s:GJ),(GI i x first k ps s).A.length=s.A.length∧(GI i x first k ps s).C.length=s.C.length∧(GI i x first k ps s).U.length=s.U.length
 | [],k,s=>⟨rfl,rfl,rfl⟩
 | p :: ps,k,s=>by
  have:=YS ps (k+1) (HC i x first s k p)
  simpa [GI,HC] using this
theorem TM:∀ (ps:List Nat) (k:Nat) (s:GJ) (q:Nat),q∉ps→(GI i x first k ps s).A[q]?=s.A[q]?∧(GI i x first k ps s).C[q]?=s.C[q]?∧(GI i x first k ps s).U[q]?=s.U[q]?
 | [],k,s,q,_=>⟨rfl,rfl,rfl⟩
 | p :: ps,k,s,q,h=>by
  have h1:q≠p:=fun e=>h (by rw[e];exact List.mem_cons_self)
  have h2:q∉ps:=fun e=>h (List.mem_cons_of_mem _ e)
  obtain⟨a,b,c⟩:=TM ps (k+1) (HC i x first s k p) q h2
  refine⟨a.trans ?_,b.trans ?_,c.trans ?_⟩
  ·exact List.getElem?_set_ne (Ne.symm h1)
  ·exact List.getElem?_set_ne (Ne.symm h1)
  ·exact List.getElem?_set_ne (Ne.symm h1)
theorem oT:∀ (ps:List Nat) (k:Nat) (s:GJ) (q:Nat),q∈ps→q<s.U.length→(GI i x first k ps s).U[q]?=some (i:Int)
 | [],k,s,q,h,_=>by cases h
 | p :: ps,k,s,q,h,hq=>by
  by_cases h2:q∈ps
  ·exact oT ps (k+1) (HC i x first s k p) q h2 (by simpa [HC] using hq)
  ·have h1:q=p:=by
    rcases List.mem_cons.1 h with h | h
    ·exact h
    ·exact absurd h h2
   subst h1
   exact(TM ps (k+1) (HC i x first s k q) q h2).2.2.trans (List.getElem?_set_self hq)
end
theorem QL {l:List AB}:∀ r p q,EH l r p q→∀ z∈BB (AD l) r p,p≤z
 | 0,p,q,_,z,hz=>by cases hz
 | r+1,p,q,⟨p',s1,s2,s3,s4⟩,z,hz=>by
  have hz':z=p∨z∈BB (AD l) r (AD l p):=by simpa [BB] using hz
  rcases hz' with rfl | hz'
  ·exact Nat.le_refl _
  ·rw[ID s1] at hz'
   have:=QL r p' q s4 z hz'
   omega
section
variable {R:List AB}
theorem S9 (e:Nat→Nat):∀ i,(BK R e i).A.length=R.length∧(BK R e i).C.length=R.length∧(BK R e i).U.length=R.length
 | 0=>by simp[BK]
 | i+1=>by
  have h:=S9 e i
  unfold BK I1
  cases hx:R[i]? with
  | none=>exact h
  | some x=>
   have:=YS (i:=i) (x:=x) (first:=BU (((R[i+1]?).map (·.kind)).getD 0)) (BB e x.kids.toNat (i+1)) 0 (BK R e i)
   exact⟨this.1.trans h.1,this.2.1.trans h.2.1,this.2.2.trans h.2.2⟩
theorem Db (ht:CE R) {at_:Nat} {y:AB} (hy:R[at_]?=some y) (h24:y.kind=24) (h0:0<at_):(BK R (AD R) at_).U[at_]?=some ((at_-1:Nat):Int):=by
 have hl:=(List.getElem?_eq_some_iff.1 hy).1
 have h0l:AD R 0=R.length:=ID ht
 obtain⟨j,x,k,hx,hj,hk⟩:=ht.kidOf at_ 0 at_ (by omega) h0 (by omega) (by omega)
 obtain⟨hp,_⟩:=ht.place hx hk hy h24
 obtain⟨i,rfl⟩:∃ i,at_=i+1:=⟨at_-1,by omega⟩
 obtain rfl:j=i:=by omega
 rw[Nat.add_sub_cancel]
 unfold BK I1
 rw[hx]
 exact oT _ 0 _ _ (List.mem_of_getElem? hk) (by rw[(S9 (AD R) j).2.2];exact hl)
end
def N2 (s:AN) (k n:Int) (nm:ByteArray):Prop:=
 0≤n∧((k=1∧∃ b,s.queues[n.toNat]?=some (nm,b))∨(k=2∧s.vars[n.toNat]?=some nm)∨(k=3∧s.tags[n.toNat]?=some nm)∨(k=4∧∃ ru:Nat,s.rules[n.toNat]?=some ((ru:Int)+1)∧∃ y:AB,s.rows[ru]?=some y∧y.name=nm))
structure O2 (s s':AN):Prop where
 q:∀ (i:Nat) x,s.queues[i]?=some x→s'.queues[i]?=some x
 v:∀ (i:Nat) x,s.vars[i]?=some x→s'.vars[i]?=some x
 t:∀ (i:Nat) x,s.tags[i]?=some x→s'.tags[i]?=some x
 u:∀ (i:Nat) x,s.rules[i]?=some x→s'.rules[i]?=some x
 r:∀ (i:Nat) (y:AB),s.rows[i]?=some y→∃ y':AB,s'.rows[i]?=some y'∧y'.name=y.name
theorem N2.up {s s':AN} {k n:Int} {nm:ByteArray} (h:N2 s k n nm) (hu:O2 s s'):N2 s' k n nm:=by
 refine⟨h.1,?_⟩
 rcases h.2 with⟨h1,b,h2⟩ | ⟨h1,h2⟩ | ⟨h1,h2⟩ | ⟨h1,ru,h2,y,h3,h4⟩
 ·exact .inl ⟨h1,b,hu.q _ _ h2⟩
 ·exact .inr (.inl ⟨h1,hu.v _ _ h2⟩)
 ·exact .inr (.inr (.inl ⟨h1,hu.t _ _ h2⟩))
 ·obtain⟨y',h5,h6⟩:=hu.r _ _ h3
  exact .inr (.inr (.inr ⟨h1,ru,hu.u _ _ h2,y',h5,h6.trans h4⟩))
theorem W7 {α:Type} {l:List α} {i:Nat} {x y:α} (h:l[i]?=some x):(l++[y])[i]?=some x:=by rw[List.getElem?_append_left (List.getElem?_eq_some_iff.1 h).1];exact h
theorem kH {l:List AB} {k i:Nat} {n:Int} {y:AB} (h:l[i]?=some y):∃ y':AB,(GT l k n)[i]?=some y'∧y'.name=y.name:=by
 by_cases hi:i=k
 ·subst hi
  exact⟨_,JV h,rfl⟩
 ·exact⟨y,(NR hi).trans h,rfl⟩
theorem mX {k:Int} (h:DZ k≠0):BS k=0:=by
 unfold BS
 unfold DZ at h
 split
 ·rename_i h1
  simp only[List.contains_cons,List.contains_nil,Bool.or_false,Bool.or_eq_true,beq_iff_eq] at h1
  rcases h1 with rfl | rfl <;> exact absurd rfl h
 split
 ·subst k;exact absurd rfl h
 split
 ·subst k;exact absurd rfl h
 split
 ·subst k;exact absurd rfl h
 rfl
def KP (k:Int):Int:=DZ k+BS k
theorem Bw {k:Int} (h:KP k=0):DZ k=0∧BS k=0:=by
 have:=iG k
 have:=QU k
 unfold KP at h
 omega
structure KR (l:List AB) (at_:Nat) (s:AN):Prop where
 rows:∀ (i:Nat) (x:AB),i<at_→s.rows[i]?=some x→(KP x.kind=0→l[i]?=some x)∧(KP x.kind≠0→N2 s (KP x.kind) x.n x.name)
 things:∀ t∈s.things,N2 s t.kind t.num t.name
theorem KR.up {l:List AB} {at_:Nat} {s s':AN} (h:KR l at_ s) (hu:O2 s s') (hr:∀ i,i<at_→s'.rows[i]?=s.rows[i]?) (ht:∀ t∈s'.things,t∈s.things∨N2 s' t.kind t.num t.name):KR l at_ s' where
 rows:=fun i x hi hx=>by
  rw[hr i hi] at hx
  obtain⟨h1,h2⟩:=h.rows i x hi hx
  exact⟨h1,fun h3=>(h2 h3).up hu⟩
 things:=fun t h1=>by
  rcases ht t h1 with h2 | h2
  ·exact(h.things t h2).up hu
  ·exact h2
theorem uY {at_:Nat} {end_:Int} {x:AB} {s:AN}:O2 s (EK at_ end_ x s) where
 q:=fun i y h=>by simp only[EK];split;(first | exact W7 h | exact h);exact h
 v:=fun i y h=>by simp only[EK];split;(first | exact W7 h | exact h);exact h
 t:=fun i y h=>by simp only[EK];split;(first | exact W7 h | exact h);exact h
 u:=fun i y h=>by simp only[EK];split;(first | exact W7 h | exact h);exact h
 r:=fun i y h=>kH h
theorem qF (s:AN):O2 s s:=⟨fun _ _ h=>h,fun _ _ h=>h,fun _ _ h=>h,fun _ _ h=>h,fun _ y h=>⟨y,h,rfl⟩⟩
theorem WE {α:Type} (l:List α) (y:α):(l++[y])[l.length]?=some y:=by simp
theorem uX {at_:Nat} {end_:Int} {x:AB} {s:AN} (hx:s.rows[at_]?=some x) (hd:BS x.kind≠0):N2 (EK at_ end_ x s) (BS x.kind) (BO s (BS x.kind)) x.name:=by
 have hk:=QU x.kind
 refine⟨by omega,?_⟩
 rw[Int.toNat_natCast]
 have hc:BS x.kind=1∨BS x.kind=2∨BS x.kind=3∨BS x.kind=4:=by omega
 rcases hc with e | e | e | e
 ·refine .inl ⟨e,x.kind==3,?_⟩
  simp only[EK,BO,e]
  exact WE _ _
 ·refine .inr (.inl ⟨e,?_⟩)
  simp only[EK,BO,e]
  exact WE _ _
 ·refine .inr (.inr (.inl ⟨e,?_⟩))
  simp only[EK,BO,e]
  exact WE _ _
 ·refine .inr (.inr (.inr ⟨e,at_,?_,_,JV hx,rfl⟩))
  simp only[EK,BO,e]
  exact WE _ _
theorem vM {l:List AB} {at_:Nat} {end_:Int} {x:AB} {s:AN} (h:KR l at_ s) (hx:s.rows[at_]?=some x) :
  KR l at_ (BN at_ end_ x s)∧∃ n,(BN at_ end_ x s).rows[at_]?=some { x with n:=n }∧(BS x.kind=0→n=x.n)∧(BS x.kind≠0→N2 (BN at_ end_ x s) (BS x.kind) n x.name):=by
 unfold BN
 by_cases d0:BS x.kind=0
 ·rw[if_pos d0]
  exact⟨h,x.n,hx,fun _=>rfl,fun h1=>absurd d0 h1⟩
 ·rw[if_neg d0]
  have hs:=uX (end_:=end_) hx d0
  refine⟨h.up uY (fun i hi=>NR (by omega)) fun t ht=>?_,_,JV hx,fun h1=>absurd h1 d0,fun _=>hs⟩
  simp only[EK,List.mem_append,List.mem_cons,List.not_mem_nil,or_false] at ht
  rcases ht with h1 | rfl
  ·exact .inl h1
  ·exact .inr hs
theorem w_ {l:List AB} {at_:Nat} {x:AB} {s:AN} (h:KR l at_ s) (hx:s.rows[at_]?=some x) (hc:DJ at_ x s=0) :
  KR l at_ (B7 at_ x s)∧O2 s (B7 at_ x s)∧∃ n,(B7 at_ x s).rows[at_]?=some { x with n:=n }∧(DZ x.kind=0→n=x.n)∧(DZ x.kind≠0→N2 (B7 at_ x s) (DZ x.kind) n x.name):=by
 unfold B7
 unfold DJ at hc
 by_cases d0:DZ x.kind=0
 ·rw[if_pos d0]
  exact⟨h,qF s,x.n,hx,fun _=>rfl,fun h1=>absurd d0 h1⟩
 ·rw [if_neg d0] at hc ⊢
  cases hf:FQ s.things x.name with
  | none=>simp only[hf] at hc;cases hc
  | some t=>
   simp only[hf] at hc ⊢
   have hk:t.kind=DZ x.kind:=by
    split at hc
    ·cases hc
    ·split at hc
     ·cases hc
     ·rename_i h;simpa using h
   have hnm:t.name=x.name:=by
    have:=List.find?_some hf
    exact(MF this).symm
   have hu:O2 s { s with rows:=GT s.rows at_ t.num }:=⟨fun _ _ h=>h,fun _ _ h=>h,fun _ _ h=>h,fun _ _ h=>h,fun _ y h=>kH h⟩
   have hs:=(h.things t (ZA hf)).up hu
   rw[hk,hnm] at hs
   exact⟨h.up hu (fun i hi=>NR (by omega)) fun t ht=>.inl ht,hu,_,JV hx,fun h1=>absurd h1 d0,fun _=>hs⟩
theorem Al {l:List AB} {E:List Int} {at_:Nat} {s:AN} (hat:at_<l.length) (hi:HG l at_ s) (h:KR l at_ s) (h0:(FU E at_ s).1=0):KR l (at_+1) (FU E at_ s).2:=by
 obtain⟨x,hx⟩:∃ x,s.rows[at_]?=some x:=⟨_,List.getElem?_eq_getElem (by rw[hi.len];exact hat)⟩
 have hxl:l[at_]?=some x:=by rw[← hi.later at_ (Nat.le_refl _)];exact hx
 unfold FU at h0 ⊢
 rw[hx] at h0 ⊢
 simp only at h0 ⊢
 by_cases hd:ET x s=0
 case neg=>rw[if_pos hd] at h0;exact absurd h0 hd
 rw[if_neg (by simpa using hd)] at h0 ⊢
 obtain⟨t1,k1,r1,a1,b1⟩:=vM (end_:=(E[at_]?).getD 0) h hx
 generalize BN at_ ((E[at_]?).getD 0) x s=s1 at *
 rw[r1] at h0 ⊢
 simp only at h0 ⊢
 by_cases hc:DJ at_ { x with n:=k1 } s1=0
 case neg=>rw[if_pos hc] at h0;exact absurd h0 hc
 rw[if_neg (by simpa using hc)] at h0 ⊢
 obtain⟨t2,u2,k2,r2,a2,b2⟩:=w_ t1 r1 hc
 simp only at r2 a2 b2
 generalize B7 at_ { x with n:=k1 } s1=s2 at *
 rw[r2] at h0 ⊢
 simp only at h0 ⊢
 by_cases hv:EX { x with n:=k2 } s2=0
 case neg=>rw[if_pos hv] at h0;exact absurd h0 hv
 rw[if_neg (by simpa using hv)] at h0 ⊢
 have hev:(EG at_ { x with n:=k2 } s2).queues=s2.queues∧(EG at_ { x with n:=k2 } s2).vars=s2.vars∧(EG at_ { x with n:=k2 } s2).tags=s2.tags∧(EG at_ { x with n:=k2 } s2).rules=s2.rules∧(EG at_ { x with n:=k2 } s2).rows=s2.rows∧(EG at_ { x with n:=k2 } s2).things=s2.things:=by
  unfold EG
  split
  ·exact⟨rfl,rfl,rfl,rfl,rfl,rfl⟩
  ·split <;> exact⟨rfl,rfl,rfl,rfl,rfl,rfl⟩
 obtain⟨e1,e2,e3,e4,e5,e6⟩:=hev
 generalize EG at_ { x with n:=k2 } s2=s3 at *
 have hu3:O2 s2 s3:=⟨fun i y h=>by rw[e1];exact h,fun i y h=>by rw[e2];exact h,fun i y h=>by rw[e3];exact h,fun i y h=>by rw[e4];exact h,fun i y h=>⟨y,by rw[e5];exact h,rfl⟩⟩
 have t3:KR l at_ s3:=t2.up hu3 (fun i _=>by rw[e5]) fun t ht=>.inl (by rw[← e6];exact ht)
 refine⟨fun i y hi' hy=>?_,t3.things⟩
 by_cases hia:i=at_
 ·subst hia
  rw[e5,r2] at hy
  cases hy
  simp only
  refine⟨fun h1=>?_,fun h1=>?_⟩
  ·obtain⟨h2,h3⟩:=Bw h1
   rw[a2 h2,a1 h3]
   exact hxl
  ·by_cases c0:DZ x.kind=0
   ·have d0:BS x.kind≠0:=fun h2=>h1 (by unfold KP;omega)
    rw[show KP x.kind=BS x.kind by unfold KP;omega,a2 c0]
    exact((b1 d0).up u2).up hu3
   ·rw[show KP x.kind=DZ x.kind by unfold KP;rw[mX c0];omega]
    exact(b2 c0).up hu3
 ·exact t3.rows i y (by omega) hy
theorem kB {l:List AB} {E:List Int} (ht:CE l) (hE:∀ i:Nat,0≤(E[i]?).getD 0):∀ r at_ s,at_+r=l.length→HG l at_ s→KR l at_ s→(DW E r at_ s).1=0→KR l l.length (DW E r at_ s).2.2
 | 0,at_,s,hr,hi,h,_=>by
  have:at_=l.length:=by omega
  subst this
  exact h
 | r+1,at_,s,hr,hi,h,h0=>by
  unfold DW at h0 ⊢
  by_cases h9:(FU E at_ s).1=0
  ·rw[if_neg (by simpa using h9)] at h0 ⊢
   exact kB ht hE r (at_+1) _ (by omega) (U3 ht (hE at_) (by omega) hi h9) (Al (by omega) hi h h9) h0
  ·rw[if_pos h9] at h0
   exact absurd h0 h9
theorem fT {l:List AB} (h:(BZ l).1.1=0):KR l l.length (BZ l).2:=by
 obtain⟨ht,_,hg,_,he,_⟩:=RR h
 rw[he]
 exact kB ht UQ l.length 0 (CI l) (by omega) (YM l) ⟨fun i x hi=>by omega,fun t ht=>by simp[CI] at ht⟩ hg
theorem Gk {x:AB} (h:C8 AT x=true):(x.kind≠27→x.n=0)∧0≤x.n:=by
 unfold C8 at h
 simp only[Bool.and_eq_true,Bool.or_eq_true,beq_iff_eq,decide_eq_true_eq] at h
 obtain⟨⟨⟨⟨⟨_,_⟩,_⟩,h1⟩,_⟩,_⟩:=h
 rcases h1 with h1 | ⟨⟨h1,h2⟩,_⟩
 ·exact⟨fun _=>h1,by omega⟩
 ·exact⟨fun h3=>absurd h1 h3,by omega⟩
theorem l_ {l:List AB} (h:(BZ l).1.1=0):BC (BZ l).2.rows=l:=by
 have hm:=fT h
 obtain⟨ht,_,_,_,_,hi⟩:=RR h
 apply List.ext_getElem?
 intro i
 rw[BC,List.getElem?_map]
 rcases Nat.lt_or_ge i l.length with h1 | h1
 ·obtain⟨x,hx⟩:∃ x,(BZ l).2.rows[i]?=some x:=⟨_,List.getElem?_eq_getElem (by rw[hi.len];exact h1)⟩
  obtain⟨y,hy,hxy⟩:=hi.same i x hx
  rw[hx,hy]
  simp only[Option.map_some,Option.some.injEq]
  have hkind:x.kind=y.kind:=by rw[hxy]
  unfold K4
  by_cases h27:x.kind=27
  ·rw[if_neg (by simpa using h27)]
   have:=(hm.rows i x h1 hx).1 (by rw[h27];rfl)
   rw[hy] at this
   exact(Option.some.inj this).symm
  ·rw[if_pos h27,hxy]
   have:=(Gk (ht.row hy).1).1 (by rw[← hkind];exact h27)
   show { y with n:=0 }=y
   rw[← this]
 ·rw[List.getElem?_eq_none (by rw[hi.len];exact h1),List.getElem?_eq_none h1]
  rfl
theorem zW {l:List AB} (h:(BZ l).1.1=0):W8 (L4 l) (BZ l).2:=by
 unfold W8
 rw[l_ h,S1 h]
 exact⟨h,sK _ _⟩
theorem Fo {l:List AB} (h:(BZ l).1.1=0):FF (L4 l) (BZ l).2=0:=if_pos (zW h)
def Y1 (L Z:List AB):Prop:=∀ (i:Nat) (z:AB),Z[i]?=some z→∃ x:AB,L[i]?=some x∧x.kind=z.kind
structure DB (Z:List AB) (s:AN):Prop where
 t:CE Z
 sk:MZ s.rows Z
 kk:Y1 s.rows Z
 ks:∀ (i:Nat) (x:AB),s.rows[i]?=some x→1≤x.kind∧x.kind≤54
 qn:∀ (i:Nat) (x:AB),s.rows[i]?=some x→DZ x.kind=1→0≤x.n∧x.n<s.queues.length
 root:∃ z:AB,Z[0]?=some z∧z.kind=1
 num:∀ (i:Nat) (x:AB),s.rows[i]?=some x→x.kind=27→0≤x.n∧x.n≤1073741824
theorem iM (x:AB):(K4 x).kind=x.kind∧(K4 x).kids=x.kids:=by unfold K4;split <;> exact⟨rfl,rfl⟩
theorem dJ {l:List AB} {i:Nat} {z:AB} (h:(BC l)[i]?=some z):∃ x,l[i]?=some x∧z=K4 x:=by
 unfold BC at h
 rw[List.getElem?_map] at h
 cases hx:l[i]? with
 | none=>rw[hx] at h;cases h
 | some x=>rw[hx] at h;cases h;exact⟨x,rfl,rfl⟩
theorem yJ {l:List AB} (h:IJ AT l=none):∃ z:AB,l[0]?=some z∧z.kind=1:=by
 unfold IJ at h
 split at h
 ·rename_i hc
  have h1:=hc.1
  unfold FE at h1
  cases hx:l[0]? with
  | none=>rw[hx] at h1;cases h1
  | some x=>
   rw[hx] at h1
   simp only at h1
   split at h1
   ·rename_i h2
    rw[Bool.and_eq_true] at h2
    exact⟨x,rfl,by have:=h2.1;simp[BX] at this;exact this⟩
   ·cases h1
 ·cases h
theorem Hg {l:List AB} (h:(CQ l).1=0):∃ z:AB,l[0]?=some z∧z.kind=1:=by
 unfold CQ at h
 cases hs:IJ AT l with
 | none=>exact yJ hs
 | some p=>rw[hs] at h;cases h
theorem YC {nm:ByteArray} {s:AN} (h:FF nm s=0):DB (BC s.rows) s:=by
 have hm:W8 nm s:=by
  unfold FF at h
  split at h
  ·assumption
  ·cases h
 obtain⟨hok,hsame⟩:=hm
 rw[S1 hok] at hsame
 obtain⟨_,e1,e2,e3,e4,e5,e6,e7⟩:=hsame
 simp only at e1 e2 e3 e4 e5 e6 e7
 obtain⟨ht,hck,hgo,_,hres,hi⟩:=RR hok
 have hzl:(BC s.rows).length=s.rows.length:=by unfold BC;rw[List.length_map]
 have hT:=fT hok
 have hkinds:=ZZ ht hi
 generalize (BZ (BC s.rows)).2=s' at *
 have hlt:∀ (i:Nat) (x:AB),s.rows[i]?=some x→i<(BC s.rows).length:=fun i x hx=>by
  have:=(List.getElem?_eq_some_iff.1 hx).1
  omega
 refine⟨ht,⟨hzl.symm,fun i z hz=>?_⟩,fun i z hz=>?_,fun i x hx=>?_,fun i x hx hc=>?_,Hg hck,fun i x hx hk=>?_⟩
 ·obtain⟨x,hx,rfl⟩:=dJ hz
  exact⟨x,hx,(iM x).2.symm⟩
 ·obtain⟨x,hx,rfl⟩:=dJ hz
  exact⟨x,hx,(iM x).1.symm⟩
 ·rw[e2] at hx
  exact hkinds x (List.mem_of_getElem? hx)
 ·have hl:=hlt i x hx
  rw[e2] at hx
  have hd:=mX (k:=x.kind) (by rw[hc];decide)
  have hs:KP x.kind=1:=by unfold KP;omega
  have:=(hT.rows i x (by omega) hx).2 (by rw[hs];decide)
  rw[hs] at this
  obtain⟨h0,h2⟩:=this
  rcases h2 with⟨_,b,h2⟩ | ⟨h3,_⟩ | ⟨h3,_⟩ | ⟨h3,_⟩
  ·have:=(List.getElem?_eq_some_iff.1 h2).1
   rw[e3]
   omega
  ·omega
  ·omega
  ·omega
 ·have hl:=hlt i x hx
  rw[e2] at hx
  have hz:=(hT.rows i x (by omega) hx).1 (by rw[hk];rfl)
  have hf:=ht.fit hz
  unfold C8 at hf
  simp only[Bool.and_eq_true,Bool.or_eq_true,decide_eq_true_eq,beq_iff_eq] at hf
  obtain⟨⟨⟨_,h1⟩,_⟩,_⟩:=hf
  rcases h1 with h1 | ⟨⟨_,h1⟩,h2⟩
  ·omega
  ·omega
section
variable {R Z:List AB} {e:Nat→Nat}
theorem XL (hk:Y1 R Z) (hs:MZ R Z) (i:Nat):(R[i]?).map (fun x=>(x.kind,x.kids))=(Z[i]?).map (fun x=>(x.kind,x.kids)):=by
 cases hz:Z[i]? with
 | none=>
  have h1:=hs.1
  have:R[i]?=none:=List.getElem?_eq_none (by have:=List.getElem?_eq_none_iff.1 hz;omega)
  rw[this]
 | some z=>
  obtain⟨x,hx,h1⟩:=hk i z hz
  obtain⟨y,hy,h2⟩:=hs.2 i z hz
  rw[hx] at hy
  cases hy
  rw[hx]
  simp[h1,h2]
theorem dZ {i:Nat} {x y:AB} {first:Int} (h:x.kind=y.kind):∀ (ps:List Nat) (k:Nat) (s:GJ),GI i x first k ps s=GI i y first k ps s
 | [],k,s=>rfl
 | p :: ps,k,s=>by
  show GI i x first (k+1) ps (HC i x first s k p)=GI i y first (k+1) ps (HC i y first s k p)
  have:HC i x first s k p=HC i y first s k p:=by unfold HC;rw[h]
  rw[this]
  exact dZ h ps (k+1) _
theorem R4 (hk:Y1 R Z) (hs:MZ R Z):∀ i,BK R e i=BK Z e i
 | 0=>by
  show (⟨_,_,_⟩:GJ)=⟨_,_,_⟩
  rw[hs.1]
 | i+1=>by
  show I1 R e i (BK R e i)=I1 Z e i (BK Z e i)
  rw[R4 hk hs i]
  unfold I1
  have h1:=XL hk hs i
  have h2:=XL hk hs (i+1)
  have h3:(R[i+1]?).map (·.kind)=(Z[i+1]?).map (·.kind):=by
   cases hR:R[i+1]? <;> cases hZ:Z[i+1]? <;> rw[hR,hZ] at h2 <;> simp_all
  cases hR:R[i]? with
  | none=>
   cases hZ:Z[i]? with
   | none=>rfl
   | some z=>rw[hR,hZ] at h1;cases h1
  | some x=>
   cases hZ:Z[i]? with
   | none=>rw[hR,hZ] at h1;cases h1
   | some z=>
    rw[hR,hZ] at h1
    simp only[Option.map_some,Option.some.injEq,Prod.mk.injEq] at h1
    simp only
    rw[h3,h1.2]
    exact dZ h1.1 _ _ _
theorem mT {i:Nat} {x:AB} {first:Int}:∀ (ps:List Nat) (k q:Nat) (s:GJ) (p:Nat),ps[q]?=some p→GI i x first k (ps.take (q+1)) s=HC i x first (GI i x first k (ps.take q) s) (k+q) p
 | [],k,q,s,p,h=>by simp at h
 | a :: ps,k,0,s,p,h=>by
  cases h
  rfl
 | a :: ps,k,q+1,s,p,h=>by
  have h':ps[q]?=some p:=by simpa using h
  have:=mT (i:=i) (x:=x) (first:=first) ps (k+1) q (HC i x first s k a) p h'
  rw[show k+1+q=k+(q+1) by omega] at this
  exact this
theorem eJ {i m:Nat} {x:AB} {first:Int} (hi:i<m):∀ (ps:List Nat) (k:Nat) (s:GJ),(∀ v∈s.U,0≤v∧v<(m:Int))→∀ v∈(GI i x first k ps s).U,0≤v∧v<(m:Int)
 | [],k,s,h=>h
 | p :: ps,k,s,h=>eJ hi ps (k+1) _ fun v hv=>by
  have hv':v∈s.U.set p (i:Int):=hv
  rcases List.mem_or_eq_of_mem_set hv' with h1 | h1
  ·exact h v h1
  ·omega
theorem gW {m:Nat} (hm:R.length=m) (h0:0<m):∀ i,i≤m→∀ v∈(BK R e i).U,0≤v∧v<(m:Int)
 | 0,_,v,hv=>by
  have:v=0:=(List.mem_replicate.1 hv).2
  omega
 | i+1,hi,v,hv=>by
  have ih:=gW hm h0 i (by omega)
  have hv':v∈(I1 R e i (BK R e i)).U:=hv
  unfold I1 at hv'
  split at hv'
  ·exact ih v hv'
  ·exact eJ (by omega) _ _ _ ih v hv'
end
section
variable {Z:List AB} {s:AN}
theorem DB.z (hG:DB Z s) {i:Nat} {x:AB} (hx:s.rows[i]?=some x):∃ z:AB,Z[i]?=some z∧x.kind=z.kind∧x.kids=z.kids:=by
 have hl:=(List.getElem?_eq_some_iff.1 hx).1
 have h1:=hG.sk.1
 obtain⟨z,hz⟩:∃ z,Z[i]?=some z:=⟨_,List.getElem?_eq_getElem (by omega)⟩
 obtain⟨a,ha,h2⟩:=hG.kk i z hz
 obtain⟨b,hb,h3⟩:=hG.sk.2 i z hz
 rw[hx] at ha hb
 cases ha
 cases hb
 exact⟨z,hz,h2,h3⟩
theorem DB.most (hG:DB Z s) {i:Nat} {x:AB} (hx:s.rows[i]?=some x):([12,13].contains x.kind=true→x.kids≤3)∧([15,47,48].contains x.kind=true→x.kids≤2):=by
 obtain⟨z,hz,h1,h2⟩:=hG.z hx
 have hf:=hG.t.fit hz
 unfold C8 at hf
 simp only[Bool.and_eq_true,decide_eq_true_eq,Bool.or_eq_true] at hf
 obtain⟨_,hm⟩:=hf
 rw[← h1,← h2] at hm
 refine⟨fun h=>?_,fun h=>?_⟩
 ·simp only[List.contains_cons,List.contains_nil,Bool.or_false,Bool.or_eq_true,beq_iff_eq] at h
  rcases h with h | h <;> (rw[h] at hm;rcases hm with hm | hm <;> simp[CM] at hm <;> omega)
 ·simp only[List.contains_cons,List.contains_nil,Bool.or_false,Bool.or_eq_true,beq_iff_eq] at h
  rcases h with h | h | h <;> (rw[h] at hm;rcases hm with hm | hm <;> simp[CM] at hm <;> omega)
theorem DB.kids0 (hG:DB Z s) {i:Nat} {x:AB} (hx:s.rows[i]?=some x):0≤x.kids∧EH Z x.kids.toNat (i+1) (AD Z i)∧AD Z i≤s.rows.length∧i<AD Z i:=by
 obtain⟨z,hz,h1,h2⟩:=hG.z hx
 have hs:=hG.t.end (List.getElem?_eq_some_iff.1 hz).1
 obtain⟨y,hy,h3,_,h4⟩:=hs.kids
 rw[hz] at hy
 cases hy
 rw[h2]
 have:=hs.lt
 have:=hG.sk.1
 exact⟨h3,h4,by omega,by omega⟩
theorem DB.kid (hG:DB Z s) {i k p:Nat} {x:AB} (hx:s.rows[i]?=some x) (hk:(BB (AD Z) x.kids.toNat (i+1))[k]?=some p):i<p∧p<s.rows.length:=by
 obtain⟨z,hz,h1,h2⟩:=hG.z hx
 obtain⟨_,hc,_⟩:=hG.kids0 hx
 have hge:=QL _ _ _ hc p (List.mem_of_getElem? hk)
 rw[h2] at hk
 obtain⟨y,hy,_⟩:=hG.t.kid hz hk
 have:=(List.getElem?_eq_some_iff.1 hy).1
 have:=hG.sk.1
 omega
theorem DB.next (hG:DB Z s) {i:Nat} {x:AB} (hx:s.rows[i]?=some x) (h:0<x.kids):i+1<s.rows.length:=by
 obtain⟨r,hr⟩:∃ r,x.kids.toNat=r+1:=⟨x.kids.toNat-1,by omega⟩
 exact(hG.kid (k:=0) (p:=i+1) hx (by rw[hr];rfl)).2
theorem DB.place (hG:DB Z s) {i:Nat} {x:AB} (hx:s.rows[i]?=some x) (h24:x.kind=24):0<i∧∃ up:AB,s.rows[i-1]?=some up∧(BK s.rows (AD Z) i).U[i]?=some ((i-1:Nat):Int)∧(up.kind≠20→0≤up.n∧up.n<s.queues.length):=by
 obtain⟨z,hz,h1,h2⟩:=hG.z hx
 have hl:=(List.getElem?_eq_some_iff.1 hz).1
 have hsl:=hG.sk.1
 have h0:0<i:=by
  rcases Nat.eq_zero_or_pos i with h | h
  ·subst h
   obtain⟨r,hr,h3⟩:=hG.root
   rw[hz] at hr
   cases hr
   omega
  ·exact h
 have h0l:AD Z 0=Z.length:=ID hG.t
 obtain⟨j,y,k,hy,hj,hk⟩:=hG.t.kidOf i 0 i (by omega) h0 (by omega) (by omega)
 obtain⟨hp,h19⟩:=hG.t.place hy hk hz (by omega)
 obtain⟨up,hup⟩:∃ up,s.rows[i-1]?=some up:=⟨_,List.getElem?_eq_getElem (by omega)⟩
 obtain⟨w,hw,h5,_⟩:=hG.z hup
 have:i-1=j:=by omega
 rw[this,hy] at hw
 cases hw
 refine⟨h0,up,hup,?_,fun h20=>hG.qn _ up hup ?_⟩
 ·rw[R4 hG.kk hG.sk]
  exact Db hG.t hz (by omega) h0
 ·rcases h19 with h | h
  ·rw[h5,h];rfl
  ·exact absurd (h5.trans h) h20
theorem zY {k:Int} (h:[8,17,20,9,21,24].contains k=true):DZ k=1:=by
 simp only[List.contains_cons,List.contains_nil,Bool.or_false,Bool.or_eq_true,beq_iff_eq] at h
 rcases h with h | h | h | h | h | h <;> (rw[h];rfl)
end
section
variable {R:List AB} {Q:List (ByteArray × Bool)} {e:Nat→Nat} {r i:Nat} {x:AB}
theorem dY (hx:R[i]?=some x) {b:Int} (hb:HD R Q (BK R e i) i x=b) (h0:b≠0):GD R Q e (r+1) i=((b,(i:Int)),[]):=by
 unfold GD
 rw[hx]
 simp only
 rw[hb,if_pos h0]
theorem lM (hx:R[i]?=some x) (hb:HD R Q (BK R e i) i x=0):GD R Q e (r+1) i=GD R Q e r (i+1):=by
 conv=>lhs;unfold GD
 rw[hx]
 simp only
 rw[hb,if_neg (by decide)]
variable {M:GJ} {a u:Int} {c:Bool} {up:AB}
theorem SY (hA:M.A[i]?=some a) (h0:a≠0) (h1:BU x.kind≠a):HD R Q M i x=41:=by
 unfold HD
 rw[hA,if_pos ⟨h0,h1⟩]
theorem W4 (hA:M.A[i]?=some a) (h0:¬(a≠0∧BU x.kind≠a)) (hC:M.C[i]?=some true) (hv:JO x.kind=true):HD R Q M i x=42:=by
 unfold HD
 rw[hA,if_neg (by simpa using h0),hC,if_pos (by simp[hv])]
theorem iX (hA:M.A[i]?=some a) (h0:¬(a≠0∧BU x.kind≠a)) (hC:M.C[i]?=some c) (hv:(c&&JO x.kind)=false) (hU:M.U[i]?=some u) (hup:R[u.toNat]?=some up):HD R Q M i x=if IX Q x up=true then 46 else 0:=by
 unfold HD
 rw[hA,if_neg (by simpa using h0),hC,hU]
 rw[if_neg (by simp only[Option.getD_some];rw[hv];decide)]
 simp only[Option.getD_some,hup]
end
noncomputable def B_ (nm:ByteArray) (s:AN):(Int × Int) × List Int:=if FF nm s≠0 then ((FF nm s,0),[]) else GD s.rows s.queues (AD (BC s.rows)) s.rows.length 0
def bJ (h:AA) (lo:Nat) (v:Value) (R:(Int × Int) × List Int):Prop:=∃ tv,v=.tuple #[tv,CD R.1.1 R.1.2]∧AX lo h tv R.2
def HP (size:Int):List (Int × Bool)→Int→Int→Option (Int × Int)
 | [],r,o=>some (r,o)
 | (n,g) :: l,r,o=>if n<1∨n>1048576 then none else if g=true then HP size l r (o+n) else if n>size then none else HP size l (r+n) o
def G9 (C:List Int) (Q:List (ByteArray × Bool)):List (Int × Bool):=C.zip (Q.map (·.2))
def KY (size:Int) (C:List Int) (Q:List (ByteArray × Bool)):Bool:=
 if size<1∨size>1048576∨C.length≠Q.length then false else match HP size (G9 C Q) 0 0 with
  | none=>false
  | some (r,o)=>decide (min size r+o≤4194304)
section
variable {C:List Int} {Q:List (ByteArray × Bool)} {size r o:Int} {i:Nat}
theorem xX (h:C.length=Q.length):(G9 C Q).length=C.length:=by simp[G9,h]
theorem VV {n:Int} {q:ByteArray × Bool} (h1:C[i]?=some n) (h2:Q[i]?=some q):(G9 C Q).drop i=(n,q.2) :: (G9 C Q).drop (i+1):=by
 have l1:=(List.getElem?_eq_some_iff.1 h1).1
 have l2:=(List.getElem?_eq_some_iff.1 h2).1
 have hl:i<(G9 C Q).length:=by simp only[G9,List.length_zip,List.length_map];omega
 rw[List.drop_eq_getElem_cons hl]
 congr 1
 have e1:C[i]=n:=(List.getElem?_eq_some_iff.1 h1).2
 have e2:Q[i]=q:=(List.getElem?_eq_some_iff.1 h2).2
 simp[G9,e1,e2]
theorem ZX {n:Int} {q:ByteArray × Bool} (h1:C[i]?=some n) (h2:Q[i]?=some q) (hb:n<1∨n>1048576∨(q.2=false∧n>size)):HP size ((G9 C Q).drop i) r o=none:=by
 rw[VV h1 h2]
 unfold HP
 rcases hb with hb | hb | ⟨hb,hc⟩
 ·rw[if_pos (.inl hb)]
 ·rw[if_pos (.inr hb)]
 ·by_cases h3:n<1∨n>1048576
  ·rw[if_pos h3]
  ·rw[if_neg h3,if_neg (by rw[hb];decide),if_pos hc]
theorem qY {n:Int} {q:ByteArray × Bool} (h1:C[i]?=some n) (h2:Q[i]?=some q) (h3:1≤n∧n≤1048576) (h4:q.2=true):HP size ((G9 C Q).drop i) r o=HP size ((G9 C Q).drop (i+1)) r (o+n):=by
 rw[VV h1 h2]
 conv=>lhs;unfold HP
 rw[if_neg (by omega),if_pos h4]
theorem sO {n:Int} {q:ByteArray × Bool} (h1:C[i]?=some n) (h2:Q[i]?=some q) (h3:1≤n∧n≤1048576) (h4:q.2=false) (h5:n≤size):HP size ((G9 C Q).drop i) r o=HP size ((G9 C Q).drop (i+1)) (r+n) o:=by
 rw[VV h1 h2]
 conv=>lhs;unfold HP
 rw[if_neg (by omega),if_neg (by rw[h4];decide),if_neg (by omega)]
theorem Bd (h:C.length=Q.length) (hi:i=C.length):HP size ((G9 C Q).drop i) r o=some (r,o):=by
 rw[List.drop_of_length_le (by rw[xX h];omega)]
 rfl
end
def G0 (k:Int):Bool:=[39,40,41,43,44,45,46].contains k
def LG (k:Int):Bool:=[42,47,48,49,50,51,52,53,54].contains k
def GH (k:Int):Bool:=[41,42].contains k
def FN (k:Int):Bool:=[39,40,43,44,45,46,47,48,49,50,51,52,53,54].contains k
def GU (k a b:Int):Int:=if k=39 then (if b<a then b else a) else if k=40 then (if b>a then b else a) else if k=41 then -a else if k=43 then a*b else if k=44 then J7 a b else if k=45 then a+b else a-b
def JC (k a b:Int):Bool:=if k=47 then a==b else if k=48 then a != b else if k=49 then decide (a<b) else if k=50 then decide (a≤b) else if k=51 then decide (a>b) else if k=52 then decide (a≥b) else if k=42 then a==0 else if k=53 then (a != 0&&b != 0) else (a != 0||b != 0)
def FP (k a b:Int):Int:=if G0 k=true then FA (GU k a b) else if JC k a b=true then 1 else 0
def DE (size:Int) (C:List Int) (x:AB):Option Int:=if x.kind=27 then some x.n else if x.kind=33 then some size else if x.kind=32 then some ((C[x.n.toNat]?).getD 0) else if x.kind=29 then some 1 else if x.kind=30 then some 0 else none
def KF (R:List AB) (e:Nat→Nat) (size:Int) (C:List Int):Nat→Nat→Option Int
 | 0,_=>none
 | f+1,i=>match R[i]? with
  | none=>none
  | some x=>if GH x.kind=true then (KF R e size C f (i+1)).map (fun a=>FP x.kind a a)
   else if FN x.kind=true then (match KF R e size C f (i+1),KF R e size C f (e (i+1)) with
    | some a,some b=>some (FP x.kind a b)
    | _,_=>none)
   else DE size C x
def BY (R:List AB) (e:Nat→Nat) (size:Int) (C:List Int) (i:Nat):Option Int:=KF R e size C R.length i
theorem ZI {k:Int}:(GH k=true∨FN k=true)↔(G0 k=true∨LG k=true):=by
 simp only[GH,FN,G0,LG,List.contains_cons,List.contains_nil,Bool.or_false,Bool.or_eq_true,beq_iff_eq]
 omega
section
variable {Z:List AB} {s:AN}
theorem DB.un (hG:DB Z s) {i:Nat} {x:AB} (hx:s.rows[i]?=some x) (h:GH x.kind=true):x.kids=1:=by
 obtain⟨z,hz,h1,h2⟩:=hG.z hx
 have hf:=hG.t.fit hz
 unfold C8 at hf
 simp only[Bool.and_eq_true,decide_eq_true_eq,Bool.or_eq_true] at hf
 obtain⟨⟨_,hl⟩,hm⟩:=hf
 rw[← h1,← h2] at hl hm
 unfold GH at h
 simp only[List.contains_cons,List.contains_nil,Bool.or_false,Bool.or_eq_true,beq_iff_eq] at h
 rcases h with h | h <;> (rw[h] at hl hm;rcases hm with hm | hm <;> simp[CM,Fsx] at hm hl <;> omega)
theorem DB.bin (hG:DB Z s) {i:Nat} {x:AB} (hx:s.rows[i]?=some x) (h:FN x.kind=true):x.kids=2:=by
 obtain⟨z,hz,h1,h2⟩:=hG.z hx
 have hf:=hG.t.fit hz
 unfold C8 at hf
 simp only[Bool.and_eq_true,decide_eq_true_eq,Bool.or_eq_true] at hf
 obtain⟨⟨_,hl⟩,hm⟩:=hf
 rw[← h1,← h2] at hl hm
 unfold FN at h
 simp only[List.contains_cons,List.contains_nil,Bool.or_false,Bool.or_eq_true,beq_iff_eq] at h
 rcases h with h | h | h | h | h | h | h | h | h | h | h | h | h | h <;> (rw[h] at hl hm;rcases hm with hm | hm <;> simp[CM,Fsx] at hm hl <;> omega)
theorem DB.kid0 (hG:DB Z s) {i:Nat} {x:AB} (hx:s.rows[i]?=some x) (h:0<x.kids):i<i+1∧i+1<s.rows.length:=⟨by omega,hG.next hx h⟩
theorem DB.kid1 (hG:DB Z s) {i:Nat} {x:AB} (hx:s.rows[i]?=some x) (h:x.kids=2):i<AD Z (i+1)∧AD Z (i+1)<s.rows.length:=
 hG.kid (k:=1) hx (by rw[h];rfl)
variable {size:Int} {C:List Int}
theorem QZ (hG:DB Z s):∀ (d i f g:Nat),s.rows.length-i≤d→s.rows.length-i≤f→s.rows.length-i≤g→i<s.rows.length→KF s.rows (AD Z) size C f i=KF s.rows (AD Z) size C g i
 | 0,i,f,g,h1,_,_,h4=>by omega
 | d+1,i,f,g,h1,h2,h3,h4=>by
  obtain⟨f,rfl⟩:∃ j,f=j+1:=⟨f-1,by omega⟩
  obtain⟨g,rfl⟩:∃ j,g=j+1:=⟨g-1,by omega⟩
  obtain⟨x,hx⟩:∃ x,s.rows[i]?=some x:=⟨_,List.getElem?_eq_getElem h4⟩
  unfold KF
  rw[hx]
  simp only
  by_cases hu:GH x.kind=true
  ·have hk:=hG.un hx hu
   have k0:=hG.kid0 hx (by omega)
   rw[if_pos hu,if_pos hu,QZ hG d (i+1) f g (by omega) (by omega) (by omega) k0.2]
  ·rw[if_neg hu,if_neg hu]
   by_cases hb:FN x.kind=true
   ·have hk:=hG.bin hx hb
    have k0:=hG.kid0 hx (by omega)
    have k1:=hG.kid1 hx hk
    rw[if_pos hb,if_pos hb,QZ hG d (i+1) f g (by omega) (by omega) (by omega) k0.2,QZ hG d (AD Z (i+1)) f g (by omega) (by omega) (by omega) k1.2]
   ·rw[if_neg hb,if_neg hb]
theorem Q5 (hG:DB Z s) {i:Nat} {x:AB} (hx:s.rows[i]?=some x):BY s.rows (AD Z) size C i=if GH x.kind=true then (BY s.rows (AD Z) size C (i+1)).map (fun a=>FP x.kind a a)
   else if FN x.kind=true then (match BY s.rows (AD Z) size C (i+1),BY s.rows (AD Z) size C (AD Z (i+1)) with
    | some a,some b=>some (FP x.kind a b)
    | _,_=>none)
   else DE size C x:=by
 have hl:=(List.getElem?_eq_some_iff.1 hx).1
 unfold BY
 obtain⟨f,hf⟩:∃ f,s.rows.length=f+1:=⟨s.rows.length-1,by omega⟩
 by_cases hu:GH x.kind=true
 ·have hk:=hG.un hx hu
  have k0:=hG.kid0 hx (by omega)
  rw[if_pos hu,← QZ hG s.rows.length (i+1) f s.rows.length (by omega) (by omega) (by omega) k0.2]
  conv=>lhs;rw[hf];unfold KF
  rw[hx]
  simp only
  rw[if_pos hu]
 ·rw[if_neg hu]
  by_cases hb:FN x.kind=true
  ·have hk:=hG.bin hx hb
   have k0:=hG.kid0 hx (by omega)
   have k1:=hG.kid1 hx hk
   rw[if_pos hb,← QZ hG s.rows.length (i+1) f s.rows.length (by omega) (by omega) (by omega) k0.2,← QZ hG s.rows.length (AD Z (i+1)) f s.rows.length (by omega) (by omega) (by omega) k1.2]
   conv=>lhs;rw[hf];unfold KF
   rw[hx]
   simp only
   rw[if_neg hu,if_pos hb]
  ·rw[if_neg hb]
   conv=>lhs;rw[hf];unfold KF
   rw[hx]
   simp only
   rw[if_neg hu,if_neg hb]
structure PW (s:AN) (size:Int) (C:List Int):Prop where
 sz:1≤size∧size≤1048576
 len:C.length=s.queues.length
 all:∀ c∈C,1≤c∧c≤1048576
theorem bM {size:Int}:∀ (l:List (Int × Bool)) (r o:Int) {p:Int × Int},HP size l r o=some p→∀ y∈l,1≤y.1∧y.1≤1048576
 | [],r,o,p,_,y,hy=>by cases hy
 | (n,g) :: l,r,o,p,h,y,hy=>by
  unfold HP at h
  split at h
  ·cases h
  rename_i hc
  have hn:1≤n∧n≤1048576:=by omega
  rcases List.mem_cons.1 hy with rfl | hy
  ·exact hn
  split at h
  ·exact bM l _ _ h y hy
  split at h
  ·cases h
  ·exact bM l _ _ h y hy
theorem Ba {s:AN} (h:KY size C s.queues=true):PW s size C:=by
 unfold KY at h
 split at h
 ·cases h
 rename_i hc
 have hl:C.length=s.queues.length:=by omega
 refine⟨by omega,hl,fun c hc'=>?_⟩
 cases hg:HP size (G9 C s.queues) 0 0 with
 | none=>rw[hg] at h;cases h
 | some p=>
  obtain⟨j,hj⟩:=List.getElem?_of_mem hc'
  have hjl:=(List.getElem?_eq_some_iff.1 hj).1
  obtain⟨q,hq⟩:∃ q,s.queues[j]?=some q:=⟨_,List.getElem?_eq_getElem (by omega)⟩
  have hz:=VV hj hq
  have hm:(c,q.2)∈G9 C s.queues:=List.mem_of_mem_drop (i:=j) (by rw[hz];exact List.mem_cons_self)
  exact bM _ _ _ hg _ hm
theorem iU (k a b:Int):-1073741824≤FP k a b∧FP k a b≤1073741824:=by
 unfold FP
 split
 ·exact i9 _
 ·split <;> omega
theorem uJ (hG:DB Z s) (hF:PW s size C) {i:Nat} {x:AB} (hx:s.rows[i]?=some x) {v:Int} (h:DE size C x=some v):-1073741824≤v∧v≤1073741824:=by
 unfold DE at h
 have hs:=hF.sz
 split at h
 ·rename_i hk
  have:=hG.num i x hx hk
  cases h
  omega
 split at h
 ·cases h
  omega
 split at h
 ·rename_i hk
  have hq:=hG.qn i x hx (by rw[hk];rfl)
  have hl:=hF.len
  obtain⟨c,hc⟩:∃ c,C[x.n.toNat]?=some c:=⟨_,List.getElem?_eq_getElem (by omega)⟩
  have:=hF.all c (List.mem_of_getElem? hc)
  rw[hc] at h
  cases h
  show -1073741824≤c∧c≤1073741824
  omega
 split at h
 ·cases h
  omega
 split at h
 ·cases h
  omega
 ·cases h
theorem Z5 (hG:DB Z s) (hF:PW s size C) {i:Nat} (hi:i<s.rows.length) {v:Int} (h:BY s.rows (AD Z) size C i=some v):-1073741824≤v∧v≤1073741824:=by
 obtain⟨x,hx⟩:∃ x,s.rows[i]?=some x:=⟨_,List.getElem?_eq_getElem hi⟩
 rw[Q5 hG hx] at h
 split at h
 ·cases hc:BY s.rows (AD Z) size C (i+1) with
  | none=>rw[hc] at h;cases h
  | some a=>rw[hc] at h;cases h;exact iU _ _ _
 split at h
 ·split at h
  ·cases h;exact iU _ _ _
  ·cases h
 ·exact uJ hG hF hx h
end
section
variable {l:List AB}
end
def S5 (Z:List AB) (s:AN):Prop:=∀ (i:Nat) (x:AB),s.rows[i]?=some x→HD s.rows s.queues (BK s.rows (AD Z) i) i x=0
theorem qD {R:List AB} {Q:List (ByteArray × Bool)} {M:GJ} {i:Nat} {x:AB}:HD R Q M i x=0∨HD R Q M i x=41∨HD R Q M i x=42∨HD R Q M i x=46:=by
 unfold HD
 (repeat' split) <;> simp
theorem mD {R:List AB} {Q:List (ByteArray × Bool)} {e:Nat→Nat}:∀ (r i:Nat),i+r=R.length→(GD R Q e r i).1.1=0→∀ (j:Nat) (x:AB),i≤j→R[j]?=some x→HD R Q (BK R e j) j x=0
 | 0,i,h,_,j,x,h1,hx=>by
  have:=(List.getElem?_eq_some_iff.1 hx).1
  omega
 | r+1,i,h,h0,j,x,h1,hx=>by
  obtain⟨y,hy⟩:∃ y,R[i]?=some y:=⟨_,List.getElem?_eq_getElem (by omega)⟩
  by_cases hb:HD R Q (BK R e i) i y=0
  ·rw[lM hy hb] at h0
   rcases Nat.eq_or_lt_of_le h1 with e1 | e1
   ·subst e1
    rw[hy] at hx
    cases hx
    exact hb
   ·exact mD r (i+1) (by omega) h0 j x (by omega) hx
  ·rw[dY hy rfl hb] at h0
   exact absurd h0 hb
theorem kZ {R:List AB} {Q:List (ByteArray × Bool)} {e:Nat→Nat}:∀ (r i:Nat),(GD R Q e r i).1.1=0→(GD R Q e r i).1=(0,0)
 | 0,i,_=>rfl
 | r+1,i,h=>by
  unfold GD at h ⊢
  split
  ·rfl
  ·rename_i y hy
   rw[hy] at h
   simp only at h
   split
   ·rename_i hb
    rw[if_pos hb] at h
    exact absurd h hb
   ·rename_i hb
    rw[if_neg hb] at h
    exact kZ r (i+1) h
theorem eX {nm:ByteArray} {s:AN} (h:(B_ nm s).1.1=0):FF nm s=0∧DB (BC s.rows) s∧S5 (BC s.rows) s∧(B_ nm s).1=(0,0):=by
 unfold B_ at h ⊢
 split at h
 ·rename_i hc
  exact absurd h hc
 ·rename_i hc
  have hc0:FF nm s=0:=by simpa using hc
  rw[if_neg hc]
  exact⟨hc0,YC hc0,fun i x hx=>mD _ _ (by omega) h i x (Nat.zero_le _) hx,kZ _ _ h⟩
section
variable {Z:List AB} {s:AN}
theorem DB.leaf (hG:DB Z s) {i:Nat} {x:AB} (hx:s.rows[i]?=some x) (hk:[27,28,29,30,31,32,33,34,35,36,37].contains x.kind=true):AD Z i=i+1:=by
 obtain⟨z,hz,h1,h2⟩:=hG.z hx
 obtain⟨k0,hch,_⟩:=hG.kids0 hx
 have hf:=hG.t.fit hz
 unfold C8 at hf
 simp only[Bool.and_eq_true,decide_eq_true_eq,Bool.or_eq_true] at hf
 obtain⟨_,hm⟩:=hf
 rw[← h1,← h2] at hm
 have hk0:x.kids=0:=by
  simp only[List.contains_cons,List.contains_nil,Bool.or_false,Bool.or_eq_true,beq_iff_eq] at hk
  rcases hk with h | h | h | h | h | h | h | h | h | h | h <;> (rw[h] at hm;rcases hm with hm | hm <;> simp[CM] at hm <;> omega)
 rw[hk0] at hch
 exact hch.symm
end
structure GF where
 V:List (Int × Int × Int)
 G:List Int
 Rd:List Int
def EJ (e:Nat→Nat) (val:Nat→Int) (i:Nat) (x:AB) (t:GF):Int × GF:=
 if x.kind=4 then (if val (i+1)<val (e (i+1))∨val (i+1)>val (e (e (i+1))) then (43,t) else (0,{ t with V:=t.V++[(val (i+1),val (e (i+1)),val (e (e (i+1))))] }))
 else if x.kind=5 then (if val (i+1)<1∨val (i+1)>255 then (43,t) else (0,{ t with G:=t.G++[val (i+1)] }))
 else if x.kind=6 then (if val (i+1)=0 then (44,t) else (0,t))
 else if x.kind=13 then (if val (i+1)<0∨val (i+1)>4194304 then (43,t) else (0,{ t with Rd:=t.Rd.set i (val (i+1)) }))
 else (0,t)
def GX (R:List AB) (e:Nat→Nat) (val:Nat→Int):Nat→Nat→GF→(Int × Int) × GF
 | 0,_,t=>((0,0),t)
 | r+1,i,t=>match R[i]? with
  | none=>((0,0),t)
  | some x=>if (EJ e val i x t).1≠0 then (((EJ e val i x t).1,(i:Int)),⟨[],[],[]⟩) else GX R e val r (i+1) (EJ e val i x t).2
section
variable {R:List AB} {e:Nat→Nat} {val:Nat→Int} {r i:Nat} {x:AB} {t:GF}
theorem PM (hx:R[i]?=some x) {b:Int} (hb:(EJ e val i x t).1=b) (h0:b≠0):GX R e val (r+1) i t=((b,(i:Int)),⟨[],[],[]⟩):=by
 unfold GX
 rw[hx]
 simp only
 rw[hb,if_pos h0]
theorem TC (hx:R[i]?=some x) (hb:(EJ e val i x t).1=0):GX R e val (r+1) i t=GX R e val r (i+1) (EJ e val i x t).2:=by
 conv=>lhs;unfold GX
 rw[hx]
 simp only
 rw[hb,if_neg (by decide)]
end
section
variable {Z:List AB} {s:AN}
end
theorem k9 {α:Type} {F G:Int→α} (h:I6.map F=I6.map G) {k:Int} (hk:1≤k∧k≤54):F k=G k:=(List.map_inj_left.1 h) k (WG hk)
def VB:List Int:=I6.filter fun k=>!([12,13,15,47,48].contains k)
theorem Gj {α:Type} {F G:Int→α} (h:VB.map F=VB.map G) {k:Int} (hk:1≤k∧k≤54) (hr:[12,13,15,47,48].contains k=false):F k=G k:=
 (List.map_inj_left.1 h) k (List.mem_filter.2 ⟨WG hk,by rw[hr];rfl⟩)
section
variable (call:AM) (N:Nat) (h:AA)
theorem Fq:(I6.map fun k=>A8 Tryd.prog call N 40 [iv k] h)=I6.map fun k=>some (iv (BU k),h):=by kernel_rfl
theorem qL:(I6.map fun k=>A8 Tryd.prog call N 41 [iv k] h)=I6.map fun k=>some (.bool (JO k),h):=by kernel_rfl
theorem vA (j:Nat) (first:Int):(VB.map fun k=>A8 Tryd.prog call N 43 [iv k,iv j,iv first] h)=VB.map fun k=>some (iv (EO k j first),h):=by kernel_rfl
end
section
variable {n:Nat} {h:AA} {k:Int}
theorem oN (hk:1≤k∧k≤54) (hn:0<n):AS n 40 [iv k] h=some (iv (BU k),h):=by
 obtain⟨n,rfl⟩:=C_ hn
 exact EE (BT ⟨rfl,rfl,rfl⟩) rfl (k9 (Fq (AS n) n h) hk)
theorem vZ (hk:1≤k∧k≤54) (hn:0<n):AS n 41 [iv k] h=some (.bool (JO k),h):=by
 obtain⟨n,rfl⟩:=C_ hn
 exact EE (BT ⟨rfl,rfl,rfl⟩) rfl (k9 (qL (AS n) n h) hk)
theorem Dk (a:Int) (j:Nat):JM a j=(a==4||(a==5||(a==6||(a==13&&(j:Int)==0)))):=by
 have hj:((j:Int)==0)=(j==0):=by
  rw[Bool.eq_iff_iff]
  simp
 unfold JM
 rw[hj]
 simp only[List.contains_cons,List.contains_nil,Bool.or_false,Bool.or_assoc]
theorem sM {a:Int} {j:Nat} (hn:0<n):AS n 44 [iv a,iv (j:Int)] h=some (.bool (JM a j),h):=by
 obtain⟨n,rfl⟩:=C_ hn
 refine EE (BT ⟨rfl,rfl,rfl⟩) rfl ?_
 refine DA Tryd.func44 rfl (by simp[Tryd.f44]) ?_
 have hr:Tryd.f44.results.toList=[.tmp 4]:=rfl
 rw[Dk]
 cases c4:(a==4) with
 | true=>simp only[eE,seval,↓eP,hr,c4,Bool.true_or]
 | false=>
 cases c5:(a==5) with
 | true=>simp only[eE,seval,↓eP,hr,c4,c5,Bool.true_or,Bool.or_true]
 | false=>
 cases c6:(a==6) with
 | true=>simp only[eE,seval,↓eP,hr,c4,c5,c6,Bool.true_or,Bool.or_true]
 | false=>
 cases c13:(a==13) with
 | false=>simp only[eE,seval,↓eP,hr,c4,c5,c6,c13,Bool.or_false,Bool.false_and]
 | true=>
 cases cj:((j:Int)==0) with
 | false=>simp only[eE,seval,↓eP,hr,c4,c5,c6,c13,cj,Bool.or_false,Bool.and_false]
 | true=>simp only[eE,seval,↓eP,hr,c4,c5,c6,c13,cj,Bool.or_true,Bool.and_true]
theorem gC {a b:Int}:FC Tryd.prog h 27 2 [(0,iv a),(1,iv b)]=some (qS h.next 2 2,h.push (.row [iv a,iv b] 3 false false)):=by
 have hc:∀ x:Int,(iv x).cells=#[iv x]:=fun _=>rfl
 simp[FC,Tryd.underlying27,C4,HZ,flat,BI,hc,IQ,BQ,Go.Sx.lay]
theorem Q_ {a b c:Int}:FC Tryd.prog h 27 3 [(0,iv a),(1,iv b),(2,iv c)]=some (qS h.next 3 3,h.push (.row [iv a,iv b,iv c] 3 false false)):=by
 have hc:∀ x:Int,(iv x).cells=#[iv x]:=fun _=>rfl
 simp[FC,Tryd.underlying27,C4,HZ,flat,BI,hc,IQ,BQ,Go.Sx.lay]
theorem OT {o:A9}:∀ i,i<h.next→(h.push o).get i=h.get i:=fun i hi=>AR hi
theorem vS {call:AM} {N:Nat} {j:Nat} {first:Int} (hk:1≤k∧k≤54) (hj:[12,13].contains k=true→j<3) (hj2:[15,47,48].contains k=true→j<2):∃ h1,A8 Tryd.prog call N 43 [iv k,iv (j:Int),iv first] h=some (iv (EO k j first),h1)∧∀ i,i<h.next→h1.get i=h.get i:=by
 by_cases hr:[12,13,15,47,48].contains k=false
 ·exact⟨h,Gj (vA call N h j first) hk hr,fun _ _=>rfl⟩
 have hr':k=12∨k=13∨k=15∨k=47∨k=48:=by
  simp only[Bool.not_eq_false,List.contains_cons,List.contains_nil,Bool.or_false,Bool.or_eq_true,beq_iff_eq] at hr
  omega
 have hR:Tryd.f43.results.toList=[.tmp 6]:=rfl
 rcases hr' with rfl | rfl | rfl | rfl | rfl
 ·have h3:j=0∨j=1∨j=2:=by have:=hj rfl;omega
  rcases h3 with rfl | rfl | rfl
  ·have hix:CL Tryd.prog 27 (qS h.next 3 3) (iv 0)=some (qP h.next 0):=FB (id:=h.next) (n:=3) (c:=3) (i:=0) (by decide)
   change ∃ h1,A8 Tryd.prog call N 43 [iv 12,iv 0,iv first] h=some (iv (EO 12 0 first),h1)∧_
   refine EL (R:=fun h1=>∀ i,i<h.next→h1.get i=h.get i) Tryd.func43 rfl (by simp[Tryd.f43]) ?_
   simp only[eE,seval,↓eP,Int.reduceBEq,hR,Q_,hix,AU,BM,AJ]
   exact⟨rfl,OT⟩
  ·have hix:CL Tryd.prog 27 (qS h.next 3 3) (iv 1)=some (qP h.next 1):=FB (id:=h.next) (n:=3) (c:=3) (i:=1) (by decide)
   change ∃ h1,A8 Tryd.prog call N 43 [iv 12,iv 1,iv first] h=some (iv (EO 12 1 first),h1)∧_
   refine EL (R:=fun h1=>∀ i,i<h.next→h1.get i=h.get i) Tryd.func43 rfl (by simp[Tryd.f43]) ?_
   simp only[eE,seval,↓eP,Int.reduceBEq,hR,Q_,hix,AU,BM,AJ]
   exact⟨rfl,OT⟩
  ·have hix:CL Tryd.prog 27 (qS h.next 3 3) (iv 2)=some (qP h.next 2):=FB (id:=h.next) (n:=3) (c:=3) (i:=2) (by decide)
   change ∃ h1,A8 Tryd.prog call N 43 [iv 12,iv 2,iv first] h=some (iv (EO 12 2 first),h1)∧_
   refine EL (R:=fun h1=>∀ i,i<h.next→h1.get i=h.get i) Tryd.func43 rfl (by simp[Tryd.f43]) ?_
   simp only[eE,seval,↓eP,Int.reduceBEq,hR,Q_,hix,AU,BM,AJ]
   exact⟨rfl,OT⟩
 ·have h3:j=0∨j=1∨j=2:=by have:=hj rfl;omega
  rcases h3 with rfl | rfl | rfl
  ·have hix:CL Tryd.prog 27 (qS h.next 3 3) (iv 0)=some (qP h.next 0):=FB (id:=h.next) (n:=3) (c:=3) (i:=0) (by decide)
   change ∃ h1,A8 Tryd.prog call N 43 [iv 13,iv 0,iv first] h=some (iv (EO 13 0 first),h1)∧_
   refine EL (R:=fun h1=>∀ i,i<h.next→h1.get i=h.get i) Tryd.func43 rfl (by simp[Tryd.f43]) ?_
   simp only[eE,seval,↓eP,Int.reduceBEq,hR,Q_,hix,AU,BM,AJ]
   exact⟨rfl,OT⟩
  ·have hix:CL Tryd.prog 27 (qS h.next 3 3) (iv 1)=some (qP h.next 1):=FB (id:=h.next) (n:=3) (c:=3) (i:=1) (by decide)
   change ∃ h1,A8 Tryd.prog call N 43 [iv 13,iv 1,iv first] h=some (iv (EO 13 1 first),h1)∧_
   refine EL (R:=fun h1=>∀ i,i<h.next→h1.get i=h.get i) Tryd.func43 rfl (by simp[Tryd.f43]) ?_
   simp only[eE,seval,↓eP,Int.reduceBEq,hR,Q_,hix,AU,BM,AJ]
   exact⟨rfl,OT⟩
  ·have hix:CL Tryd.prog 27 (qS h.next 3 3) (iv 2)=some (qP h.next 2):=FB (id:=h.next) (n:=3) (c:=3) (i:=2) (by decide)
   change ∃ h1,A8 Tryd.prog call N 43 [iv 13,iv 2,iv first] h=some (iv (EO 13 2 first),h1)∧_
   refine EL (R:=fun h1=>∀ i,i<h.next→h1.get i=h.get i) Tryd.func43 rfl (by simp[Tryd.f43]) ?_
   simp only[eE,seval,↓eP,Int.reduceBEq,hR,Q_,hix,AU,BM,AJ]
   exact⟨rfl,OT⟩
 ·have h3:j=0∨j=1:=by have:=hj2 rfl;omega
  rcases h3 with rfl | rfl
  ·have hix:CL Tryd.prog 27 (qS h.next 2 2) (iv 0)=some (qP h.next 0):=FB (id:=h.next) (n:=2) (c:=2) (i:=0) (by decide)
   change ∃ h1,A8 Tryd.prog call N 43 [iv 15,iv 0,iv first] h=some (iv (EO 15 0 first),h1)∧_
   refine EL (R:=fun h1=>∀ i,i<h.next→h1.get i=h.get i) Tryd.func43 rfl (by simp[Tryd.f43]) ?_
   simp only[eE,seval,↓eP,Int.reduceBEq,hR,gC,hix,AU,BM,AJ]
   exact⟨rfl,OT⟩
  ·have hix:CL Tryd.prog 27 (qS h.next 2 2) (iv 1)=some (qP h.next 1):=FB (id:=h.next) (n:=2) (c:=2) (i:=1) (by decide)
   change ∃ h1,A8 Tryd.prog call N 43 [iv 15,iv 1,iv first] h=some (iv (EO 15 1 first),h1)∧_
   refine EL (R:=fun h1=>∀ i,i<h.next→h1.get i=h.get i) Tryd.func43 rfl (by simp[Tryd.f43]) ?_
   simp only[eE,seval,↓eP,Int.reduceBEq,hR,gC,hix,AU,BM,AJ]
   exact⟨rfl,OT⟩
 ·have h3:j=0∨j=1:=by have:=hj2 rfl;omega
  rcases h3 with rfl | rfl
  ·exact⟨h,by kernel_rfl,fun _ _=>rfl⟩
  ·exact⟨h,by kernel_rfl,fun _ _=>rfl⟩
 ·have h3:j=0∨j=1:=by have:=hj2 rfl;omega
  rcases h3 with rfl | rfl
  ·exact⟨h,by kernel_rfl,fun _ _=>rfl⟩
  ·exact⟨h,by kernel_rfl,fun _ _=>rfl⟩
theorem wB {j:Nat} {first:Int} (hk:1≤k∧k≤54) (hj:[12,13].contains k=true→j<3) (hj2:[15,47,48].contains k=true→j<2) (hn:0<n):AS n 43 [iv k,iv (j:Int),iv first] h=some (iv (EO k j first),h):=by
 obtain⟨n,rfl⟩:=C_ hn
 exact JQ (BT ⟨rfl,rfl,rfl⟩) rfl (vS hk hj hj2)
end
section
variable {P:Program} {t e:TypeId} {w b:Nat} {z:Value} {h:AA}
end
structure NM (h:AA) (o n w:Nat) (cs mk z:List Value) (e:TypeId):Prop where
 g:h.get o=.row (cs++(mk++BQ z 2)) e false false
 len:cs.length=n*w
 mlen:mk.length=w
 zlen:z.length=w
section
variable {t e:TypeId} {w b:Nat} {z:Value} {h:AA}
end
section
variable {t e:TypeId} {w b:Nat} {z:Value} {h:AA}
end
section
variable {h h':AA} {o n w:Nat} {cs mk z:List Value} {e:TypeId}
theorem NM.mono (hl:NM h o n w cs mk z e) (hg:h'.get o=h.get o):NM h' o n w cs mk z e:=⟨by rw[hg];exact hl.g,hl.len,hl.mlen,hl.zlen⟩
theorem NM.cells (hl:NM h o n w cs mk z e) {lo c:Nat} (ho:lo≤o∧o<h.next):AP lo h (qS o n c) n w cs:=AP.row hl.g ho hl.len
theorem NM.mark (hl:NM h o n w cs mk z e) {lo c:Nat} (ho:lo≤o∧o<h.next):AP lo h (qS o (n+1) c) (n+1) w (cs++mk):=
 AP.row (ex:=BQ z 2) (by rw[List.append_assoc];exact hl.g) ho (by rw[List.length_append,hl.len,hl.mlen,Nat.succ_mul])
end
section
variable {P:Program} {t e:TypeId} {w b:Nat} {z:Value} {h:AA}
theorem RK (ht:P.underlying t=some (.slice e)) (he:BG P e=some w) (hb:GL P e=some b) (hz:CU P e=some z) (hzc:z.cells.size=w) (hzf:flat z=true) (hw:0<w) (hbb:b≤64) {n:Nat} (hn:n<4000000000000) :
  GO P h t (iv (n:Int)) (iv (n:Int))=some (qS h.next n n,h.push (.row (BQ z.cells.toList n) e false false)):=by
 simp only[GO,ht,he,hz,hb]
 have hmul:(b:Int)*(n:Int)≤64*(n:Int):=Int.mul_le_mul_of_nonneg_right (by omega) (by omega)
 rw[if_pos (by simp[hzf,hzc,hw];omega)]
 simp
end
def XY:List (Bool × Bool × List Operand):=[AQ,AQ,AQ,AQ,AH [.tmp 19],AH [.tmp 19],AH [.tmp 19],AH [.tmp 19],AK]
section
variable {call:AM} {N:Nat} {h:AA}
theorem Bb (hsn:B8 call) {va vb:Value} {A B:List Int} {la lb:Nat} (ha:AX la h va A) (hb:AX lb h vb B) (hN:A.length+3<N) (hl:A.length<30000000000000):A8 Tryd.prog call N 22 [va,vb] h=some (.bool (decide (A=B)),h):=by
 refine DA Tryd.func22 rfl (by simp[Tryd.f22]) ?_
 have hr:Tryd.f22.results.toList=[.tmp 4]:=rfl
 have lA:=fun h'=>KQ ha h'
 have lB:=fun h'=>KQ hb h'
 cases d:((A.length:Int) != (B.length:Int)) with
 | true=>
  have hne:A≠B:=fun e=>by subst e;simp at d
  rw[decide_eq_false hne]
  simp only[eE,↓reduceIte,Nat.reduceEqDiff,reduceCtorEq,↓eP,hr,lA,lB,d]
 | false=>
  have hlen:A.length=B.length:=by
   have h9:(A.length:Int)=(B.length:Int):=by simpa using d
   omega
  simp only[eE,↓reduceIte,Nat.reduceEqDiff,reduceCtorEq,↓eP,lA,lB,d]
  refine WK.loop (fun i s'=>s'.T.get 0=va∧s'.T.get 1=vb∧s'.T.get 5=iv i∧s'.h=h∧i≤A.length∧∀ j,j<i→A[j]?=B[j]?) A.length (by omega) ?_ ?_
  ·simp only[eE,↓reduceIte,Nat.reduceEqDiff,reduceCtorEq,↓eP,rP,Nat.reduceAdd,Nat.reduceLT]
   exact⟨rfl,fun j hj=>by omega⟩
  ·rintro i ⟨T1,H1⟩ hi ⟨t0,t1,t5,hh,hil,hsame⟩
   simp only at t0 t1 t5 hh
   subst hh
   by_cases hlt:i<A.length
   ·have c1:decide ((i:Int)<(A.length:Int))=true:=by simp;omega
    obtain⟨x,hx⟩:∃ x,A[i]?=some x:=⟨_,List.getElem?_eq_getElem hlt⟩
    obtain⟨y,hy⟩:∃ y,B[i]?=some y:=⟨_,List.getElem?_eq_getElem (by omega)⟩
    obtain⟨ida,pa,ea,_,xa⟩:=AX.get ha hx
    obtain⟨idb,pb,eb,_,xb⟩:=AX.get hb hy
    have w1:=EU i (by omega)
    simp only[eE,seval,↓eP,t0,t5,lA,c1]
    refine WK.flags (fs:=XY) (by kernel_rfl) ?_
    unfold XY
    iterate 9
     refine D9 hsn ?_
     simp only[rG,seval,AC,AF,AE,CT,DU,CK,C6,EA,t0,t5,ea,AU,xa,t1,eb,xb,QM]
    refine D4 ?_
    cases e:(x != y) with
    | true=>
     have hne:A≠B:=fun h9=>by
      subst h9
      rw[hx] at hy
      cases hy
      simp at e
     rw[decide_eq_false hne]
     simp only[eE,seval,↓eP,hr]
    | false=>
     have hxy:x=y:=by simpa using e
     simp only[eE,seval,↓eP,t0,t1,t5,w1]
     refine⟨by omega,by omega,fun j hj=>?_⟩
     rcases Nat.lt_or_ge j i with h1 | h1
     ·exact hsame j h1
     ·have:j=i:=by omega
      subst this
      rw[hx,hy,hxy]
   ·have c1:decide ((i:Int)<(A.length:Int))=false:=by simp;omega
    have:i=A.length:=by omega
    subst this
    have hAB:A=B:=SQ hlen hsame
    rw[decide_eq_true hAB]
    simp only[eE,seval,↓eP,hr,t0,t5,lA,c1]
end
section
variable {call:AM} {N:Nat} {h:AA}
end
section
variable {call:AM} {N:Nat} {h:AA}
end
section
variable {call:AM} {N:Nat} {h:AA}
end
section
variable {n:Nat} {h:AA} {va vb:Value}
theorem iK {A:List Int} {la lb:Nat} (ha:AX la h va A) (hb:AX lb h vb A) (hl:A.length<2932031007403) (hn:A.length+5<n):AS n 22 [va,vb] h=some (.bool true,h):=by
 obtain⟨n,rfl⟩:=C_ hn
 have:=Bb (N:=n) (FD n).2 ha hb (by omega) (by omega)
 rw[decide_eq_true rfl] at this
 exact EE (BT ⟨rfl,rfl,rfl⟩) rfl this
end
def LD (i:Nat):Int:=-77-(i:Int)
structure NL (h:AA) (o:Nat) (l L:List Int):Prop where
 g:h.get o=.row (ints L) 3 false false
 len:L.length=l.length+5
 own:∀ j,j<l.length→L[j]?=l[j]?
 marks:∀ q,q<5→L[l.length+q]?=some (LD (l.length+q))
theorem NL.cells {h:AA} {o:Nat} {l L:List Int} (hl:NL h o l L) {lo c:Nat} (ho:lo≤o∧o<h.next):AX lo h (qS o l.length c) l:=by
 have e:L=l++L.drop l.length:=by
  apply List.ext_getElem?
  intro j
  rcases Nat.lt_or_ge j l.length with h1 | h1
  ·rw[List.getElem?_append_left h1,hl.own j h1]
  ·rw[List.getElem?_append_right h1,List.getElem?_drop]
   congr 1
   omega
 have g:=hl.g
 rw[e] at g
 have g':h.get o=.row (ints l++ints (L.drop l.length)) 3 false false:=by rw[g];simp[ints]
 exact AP.row g' ho (by rw[F9];omega)
section
variable {call:AM} {N n:Nat} {h:AA}
end
section
variable {call:AM} {N n:Nat} {h:AA}
end
theorem NO:BG Tryd.prog 29=some 2:=by kernel_rfl
theorem Bt:E1 Tryd.prog 29=some true:=by kernel_rfl
theorem eI:CU Tryd.prog 29=some (.agg #[iv 0,Z0]):=by kernel_rfl
theorem Dh:H0 Tryd.prog (match Tryd.prog.underlying 29 with | some (.struct fs)=>fs.toList | _=>[])=some [(0,1),(1,1)]:=by kernel_rfl
theorem cS:flat (.agg #[iv 0,Z0])=true:=rfl
theorem xP {n:Int} {a:Option Addr} {m c:Nat}:CZ Tryd.prog 29 [(0,iv n),(1,.slice a m c)]=some (.agg #[iv n,.slice a m c]):=by
 have h:=Dh
 rw[Tryd.underlying29] at h
 simp only at h
 simp only[CZ,eI,cS,if_true,Tryd.underlying29,h]
 rfl
section
variable {h:AA} {id off:Nat}
theorem HB:DY Tryd.prog h 29 (qP id off)=BF 2 off (h.get id):=LX Bt NO
theorem K0:BJ Tryd.prog 29 (qP id off) 0=some (qP id off):=by simp[BJ,Tryd.underlying29,C4,CJ]
theorem NH:BJ Tryd.prog 29 (qP id off) 1=some (qP id (off+1)):=by simp[BJ,Tryd.underlying29,LI,CJ]
end
def FK (lo:Nat) (h:AA) (v:Value) (size:Int) (C:List Int):Prop:=∃ vc,v=.agg #[iv size,vc]∧AX lo h vc C
theorem FK.mono {lo:Nat} {h h':AA} {v:Value} {size:Int} {C:List Int} (hc:FK lo h v size C) (hn:h.next≤h'.next) (hg:∀ i,lo≤i→i<h.next→h'.get i=h.get i):FK lo h' v size C:=by
 obtain⟨vc,h1,h2⟩:=hc
 exact⟨vc,h1,AX.mono h2 hn hg⟩
structure TS (h:AA) (b:Nat) (v:Value) (size:Int) (C:List Int):Prop where
 v:v=.agg #[iv size,qS b C.length (C.length+5)]
 lt:b<h.next
 l:∃ L,NL h b C L
theorem TS.mono {h h':AA} {b:Nat} {v:Value} {size:Int} {C:List Int} (hl:TS h b v size C) (hn:h.next≤h'.next) (hg:h'.get b=h.get b):TS h' b v size C:=by
 obtain⟨hv,hlt,⟨L,hL⟩⟩:=hl
 exact⟨hv,by omega,L,by rw[hg];exact hL.g,hL.len,hL.own,hL.marks⟩
section
variable {n N:Nat} {h:AA}
end
def jI (i:Nat):AB:=⟨-9,ByteArray.empty,0,i,0⟩
structure XG (h:AA) (o:Nat) (l L:List AB):Prop where
 g:h.get o=.row (L.flatMap AW) 61 false false
 len:L.length=l.length+9
 own:∀ j,j<l.length→L[j]?=l[j]?
 marks:∀ q,q<9→L[l.length+q]?=some (jI (l.length+q))
structure MU (h:AA) (b:Nat) (v:Value) (nm:ByteArray) (s:AN):Prop where
 v:v=.agg #[.string nm,qS b s.rows.length (s.rows.length+9),qS (b+1) s.queues.length (s.queues.length+3),qS (b+2) s.vars.length (s.vars.length+3),qS (b+3) s.tags.length (s.tags.length+3),qS (b+4) s.rules.length (s.rules.length+5),qS (b+5) s.on.length (s.on.length+5),iv s.miss]
 lt:b+5<h.next
 r:∃ L,XG h b s.rows L
 q:h.get (b+1)=.row (C1 s.queues++BQ [.string ByteArray.empty,.bool false] 3) 102 false false
 w:h.get (b+2)=.row (C7 s.vars++BQ [.string ByteArray.empty] 3) 9 false false
 t:h.get (b+3)=.row (C7 s.tags++BQ [.string ByteArray.empty] 3) 9 false false
 u:∃ L,NL h (b+4) s.rules L
 o:∃ L,NL h (b+5) s.on L
theorem XG.cells {h:AA} {o:Nat} {l L:List AB} (hl:XG h o l L) {lo c:Nat} (ho:lo≤o∧o<h.next):HJ lo h (qS o l.length c) l:=by
 have e:L=l++L.drop l.length:=by
  apply List.ext_getElem?
  intro j
  rcases Nat.lt_or_ge j l.length with h1 | h1
  ·rw[List.getElem?_append_left h1,hl.own j h1]
  ·rw[List.getElem?_append_right h1,List.getElem?_drop]
   congr 1
   omega
 have g:=hl.g
 rw[e] at g
 have g':h.get o=.row (l.flatMap AW++(L.drop l.length).flatMap AW) 61 false false:=by rw[g,List.flatMap_append]
 exact HJ.of (AP.row g' ho (J2 l))
theorem MU.pol {h:AA} {b:Nat} {v:Value} {nm:ByteArray} {s:AN} (hl:MU h b v nm s):CO b h v nm s:=by
 obtain⟨hv,hlt,⟨L1,r⟩,q,w,t,⟨L2,u⟩,⟨L3,o⟩⟩:=hl
 have qn:∀ l:List (ByteArray × Bool),(C1 l).length=l.length*2:=fun l=>by
  unfold C1
  induction l with
  | nil=>rfl
  | cons x l ih=>rw[List.flatMap_cons,List.length_append,ih,List.length_cons];simp only[List.length_cons,List.length_nil];omega
 have ql:=qn s.queues
 exact⟨_,_,_,_,_,_,hv,r.cells ⟨by omega,by omega⟩,AP.row q ⟨by omega,by omega⟩ ql,AP.row w ⟨by omega,by omega⟩ (by simp[C7]),AP.row t ⟨by omega,by omega⟩ (by simp[C7]),u.cells ⟨by omega,by omega⟩,o.cells ⟨by omega,by omega⟩⟩
section
variable {t e:TypeId} {w b:Nat} {z:Value} {H:AA}
end
section
variable {n N:Nat} {h:AA}
end
theorem Bx {P:Program} {t e:TypeId} {w id n c i:Nat} (ht:P.underlying t=some (.slice e)) (he:BG P e=some w) (hi:i<n):CL P t (qS id n c) (iv (i:Int))=some (.pointer (some ⟨id,i*w,none⟩)):=by
 simp only[CL,ht,he,CJ]
 rw[if_pos (by omega)]
 simp
theorem U9 {H:AA} {id:Nat} {a b c d e f g i:Value} {ty:TypeId} {x y:Bool} (hg:H.get id=.row [a,b,c,d,e,f,g,i] ty x y):AJ 0 (H.get id)=some a∧AJ 1 (H.get id)=some b∧AJ 2 (H.get id)=some c∧AJ 3 (H.get id)=some d∧AJ 4 (H.get id)=some e∧AJ 5 (H.get id)=some f∧AJ 6 (H.get id)=some g∧AJ 7 (H.get id)=some i:=by
 rw[hg]
 exact cC
section
variable {n N:Nat} {h:AA}
end
theorem mF:∀ {l:List (ByteArray × Bool)} {k:Nat} {x:ByteArray × Bool},l[k]?=some x→(C1 l)[k*2]?=some (.string x.1)∧(C1 l)[k*2+1]?=some (.bool x.2)
 | [],k,x,h=>by simp at h
 | y :: l,0,x,h=>by
  cases h
  exact⟨rfl,rfl⟩
 | y :: l,k+1,x,h=>by
  have h':l[k]?=some x:=by simpa using h
  have e:C1 (y :: l)=.string y.1 :: .bool y.2 :: C1 l:=rfl
  obtain⟨a,b⟩:=mF h'
  rw[e]
  refine⟨?_,?_⟩
  ·rw[show (k+1)*2=k*2+1+1 by omega]
   exact a
  ·rw[show (k+1)*2+1=k*2+1+1+1 by omega]
   exact b
theorem fZ {l:List (ByteArray × Bool)} {i:Nat} {x:ByteArray × Bool} (hx:l[i]?=some x) {lo:Nat} {h:AA} {v:Value} (hc:AP lo h v l.length 2 (C1 l)):∃ id p,CL Tryd.prog 30 v (iv (i:Int))=some (qP id p)∧id<h.next∧AJ (p+1) (h.get id)=some (.bool x.2):=by
 obtain⟨id,p,h1,h2,h3⟩:=AP.idx hc Tryd.underlying30 O3 (List.getElem?_eq_some_iff.1 hx).1
 refine⟨id,p,h1,h2,?_⟩
 rw[h3 1 (by decide)]
 exact(mF hx).2
theorem XN {size:Int} {C:List Int} {Q:List (ByteArray × Bool)} (h:size<1∨size>1048576∨C.length≠Q.length):KY size C Q=false:=by
 unfold KY
 rw[if_pos h]
theorem aX {size:Int} {C:List Int} {Q:List (ByteArray × Bool)} (h:HP size (G9 C Q) 0 0=none):KY size C Q=false:=by
 unfold KY
 split
 ·rfl
 ·rw[h]
theorem Iz {size r o:Int} {C:List Int} {Q:List (ByteArray × Bool)} (h1:1≤size) (h2:size≤1048576) (h3:C.length=Q.length) (h:HP size (G9 C Q) 0 0=some (r,o)):KY size C Q=decide (min size r+o≤4194304):=by
 unfold KY
 rw[if_neg (by omega),h]
theorem Jf (a b:Int):(if b<a then b else a)=min a b:=by
 by_cases h:b<a
 ·rw[if_pos h];omega
 ·rw[if_neg h];omega
section
variable {n N:Nat} {h:AA}
theorem sS {nm:ByteArray} {s:AN} {pv cv:Value} {lo lc:Nat} {size:Int} {C:List Int} (hp:CO lo h pv nm s) (hc:FK lc h cv size C) (hC:C.length<17592186044416) (hQ:s.queues.length<2932031007403) (hN:C.length+10<N) :
  ∃ h',A8 Tryd.prog (AS n) N 39 [pv,cv] h=some (.bool (KY size C s.queues),h')∧∀ i,i<h.next→h'.get i=h.get i:=by
 obtain⟨vr,vq,vv,vt,vu,vo,rfl,p1,p2,p3,p4,p5,p6⟩:=id hp
 obtain⟨vc,rfl,pc⟩:=id hc
 refine EL (R:=fun h'=>∀ i,i<h.next→h'.get i=h.get i) Tryd.func39 rfl (by simp[Tryd.f39]) ?_
 have hr:Tryd.f39.results.toList=[.tmp 4]:=rfl
 have ca:=E_ [.string nm,vr,vq,vv,vt,vu,vo,iv s.miss]
 have oa:=KI (nm:=nm) p1 p2 p3 p4 p5 p6
 have cb:=E_ [iv size,vc]
 have ob:[iv size,vc].all one=true:=by simp only[List.all_cons,List.all_nil,AP.one pc,KH,Bool.and_self]
 obtain⟨gA,gB,nG,fG,gO⟩:=Q2 h (.row [.string nm,vr,vq,vv,vt,vu,vo,iv s.miss] 33 false false) (.row [iv size,vc] 29 false false)
 simp only[eE,seval,↓eP,F5,E9,F6,ca,oa,cb,ob,HU,NO]
 generalize (h.push (.row [.string nm,vr,vq,vv,vt,vu,vo,iv s.miss] 33 false false)).push (.row [iv size,vc] 29 false false)=Q at *
 obtain⟨x0,x1,x2,x3,x4,x5,x6,x7⟩:=U9 gA
 have y0:AJ 0 (Q.get (h.next+1))=some (iv size):=by rw[gB];rfl
 have y1:AJ 1 (Q.get (h.next+1))=some vc:=by rw[gB];rfl
 have lenC:=fun h'=>KQ pc h'
 have lenQ:=fun h'=>TU p2 h'
 have pq:AP lo Q vq s.queues.length 2 (C1 s.queues):=p2.mono (by omega) fun i _ hi=>gO i hi
 have pC:AX lc Q vc C:=AX.mono pc (by omega) fun i _ hi=>gO i hi
 cases d1:decide (size<1) with
 | true=>
  rw[XN (.inl (by simpa using d1))]
  simp only[eE,seval,↓eP,hr,K0,AU,y0,d1]
  exact gO
 | false=>
 have e1:1≤size:=by simp only[decide_eq_false_iff_not] at d1;omega
 cases d2:decide (size>1048576) with
 | true=>
  rw[XN (.inr (.inl (by simpa using d2)))]
  simp only[eE,seval,↓eP,hr,K0,AU,y0,d1,d2]
  exact gO
 | false=>
 have e2:size≤1048576:=by simp only[decide_eq_false_iff_not] at d2;omega
 cases d3:((C.length:Int) != (s.queues.length:Int)) with
 | true=>
  rw[XN (.inr (.inr (fun h9=>by rw[h9] at d3;simp at d3)))]
  simp only[eE,seval,↓eP,hr,Nat.zero_add,K0,NH,FX,AU,DV,FY,y0,y1,x2,lenC,lenQ,d1,d2,d3]
  exact gO
 | false=>
 have e3:C.length=s.queues.length:=by
  have h9:(C.length:Int)=(s.queues.length:Int):=by simpa using d3
  omega
 simp only[eE,seval,↓eP,Nat.zero_add,K0,NH,FX,AU,DV,FY,y0,y1,x2,lenC,lenQ,d1,d2,d3]
 refine WK.loop (fun i s'=>s'.T.get 2=qP h.next 0∧s'.T.get 3=qP (h.next+1) 0∧s'.T.get 27=vc∧s'.T.get 28=iv (C.length:Int)∧s'.T.get 29=iv (i:Int)∧s'.h=Q∧i≤C.length∧∃ r o:Int,s'.T.get 5=iv r∧s'.T.get 6=iv o∧0≤r∧r≤1048576*(i:Int)∧0≤o∧o≤1048576*(i:Int)∧HP size ((G9 C s.queues).drop i) r o=HP size (G9 C s.queues) 0 0) C.length (by omega) ?_ ?_
 ·exact⟨by simp only[eE,seval,↓eP,rP],by simp only[eE,seval,↓eP,rP],by simp only[eE,seval,↓eP,rP],by simp only[eE,seval,↓eP,rP],by simp only[eE,seval,↓eP,rP] <;> rfl,rfl,by omega,0,0,by simp only[eE,seval,↓eP,rP] <;> rfl,by simp only[eE,seval,↓eP,rP] <;> rfl,by omega,by omega,by omega,by omega,by rw[List.drop_zero]⟩
 rintro i ⟨T1,H1⟩ hi ⟨t2,t3,t27,t28,t29,hh,hil,r,o,t5,t6,r0,r1,o0,o1,hgo⟩
 simp only at t2 t3 t27 t28 t29 t5 t6 hh
 subst hh
 have hbd:1048576*(i:Int)≤1048576*2932031007403:=by omega
 by_cases hlt:i<C.length
 ·have c1:decide ((i:Int)<(C.length:Int))=true:=by simp;omega
  obtain⟨m,hm⟩:∃ m,C[i]?=some m:=⟨_,List.getElem?_eq_getElem hlt⟩
  obtain⟨q,hq⟩:∃ q,s.queues[i]?=some q:=⟨_,List.getElem?_eq_getElem (by omega)⟩
  obtain⟨ida,pa,ea,_,xa⟩:=AX.get pC hm
  obtain⟨idb,pb,eb,_,xb⟩:=fZ hq pq
  have w1:=EU i (by omega)
  cases d4:decide (m<1) with
  | true=>
   rw[aX (by rw[← hgo];exact ZX hm hq (.inl (by simpa using d4)))]
   simp only[eE,seval,↓eP,hr,t27,t28,t29,c1,AU,ea,xa,d4]
   exact gO
  | false=>
  have e4:1≤m:=by simp only[decide_eq_false_iff_not] at d4;omega
  cases d5:decide (m>1048576) with
  | true=>
   rw[aX (by rw[← hgo];exact ZX hm hq (.inr (.inl (by simpa using d5))))]
   simp only[eE,seval,↓eP,hr,t27,t28,t29,c1,AU,ea,xa,d4,d5]
   exact gO
  | false=>
  have e5:m≤1048576:=by simp only[decide_eq_false_iff_not] at d5;omega
  have wo:IntKind.i64.wrap (o+m)=o+m:=C9 (by omega) (by omega)
  have wr:IntKind.i64.wrap (r+m)=r+m:=C9 (by omega) (by omega)
  cases d6:q.2 with
  | true=>
   have xb':AJ (pb+1) (H1.get idb)=some (.bool true):=by rw[← d6];exact xb
   simp only[eE,seval,↓eP,hr,Nat.zero_add,t2,t3,t27,t28,t29,t5,t6,c1,FX,MN,AU,FY,E8,x2,ea,xa,eb,d4,d5,xb',wo,w1]
   exact⟨hlt,by omega,r,o+m,rfl,rfl,by omega,by omega,by omega,by omega,by rw[← hgo,qY hm hq ⟨e4,e5⟩ d6]⟩
  | false=>
  have xb':AJ (pb+1) (H1.get idb)=some (.bool false):=by rw[← d6];exact xb
  cases d7:decide (m>size) with
  | true=>
   rw[aX (by rw[← hgo];exact ZX hm hq (.inr (.inr ⟨d6,by simpa using d7⟩)))]
   simp only[eE,seval,↓eP,hr,Nat.zero_add,t2,t3,t27,t28,t29,c1,K0,FX,MN,AU,FY,E8,y0,x2,ea,xa,eb,d4,d5,xb',d7]
   exact gO
  | false=>
  have e7:m≤size:=by simp only[decide_eq_false_iff_not] at d7;omega
  simp only[eE,seval,↓eP,hr,Nat.zero_add,t2,t3,t27,t28,t29,t5,t6,c1,K0,FX,MN,AU,FY,E8,y0,x2,ea,xa,eb,d4,d5,xb',d7,wr,w1]
  exact⟨hlt,by omega,r+m,o,rfl,rfl,by omega,by omega,by omega,by omega,by rw[← hgo,sO hm hq ⟨e4,e5⟩ d6 e7]⟩
 have c1:decide ((i:Int)<(C.length:Int))=false:=by simp;omega
 rw[Iz (r:=r) (o:=o) e1 e2 e3 (by rw[← hgo];exact Bd e3 (by omega))]
 have wz:IntKind.i64.wrap ((if r<size then r else size)+o)=(if r<size then r else size)+o:=C9 (by split <;> omega) (by split <;> omega)
 simp only[eE,seval,↓eP,hr,t3,t28,t29,t5,t6,c1,K0,AU,y0,wz]
 rw[Jf]
 exact⟨rfl,gO⟩
theorem yQ {nm:ByteArray} {s:AN} {pv cv:Value} {lo lc:Nat} {size:Int} {C:List Int} (hp:CO lo h pv nm s) (hc:FK lc h cv size C) (hC:C.length<17592186044416) (hQ:s.queues.length<2932031007403) (hn:C.length+20<n):AS n 39 [pv,cv] h=some (.bool (KY size C s.queues),h):=by
 obtain⟨n,rfl⟩:=C_ hn
 exact JQ (BT ⟨rfl,rfl,rfl⟩) rfl (sS (n:=n) (N:=n) hp hc hC hQ (by omega))
end
theorem PF {Q:List (ByteArray × Bool)} {lo:Nat} {h:AA} {v:Value} (hc:AP lo h v Q.length 2 (C1 Q)) {m:Int} (h0:0≤m) (h1:m<Q.length):∃ id p,CL Tryd.prog 30 v (iv m)=some (qP id p)∧id<h.next∧AJ (p+1) (h.get id)=some (.bool (LJ Q m)):=by
 obtain⟨q,hq⟩:∃ q,Q[m.toNat]?=some q:=⟨_,List.getElem?_eq_getElem (by omega)⟩
 obtain⟨id,p,a,b,c⟩:=fZ hq hc
 rw[show ((m.toNat:Nat):Int)=m by omega] at a
 refine⟨id,p,a,b,?_⟩
 rw[c]
 unfold LJ
 rw[hq]
 rfl
section
variable {Q:List (ByteArray × Bool)} {x up:AB}
theorem aE (h:x.kind=8∨x.kind=17∨x.kind=20):IX Q x up=LJ Q x.n:=by
 unfold IX
 rw[if_pos (by rcases h with h | h | h <;> rw[h] <;> rfl)]
theorem mQ (h:x.kind=9∨x.kind=21):IX Q x up = !(LJ Q x.n):=by
 unfold IX
 rw[if_neg (by rcases h with h | h <;> rw[h] <;> decide),if_pos (by rcases h with h | h <;> rw[h] <;> rfl)]
theorem tG (h:x.kind=24) (h2:up.kind=20):IX Q x up = !(LJ Q x.n):=by
 unfold IX
 rw[if_neg (by rw[h];decide),if_neg (by rw[h];decide),if_pos h,if_pos h2]
theorem zR (h:x.kind=24) (h2:up.kind≠20):IX Q x up=(LJ Q x.n != LJ Q up.n):=by
 unfold IX
 rw[if_neg (by rw[h];decide),if_neg (by rw[h];decide),if_pos h,if_neg h2]
theorem Jl (h:x.kind≠8∧x.kind≠17∧x.kind≠20∧x.kind≠9∧x.kind≠21∧x.kind≠24):IX Q x up=false:=by
 obtain⟨h1,h2,h3,h4,h5,h6⟩:=h
 unfold IX
 rw[if_neg (by simp[h1,h2,h3]),if_neg (by simp[h4,h5]),if_neg h6]
end
theorem M1 {t:TypeId} {k:Nat} (ht:BG Tryd.prog t=some k) {H:AA} {vs zs:List Value} (hz:zs.length=k) (hl:vs.length=k) (ho:vs.all one=true) (hf:H.floor≤H.next) :
  ∃ H',A_ Tryd.prog (H.push (.row zs t false false)) t (qP H.next 0) (.agg vs.toArray)=some H'∧H'.get H.next=.row vs t false false∧H'.next=H.next+1∧H'.floor=H.floor∧∀ i,i<H.next→H'.get i=H.get i:=
 ⟨_,JX ht (BM (h:=H)) hz hl ho hf,B0 rfl (by show H.next<H.next+1;omega),rfl,rfl,fun i hi=>by rw[AV (by show H.next<H.next+1;omega) (by omega),AR hi]⟩
def X2:List (Bool × Bool × List Operand):=[AQ,AQ,AH [.tmp 44],AH [.tmp 44],AQ,AQ,AQ,AH [.tmp 44,.tmp 46,.tmp 49],AH [.tmp 44,.tmp 46,.tmp 49],AH [.tmp 44,.tmp 46,.tmp 49,.tmp 51],AH [.tmp 44,.tmp 46,.tmp 49,.tmp 51],AH [.tmp 44,.tmp 46,.tmp 49],AH [.tmp 44,.tmp 46,.tmp 49],AH [.tmp 44,.tmp 46,.tmp 49],AK,AK]
section
variable {n N:Nat} {h:AA}
theorem sC {nm:ByteArray} {s:AN} {pv:Value} {lo:Nat} {x up:AB} (hp:CO lo h pv nm s) (hx:[8,17,20,9,21,24].contains x.kind=true→0≤x.n∧x.n<s.queues.length) (hu:x.kind=24→up.kind≠20→0≤up.n∧up.n<s.queues.length) :
  ∃ h',A8 Tryd.prog (AS n) N 42 [pv,CA x,CA up] h=some (.bool (IX s.queues x up),h')∧∀ i,i<h.next→h'.get i=h.get i:=by
 obtain⟨vr,vq,vv,vt,vu,vo,rfl,p1,p2,p3,p4,p5,p6⟩:=id hp
 have hsn:=(FD n).2
 refine EL (R:=fun h'=>∀ i,i<h.next→h'.get i=h.get i) Tryd.func42 rfl (by simp[Tryd.f42]) ?_
 have hr:Tryd.f42.results.toList=[.tmp 6]:=rfl
 have ca:=E_ [.string nm,vr,vq,vv,vt,vu,vo,iv s.miss]
 have oa:=KI (nm:=nm) p1 p2 p3 p4 p5 p6
 have cx:(CA x).cells.toList=AW x:=rfl
 have ox:(AW x).all one=true:=rfl
 have cu:(CA up).cells.toList=AW up:=rfl
 have ou:(AW up).all one=true:=rfl
 obtain⟨gA,gX,gU,nG,fG,gO⟩:=T9 h (.row [.string nm,vr,vq,vv,vt,vu,vo,iv s.miss] 33 false false) (.row (AW x) 61 false false) (.row (AW up) 61 false false)
 simp only[eE,seval,↓eP,F5,E9,F6,ca,oa,cx,ox,cu,ou,HU,FV]
 generalize ((h.push (.row [.string nm,vr,vq,vv,vt,vu,vo,iv s.miss] 33 false false)).push (.row (AW x) 61 false false)).push (.row (AW up) 61 false false)=G at *
 have nn:h.next+1+1=h.next+2:=rfl
 obtain⟨a0,a1,a2,a3,a4,a5,a6,a7⟩:=U9 gA
 have x0:AJ 0 (G.get (h.next+1))=some (iv x.kind):=by rw[gX];rfl
 have x3:AJ 3 (G.get (h.next+1))=some (iv x.n):=by rw[gX];rfl
 have u0:AJ 0 (G.get (h.next+2))=some (iv up.kind):=by rw[gU];rfl
 have u3:AJ 3 (G.get (h.next+2))=some (iv up.n):=by rw[gU];rfl
 have pq:AP lo G vq s.queues.length 2 (C1 s.queues):=p2.mono (by omega) fun i _ hi=>gO i hi
 cases c8:(x.kind==8) with
 | true=>
  have k:=beq_iff_eq.1 c8
  obtain⟨h1,h2⟩:=hx (by rw[k];rfl)
  obtain⟨id,p,e1,e2,e3⟩:=PF pq h1 h2
  rw[aE (.inl k)]
  simp only[eE,seval,↓eP,hr,nn,Nat.zero_add,F8,AU,FX,FY,MN,E8,a2,x0,x3,c8,e1,e3]
  exact gO
 | false=>
 cases c17:(x.kind==17) with
 | true=>
  have k:=beq_iff_eq.1 c17
  obtain⟨h1,h2⟩:=hx (by rw[k];rfl)
  obtain⟨id,p,e1,e2,e3⟩:=PF pq h1 h2
  rw[aE (.inr (.inl k))]
  simp only[eE,seval,↓eP,hr,nn,Nat.zero_add,F8,AU,FX,FY,MN,E8,a2,x0,x3,c8,c17,e1,e3]
  exact gO
 | false=>
 cases c20:(x.kind==20) with
 | true=>
  have k:=beq_iff_eq.1 c20
  obtain⟨h1,h2⟩:=hx (by rw[k];rfl)
  obtain⟨id,p,e1,e2,e3⟩:=PF pq h1 h2
  rw[aE (.inr (.inr k))]
  simp only[eE,seval,↓eP,hr,nn,Nat.zero_add,F8,AU,FX,FY,MN,E8,a2,x0,x3,c8,c17,c20,e1,e3]
  exact gO
 | false=>
 cases c9:(x.kind==9) with
 | true=>
  have k:=beq_iff_eq.1 c9
  obtain⟨h1,h2⟩:=hx (by rw[k];rfl)
  obtain⟨id,p,e1,e2,e3⟩:=PF pq h1 h2
  rw[mQ (.inl k)]
  simp only[eE,seval,↓eP,hr,nn,Nat.zero_add,F8,AU,FX,FY,MN,E8,a2,x0,x3,c8,c17,c20,c9,e1,e3]
  exact gO
 | false=>
 cases c21:(x.kind==21) with
 | true=>
  have k:=beq_iff_eq.1 c21
  obtain⟨h1,h2⟩:=hx (by rw[k];rfl)
  obtain⟨id,p,e1,e2,e3⟩:=PF pq h1 h2
  rw[mQ (.inr k)]
  simp only[eE,seval,↓eP,hr,nn,Nat.zero_add,F8,AU,FX,FY,MN,E8,a2,x0,x3,c8,c17,c20,c9,c21,e1,e3]
  exact gO
 | false=>
 cases c24:(x.kind==24) with
 | false=>
  simp only[beq_eq_false_iff_ne] at c8 c17 c20 c9 c21 c24
  rw[Jl ⟨c8,c17,c20,c9,c21,c24⟩]
  rw[← beq_eq_false_iff_ne] at c8 c17 c20 c9 c21 c24
  simp only[eE,seval,↓eP,hr,nn,x0,c8,c17,c20,c9,c21,c24]
  exact gO
 | true=>
 have k:=beq_iff_eq.1 c24
 obtain⟨h1,h2⟩:=hx (by rw[k];rfl)
 obtain⟨id,p,e1,e2,e3⟩:=PF pq h1 h2
 cases cu20:(up.kind==20) with
 | true=>
  rw[tG k (beq_iff_eq.1 cu20)]
  simp only[eE,seval,↓eP,hr,nn,Nat.zero_add,C2,F8,AU,FX,FY,MN,E8,a2,x0,x3,u0,c8,c17,c20,c9,c21,c24,cu20,e1,e3]
  exact gO
 | false=>
 have ku:up.kind≠20:=by simpa using cu20
 obtain⟨h3,h4⟩:=hu k ku
 obtain⟨id2,p2',e4,e5,e6⟩:=PF pq h3 h4
 rw[zR k ku]
 simp only[eE,seval,↓eP,nn,C2,AU,x0,u0,c8,c17,c20,c9,c21,c24,cu20]
 refine WK.flags (fs:=X2) (by kernel_rfl) ?_
 unfold X2
 iterate 16
  refine D9 hsn ?_
  simp only[rG,seval,AC,AF,AE,CT,DU,CK,C6,EA,FX,FY,a2,F8,AU,x3,e1,MN,e3,E8,u3,e4,e6,cE]
 refine D4 ?_
 simp only[eE,seval,↓eP,hr]
 exact gO
theorem Hd {nm:ByteArray} {s:AN} {pv:Value} {lo:Nat} {x up:AB} (hp:CO lo h pv nm s) (hx:[8,17,20,9,21,24].contains x.kind=true→0≤x.n∧x.n<s.queues.length) (hu:x.kind=24→up.kind≠20→0≤up.n∧up.n<s.queues.length) (hn:0<n):AS n 42 [pv,CA x,CA up] h=some (.bool (IX s.queues x up),h):=by
 obtain⟨n,rfl⟩:=C_ hn
 exact JQ (BT ⟨rfl,rfl,rfl⟩) rfl (sC (n:=n) (N:=n) hp hx hu)
end
section
variable {n N:Nat} {h:AA}
end
theorem SK {P:Program} {call:AM} {n:Nat} {c:Code} {s:St} {k:CG} (Q:D7→St→Prop) (h1:WK P call n c s (.top Q)) (h2:∀ e s',Q e s'→k.ap P call n e s'):WK P call n c s k:=WS.mono h1 h2
def C0 (l:List Bool):List Value:=l.map (.bool ·)
theorem Ds (l:List Bool):(C0 l).length=l.length:=by simp[C0]
theorem jM:GL Tryd.prog 4=some 1:=by kernel_rfl
theorem j_:CU Tryd.prog 4=some (.bool false):=by kernel_rfl
theorem cV (n:Nat):BQ [Value.bool false] n=C0 (List.replicate n false):=by
 induction n with
 | zero=>rfl
 | succ n ih=>
  rw[List.replicate_succ]
  show [Value.bool false]++BQ [Value.bool false] n=_
  rw[ih]
  rfl
theorem O4 {l:List Bool} {i:Nat} {x:Bool} {ty:TypeId} {g ro:Bool} (hx:l[i]?=some x):AJ i (.row (C0 l) ty g ro)=some (.bool x):=by simp[AJ,C0,hx]
theorem UW {h:AA} {id i:Nat} {l:List Bool} {x:Bool} {ty:TypeId} {g:Bool} (hg:h.get id=.row (C0 l) ty g false) (hi:i<l.length) (hf:h.floor≤id):A_ Tryd.prog h 4 (qP id i) (.bool x)=some (h.put id (.row (C0 (l.set i x)) ty g false)):=by
 have:=HW (v:=.bool x) (off:=i) OR rfl rfl hg (by rw[Ds];exact hi) hf
 rw[this]
 simp[C0,List.map_set]
theorem SW {id n c i:Nat} (hi:i<n):CL Tryd.prog 76 (qS id n c) (iv (i:Int))=some (qP id i):=by
 have:=Bx (id:=id) (n:=n) (c:=c) (i:=i) Tryd.underlying76 OR hi
 rwa [Nat.mul_one] at this
structure MK (h H:AA) (P:List Value) (TP:List Int) (M:GJ):Prop where
 p:H.get h.next=.row P 33 false false
 f:H.get (h.next+1)=.row [iv 0,iv 0] 36 false false
 t:H.get (h.next+2)=.row (ints TP) 3 false false
 a:H.get (h.next+3)=.row (ints M.A) 3 false false
 c:H.get (h.next+4)=.row (C0 M.C) 4 false false
 u:H.get (h.next+5)=.row (ints M.U) 3 false false
 n:h.next+6≤H.next
 fl:H.floor=h.floor
 o:∀ i,i<h.next→H.get i=h.get i
theorem MK.mono {h H H':AA} {P:List Value} {TP:List Int} {M:GJ} (hT:MK h H P TP M) (hn:H.next≤H'.next) (hf:H'.floor=H.floor) (hg:∀ i,i<h.next+6→H'.get i=H.get i):MK h H' P TP M:=
 ⟨by rw[hg _ (by omega)];exact hT.p,by rw[hg _ (by omega)];exact hT.f,by rw[hg _ (by omega)];exact hT.t,by rw[hg _ (by omega)];exact hT.a,by rw[hg _ (by omega)];exact hT.c,by rw[hg _ (by omega)];exact hT.u,by have:=hT.n;omega,hf.trans hT.fl,fun i hi=>by rw[hg i (by omega)];exact hT.o i hi⟩
theorem MW {H:AA} {id:Nat} (hg:H.get id=.row [iv 0,iv 0] 36 false false) (hid:id<H.next) (hf:H.floor≤id) (e a:Int) :
  ∃ H',A_ Tryd.prog H 36 (qP id 0) (CD e a)=some H'∧BF 2 0 (H'.get id)=some (CD e a)∧H'.next=H.next∧H'.floor=H.floor∧∀ i,i≠id→H'.get i=H.get i:=
 ⟨_,JX JS (vs:=[iv e,iv a]) hg rfl rfl rfl hf,by rw[B0 rfl hid];rfl,rfl,rfl,fun i hi=>AV hid (Ne.symm hi)⟩
def TA:List (Bool × Bool × List Operand):=[AK,AK,AK,AK,AK,AK,AQ,AQ,AQ,AQ,AH [.tmp 59],AH [.tmp 59],AH [.tmp 59],AH [.tmp 59],AK,AK,AK]
def SS:List (Bool × Bool × List Operand):=[AQ,AH [.tmp 1],AH [.tmp 1,.tmp 10],AH [.tmp 1,.tmp 10],AH [.tmp 1,.tmp 10,.tmp 84],AH [.tmp 1,.tmp 10,.tmp 84],AH [.tmp 1,.tmp 10,.tmp 84],AH [.tmp 1,.tmp 10,.tmp 84],AH [.tmp 1,.tmp 10],AH [.tmp 1,.tmp 10],AK,AK]
def TB:List (Bool × Bool × List Operand):=[EN,EN,EN,EN,EN,EN,AQ,AQ,AH [.tmp 122],AH [.tmp 122],AQ,FO [.tmp 122],FO [.tmp 122],FO [.tmp 122],FO [.tmp 122],AK,AK,AK,AH [.tmp 132],AK,AK,FO [.tmp 122,.tmp 129,.tmp 132],AK,AK,AK,AK,AK,AK]
def Fg (h H2:AA) (D m i:Nat) (vr:Value) (B:Int) (e:D7) (s':St):Prop:=
 (e=.normal∧s'.h=H2∧s'.T.get 1=qP h.next 0∧s'.T.get 3=qP (h.next+1) 0∧s'.T.get 5=qS (h.next+2) m m∧s'.T.get 6=qS (h.next+3) m m∧s'.T.get 7=qS (h.next+4) m m∧s'.T.get 8=qS (h.next+5) m m∧s'.T.get 37=vr∧s'.T.get 38=iv (m:Int)∧s'.T.get 39=iv (i:Int)∧s'.T.get 9=iv (i:Int)∧s'.T.get 10=qP D 0∧B=0) ∨
  (e=.ret∧s'.T.get 2=Z0∧s'.T.get 3=qP (h.next+1) 0∧B≠0∧BF 2 0 (s'.h.get (h.next+1))=some (CD B i)∧s'.h.floor=h.floor∧h.next≤s'.h.next∧∀ j,j<h.next→s'.h.get j=h.get j)
theorem sL {h1:AA} {lo:Nat} {tv:Value} {l:List Int} {e a:Int} (ht:AX lo h1 tv l) (hf:EF (.tuple #[tv,CD e a])=true) (h:AA):AX lo h tv l:=by
 obtain⟨hl,a',c,rfl,⟨h0,h1⟩ | ⟨id,off,row,ty,g,ro,rfl,_⟩⟩:=ht
 ·exact⟨hl,a',c,rfl,.inl ⟨h0,h1⟩⟩
 ·simp[EF,flat,BI] at hf
section
variable {n N:Nat} {h:AA}
theorem wV {nm : ByteArray} {s:AN} {pv:Value} {lo:Nat} (hp:CO lo h pv nm s) (hlies:∀ nm' vr vq vv vt vu vo m,pv=.agg #[.string nm',vr,vq,vv,vt,vu,vo,m]→JN vr s.rows.length) (hs:JJ s) (hl:s.rows.length<2932031007403) (hg:h.get 0=CW) (hn0:0<h.next) (hfl:h.floor≤h.next) (hn:2*FZ s+400<n) (hN:s.rows.length+40<N) :
  ∃ v' h',A8 Tryd.prog (AS n) N 19 [pv] h=some (v',h')∧bJ h' h.next v' (B_ nm s)∧h'.floor=h.floor∧h.next≤h'.next∧∀ i,i<h.next→h'.get i=h.get i:=by
 obtain⟨vr,vq,vv,vt,vu,vo,rfl,p1,p2,p3,p4,p5,p6⟩:=id hp
 have hsn:=(FD n).2
 have htot:FZ s=s.rows.length+s.queues.length+s.vars.length+s.tags.length+s.rules.length+s.on.length:=rfl
 refine S3 (R:=fun v' h'=>bJ h' h.next v' (B_ nm s)∧h'.floor=h.floor∧h.next≤h'.next∧∀ i,i<h.next→h'.get i=h.get i) Tryd.func19 rfl (by simp[Tryd.f19]) ?_
 have hr:Tryd.f19.results.toList=[.tmp 2,.cell 3 36]:=rfl
 have ca:=E_ [.string nm,vr,vq,vv,vt,vu,vo,iv s.miss]
 have oa:=KI (nm:=nm) p1 p2 p3 p4 p5 p6
 obtain⟨gA,gF,nG,fG,gO⟩:=Q2 h (.row [.string nm,vr,vq,vv,vt,vu,vo,iv s.miss] 33 false false) (.row [iv 0,iv 0] 36 false false)
 simp only[eE,seval,↓eP,F5,E9,F6,ca,oa,HU,E2,EZ,F7]
 generalize (h.push (.row [.string nm,vr,vq,vv,vt,vu,vo,iv s.miss] 33 false false)).push (.row [iv 0,iv 0] 36 false false)=Q at *
 have lA:BF 8 0 (Q.get h.next)=some (.agg #[.string nm,vr,vq,vv,vt,vu,vo,iv s.miss]):=MS gA rfl
 have x1:AJ 1 (Q.get h.next)=some vr:=by rw[gA];rfl
 have hpQ:CO lo Q (.agg #[.string nm,vr,vq,vv,vt,vu,vo,iv s.miss]) nm s:=hp.mono (by omega) fun i _ hi=>gO i hi
 have hchk:=jY (n:=n) hpQ hlies hs (by omega) (by omega) (by rw[gO 0 hn0];exact hg) (by omega) (by omega)
 cases d1:(FF nm s != 0) with
 | true=>
  obtain⟨H',s1,s2,s3,s4,s5⟩:=MW gF (by omega) (by omega) (FF nm s) 0
  have e:B_ nm s=((FF nm s,0),[]):=by unfold B_;rw[if_pos (by simpa using d1)]
  rw[e]
  simp only[eE,seval,↓eP,hr,EM,lA,hchk,d1,RH,s1,EB,s2]
  exact⟨⟨_,rfl,AP.nil _ _ _⟩,by omega,by omega,fun i hi=>by rw[s5 i (by omega)];exact gO i hi⟩
 | false=>
 have e1:FF nm s=0:=by simpa using d1
 have hG:=YC e1
 have eR:B_ nm s=GD s.rows s.queues (AD (BC s.rows)) s.rows.length 0:=by unfold B_;rw[if_neg (by rw[e1];decide)]
 rw[eR]
 generalize hZ:BC s.rows=Z at *
 clear hZ eR
 have hsl:=hG.sk.1
 have npos:0<s.rows.length:=by have:=hG.t.pos;omega
 have len1:=fun h'=>PB p1.2 h'
 have LD:∀ H:AA,GO Tryd.prog H 27 (iv (s.rows.length:Int)) (iv (s.rows.length:Int))=some (qS H.next s.rows.length s.rows.length,H.push (.row (ints (List.replicate s.rows.length 0)) 3 false false)):=fun H=>by
  have:=RK (P:=Tryd.prog) (h:=H) (t:=27) (e:=3) (z:=.int .i64 0) Tryd.underlying27 C4 J1 HZ rfl rfl (by decide) (by decide) (n:=s.rows.length) (by omega)
  rw[show BQ (Value.int IntKind.i64 0).cells.toList s.rows.length=ints (List.replicate s.rows.length 0) from QJ _] at this
  exact this
 have mkB:∀ H:AA,GO Tryd.prog H 76 (iv (s.rows.length:Int)) (iv (s.rows.length:Int))=some (qS H.next s.rows.length s.rows.length,H.push (.row (C0 (List.replicate s.rows.length false)) 4 false false)):=fun H=>by
  have:=RK (P:=Tryd.prog) (h:=H) (t:=76) (e:=4) (z:=.bool false) Tryd.underlying76 OR jM j_ rfl rfl (by decide) (by decide) (n:=s.rows.length) (by omega)
  rw[show BQ (Value.bool false).cells.toList s.rows.length=C0 (List.replicate s.rows.length false) from cV _] at this
  exact this
 have q1:∀ a,AJ 1 ((Q.push a).get h.next)=some vr:=fun a=>by rw[AR (by omega)];exact x1
 have q2:∀ a b,AJ 1 (((Q.push a).push b).get h.next)=some vr:=fun a b=>by rw[AR (by show h.next<Q.next+1;omega)];exact q1 a
 have q3:∀ a b c,AJ 1 ((((Q.push a).push b).push c).get h.next)=some vr:=fun a b c=>by rw[AR (by show h.next<Q.next+2;omega)];exact q2 a b
 have q4:∀ a b c d,AJ 1 (((((Q.push a).push b).push c).push d).get h.next)=some vr:=fun a b c d=>by rw[AR (by show h.next<Q.next+3;omega)];exact q3 a b c
 have g4:∀ (a b c d:A9),let A:=(((Q.push a).push b).push c).push d
   A.get Q.next=a∧A.get (Q.next+1)=b∧A.get (Q.next+2)=c∧A.get (Q.next+3)=d∧A.next=Q.next+4∧A.floor=Q.floor∧∀ i,i<Q.next→A.get i=Q.get i:=fun a b c d=>
  ⟨by rw[AR (by show Q.next<Q.next+3;omega),AR (by show Q.next<Q.next+2;omega)];exact OA,
   by rw[AR (by show Q.next+1<Q.next+3;omega),AR (by show Q.next+1<Q.next+2;omega)];exact OL,
   by rw[AR (by show Q.next+2<Q.next+3;omega)];exact BM (h:=(Q.push a).push b),BM (h:=((Q.push a).push b).push c),rfl,rfl,
   fun i hi=>by rw[AR (by show i<Q.next+3;omega),AR (by show i<Q.next+2;omega),AR (by show i<Q.next+1;omega),AR hi]⟩
 have h4:=g4 (.row (ints (List.replicate s.rows.length 0)) 3 false false) (.row (ints (List.replicate s.rows.length 0)) 3 false false) (.row (C0 (List.replicate s.rows.length false)) 4 false false) (.row (ints (List.replicate s.rows.length 0)) 3 false false)
 simp only[eE,seval,↓eP,EM,lA,hchk,d1,Nat.zero_add,DI,DK,x1,q1,q2,q3,q4,len1,LD,mkB]
 obtain⟨ga,gb,gc,gd,n4,f4,o4⟩:=h4
 generalize (((Q.push (.row (ints (List.replicate s.rows.length 0)) 3 false false)).push (.row (ints (List.replicate s.rows.length 0)) 3 false false)).push (.row (C0 (List.replicate s.rows.length false)) 4 false false)).push (.row (ints (List.replicate s.rows.length 0)) 3 false false)=B at *
 have hT0:MK h B [.string nm,vr,vq,vv,vt,vu,vo,iv s.miss] (List.replicate s.rows.length 0) (BK s.rows (AD Z) 0):=by
  rw[nG] at ga gb gc gd
  exact⟨by rw[o4 _ (by omega)];exact gA,by rw[o4 _ (by omega)];exact gF,ga,gb,gc,gd,by omega,by omega,fun i hi=>by rw[o4 i (by omega)];exact gO i hi⟩
 refine WK.loop (fun i s'=>s'.T.get 1=qP h.next 0∧s'.T.get 3=qP (h.next+1) 0∧s'.T.get 5=qS (h.next+2) s.rows.length s.rows.length∧s'.T.get 6=qS (h.next+3) s.rows.length s.rows.length∧s'.T.get 7=qS (h.next+4) s.rows.length s.rows.length∧s'.T.get 8=qS (h.next+5) s.rows.length s.rows.length∧s'.T.get 37=vr∧s'.T.get 38=iv (s.rows.length:Int)∧s'.T.get 39=iv (i:Int)∧i≤s.rows.length∧GD s.rows s.queues (AD Z) (s.rows.length-i) i=GD s.rows s.queues (AD Z) s.rows.length 0∧∃ TP:List Int,TP.length=s.rows.length∧(∀ j,j<i→TP[j]?=(s.rows.map (BU ·.kind))[j]?)∧MK h s'.h [.string nm,vr,vq,vv,vt,vu,vo,iv s.miss] TP (BK s.rows (AD Z) i)) s.rows.length (by omega) ?_ ?_
 ·exact⟨by simp only[eE,seval,↓eP,rP],by simp only[eE,seval,↓eP,rP],by simp only[eE,seval,↓eP,rP,nG],by simp only[eE,seval,↓eP,rP,nG],by simp only[eE,seval,↓eP,rP,nG],by simp only[eE,seval,↓eP,rP,nG],by simp only[eE,seval,↓eP,rP],by simp only[eE,seval,↓eP,rP],by simp only[eE,seval,↓eP,rP] <;> rfl,by omega,rfl,_,by simp,fun j hj=>by omega,hT0⟩
 rintro i ⟨T,H⟩ hi ⟨t1,t3,t5,t6,t7,t8,t37,t38,t39,hil,hgo,TP,hTl,hTP,hT⟩
 simp only at t1 t3 t5 t6 t7 t8 t37 t38 t39 hT
 by_cases hlt:i<s.rows.length
 rotate_left
 ·have c1:decide ((i:Int)<(s.rows.length:Int))=false:=by simp;omega
  have hin:i=s.rows.length:=by omega
  subst hin
  have hTe:TP=s.rows.map (BU ·.kind):=by
   apply List.ext_getElem?
   intro j
   rcases Nat.lt_or_ge j s.rows.length with h1 | h1
   ·exact hTP j h1
   ·rw[List.getElem?_eq_none (by omega),List.getElem?_eq_none (by rw[List.length_map];omega)]
  have hnx:=hT.n
  have hfl':=hT.fl
  obtain⟨H',s1,s2,s3,s4,s5⟩:=MW hT.f (by omega) (by omega) 0 0
  have eG:GD s.rows s.queues (AD Z) s.rows.length 0=((0,0),s.rows.map (BU ·.kind)):=by rw[← hgo,Nat.sub_self];rfl
  rw[eG]
  simp only[eE,seval,↓eP,hr,t3,t5,t38,t39,c1,MA,s1,EB,s2]
  exact⟨⟨_,rfl,by rw[← hTe];exact AX.row' (by rw[s5 _ (by omega)];exact hT.t) ⟨by omega,by omega⟩ hTl.symm⟩,by omega,by omega,fun j hj=>by rw[s5 j (by omega)];exact hT.o j hj⟩
 have c1:decide ((i:Int)<(s.rows.length:Int))=true:=by simp;omega
 obtain⟨x,hx⟩:∃ x,s.rows[i]?=some x:=⟨_,List.getElem?_eq_getElem hlt⟩
 obtain⟨r,hr1⟩:∃ r,s.rows.length-i=r+1:=⟨s.rows.length-i-1,by omega⟩
 rw[hr1] at hgo
 have hri:s.rows.length-(i+1)=r:=by omega
 have hnx:=hT.n
 have hfl':=hT.fl
 have hvH:A7 H vr s.rows:=p1.1.mono (by omega) hT.o
 obtain⟨ia,pa,ea,hia,_,_,_,_,_,la⟩:=hvH.row hx
 have fz:flat (CA KD)=true:=rfl
 obtain⟨H1,stX,gX,n1,f1,o1⟩:=M1 (t:=61) FV (H:=H) (zs:=AW KD) (vs:=AW x) rfl rfl rfl (by omega)
 have stX':A_ Tryd.prog (H.push (.row (AW KD) 61 false false)) 61 (qP H.next 0) (CA x)=some H1:=stX
 have hT1:MK h H1 [.string nm,vr,vq,vv,vt,vu,vo,iv s.miss] TP (BK s.rows (AD Z) i):=hT.mono (by omega) f1 fun j hj=>o1 j (by omega)
 have kx:=hG.ks i x hx
 have ht1:=oN (n:=n) (h:=H1) kx (by omega)
 have y0:AJ 0 (H1.get H.next)=some (iv x.kind):=by rw[gX];rfl
 have ix0:=FB (id:=h.next+2) (n:=s.rows.length) (c:=s.rows.length) (i:=i) hlt
 have st0:A_ Tryd.prog H1 3 (qP (h.next+2) i) (iv (BU x.kind))=some (H1.put (h.next+2) (.row (ints (TP.set i (BU x.kind))) 3 false false)):=MQ hT1.t (by omega) (by omega)
 have hT2:MK h (H1.put (h.next+2) (.row (ints (TP.set i (BU x.kind))) 3 false false)) [.string nm,vr,vq,vv,vt,vu,vo,iv s.miss] (TP.set i (BU x.kind)) (BK s.rows (AD Z) i):=by
  have g:∀ j,j≠h.next+2→(H1.put (h.next+2) (.row (ints (TP.set i (BU x.kind))) 3 false false)).get j=H1.get j:=fun j hj=>AV (by omega) (Ne.symm hj)
  exact⟨by rw[g _ (by omega)];exact hT1.p,by rw[g _ (by omega)];exact hT1.f,B0 rfl (by omega),by rw[g _ (by omega)];exact hT1.a,by rw[g _ (by omega)];exact hT1.c,by rw[g _ (by omega)];exact hT1.u,hT1.n,hT1.fl,fun j hj=>by rw[g j (by omega)];exact hT1.o j hj⟩
 have gX2:(H1.put (h.next+2) (.row (ints (TP.set i (BU x.kind))) 3 false false)).get H.next=.row (AW x) 61 false false:=by rw[AV (by omega) (by omega)];exact gX
 have n2:(H1.put (h.next+2) (.row (ints (TP.set i (BU x.kind))) 3 false false)).next=H.next+1:=n1
 simp only[SX,seval,↓eP,t38,t39,c1]
 rw[SV]
 simp only[SX,seval,↓eP,t5,t37,t39,ea,HN,la,FI,fz,zr,stX',C2,AU,y0,ht1,ix0,st0]
 have hTl2:(TP.set i (BU x.kind)).length=s.rows.length:=by rw[List.length_set];exact hTl
 have hTP2:∀ j,j<i+1→(TP.set i (BU x.kind))[j]?=(s.rows.map (BU ·.kind))[j]?:=fun j hj=>by
  rcases Nat.lt_or_ge j i with h1 | h1
  ·rw[List.getElem?_set_ne (by omega)]
   exact hTP j h1
  ·have:j=i:=by omega
   subst this
   rw[List.getElem?_set_self (by omega),List.getElem?_map,hx]
   rfl
 generalize H1.put (h.next+2) (.row (ints (TP.set i (BU x.kind))) 3 false false)=H2 at *
 generalize TP.set i (BU x.kind)=TP2 at *
 generalize hD:H.next=D at *
 clear st0 stX stX' y0 ht1 hT1 hT hTP
 obtain⟨m1,m2,m3⟩:=S9 (R:=s.rows) (AD Z) i
 obtain⟨a,hA⟩:∃ a,(BK s.rows (AD Z) i).A[i]?=some a:=⟨_,List.getElem?_eq_getElem (by omega)⟩
 obtain⟨c,hC⟩:∃ c,(BK s.rows (AD Z) i).C[i]?=some c:=⟨_,List.getElem?_eq_getElem (by omega)⟩
 obtain⟨u,hU⟩:∃ u,(BK s.rows (AD Z) i).U[i]?=some u:=⟨_,List.getElem?_eq_getElem (by omega)⟩
 have hUb:=gW (R:=s.rows) (e:=AD Z) rfl npos i (by omega) u (List.mem_of_getElem? hU)
 obtain⟨up,hup⟩:∃ up,s.rows[u.toNat]?=some up:=⟨_,List.getElem?_eq_getElem (by omega)⟩
 have hnx2:=hT2.n
 have hfl2:=hT2.fl
 have lA':BF 8 0 (H2.get h.next)=some (.agg #[.string nm,vr,vq,vv,vt,vu,vo,iv s.miss]):=MS hT2.p rfl
 have xa1:AJ 1 (H2.get h.next)=some vr:=by rw[hT2.p];rfl
 have y0:AJ 0 (H2.get D)=some (iv x.kind):=by rw[gX2];rfl
 have y4:AJ 4 (H2.get D)=some (iv x.kids):=by rw[gX2];rfl
 have yN:BF 5 0 (H2.get D)=some (CA x):=by rw[gX2];rfl
 have ix1:=FB (id:=h.next+3) (n:=s.rows.length) (c:=s.rows.length) (i:=i) hlt
 have ix2:=SW (id:=h.next+4) (n:=s.rows.length) (c:=s.rows.length) (i:=i) hlt
 have ix3:=FB (id:=h.next+5) (n:=s.rows.length) (c:=s.rows.length) (i:=i) hlt
 have l0:AJ i (H2.get (h.next+2))=some (iv (BU x.kind)):=by
  rw[hT2.t]
  refine MM ?_
  rw[hTP2 i (by omega),List.getElem?_map,hx]
  rfl
 have l1:AJ i (H2.get (h.next+3))=some (iv a):=by rw[hT2.a];exact MM hA
 have l2:AJ i (H2.get (h.next+4))=some (.bool c):=by rw[hT2.c];exact O4 hC
 have l3:AJ i (H2.get (h.next+5))=some (iv u):=by rw[hT2.u];exact MM hU
 have hv2:A7 H2 vr s.rows:=p1.1.mono (by omega) hT2.o
 obtain⟨iu,pu,eu,hiu,_,_,_,_,_,lu⟩:=hv2.row hup
 rw[show ((u.toNat:Nat):Int)=u by omega] at eu
 have hvar:=vZ (n:=n) (h:=H2) kx (by omega)
 have hp2:CO lo H2 (.agg #[.string nm,vr,vq,vv,vt,vu,vo,iv s.miss]) nm s:=hp.mono (by omega) fun j _ hj=>hT2.o j hj
 have hoth:=Hd (n:=n) (x:=x) (up:=up) hp2 (fun h9=>hG.qn i x hx (zY h9)) (fun h24 h20=>by
  obtain⟨h0i,up',hup',hU',hrange⟩:=hG.place hx h24
  rw[hU] at hU'
  cases hU'
  rw[show ((i-1:Nat):Int).toNat=i-1 by omega,hup'] at hup
  cases hup
  exact hrange h20) (by omega)
 refine SK (Fg h H2 D s.rows.length i vr (HD s.rows s.queues (BK s.rows (AD Z) i) i x)) ?_ ?_
 ·have bad:∀ b:Int,∃ H',A_ Tryd.prog H2 36 (qP (h.next+1) 0) (CD b i)=some H'∧BF 2 0 (H'.get (h.next+1))=some (CD b i)∧H'.floor=h.floor∧h.next≤H'.next∧∀ j,j<h.next→H'.get j=h.get j:=fun b=>by
   obtain⟨H',s1,s2,s3,s4,s5⟩:=MW hT2.f (by omega) (by omega) b i
   exact⟨H',s1,s2,by omega,by omega,fun j hj=>by rw[s5 j (by omega)];exact hT2.o j hj⟩
  rw[SV]
  simp only[eE,seval,↓eP]
  refine SK (fun e s'=>e=.normal∧s'.h=H2∧s'.T.get 1=qP h.next 0∧s'.T.get 3=qP (h.next+1) 0∧s'.T.get 5=qS (h.next+2) s.rows.length s.rows.length∧s'.T.get 6=qS (h.next+3) s.rows.length s.rows.length∧s'.T.get 7=qS (h.next+4) s.rows.length s.rows.length∧s'.T.get 8=qS (h.next+5) s.rows.length s.rows.length∧s'.T.get 37=vr∧s'.T.get 38=iv (s.rows.length:Int)∧s'.T.get 39=iv (i:Int)∧s'.T.get 9=iv (i:Int)∧s'.T.get 10=qP D 0∧s'.T.get 50=.bool (a != 0&&BU x.kind != a)) ?_ ?_
  ·cases da:(a != 0) with
   | false=>
    refine WK.flags (fs:=TA) (by kernel_rfl) ?_
    unfold TA
    iterate 17
     refine D9 hsn ?_
     simp only[rG,seval,AC,AF,AE,CT,DU,CK,C6,EA,Option.bind_some,IY,t6,ix1,l1,AU,da]
    refine D4 ?_
    exact⟨rfl,rfl,by simp only[eE,seval,↓eP,rP,t1],by simp only[eE,seval,↓eP,rP,t3],by simp only[eE,seval,↓eP,rP,t5],by simp only[eE,seval,↓eP,rP,t6],by simp only[eE,seval,↓eP,rP,t7],by simp only[eE,seval,↓eP,rP,t8],by simp only[eE,seval,↓eP,rP,t37],by simp only[eE,seval,↓eP,rP,t38],by simp only[eE,seval,↓eP,rP,t39],by simp only[eE,seval,↓eP,rP],by simp only[eE,seval,↓eP,rP],by simp only[eE,seval,↓eP,rP,Bool.false_and]⟩
   | true=>
    refine WK.flags (fs:=TA) (by kernel_rfl) ?_
    unfold TA
    iterate 17
     refine D9 hsn ?_
     simp only[rG,seval,AC,AF,AE,CT,DU,CK,C6,EA,Option.bind_some,IY,t6,ix1,l1,AU,da,t5,ix0,l0]
    refine D4 ?_
    exact⟨rfl,rfl,by simp only[eE,seval,↓eP,rP,t1],by simp only[eE,seval,↓eP,rP,t3],by simp only[eE,seval,↓eP,rP,t5],by simp only[eE,seval,↓eP,rP,t6],by simp only[eE,seval,↓eP,rP,t7],by simp only[eE,seval,↓eP,rP,t8],by simp only[eE,seval,↓eP,rP,t37],by simp only[eE,seval,↓eP,rP,t38],by simp only[eE,seval,↓eP,rP,t39],by simp only[eE,seval,↓eP,rP],by simp only[eE,seval,↓eP,rP],by simp only[eE,seval,↓eP,rP]⟩
  rintro e ⟨T2,HH⟩ ⟨rfl,hh,u1,u3,u5,u6,u7,u8,u37,u38,u39,u9,u10,u50⟩
  simp only at hh u1 u3 u5 u6 u7 u8 u37 u38 u39 u9 u10 u50
  subst hh
  cases d50:(a != 0&&BU x.kind != a) with
  | true=>
   obtain⟨H',s1,s2,s3,s4,s5⟩:=bad 41
   simp only[eE,seval,↓eP,u3,u9,u50,d50,I_,s1]
   simp only[Bool.and_eq_true,bne_iff_ne] at d50
   exact .inr ⟨rfl,by simp only[eE,seval,↓eP,rP],by simp only[eE,seval,↓eP,rP,u3],by rw[SY hA d50.1 d50.2];decide,by rw[SY hA d50.1 d50.2];exact s2,s3,s4,s5⟩
  | false=>
  have n41:¬(a≠0∧BU x.kind≠a):=by
   intro hc
   rw[show (a != 0&&BU x.kind != a)=true by simp[hc.1,hc.2]] at d50
   cases d50
  cases c with
  | false=>
   have b46:=iX (Q:=s.queues) hA n41 hC (x:=x) (by rw[Bool.false_and]) hU hup
   simp only[eE,seval,↓eP,u7,u9,u50,d50,ix2,E8,l2]
   refine WK.flags (fs:=SS) (by kernel_rfl) ?_
   unfold SS
   iterate 12
    refine D9 hsn ?_
    simp only[rG,seval,AC,AF,AE,CT,DU,CK,C6,EA,Option.bind_some,u1,EM,lA',u10,HN,yN,DI,DK,xa1,u8,u9,ix3,AU,l3,eu,lu,hoth]
   refine D4 ?_
   cases do_:IX s.queues x up with
   | true=>
    obtain⟨H',s1,s2,s3,s4,s5⟩:=bad 46
    simp only[eE,seval,↓eP,u3,u9,I_,s1]
    exact .inr ⟨rfl,by simp only[eE,seval,↓eP,rP],by simp only[eE,seval,↓eP,rP,u3],by rw[b46,do_];decide,by rw[b46,do_];exact s2,s3,s4,s5⟩
   | false=>
    simp only[eE,seval,↓eP]
    exact .inl ⟨rfl,rfl,by simp only[eE,seval,↓eP,rP,u1],by simp only[eE,seval,↓eP,rP,u3],by simp only[eE,seval,↓eP,rP,u5],by simp only[eE,seval,↓eP,rP,u6],by simp only[eE,seval,↓eP,rP,u7],by simp only[eE,seval,↓eP,rP,u8],by simp only[eE,seval,↓eP,rP,u37],by simp only[eE,seval,↓eP,rP,u38],by simp only[eE,seval,↓eP,rP,u39],by simp only[eE,seval,↓eP,rP,u9],by simp only[eE,seval,↓eP,rP,u10],by rw[b46,do_];rfl⟩
  | true=>
   cases dv:JO x.kind with
   | true=>
    rw[dv] at hvar
    obtain⟨H',s1,s2,s3,s4,s5⟩:=bad 42
    simp only[eE,seval,↓eP,u3,u7,u9,u10,u50,d50,ix2,E8,l2,C2,AU,y0,hvar,I_,s1]
    exact .inr ⟨rfl,by simp only[eE,seval,↓eP,rP],by simp only[eE,seval,↓eP,rP,u3],by rw[W4 hA n41 hC dv];decide,by rw[W4 hA n41 hC dv];exact s2,s3,s4,s5⟩
   | false=>
    rw[dv] at hvar
    have b46:=iX (Q:=s.queues) hA n41 hC (x:=x) (by rw[dv,Bool.and_false]) hU hup
    simp only[eE,seval,↓eP,u7,u9,u10,u50,d50,ix2,E8,l2,C2,AU,y0,hvar]
    refine WK.flags (fs:=SS) (by kernel_rfl) ?_
    unfold SS
    iterate 12
     refine D9 hsn ?_
     simp only[rG,seval,AC,AF,AE,CT,DU,CK,C6,EA,Option.bind_some,u1,EM,lA',u10,HN,yN,DI,DK,xa1,u8,u9,ix3,AU,l3,eu,lu,hoth]
    refine D4 ?_
    cases do_:IX s.queues x up with
    | true=>
     obtain⟨H',s1,s2,s3,s4,s5⟩:=bad 46
     simp only[eE,seval,↓eP,u3,u9,I_,s1]
     exact .inr ⟨rfl,by simp only[eE,seval,↓eP,rP],by simp only[eE,seval,↓eP,rP,u3],by rw[b46,do_];decide,by rw[b46,do_];exact s2,s3,s4,s5⟩
    | false=>
     simp only[eE,seval,↓eP]
     exact .inl ⟨rfl,rfl,by simp only[eE,seval,↓eP,rP,u1],by simp only[eE,seval,↓eP,rP,u3],by simp only[eE,seval,↓eP,rP,u5],by simp only[eE,seval,↓eP,rP,u6],by simp only[eE,seval,↓eP,rP,u7],by simp only[eE,seval,↓eP,rP,u8],by simp only[eE,seval,↓eP,rP,u37],by simp only[eE,seval,↓eP,rP,u38],by simp only[eE,seval,↓eP,rP,u39],by simp only[eE,seval,↓eP,rP,u9],by simp only[eE,seval,↓eP,rP,u10],by rw[b46,do_];rfl⟩
 rintro e ⟨T3,HH⟩ (⟨rfl,hh,u1,u3,u5,u6,u7,u8,u37,u38,u39,u9,u10,b0⟩ | ⟨rfl,u2,u3,hb0,lF,fF,nF,oF⟩)
 rotate_left
 ·simp only at u2 u3 lF fF nF oF
  have eG:GD s.rows s.queues (AD Z) s.rows.length 0=((HD s.rows s.queues (BK s.rows (AD Z) i) i x,(i:Int)),[]):=by rw[← hgo];exact dY hx rfl hb0
  rw[eG]
  simp only[eE,seval,↓eP,hr,u2,u3,EB,lF]
  exact⟨⟨_,rfl,AP.nil _ _ _⟩,fF,nF,oF⟩
 simp only at hh u1 u3 u5 u6 u7 u8 u37 u38 u39 u9 u10
 subst hh
 have hgo2:GD s.rows s.queues (AD Z) (s.rows.length-(i+1)) (i+1)=GD s.rows s.queues (AD Z) s.rows.length 0:=by rw[← hgo,hri];exact(lM hx b0).symm
 have w1:=EU i (by omega)
 obtain⟨k0,hch,hel,hei⟩:=hG.kids0 hx
 have eM:BK s.rows (AD Z) (i+1)=GI i x (BU (((s.rows[i+1]?).map (·.kind)).getD 0)) 0 (BB (AD Z) x.kids.toNat (i+1)) (BK s.rows (AD Z) i):=by
  show I1 s.rows (AD Z) i (BK s.rows (AD Z) i)=_
  unfold I1
  rw[hx]
 cases dk:(x.kids==0) with
 | true=>
  have hk0:x.kids.toNat=0:=by have:=beq_iff_eq.1 dk;omega
  have eM0:BK s.rows (AD Z) (i+1)=BK s.rows (AD Z) i:=by rw[eM,hk0];rfl
  simp only[eE,seval,↓eP,u1,u3,u5,u6,u7,u8,u37,u38,u39,u10,Nat.zero_add,VO,AU,y4,dk,w1]
  exact⟨hlt,by omega,hgo2,TP2,hTl2,hTP2,by rw[eM0];exact hT2⟩
 | false=>
 have hk1 : 0 < x.kids := by have:x.kids≠0:=by simpa using dk
                             omega
 have hi1:=hG.next hx hk1
 obtain⟨y,hy⟩:∃ y,s.rows[i+1]?=some y:=⟨_,List.getElem?_eq_getElem hi1⟩
 have ky:=hG.ks _ y hy
 obtain⟨ib,pb,eb,hib,lb,_⟩:=hv2.row hy
 have hty:=oN (n:=n) (h:=HH) ky (by omega)
 obtain⟨zz,hzz,_,hzk⟩:=hG.z hx
 obtain⟨kv,H5,hkids,hkL,f5,n5,o5⟩:=ZN (n:=n) hG.t hG.sk hv2 hzz (by omega) (by omega) (by omega)
 rw[← hzk] at hkL
 have hkc:=hkL.ints (Nat.le_refl _)
 have lenK:=fun h'=>KQ hkc h'
 have hkl:((BB (AD Z) x.kids.toNat (i+1)).map (fun (k:Nat)=>(k:Int))).length=x.kids.toNat:=by rw[List.length_map,NE]
 rw[hkl,show ((x.kids.toNat:Nat):Int)=x.kids by omega] at lenK
 simp only[eE,seval,↓eP,u1,u9,u10,Nat.zero_add,VO,C2,AU,y4,dk,DI,DK,xa1,w1,eb,lb,hty,hkids,lenK]
 have eY:((s.rows[i+1]?).map (·.kind)).getD 0=y.kind:=by rw[hy];rfl
 rw[eY] at eM
 have hT5:MK h H5 [.string nm,vr,vq,vv,vt,vu,vo,iv s.miss] TP2 (BK s.rows (AD Z) i):=hT2.mono (by omega) (by omega) fun j hj=>o5 j (by omega)
 obtain⟨mo1,mo2⟩:=hG.most hx
 have hkn:x.kids.toNat≤s.rows.length:=by have:=IF _ _ _ hch;omega
 refine WK.loop (fun q s'=>s'.T.get 1=qP h.next 0∧s'.T.get 3=qP (h.next+1) 0∧s'.T.get 5=qS (h.next+2) s.rows.length s.rows.length∧s'.T.get 6=qS (h.next+3) s.rows.length s.rows.length∧s'.T.get 7=qS (h.next+4) s.rows.length s.rows.length∧s'.T.get 8=qS (h.next+5) s.rows.length s.rows.length∧s'.T.get 37=vr∧s'.T.get 38=iv (s.rows.length:Int)∧s'.T.get 39=iv (i:Int)∧s'.T.get 9=iv (i:Int)∧s'.T.get 10=qP D 0∧s'.T.get 11=iv (BU y.kind)∧s'.T.get 109=kv∧s'.T.get 110=iv x.kids∧s'.T.get 111=iv (q:Int)∧q≤x.kids.toNat∧H5.next≤s'.h.next∧(∀ j,h.next+6≤j→j<H5.next→s'.h.get j=H5.get j)∧MK h s'.h [.string nm,vr,vq,vv,vt,vu,vo,iv s.miss] TP2 (GI i x (BU y.kind) 0 ((BB (AD Z) x.kids.toNat (i+1)).take q) (BK s.rows (AD Z) i))) x.kids.toNat (by omega) ?_ ?_
 ·exact⟨by simp only[eE,seval,↓eP,rP,u1],by simp only[eE,seval,↓eP,rP,u3],by simp only[eE,seval,↓eP,rP,u5],by simp only[eE,seval,↓eP,rP,u6],by simp only[eE,seval,↓eP,rP,u7],by simp only[eE,seval,↓eP,rP,u8],by simp only[eE,seval,↓eP,rP,u37],by simp only[eE,seval,↓eP,rP,u38],by simp only[eE,seval,↓eP,rP,u39],by simp only[eE,seval,↓eP,rP,u9],by simp only[eE,seval,↓eP,rP,u10],by simp only[eE,seval,↓eP,rP],by simp only[eE,seval,↓eP,rP],by simp only[eE,seval,↓eP,rP],by simp only[eE,seval,↓eP,rP] <;> rfl,by omega,Nat.le_refl _,fun _ _ _=>rfl,by rw[List.take_zero];exact hT5⟩
 rintro q ⟨T4,H6⟩ hq ⟨wt1,wt3,wt5,wt6,wt7,wt8,wt37,wt38,w39,w9,w10,w11,w109,w110,w111,hqk,n6,o6,hT6⟩
 simp only at wt1 wt3 wt5 wt6 wt7 wt8 wt37 wt38 w39 w9 w10 w11 w109 w110 w111 n6 o6 hT6
 by_cases hql:q<x.kids.toNat
 rotate_left
 ·have c3:decide ((q:Int)<x.kids)=false:=by simp;omega
  simp only[eE,seval,↓eP,wt1,wt3,wt5,wt6,wt7,wt8,wt37,wt38,w39,w110,w111,c3,w1]
  have hq9:q=x.kids.toNat:=by omega
  subst hq9
  have hTk:(BB (AD Z) x.kids.toNat (i+1)).take x.kids.toNat=BB (AD Z) x.kids.toNat (i+1):=List.take_of_length_le (by rw[NE];omega)
  rw[hTk] at hT6
  exact⟨hlt,by omega,hgo2,TP2,hTl2,hTP2,by rw[eM];exact hT6⟩
 have c3:decide ((q:Int)<x.kids)=true:=by simp;omega
 obtain⟨p,hpk⟩:∃ p,(BB (AD Z) x.kids.toNat (i+1))[q]?=some p:=⟨_,List.getElem?_eq_getElem (by rw[NE];exact hql)⟩
 obtain⟨hip,hpl⟩:=hG.kid hx hpk
 have hkc6:AX (h.next+6) H6 kv ((BB (AD Z) x.kids.toNat (i+1)).map (fun (k:Nat)=>(k:Int))):=AX.mono (hkL.ints (by omega)) (by omega) fun j h1 h2=>o6 j h1 h2
 obtain⟨ip,pp,ep,hip2,lp⟩:=AX.get hkc6 (i:=q) (x:=(p:Int)) (by rw[List.getElem?_map,hpk];rfl)
 have w2:=EU q (by omega)
 have eS:=mT (i:=i) (x:=x) (first:=BU y.kind) (BB (AD Z) x.kids.toNat (i+1)) 0 q (BK s.rows (AD Z) i) p hpk
 rw[Nat.zero_add] at eS
 obtain⟨b1,b2,b3⟩:=YS (i:=i) (x:=x) (first:=BU y.kind) ((BB (AD Z) x.kids.toNat (i+1)).take q) 0 (BK s.rows (AD Z) i)
 generalize GI i x (BU y.kind) 0 ((BB (AD Z) x.kids.toNat (i+1)).take q) (BK s.rows (AD Z) i)=Mq at *
 obtain⟨cq,hcq⟩:∃ cq,Mq.C[i]?=some cq:=⟨_,List.getElem?_eq_getElem (by omega)⟩
 have hnx6:=hT6.n
 have hfl6:=hT6.fl
 have z0:AJ 0 (H6.get D)=some (iv x.kind):=by rw[o6 D (by omega) (by omega),o5 D (by omega)];exact y0
 have hask:∀ G:AA,AS n 43 [iv x.kind,iv (q:Int),iv (BU y.kind)] G=some (iv (EO x.kind q (BU y.kind)),G):=fun G=>wB kx (fun h9=>by have:=mo1 h9;omega) (fun h9=>by have:=mo2 h9;omega) (by omega)
 have hfix:∀ G:AA,AS n 44 [iv x.kind,iv (q:Int)] G=some (.bool (JM x.kind q),G):=fun G=>sM (by omega)
 have jx1:=FB (id:=h.next+3) (n:=s.rows.length) (c:=s.rows.length) (i:=p) hpl
 have jx2:=SW (id:=h.next+4) (n:=s.rows.length) (c:=s.rows.length) (i:=p) hpl
 have jx3:=FB (id:=h.next+5) (n:=s.rows.length) (c:=s.rows.length) (i:=p) hpl
 have lc:AJ i (H6.get (h.next+4))=some (.bool cq):=by rw[hT6.c];exact O4 hcq
 have hA0:(h.next+4<H6.next)=True:=by simp;omega
 have sa:A_ Tryd.prog H6 3 (qP (h.next+3) p) (iv (EO x.kind q (BU y.kind)))=some (H6.put (h.next+3) (.row (ints (Mq.A.set p (EO x.kind q (BU y.kind)))) 3 false false)):=MQ hT6.a (by omega) (by omega)
 have na:∀ j,j≠h.next+3→(H6.put (h.next+3) (.row (ints (Mq.A.set p (EO x.kind q (BU y.kind)))) 3 false false)).get j=H6.get j:=fun j hj=>AV (by omega) (Ne.symm hj)
 have ga1:(H6.put (h.next+3) (.row (ints (Mq.A.set p (EO x.kind q (BU y.kind)))) 3 false false)).get (h.next+3)=.row (ints (Mq.A.set p (EO x.kind q (BU y.kind)))) 3 false false:=B0 rfl (by omega)
 have nna:(H6.put (h.next+3) (.row (ints (Mq.A.set p (EO x.kind q (BU y.kind)))) 3 false false)).next=H6.next:=rfl
 have ffa:(H6.put (h.next+3) (.row (ints (Mq.A.set p (EO x.kind q (BU y.kind)))) 3 false false)).floor=H6.floor:=rfl
 have fla:(H6.put (h.next+3) (.row (ints (Mq.A.set p (EO x.kind q (BU y.kind)))) 3 false false)).fl H6.floor=H6.put (h.next+3) (.row (ints (Mq.A.set p (EO x.kind q (BU y.kind)))) 3 false false):=rfl
 generalize H6.put (h.next+3) (.row (ints (Mq.A.set p (EO x.kind q (BU y.kind)))) 3 false false)=Ha at *
 have sc:∀ v:Bool,A_ Tryd.prog Ha 4 (qP (h.next+4) p) (.bool v)=some (Ha.put (h.next+4) (.row (C0 (Mq.C.set p v)) 4 false false)):=fun v=>UW (by rw[na _ (by omega)];exact hT6.c) (by omega) (by omega)
 have su:∀ v:Bool,A_ Tryd.prog (Ha.put (h.next+4) (.row (C0 (Mq.C.set p v)) 4 false false)) 3 (qP (h.next+5) p) (iv (i:Int))=some ((Ha.put (h.next+4) (.row (C0 (Mq.C.set p v)) 4 false false)).put (h.next+5) (.row (ints (Mq.U.set p (i:Int))) 3 false false)):=fun v=>MQ (by rw[AV (by omega) (by omega),na _ (by omega)];exact hT6.u) (by omega) (by show Ha.floor≤_;omega)
 have fin:∀ v:Bool,v=(((Mq.C[i]?).getD false)||JM x.kind q)→MK h ((Ha.put (h.next+4) (.row (C0 (Mq.C.set p v)) 4 false false)).put (h.next+5) (.row (ints (Mq.U.set p (i:Int))) 3 false false)) [.string nm,vr,vq,vv,vt,vu,vo,iv s.miss] TP2 (HC i x (BU y.kind) Mq q p) ∧
   ∀ j,h.next+6≤j→((Ha.put (h.next+4) (.row (C0 (Mq.C.set p v)) 4 false false)).put (h.next+5) (.row (ints (Mq.U.set p (i:Int))) 3 false false)).get j=H6.get j:=fun v hv=>by
  have g:∀ j,j≠h.next+4→j≠h.next+5→((Ha.put (h.next+4) (.row (C0 (Mq.C.set p v)) 4 false false)).put (h.next+5) (.row (ints (Mq.U.set p (i:Int))) 3 false false)).get j=Ha.get j:=fun j h1 h2=>by rw[AV (by show _<Ha.next;omega) (Ne.symm h2),AV (by omega) (Ne.symm h1)]
  refine⟨⟨by rw[g _ (by omega) (by omega),na _ (by omega)];exact hT6.p,by rw[g _ (by omega) (by omega),na _ (by omega)];exact hT6.f,by rw[g _ (by omega) (by omega),na _ (by omega)];exact hT6.t,by rw[g _ (by omega) (by omega)];exact ga1,?_,B0 rfl (by show _<Ha.next;omega),by show _≤Ha.next;omega,by show Ha.floor=_;omega,fun j hj=>by rw[g j (by omega) (by omega),na j (by omega)];exact hT6.o j hj⟩,fun j hj=>by rw[g j (by omega) (by omega),na j (by omega)]⟩
  rw[AV (by show _<Ha.next;omega) (by omega),B0 rfl (by omega)]
  show A9.row (C0 (Mq.C.set p v)) 4 false false=.row (C0 (Mq.C.set p (((Mq.C[i]?).getD false)||JM x.kind q))) 4 false false
  rw[hv]
 simp only[eE,seval,↓eP,w109,w110,w111,c3,ep,AU,lp]
 cases cq with
 | true=>
  refine WK.flags (fs:=TB) (by kernel_rfl) ?_
  unfold TB
  iterate 28
   refine D9 hsn ?_
   simp only[rG,seval,AC,AF,AE,CT,DU,CK,C6,EA,Option.bind_some,wt6,wt7,wt8,w10,C2,AU,z0,w11,hask,KS,w9,ix2,E8,lc,hA0,jx1,IY,sa,fla,jx2,ffa,sc,OO,jx3,LM,su]
  refine D4 ?_
  obtain⟨hT7,o7⟩:=fin (true) (by rw[hcq];rfl)
  simp only[eE,seval,↓eP,wt1,wt3,wt5,wt6,wt7,wt8,wt37,wt38,w39,w9,w10,w11,w109,w110,w111,w2]
  exact⟨hql,by omega,Nat.le_trans n6 (Nat.le_of_eq nna.symm),fun j h1 h2=>by rw[o7 j h1];exact o6 j h1 h2,by rw[eS];exact hT7⟩
 | false=>
  refine WK.flags (fs:=TB) (by kernel_rfl) ?_
  unfold TB
  iterate 28
   refine D9 hsn ?_
   simp only[rG,seval,AC,AF,AE,CT,DU,CK,C6,EA,Option.bind_some,wt6,wt7,wt8,w10,C2,AU,z0,w11,hask,KS,w9,ix2,E8,lc,hA0,hfix,jx1,IY,sa,fla,jx2,ffa,sc,OO,jx3,LM,su]
  refine D4 ?_
  obtain⟨hT7,o7⟩:=fin (JM x.kind q) (by rw[hcq];rfl)
  simp only[eE,seval,↓eP,wt1,wt3,wt5,wt6,wt7,wt8,wt37,wt38,w39,w9,w10,w11,w109,w110,w111,w2]
  exact⟨hql,by omega,Nat.le_trans n6 (Nat.le_of_eq nna.symm),fun j h1 h2=>by rw[o7 j h1];exact o6 j h1 h2,by rw[eS];exact hT7⟩
theorem iA {nm:ByteArray} {s:AN} {pv:Value} {lo:Nat} (hp:CO lo h pv nm s) (hlies:∀ nm' vr vq vv vt vu vo m,pv=.agg #[.string nm',vr,vq,vv,vt,vu,vo,m]→JN vr s.rows.length) (hs:JJ s) (hl:s.rows.length<2932031007403) (hg:h.get 0=CW) (hn0:0<h.next) (hfl:h.floor≤h.next) (hn:2*FZ s+450<n) :
  ∃ v' h',AS n 19 [pv] h=some (v',h')∧bJ h' h.next v' (B_ nm s)∧h'.floor=h.floor∧h.next≤h'.next∧∀ i,i<h.next→h'.get i=h.get i:=by
 obtain⟨n,rfl⟩:=C_ hn
 have htot:FZ s=s.rows.length+s.queues.length+s.vars.length+s.tags.length+s.rules.length+s.on.length:=rfl
 refine PN (BT ⟨rfl,rfl,rfl⟩) (wV (n:=n) (N:=n) hp hlies hs hl hg hn0 hfl (by omega) (by omega)) fun v' h1 hf _ ht=>?_
 obtain⟨⟨tv,rfl,ht⟩,_⟩:=ht
 exact⟨⟨tv,rfl,sL ht hf h⟩,rfl,Nat.le_refl _,fun _ _=>rfl⟩
end
def LV (e:TypeId) (h:AA) (lo:Nat) (v:Value) (n:Nat) (cs:List Value):Prop:=
 (v=Z0∧n=0∧cs=[])∨∃ id,v=qS id n AO∧lo≤id∧id<h.next∧h.get id=.row cs e true false
theorem LV.mono {e:TypeId} {h h':AA} {lo:Nat} {v:Value} {n:Nat} {cs:List Value} (hl:LV e h lo v n cs) (hn:h.next≤h'.next) (hg:∀ i,i<h.next→(∃ cs' g,h.get i=.row cs' e g false)→lo≤i→h'.get i=h.get i):LV e h' lo v n cs:=by
 rcases hl with h1 | ⟨id,h1,h2,h3,h4⟩
 ·exact .inl h1
 ·exact .inr ⟨id,h1,h2,by omega,by rw[hg id h3 ⟨_,_,h4⟩ h2];exact h4⟩
theorem LV.cells {e:TypeId} {h:AA} {lo lo':Nat} {v:Value} {n w:Nat} {cs:List Value} (hl:LV e h lo v n cs) (hw:cs.length=n*w) (hle:lo'≤lo):AP lo' h v n w cs:=by
 rcases hl with⟨rfl,rfl,rfl⟩ | ⟨id,rfl,h2,h3,h4⟩
 ·exact⟨by simp,_,_,rfl,.inl ⟨rfl,rfl⟩⟩
 ·exact⟨hw,_,_,rfl,.inr ⟨id,0,cs,e,true,false,rfl,h4,by omega,by rw[List.drop_zero,List.take_of_length_le (by omega)],fun _=>rfl⟩⟩
section
variable {P:Program} {t e:TypeId} {w b:Nat} {z:Value} {h:AA}
theorem gS (ht:P.underlying t=some (.slice e)) (he:BG P e=some w) (hb:GL P e=some b) (hz:CU P e=some z) (hzc:z.cells.size=w) (hw:0<w) (hbb:b≤32) {lo n:Nat} {v:Value} {cs new:List Value} (hl:LV e h lo v n cs) (hcl:cs.length=n*w) (hco:cs.all one=true) (hnl:new.length=w) (hno:new.all one=true) (hlo:lo≤h.next) (hf:h.floor≤lo) (hn:n<2932031007403) :
  ∃ v' h',DL P (h.push (.row new e false false)) t v (qS h.next 1 1)=some (v',h')∧LV e h' lo v' (n+1) (cs++new)∧h'.floor=h.floor∧h.next≤h'.next∧∀ i,i<h.next→(i<lo∨∃ cs' e' g,e'≠e∧h.get i=.row cs' e' g false)→h'.get i=h.get i:=by
 have hsrc:DQ (h.push (.row new e false false)) w 1 (qS h.next 1 1)=some new:=by
  simp only[DQ,BM,F1,List.drop_zero,Nat.one_mul]
  rw[if_neg (by decide),List.take_of_length_le (by omega),if_pos hnl]
 have hb1:(n+1)*b≤(n+1)*32:=Nat.mul_le_mul_left _ hbb
 rcases hl with⟨rfl,rfl,rfl⟩ | ⟨id,rfl,h1,h2,hg⟩
 ·have hnu:(0:Nat)≠AO:=by unfold AO;omega
  refine⟨.slice (some ⟨(h.push (.row new e false false)).next,0,none⟩) (0+1) AO,(h.push (.row new e false false)).push (.row ([]++new) e true false),?_,.inr ⟨_,rfl,?_,?_,BM⟩,rfl,by show h.next≤h.next+1+1;omega,fun i hi _=>?_⟩
  ·have h0:DQ (h.push (.row new e false false)) w 0 (Z0)=some []:=by simp[DQ]
   simp only[DL,ht,he,hb,hz,hsrc,hno,h0]
   rw[if_pos (by simp[hzc,hw]),if_pos trivial,if_neg hnu,if_neg (by omega),if_pos (by simp;omega)]
  ·show lo≤h.next+1;omega
  ·show h.next+1<h.next+1+1;omega
  ·rw[AR (by show i<h.next+1;omega),AR (by omega)]
 ·have hu:n≤AO:=by unfold AO;omega
  have hg':(h.push (.row new e false false)).get id=.row cs e true false:=by rw[AR h2];exact hg
  have hcut:F1 cs 0 (n*w)=some cs:=by
   simp only[F1,List.drop_zero]
   rw[List.take_of_length_le (by omega),if_pos (by omega)]
  refine⟨.slice (some ⟨(h.push (.row new e false false)).next,0,none⟩) (n+1) AO,((h.push (.row new e false false)).put id .dead).push (.row (cs++new) e true false),?_,.inr ⟨_,rfl,?_,?_,BM⟩,rfl,by show h.next≤h.next+1+1;omega,fun i hi hi2=>?_⟩
  ·simp only[DL,ht,he,hb,hz,hsrc,hno,hg',hcut,hco]
   rw[if_pos (by simp[hzc,hw];omega),if_pos trivial,if_pos trivial,if_pos (by rw[IC,decide_eq_true (show (n+1)*b≤140737488355328 by omega),decide_eq_true (show n+1≤140737488355328 by omega),decide_eq_true (show h.floor≤id by omega)];rfl),if_neg (by decide),if_pos trivial,if_pos trivial]
  ·show lo≤h.next+1;omega
  ·show h.next+1<h.next+1+1;omega
  ·have hne:id≠i:=by
    rintro rfl
    rcases hi2 with h9 | ⟨cs',e',g,h8,h9⟩
    ·omega
    ·rw[hg] at h9
     injection h9 with _ h7
     exact h8 h7.symm
   rw[AR (by show i<h.next+1;omega),AV (by show id<h.next+1;omega) hne,AR (by omega)]
end
def LP (l:List (Int × Int × Int)):List Value:=l.flatMap fun x=>[iv x.1,iv x.2.1,iv x.2.2]
theorem X0:∀ l,(LP l).length=l.length*3
 | []=>rfl
 | x :: l=>by
  have e:LP (x :: l)=iv x.1 :: iv x.2.1 :: iv x.2.2 :: LP l:=rfl
  rw[e]
  simp only[List.length_cons,X0 l]
  omega
theorem Ck (l:List (Int × Int × Int)):(LP l).all one=true:=by
 unfold LP
 rw[List.all_flatMap]
 exact List.all_eq_true.2 fun x _=>rfl
theorem TO:BG Tryd.prog 58=some 3:=by kernel_rfl
theorem iP:BG Tryd.prog 41=some 1:=by kernel_rfl
theorem Ei:GL Tryd.prog 58=some 24:=by kernel_rfl
abbrev EV (a b c:Int):Value:=.agg #[iv a,iv b,iv c]
theorem pF:CU Tryd.prog 58=some (EV 0 0 0):=by kernel_rfl
theorem xM:E1 Tryd.prog 58=some true:=by kernel_rfl
theorem R2:BG Tryd.prog 43=some 3:=by kernel_rfl
theorem Ax:E1 Tryd.prog 43=some true:=by kernel_rfl
abbrev zT:Value:=.agg #[Z0,Z0,Z0]
theorem MG:CU Tryd.prog 43=some zT:=by kernel_rfl
theorem M8:flat zT=true:=rfl
theorem fV:H0 Tryd.prog (match Tryd.prog.underlying 43 with | some (.struct fs)=>fs.toList | _=>[])=some [(0,1),(1,1),(2,1)]:=by kernel_rfl
theorem NX:CZ Tryd.prog 43 []=some zT:=by
 have h:=fV
 rw[Tryd.underlying43] at h
 simp only at h
 simp only[CZ,MG,M8,if_true,Tryd.underlying43,h]
 rfl
theorem qU {a:Option Addr} {n c:Nat}:CZ Tryd.prog 43 [(2,.slice a n c)]=some (.agg #[Z0,Z0,.slice a n c]):=by
 have h:=fV
 rw[Tryd.underlying43] at h
 simp only at h
 simp only[CZ,MG,M8,if_true,Tryd.underlying43,h]
 rfl
section
variable {h:AA} {id off:Nat}
theorem LE:DY Tryd.prog h 43 (qP id off)=BF 3 off (h.get id):=LX Ax R2
theorem Be:DY Tryd.prog h 58 (qP id off)=BF 3 off (h.get id):=LX xM TO
theorem PE:DY Tryd.prog h 41 (qP id off)=AJ off (h.get id):=KN (by kernel_rfl)
theorem PD:BJ Tryd.prog 43 (qP id off) 0=some (qP id off):=by simp[BJ,Tryd.underlying43,iP,CJ]
theorem U4:BJ Tryd.prog 43 (qP id off) 1=some (qP id (off+1)):=by simp[BJ,Tryd.underlying43,LI,CJ]
theorem WJ:BJ Tryd.prog 43 (qP id off) 2=some (qP id (off+2)):=by simp[BJ,Tryd.underlying43,LI,CJ]
theorem ZU {a b c:Int}:FC Tryd.prog h 41 1 [(0,EV a b c)]=some (qS h.next 1 1,h.push (.row [iv a,iv b,iv c] 58 false false)):=by
 simp[FC,Tryd.underlying41,TO,pF,flat,BI,MI,IQ,BQ,Go.Sx.lay]
end
def IA (lo:Nat) (H:AA) (v:Value) (t:GF):Prop:=∃ vv gv rv,v=.agg #[vv,gv,rv]∧AP lo H vv t.V.length 3 (LP t.V)∧AX lo H gv t.G∧AX lo H rv t.Rd
theorem IA.mono {lo:Nat} {H H':AA} {v:Value} {t:GF} (ht:IA lo H v t) (hn:H.next≤H'.next) (hg:∀ i,lo≤i→i<H.next→H'.get i=H.get i):IA lo H' v t:=by
 obtain⟨vv,gv,rv,rfl,h1,h2,h3⟩:=ht
 exact⟨vv,gv,rv,rfl,h1.mono hn hg,h2.mono hn hg,h3.mono hn hg⟩
theorem IA.weak {lo lo':Nat} {H:AA} {v:Value} {t:GF} (ht:IA lo H v t) (hl:lo'≤lo):IA lo' H v t:=by
 obtain⟨vv,gv,rv,rfl,h1,h2,h3⟩:=ht
 exact⟨vv,gv,rv,rfl,h1.weak hl,h2.weak hl,h3.weak hl⟩
abbrev R6:GF:=⟨[],[],[]⟩
theorem NY (lo:Nat) (H:AA):IA lo H zT R6:=⟨_,_,_,rfl,⟨rfl,_,_,rfl,.inl ⟨rfl,rfl⟩⟩,AP.nil lo H 1,AP.nil lo H 1⟩
theorem bA {lo:Nat} {h:AA} {v:Value} {n w:Nat} {cs:List Value} (hc:AP lo h v n w cs) (hf:BI v=true) (lo':Nat) (h':AA):AP lo' h' v n w cs:=by
 obtain⟨hl,a,c,rfl,⟨h0,rfl⟩ | ⟨id,off,row,ty,g,ro,rfl,g1,g2,g3⟩⟩:=hc
 ·exact⟨hl,_,_,rfl,.inl ⟨h0,rfl⟩⟩
 ·cases hf
theorem Hu {lo:Nat} {H:AA} {v f:Value} {t:GF} (ht:IA lo H v t) (hf:EF (.tuple #[v,f])=true) (lo':Nat) (H':AA):IA lo' H' v t:=by
 obtain⟨vv,gv,rv,rfl,h1,h2,h3⟩:=ht
 have h9:BI vv=true∧BI gv=true∧BI rv=true:=by
  simp[EF,flat,BI] at hf ⊢
  exact⟨hf.1.1,hf.1.2.1,hf.1.2.2⟩
 exact⟨vv,gv,rv,rfl,bA h1 h9.1 lo' H',bA h2 h9.2.1 lo' H',bA h3 h9.2.2 lo' H'⟩
structure IL (B:AA) (RI m:Nat) (H:AA) (t:GF):Prop where
 r:H.get RI=.row (ints t.Rd) 3 false false
 l:t.Rd.length=m
 y:∃ vv gv,H.get (RI+1)=.row [vv,gv,qS RI m m] 43 false false∧LV 58 H (RI+2) vv t.V.length (LP t.V)∧LV 3 H (RI+2) gv t.G.length (ints t.G)
 n:RI+2≤H.next
 fl:H.floor=B.floor
 o:∀ i,i<RI→H.get i=B.get i
section
variable {B H H':AA} {RI m:Nat} {t:GF}
theorem IL.mono (hK:IL B RI m H t) (hn:H.next≤H'.next) (hf:H'.floor=H.floor) (hg:∀ i,i<H.next→H'.get i=H.get i):IL B RI m H' t:=by
 have h1:=hK.n
 obtain⟨vv,gv,y1,y2,y3⟩:=hK.y
 exact⟨by rw[hg _ (by omega)];exact hK.r,hK.l,⟨vv,gv,by rw[hg _ (by omega)];exact y1,y2.mono hn fun i hi _ _=>hg i hi,y3.mono hn fun i hi _ _=>hg i hi⟩,by omega,hf.trans hK.fl,fun i hi=>by rw[hg i (by omega)];exact hK.o i hi⟩
theorem IL.typed (hK:IL B RI m H t):∃ v,BF 3 0 (H.get (RI+1))=some v∧IA RI H v t∧v.cells.size=3:=by
 have h1:=hK.n
 obtain⟨vv,gv,y1,y2,y3⟩:=hK.y
 exact⟨.agg #[vv,gv,qS RI m m],by rw[y1];rfl,⟨vv,gv,_,rfl,y2.cells (X0 _) (by omega),y3.cells (by rw[F9];omega) (by omega),AX.row' hK.r ⟨by omega,by omega⟩ hK.l.symm⟩,rfl⟩
theorem IL.setR (hK:IL B RI m H t) (hf:B.floor≤RI) {i:Nat} (hi:i<m) (v:Int) :
  ∃ H2,A_ Tryd.prog H 3 (qP RI i) (iv v)=some H2∧IL B RI m H2 { t with Rd:=t.Rd.set i v }∧H2.next=H.next:=by
 have h1:=hK.n
 have h2:=hK.l
 have h3:=hK.fl
 obtain⟨vv,gv,y1,y2,y3⟩:=hK.y
 have g:∀ j,j≠RI→(H.put RI (.row (ints (t.Rd.set i v)) 3 false false)).get j=H.get j:=fun j hj=>AV (by omega) (Ne.symm hj)
 exact⟨_,MQ hK.r (by omega) (by omega),⟨B0 rfl (by omega),by rw[List.length_set];exact h2,⟨vv,gv,by rw[g _ (by omega)];exact y1,y2.mono (Nat.le_refl _) fun j _ _ hj=>g j (by omega),y3.mono (Nat.le_refl _) fun j _ _ hj=>g j (by omega)⟩,h1,h3,fun j hj=>by rw[g j (by omega)];exact hK.o j hj⟩,rfl⟩
theorem u_:(EV 0 0 0).cells.size=3:=rfl
theorem LV.cell {e:TypeId} {lo n:Nat} {v:Value} {cs:List Value} (hl:LV e H lo v n cs):v.cells=#[v]∧one v=true:=by
 rcases hl with⟨rfl,_⟩ | ⟨id,rfl,_⟩
 ·exact⟨rfl,rfl⟩
 ·exact⟨rfl,rfl⟩
theorem IL.addV (hK:IL B RI m H t) (hf:B.floor≤RI) (hb:t.V.length<2932031007403) (a b c:Int) :
  ∃ vv v' H1 H2,AJ 0 (H.get (RI+1))=some vv∧DL Tryd.prog (H.push (.row [iv a,iv b,iv c] 58 false false)) 41 vv (qS H.next 1 1)=some (v',H1) ∧
   A_ Tryd.prog H1 41 (qP (RI+1) 0) v'=some H2∧IL B RI m H2 { t with V:=t.V++[(a,b,c)] }∧H.next≤H2.next:=by
 have h1:=hK.n
 have h3:=hK.fl
 obtain⟨vv,gv,y1,y2,y3⟩:=hK.y
 obtain⟨v',H1,e1,e2,e3,e4,e5⟩:=gS (new:=[iv a,iv b,iv c]) Tryd.underlying41 TO Ei pF u_ (by decide) (by decide) y2 (X0 _) (Ck _) rfl rfl (by omega) (by omega) hb
 have g1:H1.get (RI+1)=.row [vv,gv,qS RI m m] 43 false false:=by rw[e5 _ (by omega) (.inl (by omega))];exact y1
 have hst:=HW (off:=0) iP e2.cell.1 e2.cell.2 g1 (by simp) (by omega)
 have g:∀ j,j≠RI+1→(H1.put (RI+1) (.row [v',gv,qS RI m m] 43 false false)).get j=H1.get j:=fun j hj=>AV (by omega) (Ne.symm hj)
 refine⟨vv,v',H1,_,by rw[y1];rfl,e1,hst,⟨by rw[List.set_cons_zero,g _ (by omega),e5 _ (by omega) (.inl (by omega))];exact hK.r,hK.l,⟨v',gv,B0 rfl (by omega),?_,?_⟩,?_,?_,fun i hi=>by rw[List.set_cons_zero,g _ (by omega),e5 _ (by omega) (.inl (by omega))];exact hK.o i hi⟩,e4⟩
 ·have ev:LP (t.V++[(a,b,c)])=LP t.V++[iv a,iv b,iv c]:=by simp[LP]
  rw[ev,List.length_append]
  exact e2.mono (Nat.le_refl _) fun j _ _ hj=>g j (by omega)
 ·exact y3.mono e4 fun j hj hj2 hj3=>by
   obtain⟨cs',g',hj4⟩:=hj2
   rw[List.set_cons_zero,g j (by omega),e5 j hj (.inr ⟨cs',3,g',by decide,hj4⟩)]
 ·show RI+2≤H1.next;omega
 ·show H1.floor=_;omega
theorem IL.addG (hK:IL B RI m H t) (hf:B.floor≤RI) (hb:t.G.length<2932031007403) (a:Int) :
  ∃ vv v' H1 H2,AJ 1 (H.get (RI+1))=some vv∧DL Tryd.prog (H.push (.row [iv a] 3 false false)) 27 vv (qS H.next 1 1)=some (v',H1) ∧
   A_ Tryd.prog H1 27 (qP (RI+1) 1) v'=some H2∧IL B RI m H2 { t with G:=t.G++[a] }∧H.next≤H2.next:=by
 have h1:=hK.n
 have h3:=hK.fl
 obtain⟨vv,gv,y1,y2,y3⟩:=hK.y
 obtain⟨v',H1,e1,e2,e3,e4,e5⟩:=gS (new:=[iv a]) Tryd.underlying27 C4 J1 HZ VL (by decide) (by decide) y3 (by rw[F9];omega) (OY _) rfl rfl (by omega) (by omega) hb
 have g1:H1.get (RI+1)=.row [vv,gv,qS RI m m] 43 false false:=by rw[e5 _ (by omega) (.inl (by omega))];exact y1
 have hst:=HW (off:=1) LI e2.cell.1 e2.cell.2 g1 (by simp) (by omega)
 have g:∀ j,j≠RI+1→(H1.put (RI+1) (.row [vv,v',qS RI m m] 43 false false)).get j=H1.get j:=fun j hj=>AV (by omega) (Ne.symm hj)
 have es:([vv,gv,qS RI m m]:List Value).set 1 v'=[vv,v',qS RI m m]:=rfl
 rw[es] at hst
 refine⟨gv,v',H1,_,by rw[y1];rfl,e1,hst,⟨by rw[g _ (by omega),e5 _ (by omega) (.inl (by omega))];exact hK.r,hK.l,⟨vv,v',B0 rfl (by omega),?_,?_⟩,?_,?_,fun i hi=>by rw[g _ (by omega),e5 _ (by omega) (.inl (by omega))];exact hK.o i hi⟩,e4⟩
 ·exact y2.mono e4 fun j hj hj2 hj3=>by
   obtain⟨cs',g',hj4⟩:=hj2
   rw[g j (by omega),e5 j hj (.inr ⟨cs',58,g',by decide,hj4⟩)]
 ·have ev:ints (t.G++[a])=ints t.G++[iv a]:=by simp[ints]
  rw[ev,List.length_append]
  exact e2.mono (Nat.le_refl _) fun j _ _ hj=>g j (by omega)
 ·show RI+2≤H1.next;omega
 ·show H1.floor=_;omega
theorem MJ {a:Nat} {v:Value} (ga:H.get a=.row [Z0,Z0,Z0] 43 false false) (gb:H.get (a+1)=.row [iv 0,iv 0] 36 false false) (hb:a+1<H.next) (hf:H.floor≤a) (ht:IA (a+2) H v t) (e x:Int) :
  ∃ H1 H2,A_ Tryd.prog H 43 (qP a 0) v=some H1∧A_ Tryd.prog H1 36 (qP (a+1) 0) (CD e x)=some H2∧BF 3 0 (H2.get a)=some v∧BF 2 0 (H2.get (a+1))=some (CD e x) ∧
   IA (a+2) H2 v t∧H1.next=H.next∧H2.next=H.next∧H1.floor=H.floor∧H2.floor=H.floor∧(∀ i,i≠a→H1.get i=H.get i)∧∀ i,i<a→H2.get i=H.get i:=by
 obtain⟨vv,gv,rv,rfl,h1,h2,h3⟩:=id ht
 have o1:([vv,gv,rv]:List Value).all one=true:=by simp only[List.all_cons,List.all_nil,AP.one h1,AP.one h2,AP.one h3,Bool.and_self]
 have s1:=JX (vs:=[vv,gv,rv]) R2 ga rfl rfl o1 hf
 have g1:∀ j,j≠a→(H.put a (.row [vv,gv,rv] 43 false false)).get j=H.get j:=fun j hj=>AV (by omega) (Ne.symm hj)
 obtain⟨H2,s2,s3,s4,s5,s6⟩:=MW (H:=H.put a (.row [vv,gv,rv] 43 false false)) (id:=a+1) (by rw[g1 _ (by omega)];exact gb) hb (by show H.floor≤a+1;omega) e x
 have e2:H2.get a=.row [vv,gv,rv] 43 false false:=by rw[s6 a (by omega),B0 rfl (by omega)]
 exact⟨_,H2,s1,s2,by rw[e2];rfl,s3,ht.mono (by rw[s4];exact Nat.le_refl _) fun i h8 h9=>by rw[s6 i (by omega),g1 i (by omega)],rfl,s4,rfl,s5,g1,fun i hi=>by rw[s6 i (by omega),g1 i (by omega)]⟩
end
def GC (k:Int) (l:List Int):Value:=
 if k=4 then .iface 82 (EV (l.getD 0 0) (l.getD 1 0) (l.getD 2 0)) else if k=5 then .iface 83 (iv (l.getD 0 0)) else if k=6 then .iface 84 (.bool (l.getD 0 0 != 0)) else if k=13 then .iface 85 (iv (l.getD 0 0)) else .nilIface
theorem WY:CU Tryd.prog 82=some (EV 0 0 0):=by kernel_rfl
theorem Ii:H0 Tryd.prog (match Tryd.prog.underlying 82 with | some (.struct fs)=>fs.toList | _=>[])=some [(0,1),(1,1),(2,1)]:=by kernel_rfl
theorem WN {a b c:Int}:flat (EV a b c)=true:=rfl
theorem Ej {a b c:Int}:CZ Tryd.prog 82 [(0,iv a),(1,iv b),(2,iv c)]=some (EV a b c):=by
 have h:=Ii
 rw[Tryd.underlying82] at h
 simp only at h
 simp only[CZ,WY,WN,if_true,Tryd.underlying82,h]
 rfl
def ZG:List (Bool × Bool × List Operand):=[AQ,AQ,AQ,AH [.tmp 9],AH [.tmp 9],AH [.tmp 9],AH [.tmp 9,.tmp 12],AH [.tmp 9,.tmp 12],AH [.tmp 9,.tmp 12],AK,AK,AK]
section
variable {n N:Nat} {h:AA}
theorem NU {l:List Int} {i:Nat} {a:Int} (h:l[i]?=some a):l.getD i 0=a:=by rw[List.getD_eq_getElem?_getD,h];rfl
theorem Hv {k:Int} {l:List Int} {lv:Value} {lo:Nat} (hl:AX lo h lv l) (h4:k=4→3≤l.length) (h1:k=5∨k=6∨k=13→1≤l.length) :
  A8 Tryd.prog (AS n) N 37 [iv k,lv] h=some (GC k l,h):=by
 have hsn:=(FD n).2
 refine DA Tryd.func37 rfl (by simp[Tryd.f37]) ?_
 have hr:Tryd.f37.results.toList=[.tmp 4]:=rfl
 cases c4:(k==4) with
 | true=>
  have e:=beq_iff_eq.1 c4
  have hl3:=h4 e
  obtain⟨a,ha⟩:∃ a,l[0]?=some a:=⟨_,List.getElem?_eq_getElem (by omega)⟩
  obtain⟨b,hb⟩:∃ b,l[1]?=some b:=⟨_,List.getElem?_eq_getElem (by omega)⟩
  obtain⟨c,hc⟩:∃ c,l[2]?=some c:=⟨_,List.getElem?_eq_getElem (by omega)⟩
  obtain⟨ia,pa,ea,hia,la⟩:=AX.get hl ha
  obtain⟨ib,pb,eb,hib,lb⟩:=AX.get hl hb
  obtain⟨ic,pc,ec,hic,lc⟩:=AX.get hl hc
  have ea':CL Tryd.prog 27 lv (iv 0)=some (qP ia pa):=ea
  have eb':CL Tryd.prog 27 lv (iv 1)=some (qP ib pb):=eb
  have ec':CL Tryd.prog 27 lv (iv 2)=some (qP ic pc):=ec
  have hA0:(ia<h.next)=True:=eq_true hia
  have hB0:(ib<h.next)=True:=eq_true hib
  have hC0:(ic<h.next)=True:=eq_true hic
  rw[show GC k l=.iface 82 (EV a b c) by unfold GC;rw[if_pos e,NU ha,NU hb,NU hc]]
  simp only[eE,seval,↓eP,c4]
  refine WK.flags (fs:=ZG) (by kernel_rfl) ?_
  unfold ZG
  iterate 12
   refine D9 hsn ?_
   simp only[rG,seval,AC,AF,AE,CT,DU,CK,C6,EA,Tryd.underlying82,ea',la,AU,hA0,eb',lb,hB0,ec',lc,hC0,List.map_cons,List.map_nil,Ej]
  refine D4 ?_
  simp only[eE,seval,↓eP,hr]
 | false=>
 have n4:k≠4:=by simpa using c4
 cases c5:(k==5) with
 | true=>
  have e:=beq_iff_eq.1 c5
  have hl1:=h1 (.inl e)
  obtain⟨a,ha⟩:∃ a,l[0]?=some a:=⟨_,List.getElem?_eq_getElem (by omega)⟩
  obtain⟨ia,pa,ea,hia,la⟩:=AX.get hl ha
  have ea':CL Tryd.prog 27 lv (iv 0)=some (qP ia pa):=ea
  rw[show GC k l=.iface 83 (iv a) by unfold GC;rw[if_neg n4,if_pos e,NU ha]]
  simp only[eE,seval,↓eP,hr,c4,c5,ea',AU,la,Tryd.underlying83]
 | false=>
 have n5:k≠5:=by simpa using c5
 cases c6:(k==6) with
 | true=>
  have e:=beq_iff_eq.1 c6
  have hl1:=h1 (.inr (.inl e))
  obtain⟨a,ha⟩:∃ a,l[0]?=some a:=⟨_,List.getElem?_eq_getElem (by omega)⟩
  obtain⟨ia,pa,ea,hia,la⟩:=AX.get hl ha
  have ea':CL Tryd.prog 27 lv (iv 0)=some (qP ia pa):=ea
  rw[show GC k l=.iface 84 (.bool (a != 0)) by unfold GC;rw[if_neg n4,if_neg n5,if_pos e,NU ha]]
  simp only[eE,seval,↓eP,hr,c4,c5,c6,ea',AU,la,Tryd.underlying84]
 | false=>
 have n6:k≠6:=by simpa using c6
 cases c13:(k==13) with
 | true=>
  have e:=beq_iff_eq.1 c13
  have hl1:=h1 (.inr (.inr e))
  obtain⟨a,ha⟩:∃ a,l[0]?=some a:=⟨_,List.getElem?_eq_getElem (by omega)⟩
  obtain⟨ia,pa,ea,hia,la⟩:=AX.get hl ha
  have ea':CL Tryd.prog 27 lv (iv 0)=some (qP ia pa):=ea
  rw[show GC k l=.iface 85 (iv a) by unfold GC;rw[if_neg n4,if_neg n5,if_neg n6,if_pos e,NU ha]]
  simp only[eE,seval,↓eP,hr,c4,c5,c6,c13,ea',AU,la,Tryd.underlying85]
 | false=>
  have n13:k≠13:=by simpa using c13
  rw[show GC k l=.nilIface by unfold GC;rw[if_neg n4,if_neg n5,if_neg n6,if_neg n13]]
  simp only[eE,seval,↓eP,hr,c4,c5,c6,c13]
theorem qT {k:Int} {l:List Int} {lv:Value} {lo:Nat} (hl:AX lo h lv l) (h4:k=4→3≤l.length) (h1:k=5∨k=6∨k=13→1≤l.length) (hn:0<n) :
  AS n 37 [iv k,lv] h=some (GC k l,h):=by
 obtain⟨n,rfl⟩:=C_ hn
 have hw:=Hv (n:=n) (N:=n) hl h4 h1
 cases hv:EF (GC k l) with
 | true=>exact EE (BT ⟨rfl,rfl,rfl⟩) hv hw
 | false=>
  obtain⟨h',e,rfl⟩:=PX (R:=fun h'=>h'=h) (BT ⟨rfl,rfl,rfl⟩) hv ⟨h,hw,rfl⟩
  exact e
end
theorem bL (v:Value):GV Tryd.prog (.iface 82 v) 82 true=some (.tuple #[v,.bool true]):=by kernel_rfl
theorem YW (v:Value):GV Tryd.prog (.iface 83 v) 82 true=some (.tuple #[EV 0 0 0,.bool false]):=by kernel_rfl
theorem nN (v:Value):GV Tryd.prog (.iface 84 v) 82 true=some (.tuple #[EV 0 0 0,.bool false]):=by kernel_rfl
theorem YD (v:Value):GV Tryd.prog (.iface 85 v) 82 true=some (.tuple #[EV 0 0 0,.bool false]):=by kernel_rfl
theorem wA:GV Tryd.prog .nilIface 82 true=some (.tuple #[EV 0 0 0,.bool false]):=by kernel_rfl
theorem bW (v:Value):GV Tryd.prog (.iface 83 v) 83 true=some (.tuple #[v,.bool true]):=by kernel_rfl
theorem jK (v:Value):GV Tryd.prog (.iface 84 v) 83 true=some (.tuple #[iv 0,.bool false]):=by kernel_rfl
theorem X7 (v:Value):GV Tryd.prog (.iface 85 v) 83 true=some (.tuple #[iv 0,.bool false]):=by kernel_rfl
theorem Fi:GV Tryd.prog .nilIface 83 true=some (.tuple #[iv 0,.bool false]):=by kernel_rfl
theorem nV (v:Value):GV Tryd.prog (.iface 84 v) 84 true=some (.tuple #[v,.bool true]):=by kernel_rfl
theorem aU (v:Value):GV Tryd.prog (.iface 85 v) 84 true=some (.tuple #[.bool false,.bool false]):=by kernel_rfl
theorem tO:GV Tryd.prog .nilIface 84 true=some (.tuple #[.bool false,.bool false]):=by kernel_rfl
theorem YX (v:Value):GV Tryd.prog (.iface 85 v) 85 true=some (.tuple #[v,.bool true]):=by kernel_rfl
theorem v_:GV Tryd.prog .nilIface 85 true=some (.tuple #[iv 0,.bool false]):=by kernel_rfl
end Go.Proofs.YtdejoodfeljmkaaDoor
