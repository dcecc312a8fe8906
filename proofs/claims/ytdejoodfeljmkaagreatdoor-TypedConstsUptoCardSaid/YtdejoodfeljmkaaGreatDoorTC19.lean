/- Part 19 of what the claim leans on: 9 texts laid one behind another. -/
import Derived.Test.YtdejoodfeljmkaaGreatDoorTC18
import Derived.OpenShut
import Derived.WalkKit
import Derived.Carry
import Derived.ChangeArms
namespace Go.Proofs.YtdejoodfeljmkaaGreatDoor
open Go Go.Sx Go.ChangeShapes Go.WideShapes Go.ChangeAt Go.RowKit
set_option maxRecDepth 100000
set_option linter.unusedSimpArgs false
set_option linter.unusedVariables false
set_option maxHeartbeats 64000000
theorem J9Y:Tryz.prog.cellsOf 60=5:=by kernel_rfl
theorem Jag:Tryz.prog.cellsOf 3=1:=by kernel_rfl
theorem Jhu:Tryz.prog.cellsOf 9=1:=by kernel_rfl
def Jd7 (x:RowN):Prop:=(-9223372036854775808≤x.kind∧x.kind≤9223372036854775807)∧(-9223372036854775808≤x.ends∧x.ends≤9223372036854775807)∧(-9223372036854775808≤x.n∧x.n≤9223372036854775807)∧(-9223372036854775808≤x.kids∧x.kids≤9223372036854775807)
section
variable {H:Type} {enc:TypeId × Value→H} {W:World} {base:Nat} {sp:Nat→Bool} {hd:Bool}
theorem JcH {n:Nat} {cs:List Value} {y:DataW H × List MemPlace} (h:DataW.trod enc Tryz.prog W base sp hd n 60 cs=some y):∃ x:RowN,cs=J0e x∧Jd7 x:=by
 obtain⟨xs,m,_,_,hl,hxl,hf⟩:=DataW.trod_struct Tryz.underlying60 h
 rw[J9Y] at hl
 obtain⟨c0,c1,c2,c3,c4,rfl⟩:∃ c0 c1 c2 c3 c4,cs=[c0,c1,c2,c3,c4]:=by
  match cs,hl with
  | [a,b,c,d,e],_=>exact⟨a,b,c,d,e,rfl⟩
 have hxl:xs.length=5:=hxl
 have g:∀ i,i<5→∃ y,xs[i]?=some y:=fun i hi=>⟨_,List.getElem?_eq_getElem (by omega)⟩
 obtain⟨y0,e0⟩:=g 0 (by omega)
 obtain⟨y1,e1⟩:=g 1 (by omega)
 obtain⟨y2,e2⟩:=g 2 (by omega)
 obtain⟨y3,e3⟩:=g 3 (by omega)
 obtain⟨y4,e4⟩:=g 4 (by omega)
 have f0:DataW.trod enc Tryz.prog W base sp hd m 3 (([c0,c1,c2,c3,c4].drop 0).take (Tryz.prog.cellsOf 3))=xs[0]?:=hf 0 _ rfl
 rw[Jag,e0] at f0
 have f1:DataW.trod enc Tryz.prog W base sp hd m 9 (([c0,c1,c2,c3,c4].drop 1).take (Tryz.prog.cellsOf 9))=xs[1]?:=hf 1 _ rfl
 rw[Jhu,e1] at f1
 have f2:DataW.trod enc Tryz.prog W base sp hd m 3 (([c0,c1,c2,c3,c4].drop 2).take (Tryz.prog.cellsOf 3))=xs[2]?:=hf 2 _ rfl
 rw[Jag,e2] at f2
 have f3:DataW.trod enc Tryz.prog W base sp hd m 3 (([c0,c1,c2,c3,c4].drop 3).take (Tryz.prog.cellsOf 3))=xs[3]?:=hf 3 _ rfl
 rw[Jag,e3] at f3
 have f4:DataW.trod enc Tryz.prog W base sp hd m 3 (([c0,c1,c2,c3,c4].drop 4).take (Tryz.prog.cellsOf 3))=xs[4]?:=hf 4 _ rfl
 rw[Jag,e4] at f4
 obtain⟨a,ha,_,wa⟩:=DataW.trod_int Tryz.underlying3 f0
 obtain⟨b,hb,_,wb⟩:=DataW.trod_string Tryz.underlying9 f1
 obtain⟨c,hc,_,wc⟩:=DataW.trod_int Tryz.underlying3 f2
 obtain⟨d,hd,_,wd⟩:=DataW.trod_int Tryz.underlying3 f3
 obtain⟨e,he,_,we⟩:=DataW.trod_int Tryz.underlying3 f4
 cases ha
 cases hb
 cases hc
 cases hd
 cases he
 exact⟨⟨a,b,c,d,e⟩,rfl,bounds_i64 wa,bounds_i64 wc,bounds_i64 wd,bounds_i64 we⟩
end
theorem J9W {b off k:Nat}:(⟨b,off,none⟩:Addr).add k=⟨b,off+k,none⟩:=by
 unfold Addr.add
 split
 ·rename_i e;subst e;rfl
 ·rfl
theorem Jen {W:World} {base b off n:Nat} {cs:List Value} (h:W.cells? base ⟨b,off,none⟩ n=some cs):cs.length=n∧∀ i,i<n→W.cell? ⟨b,off+i,none⟩=cs[i]?:=by
 unfold World.cells? at h
 split at h
 ·refine⟨by simpa using mapM_some_length h,fun i hi=>?_⟩
  have:=mapM_some_get h i i (by simp[hi])
  rw[← this,J9W]
 ·cases h
theorem J7Q {x:RowN} {j:Nat} {v:Value} (h:(J0e x)[j]?=some v):J1i v=true:=by
 match j,h with
 | 0,h=>cases h;rfl
 | 1,h=>cases h;rfl
 | 2,h=>cases h;rfl
 | 3,h=>cases h;rfl
 | 4,h=>cases h;rfl
end Go.Proofs.YtdejoodfeljmkaaGreatDoor
namespace Go.Proofs.YtdejoodfeljmkaaGreatDoor
open Go Go.Sx
set_option maxRecDepth 100000
set_option linter.unusedSimpArgs false
set_option linter.unusedVariables false
set_option maxHeartbeats 64000000
def J5z (a b:RowN):Bool:=a.kind==b.kind&&(a.name==b.name&&(a.ends==b.ends&&(a.n==b.n&&a.kids==b.kids)))
theorem eqs {P:Program} {t:TypeId} {a b:ByteArray} (h:P.underlying t=some .string) (d:Nat):J0k P (Op.equalIn (d+1) t (.string a) (.string b))=some (a==b):=by
 rw[Op.equalIn,J0c,J1R h]
 simp[J0C]
theorem eqb {P:Program} {t:TypeId} {a b:Bool} (h:P.underlying t=some .bool) (d:Nat):J0k P (Op.equalIn (d+1) t (.bool a) (.bool b))=some (a==b):=by
 rw[Op.equalIn,J0c,J1R h]
 simp[J0C]
theorem JdG:Tryz.prog.eqGuardType Tryz.prog.depth 60=false:=by kernel_rfl
theorem JfU:Tryz.prog.stoodInHeld 60=false:=by kernel_rfl
theorem JcM:Tryz.prog.eqGuardType Tryz.prog.depth 75=false:=by kernel_rfl
theorem Jgu:Tryz.prog.stoodInHeld 75=false:=by kernel_rfl
theorem J3f {a c d e:Int} {b:ByteArray}:J0k Tryz.prog (part 3 #[.int .i64 a,.string b,.int .i64 c,.int .i64 d,.int .i64 e] 0)=some (.int .i64 a)∧J0k Tryz.prog (part 9 #[.int .i64 a,.string b,.int .i64 c,.int .i64 d,.int .i64 e] 1)=some (.string b)∧J0k Tryz.prog (part 3 #[.int .i64 a,.string b,.int .i64 c,.int .i64 d,.int .i64 e] 2)=some (.int .i64 c) ∧
  J0k Tryz.prog (part 3 #[.int .i64 a,.string b,.int .i64 c,.int .i64 d,.int .i64 e] 3)=some (.int .i64 d)∧J0k Tryz.prog (part 3 #[.int .i64 a,.string b,.int .i64 c,.int .i64 d,.int .i64 e] 4)=some (.int .i64 e):=⟨rfl,rfl,rfl,rfl,rfl⟩
theorem JeF {a:ByteArray} {b:Bool}:J0k Tryz.prog (part 9 #[.string a,.bool b] 0)=some (.string a)∧J0k Tryz.prog (part 4 #[.string a,.bool b] 1)=some (.bool b):=⟨rfl,rfl⟩
theorem Jgj {a b:RowN} (n:Nat):J0k Tryz.prog (Op.equalIn (n+2) 60 (rowV a) (rowV b))=some (J5z a b):=by
 obtain⟨a1,a2,a3,a4,a5⟩:=a
 obtain⟨b1,b2,b3,b4,b5⟩:=b
 show J0k Tryz.prog (Op.equalIn (n+2) 60 (.agg #[.int .i64 a1,.string a2,.int .i64 a3,.int .i64 a4,.int .i64 a5]) (.agg #[.int .i64 b1,.string b2,.int .i64 b3,.int .i64 b4,.int .i64 b5]))=some (a1==b1&&(a2==b2&&(a3==b3&&(a4==b4&&a5==b5))))
 rw[Op.equalIn,J0c,J1R Tryz.underlying60]
 simp only[Option.bind_some,J0c,J1a,JfU,Bool.false_eq_true,if_false,J0C]
 simp only[List.forIn_toArray,List.forIn_cons,List.forIn_nil,ne_eq,String.reduceEq,not_false_eq_true,if_true,J0c,J3f.1,J3f.2.1,J3f.2.2.1,J3f.2.2.2.1,J3f.2.2.2.2,Option.bind_some,eqi Tryz.underlying3,eqs Tryz.underlying9]
 cases h1:(a1==b1) <;> simp[J0c,J0C,J3f.1,J3f.2.1,J3f.2.2.1,J3f.2.2.2.1,J3f.2.2.2.2,eqi Tryz.underlying3,eqs Tryz.underlying9,h1,-beq_iff_eq,-beq_eq_false_iff_ne]
 cases h2:(a2==b2) <;> simp[J0c,J0C,J3f.1,J3f.2.1,J3f.2.2.1,J3f.2.2.2.1,J3f.2.2.2.2,eqi Tryz.underlying3,eqs Tryz.underlying9,h2,-beq_iff_eq,-beq_eq_false_iff_ne]
 cases h3:(a3==b3) <;> simp[J0c,J0C,J3f.1,J3f.2.1,J3f.2.2.1,J3f.2.2.2.1,J3f.2.2.2.2,eqi Tryz.underlying3,eqs Tryz.underlying9,h3,-beq_iff_eq,-beq_eq_false_iff_ne]
 cases h4:(a4==b4) <;> simp[J0c,J0C,J3f.1,J3f.2.1,J3f.2.2.1,J3f.2.2.2.1,J3f.2.2.2.2,eqi Tryz.underlying3,eqs Tryz.underlying9,h4,-beq_iff_eq,-beq_eq_false_iff_ne]
 cases h5:(a5==b5) <;> simp[J0c,J0C,h5,-beq_iff_eq,-beq_eq_false_iff_ne]
theorem Jhb {a c:ByteArray} {b d:Bool} (n:Nat):J0k Tryz.prog (Op.equalIn (n+2) 75 (.agg #[.string a,.bool b]) (.agg #[.string c,.bool d]))=some (a==c&&b==d):=by
 rw[Op.equalIn,J0c,J1R Tryz.underlying75]
 simp only[Option.bind_some,J0c,J1a,Jgu,Bool.false_eq_true,if_false,J0C]
 simp only[List.forIn_toArray,List.forIn_cons,List.forIn_nil,ne_eq,String.reduceEq,not_false_eq_true,if_true,J0c,JeF.1,JeF.2,Option.bind_some,eqs Tryz.underlying9,eqb Tryz.underlying4]
 cases h1:(a==c) <;> simp[J0c,J0C,JeF.1,JeF.2,eqs Tryz.underlying9,eqb Tryz.underlying4,h1,-beq_iff_eq,-beq_eq_false_iff_ne]
 cases h2:(b==d) <;> simp[J0c,J0C,h2,-beq_iff_eq,-beq_eq_false_iff_ne]
theorem J8z {a:RowN}:flat (rowV a)=true:=rfl
theorem J7d {a:ByteArray} {b:Bool}:flat (.agg #[.string a,.bool b])=true:=rfl
section
variable {x y:Operand}
theorem JhG (op:BinOp) (neg:Bool) (hop:op=if neg then .neq else .eql) {a b:RowN}:binS Tryz.prog op 60 x y (rowV a) (rowV b)=some (.bool (if neg then !(J5z a b) else J5z a b)):=by
 have k:J0k Tryz.prog (Op.equal 60 (rowV a) (rowV b))=some (J5z a b):=Jgj 9998
 cases neg with
 | true=>
  subst hop
  have e:J0k Tryz.prog (do eqGuard .neq 60 x y (rowV a) (rowV b);binOp .neq 60 (rowV a) (rowV b))=some (.bool (!(J5z a b))):=by
   rw[J0c]
   have g:J0k Tryz.prog (eqGuard .neq 60 x y (rowV a) (rowV b))=some ():=by
    unfold eqGuard
    simp[J0c,J1a,J0C,JdG]
   rw[g]
   show J0k Tryz.prog ((do pure (.bool (!(← Op.equal 60 (rowV a) (rowV b))))):Sem Value)=_
   rw[J0c,k]
   rfl
  simp only[binS,J8z,Bool.and_self,if_true,e,J2F]
 | false=>
  subst hop
  have e:J0k Tryz.prog (do eqGuard .eql 60 x y (rowV a) (rowV b);binOp .eql 60 (rowV a) (rowV b))=some (.bool (J5z a b)):=by
   rw[J0c]
   have g:J0k Tryz.prog (eqGuard .eql 60 x y (rowV a) (rowV b))=some ():=by
    unfold eqGuard
    simp[J0c,J1a,J0C,JdG]
   rw[g]
   show J0k Tryz.prog ((do pure (.bool (← Op.equal 60 (rowV a) (rowV b)))):Sem Value)=_
   rw[J0c,k]
   rfl
  simp only[Bool.false_eq_true,if_false,binS,J8z,Bool.and_self,if_true,e,J2F]
theorem eq46 {a b:RowN}:binS Tryz.prog .eql 60 x y (rowV a) (rowV b)=some (.bool (J5z a b)):=JhG .eql false rfl
theorem J6U {a b:RowN}:binS Tryz.prog .neq 60 x y (rowV a) (rowV b)=some (.bool (!(J5z a b))):=JhG .neq true rfl
theorem Jie (op:BinOp) (neg:Bool) (hop:op=if neg then .neq else .eql) {a c:ByteArray} {b d:Bool}:binS Tryz.prog op 75 x y (.agg #[.string a,.bool b]) (.agg #[.string c,.bool d])=some (.bool (if neg then !(a==c&&b==d) else (a==c&&b==d))):=by
 have k:J0k Tryz.prog (Op.equal 75 (.agg #[.string a,.bool b]) (.agg #[.string c,.bool d]))=some (a==c&&b==d):=Jhb 9998
 cases neg with
 | true=>
  subst hop
  have e:J0k Tryz.prog (do eqGuard .neq 75 x y (.agg #[.string a,.bool b]) (.agg #[.string c,.bool d]);binOp .neq 75 (.agg #[.string a,.bool b]) (.agg #[.string c,.bool d]))=some (.bool (!(a==c&&b==d))):=by
   rw[J0c]
   have g:J0k Tryz.prog (eqGuard .neq 75 x y (.agg #[.string a,.bool b]) (.agg #[.string c,.bool d]))=some ():=by
    unfold eqGuard
    simp[J0c,J1a,J0C,JcM]
   rw[g]
   show J0k Tryz.prog ((do pure (.bool (!(← Op.equal 75 (.agg #[.string a,.bool b]) (.agg #[.string c,.bool d]))))):Sem Value)=_
   rw[J0c,k]
   rfl
  simp only[binS,J7d,Bool.and_self,if_true,e,J2F]
 | false=>
  subst hop
  have e:J0k Tryz.prog (do eqGuard .eql 75 x y (.agg #[.string a,.bool b]) (.agg #[.string c,.bool d]);binOp .eql 75 (.agg #[.string a,.bool b]) (.agg #[.string c,.bool d]))=some (.bool (a==c&&b==d)):=by
   rw[J0c]
   have g:J0k Tryz.prog (eqGuard .eql 75 x y (.agg #[.string a,.bool b]) (.agg #[.string c,.bool d]))=some ():=by
    unfold eqGuard
    simp[J0c,J1a,J0C,JcM]
   rw[g]
   show J0k Tryz.prog ((do pure (.bool (← Op.equal 75 (.agg #[.string a,.bool b]) (.agg #[.string c,.bool d])))):Sem Value)=_
   rw[J0c,k]
   rfl
  simp only[Bool.false_eq_true,if_false,binS,J7d,Bool.and_self,if_true,e,J2F]
theorem eq57 {a c:ByteArray} {b d:Bool}:binS Tryz.prog .eql 75 x y (.agg #[.string a,.bool b]) (.agg #[.string c,.bool d])=some (.bool (a==c&&b==d)):=Jie .eql false rfl
theorem J6H {a c:ByteArray} {b d:Bool}:binS Tryz.prog .neq 75 x y (.agg #[.string a,.bool b]) (.agg #[.string c,.bool d])=some (.bool (!(a==c&&b==d))):=Jie .neq true rfl
end
theorem Jcs {a b:ByteArray}:(a==b)=true↔a=b:=by
 obtain⟨a⟩:=a
 obtain⟨b⟩:=b
 show (a==b)=true↔_
 rw[beq_iff_eq,ByteArray.mk.injEq]
theorem J6E {a b:RowN}:J5z a b=true↔a=b:=by
 obtain⟨a1,a2,a3,a4,a5⟩:=a
 obtain⟨b1,b2,b3,b4,b5⟩:=b
 unfold J5z
 simp only[Bool.and_eq_true,beq_iff_eq,Jcs,RowN.mk.injEq]
theorem JfF {lo:Nat} {h:SHeap} {v:Value} {n w:Nat} {cs:List Value} (hc:J0p lo h v n w cs) (h':SHeap):lenS Tryz.prog h' 25 v=some (iv (n:Int)):=J0p.len hc Tryz.underlying25
theorem JfT {lo:Nat} {h:SHeap} {v:Value} {n w:Nat} {cs:List Value} (hc:J0p lo h v n w cs) (h':SHeap):lenS Tryz.prog h' 24 v=some (iv (n:Int)):=J0p.len hc Tryz.underlying24
theorem JfC {lo:Nat} {h:SHeap} {v:Value} {n w:Nat} {cs:List Value} (hc:J0p lo h v n w cs) (h':SHeap):lenS Tryz.prog h' 23 v=some (iv (n:Int)):=J0p.len hc Tryz.underlying23
theorem JfA {lo:Nat} {h:SHeap} {v:Value} {n w:Nat} {cs:List Value} (hc:J0p lo h v n w cs) (h':SHeap):lenS Tryz.prog h' 22 v=some (iv (n:Int)):=J0p.len hc Tryz.underlying22
theorem Ja3 {l:List ByteArray} {i:Nat} {x:ByteArray} (hx:l[i]?=some x) {lo:Nat} {h:SHeap} {v:Value} (hc:J0p lo h v l.length 1 (strs l)):∃ id p,J0R Tryz.prog 24 v (iv (i:Int))=some (qP id p)∧id<h.next∧ld1 p (h.get id)=some (.string x):=by
 obtain⟨id,p,h1,h2,h3⟩:=J0p.idx hc Tryz.underlying24 sz9 (List.getElem?_eq_some_iff.1 hx).1
 refine⟨id,p,h1,h2,?_⟩
 have:=h3 0 (by decide)
 rw[Nat.add_zero] at this
 rw[this,Nat.mul_one,Nat.add_zero,strs,List.getElem?_map,hx]
 rfl
theorem J7n:∀ {l:List (ByteArray × Bool)} {i:Nat} {x:ByteArray × Bool},l[i]?=some x→((J3S l).drop (i*2)).take 2=[.string x.1,.bool x.2]
 | [],i,x,h=>by simp at h
 | q :: l,0,x,h=>by
  simp only[List.getElem?_cons_zero,Option.some.injEq] at h
  subst h
  rfl
 | q :: l,i+1,x,h=>by
  have:=J7n (l:=l) (i:=i) (x:=x) (by simpa using h)
  rw[← this,show (i+1)*2=i*2+2 by omega]
  rfl
theorem J8S {l:List (ByteArray × Bool)} {i:Nat} {x:ByteArray × Bool} (hx:l[i]?=some x) {lo:Nat} {h:SHeap} {v:Value} (hc:J0p lo h v l.length 2 (J3S l)):∃ id p,J0R Tryz.prog 23 v (iv (i:Int))=some (qP id p)∧id<h.next∧ldN 2 p (h.get id)=some (.agg #[.string x.1,.bool x.2]):=by
 obtain⟨id,p,h1,h2,h3⟩:=J0p.whole hc Tryz.underlying23 sz57 (List.getElem?_eq_some_iff.1 hx).1
 rw[J7n hx] at h3
 exact⟨id,p,h1,h2,h3⟩
theorem J4S {α:Type} {A B:List α} (hl:A.length=B.length) (h:∀ j,j<A.length→A[j]?=B[j]?):A=B:=by
 apply List.ext_getElem?
 intro j
 rcases Nat.lt_or_ge j A.length with h1 | h1
 ·exact h j h1
 ·rw[List.getElem?_eq_none h1,List.getElem?_eq_none (by omega)]
theorem Jj5:J2X Tryz.prog 75=some true:=by kernel_rfl
theorem J3z {h:SHeap} {id off:Nat}:J2x Tryz.prog h 75 (qP id off)=ldN 2 off (h.get id):=J5S Jj5 sz57
def JbT:List (Bool × Bool × List Operand):=[fa1,fa1,fa1,fa1,fa3 [.tmp 19],fa3 [.tmp 19],fa3 [.tmp 19],fa3 [.tmp 19],fa0]
section
variable {call:J0r} {N:Nat} {h:SHeap}
theorem J7z (hsn:J1G call) {va vb:Value} {A B:List Int} {la lb:Nat} (ha:J1S la h va A) (hb:J1S lb h vb B) (hN:A.length+3<N) (hl:A.length<1099511627776):J0L Tryz.prog call N 90 [va,vb] h=some (.bool (decide (A=B)),h):=by
 refine J1m Tryz.func90 rfl (by simp[Tryz.f90]) ?_
 have hr:Tryz.f90.results.toList=[.tmp 4]:=rfl
 have lA:=fun h'=>JfF ha h'
 have lB:=fun h'=>JfF hb h'
 cases d:((A.length:Int) != (B.length:Int)) with
 | true=>
  have hne:A≠B:=fun e=>by subst e;simp at d
  rw[decide_eq_false hne]
  simp only[evC,↓reduceIte,Nat.reduceEqDiff,reduceCtorEq,↓evP,hr,lA,lB,d]
 | false=>
  have hlen:A.length=B.length:=by
   have h9:(A.length:Int)=(B.length:Int):=by simpa using d
   omega
  simp only[evC,↓reduceIte,Nat.reduceEqDiff,reduceCtorEq,↓evP,lA,lB,d]
  refine WK.loop (fun i s'=>s'.T.get 0=va∧s'.T.get 1=vb∧s'.T.get 5=iv i∧s'.h=h∧i≤A.length∧∀ j,j<i→A[j]?=B[j]?) A.length (by omega) ?_ ?_
  ·simp only[evC,↓reduceIte,Nat.reduceEqDiff,reduceCtorEq,↓evP,rpC,Nat.reduceAdd,Nat.reduceLT]
   exact⟨rfl,fun j hj=>by omega⟩
  ·rintro i ⟨T1,H1⟩ hi ⟨t0,t1,t5,hh,hil,hsame⟩
   simp only at t0 t1 t5 hh
   subst hh
   by_cases hlt:i<A.length
   ·have c1:decide ((i:Int)<(A.length:Int))=true:=by simp;omega
    obtain⟨x,hx⟩:∃ x,A[i]?=some x:=⟨_,List.getElem?_eq_getElem hlt⟩
    obtain⟨y,hy⟩:∃ y,B[i]?=some y:=⟨_,List.getElem?_eq_getElem (by omega)⟩
    obtain⟨ida,pa,ea,_,xa⟩:=J1S.get ha hx
    obtain⟨idb,pb,eb,_,xb⟩:=J1S.get hb hy
    have w1:IntKind.i64.wrap ((i:Int)+1)=((i+1:Nat):Int):=J0s (by omega) (by omega)
    simp only[evC,seval,↓evP,t0,t1,t5,lA,c1]
    refine WK.flags (fs:=JbT) (by kernel_rfl) ?_
    unfold JbT
    iterate 9
     refine wcs hsn ?_
     simp only[rgC,seval,J04,J02,WKFC,rgL,rgK,J17,rgS,rgB,t0,t1,t5,ea,eb,J0m,xa,xb,J4h]
    refine JvR ?_
    cases e:(x != y) with
    | true=>
     have hne:A≠B:=fun h9=>by
      subst h9
      rw[hx] at hy
      cases hy
      simp at e
     rw[decide_eq_false hne]
     simp only[evC,seval,↓evP,hr,e]
    | false=>
     have hxy:x=y:=by simpa using e
     simp only[evC,seval,↓evP,t0,t1,t5,e,w1]
     refine⟨by omega,by omega,fun j hj=>?_⟩
     rcases Nat.lt_or_ge j i with h1 | h1
     ·exact hsame j h1
     ·have:j=i:=by omega
      subst this
      rw[hx,hy,hxy]
   ·have c1:decide ((i:Int)<(A.length:Int))=false:=by simp;omega
    have:i=A.length:=by omega
    subst this
    have hAB:A=B:=J4S hlen hsame
    rw[decide_eq_true hAB]
    simp only[evC,seval,↓evP,hr,t0,t1,t5,lA,c1]
end
def J9D:List (Bool × Bool × List Operand):=[fa1,fa1,fa1,fa1,fa3 [.tmp 19],fa3 [.tmp 19],fa3 [.tmp 19],fa3 [.tmp 19],fa0]
section
variable {call:J0r} {N:Nat} {h:SHeap}
theorem J71 (hsn:J1G call) {va vb:Value} {A B:List ByteArray} {la lb:Nat} (ha:J0p la h va A.length 1 (strs A)) (hb:J0p lb h vb B.length 1 (strs B)) (hN:A.length+3<N) (hl:A.length<1099511627776):J0L Tryz.prog call N 89 [va,vb] h=some (.bool (decide (A=B)),h):=by
 refine J1m Tryz.func89 rfl (by simp[Tryz.f89]) ?_
 have hr:Tryz.f89.results.toList=[.tmp 4]:=rfl
 have lA:=fun h'=>JfT ha h'
 have lB:=fun h'=>JfT hb h'
 cases d:((A.length:Int) != (B.length:Int)) with
 | true=>
  have hne:A≠B:=fun e=>by subst e;simp at d
  rw[decide_eq_false hne]
  simp only[evC,↓reduceIte,Nat.reduceEqDiff,reduceCtorEq,↓evP,hr,lA,lB,d]
 | false=>
  have hlen:A.length=B.length:=by
   have h9:(A.length:Int)=(B.length:Int):=by simpa using d
   omega
  simp only[evC,↓reduceIte,Nat.reduceEqDiff,reduceCtorEq,↓evP,lA,lB,d]
  refine WK.loop (fun i s'=>s'.T.get 0=va∧s'.T.get 1=vb∧s'.T.get 5=iv i∧s'.h=h∧i≤A.length∧∀ j,j<i→A[j]?=B[j]?) A.length (by omega) ?_ ?_
  ·simp only[evC,↓reduceIte,Nat.reduceEqDiff,reduceCtorEq,↓evP,rpC,Nat.reduceAdd,Nat.reduceLT]
   exact⟨rfl,fun j hj=>by omega⟩
  ·rintro i ⟨T1,H1⟩ hi ⟨t0,t1,t5,hh,hil,hsame⟩
   simp only at t0 t1 t5 hh
   subst hh
   by_cases hlt:i<A.length
   ·have c1:decide ((i:Int)<(A.length:Int))=true:=by simp;omega
    obtain⟨x,hx⟩:∃ x,A[i]?=some x:=⟨_,List.getElem?_eq_getElem hlt⟩
    obtain⟨y,hy⟩:∃ y,B[i]?=some y:=⟨_,List.getElem?_eq_getElem (by omega)⟩
    obtain⟨ida,pa,ea,_,xa⟩:=Ja3 hx ha
    obtain⟨idb,pb,eb,_,xb⟩:=Ja3 hy hb
    have w1:IntKind.i64.wrap ((i:Int)+1)=((i+1:Nat):Int):=J0s (by omega) (by omega)
    simp only[evC,seval,↓evP,t0,t1,t5,lA,c1]
    refine WK.flags (fs:=J9D) (by kernel_rfl) ?_
    unfold J9D
    iterate 9
     refine wcs hsn ?_
     simp only[rgC,seval,J04,J02,WKFC,rgL,rgK,J17,rgS,rgB,t0,t1,t5,ea,eb,J0d,xa,xb,J26]
    refine JvR ?_
    cases e:(!(x==y)) with
    | true=>
     have hne:A≠B:=fun h9=>by
      subst h9
      rw[hx] at hy
      cases hy
      rw[J34] at e;cases e
     rw[decide_eq_false hne]
     simp only[evC,seval,↓evP,hr,e]
    | false=>
     have hxy:x=y:=J3o (by simpa using e)
     simp only[evC,seval,↓evP,t0,t1,t5,e,w1]
     refine⟨by omega,by omega,fun j hj=>?_⟩
     rcases Nat.lt_or_ge j i with h1 | h1
     ·exact hsame j h1
     ·have:j=i:=by omega
      subst this
      rw[hx,hy,hxy]
   ·have c1:decide ((i:Int)<(A.length:Int))=false:=by simp;omega
    have:i=A.length:=by omega
    subst this
    have hAB:A=B:=J4S hlen hsame
    rw[decide_eq_true hAB]
    simp only[evC,seval,↓evP,hr,t0,t1,t5,lA,c1]
end
theorem J78 {n:Nat} {h:SHeap} {va vb:Value} {A B:List Int} {la lb:Nat} (ha:J1S la h va A) (hb:J1S lb h vb B) (hl:A.length<1000000000) (hn:A.length+5<n):J0T n 90 [va,vb] h=some (.bool (decide (A=B)),h):=by
 obtain⟨n,rfl⟩:∃ j,n=j+1:=⟨n-1,by omega⟩
 exact J6r (J13 ⟨rfl,rfl,rfl⟩) rfl (J7z (J1z n).2 ha hb (by omega) (by omega))
theorem J6s {n:Nat} {h:SHeap} {va vb:Value} {A B:List ByteArray} {la lb:Nat} (ha:J0p la h va A.length 1 (strs A)) (hb:J0p lb h vb B.length 1 (strs B)) (hl:A.length<1000000000) (hn:A.length+5<n):J0T n 89 [va,vb] h=some (.bool (decide (A=B)),h):=by
 obtain⟨n,rfl⟩:∃ j,n=j+1:=⟨n-1,by omega⟩
 exact J6r (J13 ⟨rfl,rfl,rfl⟩) rfl (J71 (J1z n).2 ha hb (by omega) (by omega))
def JhF:List (Bool × Bool × List Operand):=[fa1,fa1,fa3 [.tmp 44],fa1,fa1,fa3 [.tmp 44,.tmp 47],fa3 [.tmp 44,.tmp 47],fa3 [.tmp 44,.tmp 47,.tmp 49],fa3 [.tmp 44,.tmp 47],fa3 [.tmp 44,.tmp 47],fa0]
def Jge:List (Bool × Bool × List Operand):=[fa1,fa1,fa3 [.tmp 62],fa1,fa1,fa3 [.tmp 62,.tmp 65],fa3 [.tmp 62,.tmp 65],fa3 [.tmp 62,.tmp 65,.tmp 67],fa3 [.tmp 62,.tmp 65],fa3 [.tmp 62,.tmp 65],fa0]
def J5b (nm nm':ByteArray) (s s':StN):Prop:=nm=nm'∧s.miss=s'.miss∧s.rows=s'.rows∧s.queues=s'.queues∧s.vars=s'.vars∧s.tags=s'.tags∧s.rules=s'.rules∧s.on=s'.on
noncomputable def S3:Code:=rt (rt (Tryz.f63.body.getD .skip))
noncomputable def S8:Code:=rt S3
noncomputable def S13:Code:=rt S8
theorem Jhw {a b c d e f g i:Value} {ty:TypeId} {x y:Bool}:ld1 0 (.row [a,b,c,d,e,f,g,i] ty x y)=some a∧ld1 1 (.row [a,b,c,d,e,f,g,i] ty x y)=some b∧ld1 2 (.row [a,b,c,d,e,f,g,i] ty x y)=some c∧ld1 3 (.row [a,b,c,d,e,f,g,i] ty x y)=some d∧ld1 4 (.row [a,b,c,d,e,f,g,i] ty x y)=some e∧ld1 5 (.row [a,b,c,d,e,f,g,i] ty x y)=some f∧ld1 6 (.row [a,b,c,d,e,f,g,i] ty x y)=some g∧ld1 7 (.row [a,b,c,d,e,f,g,i] ty x y)=some i:=⟨rfl,rfl,rfl,rfl,rfl,rfl,rfl,rfl⟩
def JdC (s:StN):Prop:=s.rows.length<1000000000∧s.queues.length<1000000000∧s.vars.length<1000000000∧s.tags.length<1000000000∧s.rules.length<1000000000∧s.on.length<1000000000
def Jbg (s:StN):Nat:=s.rows.length+s.queues.length+s.vars.length+s.tags.length+s.rules.length+s.on.length
section
variable {n N:Nat}
theorem Jcc (hsn:J1G (J0T n)) {nm nm':ByteArray} {s s':StN} {pa pb:Value} {la lb:Nat} {h:SHeap} (ha:J3x la h pa nm s) (hb:J3x lb h pb nm' s') (hs:JdC s) (hn:Jbg s+10<n) (hN:Jbg s+10<N) :
  ∃ b h1,J0L Tryz.prog (J0T n) N 63 [pa,pb] h=some (.bool b,h1)∧(b=true↔J5b nm nm' s s')∧∀ i,i<h.next→h1.get i=h.get i:=by
 obtain⟨ar,aq,av,at_,au,ao,rfl,a1,a2,a3,a4,a5,a6⟩:=ha
 obtain⟨br,bq,bv,bt,bu,bo,rfl,b1,b2,b3,b4,b5,b6⟩:=hb
 suffices hsuf:∃ v h1,J0L Tryz.prog (J0T n) N 63 [.agg #[.string nm,ar,aq,av,at_,au,ao,iv s.miss],.agg #[.string nm',br,bq,bv,bt,bu,bo,iv s'.miss]] h=some (v,h1)∧(∃ b,v=.bool b∧(b=true↔J5b nm nm' s s')∧∀ i,i<h.next→h1.get i=h.get i) by
  obtain⟨v,h1,e1,b,rfl,e2⟩:=hsuf
  exact⟨b,h1,e1,e2⟩
 refine J65 (R:=fun v h1=>∃ b,v=.bool b∧(b=true↔J5b nm nm' s s')∧∀ i,i<h.next→h1.get i=h.get i) Tryz.func63 rfl (by simp[Tryz.f63]) ?_
 have hr:Tryz.f63.results.toList=[.tmp 4]:=rfl
 unfold Jbg at hn hN
 obtain⟨q1,q2,q3,q4,q5,q6⟩:=hs
 have ca:(Value.agg #[.string nm,ar,aq,av,at_,au,ao,iv s.miss]).cells.toList=[.string nm,ar,aq,av,at_,au,ao,iv s.miss]:=rfl
 have cb:(Value.agg #[.string nm',br,bq,bv,bt,bu,bo,iv s'.miss]).cells.toList=[.string nm',br,bq,bv,bt,bu,bo,iv s'.miss]:=rfl
 have oa:([.string nm,ar,aq,av,at_,au,ao,iv s.miss]:List Value).all one=true:=by
  simp only[List.all_cons,List.all_nil,a1.2.one,a2.one,a3.one,a4.one,J0p.one a5,J0p.one a6,J5J,J5K,Bool.and_self]
 have ob:([.string nm',br,bq,bv,bt,bu,bo,iv s'.miss]:List Value).all one=true:=by
  simp only[List.all_cons,List.all_nil,b1.2.one,b2.one,b3.one,b4.one,J0p.one b5,J0p.one b6,J5J,J5K,Bool.and_self]
 have gA:=J4c (h:=h) (o:=.row [.string nm,ar,aq,av,at_,au,ao,iv s.miss] 27 false false) (o':=.row [.string nm',br,bq,bv,bt,bu,bo,iv s'.miss] 27 false false)
 have gB:=J48 (h:=h) (o:=.row [.string nm,ar,aq,av,at_,au,ao,iv s.miss] 27 false false) (o':=.row [.string nm',br,bq,bv,bt,bu,bo,iv s'.miss] 27 false false)
 have gO:∀ i,i<h.next→((h.push (.row [.string nm,ar,aq,av,at_,au,ao,iv s.miss] 27 false false)).push (.row [.string nm',br,bq,bv,bt,bu,bo,iv s'.miss] 27 false false)).get i=h.get i:=fun i hi=>by rw[J06 (by show i<h.next+1;omega),J06 hi]
 show WK _ _ _ (.seq _ (.seq _ S3)) _ _
 simp only[evC,seval,↓evP,rpD,J0X,J2t,ca,cb,oa,ob,sz30]
 have nH:((h.push (.row [.string nm,ar,aq,av,at_,au,ao,iv s.miss] 27 false false)).push (.row [.string nm',br,bq,bv,bt,bu,bo,iv s'.miss] 27 false false)).next=h.next+2:=rfl
 generalize (h.push (.row [.string nm,ar,aq,av,at_,au,ao,iv s.miss] 27 false false)).push (.row [.string nm',br,bq,bv,bt,bu,bo,iv s'.miss] 27 false false)=H at *
 generalize hKK:Kont.top _=K
 have fin:∀ (T':Tr) b,T'.get 4=.bool b→(b=true↔J5b nm nm' s s')→K.ap Tryz.prog (J0T n) N .ret ⟨T',H⟩:=by
  intro T' b h4 hb
  rw[← hKK]
  simp only[evC,seval,↓evP,hr,h4]
  exact⟨b,rfl,hb,gO⟩
 have fno:∀ (T':Tr),T'.get 4=.bool false→¬ J5b nm nm' s s'→K.ap Tryz.prog (J0T n) N .ret ⟨T',H⟩:=fun T' h4 hn=>fin T' false h4 ⟨fun h=>(by cases h),fun h=>absurd h hn⟩
 clear hKK
 have hN':h.next≤H.next:=by omega
 have A1:=a1.mono hN' fun i _ hi=>gO i hi
 have A2:=a2.mono hN' fun i _ hi=>gO i hi
 have A3:=a3.mono hN' fun i _ hi=>gO i hi
 have A4:=a4.mono hN' fun i _ hi=>gO i hi
 have A5:=J1S.mono a5 hN' fun i _ hi=>gO i hi
 have A6:=J1S.mono a6 hN' fun i _ hi=>gO i hi
 have B1:=b1.mono hN' fun i _ hi=>gO i hi
 have B2:=b2.mono hN' fun i _ hi=>gO i hi
 have B3:=b3.mono hN' fun i _ hi=>gO i hi
 have B4:=b4.mono hN' fun i _ hi=>gO i hi
 have B5:=J1S.mono b5 hN' fun i _ hi=>gO i hi
 have B6:=J1S.mono b6 hN' fun i _ hi=>gO i hi
 obtain⟨x0,x1,x2,x3,x4,x5,x6,x7⟩:=Jhw (a:=.string nm) (b:=ar) (c:=aq) (d:=av) (e:=at_) (f:=au) (g:=ao) (i:=iv s.miss) (ty:=27) (x:=false) (y:=false)
 obtain⟨y0,y1,y2,y3,y4,y5,y6,y7⟩:=Jhw (a:=.string nm') (b:=br) (c:=bq) (d:=bv) (e:=bt) (f:=bu) (g:=bo) (i:=iv s'.miss) (ty:=27) (x:=false) (y:=false)
 rw[← gA] at x0 x1 x2 x3 x4 x5 x6 x7
 rw[← gB] at y0 y1 y2 y3 y4 y5 y6 y7
 have lr1:=fun h'=>JfA A1.2 h'
 have lr2:=fun h'=>JfA B1.2 h'
 have lq1:=fun h'=>JfC A2 h'
 have lq2:=fun h'=>JfC B2 h'
 cases d1:(!(nm==nm')) with
 | true=>
  simp only[evC,seval,↓evP,Nat.zero_add,J5g,J0y,J0B,J38,J0d,J0m,J0F,J0S,x0,x1,x2,x7,y0,y1,y2,y7,lr1,lr2,lq1,lq2,J26,d1]
  refine fno _ (by simp only[evC,seval,↓evP,rpC]) fun hsp=>?_
  rw[hsp.1,J34] at d1
  cases d1
 | false=>
 have e1:nm=nm':=J3o (by simpa using d1)
 cases d2:(s.miss != s'.miss) with
 | true=>
  simp only[evC,seval,↓evP,Nat.zero_add,J5g,J0y,J0B,J38,J0d,J0m,J0F,J0S,x0,x1,x2,x7,y0,y1,y2,y7,lr1,lr2,lq1,lq2,J26,d1,d2]
  refine fno _ (by simp only[evC,seval,↓evP,rpC]) fun hsp=>?_
  rw[hsp.2.1] at d2
  simp at d2
 | false=>
 have e2:s.miss=s'.miss:=by simpa using d2
 cases d3:((s.rows.length:Int) != (s'.rows.length:Int)) with
 | true=>
  simp only[evC,seval,↓evP,Nat.zero_add,J5g,J0y,J0B,J38,J0d,J0m,J0F,J0S,x0,x1,x2,x7,y0,y1,y2,y7,lr1,lr2,lq1,lq2,J26,d1,d2,d3]
  refine fno _ (by simp only[evC,seval,↓evP,rpC]) fun hsp=>?_
  rw[hsp.2.2.1] at d3
  simp at d3
 | false=>
 have e3:s.rows.length=s'.rows.length:=by
  have h9:(s.rows.length:Int)=(s'.rows.length:Int):=by simpa using d3
  omega
 cases d4:((s.queues.length:Int) != (s'.queues.length:Int)) with
 | true=>
  simp only[evC,seval,↓evP,Nat.zero_add,J5g,J0y,J0B,J38,J0d,J0m,J0F,J0S,x0,x1,x2,x7,y0,y1,y2,y7,lr1,lr2,lq1,lq2,J26,d1,d2,d3,d4]
  refine fno _ (by simp only[evC,seval,↓evP,rpC]) fun hsp=>?_
  rw[hsp.2.2.2.1] at d4
  simp at d4
 | false=>
 have e4:s.queues.length=s'.queues.length:=by
  have h9:(s.queues.length:Int)=(s'.queues.length:Int):=by simpa using d4
  omega
 simp only[evC,seval,↓evP,Nat.zero_add,J5g,J0y,J0B,J38,J0d,J0m,J0F,J0S,x0,x1,x2,x7,y0,y1,y2,y7,lr1,lr2,lq1,lq2,J26,d1,d2,d3,d4]
 show WK _ _ _ (.seq (.seq _ (.block 0 (.loop (.seq _ (.seq (.block 1 (.seq (.region _ _ true) _)) _))))) S8) _ _
 simp only[evC,seval,↓evP]
 refine WK.loop (fun i s''=>s''.T.get 2=qP h.next 0∧s''.T.get 3=qP (h.next+1) 0∧s''.T.get 5=iv i∧s''.h=H∧i≤s.rows.length∧∀ j,j<i→s.rows[j]?=s'.rows[j]?) s.rows.length (by omega) ?_ ?_
 ·exact⟨by simp only[evC,↓reduceIte,Nat.reduceEqDiff,reduceCtorEq,↓evP,rpC,Nat.reduceAdd,Nat.reduceLT],by simp only[evC,↓reduceIte,Nat.reduceEqDiff,reduceCtorEq,↓evP,rpC,Nat.reduceAdd,Nat.reduceLT],by simp only[evC,↓reduceIte,Nat.reduceEqDiff,reduceCtorEq,↓evP,rpC,Nat.reduceAdd,Nat.reduceLT];rfl,rfl,by omega,fun j hj=>by omega⟩
 rintro i ⟨T1,H1⟩ hi ⟨t2,t3,t5,hh,hil,hsame⟩
 simp only at t2 t3 t5 hh
 subst hh
 by_cases hlt:i<s.rows.length
 ·have c1:decide ((i:Int)<(s.rows.length:Int))=true:=by simp;omega
  obtain⟨x,hx⟩:∃ x,s.rows[i]?=some x:=⟨_,List.getElem?_eq_getElem hlt⟩
  obtain⟨y,hy⟩:∃ y,s'.rows[i]?=some y:=⟨_,List.getElem?_eq_getElem (by omega)⟩
  obtain⟨ida,pa,ea,_,_,_,_,_,_,xa⟩:=A1.1.row hx
  obtain⟨idb,pb,eb,_,_,_,_,_,_,xb⟩:=B1.1.row hy
  have w1:IntKind.i64.wrap ((i:Int)+1)=((i+1:Nat):Int):=J0s (by omega) (by omega)
  have xa':ldN 5 pa (H1.get ida)=some (rowV x):=xa
  have xb':ldN 5 pb (H1.get idb)=some (rowV y):=xb
  simp only[evC,seval,↓evP,Nat.zero_add,t2,t3,t5,J0y,J0F,x1,lr1,c1]
  refine WK.flags (fs:=JhF) (by kernel_rfl) ?_
  unfold JhF
  iterate 11
   refine wcs hsn ?_
   simp only[rgC,seval,J04,J02,WKFC,rgL,rgK,J17,rgS,rgB,t2,t3,t5,J0y,J0F,x1,y1,ea,eb,J0u,xa',xb',J6U]
  refine JvR ?_
  cases e:(!(J5z x y)) with
  | true=>
   simp only[evC,seval,↓evP,e]
   refine fno _ (by simp only[evC,seval,↓evP,rpC]) fun hsp=>?_
   rw[hsp.2.2.1,hy] at hx
   cases hx
   rw[(J6E (a:=x) (b:=x)).2 rfl] at e
   cases e
  | false=>
   have hxy:x=y:=J6E.1 (by simpa using e)
   simp only[evC,seval,↓evP,t2,t3,t5,e,w1]
   refine⟨by omega,by omega,fun j hj=>?_⟩
   rcases Nat.lt_or_ge j i with h1 | h1
   ·exact hsame j h1
   ·have:j=i:=by omega
    subst this
    rw[hx,hy,hxy]
 have c1:decide ((i:Int)<(s.rows.length:Int))=false:=by simp;omega
 have:i=s.rows.length:=by omega
 subst this
 have e5:s.rows=s'.rows:=J4S e3 hsame
 simp only[evC,seval,↓evP,Nat.zero_add,t2,t3,t5,J0y,J0F,x1,lr1,c1]
 show WK _ _ _ (.seq (.seq _ (.block 2 (.loop (.seq _ (.seq (.block 3 (.seq (.region _ _ true) _)) _))))) S13) _ _
 simp only[evC,seval,↓evP]
 refine WK.loop (fun i s''=>s''.T.get 2=qP h.next 0∧s''.T.get 3=qP (h.next+1) 0∧s''.T.get 6=iv i∧s''.h=H1∧i≤s.queues.length∧∀ j,j<i→s.queues[j]?=s'.queues[j]?) s.queues.length (by omega) ?_ ?_
 ·exact⟨by simp only[evC,↓reduceIte,Nat.reduceEqDiff,reduceCtorEq,↓evP,rpC,Nat.reduceAdd,Nat.reduceLT,t2],by simp only[evC,↓reduceIte,Nat.reduceEqDiff,reduceCtorEq,↓evP,rpC,Nat.reduceAdd,Nat.reduceLT,t3],by simp only[evC,↓reduceIte,Nat.reduceEqDiff,reduceCtorEq,↓evP,rpC,Nat.reduceAdd,Nat.reduceLT];rfl,rfl,by omega,fun j hj=>by omega⟩
 rintro i ⟨T2,H2⟩ hi ⟨t2,t3,t6,hh,hil,hsame⟩
 simp only at t2 t3 t6 hh
 subst hh
 by_cases hlt:i<s.queues.length
 ·have c1:decide ((i:Int)<(s.queues.length:Int))=true:=by simp;omega
  obtain⟨x,hx⟩:∃ x,s.queues[i]?=some x:=⟨_,List.getElem?_eq_getElem hlt⟩
  obtain⟨y,hy⟩:∃ y,s'.queues[i]?=some y:=⟨_,List.getElem?_eq_getElem (by omega)⟩
  obtain⟨ida,pa,ea,_,xa⟩:=J8S hx A2
  obtain⟨idb,pb,eb,_,xb⟩:=J8S hy B2
  have w1:IntKind.i64.wrap ((i:Int)+1)=((i+1:Nat):Int):=J0s (by omega) (by omega)
  simp only[evC,seval,↓evP,Nat.zero_add,t2,t3,t6,J0B,J0S,x2,lq1,c1]
  refine WK.flags (fs:=Jge) (by kernel_rfl) ?_
  unfold Jge
  iterate 11
   refine wcs hsn ?_
   simp only[rgC,seval,J04,J02,WKFC,rgL,rgK,J17,rgS,rgB,t2,t3,t6,J0B,J0S,x2,y2,ea,eb,J3z,xa,xb,J6H]
  refine JvR ?_
  cases e:(!(x.1==y.1&&x.2==y.2)) with
  | true=>
   simp only[evC,seval,↓evP,e]
   refine fno _ (by simp only[evC,seval,↓evP,rpC]) fun hsp=>?_
   rw[hsp.2.2.2.1,hy] at hx
   cases hx
   rw[J34] at e
   simp at e
  | false=>
   have hxy:x=y:=by
    simp only[Bool.not_eq_false',Bool.and_eq_true] at e
    exact Prod.ext (J3o e.1) (by simpa using e.2)
   simp only[evC,seval,↓evP,t2,t3,t6,e,w1]
   refine⟨by omega,by omega,fun j hj=>?_⟩
   rcases Nat.lt_or_ge j i with h1 | h1
   ·exact hsame j h1
   ·have:j=i:=by omega
    subst this
    rw[hx,hy,hxy]
 have c1:decide ((i:Int)<(s.queues.length:Int))=false:=by simp;omega
 have:i=s.queues.length:=by omega
 subst this
 have e6:s.queues=s'.queues:=J4S e4 hsame
 simp only[evC,seval,↓evP,Nat.zero_add,t2,t3,t6,J0B,J0S,x2,lq1,c1]
 have hV:=J6s (n:=n) (h:=H2) A3 B3 (by omega) (by omega)
 have hT:=J6s (n:=n) (h:=H2) A4 B4 (by omega) (by omega)
 have hU:=J78 (n:=n) (h:=H2) A5 B5 (by omega) (by omega)
 have hO:=J78 (n:=n) (h:=H2) A6 B6 (by omega) (by omega)
 show WK _ _ _ (.seq _ .ret) _ _
 cases dV:decide (s.vars=s'.vars) with
 | false=>
  rw[dV] at hV
  simp only[evC,seval,↓evP,Nat.zero_add,t2,t3,J1A,J1B,J36,J1T,J0Y,J0n,x3,x4,x5,x6,y3,y4,y5,y6,hV]
  exact fno _ (by simp only[evC,seval,↓evP,rpC]) fun hsp=>(of_decide_eq_false dV) hsp.2.2.2.2.1
 | true=>
 rw[dV] at hV
 cases dT:decide (s.tags=s'.tags) with
 | false=>
  rw[dT] at hT
  simp only[evC,seval,↓evP,Nat.zero_add,t2,t3,J1A,J1B,J36,J1T,J0Y,J0n,x3,x4,x5,x6,y3,y4,y5,y6,hV,hT]
  exact fno _ (by simp only[evC,seval,↓evP,rpC]) fun hsp=>(of_decide_eq_false dT) hsp.2.2.2.2.2.1
 | true=>
 rw[dT] at hT
 cases dU:decide (s.rules=s'.rules) with
 | false=>
  rw[dU] at hU
  simp only[evC,seval,↓evP,Nat.zero_add,t2,t3,J1A,J1B,J36,J1T,J0Y,J0n,x3,x4,x5,x6,y3,y4,y5,y6,hV,hT,hU]
  exact fno _ (by simp only[evC,seval,↓evP,rpC]) fun hsp=>(of_decide_eq_false dU) hsp.2.2.2.2.2.2.1
 | true=>
 rw[dU] at hU
 simp only[evC,seval,↓evP,Nat.zero_add,t2,t3,J1A,J1B,J36,J1T,J0Y,J0n,x3,x4,x5,x6,y3,y4,y5,y6,hV,hT,hU,hO]
 refine fin _ (decide (s.on=s'.on)) (by simp only[evC,seval,↓evP,rpC]) ⟨fun h=>⟨e1,e2,e5,e6,of_decide_eq_true dV,of_decide_eq_true dT,of_decide_eq_true dU,of_decide_eq_true h⟩,fun hsp=>decide_eq_true hsp.2.2.2.2.2.2.2⟩
theorem JgK {nm nm':ByteArray} {s s':StN} {pa pb:Value} {la lb:Nat} {h:SHeap} (ha:J3x la h pa nm s) (hb:J3x lb h pb nm' s') (hs:JdC s) (hn:Jbg s+20<n) :
  ∃ b,J0T n 63 [pa,pb] h=some (.bool b,h)∧(b=true↔J5b nm nm' s s'):=by
 obtain⟨n,rfl⟩:∃ j,n=j+1:=⟨n-1,by omega⟩
 obtain⟨b,h1,hw,hb,ho⟩:=Jcc (J1z n).2 (N:=n) ha hb hs (by omega) (by omega)
 exact⟨b,J4r (J13 ⟨rfl,rfl,rfl⟩) rfl ⟨h1,hw,ho⟩,hb⟩
end
instance:DecidableEq RowN:=fun _ _=>decidable_of_decidable_of_iff J6E
def Jmj:List (Bool × Bool × List Operand):=[fa1,fa1,fa1,fa1,fa3 [.tmp 18],fa3 [.tmp 18],fa3 [.tmp 18],fa3 [.tmp 18],fa0]
theorem Jm8 {call:J0r} {N:Nat} {h:SHeap} (hsn:J1G call) {va vb:Value} {A B:List Int} {la lb:Nat} (ha:J1S la h va A) (hb:J1S lb h vb B) (hN:A.length+3<N) (hl:A.length<1099511627776):J0L Tryz.prog call N 59 [va,vb] h=some (.bool (decide (A=B)),h):=by
 refine J1m Tryz.func59 rfl (by simp[Tryz.f59]) ?_
 have hr:Tryz.f59.results.toList=[.tmp 4]:=rfl
 have lA:=fun h'=>JfF ha h'
 have lB:=fun h'=>JfF hb h'
 cases d:((A.length:Int) != (B.length:Int)) with
 | true=>
  have hne:A≠B:=fun e=>by subst e;simp at d
  rw[decide_eq_false hne]
  simp only[evC,↓reduceIte,Nat.reduceEqDiff,reduceCtorEq,↓evP,hr,lA,lB,d]
 | false=>
  have hlen:A.length=B.length:=by
   have h9:(A.length:Int)=(B.length:Int):=by simpa using d
   omega
  simp only[evC,↓reduceIte,Nat.reduceEqDiff,reduceCtorEq,↓evP,lA,lB,d]
  refine WK.loop (fun i s'=>s'.T.get 0=va∧s'.T.get 1=vb∧s'.T.get 12=iv A.length∧s'.T.get 13=iv i∧s'.h=h∧i≤A.length∧∀ j,j<i→A[j]?=B[j]?) A.length (by omega) ?_ ?_
  ·exact⟨by simp only[evC,↓reduceIte,Nat.reduceEqDiff,reduceCtorEq,↓evP,rpC,Nat.reduceAdd,Nat.reduceLT],by simp only[evC,↓reduceIte,Nat.reduceEqDiff,reduceCtorEq,↓evP,rpC,Nat.reduceAdd,Nat.reduceLT],by simp only[evC,↓reduceIte,Nat.reduceEqDiff,reduceCtorEq,↓evP,rpC,Nat.reduceAdd,Nat.reduceLT],by simp only[evC,↓reduceIte,Nat.reduceEqDiff,reduceCtorEq,↓evP,rpC,Nat.reduceAdd,Nat.reduceLT];rfl,rfl,by omega,fun j hj=>by omega⟩
  ·rintro i ⟨T1,H1⟩ hi ⟨t0,t1,t12,t13,hh,hil,hsame⟩
   simp only at t0 t1 t12 t13 hh
   subst hh
   by_cases hlt:i<A.length
   ·have c1:decide ((i:Int)<(A.length:Int))=true:=by simp;omega
    obtain⟨x,hx⟩:∃ x,A[i]?=some x:=⟨_,List.getElem?_eq_getElem hlt⟩
    obtain⟨y,hy⟩:∃ y,B[i]?=some y:=⟨_,List.getElem?_eq_getElem (by omega)⟩
    obtain⟨ida,pa,ea,_,xa⟩:=J1S.get ha hx
    obtain⟨idb,pb,eb,_,xb⟩:=J1S.get hb hy
    have w1:IntKind.i64.wrap ((i:Int)+1)=((i+1:Nat):Int):=J0s (by omega) (by omega)
    simp only[evC,seval,↓evP,t0,t1,t12,t13,c1]
    refine WK.flags (fs:=Jmj) (by kernel_rfl) ?_
    unfold Jmj
    iterate 9
     refine wcs hsn ?_
     simp only[rgC,seval,J04,J02,WKFC,rgL,rgK,J17,rgS,rgB,t0,t1,t12,t13,ea,eb,J0m,xa,xb,J4h]
    refine JvR ?_
    cases e:(x != y) with
    | true=>
     have hne:A≠B:=fun h9=>by
      subst h9
      rw[hx] at hy
      cases hy
      simp at e
     rw[decide_eq_false hne]
     simp only[evC,seval,↓evP,hr,e]
    | false=>
     have hxy:x=y:=by simpa using e
     simp only[evC,seval,↓evP,t0,t1,t12,t13,e,w1]
     refine⟨by omega,by omega,fun j hj=>?_⟩
     rcases Nat.lt_or_ge j i with h1 | h1
     ·exact hsame j h1
     ·have:j=i:=by omega
      subst this
      rw[hx,hy,hxy]
   ·have c1:decide ((i:Int)<(A.length:Int))=false:=by simp;omega
    have:i=A.length:=by omega
    subst this
    have hAB:A=B:=J4S hlen hsame
    rw[decide_eq_true hAB]
    simp only[evC,seval,↓evP,hr,t0,t1,t12,t13,c1]
theorem JmT {n:Nat} {h:SHeap} {va vb:Value} {A B:List Int} {la lb:Nat} (ha:J1S la h va A) (hb:J1S lb h vb B) (hl:A.length<1000000000) (hn:A.length+5<n):J0T n 59 [va,vb] h=some (.bool (decide (A=B)),h):=by
 obtain⟨n,rfl⟩:∃ j,n=j+1:=⟨n-1,by omega⟩
 exact J6r (J13 ⟨rfl,rfl,rfl⟩) rfl (Jm8 (J1z n).2 ha hb (by omega) (by omega))
theorem Jmf {call:J0r} {N:Nat} {h:SHeap} (hsn:J1G call) {va vb:Value} {A B:List ByteArray} {la lb:Nat} (ha:J0p la h va A.length 1 (strs A)) (hb:J0p lb h vb B.length 1 (strs B)) (hN:A.length+3<N) (hl:A.length<1099511627776):J0L Tryz.prog call N 58 [va,vb] h=some (.bool (decide (A=B)),h):=by
 refine J1m Tryz.func58 rfl (by simp[Tryz.f58]) ?_
 have hr:Tryz.f58.results.toList=[.tmp 4]:=rfl
 have lA:=fun h'=>JfT ha h'
 have lB:=fun h'=>JfT hb h'
 cases d:((A.length:Int) != (B.length:Int)) with
 | true=>
  have hne:A≠B:=fun e=>by subst e;simp at d
  rw[decide_eq_false hne]
  simp only[evC,↓reduceIte,Nat.reduceEqDiff,reduceCtorEq,↓evP,hr,lA,lB,d]
 | false=>
  have hlen:A.length=B.length:=by
   have h9:(A.length:Int)=(B.length:Int):=by simpa using d
   omega
  simp only[evC,↓reduceIte,Nat.reduceEqDiff,reduceCtorEq,↓evP,lA,lB,d]
  refine WK.loop (fun i s'=>s'.T.get 0=va∧s'.T.get 1=vb∧s'.T.get 12=iv A.length∧s'.T.get 13=iv i∧s'.h=h∧i≤A.length∧∀ j,j<i→A[j]?=B[j]?) A.length (by omega) ?_ ?_
  ·exact⟨by simp only[evC,↓reduceIte,Nat.reduceEqDiff,reduceCtorEq,↓evP,rpC,Nat.reduceAdd,Nat.reduceLT],by simp only[evC,↓reduceIte,Nat.reduceEqDiff,reduceCtorEq,↓evP,rpC,Nat.reduceAdd,Nat.reduceLT],by simp only[evC,↓reduceIte,Nat.reduceEqDiff,reduceCtorEq,↓evP,rpC,Nat.reduceAdd,Nat.reduceLT],by simp only[evC,↓reduceIte,Nat.reduceEqDiff,reduceCtorEq,↓evP,rpC,Nat.reduceAdd,Nat.reduceLT];rfl,rfl,by omega,fun j hj=>by omega⟩
  ·rintro i ⟨T1,H1⟩ hi ⟨t0,t1,t12,t13,hh,hil,hsame⟩
   simp only at t0 t1 t12 t13 hh
   subst hh
   by_cases hlt:i<A.length
   ·have c1:decide ((i:Int)<(A.length:Int))=true:=by simp;omega
    obtain⟨x,hx⟩:∃ x,A[i]?=some x:=⟨_,List.getElem?_eq_getElem hlt⟩
    obtain⟨y,hy⟩:∃ y,B[i]?=some y:=⟨_,List.getElem?_eq_getElem (by omega)⟩
    obtain⟨ida,pa,ea,_,xa⟩:=Ja3 hx ha
    obtain⟨idb,pb,eb,_,xb⟩:=Ja3 hy hb
    have w1:IntKind.i64.wrap ((i:Int)+1)=((i+1:Nat):Int):=J0s (by omega) (by omega)
    simp only[evC,seval,↓evP,t0,t1,t12,t13,c1]
    refine WK.flags (fs:=Jmj) (by kernel_rfl) ?_
    unfold Jmj
    iterate 9
     refine wcs hsn ?_
     simp only[rgC,seval,J04,J02,WKFC,rgL,rgK,J17,rgS,rgB,t0,t1,t12,t13,ea,eb,J0d,xa,xb,J26]
    refine JvR ?_
    cases e:(!(x==y)) with
    | true=>
     have hne:A≠B:=fun h9=>by
      subst h9
      rw[hx] at hy
      cases hy
      rw[J34] at e;cases e
     rw[decide_eq_false hne]
     simp only[evC,seval,↓evP,hr,e]
    | false=>
     have hxy:x=y:=J3o (by simpa using e)
     simp only[evC,seval,↓evP,t0,t1,t12,t13,e,w1]
     refine⟨by omega,by omega,fun j hj=>?_⟩
     rcases Nat.lt_or_ge j i with h1 | h1
     ·exact hsame j h1
     ·have:j=i:=by omega
      subst this
      rw[hx,hy,hxy]
   ·have c1:decide ((i:Int)<(A.length:Int))=false:=by simp;omega
    have:i=A.length:=by omega
    subst this
    have hAB:A=B:=J4S hlen hsame
    rw[decide_eq_true hAB]
    simp only[evC,seval,↓evP,hr,t0,t1,t12,t13,c1]
theorem JmZ {n:Nat} {h:SHeap} {va vb:Value} {A B:List ByteArray} {la lb:Nat} (ha:J0p la h va A.length 1 (strs A)) (hb:J0p lb h vb B.length 1 (strs B)) (hl:A.length<1000000000) (hn:A.length+5<n):J0T n 58 [va,vb] h=some (.bool (decide (A=B)),h):=by
 obtain⟨n,rfl⟩:∃ j,n=j+1:=⟨n-1,by omega⟩
 exact J6r (J13 ⟨rfl,rfl,rfl⟩) rfl (Jmf (J1z n).2 ha hb (by omega) (by omega))
theorem Jmc {call:J0r} {N:Nat} {h:SHeap} (hsn:J1G call) {va vb:Value} {A B:List (ByteArray × Bool)} {la lb:Nat} (ha:J0p la h va A.length 2 (J3S A)) (hb:J0p lb h vb B.length 2 (J3S B)) (hN:A.length+3<N) (hl:A.length<1099511627776):J0L Tryz.prog call N 57 [va,vb] h=some (.bool (decide (A=B)),h):=by
 refine J1m Tryz.func57 rfl (by simp[Tryz.f57]) ?_
 have hr:Tryz.f57.results.toList=[.tmp 4]:=rfl
 have lA:=fun h'=>JfC ha h'
 have lB:=fun h'=>JfC hb h'
 cases d:((A.length:Int) != (B.length:Int)) with
 | true=>
  have hne:A≠B:=fun e=>by subst e;simp at d
  rw[decide_eq_false hne]
  simp only[evC,↓reduceIte,Nat.reduceEqDiff,reduceCtorEq,↓evP,hr,lA,lB,d]
 | false=>
  have hlen:A.length=B.length:=by
   have h9:(A.length:Int)=(B.length:Int):=by simpa using d
   omega
  simp only[evC,↓reduceIte,Nat.reduceEqDiff,reduceCtorEq,↓evP,lA,lB,d]
  refine WK.loop (fun i s'=>s'.T.get 0=va∧s'.T.get 1=vb∧s'.T.get 12=iv A.length∧s'.T.get 13=iv i∧s'.h=h∧i≤A.length∧∀ j,j<i→A[j]?=B[j]?) A.length (by omega) ?_ ?_
  ·exact⟨by simp only[evC,↓reduceIte,Nat.reduceEqDiff,reduceCtorEq,↓evP,rpC,Nat.reduceAdd,Nat.reduceLT],by simp only[evC,↓reduceIte,Nat.reduceEqDiff,reduceCtorEq,↓evP,rpC,Nat.reduceAdd,Nat.reduceLT],by simp only[evC,↓reduceIte,Nat.reduceEqDiff,reduceCtorEq,↓evP,rpC,Nat.reduceAdd,Nat.reduceLT],by simp only[evC,↓reduceIte,Nat.reduceEqDiff,reduceCtorEq,↓evP,rpC,Nat.reduceAdd,Nat.reduceLT];rfl,rfl,by omega,fun j hj=>by omega⟩
  ·rintro i ⟨T1,H1⟩ hi ⟨t0,t1,t12,t13,hh,hil,hsame⟩
   simp only at t0 t1 t12 t13 hh
   subst hh
   by_cases hlt:i<A.length
   ·have c1:decide ((i:Int)<(A.length:Int))=true:=by simp;omega
    obtain⟨x,hx⟩:∃ x,A[i]?=some x:=⟨_,List.getElem?_eq_getElem hlt⟩
    obtain⟨y,hy⟩:∃ y,B[i]?=some y:=⟨_,List.getElem?_eq_getElem (by omega)⟩
    obtain⟨ida,pa,ea,_,xa⟩:=J8S hx ha
    obtain⟨idb,pb,eb,_,xb⟩:=J8S hy hb
    have w1:IntKind.i64.wrap ((i:Int)+1)=((i+1:Nat):Int):=J0s (by omega) (by omega)
    simp only[evC,seval,↓evP,t0,t1,t12,t13,c1]
    refine WK.flags (fs:=Jmj) (by kernel_rfl) ?_
    unfold Jmj
    iterate 9
     refine wcs hsn ?_
     simp only[rgC,seval,J04,J02,WKFC,rgL,rgK,J17,rgS,rgB,t0,t1,t12,t13,ea,eb,J3z,xa,xb,J6H]
    refine JvR ?_
    cases e:(!(x.1==y.1&&x.2==y.2)) with
    | true=>
     have hne:A≠B:=fun h9=>by
      subst h9
      rw[hx] at hy
      cases hy
      rw[J34] at e;simp at e
     rw[decide_eq_false hne]
     simp only[evC,seval,↓evP,hr,e]
    | false=>
     have hxy:x=y:=(by simp only[Bool.not_eq_false',Bool.and_eq_true] at e;exact Prod.ext (J3o e.1) (by simpa using e.2))
     simp only[evC,seval,↓evP,t0,t1,t12,t13,e,w1]
     refine⟨by omega,by omega,fun j hj=>?_⟩
     rcases Nat.lt_or_ge j i with h1 | h1
     ·exact hsame j h1
     ·have:j=i:=by omega
      subst this
      rw[hx,hy,hxy]
   ·have c1:decide ((i:Int)<(A.length:Int))=false:=by simp;omega
    have:i=A.length:=by omega
    subst this
    have hAB:A=B:=J4S hlen hsame
    rw[decide_eq_true hAB]
    simp only[evC,seval,↓evP,hr,t0,t1,t12,t13,c1]
theorem Jnt {n:Nat} {h:SHeap} {va vb:Value} {A B:List (ByteArray × Bool)} {la lb:Nat} (ha:J0p la h va A.length 2 (J3S A)) (hb:J0p lb h vb B.length 2 (J3S B)) (hl:A.length<1000000000) (hn:A.length+5<n):J0T n 57 [va,vb] h=some (.bool (decide (A=B)),h):=by
 obtain⟨n,rfl⟩:∃ j,n=j+1:=⟨n-1,by omega⟩
 exact J6r (J13 ⟨rfl,rfl,rfl⟩) rfl (Jmc (J1z n).2 ha hb (by omega) (by omega))
theorem Jn4 {h:SHeap} {v:Value} {l:List RowN} (hv:J0l h v l) (h':SHeap):lenS Tryz.prog h' 22 v=some (iv (l.length:Int)):=hv.len
theorem Jm6 {call:J0r} {N:Nat} {h:SHeap} (hsn:J1G call) {va vb:Value} {A B:List RowN} (ha:J0l h va A) (hb:J0l h vb B) (hN:A.length+3<N) (hl:A.length<1099511627776):J0L Tryz.prog call N 56 [va,vb] h=some (.bool (decide (A=B)),h):=by
 refine J1m Tryz.func56 rfl (by simp[Tryz.f56]) ?_
 have hr:Tryz.f56.results.toList=[.tmp 4]:=rfl
 have lA:=fun h'=>Jn4 ha h'
 have lB:=fun h'=>Jn4 hb h'
 cases d:((A.length:Int) != (B.length:Int)) with
 | true=>
  have hne:A≠B:=fun e=>by subst e;simp at d
  rw[decide_eq_false hne]
  simp only[evC,↓reduceIte,Nat.reduceEqDiff,reduceCtorEq,↓evP,hr,lA,lB,d]
 | false=>
  have hlen:A.length=B.length:=by
   have h9:(A.length:Int)=(B.length:Int):=by simpa using d
   omega
  simp only[evC,↓reduceIte,Nat.reduceEqDiff,reduceCtorEq,↓evP,lA,lB,d]
  refine WK.loop (fun i s'=>s'.T.get 0=va∧s'.T.get 1=vb∧s'.T.get 12=iv A.length∧s'.T.get 13=iv i∧s'.h=h∧i≤A.length∧∀ j,j<i→A[j]?=B[j]?) A.length (by omega) ?_ ?_
  ·exact⟨by simp only[evC,↓reduceIte,Nat.reduceEqDiff,reduceCtorEq,↓evP,rpC,Nat.reduceAdd,Nat.reduceLT],by simp only[evC,↓reduceIte,Nat.reduceEqDiff,reduceCtorEq,↓evP,rpC,Nat.reduceAdd,Nat.reduceLT],by simp only[evC,↓reduceIte,Nat.reduceEqDiff,reduceCtorEq,↓evP,rpC,Nat.reduceAdd,Nat.reduceLT],by simp only[evC,↓reduceIte,Nat.reduceEqDiff,reduceCtorEq,↓evP,rpC,Nat.reduceAdd,Nat.reduceLT];rfl,rfl,by omega,fun j hj=>by omega⟩
  ·rintro i ⟨T1,H1⟩ hi ⟨t0,t1,t12,t13,hh,hil,hsame⟩
   simp only at t0 t1 t12 t13 hh
   subst hh
   by_cases hlt:i<A.length
   ·have c1:decide ((i:Int)<(A.length:Int))=true:=by simp;omega
    obtain⟨x,hx⟩:∃ x,A[i]?=some x:=⟨_,List.getElem?_eq_getElem hlt⟩
    obtain⟨y,hy⟩:∃ y,B[i]?=some y:=⟨_,List.getElem?_eq_getElem (by omega)⟩
    obtain⟨ida,pa,ea,_,_,_,_,_,_,xa9⟩:=J0l.row ha hx
    have xa:ldN 5 pa (H1.get ida)=some (rowV x):=xa9
    obtain⟨idb,pb,eb,_,_,_,_,_,_,xb9⟩:=J0l.row hb hy
    have xb:ldN 5 pb (H1.get idb)=some (rowV y):=xb9
    have w1:IntKind.i64.wrap ((i:Int)+1)=((i+1:Nat):Int):=J0s (by omega) (by omega)
    simp only[evC,seval,↓evP,t0,t1,t12,t13,c1]
    refine WK.flags (fs:=Jmj) (by kernel_rfl) ?_
    unfold Jmj
    iterate 9
     refine wcs hsn ?_
     simp only[rgC,seval,J04,J02,WKFC,rgL,rgK,J17,rgS,rgB,t0,t1,t12,t13,ea,eb,J0u,xa,xb,J6U]
    refine JvR ?_
    cases e:(!(J5z x y)) with
    | true=>
     have hne:A≠B:=fun h9=>by
      subst h9
      rw[hx] at hy
      cases hy
      rw[J6E.2 rfl] at e;cases e
     rw[decide_eq_false hne]
     simp only[evC,seval,↓evP,hr,e]
    | false=>
     have hxy:x=y:=J6E.1 (by simpa using e)
     simp only[evC,seval,↓evP,t0,t1,t12,t13,e,w1]
     refine⟨by omega,by omega,fun j hj=>?_⟩
     rcases Nat.lt_or_ge j i with h1 | h1
     ·exact hsame j h1
     ·have:j=i:=by omega
      subst this
      rw[hx,hy,hxy]
   ·have c1:decide ((i:Int)<(A.length:Int))=false:=by simp;omega
    have:i=A.length:=by omega
    subst this
    have hAB:A=B:=J4S hlen hsame
    rw[decide_eq_true hAB]
    simp only[evC,seval,↓evP,hr,t0,t1,t12,t13,c1]
theorem Jnu {n:Nat} {h:SHeap} {va vb:Value} {A B:List RowN} (ha:J0l h va A) (hb:J0l h vb B) (hl:A.length<1000000000) (hn:A.length+5<n):J0T n 56 [va,vb] h=some (.bool (decide (A=B)),h):=by
 obtain⟨n,rfl⟩:∃ j,n=j+1:=⟨n-1,by omega⟩
 exact J6r (J13 ⟨rfl,rfl,rfl⟩) rfl (Jm6 (J1z n).2 ha hb (by omega) (by omega))
theorem J53:∀ (l:List RowN) (k:Nat),(l.flatMap J0e).take (k*5)=(l.take k).flatMap J0e
 | l,0=>by simp
 | [],k+1=>by simp
 | r :: l,k+1=>by
  rw[List.flatMap_cons,List.take_succ_cons,List.flatMap_cons,← J53 l k,show (k+1)*5=k*5+5 by omega]
  rfl
theorem Jgo {L:List RowN} {i:Nat} {x:RowN} (hi:i<L.length):Go.Sx.lay (L.flatMap J0e) (i*5) (J0e x)=(L.set i x).flatMap J0e:=by
 have h5:(J0e x).length=5:=rfl
 rw[List.set_eq_take_append_cons_drop,if_pos hi,List.flatMap_append,List.flatMap_cons,← J53,← J3k]
 simp only[Go.Sx.lay,h5]
 rw[show (i+1)*5=i*5+5 by omega,List.append_assoc]
abbrev zRow:RowN:=⟨0,ByteArray.empty,0,0,0⟩
abbrev JcY:ByteArray:=⟨#[108,101,110,116]⟩
abbrev J9F:ByteArray:=⟨#[115,112,111,105,108,116]⟩
def mark (i:Nat):RowN:=⟨-7,JcY,0,0,i⟩
theorem J7r:∀ n,J3e zRc n=(List.replicate n zRow).flatMap J0e
 | 0=>rfl
 | n+1=>by rw[J3e,J7r n,List.replicate_succ,List.flatMap_cons];rfl
theorem JaU {h:SHeap} {id i off:Nat} {L:List RowN} {x:RowN} {ty:TypeId} {g:Bool} (ho:off=i*5) (hg:h.get id=.row (L.flatMap J0e) ty g false) (hi:i<L.length) (hf:h.floor≤id):J0K Tryz.prog h 60 (qP id off) (rowV x)=some (h.put id (.row ((L.set i x).flatMap J0e) ty g false)):=by
 subst ho
 have hc:(rowV x).cells=(J0e x).toArray:=rfl
 have h5:(J0e x).length=5:=rfl
 have hone:(J0e x).all one=true:=rfl
 have hl:=J0N L
 simp only[J0K,hc,sz46,J1q,hg]
 rw[if_pos (by simp[h5]),if_pos (by simp only[h5,hone,hl];simp;omega),Jgo hi]
theorem J9X:J2Q Tryz.prog (match Tryz.prog.underlying 60 with | some (.struct fs)=>fs.toList | _=>[])=some [(0,1),(1,1),(2,1),(3,1),(4,1)]:=by kernel_rfl
theorem JaW {id n c i:Nat} (hi:i<n):J0R Tryz.prog 22 (qS id n c) (iv (i:Int))=some (.pointer (some ⟨id,i*5,none⟩)):=J4z hi
theorem J1K (x:RowN):J5z x x=true:=J6E.2 rfl
theorem JhO {l:List RowN} (h:(resN l).1.1=0):J2c l∧(J0v l).1=0∧(goN (J0o l) l.length 0 (s0N l)).1=0∧¬ J2K (goN (J0o l) l.length 0 (s0N l)).2.2.rows (J0o l) (goN (J0o l) l.length 0 (s0N l)).2.2.rules≥0 ∧
  resN l=((0,0),(goN (J0o l) l.length 0 (s0N l)).2.2)∧InvR l l.length (resN l).2:=by
 by_cases h1:(J0v l).1≠0
 ·unfold resN at h
  rw[if_pos h1] at h
  exact absurd h h1
 ·by_cases h2:(goN (J0o l) l.length 0 (s0N l)).1≠0
  ·unfold resN at h
   rw[if_neg h1] at h
   simp only at h
   rw[if_pos h2] at h
   exact absurd h h2
  ·by_cases h3:J2K (goN (J0o l) l.length 0 (s0N l)).2.2.rows (J0o l) (goN (J0o l) l.length 0 (s0N l)).2.2.rules≥0
   ·unfold resN at h
    rw[if_neg h1] at h
    simp only at h
    rw[if_neg h2,if_pos h3] at h
    cases h
   ·have e1:(J0v l).1=0:=by simpa using h1
    have e2:(goN (J0o l) l.length 0 (s0N l)).1=0:=by simpa using h2
    have e:resN l=((0,0),(goN (J0o l) l.length 0 (s0N l)).2.2):=by
     unfold resN
     rw[if_neg h1]
     simp only
     rw[if_neg h2,if_neg h3]
    have ht:=J8d (J5d e1)
    refine⟨ht,e1,e2,h3,e,?_⟩
    rw[e]
    exact JfJ ht J3T l.length 0 (s0N l) (by omega) (inv0 l) e2
theorem JeO {l:List RowN} (h:(resN l).1.1=0):outN l=(J52 l,(resN l).2):=by unfold outN;rw[if_neg (by rw[h];simp)]
def Jli (x:RowN):RowN:=if x.kind≠27 then { x with n:=0 } else x
def Jk8 (l:List RowN):List RowN:=l.map Jli
def JmE (nm:ByteArray) (s:StN):Prop:=(resN (Jk8 s.rows)).1.1=0∧J5b nm (outN (Jk8 s.rows)).1 s (outN (Jk8 s.rows)).2
open Classical in
noncomputable def JkA (nm:ByteArray) (s:StN):Int:=if JmE nm s then 0 else 23
theorem Jlt {H:SHeap} {cs:List Value} {e p:Int} (hl:cs.length=8) (ho:cs.all one=true) (hf:H.floor≤H.next) :
  ∃ H':SHeap × SHeap,J0K Tryz.prog ((H.push (.row zPc 27 false false)).push (.row [iv 0,iv 0] 32 false false)) 27 (qP H.next 0) (.agg cs.toArray)=some (H'.1)∧J0K Tryz.prog H'.1 32 (qP (H.next+1) 0) (J2k e p)=some H'.2 ∧
   Out2 H.next H'.2 cs e p∧H'.2.next=H.next+2∧H'.2.floor=H.floor∧∀ i,i<H.next→H'.2.get i=H.get i:=by
 have ga:=J4c (h:=H) (o:=.row zPc 27 false false) (o':=.row [iv 0,iv 0] 32 false false)
 have gb:=J48 (h:=H) (o:=.row zPc 27 false false) (o':=.row [iv 0,iv 0] 32 false false)
 have gold:∀ i,i<H.next→((H.push (.row zPc 27 false false)).push (.row [iv 0,iv 0] 32 false false)).get i=H.get i:=fun i hi=>by rw[J06 (by show i<H.next+1;omega),J06 hi]
 have hnx:((H.push (.row zPc 27 false false)).push (.row [iv 0,iv 0] 32 false false)).next=H.next+2:=rfl
 have hfx:((H.push (.row zPc 27 false false)).push (.row [iv 0,iv 0] 32 false false)).floor=H.floor:=rfl
 generalize (H.push (.row zPc 27 false false)).push (.row [iv 0,iv 0] 32 false false)=G at *
 obtain⟨H',s1,s2,r1,r2,r3,r4⟩:=J4J (a:=H.next) (H:=G) ⟨ga,gb⟩ rfl (by omega) (by omega) (cs':=cs) hl ho (e':=e) (p':=p)
 exact⟨⟨_,H'⟩,s1,s2,r1,by show H'.next=_;omega,by show H'.floor=_;omega,fun i hi=>by show H'.get i=_;rw[r4 i (by omega) (by omega),gold i hi]⟩
theorem all8 {lo:Nat} {h:SHeap} {nm:ByteArray} {s:StN} {vr vq vv vt vu vo:Value} (h1:J3P lo h vr s.rows) (h2:J0p lo h vq s.queues.length 2 (J3S s.queues)) (h3:J0p lo h vv s.vars.length 1 (strs s.vars)) (h4:J0p lo h vt s.tags.length 1 (strs s.tags)) (h5:J1S lo h vu s.rules) (h6:J1S lo h vo s.on) :
  ([.string nm,vr,vq,vv,vt,vu,vo,iv s.miss]:List Value).all one=true:=by
 simp only[List.all_cons,List.all_nil,h1.2.one,h2.one,h3.one,h4.one,J0p.one h5,J0p.one h6,J5J,J5K,Bool.and_self]
def Lies (v:Value) (n:Nat):Prop:=∃ id off c,v=.slice (some ⟨id,off,none⟩) n c
theorem JlO {call:J0r} {N:Nat} {h:SHeap} {l:List RowN} {v:Value} (hv:J0l h v l) (hlies:Lies v l.length) (hlen:l.length<1099511627) :
  ∃ v' h',J0L Tryz.prog call N 49 [v] h=some (v',h')∧(∃ o c g,v'=qS o l.length c∧h'.get o=.row (l.flatMap J0e) 60 g false∧h.next≤o∧o<h'.next)∧h'.floor=h.floor∧h.next≤h'.next∧∀ i,i<h.next→h'.get i=h.get i:=by
 by_cases h0:0<l.length
 ·obtain⟨h',e,g1,g2,g3,g4⟩:=Jby (call:=call) (N:=N) hv h0 hlen
  exact⟨_,h',e,⟨h.next+1,unk,true,rfl,g1,by omega,by omega⟩,g3,by omega,g4⟩
 ·have hl:l=[]:=List.length_eq_zero_iff.1 (by omega)
  subst hl
  obtain⟨id,off,c,rfl⟩:=hlies
  refine⟨qS h.next 0 0,h.push (.row [] 60 false false),?_,⟨h.next,0,false,rfl,J0h,Nat.le_refl _,by show h.next<h.next+1;omega⟩,rfl,by show h.next≤h.next+1;omega,fun i hi=>J06 hi⟩
  refine J1m Tryz.func49 rfl (by simp[Tryz.f49]) ?_
  have hr:Tryz.f49.results.toList=[.tmp 2]:=rfl
  have hb:binS Tryz.prog .eql 22 (.tmp 3) (.const (Z0)) (.slice (some ⟨id,off,none⟩) ([]:List RowN).length c) (Z0)=some (.bool false):=by
   have hf:flat (.slice (some ⟨id,off,none⟩) ([]:List RowN).length c)=false:=rfl
   simp only[binS,hf,Bool.false_and,Bool.false_eq_true,if_false,Tryz.underlying22]
  have hbs:J0Q Tryz.prog h 22 0 []=some (qS h.next 0 0,h.push (.row [] 60 false false)):=by
   simp[J0Q,Tryz.underlying22,sz46,J40,flat,J1i,J0G,J5k,J3e]
  have hsrc:J16 (h.push (.row [] 60 false false)) 5 ([]:List RowN).length (.slice (some ⟨id,off,none⟩) ([]:List RowN).length c)=some []:=by simp[J16]
  have hap:J1o Tryz.prog (h.push (.row [] 60 false false)) 22 (qS h.next 0 0) (.slice (some ⟨id,off,none⟩) ([]:List RowN).length c)=some (qS h.next 0 0,h.push (.row [] 60 false false)):=by
   have hu:(0:Nat)≠unk:=by unfold unk;omega
   have hzs:(Value.agg #[.int .i64 0,.string ByteArray.empty,.int .i64 0,.int .i64 0,.int .i64 0]).cells.size=5:=rfl
   simp[J1o,Tryz.underlying22,sz46,by46,J40,hzs,J16,hu]
  simp only[evC,seval,↓evP,hr,hb,hbs,hap]
theorem Jm9 {n:Nat} {h:SHeap} {l:List RowN} {v:Value} (hv:J0l h v l) (hlies:Lies v l.length) (hlen:l.length<1099511627) (hn:0<n) :
  ∃ v' h',J0T n 49 [v] h=some (v',h')∧(∃ o c g,v'=qS o l.length c∧h'.get o=.row (l.flatMap J0e) 60 g false∧h.next≤o∧o<h'.next)∧h'.floor=h.floor∧h.next≤h'.next∧∀ i,i<h.next→h'.get i=h.get i:=by
 obtain⟨n,rfl⟩:∃ j,n=j+1:=⟨n-1,by omega⟩
 refine k_ex (J13 ⟨rfl,rfl,rfl⟩) (JlO (call:=J0T n) (N:=n) hv hlies hlen) fun v' h1 hf ho ⟨⟨o,c,g,e1,_⟩,_⟩=>?_
 rw[e1] at hf
 cases hf
section
variable {n N:Nat}
theorem JlL {nm:ByteArray} {s:StN} {pv:Value} {lo:Nat} {h:SHeap} (hp:J3x lo h pv nm s) (hlies:∀ nm' vr vq vv vt vu vo m,pv=.agg #[.string nm',vr,vq,vv,vt,vu,vo,m]→Lies vr s.rows.length) (hs:JdC s) (hl:s.rows.length<900000000) (hfl:h.floor≤h.next) (hg:h.get 0=J14) (hn0:0<h.next) (hn:2*Jbg s+200<n) (hN:Jbg s+200<N) :
  ∃ h',J0L Tryz.prog (J0T n) N 27 [pv] h=some (iv (JkA nm s),h')∧∀ i,i<h.next→h'.get i=h.get i:=by
 obtain⟨vr,vq,vv,vt,vu,vo,rfl,p1,p2,p3,p4,p5,p6⟩:=hp
 have hlv:=hlies _ _ _ _ _ _ _ _ rfl
 refine J1N (R:=fun h'=>∀ i,i<h.next→h'.get i=h.get i) Tryz.func27 rfl (by simp[Tryz.f27]) ?_
 have hr:Tryz.f27.results.toList=[.tmp 2]:=rfl
 unfold Jbg at hn hN
 obtain⟨q1,q2,q3,q4,q5,q6⟩:=hs
 have ca:(Value.agg #[.string nm,vr,vq,vv,vt,vu,vo,iv s.miss]).cells.toList=[.string nm,vr,vq,vv,vt,vu,vo,iv s.miss]:=rfl
 have oa:=all8 (nm:=nm) p1 p2 p3 p4 p5 p6
 have gA:(h.push (.row [.string nm,vr,vq,vv,vt,vu,vo,iv s.miss] 27 false false)).get h.next=.row [.string nm,vr,vq,vv,vt,vu,vo,iv s.miss] 27 false false:=J0h
 have gO:∀ i,i<h.next→(h.push (.row [.string nm,vr,vq,vv,vt,vu,vo,iv s.miss] 27 false false)).get i=h.get i:=fun i hi=>J06 hi
 have nA:(h.push (.row [.string nm,vr,vq,vv,vt,vu,vo,iv s.miss] 27 false false)).next=h.next+1:=rfl
 have fA:(h.push (.row [.string nm,vr,vq,vv,vt,vu,vo,iv s.miss] 27 false false)).floor=h.floor:=rfl
 show WK _ _ _ (.seq _ (.seq _ (.seq (.seq _ _) (.seq _ (.seq _ _))))) _ _
 simp only[evC,seval,↓evP,rpD,J0X,J2t,ca,oa,sz30]
 generalize h.push (.row [.string nm,vr,vq,vv,vt,vu,vo,iv s.miss] 27 false false)=A at *
 have l1:ld1 1 (A.get h.next)=some vr:=by rw[gA];rfl
 have P1:J0l A vr s.rows:=p1.1.mono (by omega) gO
 obtain⟨v',h1,hcl,⟨o,c,g,rfl,g1,g2,g3⟩,f1,n1,o1⟩:=Jm9 (n:=n) P1 hlv (by omega) (by omega)
 have hlen:∀ h':SHeap,lenS Tryz.prog h' 22 (qS o s.rows.length c)=some (iv (s.rows.length:Int)):=fun h'=>JeK
 simp only[evC,seval,↓evP,Nat.zero_add,J0y,J0F,l1,hcl,hlen]
 refine WK.loop (fun i s'=>s'.T.get 1=qP h.next 0∧s'.T.get 3=qS o s.rows.length c∧s'.T.get 11=iv (s.rows.length:Int)∧s'.T.get 12=iv i∧i≤s.rows.length∧s'.h.next=h1.next∧s'.h.floor=h1.floor∧(∀ i,i≠o→s'.h.get i=h1.get i) ∧
  ∃ L:List RowN,s'.h.get o=.row (L.flatMap J0e) 60 g false∧∀ j,L[j]?=(s.rows[j]?).map fun x=>if j<i then Jli x else x) s.rows.length (by omega) ?_ ?_
 ·refine⟨by simp only[evC,↓reduceIte,Nat.reduceEqDiff,reduceCtorEq,↓evP,rpC,Nat.reduceAdd,Nat.reduceLT],by simp only[evC,↓reduceIte,Nat.reduceEqDiff,reduceCtorEq,↓evP,rpC,Nat.reduceAdd,Nat.reduceLT],by simp only[evC,↓reduceIte,Nat.reduceEqDiff,reduceCtorEq,↓evP,rpC,Nat.reduceAdd,Nat.reduceLT],by simp only[evC,↓reduceIte,Nat.reduceEqDiff,reduceCtorEq,↓evP,rpC,Nat.reduceAdd,Nat.reduceLT];rfl,by omega,rfl,rfl,fun _ _=>rfl,s.rows,g1,fun j=>?_⟩
  simp
 rintro i ⟨T1,H1⟩ hi ⟨t1,t3,t11,t12,hil,m1,m2,m3,L,gL,hL⟩
 simp only at t1 t3 t11 t12 m1 m2 m3 gL
 have hLl:L.length=s.rows.length:=by
  rcases Nat.lt_trichotomy L.length s.rows.length with h9 | h9 | h9
  ·have:=hL L.length
   rw[List.getElem?_eq_none (Nat.le_refl _),List.getElem?_eq_getElem h9] at this
   cases this
  ·exact h9
  ·have:=hL s.rows.length
   rw[List.getElem?_eq_getElem h9,List.getElem?_eq_none (Nat.le_refl _)] at this
   cases this
 by_cases hlt:i<s.rows.length
 ·have c1:decide ((i:Int)<(s.rows.length:Int))=true:=by simp;omega
  obtain⟨x,hx⟩:∃ x,s.rows[i]?=some x:=⟨_,List.getElem?_eq_getElem hlt⟩
  have hLx:L[i]?=some x:=by rw[hL,hx];simp
  have ea:=JaW (id:=o) (n:=s.rows.length) (c:=c) hlt
  have lk:ld1 (i*5) (H1.get o)=some (iv x.kind):=by
   have h5:=J2Y hLx
   rw[gL]
   have:(L.flatMap J0e)[i*5]?=(J0e x)[0]?:=by
    rw[← h5,List.getElem?_take_of_lt (by omega),List.getElem?_drop,Nat.add_zero]
   simp only[ld1,this]
   rfl
  have w1:IntKind.i64.wrap ((i:Int)+1)=((i+1:Nat):Int):=J0s (by omega) (by omega)
  cases d:(x.kind != 27) with
  | false=>
   have hz:Jli x=x:=by
    unfold Jli
    rw[if_neg (by simpa using d)]
   simp only[evC,seval,↓evP,t1,t3,t11,t12,c1,ea,J0t,J0m,lk,d,w1]
   refine⟨hlt,by omega,m1,m2,m3,L,gL,fun j=>?_⟩
   rw[hL j]
   by_cases hj:j=i
   ·subst hj
    rw[hx]
    simp[hz]
   ·congr 1
    funext y
    by_cases h9:j<i
    ·rw[if_pos h9,if_pos (by omega)]
    ·rw[if_neg h9,if_neg (by omega)]
  | true=>
   have hz:Jli x={ x with n:=0 }:=by
    unfold Jli
    rw[if_pos (by simpa using d)]
   have hst:=stc (t:=3) (off:=i*5+3) (v:=iv 0) sz3 rfl rfl gL (by rw[J0N];omega) (by omega)
   rw[J3N hLx] at hst
   simp only[evC,seval,↓evP,t1,t3,t11,t12,c1,ea,J0t,J0O,J0m,lk,d,hst,w1]
   refine⟨hlt,by omega,m1,m2,fun j hj=>by rw[J05 (by omega) (Ne.symm hj)];exact m3 j hj,setN L i 0,J0b rfl (by omega),fun j=>?_⟩
   by_cases hj:j=i
   ·subst hj
    rw[J4g hLx,hx]
    simp[hz]
   ·rw[J4M hj,hL j]
    congr 1
    funext y
    by_cases h9:j<i
    ·rw[if_pos h9,if_pos (by omega)]
    ·rw[if_neg h9,if_neg (by omega)]
 have c1:decide ((i:Int)<(s.rows.length:Int))=false:=by simp;omega
 have:i=s.rows.length:=by omega
 subst this
 have hLz:L=Jk8 s.rows:=by
  apply List.ext_getElem?
  intro j
  rw[hL j,Jk8,List.getElem?_map]
  rcases Nat.lt_or_ge j s.rows.length with h9 | h9
  ·simp[h9]
  ·rw[List.getElem?_eq_none h9]
   rfl
 subst hLz
 have hvz:J0l H1 (qS o s.rows.length c) (Jk8 s.rows):=by
  refine⟨_,_,by rw[hLl],.inr ⟨o,0,_,_,_,_,rfl,gL,by omega,fun k r hk=>by rw[Nat.zero_add];exact J2Y hk⟩⟩
 have hw1:H1.get 0=J14:=by rw[m3 0 (by omega),o1 0 (by omega),gO 0 hn0];exact hg
 obtain⟨v2,h2,hres,pv,rfl,hp',f2,n2,o2⟩:=Jia (n:=n) (h:=H1) (by omega) hw1 (by omega) hvz (by omega) (by omega)
 obtain⟨vr',vq',vv',vt',vu',vo',rfl,b1,b2,b3,b4,b5,b6⟩:=hp'
 obtain⟨⟨hb,h3⟩,s1,s2,rO,n3,f3,o3⟩:=Jlt (H:=h2) (cs:=[.string (outN (Jk8 s.rows)).1,vr',vq',vv',vt',vu',vo',iv (outN (Jk8 s.rows)).2.miss]) (e:=(resN (Jk8 s.rows)).1.1) (p:=(resN (Jk8 s.rows)).1.2) rfl (all8 b1 b2 b3 b4 b5 b6) (by omega)
 simp only at s1 s2 rO n3 f3 o3
 have zc30:zPol.cells.toList=zPc:=rfl
 have zc33:(J2k 0 0).cells.toList=[iv 0,iv 0]:=rfl
 have HO:∀ i,i<h.next→h3.get i=h.get i:=fun i hi=>by rw[o3 i (by omega),o2 i (by omega),m3 i (by omega),o1 i (by omega),gO i hi]
 have HA:h3.get h.next=.row [.string nm,vr,vq,vv,vt,vu,vo,iv s.miss] 27 false false:=by rw[o3 _ (by omega),o2 _ (by omega),m3 _ (by omega),o1 _ (by omega)];exact gA
 obtain⟨x0,x1,x2,x3,x4,x5,x6,x7⟩:=Jhw (a:=.string nm) (b:=vr) (c:=vq) (d:=vv) (e:=vt) (f:=vu) (g:=vo) (i:=iv s.miss) (ty:=27) (x:=false) (y:=false)
 obtain⟨y0,y1,y2,y3,y4,y5,y6,y7⟩:=Jhw (a:=.string (outN (Jk8 s.rows)).1) (b:=vr') (c:=vq') (d:=vv') (e:=vt') (f:=vu') (g:=vo') (i:=iv (outN (Jk8 s.rows)).2.miss) (ty:=27) (x:=false) (y:=false)
 rw[← HA] at x0 x1 x2 x3 x4 x5 x6 x7
 rw[← rO.1] at y0 y1 y2 y3 y4 y5 y6 y7
 have lF:ld1 0 (h3.get (h2.next+1))=some (iv (resN (Jk8 s.rows)).1.1):=by rw[rO.2];rfl
 have NN:h.next≤h3.next:=by omega
 have A1:=p1.1.mono NN HO
 have A2:=p2.mono NN fun i _ hi=>HO i hi
 have A3:=p3.mono NN fun i _ hi=>HO i hi
 have A4:=p4.mono NN fun i _ hi=>HO i hi
 have A5:=J1S.mono p5 NN fun i _ hi=>HO i hi
 have A6:=J1S.mono p6 NN fun i _ hi=>HO i hi
 have B1:=(b1.mono (h':=h3) (by omega) fun i _ hi=>o3 i hi).1
 have B2:=b2.mono (h':=h3) (by omega) fun i _ hi=>o3 i hi
 have B3:=b3.mono (h':=h3) (by omega) fun i _ hi=>o3 i hi
 have B4:=b4.mono (h':=h3) (by omega) fun i _ hi=>o3 i hi
 have B5:=J1S.mono (h':=h3) b5 (by omega) fun i _ hi=>o3 i hi
 have B6:=J1S.mono (h':=h3) b6 (by omega) fun i _ hi=>o3 i hi
 have hR:=Jnu (n:=n) A1 B1 (by omega) (by omega)
 have hQ:=Jnt (n:=n) A2 B2 (by omega) (by omega)
 have hV:=JmZ (n:=n) A3 B3 (by omega) (by omega)
 have hT:=JmZ (n:=n) A4 B4 (by omega) (by omega)
 have hU:=JmT (n:=n) A5 B5 (by omega) (by omega)
 have hO:=JmT (n:=n) A6 B6 (by omega) (by omega)
 have yes:(resN (Jk8 s.rows)).1.1=0→J5b nm (outN (Jk8 s.rows)).1 s (outN (Jk8 s.rows)).2→JkA nm s=0:=fun h8 h9=>if_pos ⟨h8,h9⟩
 have no1:(resN (Jk8 s.rows)).1.1≠0→JkA nm s=23:=fun h8=>if_neg fun h9=>h8 h9.1
 have no2:¬ J5b nm (outN (Jk8 s.rows)).1 s (outN (Jk8 s.rows)).2→JkA nm s=23:=fun h8=>if_neg fun h9=>h8 h9.2
 simp only[evC,seval,↓evP,t1,t3,t11,t12,c1,hres,J5F,J3Y,zc30,J3C,J1t,zc33,J1D,s1,s2]
 cases d0:((resN (Jk8 s.rows)).1.1 != 0) with
 | true=>
  rw[no1 (by simpa using d0)]
  simp only[evC,seval,↓evP,hr,t1,List.append_eq,List.toList_toArray,Nat.zero_add,J6a,J7G,lF,J5g,J0y,J0B,J1A,J1B,J36,J1T,J38,J0d,J0m,J0F,J0S,J0Y,J0n,x0,x1,x2,x3,x4,x5,x6,x7,y0,y1,y2,y3,y4,y5,y6,y7,J26,d0]
  exact HO
 | false=>
 cases d1:(!(nm==(outN (Jk8 s.rows)).1)) with
 | true=>
  rw[no2 fun h9=>by rw[h9.1,J34] at d1;cases d1]
  simp only[evC,seval,↓evP,hr,t1,List.append_eq,List.toList_toArray,Nat.zero_add,J6a,J7G,lF,J5g,J0y,J0B,J1A,J1B,J36,J1T,J38,J0d,J0m,J0F,J0S,J0Y,J0n,x0,x1,x2,x3,x4,x5,x6,x7,y0,y1,y2,y3,y4,y5,y6,y7,J26,d0,d1]
  exact HO
 | false=>
 cases d2:(s.miss != (outN (Jk8 s.rows)).2.miss) with
 | true=>
  rw[no2 fun h9=>by rw[h9.2.1] at d2;simp at d2]
  simp only[evC,seval,↓evP,hr,t1,List.append_eq,List.toList_toArray,Nat.zero_add,J6a,J7G,lF,J5g,J0y,J0B,J1A,J1B,J36,J1T,J38,J0d,J0m,J0F,J0S,J0Y,J0n,x0,x1,x2,x3,x4,x5,x6,x7,y0,y1,y2,y3,y4,y5,y6,y7,J26,d0,d1,d2]
  exact HO
 | false=>
 cases d3:decide (s.rows=(outN (Jk8 s.rows)).2.rows) with
 | false=>
  rw[d3] at hR
  rw[no2 fun h9=>(of_decide_eq_false d3) h9.2.2.1]
  simp only[evC,seval,↓evP,hr,t1,List.append_eq,List.toList_toArray,Nat.zero_add,J6a,J7G,lF,J5g,J0y,J0B,J1A,J1B,J36,J1T,J38,J0d,J0m,J0F,J0S,J0Y,J0n,x0,x1,x2,x3,x4,x5,x6,x7,y0,y1,y2,y3,y4,y5,y6,y7,J26,d0,d1,d2,hR]
  exact HO
 | true=>
 rw[d3] at hR
 cases d4:decide (s.queues=(outN (Jk8 s.rows)).2.queues) with
 | false=>
  rw[d4] at hQ
  rw[no2 fun h9=>(of_decide_eq_false d4) h9.2.2.2.1]
  simp only[evC,seval,↓evP,hr,t1,List.append_eq,List.toList_toArray,Nat.zero_add,J6a,J7G,lF,J5g,J0y,J0B,J1A,J1B,J36,J1T,J38,J0d,J0m,J0F,J0S,J0Y,J0n,x0,x1,x2,x3,x4,x5,x6,x7,y0,y1,y2,y3,y4,y5,y6,y7,J26,d0,d1,d2,hR,hQ]
  exact HO
 | true=>
 rw[d4] at hQ
 cases d5:decide (s.vars=(outN (Jk8 s.rows)).2.vars) with
 | false=>
  rw[d5] at hV
  rw[no2 fun h9=>(of_decide_eq_false d5) h9.2.2.2.2.1]
  simp only[evC,seval,↓evP,hr,t1,List.append_eq,List.toList_toArray,Nat.zero_add,J6a,J7G,lF,J5g,J0y,J0B,J1A,J1B,J36,J1T,J38,J0d,J0m,J0F,J0S,J0Y,J0n,x0,x1,x2,x3,x4,x5,x6,x7,y0,y1,y2,y3,y4,y5,y6,y7,J26,d0,d1,d2,hR,hQ,hV]
  exact HO
 | true=>
 rw[d5] at hV
 cases d6:decide (s.tags=(outN (Jk8 s.rows)).2.tags) with
 | false=>
  rw[d6] at hT
  rw[no2 fun h9=>(of_decide_eq_false d6) h9.2.2.2.2.2.1]
  simp only[evC,seval,↓evP,hr,t1,List.append_eq,List.toList_toArray,Nat.zero_add,J6a,J7G,lF,J5g,J0y,J0B,J1A,J1B,J36,J1T,J38,J0d,J0m,J0F,J0S,J0Y,J0n,x0,x1,x2,x3,x4,x5,x6,x7,y0,y1,y2,y3,y4,y5,y6,y7,J26,d0,d1,d2,hR,hQ,hV,hT]
  exact HO
 | true=>
 rw[d6] at hT
 cases d7:decide (s.rules=(outN (Jk8 s.rows)).2.rules) with
 | false=>
  rw[d7] at hU
  rw[no2 fun h9=>(of_decide_eq_false d7) h9.2.2.2.2.2.2.1]
  simp only[evC,seval,↓evP,hr,t1,List.append_eq,List.toList_toArray,Nat.zero_add,J6a,J7G,lF,J5g,J0y,J0B,J1A,J1B,J36,J1T,J38,J0d,J0m,J0F,J0S,J0Y,J0n,x0,x1,x2,x3,x4,x5,x6,x7,y0,y1,y2,y3,y4,y5,y6,y7,J26,d0,d1,d2,hR,hQ,hV,hT,hU]
  exact HO
 | true=>
 rw[d7] at hU
 cases d8:decide (s.on=(outN (Jk8 s.rows)).2.on) with
 | false=>
  rw[d8] at hO
  rw[no2 fun h9=>(of_decide_eq_false d8) h9.2.2.2.2.2.2.2]
  simp only[evC,seval,↓evP,hr,t1,List.append_eq,List.toList_toArray,Nat.zero_add,J6a,J7G,lF,J5g,J0y,J0B,J1A,J1B,J36,J1T,J38,J0d,J0m,J0F,J0S,J0Y,J0n,x0,x1,x2,x3,x4,x5,x6,x7,y0,y1,y2,y3,y4,y5,y6,y7,J26,d0,d1,d2,hR,hQ,hV,hT,hU,hO]
  exact HO
 | true=>
 rw[d8] at hO
 rw[yes (by simpa using d0) ⟨J3o (by simpa using d1),by simpa using d2,of_decide_eq_true d3,of_decide_eq_true d4,of_decide_eq_true d5,of_decide_eq_true d6,of_decide_eq_true d7,of_decide_eq_true d8⟩]
 simp only[evC,seval,↓evP,hr,t1,List.append_eq,List.toList_toArray,Nat.zero_add,J6a,J7G,lF,J5g,J0y,J0B,J1A,J1B,J36,J1T,J38,J0d,J0m,J0F,J0S,J0Y,J0n,x0,x1,x2,x3,x4,x5,x6,x7,y0,y1,y2,y3,y4,y5,y6,y7,J26,d0,d1,d2,hR,hQ,hV,hT,hU,hO]
 exact HO
theorem JnE {nm:ByteArray} {s:StN} {pv:Value} {lo:Nat} {h:SHeap} (hp:J3x lo h pv nm s) (hlies:∀ nm' vr vq vv vt vu vo m,pv=.agg #[.string nm',vr,vq,vv,vt,vu,vo,m]→Lies vr s.rows.length) (hs:JdC s) (hl:s.rows.length<900000000) (hfl:h.floor≤h.next) (hg:h.get 0=J14) (hn0:0<h.next) (hn:2*Jbg s+300<n) :
  J0T n 27 [pv] h=some (iv (JkA nm s),h):=by
 obtain⟨n,rfl⟩:∃ j,n=j+1:=⟨n-1,by omega⟩
 exact J4r (J13 ⟨rfl,rfl,rfl⟩) rfl (JlL hp hlies hs hl hfl hg hn0 (by omega) (by omega))
end
theorem bs22 {h:SHeap} {x:RowN}:J0Q Tryz.prog h 22 1 [(0,rowV x)]=some (qS h.next 1 1,h.push (.row (J0e x) 60 false false)):=by
 simp[J0Q,Tryz.underlying22,sz46,J40,flat,J1i,J0G,J5k,J3e,Go.Sx.lay]
 rfl
theorem Jp5 {h:SHeap} {lo:Nat} {v:Value} {l:List RowN} {x:RowN} (hs:SlAt h lo (fun _=>1) 1 v l.length (l.flatMap J0e) 60) (hlo:lo≤h.next) (hf:h.floor≤lo) (hb:l.length<10000000) :
  ∃ v' h',J1o Tryz.prog (h.push (.row (J0e x) 60 false false)) 22 v (qS h.next 1 1)=some (v',h')∧SlAt h' lo (fun _=>1) 1 v' (l++[x]).length ((l++[x]).flatMap J0e) 60∧h'.floor=h.floor∧h.next≤h'.next∧∀ i,i<lo→h'.get i=h.get i:=by
 have hs':SlAt (h.push (.row (J0e x) 60 false false)) lo (fun i=>if i=h.next then 0 else 1) 1 v l.length (l.flatMap J0e) 60:=hs.mono (by show h.next≤h.next+1;omega) (fun i hi=>if_neg (by omega)) fun i _ hi _=>J06 hi
 obtain⟨v',h1,a1,a2,a3,a4,a5,a6,a7⟩:=J3B (et:=60) (w:=5) (c:=1) (sc:=1) (xs:=J0e x) Tryz.underlying22 sz46 by46 J40 rfl (by decide) (by decide) hs' (J0N l) (J4y l) rfl rfl (by decide) (by decide) hb (src:=h.next) J0h (by show h.next<h.next+1;omega) hf (by simp)
 have hnx:h1.next=h.next+2:=a4
 refine⟨v',h1,a1,?_,a3,by omega,fun i hi=>?_⟩
 ·rcases a2 with a2 | a2
  ·rcases a2 with⟨h2,_⟩ | ⟨id,ex,b1,b2,b3,b4,b5⟩
   ·omega
   ·refine .inr ⟨id,ex,?_,?_,b3,b4,rfl⟩
    ·rw[b1,List.length_append];rfl
    ·rw[b2,List.flatMap_append,List.flatMap_cons,List.flatMap_nil,List.append_nil]
  ·exact absurd (show lo≤h.next+1 by omega) a2
 ·rw[a7 i (by show i<h.next+1;omega) (by omega),J06 (by omega)]
section
variable {call:J0r} {n N:Nat} {h:SHeap}
theorem JoE {l:List RowN} {v:Value} (hv:J0l h v l) (hl:l.length<9000000) (hfl:h.floor≤h.next) (hN:l.length+5<N) :
  ∃ v' h',J0L Tryz.prog call N 62 [v] h=some (v',h')∧J0p h.next h' v' (Jk8 l).length 5 ((Jk8 l).flatMap J0e)∧h'.floor=h.floor∧h.next≤h'.next∧∀ i,i<h.next→h'.get i=h.get i:=by
 refine J65 (R:=fun v' h'=>J0p h.next h' v' (Jk8 l).length 5 ((Jk8 l).flatMap J0e)∧h'.floor=h.floor∧h.next≤h'.next∧∀ i,i<h.next→h'.get i=h.get i) Tryz.func62 rfl (by simp[Tryz.f62]) ?_
 have hr:Tryz.f62.results.toList=[.tmp 2]:=rfl
 simp only[evC,seval,↓evP]
 refine WK.loop (fun i s'=>s'.T.get 0=v∧s'.T.get 4=iv i∧i≤l.length∧h.next≤s'.h.next∧s'.h.floor=h.floor∧(∀ i,i<h.next→s'.h.get i=h.get i)∧∃ u,s'.T.get 3=u∧SlAt s'.h h.next (fun _=>1) 1 u (Jk8 (l.take i)).length ((Jk8 (l.take i)).flatMap J0e) 60) l.length (by omega) ?_ ?_
 ·exact⟨by simp only[evC,↓reduceIte,Nat.reduceEqDiff,reduceCtorEq,↓evP,rpC,Nat.reduceAdd,Nat.reduceLT],by simp only[evC,↓reduceIte,Nat.reduceEqDiff,reduceCtorEq,↓evP,rpC,Nat.reduceAdd,Nat.reduceLT];rfl,by omega,Nat.le_refl _,rfl,fun _ _=>rfl,_,by simp only[evC,↓reduceIte,Nat.reduceEqDiff,reduceCtorEq,↓evP,rpC,Nat.reduceAdd,Nat.reduceLT],J5j⟩
 rintro i ⟨T1,H1⟩ hi ⟨t0,t4,hil,n1,f1,o1,u,t3,hS⟩
 simp only at t0 t4 n1 f1 o1 t3 hS
 have hv1:J0l H1 v l:=hv.mono n1 o1
 have hlen:=fun h'=>hv1.len (h':=h')
 by_cases hlt:i<l.length
 ·have c1:decide ((i:Int)<(l.length:Int))=true:=by simp;omega
  obtain⟨x,hx⟩:∃ x,l[i]?=some x:=⟨_,List.getElem?_eq_getElem hlt⟩
  obtain⟨rid,p,e0,hid,l0,l1,l2,l3,l4,lr⟩:=hv1.row hx
  have hz:flat (.agg #[.int .i64 0,.string ByteArray.empty,.int .i64 0,.int .i64 0,.int .i64 0])=true:=rfl
  have hzc:(Value.agg #[.int .i64 0,.string ByteArray.empty,.int .i64 0,.int .i64 0,.int .i64 0]).cells.toList=zRc:=rfl
  have hst:J0K Tryz.prog (H1.push (.row zRc 60 false false)) 60 (qP H1.next 0) (.agg #[.int .i64 x.kind,.string x.name,.int .i64 x.ends,.int .i64 x.n,.int .i64 x.kids])=some ((H1.push (.row zRc 60 false false)).put H1.next (.row (J0e x) 60 false false)):=Jaf (by omega)
  have gN:((H1.push (.row zRc 60 false false)).put H1.next (.row (J0e x) 60 false false)).get H1.next=.row (J0e x) 60 false false:=J0b rfl (by show H1.next<H1.next+1;omega)
  have gO:∀ i,i<H1.next→((H1.push (.row zRc 60 false false)).put H1.next (.row (J0e x) 60 false false)).get i=H1.get i:=fun i hi=>by rw[J05 (by show H1.next<H1.next+1;omega) (by omega),J06 hi]
  have nG:((H1.push (.row zRc 60 false false)).put H1.next (.row (J0e x) 60 false false)).next=H1.next+1:=rfl
  have fG:((H1.push (.row zRc 60 false false)).put H1.next (.row (J0e x) 60 false false)).floor=H1.floor:=rfl
  generalize (H1.push (.row zRc 60 false false)).put H1.next (.row (J0e x) 60 false false)=G at *
  have w1:IntKind.i64.wrap ((i:Int)+1)=((i+1:Nat):Int):=J0s (by omega) (by omega)
  have lk:ld1 0 (G.get H1.next)=some (iv x.kind):=by rw[gN];rfl
  have htk:Jk8 (l.take (i+1))=Jk8 (l.take i)++[Jli x]:=by
   rw[List.take_add_one,hx,Jk8,Jk8,List.map_append]
   rfl
  have hlt2:(Jk8 (l.take i)).length<10000000:=by
   rw[Jk8,List.length_map,List.length_take]
   omega
  cases d:(x.kind != 27) with
  | false=>
   have hz1:Jli x=x:=by unfold Jli;rw[if_neg (by simpa using d)]
   have lw:ldN 5 0 (G.get H1.next)=some (rowV x):=by rw[gN];rfl
   have hSG:SlAt G h.next (fun _=>1) 1 u (Jk8 (l.take i)).length ((Jk8 (l.take i)).flatMap J0e) 60:=hS.mono (by omega) (fun _ _=>rfl) fun i _ hi _=>gO i hi
   obtain⟨v',H2,ha,hS2,f2,n2,o2⟩:=Jp5 (x:=x) hSG (by omega) (by omega) hlt2
   simp only[evC,seval,↓evP,t0,t3,t4,hlen,c1,e0,J0u,lr,J40,hz,hzc,hst,J0t,J0m,lk,d,lw,bs22,ha,w1]
   refine⟨hlt,by omega,by omega,by omega,fun i hi=>by rw[o2 i hi,gO i (by omega),o1 i hi],?_⟩
   rw[htk,hz1]
   exact hS2
  | true=>
   have hz1:Jli x={ x with n:=0 }:=by unfold Jli;rw[if_pos (by simpa using d)]
   have hs3:=stc (t:=3) (off:=3) (v:=iv 0) sz3 rfl rfl gN (by show 3<5;omega) (by omega)
   have gN2:(G.put H1.next (.row ((J0e x).set 3 (iv 0)) 60 false false)).get H1.next=.row (J0e { x with n:=0 }) 60 false false:=J0b rfl (by omega)
   have gO2:∀ i,i<H1.next→(G.put H1.next (.row ((J0e x).set 3 (iv 0)) 60 false false)).get i=H1.get i:=fun i hi=>by rw[J05 (by omega) (by omega),gO i hi]
   have nG2:(G.put H1.next (.row ((J0e x).set 3 (iv 0)) 60 false false)).next=H1.next+1:=nG
   have fG2:(G.put H1.next (.row ((J0e x).set 3 (iv 0)) 60 false false)).floor=H1.floor:=fG
   generalize G.put H1.next (.row ((J0e x).set 3 (iv 0)) 60 false false)=G2 at *
   have lw:ldN 5 0 (G2.get H1.next)=some (rowV { x with n:=0 }):=by rw[gN2];rfl
   have hSG:SlAt G2 h.next (fun _=>1) 1 u (Jk8 (l.take i)).length ((Jk8 (l.take i)).flatMap J0e) 60:=hS.mono (by omega) (fun _ _=>rfl) fun i _ hi _=>gO2 i hi
   obtain⟨v',H2,ha,hS2,f2,n2,o2⟩:=Jp5 (x:={ x with n:=0 }) hSG (by omega) (by omega) hlt2
   simp only[evC,seval,↓evP,Nat.zero_add,t0,t3,t4,hlen,c1,e0,J0u,lr,J40,hz,hzc,hst,J0t,J0O,J0m,lk,d,hs3,lw,bs22,ha,w1]
   refine⟨hlt,by omega,by omega,by omega,fun i hi=>by rw[o2 i hi,gO2 i (by omega),o1 i hi],?_⟩
   rw[htk,hz1]
   exact hS2
 have c1:decide ((i:Int)<(l.length:Int))=false:=by simp;omega
 have:i=l.length:=by omega
 subst this
 rw[List.take_length] at hS
 simp only[evC,seval,↓evP,hr,t0,t3,t4,hlen,c1]
 exact⟨hS.cells (J0N _),f1,n1,o1⟩
theorem Jpn {l:List RowN} {v:Value} (hv:J0l h v l) (hl:l.length<9000000) (hfl:h.floor≤h.next) (hn:l.length+10<n) :
  ∃ v' h',J0T n 62 [v] h=some (v',h')∧J0l h' v' (Jk8 l)∧h'.floor=h.floor∧h.next≤h'.next∧∀ i,i<h.next→h'.get i=h.get i:=by
 obtain⟨n,rfl⟩:∃ j,n=j+1:=⟨n-1,by omega⟩
 have hex:=k_ex (n:=n) (R:=fun v' h'=>J0p h.next h' v' (Jk8 l).length 5 ((Jk8 l).flatMap J0e)∧h'.floor=h.floor∧h.next≤h'.next∧∀ i,i<h.next→h'.get i=h.get i) (J13 (f:=62) (args:=[v]) (h:=h) ⟨rfl,rfl,rfl⟩) (JoE (call:=J0T n) (N:=n) hv hl hfl (by omega)) fun v' h1 hf _ ⟨hc,_⟩=>⟨hc.flat ?_ _ _,rfl,Nat.le_refl _,fun _ _=>rfl⟩
 ·obtain⟨v',h',e,hc,a⟩:=hex
  exact⟨v',h',e,(J3P.of hc).1,a⟩
 ·obtain⟨_,a,c,rfl,_⟩:=hc
  exact hf
theorem JoT {nm:ByteArray} {s:StN} {pv:Value} {lo:Nat} (hp:J3x lo h pv nm s) (h64:∀ x∈s.rows,x.kids≤9223372036854775807) (hs:JdC s) (hl:s.rows.length<9000000) (hfl:h.floor≤h.next) (hn:Jbg s+100200<n) :
  ∃ h',J0L Tryz.prog (J0T n) N 34 [pv] h=some (iv (JkA nm s),h')∧∀ i,i<h.next→h'.get i=h.get i:=by
 obtain⟨vr,vq,vv,vt,vu,vo,rfl,p1,p2,p3,p4,p5,p6⟩:=hp
 refine J1N (R:=fun h'=>∀ i,i<h.next→h'.get i=h.get i) Tryz.func34 rfl (by simp[Tryz.f34]) ?_
 have hr:Tryz.f34.results.toList=[.tmp 2]:=rfl
 have htot:Jbg s=s.rows.length+s.queues.length+s.vars.length+s.tags.length+s.rules.length+s.on.length:=rfl
 have ca:(Value.agg #[.string nm,vr,vq,vv,vt,vu,vo,iv s.miss]).cells.toList=[.string nm,vr,vq,vv,vt,vu,vo,iv s.miss]:=rfl
 have oa:=all8 (nm:=nm) p1 p2 p3 p4 p5 p6
 have gA:(h.push (.row [.string nm,vr,vq,vv,vt,vu,vo,iv s.miss] 27 false false)).get h.next=.row [.string nm,vr,vq,vv,vt,vu,vo,iv s.miss] 27 false false:=J0h
 have gO:∀ i,i<h.next→(h.push (.row [.string nm,vr,vq,vv,vt,vu,vo,iv s.miss] 27 false false)).get i=h.get i:=fun i hi=>J06 hi
 have nA:(h.push (.row [.string nm,vr,vq,vv,vt,vu,vo,iv s.miss] 27 false false)).next=h.next+1:=rfl
 have fA:(h.push (.row [.string nm,vr,vq,vv,vt,vu,vo,iv s.miss] 27 false false)).floor=h.floor:=rfl
 show WK _ _ _ (.seq _ (.seq _ (.seq _ _))) _ _
 simp only[evC,seval,↓evP,rpD,J0X,J2t,ca,oa,sz30]
 generalize h.push (.row [.string nm,vr,vq,vv,vt,vu,vo,iv s.miss] 27 false false)=A at *
 have l1:ld1 1 (A.get h.next)=some vr:=by rw[gA];rfl
 have P1:J0l A vr s.rows:=p1.1.mono (by omega) gO
 obtain⟨v',h1,hpl,hvz,f1,n1,o1⟩:=Jpn (n:=n) P1 hl (by omega) (by omega)
 have hzl:(Jk8 s.rows).length=s.rows.length:=by rw[Jk8,List.length_map]
 have hz64:∀ x∈Jk8 s.rows,x.kids≤9223372036854775807:=fun x hx=>by
  obtain⟨y,hy,rfl⟩:=List.mem_map.1 hx
  have:=h64 y hy
  unfold Jli
  split <;> exact this
 obtain⟨v2,h2,hres,pv,rfl,hp',f2,n2,o2⟩:=Jij (n:=n) (h:=h1) (by omega) hvz (by omega) hz64 (by omega)
 obtain⟨vr',vq',vv',vt',vu',vo',rfl,b1,b2,b3,b4,b5,b6⟩:=hp'
 obtain⟨⟨hb,h3⟩,s1,s2,rO,n3,f3,o3⟩:=Jlt (H:=h2) (cs:=[.string (outN (Jk8 s.rows)).1,vr',vq',vv',vt',vu',vo',iv (outN (Jk8 s.rows)).2.miss]) (e:=(resN (Jk8 s.rows)).1.1) (p:=(resN (Jk8 s.rows)).1.2) rfl (all8 b1 b2 b3 b4 b5 b6) (by omega)
 simp only at s1 s2 rO n3 f3 o3
 have zc30:zPol.cells.toList=zPc:=rfl
 have zc33:(J2k 0 0).cells.toList=[iv 0,iv 0]:=rfl
 have HO:∀ i,i<h.next→h3.get i=h.get i:=fun i hi=>by rw[o3 i (by omega),o2 i (by omega),o1 i (by omega),gO i hi]
 have HA:h3.get h.next=.row [.string nm,vr,vq,vv,vt,vu,vo,iv s.miss] 27 false false:=by rw[o3 _ (by omega),o2 _ (by omega),o1 _ (by omega)];exact gA
 have LA:ldN 8 0 (h3.get h.next)=some (.agg #[.string nm,vr,vq,vv,vt,vu,vo,iv s.miss]):=by rw[HA];rfl
 have LB:ldN 8 0 (h3.get h2.next)=some (.agg #[.string (outN (Jk8 s.rows)).1,vr',vq',vv',vt',vu',vo',iv (outN (Jk8 s.rows)).2.miss]):=by rw[rO.1];rfl
 have lF:ld1 0 (h3.get (h2.next+1))=some (iv (resN (Jk8 s.rows)).1.1):=by rw[rO.2];rfl
 have NN:h.next≤h3.next:=by omega
 have hpA:J3x lo h3 (.agg #[.string nm,vr,vq,vv,vt,vu,vo,iv s.miss]) nm s:=⟨vr,vq,vv,vt,vu,vo,rfl,p1.mono NN fun i _ hi=>HO i hi,p2.mono NN fun i _ hi=>HO i hi,p3.mono NN fun i _ hi=>HO i hi,p4.mono NN fun i _ hi=>HO i hi,J1S.mono p5 NN fun i _ hi=>HO i hi,J1S.mono p6 NN fun i _ hi=>HO i hi⟩
 have hpB:J3x h1.next h3 (.agg #[.string (outN (Jk8 s.rows)).1,vr',vq',vv',vt',vu',vo',iv (outN (Jk8 s.rows)).2.miss]) (outN (Jk8 s.rows)).1 (outN (Jk8 s.rows)).2:=
  J3x.mono ⟨vr',vq',vv',vt',vu',vo',rfl,b1,b2,b3,b4,b5,b6⟩ (by omega) fun i _ hi=>o3 i hi
 obtain⟨b,hsame,hb'⟩:=JgK (n:=n) (h:=h3) hpA hpB hs (by omega)
 simp only[evC,seval,↓evP,Nat.zero_add,J0y,J0F,l1,hpl,hres,J5F,J3Y,zc30,J3C,J1t,zc33,J1D,s1,s2]
 cases d0:((resN (Jk8 s.rows)).1.1 != 0) with
 | true=>
  rw[show JkA nm s=23 from if_neg fun h9=>absurd h9.1 (by simpa using d0)]
  simp only[evC,seval,↓evP,hr,J6a,J7G,lF,d0]
  exact HO
 | false=>
  cases b with
  | true=>
   rw[show JkA nm s=0 from if_pos ⟨by simpa using d0,hb'.1 rfl⟩]
   simp only[evC,seval,↓evP,hr,J6a,J7G,lF,d0,J1b,LA,LB,hsame]
   exact HO
  | false=>
   rw[show JkA nm s=23 from if_neg fun h9=>by have:=hb'.2 h9.2;cases this]
   simp only[evC,seval,↓evP,hr,J6a,J7G,lF,d0,J1b,LA,LB,hsame]
   exact HO
theorem JpH {nm:ByteArray} {s:StN} {pv:Value} {lo:Nat} (hp:J3x lo h pv nm s) (h64:∀ x∈s.rows,x.kids≤9223372036854775807) (hs:JdC s) (hl:s.rows.length<9000000) (hfl:h.floor≤h.next) (hn:Jbg s+100300<n) :
  J0T n 34 [pv] h=some (iv (JkA nm s),h):=by
 obtain⟨n,rfl⟩:∃ j,n=j+1:=⟨n-1,by omega⟩
 exact J4r (J13 ⟨rfl,rfl,rfl⟩) rfl (JoT (N:=n) hp h64 hs hl hfl (by omega))
end
end Go.Proofs.YtdejoodfeljmkaaGreatDoor
