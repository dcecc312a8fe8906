/- Part 19 of what the claim leans on: 9 texts laid one behind another. -/
import Derived.Test.YtdejoodfeljmkaaGreatDoorTT18
import Derived.OpenShut
import Derived.WalkKit
import Derived.Carry
import Derived.ChangeArms
namespace Go.Proofs.YtdejoodfeljmkaaGreatDoor
open Go Go.Sx Go.ChangeShapes Go.WideShapes Go.ChangeAt Go.RowKit
set_option maxRecDepth 100000
set_option linter.unusedSimpArgs false
set_option linter.unusedVariables false
theorem J9Y:Tryz.prog.cellsOf 60=5:=by kernel_rfl
theorem Jag:Tryz.prog.cellsOf 3=1:=by kernel_rfl
theorem Jhu:Tryz.prog.cellsOf 9=1:=by kernel_rfl
def Jd7 (x:RowN):Prop:=(-9223372036854775808≤x.kind∧x.kind≤9223372036854775807)∧(-9223372036854775808≤x.ends∧x.ends≤9223372036854775807)∧(-9223372036854775808≤x.n∧x.n≤9223372036854775807)∧(-9223372036854775808≤x.kids∧x.kids≤9223372036854775807)
section
variable {H:Type} {enc:TypeId × Value→H} {W:World} {base:Nat} {sp:Nat→Bool} {hd:Bool}
theorem JcH {n:Nat} {cs:List Value} {y:DataW H × List MemPlace} (h:DataW.trod enc Tryz.prog W base sp hd n 60 cs=some y):∃ x:RowN,cs=J0e x∧Jd7 x:=by
 obtain⟨xs,m,_,_,hl,hxl,hf⟩:=DataW.trod_struct Tryz.underlying60 h
 rw[J9Y] at hl
 obtain⟨c0,c1,c2,c3,c4,rfl⟩:∃ c0 c1 c2 c3 c4,cs=[c0,c1,c2,c3,c4]:=by
  match cs,hl with
  | [a,b,c,d,e],_=>exact⟨a,b,c,d,e,rfl⟩
 have hxl:xs.length=5:=hxl
 have g:∀ i,i<5→∃ y,xs[i]?=some y:=fun i hi=>⟨_,List.getElem?_eq_getElem (by omega)⟩
 obtain⟨y0,e0⟩:=g 0 (by omega)
 obtain⟨y1,e1⟩:=g 1 (by omega)
 obtain⟨y2,e2⟩:=g 2 (by omega)
 obtain⟨y3,e3⟩:=g 3 (by omega)
 obtain⟨y4,e4⟩:=g 4 (by omega)
 have f0:DataW.trod enc Tryz.prog W base sp hd m 3 (([c0,c1,c2,c3,c4].drop 0).take (Tryz.prog.cellsOf 3))=xs[0]?:=hf 0 _ rfl
 rw[Jag,e0] at f0
 have f1:DataW.trod enc Tryz.prog W base sp hd m 9 (([c0,c1,c2,c3,c4].drop 1).take (Tryz.prog.cellsOf 9))=xs[1]?:=hf 1 _ rfl
 rw[Jhu,e1] at f1
 have f2:DataW.trod enc Tryz.prog W base sp hd m 3 (([c0,c1,c2,c3,c4].drop 2).take (Tryz.prog.cellsOf 3))=xs[2]?:=hf 2 _ rfl
 rw[Jag,e2] at f2
 have f3:DataW.trod enc Tryz.prog W base sp hd m 3 (([c0,c1,c2,c3,c4].drop 3).take (Tryz.prog.cellsOf 3))=xs[3]?:=hf 3 _ rfl
 rw[Jag,e3] at f3
 have f4:DataW.trod enc Tryz.prog W base sp hd m 3 (([c0,c1,c2,c3,c4].drop 4).take (Tryz.prog.cellsOf 3))=xs[4]?:=hf 4 _ rfl
 rw[Jag,e4] at f4
 obtain⟨a,ha,_,wa⟩:=DataW.trod_int Tryz.underlying3 f0
 obtain⟨b,hb,_,wb⟩:=DataW.trod_string Tryz.underlying9 f1
 obtain⟨c,hc,_,wc⟩:=DataW.trod_int Tryz.underlying3 f2
 obtain⟨d,hd,_,wd⟩:=DataW.trod_int Tryz.underlying3 f3
 obtain⟨e,he,_,we⟩:=DataW.trod_int Tryz.underlying3 f4
 cases ha
 cases hb
 cases hc
 cases hd
 cases he
 exact⟨⟨a,b,c,d,e⟩,rfl,bounds_i64 wa,bounds_i64 wc,bounds_i64 wd,bounds_i64 we⟩
end
theorem J9W {b off k:Nat}:(⟨b,off,none⟩:Addr).add k=⟨b,off+k,none⟩:=by
 unfold Addr.add
 split
 ·rename_i e;subst e;rfl
 ·rfl
theorem Jen {W:World} {base b off n:Nat} {cs:List Value} (h:W.cells? base ⟨b,off,none⟩ n=some cs):cs.length=n∧∀ i,i<n→W.cell? ⟨b,off+i,none⟩=cs[i]?:=by
 unfold World.cells? at h
 split at h
 ·refine⟨by simpa using mapM_some_length h,fun i hi=>?_⟩
  have:=mapM_some_get h i i (by simp[hi])
  rw[← this,J9W]
 ·cases h
theorem J7Q {x:RowN} {j:Nat} {v:Value} (h:(J0e x)[j]?=some v):J1i v=true:=by
 match j,h with
 | 0,h=>cases h;rfl
 | 1,h=>cases h;rfl
 | 2,h=>cases h;rfl
 | 3,h=>cases h;rfl
 | 4,h=>cases h;rfl
end Go.Proofs.YtdejoodfeljmkaaGreatDoor
namespace Go.Proofs.YtdejoodfeljmkaaGreatDoor
open Go Go.Sx
set_option maxRecDepth 100000
set_option linter.unusedSimpArgs false
set_option linter.unusedVariables false
def J5z (a b:RowN):Bool:=a.kind==b.kind&&(a.name==b.name&&(a.ends==b.ends&&(a.n==b.n&&a.kids==b.kids)))
theorem eqs {P:Program} {t:TypeId} {a b:ByteArray} (h:P.underlying t=some .string) (d:Nat):J0k P (Op.equalIn (d+1) t (.string a) (.string b))=some (a==b):=by
 rw[Op.equalIn,J0c,J1R h]
 simp[J0C]
theorem eqb {P:Program} {t:TypeId} {a b:Bool} (h:P.underlying t=some .bool) (d:Nat):J0k P (Op.equalIn (d+1) t (.bool a) (.bool b))=some (a==b):=by
 rw[Op.equalIn,J0c,J1R h]
 simp[J0C]
theorem JdG:Tryz.prog.eqGuardType Tryz.prog.depth 60=false:=by kernel_rfl
theorem JfU:Tryz.prog.stoodInHeld 60=false:=by kernel_rfl
theorem JcM:Tryz.prog.eqGuardType Tryz.prog.depth 75=false:=by kernel_rfl
theorem Jgu:Tryz.prog.stoodInHeld 75=false:=by kernel_rfl
theorem J3f {a c d e:Int} {b:ByteArray}:J0k Tryz.prog (part 3 #[.int .i64 a,.string b,.int .i64 c,.int .i64 d,.int .i64 e] 0)=some (.int .i64 a)∧J0k Tryz.prog (part 9 #[.int .i64 a,.string b,.int .i64 c,.int .i64 d,.int .i64 e] 1)=some (.string b)∧J0k Tryz.prog (part 3 #[.int .i64 a,.string b,.int .i64 c,.int .i64 d,.int .i64 e] 2)=some (.int .i64 c) ∧
  J0k Tryz.prog (part 3 #[.int .i64 a,.string b,.int .i64 c,.int .i64 d,.int .i64 e] 3)=some (.int .i64 d)∧J0k Tryz.prog (part 3 #[.int .i64 a,.string b,.int .i64 c,.int .i64 d,.int .i64 e] 4)=some (.int .i64 e):=⟨rfl,rfl,rfl,rfl,rfl⟩
theorem JeF {a:ByteArray} {b:Bool}:J0k Tryz.prog (part 9 #[.string a,.bool b] 0)=some (.string a)∧J0k Tryz.prog (part 4 #[.string a,.bool b] 1)=some (.bool b):=⟨rfl,rfl⟩
theorem Jgj {a b:RowN} (n:Nat):J0k Tryz.prog (Op.equalIn (n+2) 60 (rowV a) (rowV b))=some (J5z a b):=by
 obtain⟨a1,a2,a3,a4,a5⟩:=a
 obtain⟨b1,b2,b3,b4,b5⟩:=b
 show J0k Tryz.prog (Op.equalIn (n+2) 60 (.agg #[.int .i64 a1,.string a2,.int .i64 a3,.int .i64 a4,.int .i64 a5]) (.agg #[.int .i64 b1,.string b2,.int .i64 b3,.int .i64 b4,.int .i64 b5]))=some (a1==b1&&(a2==b2&&(a3==b3&&(a4==b4&&a5==b5))))
 rw[Op.equalIn,J0c,J1R Tryz.underlying60]
 simp only[Option.bind_some,J0c,J1a,JfU,Bool.false_eq_true,if_false,J0C]
 simp only[List.forIn_toArray,List.forIn_cons,List.forIn_nil,ne_eq,String.reduceEq,not_false_eq_true,if_true,J0c,J3f.1,J3f.2.1,J3f.2.2.1,J3f.2.2.2.1,J3f.2.2.2.2,Option.bind_some,eqi Tryz.underlying3,eqs Tryz.underlying9]
 cases h1:(a1==b1) <;> simp[J0c,J0C,J3f.1,J3f.2.1,J3f.2.2.1,J3f.2.2.2.1,J3f.2.2.2.2,eqi Tryz.underlying3,eqs Tryz.underlying9,h1,-beq_iff_eq,-beq_eq_false_iff_ne]
 cases h2:(a2==b2) <;> simp[J0c,J0C,J3f.1,J3f.2.1,J3f.2.2.1,J3f.2.2.2.1,J3f.2.2.2.2,eqi Tryz.underlying3,eqs Tryz.underlying9,h2,-beq_iff_eq,-beq_eq_false_iff_ne]
 cases h3:(a3==b3) <;> simp[J0c,J0C,J3f.1,J3f.2.1,J3f.2.2.1,J3f.2.2.2.1,J3f.2.2.2.2,eqi Tryz.underlying3,eqs Tryz.underlying9,h3,-beq_iff_eq,-beq_eq_false_iff_ne]
 cases h4:(a4==b4) <;> simp[J0c,J0C,J3f.1,J3f.2.1,J3f.2.2.1,J3f.2.2.2.1,J3f.2.2.2.2,eqi Tryz.underlying3,eqs Tryz.underlying9,h4,-beq_iff_eq,-beq_eq_false_iff_ne]
 cases h5:(a5==b5) <;> simp[J0c,J0C,h5,-beq_iff_eq,-beq_eq_false_iff_ne]
theorem Jhb {a c:ByteArray} {b d:Bool} (n:Nat):J0k Tryz.prog (Op.equalIn (n+2) 75 (.agg #[.string a,.bool b]) (.agg #[.string c,.bool d]))=some (a==c&&b==d):=by
 rw[Op.equalIn,J0c,J1R Tryz.underlying75]
 simp only[Option.bind_some,J0c,J1a,Jgu,Bool.false_eq_true,if_false,J0C]
 simp only[List.forIn_toArray,List.forIn_cons,List.forIn_nil,ne_eq,String.reduceEq,not_false_eq_true,if_true,J0c,JeF.1,JeF.2,Option.bind_some,eqs Tryz.underlying9,eqb Tryz.underlying4]
 cases h1:(a==c) <;> simp[J0c,J0C,JeF.1,JeF.2,eqs Tryz.underlying9,eqb Tryz.underlying4,h1,-beq_iff_eq,-beq_eq_false_iff_ne]
 cases h2:(b==d) <;> simp[J0c,J0C,h2,-beq_iff_eq,-beq_eq_false_iff_ne]
theorem J8z {a:RowN}:flat (rowV a)=true:=rfl
theorem J7d {a:ByteArray} {b:Bool}:flat (.agg #[.string a,.bool b])=true:=rfl
section
variable {x y:Operand}
theorem JhG (op:BinOp) (neg:Bool) (hop:op=if neg then .neq else .eql) {a b:RowN}:binS Tryz.prog op 60 x y (rowV a) (rowV b)=some (.bool (if neg then !(J5z a b) else J5z a b)):=by
 have k:J0k Tryz.prog (Op.equal 60 (rowV a) (rowV b))=some (J5z a b):=Jgj 9998
 cases neg with
 | true=>
  subst hop
  have e:J0k Tryz.prog (do eqGuard .neq 60 x y (rowV a) (rowV b);binOp .neq 60 (rowV a) (rowV b))=some (.bool (!(J5z a b))):=by
   rw[J0c]
   have g:J0k Tryz.prog (eqGuard .neq 60 x y (rowV a) (rowV b))=some ():=by
    unfold eqGuard
    simp[J0c,J1a,J0C,JdG]
   rw[g]
   show J0k Tryz.prog ((do pure (.bool (!(← Op.equal 60 (rowV a) (rowV b))))):Sem Value)=_
   rw[J0c,k]
   rfl
  simp only[binS,J8z,Bool.and_self,if_true,e,J2F]
 | false=>
  subst hop
  have e:J0k Tryz.prog (do eqGuard .eql 60 x y (rowV a) (rowV b);binOp .eql 60 (rowV a) (rowV b))=some (.bool (J5z a b)):=by
   rw[J0c]
   have g:J0k Tryz.prog (eqGuard .eql 60 x y (rowV a) (rowV b))=some ():=by
    unfold eqGuard
    simp[J0c,J1a,J0C,JdG]
   rw[g]
   show J0k Tryz.prog ((do pure (.bool (← Op.equal 60 (rowV a) (rowV b)))):Sem Value)=_
   rw[J0c,k]
   rfl
  simp only[Bool.false_eq_true,if_false,binS,J8z,Bool.and_self,if_true,e,J2F]
theorem eq46 {a b:RowN}:binS Tryz.prog .eql 60 x y (rowV a) (rowV b)=some (.bool (J5z a b)):=JhG .eql false rfl
theorem J6U {a b:RowN}:binS Tryz.prog .neq 60 x y (rowV a) (rowV b)=some (.bool (!(J5z a b))):=JhG .neq true rfl
theorem Jie (op:BinOp) (neg:Bool) (hop:op=if neg then .neq else .eql) {a c:ByteArray} {b d:Bool}:binS Tryz.prog op 75 x y (.agg #[.string a,.bool b]) (.agg #[.string c,.bool d])=some (.bool (if neg then !(a==c&&b==d) else (a==c&&b==d))):=by
 have k:J0k Tryz.prog (Op.equal 75 (.agg #[.string a,.bool b]) (.agg #[.string c,.bool d]))=some (a==c&&b==d):=Jhb 9998
 cases neg with
 | true=>
  subst hop
  have e:J0k Tryz.prog (do eqGuard .neq 75 x y (.agg #[.string a,.bool b]) (.agg #[.string c,.bool d]);binOp .neq 75 (.agg #[.string a,.bool b]) (.agg #[.string c,.bool d]))=some (.bool (!(a==c&&b==d))):=by
   rw[J0c]
   have g:J0k Tryz.prog (eqGuard .neq 75 x y (.agg #[.string a,.bool b]) (.agg #[.string c,.bool d]))=some ():=by
    unfold eqGuard
    simp[J0c,J1a,J0C,JcM]
   rw[g]
   show J0k Tryz.prog ((do pure (.bool (!(← Op.equal 75 (.agg #[.string a,.bool b]) (.agg #[.string c,.bool d]))))):Sem Value)=_
   rw[J0c,k]
   rfl
  simp only[binS,J7d,Bool.and_self,if_true,e,J2F]
 | false=>
  subst hop
  have e:J0k Tryz.prog (do eqGuard .eql 75 x y (.agg #[.string a,.bool b]) (.agg #[.string c,.bool d]);binOp .eql 75 (.agg #[.string a,.bool b]) (.agg #[.string c,.bool d]))=some (.bool (a==c&&b==d)):=by
   rw[J0c]
   have g:J0k Tryz.prog (eqGuard .eql 75 x y (.agg #[.string a,.bool b]) (.agg #[.string c,.bool d]))=some ():=by
    unfold eqGuard
    simp[J0c,J1a,J0C,JcM]
   rw[g]
   show J0k Tryz.prog ((do pure (.bool (← Op.equal 75 (.agg #[.string a,.bool b]) (.agg #[.string c,.bool d])))):Sem Value)=_
   rw[J0c,k]
   rfl
  simp only[Bool.false_eq_true,if_false,binS,J7d,Bool.and_self,if_true,e,J2F]
theorem eq57 {a c:ByteArray} {b d:Bool}:binS Tryz.prog .eql 75 x y (.agg #[.string a,.bool b]) (.agg #[.string c,.bool d])=some (.bool (a==c&&b==d)):=Jie .eql false rfl
theorem J6H {a c:ByteArray} {b d:Bool}:binS Tryz.prog .neq 75 x y (.agg #[.string a,.bool b]) (.agg #[.string c,.bool d])=some (.bool (!(a==c&&b==d))):=Jie .neq true rfl
end
theorem Jcs {a b:ByteArray}:(a==b)=true↔a=b:=by
 obtain⟨a⟩:=a
 obtain⟨b⟩:=b
 show (a==b)=true↔_
 rw[beq_iff_eq,ByteArray.mk.injEq]
theorem J6E {a b:RowN}:J5z a b=true↔a=b:=by
 obtain⟨a1,a2,a3,a4,a5⟩:=a
 obtain⟨b1,b2,b3,b4,b5⟩:=b
 unfold J5z
 simp only[Bool.and_eq_true,beq_iff_eq,Jcs,RowN.mk.injEq]
theorem JfF {lo:Nat} {h:SHeap} {v:Value} {n w:Nat} {cs:List Value} (hc:J0p lo h v n w cs) (h':SHeap):lenS Tryz.prog h' 25 v=some (iv (n:Int)):=J0p.len hc Tryz.underlying25
theorem JfT {lo:Nat} {h:SHeap} {v:Value} {n w:Nat} {cs:List Value} (hc:J0p lo h v n w cs) (h':SHeap):lenS Tryz.prog h' 24 v=some (iv (n:Int)):=J0p.len hc Tryz.underlying24
theorem JfC {lo:Nat} {h:SHeap} {v:Value} {n w:Nat} {cs:List Value} (hc:J0p lo h v n w cs) (h':SHeap):lenS Tryz.prog h' 23 v=some (iv (n:Int)):=J0p.len hc Tryz.underlying23
theorem JfA {lo:Nat} {h:SHeap} {v:Value} {n w:Nat} {cs:List Value} (hc:J0p lo h v n w cs) (h':SHeap):lenS Tryz.prog h' 22 v=some (iv (n:Int)):=J0p.len hc Tryz.underlying22
theorem Ja3 {l:List ByteArray} {i:Nat} {x:ByteArray} (hx:l[i]?=some x) {lo:Nat} {h:SHeap} {v:Value} (hc:J0p lo h v l.length 1 (strs l)):∃ id p,J0R Tryz.prog 24 v (iv (i:Int))=some (.pointer (some ⟨id,p,none⟩))∧id<h.next∧ld1 p (h.get id)=some (.string x):=by
 obtain⟨id,p,h1,h2,h3⟩:=J0p.idx hc Tryz.underlying24 sz9 (List.getElem?_eq_some_iff.1 hx).1
 refine⟨id,p,h1,h2,?_⟩
 have:=h3 0 (by decide)
 rw[Nat.add_zero] at this
 rw[this,Nat.mul_one,Nat.add_zero,strs,List.getElem?_map,hx]
 rfl
theorem J7n:∀ {l:List (ByteArray × Bool)} {i:Nat} {x:ByteArray × Bool},l[i]?=some x→((J3S l).drop (i*2)).take 2=[.string x.1,.bool x.2]
 | [],i,x,h=>by simp at h
 | q :: l,0,x,h=>by
  simp only[List.getElem?_cons_zero,Option.some.injEq] at h
  subst h
  rfl
 | q :: l,i+1,x,h=>by
  have:=J7n (l:=l) (i:=i) (x:=x) (by simpa using h)
  rw[← this,show (i+1)*2=i*2+2 by omega]
  rfl
theorem J8S {l:List (ByteArray × Bool)} {i:Nat} {x:ByteArray × Bool} (hx:l[i]?=some x) {lo:Nat} {h:SHeap} {v:Value} (hc:J0p lo h v l.length 2 (J3S l)):∃ id p,J0R Tryz.prog 23 v (iv (i:Int))=some (.pointer (some ⟨id,p,none⟩))∧id<h.next∧ldN 2 p (h.get id)=some (.agg #[.string x.1,.bool x.2]):=by
 obtain⟨id,p,h1,h2,h3⟩:=J0p.whole hc Tryz.underlying23 sz57 (List.getElem?_eq_some_iff.1 hx).1
 rw[J7n hx] at h3
 exact⟨id,p,h1,h2,h3⟩
theorem J4S {α:Type} {A B:List α} (hl:A.length=B.length) (h:∀ j,j<A.length→A[j]?=B[j]?):A=B:=by
 apply List.ext_getElem?
 intro j
 rcases Nat.lt_or_ge j A.length with h1 | h1
 ·exact h j h1
 ·rw[List.getElem?_eq_none h1,List.getElem?_eq_none (by omega)]
theorem Jj5:J2X Tryz.prog 75=some true:=by kernel_rfl
theorem J3z {h:SHeap} {id off:Nat}:J2x Tryz.prog h 75 (.pointer (some ⟨id,off,none⟩))=ldN 2 off (h.get id):=J5S Jj5 sz57
noncomputable def J6w:Array Oper:=J18 Tryz.f90 6
def JbT:List (Bool × Bool × List Operand):=[(false,true,[]),(false,true,[]),(false,true,[]),(false,true,[]),(false,true,[.tmp 19]),(false,true,[.tmp 19]),(false,true,[.tmp 19]),(false,true,[.tmp 19]),(false,false,[])]
theorem J7I:J1E J6w=JbT:=by kernel_rfl
section
variable {call:J0r} {N:Nat} {h:SHeap}
set_option maxHeartbeats 4000000 in
theorem J7z (hsn:J1G call) {va vb:Value} {A B:List Int} {la lb:Nat} (ha:J1S la h va A) (hb:J1S lb h vb B) (hN:A.length+3<N) (hl:A.length<1099511627776):J0L Tryz.prog call N 90 [va,vb] h=some (.bool (decide (A=B)),h):=by
 refine J1m Tryz.func90 rfl (by simp[Tryz.f90]) ?_
 have hr:Tryz.f90.results.toList=[.tmp 4]:=rfl
 have lA:=fun h'=>JfF ha h'
 have lB:=fun h'=>JfF hb h'
 cases d:((A.length:Int) != (B.length:Int)) with
 | true=>
  have hne:A≠B:=fun e=>by subst e;simp at d
  rw[decide_eq_false hne]
  simp only[evC,↓reduceIte,Nat.reduceEqDiff,reduceCtorEq,↓evP,hr,lA,lB,d]
 | false=>
  have hlen:A.length=B.length:=by
   have h9:(A.length:Int)=(B.length:Int):=by simpa using d
   omega
  simp only[evC,↓reduceIte,Nat.reduceEqDiff,reduceCtorEq,↓evP,lA,lB,d]
  refine WK.loop (fun i s'=>s'.T.get 0=va∧s'.T.get 1=vb∧s'.T.get 5=iv i∧s'.h=h∧i≤A.length∧∀ j,j<i→A[j]?=B[j]?) A.length (by omega) ?_ ?_
  ·simp only[evC,↓reduceIte,Nat.reduceEqDiff,reduceCtorEq,↓evP,rpC,Nat.reduceAdd,Nat.reduceLT]
   exact⟨rfl,fun j hj=>by omega⟩
  ·rintro i ⟨T1,H1⟩ hi ⟨t0,t1,t5,hh,hil,hsame⟩
   simp only at t0 t1 t5 hh
   subst hh
   by_cases hlt:i<A.length
   ·have c1:decide ((i:Int)<(A.length:Int))=true:=by simp;omega
    obtain⟨x,hx⟩:∃ x,A[i]?=some x:=⟨_,List.getElem?_eq_getElem hlt⟩
    obtain⟨y,hy⟩:∃ y,B[i]?=some y:=⟨_,List.getElem?_eq_getElem (by omega)⟩
    obtain⟨ida,pa,ea,_,xa⟩:=J1S.get ha hx
    obtain⟨idb,pb,eb,_,xb⟩:=J1S.get hb hy
    have w1:IntKind.i64.wrap ((i:Int)+1)=((i+1:Nat):Int):=J0s (by omega) (by omega)
    simp only[evC,seval,↓evP,t0,t1,t5,lA,c1]
    refine WK.flags (ops:=J6w) J7I ?_
    refine WKF.begin ?_
    have FF:=aQ @t0 (aQ @t1 (aQ @t5 (aQ @ea (aQ @eb (aQ @J0m (aQ @xa (aQ @xb @J4h)))))))
    refine wst hsn 0 (some 17) (.move (.tmp 0)) none ?_
    simp only[rgC,seval,J04,J02,WKFC,FF]
    refine wst hsn 1 (some 18) (.move (.tmp 5)) none ?_
    simp only[rgC,seval,J04,J02,WKFC,FF]
    refine wst hsn 2 (some 19) (.indexAddr 25 (.tmp 17) (.tmp 18)) none ?_
    simp only[rgC,seval,J04,J02,WKFC,Nat.zero_add,FF]
    refine wst hsn 3 (some 20) (.load 3 (.tmp 19)) none ?_
    simp only[rgC,seval,J04,J02,WKFC,rgL,FF]
    refine wst hsn 4 (some 21) (.move (.tmp 1)) none ?_
    simp only[rgC,seval,J04,J02,WKFC,FF]
    refine wst hsn 5 (some 22) (.move (.tmp 5)) none ?_
    simp only[rgC,seval,J04,J02,WKFC,FF]
    refine wst hsn 6 (some 23) (.indexAddr 25 (.tmp 21) (.tmp 22)) none ?_
    simp only[rgC,seval,J04,J02,WKFC,Nat.zero_add,FF]
    refine wst hsn 7 (some 24) (.load 3 (.tmp 23)) none ?_
    simp only[rgC,seval,J04,J02,WKFC,rgL,FF]
    refine wst hsn 8 (some 25) (.binOp .neq 3 (.tmp 20) (.tmp 24) 3) none ?_
    simp only[rgC,seval,J04,J02,WKFC,rgB,FF]
    refine WKF.done (i:=9) (by kernel_rfl) ?_
    clear FF
    cases e:(x != y) with
    | true=>
     have hne:A≠B:=fun h9=>by
      subst h9
      rw[hx] at hy
      cases hy
      simp at e
     rw[decide_eq_false hne]
     simp only[evC,seval,↓evP,hr,e]
    | false=>
     have hxy:x=y:=by simpa using e
     simp only[evC,seval,↓evP,t0,t1,t5,e,w1]
     refine⟨by omega,by omega,fun j hj=>?_⟩
     rcases Nat.lt_or_ge j i with h1 | h1
     ·exact hsame j h1
     ·have:j=i:=by omega
      subst this
      rw[hx,hy,hxy]
   ·have c1:decide ((i:Int)<(A.length:Int))=false:=by simp;omega
    have:i=A.length:=by omega
    subst this
    have hAB:A=B:=J4S hlen hsame
    rw[decide_eq_true hAB]
    simp only[evC,seval,↓evP,hr,t0,t1,t5,lA,c1]
end
noncomputable def J5V:Array Oper:=J18 Tryz.f89 6
def J9D:List (Bool × Bool × List Operand):=[(false,true,[]),(false,true,[]),(false,true,[]),(false,true,[]),(false,true,[.tmp 19]),(false,true,[.tmp 19]),(false,true,[.tmp 19]),(false,true,[.tmp 19]),(false,false,[])]
theorem J6Z:J1E J5V=J9D:=by kernel_rfl
section
variable {call:J0r} {N:Nat} {h:SHeap}
set_option maxHeartbeats 4000000 in
theorem J71 (hsn:J1G call) {va vb:Value} {A B:List ByteArray} {la lb:Nat} (ha:J0p la h va A.length 1 (strs A)) (hb:J0p lb h vb B.length 1 (strs B)) (hN:A.length+3<N) (hl:A.length<1099511627776):J0L Tryz.prog call N 89 [va,vb] h=some (.bool (decide (A=B)),h):=by
 refine J1m Tryz.func89 rfl (by simp[Tryz.f89]) ?_
 have hr:Tryz.f89.results.toList=[.tmp 4]:=rfl
 have lA:=fun h'=>JfT ha h'
 have lB:=fun h'=>JfT hb h'
 cases d:((A.length:Int) != (B.length:Int)) with
 | true=>
  have hne:A≠B:=fun e=>by subst e;simp at d
  rw[decide_eq_false hne]
  simp only[evC,↓reduceIte,Nat.reduceEqDiff,reduceCtorEq,↓evP,hr,lA,lB,d]
 | false=>
  have hlen:A.length=B.length:=by
   have h9:(A.length:Int)=(B.length:Int):=by simpa using d
   omega
  simp only[evC,↓reduceIte,Nat.reduceEqDiff,reduceCtorEq,↓evP,lA,lB,d]
  refine WK.loop (fun i s'=>s'.T.get 0=va∧s'.T.get 1=vb∧s'.T.get 5=iv i∧s'.h=h∧i≤A.length∧∀ j,j<i→A[j]?=B[j]?) A.length (by omega) ?_ ?_
  ·simp only[evC,↓reduceIte,Nat.reduceEqDiff,reduceCtorEq,↓evP,rpC,Nat.reduceAdd,Nat.reduceLT]
   exact⟨rfl,fun j hj=>by omega⟩
  ·rintro i ⟨T1,H1⟩ hi ⟨t0,t1,t5,hh,hil,hsame⟩
   simp only at t0 t1 t5 hh
   subst hh
   by_cases hlt:i<A.length
   ·have c1:decide ((i:Int)<(A.length:Int))=true:=by simp;omega
    obtain⟨x,hx⟩:∃ x,A[i]?=some x:=⟨_,List.getElem?_eq_getElem hlt⟩
    obtain⟨y,hy⟩:∃ y,B[i]?=some y:=⟨_,List.getElem?_eq_getElem (by omega)⟩
    obtain⟨ida,pa,ea,_,xa⟩:=Ja3 hx ha
    obtain⟨idb,pb,eb,_,xb⟩:=Ja3 hy hb
    have w1:IntKind.i64.wrap ((i:Int)+1)=((i+1:Nat):Int):=J0s (by omega) (by omega)
    simp only[evC,seval,↓evP,t0,t1,t5,lA,c1]
    refine WK.flags (ops:=J5V) J6Z ?_
    refine WKF.begin ?_
    have FF:=aQ @t0 (aQ @t1 (aQ @t5 (aQ @ea (aQ @eb (aQ @J0d (aQ @xa (aQ @xb @J26)))))))
    refine wst hsn 0 (some 17) (.move (.tmp 0)) none ?_
    simp only[rgC,seval,J04,J02,WKFC,FF]
    refine wst hsn 1 (some 18) (.move (.tmp 5)) none ?_
    simp only[rgC,seval,J04,J02,WKFC,FF]
    refine wst hsn 2 (some 19) (.indexAddr 24 (.tmp 17) (.tmp 18)) none ?_
    simp only[rgC,seval,J04,J02,WKFC,Nat.zero_add,FF]
    refine wst hsn 3 (some 20) (.load 9 (.tmp 19)) none ?_
    simp only[rgC,seval,J04,J02,WKFC,rgL,FF]
    refine wst hsn 4 (some 21) (.move (.tmp 1)) none ?_
    simp only[rgC,seval,J04,J02,WKFC,FF]
    refine wst hsn 5 (some 22) (.move (.tmp 5)) none ?_
    simp only[rgC,seval,J04,J02,WKFC,FF]
    refine wst hsn 6 (some 23) (.indexAddr 24 (.tmp 21) (.tmp 22)) none ?_
    simp only[rgC,seval,J04,J02,WKFC,Nat.zero_add,FF]
    refine wst hsn 7 (some 24) (.load 9 (.tmp 23)) none ?_
    simp only[rgC,seval,J04,J02,WKFC,rgL,FF]
    refine wst hsn 8 (some 25) (.binOp .neq 9 (.tmp 20) (.tmp 24) 9) none ?_
    simp only[rgC,seval,J04,J02,WKFC,rgB,FF]
    refine WKF.done (i:=9) (by kernel_rfl) ?_
    clear FF
    cases e:(!(x==y)) with
    | true=>
     have hne:A≠B:=fun h9=>by
      subst h9
      rw[hx] at hy
      cases hy
      rw[J34] at e;cases e
     rw[decide_eq_false hne]
     simp only[evC,seval,↓evP,hr,e]
    | false=>
     have hxy:x=y:=J3o (by simpa using e)
     simp only[evC,seval,↓evP,t0,t1,t5,e,w1]
     refine⟨by omega,by omega,fun j hj=>?_⟩
     rcases Nat.lt_or_ge j i with h1 | h1
     ·exact hsame j h1
     ·have:j=i:=by omega
      subst this
      rw[hx,hy,hxy]
   ·have c1:decide ((i:Int)<(A.length:Int))=false:=by simp;omega
    have:i=A.length:=by omega
    subst this
    have hAB:A=B:=J4S hlen hsame
    rw[decide_eq_true hAB]
    simp only[evC,seval,↓evP,hr,t0,t1,t5,lA,c1]
end
theorem J78 {n:Nat} {h:SHeap} {va vb:Value} {A B:List Int} {la lb:Nat} (ha:J1S la h va A) (hb:J1S lb h vb B) (hl:A.length<1000000000) (hn:A.length+5<n):J0T n 90 [va,vb] h=some (.bool (decide (A=B)),h):=by
 obtain⟨n,rfl⟩:∃ j,n=j+1:=⟨n-1,by omega⟩
 exact J6r (J13 ⟨rfl,rfl,rfl⟩) rfl (J7z (J1z n).2 ha hb (by omega) (by omega))
theorem J6s {n:Nat} {h:SHeap} {va vb:Value} {A B:List ByteArray} {la lb:Nat} (ha:J0p la h va A.length 1 (strs A)) (hb:J0p lb h vb B.length 1 (strs B)) (hl:A.length<1000000000) (hn:A.length+5<n):J0T n 89 [va,vb] h=some (.bool (decide (A=B)),h):=by
 obtain⟨n,rfl⟩:∃ j,n=j+1:=⟨n-1,by omega⟩
 exact J6r (J13 ⟨rfl,rfl,rfl⟩) rfl (J71 (J1z n).2 ha hb (by omega) (by omega))
noncomputable def JdV:Array Oper:=J18 Tryz.f63 6
def JhF:List (Bool × Bool × List Operand):=[(false,true,[]),(false,true,[]),(false,true,[.tmp 44]),(false,true,[]),(false,true,[]),(false,true,[.tmp 44,.tmp 47]),(false,true,[.tmp 44,.tmp 47]),(false,true,[.tmp 44,.tmp 47,.tmp 49]),(false,true,[.tmp 44,.tmp 47]),(false,true,[.tmp 44,.tmp 47]),(false,false,[])]
theorem JcW:J1E JdV=JhF:=by kernel_rfl
noncomputable def Jam:Array Oper:=J18 Tryz.f63 11
def Jge:List (Bool × Bool × List Operand):=[(false,true,[]),(false,true,[]),(false,true,[.tmp 62]),(false,true,[]),(false,true,[]),(false,true,[.tmp 62,.tmp 65]),(false,true,[.tmp 62,.tmp 65]),(false,true,[.tmp 62,.tmp 65,.tmp 67]),(false,true,[.tmp 62,.tmp 65]),(false,true,[.tmp 62,.tmp 65]),(false,false,[])]
theorem Jbd:J1E Jam=Jge:=by kernel_rfl
def J5b (nm nm':ByteArray) (s s':StN):Prop:=nm=nm'∧s.miss=s'.miss∧s.rows=s'.rows∧s.queues=s'.queues∧s.vars=s'.vars∧s.tags=s'.tags∧s.rules=s'.rules∧s.on=s'.on
noncomputable def S3:Code:=rt (rt (Tryz.f63.body.getD .skip))
noncomputable def S8:Code:=rt S3
noncomputable def S13:Code:=rt S8
theorem Jhw {a b c d e f g i:Value} {ty:TypeId} {x y:Bool}:ld1 0 (.row [a,b,c,d,e,f,g,i] ty x y)=some a∧ld1 1 (.row [a,b,c,d,e,f,g,i] ty x y)=some b∧ld1 2 (.row [a,b,c,d,e,f,g,i] ty x y)=some c∧ld1 3 (.row [a,b,c,d,e,f,g,i] ty x y)=some d∧ld1 4 (.row [a,b,c,d,e,f,g,i] ty x y)=some e∧ld1 5 (.row [a,b,c,d,e,f,g,i] ty x y)=some f∧ld1 6 (.row [a,b,c,d,e,f,g,i] ty x y)=some g∧ld1 7 (.row [a,b,c,d,e,f,g,i] ty x y)=some i:=⟨rfl,rfl,rfl,rfl,rfl,rfl,rfl,rfl⟩
def JdC (s:StN):Prop:=s.rows.length<1000000000∧s.queues.length<1000000000∧s.vars.length<1000000000∧s.tags.length<1000000000∧s.rules.length<1000000000∧s.on.length<1000000000
def Jbg (s:StN):Nat:=s.rows.length+s.queues.length+s.vars.length+s.tags.length+s.rules.length+s.on.length
section
variable {n N:Nat}
set_option maxHeartbeats 8000000 in
theorem Jcc (hsn:J1G (J0T n)) {nm nm':ByteArray} {s s':StN} {pa pb:Value} {la lb:Nat} {h:SHeap} (ha:J3x la h pa nm s) (hb:J3x lb h pb nm' s') (hs:JdC s) (hn:Jbg s+10<n) (hN:Jbg s+10<N) :
  ∃ b h1,J0L Tryz.prog (J0T n) N 63 [pa,pb] h=some (.bool b,h1)∧(b=true↔J5b nm nm' s s')∧∀ i,i<h.next→h1.get i=h.get i:=by
 obtain⟨ar,aq,av,at_,au,ao,rfl,a1,a2,a3,a4,a5,a6⟩:=ha
 obtain⟨br,bq,bv,bt,bu,bo,rfl,b1,b2,b3,b4,b5,b6⟩:=hb
 suffices hsuf:∃ v h1,J0L Tryz.prog (J0T n) N 63 [.agg #[.string nm,ar,aq,av,at_,au,ao,iv s.miss],.agg #[.string nm',br,bq,bv,bt,bu,bo,iv s'.miss]] h=some (v,h1)∧(∃ b,v=.bool b∧(b=true↔J5b nm nm' s s')∧∀ i,i<h.next→h1.get i=h.get i) by
  obtain⟨v,h1,e1,b,rfl,e2⟩:=hsuf
  exact⟨b,h1,e1,e2⟩
 refine J65 (R:=fun v h1=>∃ b,v=.bool b∧(b=true↔J5b nm nm' s s')∧∀ i,i<h.next→h1.get i=h.get i) Tryz.func63 rfl (by simp[Tryz.f63]) ?_
 have hr:Tryz.f63.results.toList=[.tmp 4]:=rfl
 unfold Jbg at hn hN
 obtain⟨q1,q2,q3,q4,q5,q6⟩:=hs
 have ca:(Value.agg #[.string nm,ar,aq,av,at_,au,ao,iv s.miss]).cells.toList=[.string nm,ar,aq,av,at_,au,ao,iv s.miss]:=rfl
 have cb:(Value.agg #[.string nm',br,bq,bv,bt,bu,bo,iv s'.miss]).cells.toList=[.string nm',br,bq,bv,bt,bu,bo,iv s'.miss]:=rfl
 have oa:([.string nm,ar,aq,av,at_,au,ao,iv s.miss]:List Value).all one=true:=by
  simp only[List.all_cons,List.all_nil,a1.2.one,a2.one,a3.one,a4.one,J0p.one a5,J0p.one a6,J5J,J5K,Bool.and_self]
 have ob:([.string nm',br,bq,bv,bt,bu,bo,iv s'.miss]:List Value).all one=true:=by
  simp only[List.all_cons,List.all_nil,b1.2.one,b2.one,b3.one,b4.one,J0p.one b5,J0p.one b6,J5J,J5K,Bool.and_self]
 have gA:=J4c (h:=h) (o:=.row [.string nm,ar,aq,av,at_,au,ao,iv s.miss] 27 false false) (o':=.row [.string nm',br,bq,bv,bt,bu,bo,iv s'.miss] 27 false false)
 have gB:=J48 (h:=h) (o:=.row [.string nm,ar,aq,av,at_,au,ao,iv s.miss] 27 false false) (o':=.row [.string nm',br,bq,bv,bt,bu,bo,iv s'.miss] 27 false false)
 have gO:∀ i,i<h.next→((h.push (.row [.string nm,ar,aq,av,at_,au,ao,iv s.miss] 27 false false)).push (.row [.string nm',br,bq,bv,bt,bu,bo,iv s'.miss] 27 false false)).get i=h.get i:=fun i hi=>by rw[J06 (by show i<h.next+1;omega),J06 hi]
 show WK _ _ _ (.seq _ (.seq _ S3)) _ _
 simp only[evC,seval,↓evP,rpD,J0X,J2t,ca,cb,oa,ob,sz30]
 have nH:((h.push (.row [.string nm,ar,aq,av,at_,au,ao,iv s.miss] 27 false false)).push (.row [.string nm',br,bq,bv,bt,bu,bo,iv s'.miss] 27 false false)).next=h.next+2:=rfl
 generalize (h.push (.row [.string nm,ar,aq,av,at_,au,ao,iv s.miss] 27 false false)).push (.row [.string nm',br,bq,bv,bt,bu,bo,iv s'.miss] 27 false false)=H at *
 generalize hKK:Kont.top _=K
 have fin:∀ (T':Tr) b,T'.get 4=.bool b→(b=true↔J5b nm nm' s s')→K.ap Tryz.prog (J0T n) N .ret ⟨T',H⟩:=by
  intro T' b h4 hb
  rw[← hKK]
  simp only[evC,seval,↓evP,hr,h4]
  exact⟨b,rfl,hb,gO⟩
 have fno:∀ (T':Tr),T'.get 4=.bool false→¬ J5b nm nm' s s'→K.ap Tryz.prog (J0T n) N .ret ⟨T',H⟩:=fun T' h4 hn=>fin T' false h4 ⟨fun h=>(by cases h),fun h=>absurd h hn⟩
 clear hKK
 have hN':h.next≤H.next:=by omega
 have A1:=a1.mono hN' fun i _ hi=>gO i hi
 have A2:=a2.mono hN' fun i _ hi=>gO i hi
 have A3:=a3.mono hN' fun i _ hi=>gO i hi
 have A4:=a4.mono hN' fun i _ hi=>gO i hi
 have A5:=J1S.mono a5 hN' fun i _ hi=>gO i hi
 have A6:=J1S.mono a6 hN' fun i _ hi=>gO i hi
 have B1:=b1.mono hN' fun i _ hi=>gO i hi
 have B2:=b2.mono hN' fun i _ hi=>gO i hi
 have B3:=b3.mono hN' fun i _ hi=>gO i hi
 have B4:=b4.mono hN' fun i _ hi=>gO i hi
 have B5:=J1S.mono b5 hN' fun i _ hi=>gO i hi
 have B6:=J1S.mono b6 hN' fun i _ hi=>gO i hi
 obtain⟨x0,x1,x2,x3,x4,x5,x6,x7⟩:=Jhw (a:=.string nm) (b:=ar) (c:=aq) (d:=av) (e:=at_) (f:=au) (g:=ao) (i:=iv s.miss) (ty:=27) (x:=false) (y:=false)
 obtain⟨y0,y1,y2,y3,y4,y5,y6,y7⟩:=Jhw (a:=.string nm') (b:=br) (c:=bq) (d:=bv) (e:=bt) (f:=bu) (g:=bo) (i:=iv s'.miss) (ty:=27) (x:=false) (y:=false)
 rw[← gA] at x0 x1 x2 x3 x4 x5 x6 x7
 rw[← gB] at y0 y1 y2 y3 y4 y5 y6 y7
 have lr1:=fun h'=>JfA A1.2 h'
 have lr2:=fun h'=>JfA B1.2 h'
 have lq1:=fun h'=>JfC A2 h'
 have lq2:=fun h'=>JfC B2 h'
 cases d1:(!(nm==nm')) with
 | true=>
  simp only[evC,seval,↓evP,Nat.zero_add,J5g,J0y,J0B,J38,J0d,J0m,J0F,J0S,x0,x1,x2,x7,y0,y1,y2,y7,lr1,lr2,lq1,lq2,J26,d1]
  refine fno _ (by simp only[evC,seval,↓evP,rpC]) fun hsp=>?_
  rw[hsp.1,J34] at d1
  cases d1
 | false=>
 have e1:nm=nm':=J3o (by simpa using d1)
 cases d2:(s.miss != s'.miss) with
 | true=>
  simp only[evC,seval,↓evP,Nat.zero_add,J5g,J0y,J0B,J38,J0d,J0m,J0F,J0S,x0,x1,x2,x7,y0,y1,y2,y7,lr1,lr2,lq1,lq2,J26,d1,d2]
  refine fno _ (by simp only[evC,seval,↓evP,rpC]) fun hsp=>?_
  rw[hsp.2.1] at d2
  simp at d2
 | false=>
 have e2:s.miss=s'.miss:=by simpa using d2
 cases d3:((s.rows.length:Int) != (s'.rows.length:Int)) with
 | true=>
  simp only[evC,seval,↓evP,Nat.zero_add,J5g,J0y,J0B,J38,J0d,J0m,J0F,J0S,x0,x1,x2,x7,y0,y1,y2,y7,lr1,lr2,lq1,lq2,J26,d1,d2,d3]
  refine fno _ (by simp only[evC,seval,↓evP,rpC]) fun hsp=>?_
  rw[hsp.2.2.1] at d3
  simp at d3
 | false=>
 have e3:s.rows.length=s'.rows.length:=by
  have h9:(s.rows.length:Int)=(s'.rows.length:Int):=by simpa using d3
  omega
 cases d4:((s.queues.length:Int) != (s'.queues.length:Int)) with
 | true=>
  simp only[evC,seval,↓evP,Nat.zero_add,J5g,J0y,J0B,J38,J0d,J0m,J0F,J0S,x0,x1,x2,x7,y0,y1,y2,y7,lr1,lr2,lq1,lq2,J26,d1,d2,d3,d4]
  refine fno _ (by simp only[evC,seval,↓evP,rpC]) fun hsp=>?_
  rw[hsp.2.2.2.1] at d4
  simp at d4
 | false=>
 have e4:s.queues.length=s'.queues.length:=by
  have h9:(s.queues.length:Int)=(s'.queues.length:Int):=by simpa using d4
  omega
 simp only[evC,seval,↓evP,Nat.zero_add,J5g,J0y,J0B,J38,J0d,J0m,J0F,J0S,x0,x1,x2,x7,y0,y1,y2,y7,lr1,lr2,lq1,lq2,J26,d1,d2,d3,d4]
 show WK _ _ _ (.seq (.seq _ (.block 0 (.loop (.seq _ (.seq (.block 1 (.seq (.region _ _ true) _)) _))))) S8) _ _
 simp only[evC,seval,↓evP]
 refine WK.loop (fun i s''=>s''.T.get 2=.pointer (some ⟨h.next,0,none⟩)∧s''.T.get 3=.pointer (some ⟨h.next+1,0,none⟩)∧s''.T.get 5=iv i∧s''.h=H∧i≤s.rows.length∧∀ j,j<i→s.rows[j]?=s'.rows[j]?) s.rows.length (by omega) ?_ ?_
 ·exact⟨by simp only[evC,↓reduceIte,Nat.reduceEqDiff,reduceCtorEq,↓evP,rpC,Nat.reduceAdd,Nat.reduceLT],by simp only[evC,↓reduceIte,Nat.reduceEqDiff,reduceCtorEq,↓evP,rpC,Nat.reduceAdd,Nat.reduceLT],by simp only[evC,↓reduceIte,Nat.reduceEqDiff,reduceCtorEq,↓evP,rpC,Nat.reduceAdd,Nat.reduceLT];rfl,rfl,by omega,fun j hj=>by omega⟩
 rintro i ⟨T1,H1⟩ hi ⟨t2,t3,t5,hh,hil,hsame⟩
 simp only at t2 t3 t5 hh
 subst hh
 by_cases hlt:i<s.rows.length
 ·have c1:decide ((i:Int)<(s.rows.length:Int))=true:=by simp;omega
  obtain⟨x,hx⟩:∃ x,s.rows[i]?=some x:=⟨_,List.getElem?_eq_getElem hlt⟩
  obtain⟨y,hy⟩:∃ y,s'.rows[i]?=some y:=⟨_,List.getElem?_eq_getElem (by omega)⟩
  obtain⟨ida,pa,ea,_,_,_,_,_,_,xa⟩:=A1.1.row hx
  obtain⟨idb,pb,eb,_,_,_,_,_,_,xb⟩:=B1.1.row hy
  have w1:IntKind.i64.wrap ((i:Int)+1)=((i+1:Nat):Int):=J0s (by omega) (by omega)
  have xa':ldN 5 pa (H1.get ida)=some (rowV x):=xa
  have xb':ldN 5 pb (H1.get idb)=some (rowV y):=xb
  simp only[evC,seval,↓evP,Nat.zero_add,t2,t3,t5,J0y,J0F,x1,lr1,c1]
  refine WK.flags (ops:=JdV) JcW ?_
  refine WKF.begin ?_
  have FF:=aQ @t2 (aQ @t3 (aQ @t5 (aQ @J0y (aQ @J0F (aQ @x1 (aQ @y1 (aQ @ea (aQ @eb (aQ @J0u (aQ @xa' (aQ @xb' @J6U)))))))))))
  refine wst hsn 0 (some 44) (.fieldAddr 27 (.tmp 2) 1) none ?_
  simp only[rgC,seval,J04,J02,WKFC,Nat.zero_add,FF]
  refine wst hsn 1 (some 45) (.load 22 (.tmp 44)) none ?_
  simp only[rgC,seval,J04,J02,WKFC,rgL,FF]
  refine wst hsn 2 (some 46) (.move (.tmp 5)) none ?_
  simp only[rgC,seval,J04,J02,WKFC,FF]
  refine wst hsn 3 (some 47) (.indexAddr 22 (.tmp 45) (.tmp 46)) none ?_
  simp only[rgC,seval,J04,J02,WKFC,Nat.zero_add,FF]
  refine wst hsn 4 (some 48) (.load 60 (.tmp 47)) none ?_
  simp only[rgC,seval,J04,J02,WKFC,rgL,FF]
  refine wst hsn 5 (some 49) (.fieldAddr 27 (.tmp 3) 1) none ?_
  simp only[rgC,seval,J04,J02,WKFC,Nat.zero_add,FF]
  refine wst hsn 6 (some 50) (.load 22 (.tmp 49)) none ?_
  simp only[rgC,seval,J04,J02,WKFC,rgL,FF]
  refine wst hsn 7 (some 51) (.move (.tmp 5)) none ?_
  simp only[rgC,seval,J04,J02,WKFC,FF]
  refine wst hsn 8 (some 52) (.indexAddr 22 (.tmp 50) (.tmp 51)) none ?_
  simp only[rgC,seval,J04,J02,WKFC,Nat.zero_add,FF]
  refine wst hsn 9 (some 53) (.load 60 (.tmp 52)) none ?_
  simp only[rgC,seval,J04,J02,WKFC,rgL,FF]
  refine wst hsn 10 (some 54) (.binOp .neq 60 (.tmp 48) (.tmp 53) 60) none ?_
  simp only[rgC,seval,J04,J02,WKFC,rgB,FF]
  refine WKF.done (i:=11) (by kernel_rfl) ?_
  clear FF
  cases e:(!(J5z x y)) with
  | true=>
   simp only[evC,seval,↓evP,e]
   refine fno _ (by simp only[evC,seval,↓evP,rpC]) fun hsp=>?_
   rw[hsp.2.2.1,hy] at hx
   cases hx
   rw[(J6E (a:=x) (b:=x)).2 rfl] at e
   cases e
  | false=>
   have hxy:x=y:=J6E.1 (by simpa using e)
   simp only[evC,seval,↓evP,t2,t3,t5,e,w1]
   refine⟨by omega,by omega,fun j hj=>?_⟩
   rcases Nat.lt_or_ge j i with h1 | h1
   ·exact hsame j h1
   ·have:j=i:=by omega
    subst this
    rw[hx,hy,hxy]
 have c1:decide ((i:Int)<(s.rows.length:Int))=false:=by simp;omega
 have:i=s.rows.length:=by omega
 subst this
 have e5:s.rows=s'.rows:=J4S e3 hsame
 simp only[evC,seval,↓evP,Nat.zero_add,t2,t3,t5,J0y,J0F,x1,lr1,c1]
 show WK _ _ _ (.seq (.seq _ (.block 2 (.loop (.seq _ (.seq (.block 3 (.seq (.region _ _ true) _)) _))))) S13) _ _
 simp only[evC,seval,↓evP]
 refine WK.loop (fun i s''=>s''.T.get 2=.pointer (some ⟨h.next,0,none⟩)∧s''.T.get 3=.pointer (some ⟨h.next+1,0,none⟩)∧s''.T.get 6=iv i∧s''.h=H1∧i≤s.queues.length∧∀ j,j<i→s.queues[j]?=s'.queues[j]?) s.queues.length (by omega) ?_ ?_
 ·exact⟨by simp only[evC,↓reduceIte,Nat.reduceEqDiff,reduceCtorEq,↓evP,rpC,Nat.reduceAdd,Nat.reduceLT,t2],by simp only[evC,↓reduceIte,Nat.reduceEqDiff,reduceCtorEq,↓evP,rpC,Nat.reduceAdd,Nat.reduceLT,t3],by simp only[evC,↓reduceIte,Nat.reduceEqDiff,reduceCtorEq,↓evP,rpC,Nat.reduceAdd,Nat.reduceLT];rfl,rfl,by omega,fun j hj=>by omega⟩
 rintro i ⟨T2,H2⟩ hi ⟨t2,t3,t6,hh,hil,hsame⟩
 simp only at t2 t3 t6 hh
 subst hh
 by_cases hlt:i<s.queues.length
 ·have c1:decide ((i:Int)<(s.queues.length:Int))=true:=by simp;omega
  obtain⟨x,hx⟩:∃ x,s.queues[i]?=some x:=⟨_,List.getElem?_eq_getElem hlt⟩
  obtain⟨y,hy⟩:∃ y,s'.queues[i]?=some y:=⟨_,List.getElem?_eq_getElem (by omega)⟩
  obtain⟨ida,pa,ea,_,xa⟩:=J8S hx A2
  obtain⟨idb,pb,eb,_,xb⟩:=J8S hy B2
  have w1:IntKind.i64.wrap ((i:Int)+1)=((i+1:Nat):Int):=J0s (by omega) (by omega)
  simp only[evC,seval,↓evP,Nat.zero_add,t2,t3,t6,J0B,J0S,x2,lq1,c1]
  refine WK.flags (ops:=Jam) Jbd ?_
  refine WKF.begin ?_
  have FF:=aQ @t2 (aQ @t3 (aQ @t6 (aQ @J0B (aQ @J0S (aQ @x2 (aQ @y2 (aQ @ea (aQ @eb (aQ @J3z (aQ @xa (aQ @xb @J6H)))))))))))
  refine wst hsn 0 (some 62) (.fieldAddr 27 (.tmp 2) 2) none ?_
  simp only[rgC,seval,J04,J02,WKFC,Nat.zero_add,FF]
  refine wst hsn 1 (some 63) (.load 23 (.tmp 62)) none ?_
  simp only[rgC,seval,J04,J02,WKFC,rgL,FF]
  refine wst hsn 2 (some 64) (.move (.tmp 6)) none ?_
  simp only[rgC,seval,J04,J02,WKFC,FF]
  refine wst hsn 3 (some 65) (.indexAddr 23 (.tmp 63) (.tmp 64)) none ?_
  simp only[rgC,seval,J04,J02,WKFC,Nat.zero_add,FF]
  refine wst hsn 4 (some 66) (.load 75 (.tmp 65)) none ?_
  simp only[rgC,seval,J04,J02,WKFC,rgL,FF]
  refine wst hsn 5 (some 67) (.fieldAddr 27 (.tmp 3) 2) none ?_
  simp only[rgC,seval,J04,J02,WKFC,Nat.zero_add,FF]
  refine wst hsn 6 (some 68) (.load 23 (.tmp 67)) none ?_
  simp only[rgC,seval,J04,J02,WKFC,rgL,FF]
  refine wst hsn 7 (some 69) (.move (.tmp 6)) none ?_
  simp only[rgC,seval,J04,J02,WKFC,FF]
  refine wst hsn 8 (some 70) (.indexAddr 23 (.tmp 68) (.tmp 69)) none ?_
  simp only[rgC,seval,J04,J02,WKFC,Nat.zero_add,FF]
  refine wst hsn 9 (some 71) (.load 75 (.tmp 70)) none ?_
  simp only[rgC,seval,J04,J02,WKFC,rgL,FF]
  refine wst hsn 10 (some 72) (.binOp .neq 75 (.tmp 66) (.tmp 71) 75) none ?_
  simp only[rgC,seval,J04,J02,WKFC,rgB,FF]
  refine WKF.done (i:=11) (by kernel_rfl) ?_
  clear FF
  cases e:(!(x.1==y.1&&x.2==y.2)) with
  | true=>
   simp only[evC,seval,↓evP,e]
   refine fno _ (by simp only[evC,seval,↓evP,rpC]) fun hsp=>?_
   rw[hsp.2.2.2.1,hy] at hx
   cases hx
   rw[J34] at e
   simp at e
  | false=>
   have hxy:x=y:=by
    simp only[Bool.not_eq_false',Bool.and_eq_true] at e
    exact Prod.ext (J3o e.1) (by simpa using e.2)
   simp only[evC,seval,↓evP,t2,t3,t6,e,w1]
   refine⟨by omega,by omega,fun j hj=>?_⟩
   rcases Nat.lt_or_ge j i with h1 | h1
   ·exact hsame j h1
   ·have:j=i:=by omega
    subst this
    rw[hx,hy,hxy]
 have c1:decide ((i:Int)<(s.queues.length:Int))=false:=by simp;omega
 have:i=s.queues.length:=by omega
 subst this
 have e6:s.queues=s'.queues:=J4S e4 hsame
 simp only[evC,seval,↓evP,Nat.zero_add,t2,t3,t6,J0B,J0S,x2,lq1,c1]
 have hV:=J6s (n:=n) (h:=H2) A3 B3 (by omega) (by omega)
 have hT:=J6s (n:=n) (h:=H2) A4 B4 (by omega) (by omega)
 have hU:=J78 (n:=n) (h:=H2) A5 B5 (by omega) (by omega)
 have hO:=J78 (n:=n) (h:=H2) A6 B6 (by omega) (by omega)
 show WK _ _ _ (.seq _ .ret) _ _
 cases dV:decide (s.vars=s'.vars) with
 | false=>
  rw[dV] at hV
  simp only[evC,seval,↓evP,Nat.zero_add,t2,t3,J1A,J1B,J36,J1T,J0Y,J0n,x3,x4,x5,x6,y3,y4,y5,y6,hV]
  exact fno _ (by simp only[evC,seval,↓evP,rpC]) fun hsp=>(of_decide_eq_false dV) hsp.2.2.2.2.1
 | true=>
 rw[dV] at hV
 cases dT:decide (s.tags=s'.tags) with
 | false=>
  rw[dT] at hT
  simp only[evC,seval,↓evP,Nat.zero_add,t2,t3,J1A,J1B,J36,J1T,J0Y,J0n,x3,x4,x5,x6,y3,y4,y5,y6,hV,hT]
  exact fno _ (by simp only[evC,seval,↓evP,rpC]) fun hsp=>(of_decide_eq_false dT) hsp.2.2.2.2.2.1
 | true=>
 rw[dT] at hT
 cases dU:decide (s.rules=s'.rules) with
 | false=>
  rw[dU] at hU
  simp only[evC,seval,↓evP,Nat.zero_add,t2,t3,J1A,J1B,J36,J1T,J0Y,J0n,x3,x4,x5,x6,y3,y4,y5,y6,hV,hT,hU]
  exact fno _ (by simp only[evC,seval,↓evP,rpC]) fun hsp=>(of_decide_eq_false dU) hsp.2.2.2.2.2.2.1
 | true=>
 rw[dU] at hU
 simp only[evC,seval,↓evP,Nat.zero_add,t2,t3,J1A,J1B,J36,J1T,J0Y,J0n,x3,x4,x5,x6,y3,y4,y5,y6,hV,hT,hU,hO]
 refine fin _ (decide (s.on=s'.on)) (by simp only[evC,seval,↓evP,rpC]) ⟨fun h=>⟨e1,e2,e5,e6,of_decide_eq_true dV,of_decide_eq_true dT,of_decide_eq_true dU,of_decide_eq_true h⟩,fun hsp=>decide_eq_true hsp.2.2.2.2.2.2.2⟩
theorem JgK {nm nm':ByteArray} {s s':StN} {pa pb:Value} {la lb:Nat} {h:SHeap} (ha:J3x la h pa nm s) (hb:J3x lb h pb nm' s') (hs:JdC s) (hn:Jbg s+20<n) :
  ∃ b,J0T n 63 [pa,pb] h=some (.bool b,h)∧(b=true↔J5b nm nm' s s'):=by
 obtain⟨n,rfl⟩:∃ j,n=j+1:=⟨n-1,by omega⟩
 obtain⟨b,h1,hw,hb,ho⟩:=Jcc (J1z n).2 (N:=n) ha hb hs (by omega) (by omega)
 exact⟨b,J4r (J13 ⟨rfl,rfl,rfl⟩) rfl ⟨h1,hw,ho⟩,hb⟩
end
theorem J53:∀ (l:List RowN) (k:Nat),(l.flatMap J0e).take (k*5)=(l.take k).flatMap J0e
 | l,0=>by simp
 | [],k+1=>by simp
 | r :: l,k+1=>by
  rw[List.flatMap_cons,List.take_succ_cons,List.flatMap_cons,← J53 l k,show (k+1)*5=k*5+5 by omega]
  rfl
theorem Jgo {L:List RowN} {i:Nat} {x:RowN} (hi:i<L.length):Go.Sx.lay (L.flatMap J0e) (i*5) (J0e x)=(L.set i x).flatMap J0e:=by
 have h5:(J0e x).length=5:=rfl
 rw[List.set_eq_take_append_cons_drop,if_pos hi,List.flatMap_append,List.flatMap_cons,← J53,← J3k]
 simp only[Go.Sx.lay,h5]
 rw[show (i+1)*5=i*5+5 by omega,List.append_assoc]
abbrev zRow:RowN:=⟨0,ByteArray.empty,0,0,0⟩
abbrev JcY:ByteArray:=⟨#[108,101,110,116]⟩
abbrev J9F:ByteArray:=⟨#[115,112,111,105,108,116]⟩
def mark (i:Nat):RowN:=⟨-7,JcY,0,0,i⟩
theorem J7r:∀ n,J3e [.int .i64 0,.string ByteArray.empty,.int .i64 0,.int .i64 0,.int .i64 0] n=(List.replicate n zRow).flatMap J0e
 | 0=>rfl
 | n+1=>by rw[J3e,J7r n,List.replicate_succ,List.flatMap_cons];rfl
theorem JaU {h:SHeap} {id i off:Nat} {L:List RowN} {x:RowN} {ty:TypeId} {g:Bool} (ho:off=i*5) (hg:h.get id=.row (L.flatMap J0e) ty g false) (hi:i<L.length) (hf:h.floor≤id):J0K Tryz.prog h 60 (.pointer (some ⟨id,off,none⟩)) (rowV x)=some (h.put id (.row ((L.set i x).flatMap J0e) ty g false)):=by
 subst ho
 have hc:(rowV x).cells=(J0e x).toArray:=rfl
 have h5:(J0e x).length=5:=rfl
 have hone:(J0e x).all one=true:=rfl
 have hl:=J0N L
 simp only[J0K,hc,sz46,J1q,hg]
 rw[if_pos (by simp[h5]),if_pos (by simp only[h5,hone,hl];simp;omega),Jgo hi]
theorem J9X:J2Q Tryz.prog (match Tryz.prog.underlying 60 with | some (.struct fs)=>fs.toList | _=>[])=some [(0,1),(1,1),(2,1),(3,1),(4,1)]:=by kernel_rfl
theorem JaW {id n c i:Nat} (hi:i<n):J0R Tryz.prog 22 (.slice (some ⟨id,0,none⟩) n c) (iv (i:Int))=some (.pointer (some ⟨id,i*5,none⟩)):=J4z hi
theorem J1K (x:RowN):J5z x x=true:=J6E.2 rfl
theorem JnJ {z:List Value}:∀ n,(J3e z n).length=n*z.length
 | 0=>by simp[J3e]
 | n+1=>by rw[J3e,List.length_append,JnJ n,Nat.succ_mul];omega
theorem Jok {z:List Value}:∀ a b,J3e z (a+b)=J3e z a++J3e z b
 | 0,b=>by simp[J3e]
 | a+1,b=>by rw[Nat.succ_add,J3e,J3e,Jok a b,List.append_assoc]
section
variable {P:Program} {t e:TypeId} {w b:Nat} {z:Value} {h:SHeap}
theorem JnH (ht:P.underlying t=some (.slice e)) (he:szOf P e=some w) {id n m c:Nat} (hm:m≤c) (hc:c≠unk):J2M P h t (.slice (some ⟨id,0,none⟩) n c) none (some (iv (m:Int))) none=some (.slice (some ⟨id,0,none⟩) m c):=by
 simp only[J2M,ht,he,J3a,hc,if_false]
 rw[if_pos (by omega)]
 simp only[Int.toNat_natCast]
 by_cases h0:c=0
 ·subst h0
  simp[J0q]
 ·simp[J0q]
end
structure LentC (h:SHeap) (o n w:Nat) (cs mk z:List Value) (e:TypeId):Prop where
 g:h.get o=.row (cs++(mk++J3e z 2)) e false false
 len:cs.length=n*w
 mlen:mk.length=w
 zlen:z.length=w
section
variable {t e:TypeId} {w b:Nat} {z:Value} {h:SHeap}
end
section
variable {t e:TypeId} {w b:Nat} {z:Value} {h:SHeap}
end
section
variable {h h':SHeap} {o n w:Nat} {cs mk z:List Value} {e:TypeId}
theorem LentC.mono (hl:LentC h o n w cs mk z e) (hg:h'.get o=h.get o):LentC h' o n w cs mk z e:=⟨by rw[hg];exact hl.g,hl.len,hl.mlen,hl.zlen⟩
theorem LentC.cells (hl:LentC h o n w cs mk z e) {lo c:Nat} (ho:lo≤o∧o<h.next):J0p lo h (.slice (some ⟨o,0,none⟩) n c) n w cs:=J0p.row hl.g ho hl.len
theorem LentC.mark (hl:LentC h o n w cs mk z e) {lo c:Nat} (ho:lo≤o∧o<h.next):J0p lo h (.slice (some ⟨o,0,none⟩) (n+1) c) (n+1) w (cs++mk):=
 J0p.row (ex:=J3e z 2) (by rw[List.append_assoc];exact hl.g) ho (by rw[List.length_append,hl.len,hl.mlen,Nat.succ_mul])
end
section
variable {P:Program} {t e:TypeId} {w b:Nat} {z:Value} {h:SHeap}
theorem Jrq (ht:P.underlying t=some (.slice e)) (he:szOf P e=some w) (hb:byOf P e=some b) (hz:J1w P e=some z) (hzc:z.cells.size=w) (hzf:flat z=true) (hw:0<w) (hbb:b≤64) {n:Nat} (hn:n<1099511627776) :
  J2l P h t (iv (n:Int)) (iv (n:Int))=some (.slice (some ⟨h.next,0,none⟩) n n,h.push (.row (J3e z.cells.toList n) e false false)):=by
 simp only[J2l,ht,he,hz,hb]
 have hmul:(b:Int)*(n:Int)≤64*(n:Int):=Int.mul_le_mul_of_nonneg_right (by omega) (by omega)
 rw[if_pos (by simp[hzf,hzc,hw];omega)]
 simp
theorem Jrk (ht:P.underlying t=some (.slice e)) (he:szOf P e=some w) {id n m c:Nat} {lo:Nat} {v:Value} {cs R:List Value} {ty:TypeId} {g:Bool} (hv:J0p lo h v n w cs) (hone:cs.all one=true) (hw:0<w) (hg:h.get id=.row R ty g false) (hR:R.length=m*w) (hn:n≤m) (hid:id<h.next) (hf:h.floor≤id) :
  ∃ h',J8N P h t (.slice (some ⟨id,0,none⟩) m c) v=some (iv (n:Int),h')∧h'.get id=.row (cs++R.drop (n*w)) ty g false∧h'.next=h.next∧h'.floor=h.floor∧∀ i,i≠id→h'.get i=h.get i:=by
 have hsrc:=hv.src
 have hcl:=hv.1
 obtain⟨_,a,c',rfl,_⟩:=hv
 have hm:min n m=n:=by omega
 by_cases h0:n=0
 ·refine⟨h,?_,?_,rfl,rfl,fun _ _=>rfl⟩
  ·simp only[J8N,ht,he,hm,hsrc]
   rw[if_pos h0]
  ·subst h0
   rw[Nat.zero_mul] at hcl
   rw[List.length_eq_zero_iff.1 hcl,Nat.zero_mul,List.drop_zero]
   exact hg
 ·have hle:n*w≤m*w:=Nat.mul_le_mul_right w hn
  refine⟨_,?_,J0b rfl hid,rfl,rfl,fun i hi=>J05 hid (Ne.symm hi)⟩
  simp only[J8N,ht,he,hm,hsrc,J1q,hg]
  rw[if_neg h0,if_pos (by simp only[hone,hcl,hR,Bool.and_true,Nat.zero_add,Bool.and_eq_true,decide_eq_true_eq];omega)]
  have:Go.Sx.lay R 0 cs=cs++R.drop (n*w):=by simp only[Go.Sx.lay,List.take_zero,List.nil_append,Nat.zero_add,hcl]
  rw[this]
theorem JqZ (ht:P.underlying t=some (.slice e)) (he:szOf P e=some w) (hb:byOf P e=some b) (hz:J1w P e=some z) (hzc:z.cells.size=w) (hzf:flat z=true) (hw:0<w) (hbb:b≤64) {lo n k:Nat} {v:Value} {cs:List Value} (hv:J0p lo h v n w cs) (hone:cs.all one=true) (hn:n+k<1099511627776) (hfl:h.floor≤h.next) :
  ∃ h1,J2l P h t (iv ((n+k:Nat):Int)) (iv ((n+k:Nat):Int))=some (.slice (some ⟨h.next,0,none⟩) (n+k) (n+k),h.push (.row (J3e z.cells.toList (n+k)) e false false)) ∧
   J8N P (h.push (.row (J3e z.cells.toList (n+k)) e false false)) t (.slice (some ⟨h.next,0,none⟩) (n+k) (n+k)) v=some (iv (n:Int),h1) ∧
   h1.get h.next=.row (cs++J3e z.cells.toList k) e false false∧h1.next=h.next+1∧h1.floor=h.floor∧∀ i,i<h.next→h1.get i=h.get i:=by
 have hzl:z.cells.toList.length=w:=by simpa using hzc
 obtain⟨h1,e1,e2,e3,e4,e5⟩:=Jrk (h:=h.push (.row (J3e z.cells.toList (n+k)) e false false)) (m:=n+k) (c:=n+k) ht he (hv.mono (by rw[J1D];omega) fun i _ hi=>J06 hi) hone hw J0h (by rw[JnJ,hzl]) (by omega) (by rw[J1D];omega) hfl
 refine⟨h1,Jrq ht he hb hz hzc hzf hw hbb hn,e1,?_,e3,e4,fun i hi=>by rw[e5 i (by omega),J06 hi]⟩
 rw[e2,Jok,List.drop_left' (by rw[JnJ,hzl])]
end
instance:DecidableEq RowN:=fun _ _=>decidable_of_decidable_of_iff J6E
def Jmj:List (Bool × Bool × List Operand):=[(false,true,[]),(false,true,[]),(false,true,[]),(false,true,[]),(false,true,[.tmp 18]),(false,true,[.tmp 18]),(false,true,[.tmp 18]),(false,true,[.tmp 18]),(false,false,[])]
noncomputable def Jmx:Array Oper:=J18 Tryz.f59 6
theorem Jmi:J1E Jmx=Jmj:=by kernel_rfl
set_option maxHeartbeats 4000000 in
theorem Jm8 {call:J0r} {N:Nat} {h:SHeap} (hsn:J1G call) {va vb:Value} {A B:List Int} {la lb:Nat} (ha:J1S la h va A) (hb:J1S lb h vb B) (hN:A.length+3<N) (hl:A.length<1099511627776):J0L Tryz.prog call N 59 [va,vb] h=some (.bool (decide (A=B)),h):=by
 refine J1m Tryz.func59 rfl (by simp[Tryz.f59]) ?_
 have hr:Tryz.f59.results.toList=[.tmp 4]:=rfl
 have lA:=fun h'=>JfF ha h'
 have lB:=fun h'=>JfF hb h'
 cases d:((A.length:Int) != (B.length:Int)) with
 | true=>
  have hne:A≠B:=fun e=>by subst e;simp at d
  rw[decide_eq_false hne]
  simp only[evC,↓reduceIte,Nat.reduceEqDiff,reduceCtorEq,↓evP,hr,lA,lB,d]
 | false=>
  have hlen:A.length=B.length:=by
   have h9:(A.length:Int)=(B.length:Int):=by simpa using d
   omega
  simp only[evC,↓reduceIte,Nat.reduceEqDiff,reduceCtorEq,↓evP,lA,lB,d]
  refine WK.loop (fun i s'=>s'.T.get 0=va∧s'.T.get 1=vb∧s'.T.get 12=iv A.length∧s'.T.get 13=iv i∧s'.h=h∧i≤A.length∧∀ j,j<i→A[j]?=B[j]?) A.length (by omega) ?_ ?_
  ·exact⟨by simp only[evC,↓reduceIte,Nat.reduceEqDiff,reduceCtorEq,↓evP,rpC,Nat.reduceAdd,Nat.reduceLT],by simp only[evC,↓reduceIte,Nat.reduceEqDiff,reduceCtorEq,↓evP,rpC,Nat.reduceAdd,Nat.reduceLT],by simp only[evC,↓reduceIte,Nat.reduceEqDiff,reduceCtorEq,↓evP,rpC,Nat.reduceAdd,Nat.reduceLT],by simp only[evC,↓reduceIte,Nat.reduceEqDiff,reduceCtorEq,↓evP,rpC,Nat.reduceAdd,Nat.reduceLT];rfl,rfl,by omega,fun j hj=>by omega⟩
  ·rintro i ⟨T1,H1⟩ hi ⟨t0,t1,t12,t13,hh,hil,hsame⟩
   simp only at t0 t1 t12 t13 hh
   subst hh
   by_cases hlt:i<A.length
   ·have c1:decide ((i:Int)<(A.length:Int))=true:=by simp;omega
    obtain⟨x,hx⟩:∃ x,A[i]?=some x:=⟨_,List.getElem?_eq_getElem hlt⟩
    obtain⟨y,hy⟩:∃ y,B[i]?=some y:=⟨_,List.getElem?_eq_getElem (by omega)⟩
    obtain⟨ida,pa,ea,_,xa⟩:=J1S.get ha hx
    obtain⟨idb,pb,eb,_,xb⟩:=J1S.get hb hy
    have w1:IntKind.i64.wrap ((i:Int)+1)=((i+1:Nat):Int):=J0s (by omega) (by omega)
    simp only[evC,seval,↓evP,t0,t1,t12,t13,c1]
    refine WK.flags (ops:=Jmx) Jmi ?_
    refine WKF.begin ?_
    have FF:=aQ @t0 (aQ @t1 (aQ @t12 (aQ @t13 (aQ @ea (aQ @eb (aQ @J0m (aQ @xa (aQ @xb @J4h))))))))
    refine wst hsn 0 (some 16) (.move (.tmp 0)) none ?_
    simp only[rgC,seval,J04,J02,WKFC,FF]
    refine wst hsn 1 (some 17) (.move (.tmp 5)) none ?_
    simp only[rgC,seval,J04,J02,WKFC,FF]
    refine wst hsn 2 (some 18) (.indexAddr 25 (.tmp 16) (.tmp 17)) none ?_
    simp only[rgC,seval,J04,J02,WKFC,Nat.zero_add,FF]
    refine wst hsn 3 (some 19) (.load 3 (.tmp 18)) none ?_
    simp only[rgC,seval,J04,J02,WKFC,rgL,FF]
    refine wst hsn 4 (some 20) (.move (.tmp 1)) none ?_
    simp only[rgC,seval,J04,J02,WKFC,FF]
    refine wst hsn 5 (some 21) (.move (.tmp 5)) none ?_
    simp only[rgC,seval,J04,J02,WKFC,FF]
    refine wst hsn 6 (some 22) (.indexAddr 25 (.tmp 20) (.tmp 21)) none ?_
    simp only[rgC,seval,J04,J02,WKFC,Nat.zero_add,FF]
    refine wst hsn 7 (some 23) (.load 3 (.tmp 22)) none ?_
    simp only[rgC,seval,J04,J02,WKFC,rgL,FF]
    refine wst hsn 8 (some 24) (.binOp .neq 3 (.tmp 19) (.tmp 23) 3) none ?_
    simp only[rgC,seval,J04,J02,WKFC,rgB,FF]
    refine WKF.done (i:=9) (by kernel_rfl) ?_
    clear FF
    cases e:(x != y) with
    | true=>
     have hne:A≠B:=fun h9=>by
      subst h9
      rw[hx] at hy
      cases hy
      simp at e
     rw[decide_eq_false hne]
     simp only[evC,seval,↓evP,hr,e]
    | false=>
     have hxy:x=y:=by simpa using e
     simp only[evC,seval,↓evP,t0,t1,t12,t13,e,w1]
     refine⟨by omega,by omega,fun j hj=>?_⟩
     rcases Nat.lt_or_ge j i with h1 | h1
     ·exact hsame j h1
     ·have:j=i:=by omega
      subst this
      rw[hx,hy,hxy]
   ·have c1:decide ((i:Int)<(A.length:Int))=false:=by simp;omega
    have:i=A.length:=by omega
    subst this
    have hAB:A=B:=J4S hlen hsame
    rw[decide_eq_true hAB]
    simp only[evC,seval,↓evP,hr,t0,t1,t12,t13,c1]
theorem JmT {n:Nat} {h:SHeap} {va vb:Value} {A B:List Int} {la lb:Nat} (ha:J1S la h va A) (hb:J1S lb h vb B) (hl:A.length<1000000000) (hn:A.length+5<n):J0T n 59 [va,vb] h=some (.bool (decide (A=B)),h):=by
 obtain⟨n,rfl⟩:∃ j,n=j+1:=⟨n-1,by omega⟩
 exact J6r (J13 ⟨rfl,rfl,rfl⟩) rfl (Jm8 (J1z n).2 ha hb (by omega) (by omega))
noncomputable def Jmu:Array Oper:=J18 Tryz.f58 6
theorem Jms:J1E Jmu=Jmj:=by kernel_rfl
set_option maxHeartbeats 4000000 in
theorem Jmf {call:J0r} {N:Nat} {h:SHeap} (hsn:J1G call) {va vb:Value} {A B:List ByteArray} {la lb:Nat} (ha:J0p la h va A.length 1 (strs A)) (hb:J0p lb h vb B.length 1 (strs B)) (hN:A.length+3<N) (hl:A.length<1099511627776):J0L Tryz.prog call N 58 [va,vb] h=some (.bool (decide (A=B)),h):=by
 refine J1m Tryz.func58 rfl (by simp[Tryz.f58]) ?_
 have hr:Tryz.f58.results.toList=[.tmp 4]:=rfl
 have lA:=fun h'=>JfT ha h'
 have lB:=fun h'=>JfT hb h'
 cases d:((A.length:Int) != (B.length:Int)) with
 | true=>
  have hne:A≠B:=fun e=>by subst e;simp at d
  rw[decide_eq_false hne]
  simp only[evC,↓reduceIte,Nat.reduceEqDiff,reduceCtorEq,↓evP,hr,lA,lB,d]
 | false=>
  have hlen:A.length=B.length:=by
   have h9:(A.length:Int)=(B.length:Int):=by simpa using d
   omega
  simp only[evC,↓reduceIte,Nat.reduceEqDiff,reduceCtorEq,↓evP,lA,lB,d]
  refine WK.loop (fun i s'=>s'.T.get 0=va∧s'.T.get 1=vb∧s'.T.get 12=iv A.length∧s'.T.get 13=iv i∧s'.h=h∧i≤A.length∧∀ j,j<i→A[j]?=B[j]?) A.length (by omega) ?_ ?_
  ·exact⟨by simp only[evC,↓reduceIte,Nat.reduceEqDiff,reduceCtorEq,↓evP,rpC,Nat.reduceAdd,Nat.reduceLT],by simp only[evC,↓reduceIte,Nat.reduceEqDiff,reduceCtorEq,↓evP,rpC,Nat.reduceAdd,Nat.reduceLT],by simp only[evC,↓reduceIte,Nat.reduceEqDiff,reduceCtorEq,↓evP,rpC,Nat.reduceAdd,Nat.reduceLT],by simp only[evC,↓reduceIte,Nat.reduceEqDiff,reduceCtorEq,↓evP,rpC,Nat.reduceAdd,Nat.reduceLT];rfl,rfl,by omega,fun j hj=>by omega⟩
  ·rintro i ⟨T1,H1⟩ hi ⟨t0,t1,t12,t13,hh,hil,hsame⟩
   simp only at t0 t1 t12 t13 hh
   subst hh
   by_cases hlt:i<A.length
   ·have c1:decide ((i:Int)<(A.length:Int))=true:=by simp;omega
    obtain⟨x,hx⟩:∃ x,A[i]?=some x:=⟨_,List.getElem?_eq_getElem hlt⟩
    obtain⟨y,hy⟩:∃ y,B[i]?=some y:=⟨_,List.getElem?_eq_getElem (by omega)⟩
    obtain⟨ida,pa,ea,_,xa⟩:=Ja3 hx ha
    obtain⟨idb,pb,eb,_,xb⟩:=Ja3 hy hb
    have w1:IntKind.i64.wrap ((i:Int)+1)=((i+1:Nat):Int):=J0s (by omega) (by omega)
    simp only[evC,seval,↓evP,t0,t1,t12,t13,c1]
    refine WK.flags (ops:=Jmu) Jms ?_
    refine WKF.begin ?_
    have FF:=aQ @t0 (aQ @t1 (aQ @t12 (aQ @t13 (aQ @ea (aQ @eb (aQ @J0d (aQ @xa (aQ @xb @J26))))))))
    refine wst hsn 0 (some 16) (.move (.tmp 0)) none ?_
    simp only[rgC,seval,J04,J02,WKFC,FF]
    refine wst hsn 1 (some 17) (.move (.tmp 5)) none ?_
    simp only[rgC,seval,J04,J02,WKFC,FF]
    refine wst hsn 2 (some 18) (.indexAddr 24 (.tmp 16) (.tmp 17)) none ?_
    simp only[rgC,seval,J04,J02,WKFC,Nat.zero_add,FF]
    refine wst hsn 3 (some 19) (.load 9 (.tmp 18)) none ?_
    simp only[rgC,seval,J04,J02,WKFC,rgL,FF]
    refine wst hsn 4 (some 20) (.move (.tmp 1)) none ?_
    simp only[rgC,seval,J04,J02,WKFC,FF]
    refine wst hsn 5 (some 21) (.move (.tmp 5)) none ?_
    simp only[rgC,seval,J04,J02,WKFC,FF]
    refine wst hsn 6 (some 22) (.indexAddr 24 (.tmp 20) (.tmp 21)) none ?_
    simp only[rgC,seval,J04,J02,WKFC,Nat.zero_add,FF]
    refine wst hsn 7 (some 23) (.load 9 (.tmp 22)) none ?_
    simp only[rgC,seval,J04,J02,WKFC,rgL,FF]
    refine wst hsn 8 (some 24) (.binOp .neq 9 (.tmp 19) (.tmp 23) 9) none ?_
    simp only[rgC,seval,J04,J02,WKFC,rgB,FF]
    refine WKF.done (i:=9) (by kernel_rfl) ?_
    clear FF
    cases e:(!(x==y)) with
    | true=>
     have hne:A≠B:=fun h9=>by
      subst h9
      rw[hx] at hy
      cases hy
      rw[J34] at e;cases e
     rw[decide_eq_false hne]
     simp only[evC,seval,↓evP,hr,e]
    | false=>
     have hxy:x=y:=J3o (by simpa using e)
     simp only[evC,seval,↓evP,t0,t1,t12,t13,e,w1]
     refine⟨by omega,by omega,fun j hj=>?_⟩
     rcases Nat.lt_or_ge j i with h1 | h1
     ·exact hsame j h1
     ·have:j=i:=by omega
      subst this
      rw[hx,hy,hxy]
   ·have c1:decide ((i:Int)<(A.length:Int))=false:=by simp;omega
    have:i=A.length:=by omega
    subst this
    have hAB:A=B:=J4S hlen hsame
    rw[decide_eq_true hAB]
    simp only[evC,seval,↓evP,hr,t0,t1,t12,t13,c1]
theorem JmZ {n:Nat} {h:SHeap} {va vb:Value} {A B:List ByteArray} {la lb:Nat} (ha:J0p la h va A.length 1 (strs A)) (hb:J0p lb h vb B.length 1 (strs B)) (hl:A.length<1000000000) (hn:A.length+5<n):J0T n 58 [va,vb] h=some (.bool (decide (A=B)),h):=by
 obtain⟨n,rfl⟩:∃ j,n=j+1:=⟨n-1,by omega⟩
 exact J6r (J13 ⟨rfl,rfl,rfl⟩) rfl (Jmf (J1z n).2 ha hb (by omega) (by omega))
noncomputable def Jmy:Array Oper:=J18 Tryz.f57 6
theorem Jmk:J1E Jmy=Jmj:=by kernel_rfl
set_option maxHeartbeats 4000000 in
theorem Jmc {call:J0r} {N:Nat} {h:SHeap} (hsn:J1G call) {va vb:Value} {A B:List (ByteArray × Bool)} {la lb:Nat} (ha:J0p la h va A.length 2 (J3S A)) (hb:J0p lb h vb B.length 2 (J3S B)) (hN:A.length+3<N) (hl:A.length<1099511627776):J0L Tryz.prog call N 57 [va,vb] h=some (.bool (decide (A=B)),h):=by
 refine J1m Tryz.func57 rfl (by simp[Tryz.f57]) ?_
 have hr:Tryz.f57.results.toList=[.tmp 4]:=rfl
 have lA:=fun h'=>JfC ha h'
 have lB:=fun h'=>JfC hb h'
 cases d:((A.length:Int) != (B.length:Int)) with
 | true=>
  have hne:A≠B:=fun e=>by subst e;simp at d
  rw[decide_eq_false hne]
  simp only[evC,↓reduceIte,Nat.reduceEqDiff,reduceCtorEq,↓evP,hr,lA,lB,d]
 | false=>
  have hlen:A.length=B.length:=by
   have h9:(A.length:Int)=(B.length:Int):=by simpa using d
   omega
  simp only[evC,↓reduceIte,Nat.reduceEqDiff,reduceCtorEq,↓evP,lA,lB,d]
  refine WK.loop (fun i s'=>s'.T.get 0=va∧s'.T.get 1=vb∧s'.T.get 12=iv A.length∧s'.T.get 13=iv i∧s'.h=h∧i≤A.length∧∀ j,j<i→A[j]?=B[j]?) A.length (by omega) ?_ ?_
  ·exact⟨by simp only[evC,↓reduceIte,Nat.reduceEqDiff,reduceCtorEq,↓evP,rpC,Nat.reduceAdd,Nat.reduceLT],by simp only[evC,↓reduceIte,Nat.reduceEqDiff,reduceCtorEq,↓evP,rpC,Nat.reduceAdd,Nat.reduceLT],by simp only[evC,↓reduceIte,Nat.reduceEqDiff,reduceCtorEq,↓evP,rpC,Nat.reduceAdd,Nat.reduceLT],by simp only[evC,↓reduceIte,Nat.reduceEqDiff,reduceCtorEq,↓evP,rpC,Nat.reduceAdd,Nat.reduceLT];rfl,rfl,by omega,fun j hj=>by omega⟩
  ·rintro i ⟨T1,H1⟩ hi ⟨t0,t1,t12,t13,hh,hil,hsame⟩
   simp only at t0 t1 t12 t13 hh
   subst hh
   by_cases hlt:i<A.length
   ·have c1:decide ((i:Int)<(A.length:Int))=true:=by simp;omega
    obtain⟨x,hx⟩:∃ x,A[i]?=some x:=⟨_,List.getElem?_eq_getElem hlt⟩
    obtain⟨y,hy⟩:∃ y,B[i]?=some y:=⟨_,List.getElem?_eq_getElem (by omega)⟩
    obtain⟨ida,pa,ea,_,xa⟩:=J8S hx ha
    obtain⟨idb,pb,eb,_,xb⟩:=J8S hy hb
    have w1:IntKind.i64.wrap ((i:Int)+1)=((i+1:Nat):Int):=J0s (by omega) (by omega)
    simp only[evC,seval,↓evP,t0,t1,t12,t13,c1]
    refine WK.flags (ops:=Jmy) Jmk ?_
    refine WKF.begin ?_
    have FF:=aQ @t0 (aQ @t1 (aQ @t12 (aQ @t13 (aQ @ea (aQ @eb (aQ @J3z (aQ @xa (aQ @xb @J6H))))))))
    refine wst hsn 0 (some 16) (.move (.tmp 0)) none ?_
    simp only[rgC,seval,J04,J02,WKFC,FF]
    refine wst hsn 1 (some 17) (.move (.tmp 5)) none ?_
    simp only[rgC,seval,J04,J02,WKFC,FF]
    refine wst hsn 2 (some 18) (.indexAddr 23 (.tmp 16) (.tmp 17)) none ?_
    simp only[rgC,seval,J04,J02,WKFC,Nat.zero_add,FF]
    refine wst hsn 3 (some 19) (.load 75 (.tmp 18)) none ?_
    simp only[rgC,seval,J04,J02,WKFC,rgL,FF]
    refine wst hsn 4 (some 20) (.move (.tmp 1)) none ?_
    simp only[rgC,seval,J04,J02,WKFC,FF]
    refine wst hsn 5 (some 21) (.move (.tmp 5)) none ?_
    simp only[rgC,seval,J04,J02,WKFC,FF]
    refine wst hsn 6 (some 22) (.indexAddr 23 (.tmp 20) (.tmp 21)) none ?_
    simp only[rgC,seval,J04,J02,WKFC,Nat.zero_add,FF]
    refine wst hsn 7 (some 23) (.load 75 (.tmp 22)) none ?_
    simp only[rgC,seval,J04,J02,WKFC,rgL,FF]
    refine wst hsn 8 (some 24) (.binOp .neq 75 (.tmp 19) (.tmp 23) 75) none ?_
    simp only[rgC,seval,J04,J02,WKFC,rgB,FF]
    refine WKF.done (i:=9) (by kernel_rfl) ?_
    clear FF
    cases e:(!(x.1==y.1&&x.2==y.2)) with
    | true=>
     have hne:A≠B:=fun h9=>by
      subst h9
      rw[hx] at hy
      cases hy
      rw[J34] at e;simp at e
     rw[decide_eq_false hne]
     simp only[evC,seval,↓evP,hr,e]
    | false=>
     have hxy:x=y:=(by simp only[Bool.not_eq_false',Bool.and_eq_true] at e;exact Prod.ext (J3o e.1) (by simpa using e.2))
     simp only[evC,seval,↓evP,t0,t1,t12,t13,e,w1]
     refine⟨by omega,by omega,fun j hj=>?_⟩
     rcases Nat.lt_or_ge j i with h1 | h1
     ·exact hsame j h1
     ·have:j=i:=by omega
      subst this
      rw[hx,hy,hxy]
   ·have c1:decide ((i:Int)<(A.length:Int))=false:=by simp;omega
    have:i=A.length:=by omega
    subst this
    have hAB:A=B:=J4S hlen hsame
    rw[decide_eq_true hAB]
    simp only[evC,seval,↓evP,hr,t0,t1,t12,t13,c1]
theorem Jnt {n:Nat} {h:SHeap} {va vb:Value} {A B:List (ByteArray × Bool)} {la lb:Nat} (ha:J0p la h va A.length 2 (J3S A)) (hb:J0p lb h vb B.length 2 (J3S B)) (hl:A.length<1000000000) (hn:A.length+5<n):J0T n 57 [va,vb] h=some (.bool (decide (A=B)),h):=by
 obtain⟨n,rfl⟩:∃ j,n=j+1:=⟨n-1,by omega⟩
 exact J6r (J13 ⟨rfl,rfl,rfl⟩) rfl (Jmc (J1z n).2 ha hb (by omega) (by omega))
theorem Jn4 {h:SHeap} {v:Value} {l:List RowN} (hv:J0l h v l) (h':SHeap):lenS Tryz.prog h' 22 v=some (iv (l.length:Int)):=hv.len
noncomputable def Jmw:Array Oper:=J18 Tryz.f56 6
theorem Jmn:J1E Jmw=Jmj:=by kernel_rfl
set_option maxHeartbeats 4000000 in
theorem Jm6 {call:J0r} {N:Nat} {h:SHeap} (hsn:J1G call) {va vb:Value} {A B:List RowN} (ha:J0l h va A) (hb:J0l h vb B) (hN:A.length+3<N) (hl:A.length<1099511627776):J0L Tryz.prog call N 56 [va,vb] h=some (.bool (decide (A=B)),h):=by
 refine J1m Tryz.func56 rfl (by simp[Tryz.f56]) ?_
 have hr:Tryz.f56.results.toList=[.tmp 4]:=rfl
 have lA:=fun h'=>Jn4 ha h'
 have lB:=fun h'=>Jn4 hb h'
 cases d:((A.length:Int) != (B.length:Int)) with
 | true=>
  have hne:A≠B:=fun e=>by subst e;simp at d
  rw[decide_eq_false hne]
  simp only[evC,↓reduceIte,Nat.reduceEqDiff,reduceCtorEq,↓evP,hr,lA,lB,d]
 | false=>
  have hlen:A.length=B.length:=by
   have h9:(A.length:Int)=(B.length:Int):=by simpa using d
   omega
  simp only[evC,↓reduceIte,Nat.reduceEqDiff,reduceCtorEq,↓evP,lA,lB,d]
  refine WK.loop (fun i s'=>s'.T.get 0=va∧s'.T.get 1=vb∧s'.T.get 12=iv A.length∧s'.T.get 13=iv i∧s'.h=h∧i≤A.length∧∀ j,j<i→A[j]?=B[j]?) A.length (by omega) ?_ ?_
  ·exact⟨by simp only[evC,↓reduceIte,Nat.reduceEqDiff,reduceCtorEq,↓evP,rpC,Nat.reduceAdd,Nat.reduceLT],by simp only[evC,↓reduceIte,Nat.reduceEqDiff,reduceCtorEq,↓evP,rpC,Nat.reduceAdd,Nat.reduceLT],by simp only[evC,↓reduceIte,Nat.reduceEqDiff,reduceCtorEq,↓evP,rpC,Nat.reduceAdd,Nat.reduceLT],by simp only[evC,↓reduceIte,Nat.reduceEqDiff,reduceCtorEq,↓evP,rpC,Nat.reduceAdd,Nat.reduceLT];rfl,rfl,by omega,fun j hj=>by omega⟩
  ·rintro i ⟨T1,H1⟩ hi ⟨t0,t1,t12,t13,hh,hil,hsame⟩
   simp only at t0 t1 t12 t13 hh
   subst hh
   by_cases hlt:i<A.length
   ·have c1:decide ((i:Int)<(A.length:Int))=true:=by simp;omega
    obtain⟨x,hx⟩:∃ x,A[i]?=some x:=⟨_,List.getElem?_eq_getElem hlt⟩
    obtain⟨y,hy⟩:∃ y,B[i]?=some y:=⟨_,List.getElem?_eq_getElem (by omega)⟩
    obtain⟨ida,pa,ea,_,_,_,_,_,_,xa9⟩:=J0l.row ha hx
    have xa:ldN 5 pa (H1.get ida)=some (rowV x):=xa9
    obtain⟨idb,pb,eb,_,_,_,_,_,_,xb9⟩:=J0l.row hb hy
    have xb:ldN 5 pb (H1.get idb)=some (rowV y):=xb9
    have w1:IntKind.i64.wrap ((i:Int)+1)=((i+1:Nat):Int):=J0s (by omega) (by omega)
    simp only[evC,seval,↓evP,t0,t1,t12,t13,c1]
    refine WK.flags (ops:=Jmw) Jmn ?_
    refine WKF.begin ?_
    have FF:=aQ @t0 (aQ @t1 (aQ @t12 (aQ @t13 (aQ @ea (aQ @eb (aQ @J0u (aQ @xa (aQ @xb @J6U))))))))
    refine wst hsn 0 (some 16) (.move (.tmp 0)) none ?_
    simp only[rgC,seval,J04,J02,WKFC,FF]
    refine wst hsn 1 (some 17) (.move (.tmp 5)) none ?_
    simp only[rgC,seval,J04,J02,WKFC,FF]
    refine wst hsn 2 (some 18) (.indexAddr 22 (.tmp 16) (.tmp 17)) none ?_
    simp only[rgC,seval,J04,J02,WKFC,Nat.zero_add,FF]
    refine wst hsn 3 (some 19) (.load 60 (.tmp 18)) none ?_
    simp only[rgC,seval,J04,J02,WKFC,rgL,FF]
    refine wst hsn 4 (some 20) (.move (.tmp 1)) none ?_
    simp only[rgC,seval,J04,J02,WKFC,FF]
    refine wst hsn 5 (some 21) (.move (.tmp 5)) none ?_
    simp only[rgC,seval,J04,J02,WKFC,FF]
    refine wst hsn 6 (some 22) (.indexAddr 22 (.tmp 20) (.tmp 21)) none ?_
    simp only[rgC,seval,J04,J02,WKFC,Nat.zero_add,FF]
    refine wst hsn 7 (some 23) (.load 60 (.tmp 22)) none ?_
    simp only[rgC,seval,J04,J02,WKFC,rgL,FF]
    refine wst hsn 8 (some 24) (.binOp .neq 60 (.tmp 19) (.tmp 23) 60) none ?_
    simp only[rgC,seval,J04,J02,WKFC,rgB,FF]
    refine WKF.done (i:=9) (by kernel_rfl) ?_
    clear FF
    cases e:(!(J5z x y)) with
    | true=>
     have hne:A≠B:=fun h9=>by
      subst h9
      rw[hx] at hy
      cases hy
      rw[J6E.2 rfl] at e;cases e
     rw[decide_eq_false hne]
     simp only[evC,seval,↓evP,hr,e]
    | false=>
     have hxy:x=y:=J6E.1 (by simpa using e)
     simp only[evC,seval,↓evP,t0,t1,t12,t13,e,w1]
     refine⟨by omega,by omega,fun j hj=>?_⟩
     rcases Nat.lt_or_ge j i with h1 | h1
     ·exact hsame j h1
     ·have:j=i:=by omega
      subst this
      rw[hx,hy,hxy]
   ·have c1:decide ((i:Int)<(A.length:Int))=false:=by simp;omega
    have:i=A.length:=by omega
    subst this
    have hAB:A=B:=J4S hlen hsame
    rw[decide_eq_true hAB]
    simp only[evC,seval,↓evP,hr,t0,t1,t12,t13,c1]
theorem Jnu {n:Nat} {h:SHeap} {va vb:Value} {A B:List RowN} (ha:J0l h va A) (hb:J0l h vb B) (hl:A.length<1000000000) (hn:A.length+5<n):J0T n 56 [va,vb] h=some (.bool (decide (A=B)),h):=by
 obtain⟨n,rfl⟩:∃ j,n=j+1:=⟨n-1,by omega⟩
 exact J6r (J13 ⟨rfl,rfl,rfl⟩) rfl (Jm6 (J1z n).2 ha hb (by omega) (by omega))
theorem JhO {l:List RowN} (h:(resN l).1.1=0):J2c l∧(J0v l).1=0∧(goN (J0o l) l.length 0 (s0N l)).1=0∧¬ J2K (goN (J0o l) l.length 0 (s0N l)).2.2.rows (J0o l) (goN (J0o l) l.length 0 (s0N l)).2.2.rules≥0 ∧
  resN l=((0,0),(goN (J0o l) l.length 0 (s0N l)).2.2)∧InvR l l.length (resN l).2:=by
 by_cases h1:(J0v l).1≠0
 ·unfold resN at h
  rw[if_pos h1] at h
  exact absurd h h1
 ·by_cases h2:(goN (J0o l) l.length 0 (s0N l)).1≠0
  ·unfold resN at h
   rw[if_neg h1] at h
   simp only at h
   rw[if_pos h2] at h
   exact absurd h h2
  ·by_cases h3:J2K (goN (J0o l) l.length 0 (s0N l)).2.2.rows (J0o l) (goN (J0o l) l.length 0 (s0N l)).2.2.rules≥0
   ·unfold resN at h
    rw[if_neg h1] at h
    simp only at h
    rw[if_neg h2,if_pos h3] at h
    cases h
   ·have e1:(J0v l).1=0:=by simpa using h1
    have e2:(goN (J0o l) l.length 0 (s0N l)).1=0:=by simpa using h2
    have e:resN l=((0,0),(goN (J0o l) l.length 0 (s0N l)).2.2):=by
     unfold resN
     rw[if_neg h1]
     simp only
     rw[if_neg h2,if_neg h3]
    have ht:=J8d (J5d e1)
    refine⟨ht,e1,e2,h3,e,?_⟩
    rw[e]
    exact JfJ ht J3T l.length 0 (s0N l) (by omega) (inv0 l) e2
theorem JeO {l:List RowN} (h:(resN l).1.1=0):outN l=(J52 l,(resN l).2):=by unfold outN;rw[if_neg (by rw[h];simp)]
end Go.Proofs.YtdejoodfeljmkaaGreatDoor
