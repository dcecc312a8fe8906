/- Part 16 of what the claim leans on: 12 texts laid one behind another. -/
import Derived.Test.YtipekdhneagdbaaDoorV15
import Derived.OpenShut
import Derived.WalkKit
import Derived.Carry
import Derived.ChangeArms
namespace Go.Proofs.YtipekdhneagdbaaDoor
open Go Go.Sx Go.ChangeShapes Go.WideShapes Go.ChangeAt Go.RowKit
set_option maxRecDepth 100000
set_option linter.unusedSimpArgs false
set_option linter.unusedVariables false
theorem J9Y : Tryd.prog.cellsOf 46 = 5 := by kernel_rfl
theorem Jag : Tryd.prog.cellsOf 3 = 1 := by kernel_rfl
theorem Jhu : Tryd.prog.cellsOf 9 = 1 := by kernel_rfl
def Jd7 (x : RowN) : Prop := (-9223372036854775808 ≤ x.kind ∧ x.kind ≤ 9223372036854775807) ∧ (-9223372036854775808 ≤ x.ends ∧ x.ends ≤ 9223372036854775807) ∧ (-9223372036854775808 ≤ x.n ∧ x.n ≤ 9223372036854775807) ∧ (-9223372036854775808 ≤ x.kids ∧ x.kids ≤ 9223372036854775807)
section
variable {H : Type} {enc : TypeId × Value → H} {W : World} {base : Nat} {sp : Nat → Bool} {hd : Bool}
theorem JcH {n : Nat} {cs : List Value} {y : DataW H × List MemPlace} (h : DataW.trod enc Tryd.prog W base sp hd n 46 cs = some y) : ∃ x : RowN, cs = J0e x ∧ Jd7 x := by
 obtain ⟨xs, m, _, _, hl, hxl, hf⟩ := DataW.trod_struct Tryd.underlying46 h
 rw [J9Y] at hl
 obtain ⟨c0, c1, c2, c3, c4, rfl⟩ : ∃ c0 c1 c2 c3 c4, cs = [c0, c1, c2, c3, c4] := by
  match cs, hl with
  | [a, b, c, d, e], _ => exact ⟨a, b, c, d, e, rfl⟩
 have hxl : xs.length = 5 := hxl
 have g : ∀ i, i < 5 → ∃ y, xs[i]? = some y := fun i hi => ⟨_, List.getElem?_eq_getElem (by omega)⟩
 obtain ⟨y0, e0⟩ := g 0 (by omega)
 obtain ⟨y1, e1⟩ := g 1 (by omega)
 obtain ⟨y2, e2⟩ := g 2 (by omega)
 obtain ⟨y3, e3⟩ := g 3 (by omega)
 obtain ⟨y4, e4⟩ := g 4 (by omega)
 have f0 : DataW.trod enc Tryd.prog W base sp hd m 3 (([c0, c1, c2, c3, c4].drop 0).take (Tryd.prog.cellsOf 3)) = xs[0]? := hf 0 _ rfl
 rw [Jag, e0] at f0
 have f1 : DataW.trod enc Tryd.prog W base sp hd m 9 (([c0, c1, c2, c3, c4].drop 1).take (Tryd.prog.cellsOf 9)) = xs[1]? := hf 1 _ rfl
 rw [Jhu, e1] at f1
 have f2 : DataW.trod enc Tryd.prog W base sp hd m 3 (([c0, c1, c2, c3, c4].drop 2).take (Tryd.prog.cellsOf 3)) = xs[2]? := hf 2 _ rfl
 rw [Jag, e2] at f2
 have f3 : DataW.trod enc Tryd.prog W base sp hd m 3 (([c0, c1, c2, c3, c4].drop 3).take (Tryd.prog.cellsOf 3)) = xs[3]? := hf 3 _ rfl
 rw [Jag, e3] at f3
 have f4 : DataW.trod enc Tryd.prog W base sp hd m 3 (([c0, c1, c2, c3, c4].drop 4).take (Tryd.prog.cellsOf 3)) = xs[4]? := hf 4 _ rfl
 rw [Jag, e4] at f4
 obtain ⟨a, ha, _, wa⟩ := DataW.trod_int Tryd.underlying3 f0
 obtain ⟨b, hb, _, wb⟩ := DataW.trod_string Tryd.underlying9 f1
 obtain ⟨c, hc, _, wc⟩ := DataW.trod_int Tryd.underlying3 f2
 obtain ⟨d, hd, _, wd⟩ := DataW.trod_int Tryd.underlying3 f3
 obtain ⟨e, he, _, we⟩ := DataW.trod_int Tryd.underlying3 f4
 cases ha
 cases hb
 cases hc
 cases hd
 cases he
 exact ⟨⟨a, b, c, d, e⟩, rfl, bounds_i64 wa, bounds_i64 wc, bounds_i64 wd, bounds_i64 we⟩
end
theorem J9W {b off k : Nat} : (⟨b, off, none⟩ : Addr).add k = ⟨b, off + k, none⟩ := by
 unfold Addr.add
 split
 ·rename_i e; subst e; rfl
 ·rfl
theorem Jen {W : World} {base b off n : Nat} {cs : List Value} (h : W.cells? base ⟨b, off, none⟩ n = some cs) : cs.length = n ∧ ∀ i, i < n → W.cell? ⟨b, off + i, none⟩ = cs[i]? := by
 unfold World.cells? at h
 split at h
 ·refine ⟨by simpa using mapM_some_length h, fun i hi => ?_⟩
  have := mapM_some_get h i i (by simp [hi])
  rw [← this, J9W]
 ·cases h
def JhL (W : World) (v : Value) (l : List RowN) : Prop := (∀ x ∈ l, Jd7 x) ∧ ((v = .slice none 0 0 ∧ l = []) ∨
 ∃ b off cap CS ty fr, v = .slice (some ⟨b, off, none⟩) l.length cap ∧ l.length ≤ cap ∧ cap < unk ∧ W.heap[b]? = some (.cells CS ty fr) ∧ ∀ (k : Nat) x, l[k]? = some x → ∀ j, j < 5 → CS[off + k * 5 + j]? = (J0e x)[j]?)
theorem JgT {H : Type} {enc : TypeId × Value → H} {W : World} {base : Nat} {v : Value} {d : DataW H} {p : List MemPlace} (hval : Value.okWide Tryd.prog W .any base 22 v) (h : DataW.Trod enc Tryd.prog W 0 (fun _ => true) true 22 v d p) :
  ∃ l : List RowN, JhL W v l := by
 obtain ⟨a, len, cap, rfl⟩ := okWide_slice Tryd.underlying22 hval
 obtain ⟨fuel, hf⟩ := h
 have hcs : (Value.slice a len cap).cells.toList = [Value.slice a len cap] := rfl
 rw [hcs] at hf
 rcases DataW.trod_slice Tryd.underlying22 hf with ⟨h1, h2⟩ | ⟨a', len', cap', elems, rest, n, _, h1, _, hb, hl, hm, hlen, hel, _⟩
 ·cases h1
  exact ⟨[], fun x hx => (by cases hx), .inl ⟨rfl, rfl⟩⟩
 ·cases h1
  have hk : Value.okWide Tryd.prog W .any base 22 (.slice (some a') len cap) := hval
  simp only [Value.okWide, Tryd.underlying22, Cell.okWide, Cell.ok] at hk
  obtain ⟨_, _, _, hsp, row, cells, hsh, _⟩ := hk
  obtain ⟨b, off, spot⟩ := a'
  simp only at hsp
  subst hsp
  have hblk : ∃ CS ty fr, W.heap[b]? = some (.cells CS ty fr) := by
   simp only [World.shape?] at hsh
   split at hsh
   ·rename_i CS ty fr hh; exact ⟨_, _, _, hh⟩
   ·cases hsh
  obtain ⟨CS, ty, fr, hblk⟩ := hblk
  have each : ∀ i, i < len → ∃ x : RowN, Jd7 x ∧ ∀ j, j < 5 → CS[off + i * 5 + j]? = (J0e x)[j]? := fun i hi => by
   have := hel i hi
   obtain ⟨y, hy⟩ : ∃ y, elems[i]? = some y := ⟨_, List.getElem?_eq_getElem (by omega)⟩
   rw [hy, J9W, J9Y, Option.bind_eq_some_iff] at this
   obtain ⟨cs, hcs, ht⟩ := this
   obtain ⟨x, rfl, hx⟩ := JcH ht
   obtain ⟨_, hc⟩ := Jen hcs
   refine ⟨x, hx, fun j hj => ?_⟩
   rw [← hc j hj]
   simp only [World.cell?, hblk, Option.isSome_none, Bool.false_eq_true, if_false]
  obtain ⟨l, hll, hl1⟩ : ∃ l : List RowN, l.length = len ∧ ∀ i x, l[i]? = some x → Jd7 x ∧ ∀ j, j < 5 → CS[off + i * 5 + j]? = (J0e x)[j]? := by
   have : ∀ m, m ≤ len → ∃ l : List RowN, l.length = m ∧ ∀ i x, l[i]? = some x → Jd7 x ∧ ∀ j, j < 5 → CS[off + i * 5 + j]? = (J0e x)[j]? := by
    intro m
    induction m with
    | zero => exact fun _ => ⟨[], rfl, fun i x h => by simp at h⟩
    | succ m ih =>
     intro hm
     obtain ⟨l, h1, h2⟩ := ih (by omega)
     obtain ⟨x, hx⟩ := each m (by omega)
     refine ⟨l ++ [x], by simp [h1], fun i y hy => ?_⟩
     rcases Nat.lt_or_ge i l.length with h3 | h3
     ·rw [List.getElem?_append_left h3] at hy
      exact h2 i y hy
     ·rw [List.getElem?_append_right h3] at hy
      have : i - l.length = 0 := by
       rcases Nat.eq_zero_or_pos (i - l.length) with h4 | h4
       ·exact h4
       ·rw [List.getElem?_eq_none (by simp; omega)] at hy
        cases hy
      rw [this] at hy
      cases hy
      have : i = m := by omega
      subst this
      exact hx
   exact this len (Nat.le_refl _)
  unfold maxLen at hm
  refine ⟨l, fun x hx => ?_, .inr ⟨b, off, cap, CS, ty, fr, by rw [hll], by omega, by unfold unk; omega, hblk, fun k x hk => (hl1 k x hk).2⟩⟩
  obtain ⟨i, hi⟩ := List.getElem?_of_mem hx
  exact (hl1 i x hi).1
def Jik (l : List RowN) : SHeap := ⟨2, 0, .node (.row J5v 9 false true) (.node (.row (l.flatMap J0e) 46 false true) .leaf .leaf) .leaf⟩
theorem J6t : ∀ {l : List RowN} {i : Nat} {v : Value}, (l.flatMap J0e)[i]? = some v → ∃ x, l[i / 5]? = some x ∧ (J0e x)[i % 5]? = some v
 | [], i, v, h => by simp at h
 | x :: l, i, v, h => by
  rw [List.flatMap_cons] at h
  have h5 : (J0e x).length = 5 := rfl
  rcases Nat.lt_or_ge i 5 with h1 | h1
  ·rw [List.getElem?_append_left (by omega)] at h
   exact ⟨x, by rw [Nat.div_eq_of_lt h1]; rfl, by rw [Nat.mod_eq_of_lt h1]; exact h⟩
  ·rw [List.getElem?_append_right (by omega), h5] at h
   obtain ⟨y, h2, h3⟩ := J6t h
   refine ⟨y, ?_, ?_⟩
   ·rw [show i / 5 = (i - 5) / 5 + 1 by omega]
    exact h2
   ·rw [show i % 5 = (i - 5) % 5 by omega]
    exact h3
theorem J7Q {x : RowN} {j : Nat} {v : Value} (h : (J0e x)[j]? = some v) : J1i v = true := by
 match j, h with
 | 0, h => cases h; rfl
 | 1, h => cases h; rfl
 | 2, h => cases h; rfl
 | 3, h => cases h; rfl
 | 4, h => cases h; rfl
theorem relR {W : World} (h : laidMetH Tryd.prog [("winnow/lex.words", Rows.laid_winnow_lex_words)] W) {v : Value} {l : List RowN} (hv : JhL W v l) :
  ∃ hp ρ sv, Rel Tryd.prog ρ hp W ∧ (∀ i, ¬ wr (hp.get i)) ∧ vrel ρ sv v ∧ J0l hp sv l ∧ hp.good ∧ hp.floor = 0 ∧ hp.get 0 = J14 ∧ 0 < hp.next := by
 obtain ⟨hin, hor⟩ := hv
 rcases hor with ⟨rfl, rfl⟩ | ⟨b, off, cap, CS, ty, fr, rfl, hcp, hc, hb, hall⟩
 ·obtain ⟨hR, hw⟩ := rel0 h
  exact ⟨Jfv, map0, .slice none 0 0, hR, hw, .flat rfl, ⟨none, 0, rfl, .inl ⟨rfl, rfl⟩⟩, rfl, rfl, rfl, by decide⟩
 ·obtain ⟨CS0, ty0, fr0, hb0, hcs0⟩ := J5Q (zs := J2D) (rest := []) JfI J7e Tryd.underlying145 Tryd.underlying9 JfP J7w h
  have hro := Jcz (P := Tryd.prog) (W := W) (ρ := fun i => if i = 0 then some ⟨0, 0, 0, 0⟩ else if i = 1 then some ⟨b, off, 0, 0⟩ else none) (h := Jik l) rfl (fun i hi => by
    have : 2 ≤ i := hi
    rw [if_neg (by omega), if_neg (by omega)]) (fun g hg => by
    rw [Jg1] at hg
    obtain rfl : g = 0 := by omega
    exact ⟨_, rfl, rfl, rfl⟩) (fun i hi => by
    have hi' : i < 2 := hi
    rcases (show i = 0 ∨ i = 1 by omega) with rfl | rfl
    ·refine ⟨J5v, 9, false, ⟨0, 0, 0, 0⟩, CS0, ty0, fr0, rfl, rfl, hb0, fun k v hv => ⟨v, ?_, ?_⟩⟩
     ·have : CS0.toList[k]? = some v := by rw [hcs0]; exact hv
      simpa using this
     ·have hm : v ∈ J5v := List.mem_of_getElem? hv
      obtain ⟨z, _, rfl⟩ := List.mem_map.1 hm
      exact .flat rfl
    ·refine ⟨l.flatMap J0e, 46, false, ⟨b, off, 0, 0⟩, CS, ty, fr, rfl, rfl, hb, fun k v hv => ?_⟩
     obtain ⟨x, hx, hv'⟩ := J6t hv
     refine ⟨v, ?_, .flat (J7Q hv')⟩
     have := hall (k / 5) x hx (k % 5) (Nat.mod_lt _ (by decide))
     rw [hv'] at this
     rw [← this]
     congr 1
     show off + k = _
     have := Nat.div_add_mod k 5
     omega)
  refine ⟨Jik l, _, .slice (some ⟨1, 0, none⟩) l.length cap, hro.1, hro.2, ?_, ?_, rfl, rfl, rfl, (show 0 < 2 by decide)⟩
  ·exact vrel.slice (L := ⟨b, off, 0, 0⟩) rfl hc
  ·refine ⟨_, _, rfl, .inr ⟨1, 0, _, _, _, _, rfl, rfl, (show 1 < 2 by decide), fun k r hk => ?_⟩⟩
   rw [Nat.zero_add]
   exact J2Y hk
end Go.Proofs.YtipekdhneagdbaaDoor
namespace Go.Proofs.YtipekdhneagdbaaDoor
open Go Go.Sx
set_option maxRecDepth 100000
set_option linter.unusedSimpArgs false
set_option linter.unusedVariables false
def J5z (a b : RowN) : Bool := a.kind == b.kind && (a.name == b.name && (a.ends == b.ends && (a.n == b.n && a.kids == b.kids)))
theorem eqs {P : Program} {t : TypeId} {a b : ByteArray} (h : P.underlying t = some .string) (d : Nat) : J0k P (Op.equalIn (d + 1) t (.string a) (.string b)) = some (a == b) := by
 rw [Op.equalIn, J0c, J1R h]
 simp [J0C]
theorem JdG : Tryd.prog.eqGuardType Tryd.prog.depth 46 = false := by kernel_rfl
theorem JfU : Tryd.prog.stoodInHeld 46 = false := by kernel_rfl
theorem J3f {a c d e : Int} {b : ByteArray} : J0k Tryd.prog (part 3 #[.int .i64 a, .string b, .int .i64 c, .int .i64 d, .int .i64 e] 0) = some (.int .i64 a) ∧ J0k Tryd.prog (part 9 #[.int .i64 a, .string b, .int .i64 c, .int .i64 d, .int .i64 e] 1) = some (.string b) ∧ J0k Tryd.prog (part 3 #[.int .i64 a, .string b, .int .i64 c, .int .i64 d, .int .i64 e] 2) = some (.int .i64 c) ∧
  J0k Tryd.prog (part 3 #[.int .i64 a, .string b, .int .i64 c, .int .i64 d, .int .i64 e] 3) = some (.int .i64 d) ∧ J0k Tryd.prog (part 3 #[.int .i64 a, .string b, .int .i64 c, .int .i64 d, .int .i64 e] 4) = some (.int .i64 e) := ⟨rfl, rfl, rfl, rfl, rfl⟩
theorem Jgj {a b : RowN} (n : Nat) : J0k Tryd.prog (Op.equalIn (n + 2) 46 (rowV a) (rowV b)) = some (J5z a b) := by
 obtain ⟨a1, a2, a3, a4, a5⟩ := a
 obtain ⟨b1, b2, b3, b4, b5⟩ := b
 show J0k Tryd.prog (Op.equalIn (n + 2) 46 (.agg #[.int .i64 a1, .string a2, .int .i64 a3, .int .i64 a4, .int .i64 a5]) (.agg #[.int .i64 b1, .string b2, .int .i64 b3, .int .i64 b4, .int .i64 b5])) = some (a1 == b1 && (a2 == b2 && (a3 == b3 && (a4 == b4 && a5 == b5))))
 rw [Op.equalIn, J0c, J1R Tryd.underlying46]
 simp only [Option.bind_some, J0c, J1a, JfU, Bool.false_eq_true, if_false, J0C]
 simp only [List.forIn_toArray, List.forIn_cons, List.forIn_nil, ne_eq, String.reduceEq, not_false_eq_true, if_true, J0c, J3f.1, J3f.2.1, J3f.2.2.1, J3f.2.2.2.1, J3f.2.2.2.2, Option.bind_some, eqi Tryd.underlying3, eqs Tryd.underlying9]
 cases h1 : (a1 == b1) <;> simp [J0c, J0C, J3f.1, J3f.2.1, J3f.2.2.1, J3f.2.2.2.1, J3f.2.2.2.2, eqi Tryd.underlying3, eqs Tryd.underlying9, h1, -beq_iff_eq, -beq_eq_false_iff_ne]
 cases h2 : (a2 == b2) <;> simp [J0c, J0C, J3f.1, J3f.2.1, J3f.2.2.1, J3f.2.2.2.1, J3f.2.2.2.2, eqi Tryd.underlying3, eqs Tryd.underlying9, h2, -beq_iff_eq, -beq_eq_false_iff_ne]
 cases h3 : (a3 == b3) <;> simp [J0c, J0C, J3f.1, J3f.2.1, J3f.2.2.1, J3f.2.2.2.1, J3f.2.2.2.2, eqi Tryd.underlying3, eqs Tryd.underlying9, h3, -beq_iff_eq, -beq_eq_false_iff_ne]
 cases h4 : (a4 == b4) <;> simp [J0c, J0C, J3f.1, J3f.2.1, J3f.2.2.1, J3f.2.2.2.1, J3f.2.2.2.2, eqi Tryd.underlying3, eqs Tryd.underlying9, h4, -beq_iff_eq, -beq_eq_false_iff_ne]
 cases h5 : (a5 == b5) <;> simp [J0c, J0C, h5, -beq_iff_eq, -beq_eq_false_iff_ne]
theorem J8z {a : RowN} : flat (rowV a) = true := rfl
section
variable {x y : Operand}
theorem JhG (op : BinOp) (neg : Bool) (hop : op = if neg then .neq else .eql) {a b : RowN} : binS Tryd.prog op 46 x y (rowV a) (rowV b) = some (.bool (if neg then !(J5z a b) else J5z a b)) := by
 have k : J0k Tryd.prog (Op.equal 46 (rowV a) (rowV b)) = some (J5z a b) := Jgj 9998
 cases neg with
 | true =>
  subst hop
  have e : J0k Tryd.prog (do eqGuard .neq 46 x y (rowV a) (rowV b); binOp .neq 46 (rowV a) (rowV b)) = some (.bool (!(J5z a b))) := by
   rw [J0c]
   have g : J0k Tryd.prog (eqGuard .neq 46 x y (rowV a) (rowV b)) = some () := by
    unfold eqGuard
    simp [J0c, J1a, J0C, JdG]
   rw [g]
   show J0k Tryd.prog ((do pure (.bool (!(← Op.equal 46 (rowV a) (rowV b))))) : Sem Value) = _
   rw [J0c, k]
   rfl
  simp only [binS, J8z, Bool.and_self, if_true, e, J2F]
 | false =>
  subst hop
  have e : J0k Tryd.prog (do eqGuard .eql 46 x y (rowV a) (rowV b); binOp .eql 46 (rowV a) (rowV b)) = some (.bool (J5z a b)) := by
   rw [J0c]
   have g : J0k Tryd.prog (eqGuard .eql 46 x y (rowV a) (rowV b)) = some () := by
    unfold eqGuard
    simp [J0c, J1a, J0C, JdG]
   rw [g]
   show J0k Tryd.prog ((do pure (.bool (← Op.equal 46 (rowV a) (rowV b)))) : Sem Value) = _
   rw [J0c, k]
   rfl
  simp only [Bool.false_eq_true, if_false, binS, J8z, Bool.and_self, if_true, e, J2F]
theorem J6U {a b : RowN} : binS Tryd.prog .neq 46 x y (rowV a) (rowV b) = some (.bool (!(J5z a b))) := JhG .neq true rfl
end
theorem Jcs {a b : ByteArray} : (a == b) = true ↔ a = b := by
 obtain ⟨a⟩ := a
 obtain ⟨b⟩ := b
 show (a == b) = true ↔ _
 rw [beq_iff_eq, ByteArray.mk.injEq]
theorem J6E {a b : RowN} : J5z a b = true ↔ a = b := by
 obtain ⟨a1, a2, a3, a4, a5⟩ := a
 obtain ⟨b1, b2, b3, b4, b5⟩ := b
 unfold J5z
 simp only [Bool.and_eq_true, beq_iff_eq, Jcs, RowN.mk.injEq]
theorem JfF {lo : Nat} {h : SHeap} {v : Value} {n w : Nat} {cs : List Value} (hc : J0p lo h v n w cs) (h' : SHeap) : lenS Tryd.prog h' 28 v = some (iv (n : Int)) := J0p.len hc Tryd.underlying28
theorem JfT {lo : Nat} {h : SHeap} {v : Value} {n w : Nat} {cs : List Value} (hc : J0p lo h v n w cs) (h' : SHeap) : lenS Tryd.prog h' 27 v = some (iv (n : Int)) := J0p.len hc Tryd.underlying27
theorem JfC {lo : Nat} {h : SHeap} {v : Value} {n w : Nat} {cs : List Value} (hc : J0p lo h v n w cs) (h' : SHeap) : lenS Tryd.prog h' 26 v = some (iv (n : Int)) := J0p.len hc Tryd.underlying26
theorem JfA {lo : Nat} {h : SHeap} {v : Value} {n w : Nat} {cs : List Value} (hc : J0p lo h v n w cs) (h' : SHeap) : lenS Tryd.prog h' 22 v = some (iv (n : Int)) := J0p.len hc Tryd.underlying22
theorem J4S {α : Type} {A B : List α} (hl : A.length = B.length) (h : ∀ j, j < A.length → A[j]? = B[j]?) : A = B := by
 apply List.ext_getElem?
 intro j
 rcases Nat.lt_or_ge j A.length with h1 | h1
 ·exact h j h1
 ·rw [List.getElem?_eq_none h1, List.getElem?_eq_none (by omega)]
noncomputable def J6w : Array Oper := J18 Tryd.f35 6
def JbT : List (Bool × Bool × List Operand) := [(false, true, []), (false, true, []), (false, true, []), (false, true, []), (false, true, [.tmp 19]), (false, true, [.tmp 19]), (false, true, [.tmp 19]), (false, true, [.tmp 19]), (false, false, [])]
theorem J7I : J1E J6w = JbT := by kernel_rfl
section
variable {call : J0r} {N : Nat} {h : SHeap}
set_option maxHeartbeats 4000000 in
theorem J7z (hsn : J1G call) {va vb : Value} {A B : List Int} {la lb : Nat} (ha : J1S la h va A) (hb : J1S lb h vb B) (hN : A.length + 3 < N) (hl : A.length < 1099511627776) : J0L Tryd.prog call N 35 [va, vb] h = some (.bool (decide (A = B)), h) := by
 refine J1m Tryd.func35 rfl (by simp [Tryd.f35]) ?_
 have hr : Tryd.f35.results.toList = [.tmp 4] := rfl
 have lA := fun h' => JfF ha h'
 have lB := fun h' => JfF hb h'
 cases d : ((A.length : Int) != (B.length : Int)) with
 | true =>
  have hne : A ≠ B := fun e => by subst e; simp at d
  rw [decide_eq_false hne]
  simp only [evC, ↓reduceIte, Nat.reduceEqDiff, reduceCtorEq, ↓evP, hr, lA, lB, d]
 | false =>
  have hlen : A.length = B.length := by
   have h9 : (A.length : Int) = (B.length : Int) := by simpa using d
   omega
  simp only [evC, ↓reduceIte, Nat.reduceEqDiff, reduceCtorEq, ↓evP, lA, lB, d]
  refine WK.loop (fun i s' => s'.T.get 0 = va ∧ s'.T.get 1 = vb ∧ s'.T.get 5 = iv i ∧ s'.h = h ∧ i ≤ A.length ∧ ∀ j, j < i → A[j]? = B[j]?) A.length (by omega) ?_ ?_
  ·simp only [evC, ↓reduceIte, Nat.reduceEqDiff, reduceCtorEq, ↓evP, rpC, Nat.reduceAdd, Nat.reduceLT]
   exact ⟨rfl, fun j hj => by omega⟩
  ·rintro i ⟨T1, H1⟩ hi ⟨t0, t1, t5, hh, hil, hsame⟩
   simp only at t0 t1 t5 hh
   subst hh
   by_cases hlt : i < A.length
   ·have c1 : decide ((i : Int) < (A.length : Int)) = true := by simp; omega
    obtain ⟨x, hx⟩ : ∃ x, A[i]? = some x := ⟨_, List.getElem?_eq_getElem hlt⟩
    obtain ⟨y, hy⟩ : ∃ y, B[i]? = some y := ⟨_, List.getElem?_eq_getElem (by omega)⟩
    obtain ⟨ida, pa, ea, _, xa⟩ := J1S.get ha hx
    obtain ⟨idb, pb, eb, _, xb⟩ := J1S.get hb hy
    have w1 : IntKind.i64.wrap ((i : Int) + 1) = ((i + 1 : Nat) : Int) := J0s (by omega) (by omega)
    simp only [evC, seval, ↓evP, t0, t1, t5, lA, c1]
    refine WK.flags (ops := J6w) J7I ?_
    refine WKF.begin ?_
    have FF := And.intro @t0 (And.intro @t1 (And.intro @t5 (And.intro @ea (And.intro @eb (And.intro @J0m (And.intro @xa (And.intro @xb @J4h)))))))
    refine wst hsn 0 (some 17) (.move (.tmp 0)) none ?_
    simp only [rgC, seval, J04, J02, WKFC, FF]
    refine wst hsn 1 (some 18) (.move (.tmp 5)) none ?_
    simp only [rgC, seval, J04, J02, WKFC, FF]
    refine wst hsn 2 (some 19) (.indexAddr 28 (.tmp 17) (.tmp 18)) none ?_
    simp only [rgC, seval, J04, J02, WKFC, Nat.zero_add, FF]
    refine wst hsn 3 (some 20) (.load 3 (.tmp 19)) none ?_
    simp only [rgC, seval, J04, J02, WKFC, rgL, FF]
    refine wst hsn 4 (some 21) (.move (.tmp 1)) none ?_
    simp only [rgC, seval, J04, J02, WKFC, FF]
    refine wst hsn 5 (some 22) (.move (.tmp 5)) none ?_
    simp only [rgC, seval, J04, J02, WKFC, FF]
    refine wst hsn 6 (some 23) (.indexAddr 28 (.tmp 21) (.tmp 22)) none ?_
    simp only [rgC, seval, J04, J02, WKFC, Nat.zero_add, FF]
    refine wst hsn 7 (some 24) (.load 3 (.tmp 23)) none ?_
    simp only [rgC, seval, J04, J02, WKFC, rgL, FF]
    refine wst hsn 8 (some 25) (.binOp .neq 3 (.tmp 20) (.tmp 24) 3) none ?_
    simp only [rgC, seval, J04, J02, WKFC, rgB, FF]
    refine WKF.done (i := 9) (by kernel_rfl) ?_
    clear FF
    cases e : (x != y) with
    | true =>
     have hne : A ≠ B := fun h9 => by
      subst h9
      rw [hx] at hy
      cases hy
      simp at e
     rw [decide_eq_false hne]
     simp only [evC, seval, ↓evP, hr, e]
    | false =>
     have hxy : x = y := by simpa using e
     simp only [evC, seval, ↓evP, t0, t1, t5, e, w1]
     refine ⟨by omega, by omega, fun j hj => ?_⟩
     rcases Nat.lt_or_ge j i with h1 | h1
     ·exact hsame j h1
     ·have : j = i := by omega
      subst this
      rw [hx, hy, hxy]
   ·have c1 : decide ((i : Int) < (A.length : Int)) = false := by simp; omega
    have : i = A.length := by omega
    subst this
    have hAB : A = B := J4S hlen hsame
    rw [decide_eq_true hAB]
    simp only [evC, seval, ↓evP, hr, t0, t1, t5, lA, c1]
end
section
variable {call : J0r} {N : Nat} {h : SHeap}
end
theorem J78 {n : Nat} {h : SHeap} {va vb : Value} {A B : List Int} {la lb : Nat} (ha : J1S la h va A) (hb : J1S lb h vb B) (hl : A.length < 1000000000) (hn : A.length + 5 < n) : J0T n 35 [va, vb] h = some (.bool (decide (A = B)), h) := by
 obtain ⟨n, rfl⟩ : ∃ j, n = j + 1 := ⟨n - 1, by omega⟩
 exact J6r (J13 ⟨rfl, rfl, rfl⟩) rfl (J7z (J1z n).2 ha hb (by omega) (by omega))
theorem Jhw {a b c d e f g i : Value} {ty : TypeId} {x y : Bool} : ld1 0 (.row [a, b, c, d, e, f, g, i] ty x y) = some a ∧ ld1 1 (.row [a, b, c, d, e, f, g, i] ty x y) = some b ∧ ld1 2 (.row [a, b, c, d, e, f, g, i] ty x y) = some c ∧ ld1 3 (.row [a, b, c, d, e, f, g, i] ty x y) = some d ∧ ld1 4 (.row [a, b, c, d, e, f, g, i] ty x y) = some e ∧ ld1 5 (.row [a, b, c, d, e, f, g, i] ty x y) = some f ∧ ld1 6 (.row [a, b, c, d, e, f, g, i] ty x y) = some g ∧ ld1 7 (.row [a, b, c, d, e, f, g, i] ty x y) = some i := ⟨rfl, rfl, rfl, rfl, rfl, rfl, rfl, rfl⟩
def JdC (s : StN) : Prop := s.rows.length < 1000000000 ∧ s.queues.length < 1000000000 ∧ s.vars.length < 1000000000 ∧ s.tags.length < 1000000000 ∧ s.rules.length < 1000000000 ∧ s.on.length < 1000000000
def Jbg (s : StN) : Nat := s.rows.length + s.queues.length + s.vars.length + s.tags.length + s.rules.length + s.on.length
section
variable {n N : Nat}
end
theorem J53 : ∀ (l : List RowN) (k : Nat), (l.flatMap J0e).take (k * 5) = (l.take k).flatMap J0e
 | l, 0 => by simp
 | [], k + 1 => by simp
 | r :: l, k + 1 => by
  rw [List.flatMap_cons, List.take_succ_cons, List.flatMap_cons, ← J53 l k, show (k + 1) * 5 = k * 5 + 5 by omega]
  rfl
theorem Jgo {L : List RowN} {i : Nat} {x : RowN} (hi : i < L.length) : Go.Sx.lay (L.flatMap J0e) (i * 5) (J0e x) = (L.set i x).flatMap J0e := by
 have h5 : (J0e x).length = 5 := rfl
 rw [List.set_eq_take_append_cons_drop, if_pos hi, List.flatMap_append, List.flatMap_cons, ← J53, ← J3k]
 simp only [Go.Sx.lay, h5]
 rw [show (i + 1) * 5 = i * 5 + 5 by omega, List.append_assoc]
abbrev zRow : RowN := ⟨0, ByteArray.empty, 0, 0, 0⟩
abbrev JcY : ByteArray := ⟨#[108, 101, 110, 116]⟩
def mark (i : Nat) : RowN := ⟨-7, JcY, 0, 0, i⟩
theorem J7r : ∀ n, J3e [.int .i64 0, .string ByteArray.empty, .int .i64 0, .int .i64 0, .int .i64 0] n = (List.replicate n zRow).flatMap J0e
 | 0 => rfl
 | n + 1 => by rw [J3e, J7r n, List.replicate_succ, List.flatMap_cons]; rfl
theorem JhP {h : SHeap} {n : Nat} (hn : n < 1099511627776) : J2l Tryd.prog h 22 (.int .i64 (n : Int)) (.int .i64 (n : Int)) = some (.slice (some ⟨h.next, 0, none⟩) n n, h.push (.row ((List.replicate n zRow).flatMap J0e) 46 false false)) := by
 have hz : (Value.agg #[.int .i64 0, .string ByteArray.empty, .int .i64 0, .int .i64 0, .int .i64 0]).cells = #[.int .i64 0, .string ByteArray.empty, .int .i64 0, .int .i64 0, .int .i64 0] := rfl
 have hf : flat (.agg #[.int .i64 0, .string ByteArray.empty, .int .i64 0, .int .i64 0, .int .i64 0]) = true := rfl
 simp only [J2l, Tryd.underlying22, sz46, J40, by46, hz, hf]
 rw [if_pos (by simp; omega)]
 simp [J7r]
theorem JaU {h : SHeap} {id i off : Nat} {L : List RowN} {x : RowN} {ty : TypeId} {g : Bool} (ho : off = i * 5) (hg : h.get id = .row (L.flatMap J0e) ty g false) (hi : i < L.length) (hf : h.floor ≤ id) : J0K Tryd.prog h 46 (.pointer (some ⟨id, off, none⟩)) (rowV x) = some (h.put id (.row ((L.set i x).flatMap J0e) ty g false)) := by
 subst ho
 have hc : (rowV x).cells = (J0e x).toArray := rfl
 have h5 : (J0e x).length = 5 := rfl
 have hone : (J0e x).all one = true := rfl
 have hl := J0N L
 simp only [J0K, hc, sz46, J1q, hg]
 rw [if_pos (by simp [h5]), if_pos (by simp only [h5, hone, hl]; simp; omega), Jgo hi]
theorem J9X : J2Q Tryd.prog (match Tryd.prog.underlying 46 with | some (.struct fs) => fs.toList | _ => []) = some [(0, 1), (1, 1), (2, 1), (3, 1), (4, 1)] := by kernel_rfl
theorem J8G {i : Int} : J1P Tryd.prog 46 [(0, iv (-7)), (1, .string JcY), (4, iv i)] = some (rowV ⟨-7, JcY, 0, 0, i⟩) := by
 have h := J9X
 rw [Tryd.underlying46] at h
 simp only at h
 have hf : flat (.agg #[.int .i64 0, .string ByteArray.empty, .int .i64 0, .int .i64 0, .int .i64 0]) = true := rfl
 simp only [J1P, J40, hf, if_true, Tryd.underlying46, h]
 rfl
theorem JhZ {h : SHeap} {id n c : Nat} {L l : List RowN} {v : Value} {ty : TypeId} (hv : J0l h v l) (hg : h.get id = .row (L.flatMap J0e) ty false false) (hl : L.length = n) (hn : l.length ≤ n) (hid : id < h.next) (hf : h.floor ≤ id) :
  ∃ h', J8N Tryd.prog h 22 (.slice (some ⟨id, 0, none⟩) n c) v = some (iv l.length, h') ∧ h'.get id = .row ((l ++ L.drop l.length).flatMap J0e) ty false false ∧ h'.next = h.next ∧ h'.floor = h.floor ∧ ∀ i, i ≠ id → h'.get i = h.get i := by
 have hsrc := hv.src
 obtain ⟨a, c', rfl, h1⟩ := hv
 have hm : min l.length n = l.length := by omega
 by_cases h0 : l.length = 0
 ·refine ⟨h, ?_, ?_, rfl, rfl, fun _ _ => rfl⟩
  ·simp only [J8N, Tryd.underlying22, sz46, hm, hsrc]
   rw [if_pos h0]
  ·rw [List.length_eq_zero_iff.1 h0]
   exact hg
 ·have hlen := J0N L
  have hll := J0N l
  refine ⟨_, ?_, J0b rfl hid, rfl, rfl, fun i hi => J05 hid (Ne.symm hi)⟩
  simp only [J8N, Tryd.underlying22, sz46, hm, hsrc, J1q, hg]
  rw [if_neg h0, if_pos (by simp only [J4y, hlen, hll, Bool.and_true, Nat.zero_add, Bool.and_eq_true, decide_eq_true_eq]; omega)]
  have : Go.Sx.lay (L.flatMap J0e) 0 (l.flatMap J0e) = (l ++ L.drop l.length).flatMap J0e := by
   rw [List.flatMap_append, ← J3k]
   simp only [Go.Sx.lay, List.take_zero, List.nil_append, Nat.zero_add, hll]
  rw [this]
theorem JaW {id n c i : Nat} (hi : i < n) : J0R Tryd.prog 22 (.slice (some ⟨id, 0, none⟩) n c) (iv (i : Int)) = some (.pointer (some ⟨id, i * 5, none⟩)) := J4z hi
theorem Jd9 {h : SHeap} {id n m c : Nat} (hm : m ≤ c) (hc : c ≠ unk) : J2M Tryd.prog h 22 (.slice (some ⟨id, 0, none⟩) n c) none (some (iv (m : Int))) none = some (.slice (some ⟨id, 0, none⟩) m c) := by
 simp only [J2M, Tryd.underlying22, sz46, J3a, hc, if_false]
 rw [if_pos (by omega)]
 simp only [Int.toNat_natCast]
 by_cases h0 : c = 0
 ·subst h0
  simp [J0q]
 ·simp [J0q]
structure LentAt (h : SHeap) (o : Nat) (l : List RowN) (L : List RowN) : Prop where
 g : h.get o = .row (L.flatMap J0e) 46 false false
 len : L.length = l.length + 9
 own : ∀ j, j < l.length → L[j]? = l[j]?
 marks : ∀ q, q < 9 → L[l.length + q]? = some (mark (l.length + q))
section
variable {call : J0r} {N : Nat} {h : SHeap}
set_option maxHeartbeats 4000000 in
theorem JdB {l : List RowN} {v : Value} (hv : J0l h v l) (hl : l.length < 900000000) (hfl : h.floor ≤ h.next) (hN : 12 < N) :
  ∃ h', J0L Tryd.prog call N 15 [v] h = some (.slice (some ⟨h.next, 0, none⟩) l.length (l.length + 9), h') ∧ ((∃ L, LentAt h' h.next l L) ∧ h'.next = h.next + 1 ∧ h'.floor = h.floor ∧ ∀ i, i < h.next → h'.get i = h.get i) := by
 refine J1N (R := fun h' => (∃ L, LentAt h' h.next l L) ∧ h'.next = h.next + 1 ∧ h'.floor = h.floor ∧ ∀ i, i < h.next → h'.get i = h.get i) Tryd.func15 rfl (by simp [Tryd.f15]) ?_
 have hr : Tryd.f15.results.toList = [.tmp 2] := rfl
 have hlen := fun h' => hv.len (h' := h')
 have w9 : IntKind.i64.wrap ((l.length : Int) + 9) = ((l.length + 9 : Nat) : Int) := J0s (by omega) (by omega)
 have hmk := JhP (h := h) (n := l.length + 9) (by omega)
 have hv1 : J0l (h.push (.row ((List.replicate (l.length + 9) zRow).flatMap J0e) 46 false false)) v l := hv.mono (by show h.next ≤ h.next + 1; omega) fun i hi => J06 hi
 obtain ⟨H1, hcp, g1, n1, f1, o1⟩ := JhZ (id := h.next) (n := l.length + 9) (c := l.length + 9) hv1 J0h (by rw [List.length_replicate]) (by omega) (by show h.next < h.next + 1; omega) hfl
 have hlen9 : ∀ h' : SHeap, lenS Tryd.prog h' 22 (.slice (some ⟨h.next, 0, none⟩) (l.length + 9) (l.length + 9)) = some (iv ((l.length + 9 : Nat) : Int)) := fun h' => JeK
 have hsl := fun (H : SHeap) => Jd9 (h := H) (id := h.next) (n := l.length + 9) (m := l.length) (c := l.length + 9) (by omega) (by unfold unk; omega)
 simp only [evC, seval, ↓evP, hlen, w9, hmk, hcp]
 have n1' : H1.next = h.next + 1 := n1
 have f1' : H1.floor = h.floor := f1
 have o1' : ∀ i, i < h.next → H1.get i = h.get i := fun i hi => by rw [o1 i (by omega), J06 hi]
 refine WK.loop (fun k s' => s'.T.get 0 = v ∧ s'.T.get 3 = .slice (some ⟨h.next, 0, none⟩) (l.length + 9) (l.length + 9) ∧ s'.T.get 4 = iv ((l.length + k : Nat) : Int) ∧ k ≤ 9 ∧ s'.h.next = h.next + 1 ∧ s'.h.floor = h.floor ∧ (∀ i, i < h.next → s'.h.get i = h.get i) ∧
  ∃ L : List RowN, s'.h.get h.next = .row (L.flatMap J0e) 46 false false ∧ L.length = l.length + 9 ∧ (∀ j, j < l.length → L[j]? = l[j]?) ∧ ∀ q, q < k → L[l.length + q]? = some (mark (l.length + q))) 9 (by omega) ?_ ?_
 ·refine ⟨by simp only [evC, seval, ↓evP, rpC], by simp only [evC, seval, ↓evP, rpC], by simp only [evC, seval, ↓evP, rpC]; rfl, by omega, n1', f1', o1', _, g1, ?_, fun j hj => by rw [List.getElem?_append_left hj], fun q hq => by omega⟩
  rw [List.length_append, List.length_drop, List.length_replicate]
  omega
 ·rintro k ⟨T1, H2⟩ hk ⟨t0, t3, t4, hk9, n2, f2, o2, L, gL, lL, own, marks⟩
  simp only at t0 t3 t4 n2 f2 o2 gL
  by_cases hlt : k < 9
  ·have c1 : decide (((l.length + k : Nat) : Int) < ((l.length + 9 : Nat) : Int)) = true := by simp; omega
   have hix := JaW (id := h.next) (n := l.length + 9) (c := l.length + 9) (i := l.length + k) (by omega)
   have hst := JaU (i := l.length + k) (x := ⟨-7, JcY, 0, 0, ((l.length + k : Nat) : Int)⟩) rfl gL (by omega) (by omega)
   have w1 : IntKind.i64.wrap (((l.length + k : Nat) : Int) + 1) = ((l.length + (k + 1) : Nat) : Int) := J0s (by omega) (by omega)
   simp only [evC, seval, ↓evP, t0, t3, t4, hlen9, c1, J8G, hix, hst, w1]
   refine ⟨hlt, by omega, n2, f2, fun i hi => by rw [J05 (by omega) (by omega)]; exact o2 i hi, _, J0b rfl (by omega), by rw [List.length_set]; exact lL, fun j hj => ?_, fun q hq => ?_⟩
   ·rw [List.getElem?_set_ne (by omega)]
    exact own j hj
   ·rcases Nat.lt_or_ge q k with h1 | h1
    ·rw [List.getElem?_set_ne (by omega)]
     exact marks q h1
    ·have : q = k := by omega
     subst this
     rw [List.getElem?_set_self (by omega)]
     rfl
  ·have c1 : decide (((l.length + k : Nat) : Int) < ((l.length + 9 : Nat) : Int)) = false := by simp; omega
   have : k = 9 := by omega
   subst this
   simp only [evC, seval, ↓evP, hr, t0, t3, t4, hlen, hlen9, c1, hsl]
   exact ⟨⟨L, gL, lL, own, marks⟩, n2, f2, o2⟩
end
theorem Jic {n : Nat} {h : SHeap} {l : List RowN} {v : Value} (hv : J0l h v l) (hl : l.length < 900000000) (hfl : h.floor ≤ h.next) (hn : 20 < n) :
  ∃ h', J0T n 15 [v] h = some (.slice (some ⟨h.next, 0, none⟩) l.length (l.length + 9), h') ∧ ((∃ L, LentAt h' h.next l L) ∧ h'.next = h.next + 1 ∧ h'.floor = h.floor ∧ ∀ i, i < h.next → h'.get i = h.get i) := by
 obtain ⟨n, rfl⟩ : ∃ j, n = j + 1 := ⟨n - 1, by omega⟩
 exact Jc0 (J13 ⟨rfl, rfl, rfl⟩) rfl (JdB hv hl hfl (by omega))
theorem J1K (x : RowN) : J5z x x = true := J6E.2 rfl
section
variable {call : J0r} {N : Nat} {h : SHeap}
end
theorem Jey {call : J0r} {N : Nat} {h : SHeap} {l : List RowN} {v : Value} (hv : J0l h v l) : J0L Tryd.prog call N 13 [v] h = some (.bool (decide ((l.length : Int) > 65536)), h) := by
 refine J1m Tryd.func13 rfl (by simp [Tryd.f13]) ?_
 have hr : Tryd.f13.results.toList = [.tmp 2] := rfl
 have hlen := fun h' => hv.len (h' := h')
 simp only [evC, seval, ↓evP, hr, hlen]
theorem JiW {n : Nat} {h : SHeap} {l : List RowN} {v : Value} (hv : J0l h v l) (hn : 0 < n) : J0T n 13 [v] h = some (.bool (decide ((l.length : Int) > 65536)), h) := by
 obtain ⟨n, rfl⟩ : ∃ j, n = j + 1 := ⟨n - 1, by omega⟩
 exact J6r (J13 ⟨rfl, rfl, rfl⟩) rfl (Jey hv)
theorem JhO {l : List RowN} (h : (resN l).1.1 = 0) : J2c l ∧ (J0v l).1 = 0 ∧ (goN (J0o l) l.length 0 (s0N l)).1 = 0 ∧ ¬ J2K (goN (J0o l) l.length 0 (s0N l)).2.2.rows (J0o l) (goN (J0o l) l.length 0 (s0N l)).2.2.rules ≥ 0 ∧
  resN l = ((0, 0), (goN (J0o l) l.length 0 (s0N l)).2.2) ∧ InvR l l.length (resN l).2 := by
 by_cases h1 : (J0v l).1 ≠ 0
 ·unfold resN at h
  rw [if_pos h1] at h
  exact absurd h h1
 ·by_cases h2 : (goN (J0o l) l.length 0 (s0N l)).1 ≠ 0
  ·unfold resN at h
   rw [if_neg h1] at h
   simp only at h
   rw [if_pos h2] at h
   exact absurd h h2
  ·by_cases h3 : J2K (goN (J0o l) l.length 0 (s0N l)).2.2.rows (J0o l) (goN (J0o l) l.length 0 (s0N l)).2.2.rules ≥ 0
   ·unfold resN at h
    rw [if_neg h1] at h
    simp only at h
    rw [if_neg h2, if_pos h3] at h
    cases h
   ·have e1 : (J0v l).1 = 0 := by simpa using h1
    have e2 : (goN (J0o l) l.length 0 (s0N l)).1 = 0 := by simpa using h2
    have e : resN l = ((0, 0), (goN (J0o l) l.length 0 (s0N l)).2.2) := by
     unfold resN
     rw [if_neg h1]
     simp only
     rw [if_neg h2, if_neg h3]
    have ht := J8d (J5d e1)
    refine ⟨ht, e1, e2, h3, e, ?_⟩
    rw [e]
    exact JfJ ht J3T l.length 0 (s0N l) (by omega) (inv0 l) e2
theorem Jg8 {l : List RowN} (h : (resN l).1.1 ≠ 0) : outN l = (ByteArray.empty, sZ) := by unfold outN; rw [if_pos h]
theorem JeO {l : List RowN} (h : (resN l).1.1 = 0) : outN l = (J52 l, (resN l).2) := by unfold outN; rw [if_neg (by rw [h]; simp)]
theorem JdR {l : List RowN} (hl : l.length < 900000000) : JdC (outN l).2 ∧ Jbg (outN l).2 ≤ l.length + 200 := by
 by_cases h : (resN l).1.1 = 0
 ·rw [JeO h]
  obtain ⟨_, _, _, _, _, hi⟩ := JhO h
  have hw := hi.wf
  have := hw.q; have := hw.v; have := hw.t; have := hw.u; have := hw.o; have := hi.len
  unfold JdC Jbg
  simp only
  omega
 ·rw [Jg8 h]
  exact ⟨⟨by decide, by decide, by decide, by decide, by decide, by decide⟩, by show 0 ≤ _; omega⟩
section
variable {n : Nat} {h : SHeap}
end
theorem laid_out {H : SHeap} {cs : List Value} {e p : Int} (hl : cs.length = 8) (ho : cs.all one = true) (hf : H.floor ≤ H.next) :
  ∃ H' : SHeap × SHeap, J0K Tryd.prog ((H.push (.row [.string ByteArray.empty, .slice none 0 0, .slice none 0 0, .slice none 0 0, .slice none 0 0, .slice none 0 0, .slice none 0 0, iv 0] 30 false false)).push (.row [iv 0, iv 0] 33 false false)) 30 (.pointer (some ⟨H.next, 0, none⟩)) (.agg cs.toArray) = some (H'.1) ∧ J0K Tryd.prog H'.1 33 (.pointer (some ⟨H.next + 1, 0, none⟩)) (J2k e p) = some H'.2 ∧
   Out2 H.next H'.2 cs e p ∧ H'.2.next = H.next + 2 ∧ H'.2.floor = H.floor ∧ ∀ i, i < H.next → H'.2.get i = H.get i := by
 have ga := J4c (h := H) (o := .row [.string ByteArray.empty, .slice none 0 0, .slice none 0 0, .slice none 0 0, .slice none 0 0, .slice none 0 0, .slice none 0 0, iv 0] 30 false false) (o' := .row [iv 0, iv 0] 33 false false)
 have gb := J48 (h := H) (o := .row [.string ByteArray.empty, .slice none 0 0, .slice none 0 0, .slice none 0 0, .slice none 0 0, .slice none 0 0, .slice none 0 0, iv 0] 30 false false) (o' := .row [iv 0, iv 0] 33 false false)
 have gold : ∀ i, i < H.next → ((H.push (.row [.string ByteArray.empty, .slice none 0 0, .slice none 0 0, .slice none 0 0, .slice none 0 0, .slice none 0 0, .slice none 0 0, iv 0] 30 false false)).push (.row [iv 0, iv 0] 33 false false)).get i = H.get i := fun i hi => by rw [J06 (by show i < H.next + 1; omega), J06 hi]
 have hnx : ((H.push (.row [.string ByteArray.empty, .slice none 0 0, .slice none 0 0, .slice none 0 0, .slice none 0 0, .slice none 0 0, .slice none 0 0, iv 0] 30 false false)).push (.row [iv 0, iv 0] 33 false false)).next = H.next + 2 := rfl
 have hfx : ((H.push (.row [.string ByteArray.empty, .slice none 0 0, .slice none 0 0, .slice none 0 0, .slice none 0 0, .slice none 0 0, .slice none 0 0, iv 0] 30 false false)).push (.row [iv 0, iv 0] 33 false false)).floor = H.floor := rfl
 generalize (H.push (.row [.string ByteArray.empty, .slice none 0 0, .slice none 0 0, .slice none 0 0, .slice none 0 0, .slice none 0 0, .slice none 0 0, iv 0] 30 false false)).push (.row [iv 0, iv 0] 33 false false) = G at *
 obtain ⟨H', s1, s2, r1, r2, r3, r4⟩ := J4J (a := H.next) (H := G) ⟨ga, gb⟩ rfl (by omega) (by omega) (cs' := cs) hl ho (e' := e) (p' := p)
 exact ⟨⟨_, H'⟩, s1, s2, r1, by show H'.next = _; omega, by show H'.floor = _; omega, fun i hi => by show H'.get i = _; rw [r4 i (by omega) (by omega), gold i hi]⟩
theorem all8 {lo : Nat} {h : SHeap} {nm : ByteArray} {s : StN} {vr vq vv vt vu vo : Value} (h1 : J3P lo h vr s.rows) (h2 : J0p lo h vq s.queues.length 2 (J3S s.queues)) (h3 : J0p lo h vv s.vars.length 1 (strs s.vars)) (h4 : J0p lo h vt s.tags.length 1 (strs s.tags)) (h5 : J1S lo h vu s.rules) (h6 : J1S lo h vo s.on) :
  ([.string nm, vr, vq, vv, vt, vu, vo, iv s.miss] : List Value).all one = true := by
 simp only [List.all_cons, List.all_nil, h1.2.one, h2.one, h3.one, h4.one, J0p.one h5, J0p.one h6, J5J, J5K, Bool.and_self]
section
variable {n N : Nat}
end
def SaysN (s : StN) (k n : Int) (nm : ByteArray) : Prop :=
 0 ≤ n ∧ ((k = 1 ∧ ∃ b, s.queues[n.toNat]? = some (nm, b)) ∨ (k = 2 ∧ s.vars[n.toNat]? = some nm) ∨ (k = 3 ∧ s.tags[n.toNat]? = some nm) ∨ (k = 4 ∧ ∃ ru : Nat, s.rules[n.toNat]? = some ((ru : Int) + 1) ∧ ∃ y : RowN, s.rows[ru]? = some y ∧ y.name = nm))
structure UpS (s s' : StN) : Prop where
 q : ∀ (i : Nat) x, s.queues[i]? = some x → s'.queues[i]? = some x
 v : ∀ (i : Nat) x, s.vars[i]? = some x → s'.vars[i]? = some x
 t : ∀ (i : Nat) x, s.tags[i]? = some x → s'.tags[i]? = some x
 u : ∀ (i : Nat) x, s.rules[i]? = some x → s'.rules[i]? = some x
 r : ∀ (i : Nat) (y : RowN), s.rows[i]? = some y → ∃ y' : RowN, s'.rows[i]? = some y' ∧ y'.name = y.name
theorem SaysN.up {s s' : StN} {k n : Int} {nm : ByteArray} (h : SaysN s k n nm) (hu : UpS s s') : SaysN s' k n nm := by
 refine ⟨h.1, ?_⟩
 rcases h.2 with ⟨h1, b, h2⟩ | ⟨h1, h2⟩ | ⟨h1, h2⟩ | ⟨h1, ru, h2, y, h3, h4⟩
 ·exact .inl ⟨h1, b, hu.q _ _ h2⟩
 ·exact .inr (.inl ⟨h1, hu.v _ _ h2⟩)
 ·exact .inr (.inr (.inl ⟨h1, hu.t _ _ h2⟩))
 ·obtain ⟨y', h5, h6⟩ := hu.r _ _ h3
  exact .inr (.inr (.inr ⟨h1, ru, hu.u _ _ h2, y', h5, h6.trans h4⟩))
def saysK (k : Int) : Int := J1O k + J0j k
theorem saysK_0 {k : Int} (h : saysK k = 0) : J1O k = 0 ∧ J0j k = 0 := by
 have := Jcr k
 have := J3c k
 unfold saysK at h
 omega
structure ToldM (l : List RowN) (at_ : Nat) (s : StN) : Prop where
 rows : ∀ (i : Nat) (x : RowN), i < at_ → s.rows[i]? = some x → (saysK x.kind = 0 → l[i]? = some x) ∧ (saysK x.kind ≠ 0 → SaysN s (saysK x.kind) x.n x.name)
 things : ∀ t ∈ s.things, SaysN s t.kind t.num t.name
theorem ToldM.up {l : List RowN} {at_ : Nat} {s s' : StN} (h : ToldM l at_ s) (hu : UpS s s') (hr : ∀ i, i < at_ → s'.rows[i]? = s.rows[i]?) (ht : ∀ t ∈ s'.things, t ∈ s.things ∨ SaysN s' t.kind t.num t.name) : ToldM l at_ s' where
 rows := fun i x hi hx => by
  rw [hr i hi] at hx
  obtain ⟨h1, h2⟩ := h.rows i x hi hx
  exact ⟨h1, fun h3 => (h2 h3).up hu⟩
 things := fun t h1 => by
  rcases ht t h1 with h2 | h2
  ·exact (h.things t h2).up hu
  ·exact h2
def noName (x : RowN) : RowN := { x with name := ByteArray.empty }
theorem count_noName {S : List Int} : ∀ (l : List RowN) (n : Int), J2j S (l.map noName) n = J2j S l n
 | [], n => rfl
 | x :: l, n => count_noName l _
theorem cAt_noName {rows : List RowN} {E S : List Int} {k : Nat} : cAt (rows.map noName) E S k = cAt rows E S k := by
 unfold cAt
 rw [← List.map_drop, ← List.map_take, count_noName]
theorem sumsF_noName {rows : List RowN} {E : List Int} : ∀ (l : List Int) (i : Nat) (S : List Int), J8r (rows.map noName) E l i S = J8r rows E l i S
 | [], i, S => rfl
 | ru :: l, i, S => by
  unfold J8r
  rw [cAt_noName, sumsF_noName l]
theorem largeF_noName {rows : List RowN} {E S : List Int} : ∀ (l : List RowN) (k : Nat) (n : Int), J5r (rows.map noName) E S (l.map noName) k n = J5r rows E S l k n
 | [], k, n => rfl
 | x :: l, k, n => by
  show (if J0E x.kind = false then J5r (rows.map noName) E S (l.map noName) (k + 1) n else if J2I n (cAt (rows.map noName) E S (k + 1)) > 16384 then (k : Int) else J5r (rows.map noName) E S (l.map noName) (k + 1) (J2I n (cAt (rows.map noName) E S (k + 1)))) = _
  rw [cAt_noName, largeF_noName l, largeF_noName l]
  rfl
theorem largeN_noName {rows : List RowN} {E rules : List Int} : J2K (rows.map noName) E rules = J2K rows E rules := by
 unfold J2K J42
 rw [largeF_noName, sumsF_noName]
theorem setN_noName {l : List RowN} {k : Nat} {n : Int} : (setN l k n).map noName = setN (l.map noName) k n := by
 unfold setN
 rw [List.getElem?_map]
 cases l[k]? with
 | none => rfl
 | some x => rw [List.map_set]; rfl
def DeclA (l : List RowN) (a : ByteArray) : Prop := ∃ x ∈ l, J0j x.kind ≠ 0 ∧ x.name = a
structure Ren (f : ByteArray → ByteArray) (l m : List RowN) : Prop where
 shape : m.map noName = l.map noName
 new : ∀ (i : Nat) x y, l[i]? = some x → m[i]? = some y → saysK x.kind ≠ 0 → DeclA l x.name → y.name = f x.name
 old : ∀ (i : Nat) x y, l[i]? = some x → m[i]? = some y → ¬ DeclA l x.name → y.name = x.name
 inj : ∀ a b, DeclA l a → DeclA l b → f a = f b → a = b
 out : ∀ a x, DeclA l a → x ∈ l → f a ≠ x.name
def renT (f : ByteArray → ByteArray) (t : ThN) : ThN := { t with name := f t.name }
structure RelS (f : ByteArray → ByteArray) (l : List RowN) (s s' : StN) : Prop where
 rows : s'.rows.map noName = s.rows.map noName
 q : s'.queues.length = s.queues.length
 v : s'.vars.length = s.vars.length
 t : s'.tags.length = s.tags.length
 u : s'.rules = s.rules
 o : s'.on = s.on
 ms : s'.miss = s.miss
 th : s'.things = s.things.map (renT f)
 dn : ∀ t ∈ s.things, DeclA l t.name
theorem bytes_false {a b : ByteArray} (h : a ≠ b) : (a == b) = false := by
 cases h9 : (a == b) with
 | true => exact absurd (J3o h9) h
 | false => rfl
section
variable {f : ByteArray → ByteArray} {l m : List RowN}
theorem find_ren (hr : Ren f l m) {a : ByteArray} (ha : DeclA l a) : ∀ th : List ThN, (∀ t ∈ th, DeclA l t.name) → J30 (th.map (renT f)) (f a) = (J30 th a).map (renT f)
 | [], _ => rfl
 | t :: th, h => by
  have ih := find_ren hr ha th fun u hu => h u (List.mem_cons_of_mem _ hu)
  have ht := h t (List.mem_cons_self ..)
  unfold J30 at ih ⊢
  rw [List.map_cons, List.find?_cons, List.find?_cons]
  by_cases he : a = t.name
  ·rw [show (f a == (renT f t).name) = true by rw [show (renT f t).name = f a by rw [he]; rfl]; exact J34 _, show (a == t.name) = true by rw [he]; exact J34 _]
   rfl
  ·rw [show (f a == (renT f t).name) = false from bytes_false fun h9 => he (hr.inj _ _ ha ht h9), show (a == t.name) = false from bytes_false he]
   exact ih
theorem find_none {a : ByteArray} : ∀ th : List ThN, (∀ t ∈ th, a ≠ t.name) → J30 th a = none
 | [], _ => rfl
 | t :: th, h => by
  unfold J30
  rw [List.find?_cons, show (a == t.name) = false from bytes_false (h t (List.mem_cons_self ..))]
  exact find_none th fun u hu => h u (List.mem_cons_of_mem _ hu)
structure RenX (f : ByteArray → ByteArray) (l : List RowN) (x x' : RowN) : Prop where
 eq : x' = { x with name := x'.name }
 new : saysK x.kind ≠ 0 → DeclA l x.name → x'.name = f x.name
 old : ¬ DeclA l x.name → x'.name = x.name
 mem : ∃ z ∈ l, z.name = x.name
theorem RenX.setn {x x' : RowN} (h : RenX f l x x') (n : Int) : RenX f l { x with n := n } { x' with n := n } := by
 refine ⟨?_, h.new, h.old, h.mem⟩
 have := h.eq
 generalize x'.name = nm at *
 subst this
 rfl
theorem cnt_ren {s s' : StN} (h : RelS f l s s') (k : Int) : cntN s' k = cntN s k := by
 unfold cntN
 rw [h.q, h.v, h.t, h.u]
theorem set_ren {s s' : StN} (h : RelS f l s s') (k : Nat) (n : Int) : (setN s'.rows k n).map noName = (setN s.rows k n).map noName := by rw [setN_noName, setN_noName, h.rows]
theorem decl_ren (hr : Ren f l m) {s s' : StN} (h : RelS f l s s') {x x' : RowN} (hx : RenX f l x x') (hd : J0j x.kind ≠ 0 → DeclA l x.name) (at_ : Nat) (e : Int) : J25 x' s' = J25 x s ∧ RelS f l (J0W at_ e x s) (J0W at_ e x' s') := by
 have hk : x'.kind = x.kind := by rw [hx.eq]
 unfold J25 J0W
 rw [hk]
 by_cases d0 : J0j x.kind = 0
 ·rw [if_pos d0, if_pos d0, if_pos d0, if_pos d0]
  exact ⟨rfl, h⟩
 ·have hD := hd d0
  have hn : x'.name = f x.name := hx.new (fun h9 => d0 (saysK_0 h9).2) hD
  rw [if_neg d0, if_neg d0, if_neg d0, if_neg d0, h.th, hn, find_ren hr hD _ h.dn, cnt_ren h]
  refine ⟨by rw [Option.isSome_map], ?_, ?_, ?_, ?_, ?_, ?_, h.ms, ?_, ?_⟩
  ·simp only [addN, hk, cnt_ren h]
   exact set_ren h _ _
  ·simp only [addN, hk]
   split <;> simp [h.q]
  ·simp only [addN, hk]
   split <;> simp [h.v]
  ·simp only [addN, hk]
   split <;> simp [h.t]
  ·simp only [addN, hk, h.u]
  ·simp only [addN, hk, h.o]
  ·simp only [addN, hk, cnt_ren h, h.th, List.map_append, List.map_cons, List.map_nil, hn]
   rfl
  ·intro t ht
   simp only [addN, List.mem_append, List.mem_cons, List.not_mem_nil, or_false] at ht
   rcases ht with h9 | rfl
   ·exact h.dn t h9
   ·exact hD
theorem call_ren (hr : Ren f l m) {s s' : StN} (h : RelS f l s s') {x x' : RowN} (hx : RenX f l x x') (at_ : Nat) : J1v at_ x' s' = J1v at_ x s ∧ RelS f l (J0D at_ x s) (J0D at_ x' s') := by
 have hk : x'.kind = x.kind := by rw [hx.eq]
 unfold J1v J0D
 rw [hk]
 by_cases d0 : J1O x.kind = 0
 ·rw [if_pos d0, if_pos d0, if_pos d0, if_pos d0]
  exact ⟨rfl, h⟩
 ·rw [if_neg d0, if_neg d0, if_neg d0, if_neg d0]
  by_cases hD : DeclA l x.name
  ·have hn : x'.name = f x.name := hx.new (fun h9 => d0 (saysK_0 h9).1) hD
   rw [h.th, hn, find_ren hr hD _ h.dn]
   cases J30 s.things x.name with
   | none => exact ⟨rfl, h⟩
   | some t => exact ⟨rfl, set_ren h _ _, h.q, h.v, h.t, h.u, h.o, h.ms, rfl, h.dn⟩
  ·obtain ⟨z, hz, hzn⟩ := hx.mem
   rw [hx.old hD, h.th, find_none s.things (fun t ht he => hD (by rw [he]; exact h.dn t ht)), find_none (s.things.map (renT f)) (fun t ht he => by
    obtain ⟨u, hu, rfl⟩ := List.mem_map.1 ht
    exact hr.out u.name z (h.dn u hu) hz (by rw [hzn]; exact he.symm))]
   exact ⟨rfl, h⟩
theorem ev_ren {s s' : StN} (h : RelS f l s s') {x x' : RowN} (hx : RenX f l x x') (at_ : Nat) : evE x' s' = evE x s ∧ RelS f l (evS at_ x s) (evS at_ x' s') := by
 have hk : x'.kind = x.kind := by rw [hx.eq]
 have hn : x'.n = x.n := by rw [hx.eq]
 unfold evE evS
 rw [hk, hn, h.o, h.ms]
 refine ⟨rfl, ?_⟩
 split
 ·exact h
 ·split
  ·exact ⟨h.rows, h.q, h.v, h.t, h.u, rfl, rfl, h.th, h.dn⟩
  ·exact ⟨h.rows, h.q, h.v, h.t, h.u, rfl, rfl, h.th, h.dn⟩
theorem rows_ren {s s' : StN} (h : RelS f l s s') {i : Nat} : (s'.rows[i]?).map noName = (s.rows[i]?).map noName := by
 rw [← List.getElem?_map, ← List.getElem?_map, h.rows]
theorem noName_eq {x y : RowN} (h : noName y = noName x) : y = { x with name := y.name } := by
 cases x; cases y
 simp only [noName, RowN.mk.injEq] at h ⊢
 obtain ⟨h1, _, h2, h3, h4⟩ := h
 exact ⟨h1, trivial, h2, h3, h4⟩
theorem step_ren (hr : Ren f l m) {E : List Int} {at_ : Nat} {s s' : StN} (hat : at_ < l.length) (hi : InvR l at_ s) (hi' : InvR m at_ s') (h : RelS f l s s') :
  (J31 E at_ s').1 = (J31 E at_ s).1 ∧ RelS f l (J31 E at_ s).2 (J31 E at_ s').2 := by
 obtain ⟨x, hx⟩ : ∃ x, s.rows[at_]? = some x := ⟨_, List.getElem?_eq_getElem (by rw [hi.len]; exact hat)⟩
 have hml : m.length = l.length := by simpa using congrArg List.length hr.shape
 obtain ⟨x', hx'⟩ : ∃ x', s'.rows[at_]? = some x' := ⟨_, List.getElem?_eq_getElem (by rw [hi'.len, hml]; exact hat)⟩
 have hxl : l[at_]? = some x := by rw [← hi.later at_ (Nat.le_refl _)]; exact hx
 have hxm : m[at_]? = some x' := by rw [← hi'.later at_ (Nat.le_refl _)]; exact hx'
 have heq : x' = { x with name := x'.name } := noName_eq (by
  have := rows_ren h (i := at_)
  rw [hx, hx'] at this
  exact Option.some.inj this)
 have hX : RenX f l x x' := ⟨heq, hr.new at_ x x' hxl hxm, hr.old at_ x x' hxl hxm, x, List.mem_of_getElem? hxl, rfl⟩
 have hk : x'.kind = x.kind := by rw [heq]
 obtain ⟨a1, b1⟩ := decl_ren hr h hX (fun hd => ⟨x, List.mem_of_getElem? hxl, hd, rfl⟩) at_ ((E[at_]?).getD 0)
 unfold J31
 rw [hx, hx']
 simp only
 rw [a1]
 by_cases hd : J25 x s = 0
 case neg => rw [if_pos hd, if_pos hd]; exact ⟨rfl, h⟩
 rw [if_neg (by simpa using hd), if_neg (by simpa using hd)]
 obtain ⟨n1, r1⟩ : ∃ n, (J0W at_ ((E[at_]?).getD 0) x s).rows[at_]? = some { x with n := n } := by
  rw [J8O]
  split
  ·exact ⟨x.n, hx⟩
  ·exact ⟨_, J4g hx⟩
 have r1' : (J0W at_ ((E[at_]?).getD 0) x' s').rows[at_]? = some { x' with n := n1 } := by
  have e1 := rows_ren b1 (i := at_)
  rw [r1] at e1
  have e2 : ∃ n, (J0W at_ ((E[at_]?).getD 0) x' s').rows[at_]? = some { x' with n := n } := by
   rw [J8O]
   split
   ·exact ⟨x'.n, hx'⟩
   ·exact ⟨_, J4g hx'⟩
  obtain ⟨n2, e3⟩ := e2
  rw [e3] at e1 ⊢
  have := congrArg RowN.n (Option.some.inj e1)
  simp only [noName] at this
  rw [this]
 rw [r1, r1']
 simp only
 have hX1 := hX.setn n1
 generalize J0W at_ ((E[at_]?).getD 0) x s = s1 at *
 generalize J0W at_ ((E[at_]?).getD 0) x' s' = s1' at *
 obtain ⟨a2, b2⟩ := call_ren hr b1 hX1 at_
 rw [a2]
 by_cases hc : J1v at_ { x with n := n1 } s1 = 0
 case neg => rw [if_pos hc, if_pos hc]; exact ⟨rfl, h⟩
 rw [if_neg (by simpa using hc), if_neg (by simpa using hc)]
 have call_rows : ∀ {y : RowN} {t : StN}, t.rows[at_]? = some y → ∃ n, (J0D at_ y t).rows[at_]? = some { y with n := n } := fun {y t} hy => by
  unfold J0D
  split
  ·exact ⟨y.n, hy⟩
  ·split
   ·exact ⟨y.n, hy⟩
   ·exact ⟨_, J4g hy⟩
 obtain ⟨n2, r2⟩ := call_rows r1
 obtain ⟨n2', r2'⟩ := call_rows r1'
 have hn2 : n2' = n2 := by
  have e1 := rows_ren b2 (i := at_)
  rw [r2, r2'] at e1
  exact congrArg RowN.n (Option.some.inj e1)
 subst hn2
 rw [r2, r2']
 simp only
 have hX2 := hX.setn n2'
 obtain ⟨a3, b3⟩ := ev_ren b2 hX2 at_
 rw [a3]
 by_cases hv : evE { x with n := n2' } (J0D at_ { x with n := n1 } s1) = 0
 ·rw [if_neg (by simpa using hv), if_neg (by simpa using hv)]
  exact ⟨rfl, b3⟩
 ·rw [if_pos hv, if_pos hv]
  exact ⟨rfl, h⟩
theorem go_ren (hr : Ren f l m) {E : List Int} (ht : J2c l) (ht' : J2c m) (hE : ∀ i : Nat, 0 ≤ (E[i]?).getD 0) : ∀ r at_ s s', at_ + r = l.length → InvR l at_ s → InvR m at_ s' → RelS f l s s' →
  (goN E r at_ s').1 = (goN E r at_ s).1 ∧ (goN E r at_ s').2.1 = (goN E r at_ s).2.1 ∧ RelS f l (goN E r at_ s).2.2 (goN E r at_ s').2.2
 | 0, at_, s, s', hr', hi, hi', h => ⟨rfl, rfl, h⟩
 | r + 1, at_, s, s', hr', hi, hi', h => by
  have hml : m.length = l.length := by simpa using congrArg List.length hr.shape
  obtain ⟨a, b⟩ := step_ren hr (E := E) (by omega) hi hi' h
  unfold goN
  rw [a]
  by_cases h9 : (J31 E at_ s).1 = 0
  ·rw [if_neg (by simpa using h9), if_neg (by simpa using h9)]
   exact go_ren hr ht ht' hE r (at_ + 1) _ _ (by omega) (J6b ht (hE at_) (by omega) hi h9) (J6b ht' (hE at_) (by omega) hi' (by rw [a]; exact h9)) b
  ·rw [if_pos h9, if_pos h9]
   exact ⟨rfl, rfl, h⟩
theorem kids_ren (hr : Ren f l m) : SameKids m l := by
 have hml : m.length = l.length := by simpa using congrArg List.length hr.shape
 refine ⟨hml, fun i x hx => ?_⟩
 have hl := (List.getElem?_eq_some_iff.1 hx).1
 obtain ⟨y, hy⟩ : ∃ y, m[i]? = some y := ⟨_, List.getElem?_eq_getElem (by omega)⟩
 have : (m.map noName)[i]? = (l.map noName)[i]? := by rw [hr.shape]
 rw [List.getElem?_map, List.getElem?_map, hx, hy] at this
 rw [Option.map_some, Option.map_some] at this
 have h9 := congrArg RowN.kids (Option.some.inj this)
 exact ⟨y, hy, h9⟩
theorem ints_inj {a b : List Int} (h : ints a = ints b) : a = b := by
 apply List.ext_getElem?
 intro i
 have := congrArg (·[i]?) h
 simp only [J6g] at this
 cases ha : a[i]? with
 | none =>
  rw [ha] at this
  cases hb : b[i]? with
  | none => rfl
  | some y => rw [hb] at this; cases this
 | some x =>
  rw [ha] at this
  cases hb : b[i]? with
  | none => rw [hb] at this; cases this
  | some y => rw [hb] at this; cases this; rfl
theorem ends_same (ht : J2c l) (ht' : J2c m) (hk : SameKids m l) (hl : l.length < 1099511627776) : J0o m = J0o l := by
 have hg : (Jfv.push (.row (m.flatMap J0e) 46 true false)).get Jfv.next = .row (m.flatMap J0e) 46 true false := J0h
 have hv : J0l (Jfv.push (.row (m.flatMap J0e) 46 true false)) (.slice (some ⟨Jfv.next, 0, none⟩) m.length unk) m := J6F hg (by rw [J1D]; omega)
 obtain ⟨h1, e1, g1, _⟩ := ends_walkP' (call := fun _ _ _ => none) (n := l.length + 4) ht hk hv hl (by omega) (by rw [J1D]; exact Nat.zero_le _)
 obtain ⟨h2, e2, g2, _⟩ := JbW (call := fun _ _ _ => none) (n := l.length + 4) ht' hv (by rw [hk.1]; exact hl) (by rw [hk.1]; omega) (by rw [J1D]; exact Nat.zero_le _)
 rw [e1] at e2
 obtain ⟨_, rfl⟩ := Prod.mk.inj (Option.some.inj e2)
 rw [g1] at g2
 simp only [SObj.row.injEq] at g2
 exact (ints_inj g2.1).symm
theorem res_ren (hr : Ren f l m) (hl : l.length < 1099511627776) (hc : (J0v l).1 = 0) (hc' : (J0v m).1 = 0) :
  (resN m).1 = (resN l).1 ∧ (outN m).2.rows.map noName = (outN l).2.rows.map noName ∧ (outN m).2.queues.length = (outN l).2.queues.length ∧ (outN m).2.vars.length = (outN l).2.vars.length ∧ (outN m).2.tags.length = (outN l).2.tags.length ∧
   (outN m).2.rules = (outN l).2.rules ∧ (outN m).2.on = (outN l).2.on ∧ (outN m).2.miss = (outN l).2.miss := by
 have ht := J8d (J5d hc)
 have ht' := J8d (J5d hc')
 have hk := kids_ren hr
 have hE := ends_same ht ht' hk hl
 obtain ⟨a, b, c⟩ := go_ren hr (E := J0o l) ht ht' J3T l.length 0 (s0N l) (s0N m) (by omega) (inv0 l) (inv0 m) ⟨hr.shape, rfl, rfl, rfl, rfl, rfl, rfl, rfl, fun t h => by simp [s0N] at h⟩
 have hlg : J2K (goN (J0o l) l.length 0 (s0N m)).2.2.rows (J0o l) (goN (J0o l) l.length 0 (s0N m)).2.2.rules = J2K (goN (J0o l) l.length 0 (s0N l)).2.2.rows (J0o l) (goN (J0o l) l.length 0 (s0N l)).2.2.rules := by
  rw [← largeN_noName, c.rows, largeN_noName, c.u]
 have el : resN l = if (goN (J0o l) l.length 0 (s0N l)).1 ≠ 0 then (((goN (J0o l) l.length 0 (s0N l)).1, ((goN (J0o l) l.length 0 (s0N l)).2.1 : Int)), s0N l) else if J2K (goN (J0o l) l.length 0 (s0N l)).2.2.rows (J0o l) (goN (J0o l) l.length 0 (s0N l)).2.2.rules ≥ 0 then ((34, J2K (goN (J0o l) l.length 0 (s0N l)).2.2.rows (J0o l) (goN (J0o l) l.length 0 (s0N l)).2.2.rules), s0N l) else ((0, 0), (goN (J0o l) l.length 0 (s0N l)).2.2) := by
  unfold resN
  rw [if_neg (fun h => h hc)]
 have em : resN m = if (goN (J0o l) l.length 0 (s0N m)).1 ≠ 0 then (((goN (J0o l) l.length 0 (s0N m)).1, ((goN (J0o l) l.length 0 (s0N m)).2.1 : Int)), s0N m) else if J2K (goN (J0o l) l.length 0 (s0N m)).2.2.rows (J0o l) (goN (J0o l) l.length 0 (s0N m)).2.2.rules ≥ 0 then ((34, J2K (goN (J0o l) l.length 0 (s0N m)).2.2.rows (J0o l) (goN (J0o l) l.length 0 (s0N m)).2.2.rules), s0N m) else ((0, 0), (goN (J0o l) l.length 0 (s0N m)).2.2) := by
  unfold resN
  rw [if_neg (fun h => h hc'), hE, hk.1]
 have key : (resN m).1 = (resN l).1 ∧ ((resN l).1.1 = 0 → RelS f l (resN l).2 (resN m).2) := by
  rw [el, em, a, b, hlg]
  split
  ·rename_i h9
   exact ⟨rfl, fun h => absurd h h9⟩
  ·split
   ·exact ⟨rfl, fun h => by cases h⟩
   ·exact ⟨rfl, fun _ => c⟩
 refine ⟨key.1, ?_⟩
 by_cases h0 : (resN l).1.1 = 0
 ·have c := key.2 h0
  rw [JeO h0, JeO (by rw [key.1]; exact h0)]
  exact ⟨c.rows, c.q, c.v, c.t, c.u, c.o, c.ms⟩
 ·rw [Jg8 h0, Jg8 (by rw [key.1]; exact h0)]
  exact ⟨rfl, rfl, rfl, rfl, rfl, rfl, rfl⟩
end
theorem bin_cat {P : Program} {t : TypeId} {x y : Operand} {a b : ByteArray} (h : (a.size : Int) + b.size ≤ 9223372036854775807) : binS P .add t x y (.string a) (.string b) = some (.string (a ++ b)) := by
 have h' : ¬ (9223372036854775807 : Int) < a.size + b.size := by omega
 simp [binS, flat, J1i, J0k, Go.eqGuard, Go.binOp, Op.stringOp, Bind.bind, Sem.bind, Pure.pure, h']
theorem sz5 : szOf Tryd.prog 5 = some 1 := by kernel_rfl
theorem zero5 : J1w Tryd.prog 5 = some (.int .u8 0) := by kernel_rfl
theorem bs101 {h : SHeap} {a b c d : Int} : J0Q Tryd.prog h 101 4 [(0, .int .u8 a), (1, .int .u8 b), (2, .int .u8 c), (3, .int .u8 d)] = some (.slice (some ⟨h.next, 0, none⟩) 4 4, h.push (.row [.int .u8 a, .int .u8 b, .int .u8 c, .int .u8 d] 5 false false)) := by
 have hc : ∀ x : Int, (Value.int .u8 x).cells = #[.int .u8 x] := fun _ => rfl
 simp [J0Q, Tryd.underlying101, sz5, zero5, flat, J1i, hc, J5k, J3e, Go.Sx.lay]
theorem conv35 {h : SHeap} {n : Int} : Jbc Tryd.prog h 3 5 (iv n) = some (.int .u8 (IntKind.u8.wrap n)) := by
 simp only [Jbc, Tryd.underlying3, Tryd.underlying5]
def numB (c : Int) (n : Nat) : ByteArray := ⟨#[UInt8.ofNat c.toNat, UInt8.ofNat (48 + n / 100), UInt8.ofNat (48 + n / 10 % 10), UInt8.ofNat (48 + n % 10)]⟩
theorem wrap8 {n : Int} (h : 0 ≤ n) (h2 : n < 256) : IntKind.u8.wrap n = n := by
 simp [IntKind.wrap, IntKind.bits, IntKind.signed]
 omega
theorem conv101 {h : SHeap} {a : Int} {b c d : Nat} : Jbc Tryd.prog (h.push (.row [.int .u8 a, .int .u8 b, .int .u8 c, .int .u8 d] 5 false false)) 101 9 (.slice (some ⟨h.next, 0, none⟩) 4 4) = some (.string ⟨#[UInt8.ofNat a.toNat, UInt8.ofNat b, UInt8.ofNat c, UInt8.ofNat d]⟩) := by
 have hs : J16 (h.push (.row [.int .u8 a, .int .u8 b, .int .u8 c, .int .u8 d] 5 false false)) 1 4 (.slice (some ⟨h.next, 0, none⟩) 4 4) = some [.int .u8 a, .int .u8 b, .int .u8 c, .int .u8 d] := by
  simp [J16, J0h, cut]
 simp only [Jbc, Tryd.underlying101, Tryd.underlying9, Tryd.underlying5, hs, J5f]
 rfl
section
variable {call : J0r} {N n : Nat} {h : SHeap}
set_option maxHeartbeats 4000000 in
theorem numbered_walk {c : Int} {k : Nat} (hk : k < 1000) : ∃ h', J0L Tryd.prog call N 29 [.int .u8 c, iv k] h = some (.string (numB c k), h') ∧ ∀ i, i < h.next → h'.get i = h.get i := by
 refine J1N (R := fun h' => ∀ i, i < h.next → h'.get i = h.get i) Tryd.func29 rfl (by simp [Tryd.f29]) ?_
 have hr : Tryd.f29.results.toList = [.tmp 4] := rfl
 have b1 := JjO (P := Tryd.prog) (t := 3) (x := .tmp 6) (y := .const (.int .i64 100)) (k := .i64) (a := (k : Int)) (show (100 : Int) ≠ 0 by decide)
 have b2 := JjO (P := Tryd.prog) (t := 3) (x := .tmp 10) (y := .const (.int .i64 10)) (k := .i64) (a := (k : Int)) (show (10 : Int) ≠ 0 by decide)
 have b3 := Jjy (P := Tryd.prog) (t := 3) (x := .tmp 11) (y := .const (.int .i64 10)) (k := .i64) (a := ((k / 10 : Nat) : Int)) (show (10 : Int) ≠ 0 by decide)
 have b4 := Jjy (P := Tryd.prog) (t := 3) (x := .tmp 15) (y := .const (.int .i64 10)) (k := .i64) (a := (k : Int)) (show (10 : Int) ≠ 0 by decide)
 have t1 : (k : Int).tdiv 100 = ((k / 100 : Nat) : Int) := by rw [Int.tdiv_eq_ediv_of_nonneg (by omega)]; omega
 have t2 : (k : Int).tdiv 10 = ((k / 10 : Nat) : Int) := by rw [Int.tdiv_eq_ediv_of_nonneg (by omega)]; omega
 have t3 : ((k / 10 : Nat) : Int).tmod 10 = ((k / 10 % 10 : Nat) : Int) := by rw [Int.tmod_eq_emod_of_nonneg (by omega)]; omega
 have t4 : (k : Int).tmod 10 = ((k % 10 : Nat) : Int) := by rw [Int.tmod_eq_emod_of_nonneg (by omega)]; omega
 rw [t1, J0s (by omega) (by omega)] at b1
 rw [t2, J0s (by omega) (by omega)] at b2
 rw [t3] at b3
 rw [t4] at b4
 have w1 : IntKind.i64.wrap (48 + ((k / 100 : Nat) : Int)) = ((48 + k / 100 : Nat) : Int) := by rw [J0s (by omega) (by omega)]; omega
 have w2 : IntKind.i64.wrap (48 + ((k / 10 % 10 : Nat) : Int)) = ((48 + k / 10 % 10 : Nat) : Int) := by rw [J0s (by omega) (by omega)]; omega
 have w3 : IntKind.i64.wrap (48 + ((k % 10 : Nat) : Int)) = ((48 + k % 10 : Nat) : Int) := by rw [J0s (by omega) (by omega)]; omega
 have u1 : IntKind.u8.wrap ((48 + k / 100 : Nat) : Int) = ((48 + k / 100 : Nat) : Int) := wrap8 (by omega) (by omega)
 have u2 : IntKind.u8.wrap ((48 + k / 10 % 10 : Nat) : Int) = ((48 + k / 10 % 10 : Nat) : Int) := wrap8 (by omega) (by omega)
 have u3 : IntKind.u8.wrap ((48 + k % 10 : Nat) : Int) = ((48 + k % 10 : Nat) : Int) := wrap8 (by omega) (by omega)
 have hcv := conv101 (h := h) (a := c) (b := 48 + k / 100) (c := 48 + k / 10 % 10) (d := 48 + k % 10)
 simp only [evC, seval, ↓evP, b1, b2, b3, b4, w1, w2, w3, conv35, u1, u2, u3, bs101, hcv, hr]
 exact ⟨rfl, fun i hi => J06 hi⟩
theorem k_numbered {c : Int} {k : Nat} (hk : k < 1000) (hn : 0 < n) : J0T n 29 [.int .u8 c, iv k] h = some (.string (numB c k), h) := by
 obtain ⟨n, rfl⟩ : ∃ j, n = j + 1 := ⟨n - 1, by omega⟩
 exact J4r (J13 ⟨rfl, rfl, rfl⟩) rfl (numbered_walk hk)
def frstN : List RowN → ByteArray → Nat → Nat
 | [], _, _ => 0
 | x :: l, nm, i => if (x.name == nm) = true then i else frstN l nm (i + 1)
def standN (l : List RowN) (nm : ByteArray) : Bool := l.any fun x => x.name == nm
set_option maxHeartbeats 4000000 in
theorem first_walk {l : List RowN} {v : Value} {nm : ByteArray} (hv : J0l h v l) (hl : l.length < 900000000) (hN : l.length + 3 < N) : J0L Tryd.prog call N 33 [v, .string nm] h = some (iv (frstN l nm 0 : Nat), h) := by
 refine J1m Tryd.func33 rfl (by simp [Tryd.f33]) ?_
 have hr : Tryd.f33.results.toList = [.tmp 4] := rfl
 have hlen := fun h' => hv.len (h' := h')
 simp only [evC, seval, ↓evP]
 refine WK.loop (fun i s' => s'.T.get 0 = v ∧ s'.T.get 1 = .string nm ∧ s'.T.get 5 = iv i ∧ i ≤ l.length ∧ s'.h = h ∧ frstN (l.drop i) nm i = frstN l nm 0) l.length (by omega) ?_ ?_
 ·exact ⟨by simp only [evC, seval, ↓evP, rpC], by simp only [evC, seval, ↓evP, rpC], by simp only [evC, seval, ↓evP, rpC], by omega, rfl, rfl⟩
 rintro i ⟨T1, H1⟩ hi ⟨t0, t1, t5, hil, hh, hfi⟩
 simp only at t0 t1 t5 hh
 subst hh
 by_cases hlt : i < l.length
 ·have c1 : decide ((i : Int) < (l.length : Int)) = true := by simp; omega
  obtain ⟨x, hx⟩ : ∃ x, l[i]? = some x := ⟨_, List.getElem?_eq_getElem hlt⟩
  obtain ⟨id, p, e0, _, l0, l1, _⟩ := hv.row hx
  have w1 : IntKind.i64.wrap ((i : Int) + 1) = ((i + 1 : Nat) : Int) := J0s (by omega) (by omega)
  have hd : l.drop i = x :: l.drop (i + 1) := by
   obtain ⟨hl', he⟩ := List.getElem?_eq_some_iff.1 hx
   rw [List.drop_eq_getElem_cons hl', he]
  rw [hd] at hfi
  change (if (x.name == nm) = true then i else frstN (l.drop (i + 1)) nm (i + 1)) = _ at hfi
  cases d : (x.name == nm) with
  | true =>
   rw [if_pos d] at hfi
   rw [← hfi]
   simp only [evC, seval, ↓evP, hr, t0, t1, t5, hlen, c1, e0, J07, J0d, l1, J1y, d]
  | false =>
   rw [if_neg (by rw [d]; simp)] at hfi
   simp only [evC, seval, ↓evP, t0, t1, t5, hlen, c1, e0, J07, J0d, l1, J1y, d, w1]
   exact ⟨hlt, by omega, hfi⟩
 have c1 : decide ((i : Int) < (l.length : Int)) = false := by simp; omega
 rw [List.drop_of_length_le (by omega)] at hfi
 rw [← hfi]
 simp only [evC, seval, ↓evP, hr, t0, t1, t5, hlen, c1]
 rfl
theorem k_first {l : List RowN} {v : Value} {nm : ByteArray} (hv : J0l h v l) (hl : l.length < 900000000) (hn : l.length + 5 < n) : J0T n 33 [v, .string nm] h = some (iv (frstN l nm 0 : Nat), h) := by
 obtain ⟨n, rfl⟩ : ∃ j, n = j + 1 := ⟨n - 1, by omega⟩
 exact J6r (J13 ⟨rfl, rfl, rfl⟩) rfl (first_walk hv hl (by omega))
set_option maxHeartbeats 4000000 in
theorem standB_walk {l : List RowN} {v : Value} {nm : ByteArray} (hv : J0l h v l) (hl : l.length < 900000000) (hN : l.length + 3 < N) : J0L Tryd.prog call N 34 [v, .string nm] h = some (.bool (standN l nm), h) := by
 refine J1m Tryd.func34 rfl (by simp [Tryd.f34]) ?_
 have hr : Tryd.f34.results.toList = [.tmp 4] := rfl
 have hlen := fun h' => hv.len (h' := h')
 simp only [evC, seval, ↓evP]
 refine WK.loop (fun i s' => s'.T.get 0 = v ∧ s'.T.get 1 = .string nm ∧ s'.T.get 5 = iv i ∧ i ≤ l.length ∧ s'.h = h ∧ standN (l.drop i) nm = standN l nm) l.length (by omega) ?_ ?_
 ·exact ⟨by simp only [evC, seval, ↓evP, rpC], by simp only [evC, seval, ↓evP, rpC], by simp only [evC, seval, ↓evP, rpC], by omega, rfl, rfl⟩
 rintro i ⟨T1, H1⟩ hi ⟨t0, t1, t5, hil, hh, hfi⟩
 simp only at t0 t1 t5 hh
 subst hh
 by_cases hlt : i < l.length
 ·have c1 : decide ((i : Int) < (l.length : Int)) = true := by simp; omega
  obtain ⟨x, hx⟩ : ∃ x, l[i]? = some x := ⟨_, List.getElem?_eq_getElem hlt⟩
  obtain ⟨id, p, e0, _, l0, l1, _⟩ := hv.row hx
  have w1 : IntKind.i64.wrap ((i : Int) + 1) = ((i + 1 : Nat) : Int) := J0s (by omega) (by omega)
  have hd : l.drop i = x :: l.drop (i + 1) := by
   obtain ⟨hl', he⟩ := List.getElem?_eq_some_iff.1 hx
   rw [List.drop_eq_getElem_cons hl', he]
  rw [hd] at hfi
  change ((x.name == nm) || standN (l.drop (i + 1)) nm) = _ at hfi
  cases d : (x.name == nm) with
  | true =>
   rw [d, Bool.true_or] at hfi
   have hst : standN l nm = true := hfi.symm
   rw [hst]
   simp only [evC, seval, ↓evP, hr, t0, t1, t5, hlen, c1, e0, J07, J0d, l1, J1y, d]
  | false =>
   rw [d, Bool.false_or] at hfi
   simp only [evC, seval, ↓evP, t0, t1, t5, hlen, c1, e0, J07, J0d, l1, J1y, d, w1]
   exact ⟨hlt, by omega, hfi⟩
 have c1 : decide ((i : Int) < (l.length : Int)) = false := by simp; omega
 rw [List.drop_of_length_le (by omega)] at hfi
 rw [← hfi]
 simp only [evC, seval, ↓evP, hr, t0, t1, t5, hlen, c1]
 rfl
theorem k_standB {l : List RowN} {v : Value} {nm : ByteArray} (hv : J0l h v l) (hl : l.length < 900000000) (hn : l.length + 5 < n) : J0T n 34 [v, .string nm] h = some (.bool (standN l nm), h) := by
 obtain ⟨n, rfl⟩ : ∃ j, n = j + 1 := ⟨n - 1, by omega⟩
 exact J6r (J13 ⟨rfl, rfl, rfl⟩) rfl (standB_walk hv hl (by omega))
end
theorem first_at {nm : ByteArray} : ∀ (l : List RowN) (i : Nat), (∃ x ∈ l, x.name = nm) → ∃ (k : Nat) (x : RowN), frstN l nm i = i + k ∧ l[k]? = some x ∧ x.name = nm
 | [], i, h => by obtain ⟨x, hx, _⟩ := h; cases hx
 | y :: l, i, h => by
  unfold frstN
  by_cases he : y.name = nm
  ·rw [if_pos (by rw [he]; exact J34 _)]
   exact ⟨0, y, rfl, rfl, he⟩
  ·rw [if_neg (by rw [bytes_false he]; simp)]
   obtain ⟨x, hx, hn⟩ := h
   have hx' : x ∈ l := by
    rcases List.mem_cons.1 hx with rfl | h9
    ·exact absurd hn he
    ·exact h9
   obtain ⟨k, z, h1, h2, h3⟩ := first_at l (i + 1) ⟨x, hx', hn⟩
   exact ⟨k + 1, z, by rw [h1]; omega, h2, h3⟩
theorem first_le {nm : ByteArray} {l : List RowN} : frstN l nm 0 ≤ l.length := by
 by_cases h : ∃ x ∈ l, x.name = nm
 ·obtain ⟨k, x, h1, h2, _⟩ := first_at l 0 h
  have := (List.getElem?_eq_some_iff.1 h2).1
  omega
 ·have : ∀ (l : List RowN) (i : Nat), (∀ x ∈ l, x.name ≠ nm) → frstN l nm i = 0 := by
   intro l
   induction l with
   | nil => intro i _; rfl
   | cons y l ih =>
    intro i h9
    unfold frstN
    rw [if_neg (by rw [bytes_false (h9 y (List.mem_cons_self ..))]; simp)]
    exact ih (i + 1) fun x hx => h9 x (List.mem_cons_of_mem _ hx)
  rw [this l 0 fun x hx he => h ⟨x, hx, he⟩]
  exact Nat.zero_le _
theorem stands_iff {l : List RowN} {nm : ByteArray} : standN l nm = false → ∀ x ∈ l, nm ≠ x.name := fun h x hx he => by
 have : standN l nm = true := List.any_eq_true.2 ⟨x, hx, by rw [he]; exact J34 _⟩
 rw [this] at h
 cases h
abbrev barB : ByteArray := ⟨#[95]⟩
def newN (l : List RowN) (w nm : ByteArray) : ByteArray := ((barB ++ w) ++ barB) ++ numB 110 (frstN l nm 0)
theorem u8_inj {a b : Nat} (ha : a < 256) (hb : b < 256) (h : UInt8.ofNat a = UInt8.ofNat b) : a = b := by
 have := congrArg UInt8.toNat h
 simpa [UInt8.toNat_ofNat', Nat.mod_eq_of_lt ha, Nat.mod_eq_of_lt hb] using this
theorem num_inj {c : Int} {a b : Nat} (ha : a < 1000) (hb : b < 1000) (h : numB c a = numB c b) : a = b := by
 unfold numB at h
 simp only [ByteArray.mk.injEq, Array.mk.injEq, List.cons.injEq, and_true, true_and] at h
 obtain ⟨h1, h2, h3⟩ := h
 have e1 := u8_inj (by omega) (by omega) h1
 have e2 := u8_inj (by omega) (by omega) h2
 have e3 := u8_inj (by omega) (by omega) h3
 omega
theorem app_cancel {p a b : ByteArray} (h : p ++ a = p ++ b) : a = b := by
 have h1 := congrArg (fun x : ByteArray => x.data.toList) h
 simp only [ByteArray.data_append, Array.toList_append] at h1
 have h2 := List.append_cancel_left h1
 cases a; cases b
 simp only [ByteArray.mk.injEq]
 exact Array.ext' h2
theorem new_inj {l : List RowN} {w a b : ByteArray} (hl : l.length < 1000) (ha : DeclA l a) (hb : DeclA l b) (h : newN l w a = newN l w b) : a = b := by
 obtain ⟨x, hx, _, hxa⟩ := ha
 obtain ⟨y, hy, _, hyb⟩ := hb
 obtain ⟨j, u, h1, h2, h3⟩ := first_at l 0 ⟨x, hx, hxa⟩
 obtain ⟨k, z, h4, h5, h6⟩ := first_at l 0 ⟨y, hy, hyb⟩
 have hj := (List.getElem?_eq_some_iff.1 h2).1
 have hk := (List.getElem?_eq_some_iff.1 h5).1
 have := num_inj (by omega) (by omega) (app_cancel h)
 have hjk : j = k := by omega
 subst hjk
 rw [h2] at h5
 cases h5
 rw [← h3, ← h6]
theorem J0p.put {lo : Nat} {h : SHeap} {v : Value} {n w : Nat} {cs : List Value} (hc : J0p lo h v n w cs) {id q : Nat} {R : List Value} {ty : TypeId} {g : Bool} {a b : Int} (hg : h.get id = .row R ty g false) (hid : id < h.next) (hq : R[q]? = some (iv a)) (hno : ∀ x ∈ cs, ∀ c, x ≠ iv c) :
  J0p lo (h.put id (.row (R.set q (iv b)) ty g false)) v n w cs := by
 obtain ⟨hl, ad, c, rfl, h1 | ⟨i, off, row, ty', g', ro, rfl, h1, h2, h3, h4⟩⟩ := hc
 ·exact ⟨hl, _, _, rfl, .inl h1⟩
 ·by_cases hi : i = id
  ·subst hi
   rw [hg] at h1
   cases h1
   refine ⟨hl, _, _, rfl, .inr ⟨i, off, _, _, _, _, rfl, J0b rfl hid, h2, ?_, h4⟩⟩
   rw [← h3]
   apply List.ext_getElem?
   intro j
   rw [List.getElem?_take, List.getElem?_take]
   split
   ·rename_i hj
    rw [List.getElem?_drop, List.getElem?_drop, List.getElem?_set]
    split
    ·rename_i hqj
     exfalso
     have : cs[j]? = some (iv a) := by rw [← h3, List.getElem?_take_of_lt hj, List.getElem?_drop, ← hqj]; exact hq
     exact hno _ (List.mem_of_getElem? this) a rfl
    ·rfl
   ·rfl
  ·exact ⟨hl, _, _, rfl, .inr ⟨i, off, row, ty', g', ro, rfl, by rw [J05 hid (Ne.symm hi)]; exact h1, h2, h3, h4⟩⟩
theorem J1S.put {lo : Nat} {h : SHeap} {v : Value} {l : List Int} (hc : J1S lo h v l) {id q : Nat} {R : List Value} {ty : TypeId} {g : Bool} {b : Int} (hg : h.get id = .row R ty g false) (hid : id < h.next) :
  ∃ l', l'.length = l.length ∧ J1S lo (h.put id (.row (R.set q (iv b)) ty g false)) v l' := by
 obtain ⟨hl, ad, c, rfl, h1 | ⟨i, off, row, ty', g', ro, rfl, h1, h2, h3, h4⟩⟩ := hc
 ·exact ⟨l, rfl, hl, _, _, rfl, .inl h1⟩
 ·by_cases hi : i = id
  ·subst hi
   rw [hg] at h1
   cases h1
   refine ⟨if off ≤ q then l.set (q - off) b else l, by split <;> simp, ?_⟩
   have hlen : (if off ≤ q then l.set (q - off) b else l).length = l.length := by split <;> simp
   refine ⟨by rw [J1h, Nat.mul_one], _, _, by rw [hlen], .inr ⟨i, off, _, _, _, _, rfl, J0b rfl hid, h2, ?_, h4⟩⟩
   rw [hlen]
   apply List.ext_getElem?
   intro j
   have hj3 : ((R.drop off).take (l.length * 1))[j]? = (ints l)[j]? := by rw [h3]
   rw [List.getElem?_take] at hj3 ⊢
   split
   ·rename_i hj
    rw [if_pos hj, List.getElem?_drop] at hj3
    rw [List.getElem?_drop, List.getElem?_set]
    split
    ·rename_i hqj
     have h7 : off + j < R.length := by
      rcases Nat.lt_or_ge (off + j) R.length with h9 | h9
      ·exact h9
      ·rw [List.getElem?_eq_none h9, J6g, List.getElem?_eq_getElem (by omega)] at hj3
       cases hj3
     rw [if_pos (by omega), J6g, if_pos (by omega), List.getElem?_set, if_pos (by omega), if_pos (by omega)]
     rfl
    ·rename_i hqj
     rw [hj3, J6g, J6g]
     split
     ·rw [List.getElem?_set_ne (by omega)]
     ·rfl
   ·rename_i hj
    rw [List.getElem?_eq_none (by rw [J1h, hlen]; omega)]
  ·exact ⟨l, rfl, hl, _, _, rfl, .inr ⟨i, off, row, ty', g', ro, rfl, by rw [J05 hid (Ne.symm hi)]; exact h1, h2, h3, h4⟩⟩
theorem k_namesR {n : Nat} {h : SHeap} {k : Int} (hk : 1 ≤ k ∧ k ≤ 54) : J0T n 32 [iv k] h = some (iv (J1O k), h) := J2Z (J1M (k := 12) (Jfb k h hk))
theorem k_declaresR {n : Nat} {h : SHeap} {k : Int} (hk : 1 ≤ k ∧ k ≤ 54) : J0T n 31 [iv k] h = some (iv (J0j k), h) := J2Z (J1M (k := 12) (Jgc k h hk))
theorem neq33 {x y : Operand} {a b c d : Int} : binS Tryd.prog .neq 33 x y (J2R a b) (J2R c d) = some (.bool (!(a == c && b == d))) := by
 have e : J0k Tryd.prog (do eqGuard .neq 33 x y (J2R a b) (J2R c d); binOp .neq 33 (J2R a b) (J2R c d)) = some (.bool (!(a == c && b == d))) := by
  rw [J0c]
  have g : J0k Tryd.prog (eqGuard .neq 33 x y (J2R a b) (J2R c d)) = some () := by
   unfold eqGuard
   simp [J0c, J1a, J0C, JgZ]
  rw [g]
  show J0k Tryd.prog ((do pure (.bool (!(← Op.equal 33 (J2R a b) (J2R c d))))) : Sem Value) = _
  rw [J0c]
  have k : J0k Tryd.prog (Op.equal 33 (J2R a b) (J2R c d)) = some (a == c && b == d) := JgG 9998
  rw [k]
  rfl
 simp only [binS, J8W, Bool.and_self, if_true, e, J2F]
noncomputable def ops8_13 : Array Oper := J18 Tryd.f8 13
def fs8_13 : List (Bool × Bool × List Operand) := [(false, false, []), (false, false, []), (false, false, []), (false, false, []), (false, false, []), (false, false, []), (false, false, []), (false, false, []), (false, true, []), (false, true, []), (false, true, []), (false, true, []), (false, true, []), (false, true, [.tmp 61]), (false, true, [.tmp 61]), (false, true, [.tmp 61]), (false, true, [.tmp 61]), (false, true, [.tmp 61]), (false, false, []), (false, false, []), (false, false, []), (false, false, []), (false, false, []), (false, false, []), (false, false, []), (false, false, []), (false, false, []), (false, false, []), (false, false, []), (false, false, []), (false, false, []), (false, false, []), (false, false, []), (false, false, []), (false, false, []), (false, false, []), (false, false, []), (false, false, [])]
theorem flags8_13 : J1E ops8_13 = fs8_13 := by kernel_rfl
theorem gd8_13 : (ops8_13[7]?).bind (·.dst) = some 57 ∧ (ops8_13[20]?).bind (·.dst) = some 70 ∧ (ops8_13[28]?).bind (·.dst) = some 78 := ⟨by kernel_rfl, by kernel_rfl, by kernel_rfl⟩
noncomputable def ops8_29 : Array Oper := J18 Tryd.f8 29
def fs8_29 : List (Bool × Bool × List Operand) := [(false, true, []), (false, true, [.tmp 15]), (false, true, [.tmp 15]), (false, true, [.tmp 15, .tmp 188]), (false, true, [.tmp 15]), (false, true, [.tmp 15]), (false, false, [])]
theorem flags8_29 : J1E ops8_29 = fs8_29 := by kernel_rfl
def matchB (y x : RowN) : Bool := (J0j y.kind != 0) && ((y.name == x.name) && ((J1O x.kind != 0) || (J0j x.kind != 0)))
section
variable {n N : Nat}
set_option maxHeartbeats 64000000 in
theorem ren_look {T : Tr} {H : SHeap} {K : Kont} {l : List RowN} {v w m : Value} {i k : Nat} {x y : RowN} (hv : J0l H v l) (hx : l[i]? = some x) (hy : l[k]? = some y) (kx : 1 ≤ x.kind ∧ x.kind ≤ 54) (ky : 1 ≤ y.kind ∧ y.kind ≤ 54)
  (t0 : T.get 0 = v) (t1 : T.get 1 = w) (t6 : T.get 6 = m) (t7 : T.get 7 = iv i) (t8 : T.get 8 = iv k)
  (hk : ∀ T', T'.get 0 = v → T'.get 1 = w → T'.get 6 = m → T'.get 7 = iv i → T'.get 8 = iv k → T'.get 87 = .bool (matchB y x) → K.ap Tryd.prog (Jb4 n) N .normal ⟨T', H⟩) : WK Tryd.prog (Jb4 n) N (.region 13 ops8_13 true) ⟨T, H⟩ K := by
 have hsn := (JaT n).2
 obtain ⟨ix, px, ex, _, x0, x1, _⟩ := hv.row hx
 obtain ⟨iy, py, ey, _, y0, y1, _⟩ := hv.row hy
 have hNx := fun H => t_k (n := n) (by decide) (k_namesR (n := n) (h := H) kx)
 have hCx := fun H => t_k (n := n) (by decide) (k_declaresR (n := n) (h := H) kx)
 have hCy := fun H => t_k (n := n) (by decide) (k_declaresR (n := n) (h := H) ky)
 have hmb : matchB y x = ((J0j y.kind != 0) && ((y.name == x.name) && ((J1O x.kind != 0) || (J0j x.kind != 0)))) := rfl
 rw [hmb] at hk
 refine WK.flags (ops := ops8_13) flags8_13 ?_
 refine WKF.begin ?_
 cases c1 : (J0j y.kind != 0) <;> cases c2 : (y.name == x.name) <;> cases c3 : (J1O x.kind != 0) <;> cases c4 : (J0j x.kind != 0)
 all_goals
  rw [c1, c2, c3, c4] at hk
  have FF := And.intro @JcC (And.intro gd8_13.1 (And.intro gd8_13.2.1 (And.intro gd8_13.2.2 (And.intro @t0 (And.intro @t7 (And.intro @t8 (And.intro @ex (And.intro @ey (And.intro @J0t (And.intro @J07 (And.intro @J0m (And.intro @J0d (And.intro @x0 (And.intro @x1 (And.intro @y0 (And.intro @y1 (And.intro @hNx (And.intro @hCx (And.intro @hCy (And.intro @c1 (And.intro @c2 (And.intro @c3 (And.intro @c4 (And.intro @J1y (And.intro @JiM (And.intro @J0J (And.intro @J1g @Jk2)))))))))))))))))))))))))))
  refine wst hsn 0 (some 50) (.move (.tmp 0)) none ?_
  simp only [rgC, seval, J04, J02, WKFC, FF]
  refine wst hsn 1 (some 51) (.move (.tmp 8)) none ?_
  simp only [rgC, seval, J04, J02, WKFC, FF]
  refine wst hsn 2 (some 52) (.indexAddr 22 (.tmp 50) (.tmp 51)) none ?_
  simp only [rgC, seval, J04, J02, WKFC, Nat.zero_add, FF]
  refine wst hsn 3 (some 53) (.fieldAddr 46 (.tmp 52) 0) none ?_
  simp only [rgC, seval, J04, J02, WKFC, Nat.zero_add, FF]
  refine wst hsn 4 (some 54) (.load 3 (.tmp 53)) none ?_
  simp only [rgC, seval, J04, J02, WKFC, rgL, FF]
  refine wst hsn 5 (some 55) (.call { callee := .value (.func 31), args := #[.tmp 54], argTypes := #[3] }) none ?_
  simp only [rgC, seval, J04, J02, WKFC, rgK, FF]
  refine wst hsn 6 (some 56) (.binOp .neq 3 (.tmp 55) (.const (Value.int IntKind.i64 0)) 3) none ?_
  simp only [rgC, seval, J04, J02, WKFC, rgB, FF]
  refine wst hsn 7 (some 57) (.move (.tmp 56)) none ?_
  simp only [rgC, seval, J04, J02, WKFC, FF]
  refine wst hsn 8 (some 58) (.move (.tmp 0)) (some (7, true)) ?_
  simp only [rgC, seval, J04, J02, WKFC, FF]
  refine wst hsn 9 (some 59) (.move (.tmp 8)) (some (7, true)) ?_
  simp only [rgC, seval, J04, J02, WKFC, FF]
  refine wst hsn 10 (some 60) (.indexAddr 22 (.tmp 58) (.tmp 59)) (some (7, true)) ?_
  simp only [rgC, seval, J04, J02, WKFC, Nat.zero_add, FF]
  refine wst hsn 11 (some 61) (.fieldAddr 46 (.tmp 60) 1) (some (7, true)) ?_
  simp only [rgC, seval, J04, J02, WKFC, Nat.zero_add, FF]
  refine wst hsn 12 (some 62) (.load 9 (.tmp 61)) (some (7, true)) ?_
  simp only [rgC, seval, J04, J02, WKFC, rgL, FF]
  refine wst hsn 13 (some 63) (.move (.tmp 0)) (some (7, true)) ?_
  simp only [rgC, seval, J04, J02, WKFC, FF]
  refine wst hsn 14 (some 64) (.move (.tmp 7)) (some (7, true)) ?_
  simp only [rgC, seval, J04, J02, WKFC, FF]
  refine wst hsn 15 (some 65) (.indexAddr 22 (.tmp 63) (.tmp 64)) (some (7, true)) ?_
  simp only [rgC, seval, J04, J02, WKFC, Nat.zero_add, FF]
  refine wst hsn 16 (some 66) (.fieldAddr 46 (.tmp 65) 1) (some (7, true)) ?_
  simp only [rgC, seval, J04, J02, WKFC, Nat.zero_add, FF]
  refine wst hsn 17 (some 67) (.load 9 (.tmp 66)) (some (7, true)) ?_
  simp only [rgC, seval, J04, J02, WKFC, rgL, FF]
  refine wst hsn 18 (some 68) (.binOp .eql 9 (.tmp 62) (.tmp 67) 9) (some (7, true)) ?_
  simp only [rgC, seval, J04, J02, WKFC, rgB, FF]
  refine wst hsn 19 (some 69) (.pick (.tmp 57) (.tmp 68) (.const (Value.bool false))) none ?_
  simp only [rgC, seval, J04, J02, WKFC, FF]
  refine wst hsn 20 (some 70) (.move (.tmp 69)) none ?_
  simp only [rgC, seval, J04, J02, WKFC, FF]
  refine wst hsn 21 (some 71) (.move (.tmp 0)) (some (20, true)) ?_
  simp only [rgC, seval, J04, J02, WKFC, FF]
  refine wst hsn 22 (some 72) (.move (.tmp 7)) (some (20, true)) ?_
  simp only [rgC, seval, J04, J02, WKFC, FF]
  refine wst hsn 23 (some 73) (.indexAddr 22 (.tmp 71) (.tmp 72)) (some (20, true)) ?_
  simp only [rgC, seval, J04, J02, WKFC, Nat.zero_add, FF]
  refine wst hsn 24 (some 74) (.fieldAddr 46 (.tmp 73) 0) (some (20, true)) ?_
  simp only [rgC, seval, J04, J02, WKFC, Nat.zero_add, FF]
  refine wst hsn 25 (some 75) (.load 3 (.tmp 74)) (some (20, true)) ?_
  simp only [rgC, seval, J04, J02, WKFC, rgL, FF]
  refine wst hsn 26 (some 76) (.call { callee := .value (.func 32), args := #[.tmp 75], argTypes := #[3] }) (some (20, true)) ?_
  simp only [rgC, seval, J04, J02, WKFC, rgK, FF]
  refine wst hsn 27 (some 77) (.binOp .neq 3 (.tmp 76) (.const (Value.int IntKind.i64 0)) 3) (some (20, true)) ?_
  simp only [rgC, seval, J04, J02, WKFC, rgB, FF]
  refine wst hsn 28 (some 78) (.move (.tmp 77)) (some (20, true)) ?_
  simp only [rgC, seval, J04, J02, WKFC, FF]
  refine wst hsn 29 (some 79) (.move (.tmp 0)) (some (28, false)) ?_
  simp only [rgC, seval, J04, J02, WKFC, FF]
  refine wst hsn 30 (some 80) (.move (.tmp 7)) (some (28, false)) ?_
  simp only [rgC, seval, J04, J02, WKFC, FF]
  refine wst hsn 31 (some 81) (.indexAddr 22 (.tmp 79) (.tmp 80)) (some (28, false)) ?_
  simp only [rgC, seval, J04, J02, WKFC, Nat.zero_add, FF]
  refine wst hsn 32 (some 82) (.fieldAddr 46 (.tmp 81) 0) (some (28, false)) ?_
  simp only [rgC, seval, J04, J02, WKFC, Nat.zero_add, FF]
  refine wst hsn 33 (some 83) (.load 3 (.tmp 82)) (some (28, false)) ?_
  simp only [rgC, seval, J04, J02, WKFC, rgL, FF]
  refine wst hsn 34 (some 84) (.call { callee := .value (.func 31), args := #[.tmp 83], argTypes := #[3] }) (some (28, false)) ?_
  simp only [rgC, seval, J04, J02, WKFC, rgK, FF]
  refine wst hsn 35 (some 85) (.binOp .neq 3 (.tmp 84) (.const (Value.int IntKind.i64 0)) 3) (some (28, false)) ?_
  simp only [rgC, seval, J04, J02, WKFC, rgB, FF]
  refine wst hsn 36 (some 86) (.pick (.tmp 78) (.const (Value.bool true)) (.tmp 85)) (some (20, true)) ?_
  simp only [rgC, seval, J04, J02, WKFC, FF]
  refine wst hsn 37 (some 87) (.pick (.tmp 70) (.tmp 86) (.const (Value.bool false))) none ?_
  simp only [rgC, seval, J04, J02, WKFC, FF]
  refine WKF.done (i := 38) (by kernel_rfl) ?_
  clear FF
  exact hk _ (by simp only [evC, seval, ↓evP, rpC, t0]) (by simp only [evC, seval, ↓evP, rpC, t1]) (by simp only [evC, seval, ↓evP, rpC, t6]) (by simp only [evC, seval, ↓evP, rpC, t7]) (by simp only [evC, seval, ↓evP, rpC, t8]) (by simp only [evC, seval, ↓evP, rpC, Bool.false_and, Bool.true_and, Bool.and_false, Bool.or_false, Bool.or_true, Bool.or_self, Bool.and_self])
end
end Go.Proofs.YtipekdhneagdbaaDoor
