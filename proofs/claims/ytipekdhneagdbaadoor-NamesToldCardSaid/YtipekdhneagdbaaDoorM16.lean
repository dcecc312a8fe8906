/- Part 16 of what the claim leans on: 9 texts laid one behind another. -/
import Derived.Test.YtipekdhneagdbaaDoorM15
import Derived.OpenShut
import Derived.WalkKit
import Derived.Carry
import Derived.ChangeArms
namespace Go.Proofs.YtipekdhneagdbaaDoor
open Go Go.Sx Go.ChangeShapes Go.WideShapes Go.ChangeAt Go.RowKit
set_option maxRecDepth 100000
set_option linter.unusedSimpArgs false
set_option linter.unusedVariables false
theorem J9Y : Tryd.prog.cellsOf 46 = 5 := by kernel_rfl
theorem Jag : Tryd.prog.cellsOf 3 = 1 := by kernel_rfl
theorem Jhu : Tryd.prog.cellsOf 9 = 1 := by kernel_rfl
def Jd7 (x : RowN) : Prop := (-9223372036854775808 ≤ x.kind ∧ x.kind ≤ 9223372036854775807) ∧ (-9223372036854775808 ≤ x.ends ∧ x.ends ≤ 9223372036854775807) ∧ (-9223372036854775808 ≤ x.n ∧ x.n ≤ 9223372036854775807) ∧ (-9223372036854775808 ≤ x.kids ∧ x.kids ≤ 9223372036854775807)
section
variable {H : Type} {enc : TypeId × Value → H} {W : World} {base : Nat} {sp : Nat → Bool} {hd : Bool}
theorem JcH {n : Nat} {cs : List Value} {y : DataW H × List MemPlace} (h : DataW.trod enc Tryd.prog W base sp hd n 46 cs = some y) : ∃ x : RowN, cs = J0e x ∧ Jd7 x := by
 obtain ⟨xs, m, _, _, hl, hxl, hf⟩ := DataW.trod_struct Tryd.underlying46 h
 rw [J9Y] at hl
 obtain ⟨c0, c1, c2, c3, c4, rfl⟩ : ∃ c0 c1 c2 c3 c4, cs = [c0, c1, c2, c3, c4] := by
  match cs, hl with
  | [a, b, c, d, e], _ => exact ⟨a, b, c, d, e, rfl⟩
 have hxl : xs.length = 5 := hxl
 have g : ∀ i, i < 5 → ∃ y, xs[i]? = some y := fun i hi => ⟨_, List.getElem?_eq_getElem (by omega)⟩
 obtain ⟨y0, e0⟩ := g 0 (by omega)
 obtain ⟨y1, e1⟩ := g 1 (by omega)
 obtain ⟨y2, e2⟩ := g 2 (by omega)
 obtain ⟨y3, e3⟩ := g 3 (by omega)
 obtain ⟨y4, e4⟩ := g 4 (by omega)
 have f0 : DataW.trod enc Tryd.prog W base sp hd m 3 (([c0, c1, c2, c3, c4].drop 0).take (Tryd.prog.cellsOf 3)) = xs[0]? := hf 0 _ rfl
 rw [Jag, e0] at f0
 have f1 : DataW.trod enc Tryd.prog W base sp hd m 9 (([c0, c1, c2, c3, c4].drop 1).take (Tryd.prog.cellsOf 9)) = xs[1]? := hf 1 _ rfl
 rw [Jhu, e1] at f1
 have f2 : DataW.trod enc Tryd.prog W base sp hd m 3 (([c0, c1, c2, c3, c4].drop 2).take (Tryd.prog.cellsOf 3)) = xs[2]? := hf 2 _ rfl
 rw [Jag, e2] at f2
 have f3 : DataW.trod enc Tryd.prog W base sp hd m 3 (([c0, c1, c2, c3, c4].drop 3).take (Tryd.prog.cellsOf 3)) = xs[3]? := hf 3 _ rfl
 rw [Jag, e3] at f3
 have f4 : DataW.trod enc Tryd.prog W base sp hd m 3 (([c0, c1, c2, c3, c4].drop 4).take (Tryd.prog.cellsOf 3)) = xs[4]? := hf 4 _ rfl
 rw [Jag, e4] at f4
 obtain ⟨a, ha, _, wa⟩ := DataW.trod_int Tryd.underlying3 f0
 obtain ⟨b, hb, _, wb⟩ := DataW.trod_string Tryd.underlying9 f1
 obtain ⟨c, hc, _, wc⟩ := DataW.trod_int Tryd.underlying3 f2
 obtain ⟨d, hd, _, wd⟩ := DataW.trod_int Tryd.underlying3 f3
 obtain ⟨e, he, _, we⟩ := DataW.trod_int Tryd.underlying3 f4
 cases ha
 cases hb
 cases hc
 cases hd
 cases he
 exact ⟨⟨a, b, c, d, e⟩, rfl, bounds_i64 wa, bounds_i64 wc, bounds_i64 wd, bounds_i64 we⟩
end
theorem J9W {b off k : Nat} : (⟨b, off, none⟩ : Addr).add k = ⟨b, off + k, none⟩ := by
 unfold Addr.add
 split
 ·rename_i e; subst e; rfl
 ·rfl
theorem Jen {W : World} {base b off n : Nat} {cs : List Value} (h : W.cells? base ⟨b, off, none⟩ n = some cs) : cs.length = n ∧ ∀ i, i < n → W.cell? ⟨b, off + i, none⟩ = cs[i]? := by
 unfold World.cells? at h
 split at h
 ·refine ⟨by simpa using mapM_some_length h, fun i hi => ?_⟩
  have := mapM_some_get h i i (by simp [hi])
  rw [← this, J9W]
 ·cases h
def JhL (W : World) (v : Value) (l : List RowN) : Prop := (∀ x ∈ l, Jd7 x) ∧ ((v = .slice none 0 0 ∧ l = []) ∨
 ∃ b off cap CS ty fr, v = .slice (some ⟨b, off, none⟩) l.length cap ∧ l.length ≤ cap ∧ cap < unk ∧ W.heap[b]? = some (.cells CS ty fr) ∧ ∀ (k : Nat) x, l[k]? = some x → ∀ j, j < 5 → CS[off + k * 5 + j]? = (J0e x)[j]?)
theorem JgT {H : Type} {enc : TypeId × Value → H} {W : World} {base : Nat} {v : Value} {d : DataW H} {p : List MemPlace} (hval : Value.okWide Tryd.prog W .any base 22 v) (h : DataW.Trod enc Tryd.prog W 0 (fun _ => true) true 22 v d p) :
  ∃ l : List RowN, JhL W v l := by
 obtain ⟨a, len, cap, rfl⟩ := okWide_slice Tryd.underlying22 hval
 obtain ⟨fuel, hf⟩ := h
 have hcs : (Value.slice a len cap).cells.toList = [Value.slice a len cap] := rfl
 rw [hcs] at hf
 rcases DataW.trod_slice Tryd.underlying22 hf with ⟨h1, h2⟩ | ⟨a', len', cap', elems, rest, n, _, h1, _, hb, hl, hm, hlen, hel, _⟩
 ·cases h1
  exact ⟨[], fun x hx => (by cases hx), .inl ⟨rfl, rfl⟩⟩
 ·cases h1
  have hk : Value.okWide Tryd.prog W .any base 22 (.slice (some a') len cap) := hval
  simp only [Value.okWide, Tryd.underlying22, Cell.okWide, Cell.ok] at hk
  obtain ⟨_, _, _, hsp, row, cells, hsh, _⟩ := hk
  obtain ⟨b, off, spot⟩ := a'
  simp only at hsp
  subst hsp
  have hblk : ∃ CS ty fr, W.heap[b]? = some (.cells CS ty fr) := by
   simp only [World.shape?] at hsh
   split at hsh
   ·rename_i CS ty fr hh; exact ⟨_, _, _, hh⟩
   ·cases hsh
  obtain ⟨CS, ty, fr, hblk⟩ := hblk
  have each : ∀ i, i < len → ∃ x : RowN, Jd7 x ∧ ∀ j, j < 5 → CS[off + i * 5 + j]? = (J0e x)[j]? := fun i hi => by
   have := hel i hi
   obtain ⟨y, hy⟩ : ∃ y, elems[i]? = some y := ⟨_, List.getElem?_eq_getElem (by omega)⟩
   rw [hy, J9W, J9Y, Option.bind_eq_some_iff] at this
   obtain ⟨cs, hcs, ht⟩ := this
   obtain ⟨x, rfl, hx⟩ := JcH ht
   obtain ⟨_, hc⟩ := Jen hcs
   refine ⟨x, hx, fun j hj => ?_⟩
   rw [← hc j hj]
   simp only [World.cell?, hblk, Option.isSome_none, Bool.false_eq_true, if_false]
  obtain ⟨l, hll, hl1⟩ : ∃ l : List RowN, l.length = len ∧ ∀ i x, l[i]? = some x → Jd7 x ∧ ∀ j, j < 5 → CS[off + i * 5 + j]? = (J0e x)[j]? := by
   have : ∀ m, m ≤ len → ∃ l : List RowN, l.length = m ∧ ∀ i x, l[i]? = some x → Jd7 x ∧ ∀ j, j < 5 → CS[off + i * 5 + j]? = (J0e x)[j]? := by
    intro m
    induction m with
    | zero => exact fun _ => ⟨[], rfl, fun i x h => by simp at h⟩
    | succ m ih =>
     intro hm
     obtain ⟨l, h1, h2⟩ := ih (by omega)
     obtain ⟨x, hx⟩ := each m (by omega)
     refine ⟨l ++ [x], by simp [h1], fun i y hy => ?_⟩
     rcases Nat.lt_or_ge i l.length with h3 | h3
     ·rw [List.getElem?_append_left h3] at hy
      exact h2 i y hy
     ·rw [List.getElem?_append_right h3] at hy
      have : i - l.length = 0 := by
       rcases Nat.eq_zero_or_pos (i - l.length) with h4 | h4
       ·exact h4
       ·rw [List.getElem?_eq_none (by simp; omega)] at hy
        cases hy
      rw [this] at hy
      cases hy
      have : i = m := by omega
      subst this
      exact hx
   exact this len (Nat.le_refl _)
  unfold maxLen at hm
  refine ⟨l, fun x hx => ?_, .inr ⟨b, off, cap, CS, ty, fr, by rw [hll], by omega, by unfold unk; omega, hblk, fun k x hk => (hl1 k x hk).2⟩⟩
  obtain ⟨i, hi⟩ := List.getElem?_of_mem hx
  exact (hl1 i x hi).1
def Jik (l : List RowN) : SHeap := ⟨2, 0, .node (.row J5v 9 false true) (.node (.row (l.flatMap J0e) 46 false true) .leaf .leaf) .leaf⟩
theorem J6t : ∀ {l : List RowN} {i : Nat} {v : Value}, (l.flatMap J0e)[i]? = some v → ∃ x, l[i / 5]? = some x ∧ (J0e x)[i % 5]? = some v
 | [], i, v, h => by simp at h
 | x :: l, i, v, h => by
  rw [List.flatMap_cons] at h
  have h5 : (J0e x).length = 5 := rfl
  rcases Nat.lt_or_ge i 5 with h1 | h1
  ·rw [List.getElem?_append_left (by omega)] at h
   exact ⟨x, by rw [Nat.div_eq_of_lt h1]; rfl, by rw [Nat.mod_eq_of_lt h1]; exact h⟩
  ·rw [List.getElem?_append_right (by omega), h5] at h
   obtain ⟨y, h2, h3⟩ := J6t h
   refine ⟨y, ?_, ?_⟩
   ·rw [show i / 5 = (i - 5) / 5 + 1 by omega]
    exact h2
   ·rw [show i % 5 = (i - 5) % 5 by omega]
    exact h3
theorem J7Q {x : RowN} {j : Nat} {v : Value} (h : (J0e x)[j]? = some v) : J1i v = true := by
 match j, h with
 | 0, h => cases h; rfl
 | 1, h => cases h; rfl
 | 2, h => cases h; rfl
 | 3, h => cases h; rfl
 | 4, h => cases h; rfl
theorem relR {W : World} (h : laidMetH Tryd.prog [("winnow/lex.words", Rows.laid_winnow_lex_words)] W) {v : Value} {l : List RowN} (hv : JhL W v l) :
  ∃ hp ρ sv, Rel Tryd.prog ρ hp W ∧ (∀ i, ¬ wr (hp.get i)) ∧ vrel ρ sv v ∧ J0l hp sv l ∧ hp.good ∧ hp.floor = 0 ∧ hp.get 0 = J14 ∧ 0 < hp.next := by
 obtain ⟨hin, hor⟩ := hv
 rcases hor with ⟨rfl, rfl⟩ | ⟨b, off, cap, CS, ty, fr, rfl, hcp, hc, hb, hall⟩
 ·obtain ⟨hR, hw⟩ := rel0 h
  exact ⟨Jfv, map0, .slice none 0 0, hR, hw, .flat rfl, ⟨none, 0, rfl, .inl ⟨rfl, rfl⟩⟩, rfl, rfl, rfl, by decide⟩
 ·obtain ⟨CS0, ty0, fr0, hb0, hcs0⟩ := J5Q (zs := J2D) (rest := []) JfI J7e Tryd.underlying145 Tryd.underlying9 JfP J7w h
  have hro := Jcz (P := Tryd.prog) (W := W) (ρ := fun i => if i = 0 then some ⟨0, 0, 0, 0⟩ else if i = 1 then some ⟨b, off, 0, 0⟩ else none) (h := Jik l) rfl (fun i hi => by
    have : 2 ≤ i := hi
    rw [if_neg (by omega), if_neg (by omega)]) (fun g hg => by
    rw [Jg1] at hg
    obtain rfl : g = 0 := by omega
    exact ⟨_, rfl, rfl, rfl⟩) (fun i hi => by
    have hi' : i < 2 := hi
    rcases (show i = 0 ∨ i = 1 by omega) with rfl | rfl
    ·refine ⟨J5v, 9, false, ⟨0, 0, 0, 0⟩, CS0, ty0, fr0, rfl, rfl, hb0, fun k v hv => ⟨v, ?_, ?_⟩⟩
     ·have : CS0.toList[k]? = some v := by rw [hcs0]; exact hv
      simpa using this
     ·have hm : v ∈ J5v := List.mem_of_getElem? hv
      obtain ⟨z, _, rfl⟩ := List.mem_map.1 hm
      exact .flat rfl
    ·refine ⟨l.flatMap J0e, 46, false, ⟨b, off, 0, 0⟩, CS, ty, fr, rfl, rfl, hb, fun k v hv => ?_⟩
     obtain ⟨x, hx, hv'⟩ := J6t hv
     refine ⟨v, ?_, .flat (J7Q hv')⟩
     have := hall (k / 5) x hx (k % 5) (Nat.mod_lt _ (by decide))
     rw [hv'] at this
     rw [← this]
     congr 1
     show off + k = _
     have := Nat.div_add_mod k 5
     omega)
  refine ⟨Jik l, _, .slice (some ⟨1, 0, none⟩) l.length cap, hro.1, hro.2, ?_, ?_, rfl, rfl, rfl, (show 0 < 2 by decide)⟩
  ·exact vrel.slice (L := ⟨b, off, 0, 0⟩) rfl hc
  ·refine ⟨_, _, rfl, .inr ⟨1, 0, _, _, _, _, rfl, rfl, (show 1 < 2 by decide), fun k r hk => ?_⟩⟩
   rw [Nat.zero_add]
   exact J2Y hk
end Go.Proofs.YtipekdhneagdbaaDoor
namespace Go.Proofs.YtipekdhneagdbaaDoor
open Go Go.Sx
set_option maxRecDepth 100000
set_option linter.unusedSimpArgs false
set_option linter.unusedVariables false
def J5z (a b : RowN) : Bool := a.kind == b.kind && (a.name == b.name && (a.ends == b.ends && (a.n == b.n && a.kids == b.kids)))
theorem eqs {P : Program} {t : TypeId} {a b : ByteArray} (h : P.underlying t = some .string) (d : Nat) : J0k P (Op.equalIn (d + 1) t (.string a) (.string b)) = some (a == b) := by
 rw [Op.equalIn, J0c, J1R h]
 simp [J0C]
theorem eqb {P : Program} {t : TypeId} {a b : Bool} (h : P.underlying t = some .bool) (d : Nat) : J0k P (Op.equalIn (d + 1) t (.bool a) (.bool b)) = some (a == b) := by
 rw [Op.equalIn, J0c, J1R h]
 simp [J0C]
theorem JdG : Tryd.prog.eqGuardType Tryd.prog.depth 46 = false := by kernel_rfl
theorem JfU : Tryd.prog.stoodInHeld 46 = false := by kernel_rfl
theorem JcM : Tryd.prog.eqGuardType Tryd.prog.depth 57 = false := by kernel_rfl
theorem Jgu : Tryd.prog.stoodInHeld 57 = false := by kernel_rfl
theorem J3f {a c d e : Int} {b : ByteArray} : J0k Tryd.prog (part 3 #[.int .i64 a, .string b, .int .i64 c, .int .i64 d, .int .i64 e] 0) = some (.int .i64 a) ∧ J0k Tryd.prog (part 9 #[.int .i64 a, .string b, .int .i64 c, .int .i64 d, .int .i64 e] 1) = some (.string b) ∧ J0k Tryd.prog (part 3 #[.int .i64 a, .string b, .int .i64 c, .int .i64 d, .int .i64 e] 2) = some (.int .i64 c) ∧
  J0k Tryd.prog (part 3 #[.int .i64 a, .string b, .int .i64 c, .int .i64 d, .int .i64 e] 3) = some (.int .i64 d) ∧ J0k Tryd.prog (part 3 #[.int .i64 a, .string b, .int .i64 c, .int .i64 d, .int .i64 e] 4) = some (.int .i64 e) := ⟨rfl, rfl, rfl, rfl, rfl⟩
theorem JeF {a : ByteArray} {b : Bool} : J0k Tryd.prog (part 9 #[.string a, .bool b] 0) = some (.string a) ∧ J0k Tryd.prog (part 4 #[.string a, .bool b] 1) = some (.bool b) := ⟨rfl, rfl⟩
theorem Jgj {a b : RowN} (n : Nat) : J0k Tryd.prog (Op.equalIn (n + 2) 46 (rowV a) (rowV b)) = some (J5z a b) := by
 obtain ⟨a1, a2, a3, a4, a5⟩ := a
 obtain ⟨b1, b2, b3, b4, b5⟩ := b
 show J0k Tryd.prog (Op.equalIn (n + 2) 46 (.agg #[.int .i64 a1, .string a2, .int .i64 a3, .int .i64 a4, .int .i64 a5]) (.agg #[.int .i64 b1, .string b2, .int .i64 b3, .int .i64 b4, .int .i64 b5])) = some (a1 == b1 && (a2 == b2 && (a3 == b3 && (a4 == b4 && a5 == b5))))
 rw [Op.equalIn, J0c, J1R Tryd.underlying46]
 simp only [Option.bind_some, J0c, J1a, JfU, Bool.false_eq_true, if_false, J0C]
 simp only [List.forIn_toArray, List.forIn_cons, List.forIn_nil, ne_eq, String.reduceEq, not_false_eq_true, if_true, J0c, J3f.1, J3f.2.1, J3f.2.2.1, J3f.2.2.2.1, J3f.2.2.2.2, Option.bind_some, eqi Tryd.underlying3, eqs Tryd.underlying9]
 cases h1 : (a1 == b1) <;> simp [J0c, J0C, J3f.1, J3f.2.1, J3f.2.2.1, J3f.2.2.2.1, J3f.2.2.2.2, eqi Tryd.underlying3, eqs Tryd.underlying9, h1, -beq_iff_eq, -beq_eq_false_iff_ne]
 cases h2 : (a2 == b2) <;> simp [J0c, J0C, J3f.1, J3f.2.1, J3f.2.2.1, J3f.2.2.2.1, J3f.2.2.2.2, eqi Tryd.underlying3, eqs Tryd.underlying9, h2, -beq_iff_eq, -beq_eq_false_iff_ne]
 cases h3 : (a3 == b3) <;> simp [J0c, J0C, J3f.1, J3f.2.1, J3f.2.2.1, J3f.2.2.2.1, J3f.2.2.2.2, eqi Tryd.underlying3, eqs Tryd.underlying9, h3, -beq_iff_eq, -beq_eq_false_iff_ne]
 cases h4 : (a4 == b4) <;> simp [J0c, J0C, J3f.1, J3f.2.1, J3f.2.2.1, J3f.2.2.2.1, J3f.2.2.2.2, eqi Tryd.underlying3, eqs Tryd.underlying9, h4, -beq_iff_eq, -beq_eq_false_iff_ne]
 cases h5 : (a5 == b5) <;> simp [J0c, J0C, h5, -beq_iff_eq, -beq_eq_false_iff_ne]
theorem Jhb {a c : ByteArray} {b d : Bool} (n : Nat) : J0k Tryd.prog (Op.equalIn (n + 2) 57 (.agg #[.string a, .bool b]) (.agg #[.string c, .bool d])) = some (a == c && b == d) := by
 rw [Op.equalIn, J0c, J1R Tryd.underlying57]
 simp only [Option.bind_some, J0c, J1a, Jgu, Bool.false_eq_true, if_false, J0C]
 simp only [List.forIn_toArray, List.forIn_cons, List.forIn_nil, ne_eq, String.reduceEq, not_false_eq_true, if_true, J0c, JeF.1, JeF.2, Option.bind_some, eqs Tryd.underlying9, eqb Tryd.underlying4]
 cases h1 : (a == c) <;> simp [J0c, J0C, JeF.1, JeF.2, eqs Tryd.underlying9, eqb Tryd.underlying4, h1, -beq_iff_eq, -beq_eq_false_iff_ne]
 cases h2 : (b == d) <;> simp [J0c, J0C, h2, -beq_iff_eq, -beq_eq_false_iff_ne]
theorem J8z {a : RowN} : flat (rowV a) = true := rfl
theorem J7d {a : ByteArray} {b : Bool} : flat (.agg #[.string a, .bool b]) = true := rfl
section
variable {x y : Operand}
theorem JhG (op : BinOp) (neg : Bool) (hop : op = if neg then .neq else .eql) {a b : RowN} : binS Tryd.prog op 46 x y (rowV a) (rowV b) = some (.bool (if neg then !(J5z a b) else J5z a b)) := by
 have k : J0k Tryd.prog (Op.equal 46 (rowV a) (rowV b)) = some (J5z a b) := Jgj 9998
 cases neg with
 | true =>
  subst hop
  have e : J0k Tryd.prog (do eqGuard .neq 46 x y (rowV a) (rowV b); binOp .neq 46 (rowV a) (rowV b)) = some (.bool (!(J5z a b))) := by
   rw [J0c]
   have g : J0k Tryd.prog (eqGuard .neq 46 x y (rowV a) (rowV b)) = some () := by
    unfold eqGuard
    simp [J0c, J1a, J0C, JdG]
   rw [g]
   show J0k Tryd.prog ((do pure (.bool (!(← Op.equal 46 (rowV a) (rowV b))))) : Sem Value) = _
   rw [J0c, k]
   rfl
  simp only [binS, J8z, Bool.and_self, if_true, e, J2F]
 | false =>
  subst hop
  have e : J0k Tryd.prog (do eqGuard .eql 46 x y (rowV a) (rowV b); binOp .eql 46 (rowV a) (rowV b)) = some (.bool (J5z a b)) := by
   rw [J0c]
   have g : J0k Tryd.prog (eqGuard .eql 46 x y (rowV a) (rowV b)) = some () := by
    unfold eqGuard
    simp [J0c, J1a, J0C, JdG]
   rw [g]
   show J0k Tryd.prog ((do pure (.bool (← Op.equal 46 (rowV a) (rowV b)))) : Sem Value) = _
   rw [J0c, k]
   rfl
  simp only [Bool.false_eq_true, if_false, binS, J8z, Bool.and_self, if_true, e, J2F]
theorem J6U {a b : RowN} : binS Tryd.prog .neq 46 x y (rowV a) (rowV b) = some (.bool (!(J5z a b))) := JhG .neq true rfl
theorem Jie (op : BinOp) (neg : Bool) (hop : op = if neg then .neq else .eql) {a c : ByteArray} {b d : Bool} : binS Tryd.prog op 57 x y (.agg #[.string a, .bool b]) (.agg #[.string c, .bool d]) = some (.bool (if neg then !(a == c && b == d) else (a == c && b == d))) := by
 have k : J0k Tryd.prog (Op.equal 57 (.agg #[.string a, .bool b]) (.agg #[.string c, .bool d])) = some (a == c && b == d) := Jhb 9998
 cases neg with
 | true =>
  subst hop
  have e : J0k Tryd.prog (do eqGuard .neq 57 x y (.agg #[.string a, .bool b]) (.agg #[.string c, .bool d]); binOp .neq 57 (.agg #[.string a, .bool b]) (.agg #[.string c, .bool d])) = some (.bool (!(a == c && b == d))) := by
   rw [J0c]
   have g : J0k Tryd.prog (eqGuard .neq 57 x y (.agg #[.string a, .bool b]) (.agg #[.string c, .bool d])) = some () := by
    unfold eqGuard
    simp [J0c, J1a, J0C, JcM]
   rw [g]
   show J0k Tryd.prog ((do pure (.bool (!(← Op.equal 57 (.agg #[.string a, .bool b]) (.agg #[.string c, .bool d]))))) : Sem Value) = _
   rw [J0c, k]
   rfl
  simp only [binS, J7d, Bool.and_self, if_true, e, J2F]
 | false =>
  subst hop
  have e : J0k Tryd.prog (do eqGuard .eql 57 x y (.agg #[.string a, .bool b]) (.agg #[.string c, .bool d]); binOp .eql 57 (.agg #[.string a, .bool b]) (.agg #[.string c, .bool d])) = some (.bool (a == c && b == d)) := by
   rw [J0c]
   have g : J0k Tryd.prog (eqGuard .eql 57 x y (.agg #[.string a, .bool b]) (.agg #[.string c, .bool d])) = some () := by
    unfold eqGuard
    simp [J0c, J1a, J0C, JcM]
   rw [g]
   show J0k Tryd.prog ((do pure (.bool (← Op.equal 57 (.agg #[.string a, .bool b]) (.agg #[.string c, .bool d])))) : Sem Value) = _
   rw [J0c, k]
   rfl
  simp only [Bool.false_eq_true, if_false, binS, J7d, Bool.and_self, if_true, e, J2F]
theorem J6H {a c : ByteArray} {b d : Bool} : binS Tryd.prog .neq 57 x y (.agg #[.string a, .bool b]) (.agg #[.string c, .bool d]) = some (.bool (!(a == c && b == d))) := Jie .neq true rfl
end
theorem Jcs {a b : ByteArray} : (a == b) = true ↔ a = b := by
 obtain ⟨a⟩ := a
 obtain ⟨b⟩ := b
 show (a == b) = true ↔ _
 rw [beq_iff_eq, ByteArray.mk.injEq]
theorem J6E {a b : RowN} : J5z a b = true ↔ a = b := by
 obtain ⟨a1, a2, a3, a4, a5⟩ := a
 obtain ⟨b1, b2, b3, b4, b5⟩ := b
 unfold J5z
 simp only [Bool.and_eq_true, beq_iff_eq, Jcs, RowN.mk.injEq]
theorem JfF {lo : Nat} {h : SHeap} {v : Value} {n w : Nat} {cs : List Value} (hc : J0p lo h v n w cs) (h' : SHeap) : lenS Tryd.prog h' 28 v = some (iv (n : Int)) := J0p.len hc Tryd.underlying28
theorem JfT {lo : Nat} {h : SHeap} {v : Value} {n w : Nat} {cs : List Value} (hc : J0p lo h v n w cs) (h' : SHeap) : lenS Tryd.prog h' 27 v = some (iv (n : Int)) := J0p.len hc Tryd.underlying27
theorem JfC {lo : Nat} {h : SHeap} {v : Value} {n w : Nat} {cs : List Value} (hc : J0p lo h v n w cs) (h' : SHeap) : lenS Tryd.prog h' 26 v = some (iv (n : Int)) := J0p.len hc Tryd.underlying26
theorem JfA {lo : Nat} {h : SHeap} {v : Value} {n w : Nat} {cs : List Value} (hc : J0p lo h v n w cs) (h' : SHeap) : lenS Tryd.prog h' 22 v = some (iv (n : Int)) := J0p.len hc Tryd.underlying22
theorem Ja3 {l : List ByteArray} {i : Nat} {x : ByteArray} (hx : l[i]? = some x) {lo : Nat} {h : SHeap} {v : Value} (hc : J0p lo h v l.length 1 (strs l)) : ∃ id p, J0R Tryd.prog 27 v (iv (i : Int)) = some (.pointer (some ⟨id, p, none⟩)) ∧ id < h.next ∧ ld1 p (h.get id) = some (.string x) := by
 obtain ⟨id, p, h1, h2, h3⟩ := J0p.idx hc Tryd.underlying27 sz9 (List.getElem?_eq_some_iff.1 hx).1
 refine ⟨id, p, h1, h2, ?_⟩
 have := h3 0 (by decide)
 rw [Nat.add_zero] at this
 rw [this, Nat.mul_one, Nat.add_zero, strs, List.getElem?_map, hx]
 rfl
theorem J7n : ∀ {l : List (ByteArray × Bool)} {i : Nat} {x : ByteArray × Bool}, l[i]? = some x → ((J3S l).drop (i * 2)).take 2 = [.string x.1, .bool x.2]
 | [], i, x, h => by simp at h
 | q :: l, 0, x, h => by
  simp only [List.getElem?_cons_zero, Option.some.injEq] at h
  subst h
  rfl
 | q :: l, i + 1, x, h => by
  have := J7n (l := l) (i := i) (x := x) (by simpa using h)
  rw [← this, show (i + 1) * 2 = i * 2 + 2 by omega]
  rfl
theorem J8S {l : List (ByteArray × Bool)} {i : Nat} {x : ByteArray × Bool} (hx : l[i]? = some x) {lo : Nat} {h : SHeap} {v : Value} (hc : J0p lo h v l.length 2 (J3S l)) : ∃ id p, J0R Tryd.prog 26 v (iv (i : Int)) = some (.pointer (some ⟨id, p, none⟩)) ∧ id < h.next ∧ ldN 2 p (h.get id) = some (.agg #[.string x.1, .bool x.2]) := by
 obtain ⟨id, p, h1, h2, h3⟩ := J0p.whole hc Tryd.underlying26 sz57 (List.getElem?_eq_some_iff.1 hx).1
 rw [J7n hx] at h3
 exact ⟨id, p, h1, h2, h3⟩
theorem J4S {α : Type} {A B : List α} (hl : A.length = B.length) (h : ∀ j, j < A.length → A[j]? = B[j]?) : A = B := by
 apply List.ext_getElem?
 intro j
 rcases Nat.lt_or_ge j A.length with h1 | h1
 ·exact h j h1
 ·rw [List.getElem?_eq_none h1, List.getElem?_eq_none (by omega)]
theorem Jj5 : J2X Tryd.prog 57 = some true := by kernel_rfl
theorem J3z {h : SHeap} {id off : Nat} : J2x Tryd.prog h 57 (.pointer (some ⟨id, off, none⟩)) = ldN 2 off (h.get id) := J5S Jj5 sz57
section
variable {call : J0r} {N : Nat} {h : SHeap}
end
section
variable {call : J0r} {N : Nat} {h : SHeap}
end
def J5b (nm nm' : ByteArray) (s s' : StN) : Prop := nm = nm' ∧ s.miss = s'.miss ∧ s.rows = s'.rows ∧ s.queues = s'.queues ∧ s.vars = s'.vars ∧ s.tags = s'.tags ∧ s.rules = s'.rules ∧ s.on = s'.on
theorem Jhw {a b c d e f g i : Value} {ty : TypeId} {x y : Bool} : ld1 0 (.row [a, b, c, d, e, f, g, i] ty x y) = some a ∧ ld1 1 (.row [a, b, c, d, e, f, g, i] ty x y) = some b ∧ ld1 2 (.row [a, b, c, d, e, f, g, i] ty x y) = some c ∧ ld1 3 (.row [a, b, c, d, e, f, g, i] ty x y) = some d ∧ ld1 4 (.row [a, b, c, d, e, f, g, i] ty x y) = some e ∧ ld1 5 (.row [a, b, c, d, e, f, g, i] ty x y) = some f ∧ ld1 6 (.row [a, b, c, d, e, f, g, i] ty x y) = some g ∧ ld1 7 (.row [a, b, c, d, e, f, g, i] ty x y) = some i := ⟨rfl, rfl, rfl, rfl, rfl, rfl, rfl, rfl⟩
def JdC (s : StN) : Prop := s.rows.length < 1000000000 ∧ s.queues.length < 1000000000 ∧ s.vars.length < 1000000000 ∧ s.tags.length < 1000000000 ∧ s.rules.length < 1000000000 ∧ s.on.length < 1000000000
def Jbg (s : StN) : Nat := s.rows.length + s.queues.length + s.vars.length + s.tags.length + s.rules.length + s.on.length
section
variable {n N : Nat}
end
instance : DecidableEq RowN := fun _ _ => decidable_of_decidable_of_iff J6E
def fsEqP : List (Bool × Bool × List Operand) := [(false, true, []), (false, true, []), (false, true, []), (false, true, []), (false, true, [.tmp 18]), (false, true, [.tmp 18]), (false, true, [.tmp 18]), (false, true, [.tmp 18]), (false, false, [])]
noncomputable def opseqI : Array Oper := J18 Tryd.f69 6
theorem flagseqI : J1E opseqI = fsEqP := by kernel_rfl
set_option maxHeartbeats 4000000 in
theorem eqI_walk {call : J0r} {N : Nat} {h : SHeap} (hsn : J1G call) {va vb : Value} {A B : List Int} {la lb : Nat} (ha : J1S la h va A) (hb : J1S lb h vb B) (hN : A.length + 3 < N) (hl : A.length < 1099511627776) : J0L Tryd.prog call N 69 [va, vb] h = some (.bool (decide (A = B)), h) := by
 refine J1m Tryd.func69 rfl (by simp [Tryd.f69]) ?_
 have hr : Tryd.f69.results.toList = [.tmp 4] := rfl
 have lA := fun h' => JfF ha h'
 have lB := fun h' => JfF hb h'
 cases d : ((A.length : Int) != (B.length : Int)) with
 | true =>
  have hne : A ≠ B := fun e => by subst e; simp at d
  rw [decide_eq_false hne]
  simp only [evC, ↓reduceIte, Nat.reduceEqDiff, reduceCtorEq, ↓evP, hr, lA, lB, d]
 | false =>
  have hlen : A.length = B.length := by
   have h9 : (A.length : Int) = (B.length : Int) := by simpa using d
   omega
  simp only [evC, ↓reduceIte, Nat.reduceEqDiff, reduceCtorEq, ↓evP, lA, lB, d]
  refine WK.loop (fun i s' => s'.T.get 0 = va ∧ s'.T.get 1 = vb ∧ s'.T.get 12 = iv A.length ∧ s'.T.get 13 = iv i ∧ s'.h = h ∧ i ≤ A.length ∧ ∀ j, j < i → A[j]? = B[j]?) A.length (by omega) ?_ ?_
  ·exact ⟨by simp only [evC, ↓reduceIte, Nat.reduceEqDiff, reduceCtorEq, ↓evP, rpC, Nat.reduceAdd, Nat.reduceLT], by simp only [evC, ↓reduceIte, Nat.reduceEqDiff, reduceCtorEq, ↓evP, rpC, Nat.reduceAdd, Nat.reduceLT], by simp only [evC, ↓reduceIte, Nat.reduceEqDiff, reduceCtorEq, ↓evP, rpC, Nat.reduceAdd, Nat.reduceLT], by simp only [evC, ↓reduceIte, Nat.reduceEqDiff, reduceCtorEq, ↓evP, rpC, Nat.reduceAdd, Nat.reduceLT]; rfl, rfl, by omega, fun j hj => by omega⟩
  ·rintro i ⟨T1, H1⟩ hi ⟨t0, t1, t12, t13, hh, hil, hsame⟩
   simp only at t0 t1 t12 t13 hh
   subst hh
   by_cases hlt : i < A.length
   ·have c1 : decide ((i : Int) < (A.length : Int)) = true := by simp; omega
    obtain ⟨x, hx⟩ : ∃ x, A[i]? = some x := ⟨_, List.getElem?_eq_getElem hlt⟩
    obtain ⟨y, hy⟩ : ∃ y, B[i]? = some y := ⟨_, List.getElem?_eq_getElem (by omega)⟩
    obtain ⟨ida, pa, ea, _, xa⟩ := J1S.get ha hx
    obtain ⟨idb, pb, eb, _, xb⟩ := J1S.get hb hy
    have w1 : IntKind.i64.wrap ((i : Int) + 1) = ((i + 1 : Nat) : Int) := J0s (by omega) (by omega)
    simp only [evC, seval, ↓evP, t0, t1, t12, t13, c1]
    refine WK.flags (ops := opseqI) flagseqI ?_
    refine WKF.begin ?_
    have FF := And.intro @t0 (And.intro @t1 (And.intro @t12 (And.intro @t13 (And.intro @ea (And.intro @eb (And.intro @J0m (And.intro @xa (And.intro @xb @J4h))))))))
    refine wst hsn 0 (some 16) (.move (.tmp 0)) none ?_
    simp only [rgC, seval, J04, J02, WKFC, FF]
    refine wst hsn 1 (some 17) (.move (.tmp 5)) none ?_
    simp only [rgC, seval, J04, J02, WKFC, FF]
    refine wst hsn 2 (some 18) (.indexAddr 28 (.tmp 16) (.tmp 17)) none ?_
    simp only [rgC, seval, J04, J02, WKFC, Nat.zero_add, FF]
    refine wst hsn 3 (some 19) (.load 3 (.tmp 18)) none ?_
    simp only [rgC, seval, J04, J02, WKFC, rgL, FF]
    refine wst hsn 4 (some 20) (.move (.tmp 1)) none ?_
    simp only [rgC, seval, J04, J02, WKFC, FF]
    refine wst hsn 5 (some 21) (.move (.tmp 5)) none ?_
    simp only [rgC, seval, J04, J02, WKFC, FF]
    refine wst hsn 6 (some 22) (.indexAddr 28 (.tmp 20) (.tmp 21)) none ?_
    simp only [rgC, seval, J04, J02, WKFC, Nat.zero_add, FF]
    refine wst hsn 7 (some 23) (.load 3 (.tmp 22)) none ?_
    simp only [rgC, seval, J04, J02, WKFC, rgL, FF]
    refine wst hsn 8 (some 24) (.binOp .neq 3 (.tmp 19) (.tmp 23) 3) none ?_
    simp only [rgC, seval, J04, J02, WKFC, rgB, FF]
    refine WKF.done (i := 9) (by kernel_rfl) ?_
    clear FF
    cases e : (x != y) with
    | true =>
     have hne : A ≠ B := fun h9 => by
      subst h9
      rw [hx] at hy
      cases hy
      simp at e
     rw [decide_eq_false hne]
     simp only [evC, seval, ↓evP, hr, e]
    | false =>
     have hxy : x = y := by simpa using e
     simp only [evC, seval, ↓evP, t0, t1, t12, t13, e, w1]
     refine ⟨by omega, by omega, fun j hj => ?_⟩
     rcases Nat.lt_or_ge j i with h1 | h1
     ·exact hsame j h1
     ·have : j = i := by omega
      subst this
      rw [hx, hy, hxy]
   ·have c1 : decide ((i : Int) < (A.length : Int)) = false := by simp; omega
    have : i = A.length := by omega
    subst this
    have hAB : A = B := J4S hlen hsame
    rw [decide_eq_true hAB]
    simp only [evC, seval, ↓evP, hr, t0, t1, t12, t13, c1]
theorem k_eqI {n : Nat} {h : SHeap} {va vb : Value} {A B : List Int} {la lb : Nat} (ha : J1S la h va A) (hb : J1S lb h vb B) (hl : A.length < 1000000000) (hn : A.length + 5 < n) : J0T n 69 [va, vb] h = some (.bool (decide (A = B)), h) := by
 obtain ⟨n, rfl⟩ : ∃ j, n = j + 1 := ⟨n - 1, by omega⟩
 exact J6r (J13 ⟨rfl, rfl, rfl⟩) rfl (eqI_walk (J1z n).2 ha hb (by omega) (by omega))
noncomputable def opseqT : Array Oper := J18 Tryd.f68 6
theorem flagseqT : J1E opseqT = fsEqP := by kernel_rfl
set_option maxHeartbeats 4000000 in
theorem eqT_walk {call : J0r} {N : Nat} {h : SHeap} (hsn : J1G call) {va vb : Value} {A B : List ByteArray} {la lb : Nat} (ha : J0p la h va A.length 1 (strs A)) (hb : J0p lb h vb B.length 1 (strs B)) (hN : A.length + 3 < N) (hl : A.length < 1099511627776) : J0L Tryd.prog call N 68 [va, vb] h = some (.bool (decide (A = B)), h) := by
 refine J1m Tryd.func68 rfl (by simp [Tryd.f68]) ?_
 have hr : Tryd.f68.results.toList = [.tmp 4] := rfl
 have lA := fun h' => JfT ha h'
 have lB := fun h' => JfT hb h'
 cases d : ((A.length : Int) != (B.length : Int)) with
 | true =>
  have hne : A ≠ B := fun e => by subst e; simp at d
  rw [decide_eq_false hne]
  simp only [evC, ↓reduceIte, Nat.reduceEqDiff, reduceCtorEq, ↓evP, hr, lA, lB, d]
 | false =>
  have hlen : A.length = B.length := by
   have h9 : (A.length : Int) = (B.length : Int) := by simpa using d
   omega
  simp only [evC, ↓reduceIte, Nat.reduceEqDiff, reduceCtorEq, ↓evP, lA, lB, d]
  refine WK.loop (fun i s' => s'.T.get 0 = va ∧ s'.T.get 1 = vb ∧ s'.T.get 12 = iv A.length ∧ s'.T.get 13 = iv i ∧ s'.h = h ∧ i ≤ A.length ∧ ∀ j, j < i → A[j]? = B[j]?) A.length (by omega) ?_ ?_
  ·exact ⟨by simp only [evC, ↓reduceIte, Nat.reduceEqDiff, reduceCtorEq, ↓evP, rpC, Nat.reduceAdd, Nat.reduceLT], by simp only [evC, ↓reduceIte, Nat.reduceEqDiff, reduceCtorEq, ↓evP, rpC, Nat.reduceAdd, Nat.reduceLT], by simp only [evC, ↓reduceIte, Nat.reduceEqDiff, reduceCtorEq, ↓evP, rpC, Nat.reduceAdd, Nat.reduceLT], by simp only [evC, ↓reduceIte, Nat.reduceEqDiff, reduceCtorEq, ↓evP, rpC, Nat.reduceAdd, Nat.reduceLT]; rfl, rfl, by omega, fun j hj => by omega⟩
  ·rintro i ⟨T1, H1⟩ hi ⟨t0, t1, t12, t13, hh, hil, hsame⟩
   simp only at t0 t1 t12 t13 hh
   subst hh
   by_cases hlt : i < A.length
   ·have c1 : decide ((i : Int) < (A.length : Int)) = true := by simp; omega
    obtain ⟨x, hx⟩ : ∃ x, A[i]? = some x := ⟨_, List.getElem?_eq_getElem hlt⟩
    obtain ⟨y, hy⟩ : ∃ y, B[i]? = some y := ⟨_, List.getElem?_eq_getElem (by omega)⟩
    obtain ⟨ida, pa, ea, _, xa⟩ := Ja3 hx ha
    obtain ⟨idb, pb, eb, _, xb⟩ := Ja3 hy hb
    have w1 : IntKind.i64.wrap ((i : Int) + 1) = ((i + 1 : Nat) : Int) := J0s (by omega) (by omega)
    simp only [evC, seval, ↓evP, t0, t1, t12, t13, c1]
    refine WK.flags (ops := opseqT) flagseqT ?_
    refine WKF.begin ?_
    have FF := And.intro @t0 (And.intro @t1 (And.intro @t12 (And.intro @t13 (And.intro @ea (And.intro @eb (And.intro @J0d (And.intro @xa (And.intro @xb @J26))))))))
    refine wst hsn 0 (some 16) (.move (.tmp 0)) none ?_
    simp only [rgC, seval, J04, J02, WKFC, FF]
    refine wst hsn 1 (some 17) (.move (.tmp 5)) none ?_
    simp only [rgC, seval, J04, J02, WKFC, FF]
    refine wst hsn 2 (some 18) (.indexAddr 27 (.tmp 16) (.tmp 17)) none ?_
    simp only [rgC, seval, J04, J02, WKFC, Nat.zero_add, FF]
    refine wst hsn 3 (some 19) (.load 9 (.tmp 18)) none ?_
    simp only [rgC, seval, J04, J02, WKFC, rgL, FF]
    refine wst hsn 4 (some 20) (.move (.tmp 1)) none ?_
    simp only [rgC, seval, J04, J02, WKFC, FF]
    refine wst hsn 5 (some 21) (.move (.tmp 5)) none ?_
    simp only [rgC, seval, J04, J02, WKFC, FF]
    refine wst hsn 6 (some 22) (.indexAddr 27 (.tmp 20) (.tmp 21)) none ?_
    simp only [rgC, seval, J04, J02, WKFC, Nat.zero_add, FF]
    refine wst hsn 7 (some 23) (.load 9 (.tmp 22)) none ?_
    simp only [rgC, seval, J04, J02, WKFC, rgL, FF]
    refine wst hsn 8 (some 24) (.binOp .neq 9 (.tmp 19) (.tmp 23) 9) none ?_
    simp only [rgC, seval, J04, J02, WKFC, rgB, FF]
    refine WKF.done (i := 9) (by kernel_rfl) ?_
    clear FF
    cases e : (!(x == y)) with
    | true =>
     have hne : A ≠ B := fun h9 => by
      subst h9
      rw [hx] at hy
      cases hy
      rw [J34] at e; cases e
     rw [decide_eq_false hne]
     simp only [evC, seval, ↓evP, hr, e]
    | false =>
     have hxy : x = y := J3o (by simpa using e)
     simp only [evC, seval, ↓evP, t0, t1, t12, t13, e, w1]
     refine ⟨by omega, by omega, fun j hj => ?_⟩
     rcases Nat.lt_or_ge j i with h1 | h1
     ·exact hsame j h1
     ·have : j = i := by omega
      subst this
      rw [hx, hy, hxy]
   ·have c1 : decide ((i : Int) < (A.length : Int)) = false := by simp; omega
    have : i = A.length := by omega
    subst this
    have hAB : A = B := J4S hlen hsame
    rw [decide_eq_true hAB]
    simp only [evC, seval, ↓evP, hr, t0, t1, t12, t13, c1]
theorem k_eqT {n : Nat} {h : SHeap} {va vb : Value} {A B : List ByteArray} {la lb : Nat} (ha : J0p la h va A.length 1 (strs A)) (hb : J0p lb h vb B.length 1 (strs B)) (hl : A.length < 1000000000) (hn : A.length + 5 < n) : J0T n 68 [va, vb] h = some (.bool (decide (A = B)), h) := by
 obtain ⟨n, rfl⟩ : ∃ j, n = j + 1 := ⟨n - 1, by omega⟩
 exact J6r (J13 ⟨rfl, rfl, rfl⟩) rfl (eqT_walk (J1z n).2 ha hb (by omega) (by omega))
noncomputable def opseqQ : Array Oper := J18 Tryd.f67 6
theorem flagseqQ : J1E opseqQ = fsEqP := by kernel_rfl
set_option maxHeartbeats 4000000 in
theorem eqQ_walk {call : J0r} {N : Nat} {h : SHeap} (hsn : J1G call) {va vb : Value} {A B : List (ByteArray × Bool)} {la lb : Nat} (ha : J0p la h va A.length 2 (J3S A)) (hb : J0p lb h vb B.length 2 (J3S B)) (hN : A.length + 3 < N) (hl : A.length < 1099511627776) : J0L Tryd.prog call N 67 [va, vb] h = some (.bool (decide (A = B)), h) := by
 refine J1m Tryd.func67 rfl (by simp [Tryd.f67]) ?_
 have hr : Tryd.f67.results.toList = [.tmp 4] := rfl
 have lA := fun h' => JfC ha h'
 have lB := fun h' => JfC hb h'
 cases d : ((A.length : Int) != (B.length : Int)) with
 | true =>
  have hne : A ≠ B := fun e => by subst e; simp at d
  rw [decide_eq_false hne]
  simp only [evC, ↓reduceIte, Nat.reduceEqDiff, reduceCtorEq, ↓evP, hr, lA, lB, d]
 | false =>
  have hlen : A.length = B.length := by
   have h9 : (A.length : Int) = (B.length : Int) := by simpa using d
   omega
  simp only [evC, ↓reduceIte, Nat.reduceEqDiff, reduceCtorEq, ↓evP, lA, lB, d]
  refine WK.loop (fun i s' => s'.T.get 0 = va ∧ s'.T.get 1 = vb ∧ s'.T.get 12 = iv A.length ∧ s'.T.get 13 = iv i ∧ s'.h = h ∧ i ≤ A.length ∧ ∀ j, j < i → A[j]? = B[j]?) A.length (by omega) ?_ ?_
  ·exact ⟨by simp only [evC, ↓reduceIte, Nat.reduceEqDiff, reduceCtorEq, ↓evP, rpC, Nat.reduceAdd, Nat.reduceLT], by simp only [evC, ↓reduceIte, Nat.reduceEqDiff, reduceCtorEq, ↓evP, rpC, Nat.reduceAdd, Nat.reduceLT], by simp only [evC, ↓reduceIte, Nat.reduceEqDiff, reduceCtorEq, ↓evP, rpC, Nat.reduceAdd, Nat.reduceLT], by simp only [evC, ↓reduceIte, Nat.reduceEqDiff, reduceCtorEq, ↓evP, rpC, Nat.reduceAdd, Nat.reduceLT]; rfl, rfl, by omega, fun j hj => by omega⟩
  ·rintro i ⟨T1, H1⟩ hi ⟨t0, t1, t12, t13, hh, hil, hsame⟩
   simp only at t0 t1 t12 t13 hh
   subst hh
   by_cases hlt : i < A.length
   ·have c1 : decide ((i : Int) < (A.length : Int)) = true := by simp; omega
    obtain ⟨x, hx⟩ : ∃ x, A[i]? = some x := ⟨_, List.getElem?_eq_getElem hlt⟩
    obtain ⟨y, hy⟩ : ∃ y, B[i]? = some y := ⟨_, List.getElem?_eq_getElem (by omega)⟩
    obtain ⟨ida, pa, ea, _, xa⟩ := J8S hx ha
    obtain ⟨idb, pb, eb, _, xb⟩ := J8S hy hb
    have w1 : IntKind.i64.wrap ((i : Int) + 1) = ((i + 1 : Nat) : Int) := J0s (by omega) (by omega)
    simp only [evC, seval, ↓evP, t0, t1, t12, t13, c1]
    refine WK.flags (ops := opseqQ) flagseqQ ?_
    refine WKF.begin ?_
    have FF := And.intro @t0 (And.intro @t1 (And.intro @t12 (And.intro @t13 (And.intro @ea (And.intro @eb (And.intro @J3z (And.intro @xa (And.intro @xb @J6H))))))))
    refine wst hsn 0 (some 16) (.move (.tmp 0)) none ?_
    simp only [rgC, seval, J04, J02, WKFC, FF]
    refine wst hsn 1 (some 17) (.move (.tmp 5)) none ?_
    simp only [rgC, seval, J04, J02, WKFC, FF]
    refine wst hsn 2 (some 18) (.indexAddr 26 (.tmp 16) (.tmp 17)) none ?_
    simp only [rgC, seval, J04, J02, WKFC, Nat.zero_add, FF]
    refine wst hsn 3 (some 19) (.load 57 (.tmp 18)) none ?_
    simp only [rgC, seval, J04, J02, WKFC, rgL, FF]
    refine wst hsn 4 (some 20) (.move (.tmp 1)) none ?_
    simp only [rgC, seval, J04, J02, WKFC, FF]
    refine wst hsn 5 (some 21) (.move (.tmp 5)) none ?_
    simp only [rgC, seval, J04, J02, WKFC, FF]
    refine wst hsn 6 (some 22) (.indexAddr 26 (.tmp 20) (.tmp 21)) none ?_
    simp only [rgC, seval, J04, J02, WKFC, Nat.zero_add, FF]
    refine wst hsn 7 (some 23) (.load 57 (.tmp 22)) none ?_
    simp only [rgC, seval, J04, J02, WKFC, rgL, FF]
    refine wst hsn 8 (some 24) (.binOp .neq 57 (.tmp 19) (.tmp 23) 57) none ?_
    simp only [rgC, seval, J04, J02, WKFC, rgB, FF]
    refine WKF.done (i := 9) (by kernel_rfl) ?_
    clear FF
    cases e : (!(x.1 == y.1 && x.2 == y.2)) with
    | true =>
     have hne : A ≠ B := fun h9 => by
      subst h9
      rw [hx] at hy
      cases hy
      rw [J34] at e; simp at e
     rw [decide_eq_false hne]
     simp only [evC, seval, ↓evP, hr, e]
    | false =>
     have hxy : x = y := (by simp only [Bool.not_eq_false', Bool.and_eq_true] at e; exact Prod.ext (J3o e.1) (by simpa using e.2))
     simp only [evC, seval, ↓evP, t0, t1, t12, t13, e, w1]
     refine ⟨by omega, by omega, fun j hj => ?_⟩
     rcases Nat.lt_or_ge j i with h1 | h1
     ·exact hsame j h1
     ·have : j = i := by omega
      subst this
      rw [hx, hy, hxy]
   ·have c1 : decide ((i : Int) < (A.length : Int)) = false := by simp; omega
    have : i = A.length := by omega
    subst this
    have hAB : A = B := J4S hlen hsame
    rw [decide_eq_true hAB]
    simp only [evC, seval, ↓evP, hr, t0, t1, t12, t13, c1]
theorem k_eqQ {n : Nat} {h : SHeap} {va vb : Value} {A B : List (ByteArray × Bool)} {la lb : Nat} (ha : J0p la h va A.length 2 (J3S A)) (hb : J0p lb h vb B.length 2 (J3S B)) (hl : A.length < 1000000000) (hn : A.length + 5 < n) : J0T n 67 [va, vb] h = some (.bool (decide (A = B)), h) := by
 obtain ⟨n, rfl⟩ : ∃ j, n = j + 1 := ⟨n - 1, by omega⟩
 exact J6r (J13 ⟨rfl, rfl, rfl⟩) rfl (eqQ_walk (J1z n).2 ha hb (by omega) (by omega))
theorem lenRc {h : SHeap} {v : Value} {l : List RowN} (hv : J0l h v l) (h' : SHeap) : lenS Tryd.prog h' 22 v = some (iv (l.length : Int)) := hv.len
noncomputable def opseqR : Array Oper := J18 Tryd.f66 6
theorem flagseqR : J1E opseqR = fsEqP := by kernel_rfl
set_option maxHeartbeats 4000000 in
theorem eqR_walk {call : J0r} {N : Nat} {h : SHeap} (hsn : J1G call) {va vb : Value} {A B : List RowN} (ha : J0l h va A) (hb : J0l h vb B) (hN : A.length + 3 < N) (hl : A.length < 1099511627776) : J0L Tryd.prog call N 66 [va, vb] h = some (.bool (decide (A = B)), h) := by
 refine J1m Tryd.func66 rfl (by simp [Tryd.f66]) ?_
 have hr : Tryd.f66.results.toList = [.tmp 4] := rfl
 have lA := fun h' => lenRc ha h'
 have lB := fun h' => lenRc hb h'
 cases d : ((A.length : Int) != (B.length : Int)) with
 | true =>
  have hne : A ≠ B := fun e => by subst e; simp at d
  rw [decide_eq_false hne]
  simp only [evC, ↓reduceIte, Nat.reduceEqDiff, reduceCtorEq, ↓evP, hr, lA, lB, d]
 | false =>
  have hlen : A.length = B.length := by
   have h9 : (A.length : Int) = (B.length : Int) := by simpa using d
   omega
  simp only [evC, ↓reduceIte, Nat.reduceEqDiff, reduceCtorEq, ↓evP, lA, lB, d]
  refine WK.loop (fun i s' => s'.T.get 0 = va ∧ s'.T.get 1 = vb ∧ s'.T.get 12 = iv A.length ∧ s'.T.get 13 = iv i ∧ s'.h = h ∧ i ≤ A.length ∧ ∀ j, j < i → A[j]? = B[j]?) A.length (by omega) ?_ ?_
  ·exact ⟨by simp only [evC, ↓reduceIte, Nat.reduceEqDiff, reduceCtorEq, ↓evP, rpC, Nat.reduceAdd, Nat.reduceLT], by simp only [evC, ↓reduceIte, Nat.reduceEqDiff, reduceCtorEq, ↓evP, rpC, Nat.reduceAdd, Nat.reduceLT], by simp only [evC, ↓reduceIte, Nat.reduceEqDiff, reduceCtorEq, ↓evP, rpC, Nat.reduceAdd, Nat.reduceLT], by simp only [evC, ↓reduceIte, Nat.reduceEqDiff, reduceCtorEq, ↓evP, rpC, Nat.reduceAdd, Nat.reduceLT]; rfl, rfl, by omega, fun j hj => by omega⟩
  ·rintro i ⟨T1, H1⟩ hi ⟨t0, t1, t12, t13, hh, hil, hsame⟩
   simp only at t0 t1 t12 t13 hh
   subst hh
   by_cases hlt : i < A.length
   ·have c1 : decide ((i : Int) < (A.length : Int)) = true := by simp; omega
    obtain ⟨x, hx⟩ : ∃ x, A[i]? = some x := ⟨_, List.getElem?_eq_getElem hlt⟩
    obtain ⟨y, hy⟩ : ∃ y, B[i]? = some y := ⟨_, List.getElem?_eq_getElem (by omega)⟩
    obtain ⟨ida, pa, ea, _, _, _, _, _, _, xa9⟩ := J0l.row ha hx
    have xa : ldN 5 pa (H1.get ida) = some (rowV x) := xa9
    obtain ⟨idb, pb, eb, _, _, _, _, _, _, xb9⟩ := J0l.row hb hy
    have xb : ldN 5 pb (H1.get idb) = some (rowV y) := xb9
    have w1 : IntKind.i64.wrap ((i : Int) + 1) = ((i + 1 : Nat) : Int) := J0s (by omega) (by omega)
    simp only [evC, seval, ↓evP, t0, t1, t12, t13, c1]
    refine WK.flags (ops := opseqR) flagseqR ?_
    refine WKF.begin ?_
    have FF := And.intro @t0 (And.intro @t1 (And.intro @t12 (And.intro @t13 (And.intro @ea (And.intro @eb (And.intro @J0u (And.intro @xa (And.intro @xb @J6U))))))))
    refine wst hsn 0 (some 16) (.move (.tmp 0)) none ?_
    simp only [rgC, seval, J04, J02, WKFC, FF]
    refine wst hsn 1 (some 17) (.move (.tmp 5)) none ?_
    simp only [rgC, seval, J04, J02, WKFC, FF]
    refine wst hsn 2 (some 18) (.indexAddr 22 (.tmp 16) (.tmp 17)) none ?_
    simp only [rgC, seval, J04, J02, WKFC, Nat.zero_add, FF]
    refine wst hsn 3 (some 19) (.load 46 (.tmp 18)) none ?_
    simp only [rgC, seval, J04, J02, WKFC, rgL, FF]
    refine wst hsn 4 (some 20) (.move (.tmp 1)) none ?_
    simp only [rgC, seval, J04, J02, WKFC, FF]
    refine wst hsn 5 (some 21) (.move (.tmp 5)) none ?_
    simp only [rgC, seval, J04, J02, WKFC, FF]
    refine wst hsn 6 (some 22) (.indexAddr 22 (.tmp 20) (.tmp 21)) none ?_
    simp only [rgC, seval, J04, J02, WKFC, Nat.zero_add, FF]
    refine wst hsn 7 (some 23) (.load 46 (.tmp 22)) none ?_
    simp only [rgC, seval, J04, J02, WKFC, rgL, FF]
    refine wst hsn 8 (some 24) (.binOp .neq 46 (.tmp 19) (.tmp 23) 46) none ?_
    simp only [rgC, seval, J04, J02, WKFC, rgB, FF]
    refine WKF.done (i := 9) (by kernel_rfl) ?_
    clear FF
    cases e : (!(J5z x y)) with
    | true =>
     have hne : A ≠ B := fun h9 => by
      subst h9
      rw [hx] at hy
      cases hy
      rw [J6E.2 rfl] at e; cases e
     rw [decide_eq_false hne]
     simp only [evC, seval, ↓evP, hr, e]
    | false =>
     have hxy : x = y := J6E.1 (by simpa using e)
     simp only [evC, seval, ↓evP, t0, t1, t12, t13, e, w1]
     refine ⟨by omega, by omega, fun j hj => ?_⟩
     rcases Nat.lt_or_ge j i with h1 | h1
     ·exact hsame j h1
     ·have : j = i := by omega
      subst this
      rw [hx, hy, hxy]
   ·have c1 : decide ((i : Int) < (A.length : Int)) = false := by simp; omega
    have : i = A.length := by omega
    subst this
    have hAB : A = B := J4S hlen hsame
    rw [decide_eq_true hAB]
    simp only [evC, seval, ↓evP, hr, t0, t1, t12, t13, c1]
theorem k_eqR {n : Nat} {h : SHeap} {va vb : Value} {A B : List RowN} (ha : J0l h va A) (hb : J0l h vb B) (hl : A.length < 1000000000) (hn : A.length + 5 < n) : J0T n 66 [va, vb] h = some (.bool (decide (A = B)), h) := by
 obtain ⟨n, rfl⟩ : ∃ j, n = j + 1 := ⟨n - 1, by omega⟩
 exact J6r (J13 ⟨rfl, rfl, rfl⟩) rfl (eqR_walk (J1z n).2 ha hb (by omega) (by omega))
theorem J53 : ∀ (l : List RowN) (k : Nat), (l.flatMap J0e).take (k * 5) = (l.take k).flatMap J0e
 | l, 0 => by simp
 | [], k + 1 => by simp
 | r :: l, k + 1 => by
  rw [List.flatMap_cons, List.take_succ_cons, List.flatMap_cons, ← J53 l k, show (k + 1) * 5 = k * 5 + 5 by omega]
  rfl
theorem Jgo {L : List RowN} {i : Nat} {x : RowN} (hi : i < L.length) : Go.Sx.lay (L.flatMap J0e) (i * 5) (J0e x) = (L.set i x).flatMap J0e := by
 have h5 : (J0e x).length = 5 := rfl
 rw [List.set_eq_take_append_cons_drop, if_pos hi, List.flatMap_append, List.flatMap_cons, ← J53, ← J3k]
 simp only [Go.Sx.lay, h5]
 rw [show (i + 1) * 5 = i * 5 + 5 by omega, List.append_assoc]
abbrev zRow : RowN := ⟨0, ByteArray.empty, 0, 0, 0⟩
abbrev JcY : ByteArray := ⟨#[108, 101, 110, 116]⟩
def mark (i : Nat) : RowN := ⟨-7, JcY, 0, 0, i⟩
theorem J7r : ∀ n, J3e [.int .i64 0, .string ByteArray.empty, .int .i64 0, .int .i64 0, .int .i64 0] n = (List.replicate n zRow).flatMap J0e
 | 0 => rfl
 | n + 1 => by rw [J3e, J7r n, List.replicate_succ, List.flatMap_cons]; rfl
theorem JhP {h : SHeap} {n : Nat} (hn : n < 1099511627776) : J2l Tryd.prog h 22 (.int .i64 (n : Int)) (.int .i64 (n : Int)) = some (.slice (some ⟨h.next, 0, none⟩) n n, h.push (.row ((List.replicate n zRow).flatMap J0e) 46 false false)) := by
 have hz : (Value.agg #[.int .i64 0, .string ByteArray.empty, .int .i64 0, .int .i64 0, .int .i64 0]).cells = #[.int .i64 0, .string ByteArray.empty, .int .i64 0, .int .i64 0, .int .i64 0] := rfl
 have hf : flat (.agg #[.int .i64 0, .string ByteArray.empty, .int .i64 0, .int .i64 0, .int .i64 0]) = true := rfl
 simp only [J2l, Tryd.underlying22, sz46, J40, by46, hz, hf]
 rw [if_pos (by simp; omega)]
 simp [J7r]
theorem JaU {h : SHeap} {id i off : Nat} {L : List RowN} {x : RowN} {ty : TypeId} {g : Bool} (ho : off = i * 5) (hg : h.get id = .row (L.flatMap J0e) ty g false) (hi : i < L.length) (hf : h.floor ≤ id) : J0K Tryd.prog h 46 (.pointer (some ⟨id, off, none⟩)) (rowV x) = some (h.put id (.row ((L.set i x).flatMap J0e) ty g false)) := by
 subst ho
 have hc : (rowV x).cells = (J0e x).toArray := rfl
 have h5 : (J0e x).length = 5 := rfl
 have hone : (J0e x).all one = true := rfl
 have hl := J0N L
 simp only [J0K, hc, sz46, J1q, hg]
 rw [if_pos (by simp [h5]), if_pos (by simp only [h5, hone, hl]; simp; omega), Jgo hi]
theorem J9X : J2Q Tryd.prog (match Tryd.prog.underlying 46 with | some (.struct fs) => fs.toList | _ => []) = some [(0, 1), (1, 1), (2, 1), (3, 1), (4, 1)] := by kernel_rfl
theorem J8G {i : Int} : J1P Tryd.prog 46 [(0, iv (-7)), (1, .string JcY), (4, iv i)] = some (rowV ⟨-7, JcY, 0, 0, i⟩) := by
 have h := J9X
 rw [Tryd.underlying46] at h
 simp only at h
 have hf : flat (.agg #[.int .i64 0, .string ByteArray.empty, .int .i64 0, .int .i64 0, .int .i64 0]) = true := rfl
 simp only [J1P, J40, hf, if_true, Tryd.underlying46, h]
 rfl
theorem JhZ {h : SHeap} {id n c : Nat} {L l : List RowN} {v : Value} {ty : TypeId} (hv : J0l h v l) (hg : h.get id = .row (L.flatMap J0e) ty false false) (hl : L.length = n) (hn : l.length ≤ n) (hid : id < h.next) (hf : h.floor ≤ id) :
  ∃ h', J8N Tryd.prog h 22 (.slice (some ⟨id, 0, none⟩) n c) v = some (iv l.length, h') ∧ h'.get id = .row ((l ++ L.drop l.length).flatMap J0e) ty false false ∧ h'.next = h.next ∧ h'.floor = h.floor ∧ ∀ i, i ≠ id → h'.get i = h.get i := by
 have hsrc := hv.src
 obtain ⟨a, c', rfl, h1⟩ := hv
 have hm : min l.length n = l.length := by omega
 by_cases h0 : l.length = 0
 ·refine ⟨h, ?_, ?_, rfl, rfl, fun _ _ => rfl⟩
  ·simp only [J8N, Tryd.underlying22, sz46, hm, hsrc]
   rw [if_pos h0]
  ·rw [List.length_eq_zero_iff.1 h0]
   exact hg
 ·have hlen := J0N L
  have hll := J0N l
  refine ⟨_, ?_, J0b rfl hid, rfl, rfl, fun i hi => J05 hid (Ne.symm hi)⟩
  simp only [J8N, Tryd.underlying22, sz46, hm, hsrc, J1q, hg]
  rw [if_neg h0, if_pos (by simp only [J4y, hlen, hll, Bool.and_true, Nat.zero_add, Bool.and_eq_true, decide_eq_true_eq]; omega)]
  have : Go.Sx.lay (L.flatMap J0e) 0 (l.flatMap J0e) = (l ++ L.drop l.length).flatMap J0e := by
   rw [List.flatMap_append, ← J3k]
   simp only [Go.Sx.lay, List.take_zero, List.nil_append, Nat.zero_add, hll]
  rw [this]
theorem JaW {id n c i : Nat} (hi : i < n) : J0R Tryd.prog 22 (.slice (some ⟨id, 0, none⟩) n c) (iv (i : Int)) = some (.pointer (some ⟨id, i * 5, none⟩)) := J4z hi
theorem Jd9 {h : SHeap} {id n m c : Nat} (hm : m ≤ c) (hc : c ≠ unk) : J2M Tryd.prog h 22 (.slice (some ⟨id, 0, none⟩) n c) none (some (iv (m : Int))) none = some (.slice (some ⟨id, 0, none⟩) m c) := by
 simp only [J2M, Tryd.underlying22, sz46, J3a, hc, if_false]
 rw [if_pos (by omega)]
 simp only [Int.toNat_natCast]
 by_cases h0 : c = 0
 ·subst h0
  simp [J0q]
 ·simp [J0q]
structure LentAt (h : SHeap) (o : Nat) (l : List RowN) (L : List RowN) : Prop where
 g : h.get o = .row (L.flatMap J0e) 46 false false
 len : L.length = l.length + 9
 own : ∀ j, j < l.length → L[j]? = l[j]?
 marks : ∀ q, q < 9 → L[l.length + q]? = some (mark (l.length + q))
section
variable {call : J0r} {N : Nat} {h : SHeap}
set_option maxHeartbeats 4000000 in
theorem JdB {l : List RowN} {v : Value} (hv : J0l h v l) (hl : l.length < 900000000) (hfl : h.floor ≤ h.next) (hN : 12 < N) :
  ∃ h', J0L Tryd.prog call N 15 [v] h = some (.slice (some ⟨h.next, 0, none⟩) l.length (l.length + 9), h') ∧ ((∃ L, LentAt h' h.next l L) ∧ h'.next = h.next + 1 ∧ h'.floor = h.floor ∧ ∀ i, i < h.next → h'.get i = h.get i) := by
 refine J1N (R := fun h' => (∃ L, LentAt h' h.next l L) ∧ h'.next = h.next + 1 ∧ h'.floor = h.floor ∧ ∀ i, i < h.next → h'.get i = h.get i) Tryd.func15 rfl (by simp [Tryd.f15]) ?_
 have hr : Tryd.f15.results.toList = [.tmp 2] := rfl
 have hlen := fun h' => hv.len (h' := h')
 have w9 : IntKind.i64.wrap ((l.length : Int) + 9) = ((l.length + 9 : Nat) : Int) := J0s (by omega) (by omega)
 have hmk := JhP (h := h) (n := l.length + 9) (by omega)
 have hv1 : J0l (h.push (.row ((List.replicate (l.length + 9) zRow).flatMap J0e) 46 false false)) v l := hv.mono (by show h.next ≤ h.next + 1; omega) fun i hi => J06 hi
 obtain ⟨H1, hcp, g1, n1, f1, o1⟩ := JhZ (id := h.next) (n := l.length + 9) (c := l.length + 9) hv1 J0h (by rw [List.length_replicate]) (by omega) (by show h.next < h.next + 1; omega) hfl
 have hlen9 : ∀ h' : SHeap, lenS Tryd.prog h' 22 (.slice (some ⟨h.next, 0, none⟩) (l.length + 9) (l.length + 9)) = some (iv ((l.length + 9 : Nat) : Int)) := fun h' => JeK
 have hsl := fun (H : SHeap) => Jd9 (h := H) (id := h.next) (n := l.length + 9) (m := l.length) (c := l.length + 9) (by omega) (by unfold unk; omega)
 simp only [evC, seval, ↓evP, hlen, w9, hmk, hcp]
 have n1' : H1.next = h.next + 1 := n1
 have f1' : H1.floor = h.floor := f1
 have o1' : ∀ i, i < h.next → H1.get i = h.get i := fun i hi => by rw [o1 i (by omega), J06 hi]
 refine WK.loop (fun k s' => s'.T.get 0 = v ∧ s'.T.get 3 = .slice (some ⟨h.next, 0, none⟩) (l.length + 9) (l.length + 9) ∧ s'.T.get 4 = iv ((l.length + k : Nat) : Int) ∧ k ≤ 9 ∧ s'.h.next = h.next + 1 ∧ s'.h.floor = h.floor ∧ (∀ i, i < h.next → s'.h.get i = h.get i) ∧
  ∃ L : List RowN, s'.h.get h.next = .row (L.flatMap J0e) 46 false false ∧ L.length = l.length + 9 ∧ (∀ j, j < l.length → L[j]? = l[j]?) ∧ ∀ q, q < k → L[l.length + q]? = some (mark (l.length + q))) 9 (by omega) ?_ ?_
 ·refine ⟨by simp only [evC, seval, ↓evP, rpC], by simp only [evC, seval, ↓evP, rpC], by simp only [evC, seval, ↓evP, rpC]; rfl, by omega, n1', f1', o1', _, g1, ?_, fun j hj => by rw [List.getElem?_append_left hj], fun q hq => by omega⟩
  rw [List.length_append, List.length_drop, List.length_replicate]
  omega
 ·rintro k ⟨T1, H2⟩ hk ⟨t0, t3, t4, hk9, n2, f2, o2, L, gL, lL, own, marks⟩
  simp only at t0 t3 t4 n2 f2 o2 gL
  by_cases hlt : k < 9
  ·have c1 : decide (((l.length + k : Nat) : Int) < ((l.length + 9 : Nat) : Int)) = true := by simp; omega
   have hix := JaW (id := h.next) (n := l.length + 9) (c := l.length + 9) (i := l.length + k) (by omega)
   have hst := JaU (i := l.length + k) (x := ⟨-7, JcY, 0, 0, ((l.length + k : Nat) : Int)⟩) rfl gL (by omega) (by omega)
   have w1 : IntKind.i64.wrap (((l.length + k : Nat) : Int) + 1) = ((l.length + (k + 1) : Nat) : Int) := J0s (by omega) (by omega)
   simp only [evC, seval, ↓evP, t0, t3, t4, hlen9, c1, J8G, hix, hst, w1]
   refine ⟨hlt, by omega, n2, f2, fun i hi => by rw [J05 (by omega) (by omega)]; exact o2 i hi, _, J0b rfl (by omega), by rw [List.length_set]; exact lL, fun j hj => ?_, fun q hq => ?_⟩
   ·rw [List.getElem?_set_ne (by omega)]
    exact own j hj
   ·rcases Nat.lt_or_ge q k with h1 | h1
    ·rw [List.getElem?_set_ne (by omega)]
     exact marks q h1
    ·have : q = k := by omega
     subst this
     rw [List.getElem?_set_self (by omega)]
     rfl
  ·have c1 : decide (((l.length + k : Nat) : Int) < ((l.length + 9 : Nat) : Int)) = false := by simp; omega
   have : k = 9 := by omega
   subst this
   simp only [evC, seval, ↓evP, hr, t0, t3, t4, hlen, hlen9, c1, hsl]
   exact ⟨⟨L, gL, lL, own, marks⟩, n2, f2, o2⟩
end
theorem Jic {n : Nat} {h : SHeap} {l : List RowN} {v : Value} (hv : J0l h v l) (hl : l.length < 900000000) (hfl : h.floor ≤ h.next) (hn : 20 < n) :
  ∃ h', J0T n 15 [v] h = some (.slice (some ⟨h.next, 0, none⟩) l.length (l.length + 9), h') ∧ ((∃ L, LentAt h' h.next l L) ∧ h'.next = h.next + 1 ∧ h'.floor = h.floor ∧ ∀ i, i < h.next → h'.get i = h.get i) := by
 obtain ⟨n, rfl⟩ : ∃ j, n = j + 1 := ⟨n - 1, by omega⟩
 exact Jc0 (J13 ⟨rfl, rfl, rfl⟩) rfl (JdB hv hl hfl (by omega))
section
variable {call : J0r} {N : Nat} {h : SHeap}
end
theorem Jey {call : J0r} {N : Nat} {h : SHeap} {l : List RowN} {v : Value} (hv : J0l h v l) : J0L Tryd.prog call N 13 [v] h = some (.bool (decide ((l.length : Int) > 65536)), h) := by
 refine J1m Tryd.func13 rfl (by simp [Tryd.f13]) ?_
 have hr : Tryd.f13.results.toList = [.tmp 2] := rfl
 have hlen := fun h' => hv.len (h' := h')
 simp only [evC, seval, ↓evP, hr, hlen]
theorem JiW {n : Nat} {h : SHeap} {l : List RowN} {v : Value} (hv : J0l h v l) (hn : 0 < n) : J0T n 13 [v] h = some (.bool (decide ((l.length : Int) > 65536)), h) := by
 obtain ⟨n, rfl⟩ : ∃ j, n = j + 1 := ⟨n - 1, by omega⟩
 exact J6r (J13 ⟨rfl, rfl, rfl⟩) rfl (Jey hv)
theorem JhO {l : List RowN} (h : (resN l).1.1 = 0) : J2c l ∧ (J0v l).1 = 0 ∧ (goN (J0o l) l.length 0 (s0N l)).1 = 0 ∧ ¬ J2K (goN (J0o l) l.length 0 (s0N l)).2.2.rows (J0o l) (goN (J0o l) l.length 0 (s0N l)).2.2.rules ≥ 0 ∧
  resN l = ((0, 0), (goN (J0o l) l.length 0 (s0N l)).2.2) ∧ InvR l l.length (resN l).2 := by
 by_cases h1 : (J0v l).1 ≠ 0
 ·unfold resN at h
  rw [if_pos h1] at h
  exact absurd h h1
 ·by_cases h2 : (goN (J0o l) l.length 0 (s0N l)).1 ≠ 0
  ·unfold resN at h
   rw [if_neg h1] at h
   simp only at h
   rw [if_pos h2] at h
   exact absurd h h2
  ·by_cases h3 : J2K (goN (J0o l) l.length 0 (s0N l)).2.2.rows (J0o l) (goN (J0o l) l.length 0 (s0N l)).2.2.rules ≥ 0
   ·unfold resN at h
    rw [if_neg h1] at h
    simp only at h
    rw [if_neg h2, if_pos h3] at h
    cases h
   ·have e1 : (J0v l).1 = 0 := by simpa using h1
    have e2 : (goN (J0o l) l.length 0 (s0N l)).1 = 0 := by simpa using h2
    have e : resN l = ((0, 0), (goN (J0o l) l.length 0 (s0N l)).2.2) := by
     unfold resN
     rw [if_neg h1]
     simp only
     rw [if_neg h2, if_neg h3]
    have ht := J8d (J5d e1)
    refine ⟨ht, e1, e2, h3, e, ?_⟩
    rw [e]
    exact JfJ ht J3T l.length 0 (s0N l) (by omega) (inv0 l) e2
theorem Jg8 {l : List RowN} (h : (resN l).1.1 ≠ 0) : outN l = (ByteArray.empty, sZ) := by unfold outN; rw [if_pos h]
theorem JeO {l : List RowN} (h : (resN l).1.1 = 0) : outN l = (J52 l, (resN l).2) := by unfold outN; rw [if_neg (by rw [h]; simp)]
theorem JdR {l : List RowN} (hl : l.length < 900000000) : JdC (outN l).2 ∧ Jbg (outN l).2 ≤ l.length + 200 := by
 by_cases h : (resN l).1.1 = 0
 ·rw [JeO h]
  obtain ⟨_, _, _, _, _, hi⟩ := JhO h
  have hw := hi.wf
  have := hw.q; have := hw.v; have := hw.t; have := hw.u; have := hw.o; have := hi.len
  unfold JdC Jbg
  simp only
  omega
 ·rw [Jg8 h]
  exact ⟨⟨by decide, by decide, by decide, by decide, by decide, by decide⟩, by show 0 ≤ _; omega⟩
theorem J8U (nm : ByteArray) (s : StN) : J5b nm nm s s := ⟨rfl, rfl, rfl, rfl, rfl, rfl, rfl, rfl⟩
section
variable {n : Nat} {h : SHeap}
end
def zero1 (x : RowN) : RowN := if x.kind ≠ 27 then { x with n := 0 } else x
def zeroN (l : List RowN) : List RowN := l.map zero1
def MayBe (nm : ByteArray) (s : StN) : Prop := (resN (zeroN s.rows)).1.1 = 0 ∧ J5b nm (outN (zeroN s.rows)).1 s (outN (zeroN s.rows)).2
open Classical in
noncomputable def chkPol (nm : ByteArray) (s : StN) : Int := if MayBe nm s then 0 else 23
theorem laid_out {H : SHeap} {cs : List Value} {e p : Int} (hl : cs.length = 8) (ho : cs.all one = true) (hf : H.floor ≤ H.next) :
  ∃ H' : SHeap × SHeap, J0K Tryd.prog ((H.push (.row [.string ByteArray.empty, .slice none 0 0, .slice none 0 0, .slice none 0 0, .slice none 0 0, .slice none 0 0, .slice none 0 0, iv 0] 30 false false)).push (.row [iv 0, iv 0] 33 false false)) 30 (.pointer (some ⟨H.next, 0, none⟩)) (.agg cs.toArray) = some (H'.1) ∧ J0K Tryd.prog H'.1 33 (.pointer (some ⟨H.next + 1, 0, none⟩)) (J2k e p) = some H'.2 ∧
   Out2 H.next H'.2 cs e p ∧ H'.2.next = H.next + 2 ∧ H'.2.floor = H.floor ∧ ∀ i, i < H.next → H'.2.get i = H.get i := by
 have ga := J4c (h := H) (o := .row [.string ByteArray.empty, .slice none 0 0, .slice none 0 0, .slice none 0 0, .slice none 0 0, .slice none 0 0, .slice none 0 0, iv 0] 30 false false) (o' := .row [iv 0, iv 0] 33 false false)
 have gb := J48 (h := H) (o := .row [.string ByteArray.empty, .slice none 0 0, .slice none 0 0, .slice none 0 0, .slice none 0 0, .slice none 0 0, .slice none 0 0, iv 0] 30 false false) (o' := .row [iv 0, iv 0] 33 false false)
 have gold : ∀ i, i < H.next → ((H.push (.row [.string ByteArray.empty, .slice none 0 0, .slice none 0 0, .slice none 0 0, .slice none 0 0, .slice none 0 0, .slice none 0 0, iv 0] 30 false false)).push (.row [iv 0, iv 0] 33 false false)).get i = H.get i := fun i hi => by rw [J06 (by show i < H.next + 1; omega), J06 hi]
 have hnx : ((H.push (.row [.string ByteArray.empty, .slice none 0 0, .slice none 0 0, .slice none 0 0, .slice none 0 0, .slice none 0 0, .slice none 0 0, iv 0] 30 false false)).push (.row [iv 0, iv 0] 33 false false)).next = H.next + 2 := rfl
 have hfx : ((H.push (.row [.string ByteArray.empty, .slice none 0 0, .slice none 0 0, .slice none 0 0, .slice none 0 0, .slice none 0 0, .slice none 0 0, iv 0] 30 false false)).push (.row [iv 0, iv 0] 33 false false)).floor = H.floor := rfl
 generalize (H.push (.row [.string ByteArray.empty, .slice none 0 0, .slice none 0 0, .slice none 0 0, .slice none 0 0, .slice none 0 0, .slice none 0 0, iv 0] 30 false false)).push (.row [iv 0, iv 0] 33 false false) = G at *
 obtain ⟨H', s1, s2, r1, r2, r3, r4⟩ := J4J (a := H.next) (H := G) ⟨ga, gb⟩ rfl (by omega) (by omega) (cs' := cs) hl ho (e' := e) (p' := p)
 exact ⟨⟨_, H'⟩, s1, s2, r1, by show H'.next = _; omega, by show H'.floor = _; omega, fun i hi => by show H'.get i = _; rw [r4 i (by omega) (by omega), gold i hi]⟩
theorem all8 {lo : Nat} {h : SHeap} {nm : ByteArray} {s : StN} {vr vq vv vt vu vo : Value} (h1 : J3P lo h vr s.rows) (h2 : J0p lo h vq s.queues.length 2 (J3S s.queues)) (h3 : J0p lo h vv s.vars.length 1 (strs s.vars)) (h4 : J0p lo h vt s.tags.length 1 (strs s.tags)) (h5 : J1S lo h vu s.rules) (h6 : J1S lo h vo s.on) :
  ([.string nm, vr, vq, vv, vt, vu, vo, iv s.miss] : List Value).all one = true := by
 simp only [List.all_cons, List.all_nil, h1.2.one, h2.one, h3.one, h4.one, J0p.one h5, J0p.one h6, J5J, J5K, Bool.and_self]
def Lies (v : Value) (n : Nat) : Prop := ∃ id off c, v = .slice (some ⟨id, off, none⟩) n c
theorem lies_of {h : SHeap} {v : Value} {l : List RowN} (hv : J0l h v l) (hne : 0 < l.length) : Lies v l.length := by
 obtain ⟨a, c, rfl, ⟨h1, _⟩ | ⟨id, off, _, _, _, _, rfl, _⟩⟩ := hv
 ·rw [h1] at hne; exact absurd hne (by simp)
 ·exact ⟨id, off, c, rfl⟩
theorem clone_any {call : J0r} {N : Nat} {h : SHeap} {l : List RowN} {v : Value} (hv : J0l h v l) (hlies : Lies v l.length) (hlen : l.length < 1099511627) :
  ∃ v' h', J0L Tryd.prog call N 48 [v] h = some (v', h') ∧ (∃ o c g, v' = .slice (some ⟨o, 0, none⟩) l.length c ∧ h'.get o = .row (l.flatMap J0e) 46 g false ∧ h.next ≤ o ∧ o < h'.next) ∧ h'.floor = h.floor ∧ h.next ≤ h'.next ∧ ∀ i, i < h.next → h'.get i = h.get i := by
 by_cases h0 : 0 < l.length
 ·obtain ⟨h', e, g1, g2, g3, g4⟩ := Jby (call := call) (N := N) hv h0 hlen
  exact ⟨_, h', e, ⟨h.next + 1, unk, true, rfl, g1, by omega, by omega⟩, g3, by omega, g4⟩
 ·have hl : l = [] := List.length_eq_zero_iff.1 (by omega)
  subst hl
  obtain ⟨id, off, c, rfl⟩ := hlies
  refine ⟨.slice (some ⟨h.next, 0, none⟩) 0 0, h.push (.row [] 46 false false), ?_, ⟨h.next, 0, false, rfl, J0h, Nat.le_refl _, by show h.next < h.next + 1; omega⟩, rfl, by show h.next ≤ h.next + 1; omega, fun i hi => J06 hi⟩
  refine J1m Tryd.func48 rfl (by simp [Tryd.f48]) ?_
  have hr : Tryd.f48.results.toList = [.tmp 2] := rfl
  have hb : binS Tryd.prog .eql 22 (.tmp 3) (.const (.slice none 0 0)) (.slice (some ⟨id, off, none⟩) ([] : List RowN).length c) (.slice none 0 0) = some (.bool false) := by
   have hf : flat (.slice (some ⟨id, off, none⟩) ([] : List RowN).length c) = false := rfl
   simp only [binS, hf, Bool.false_and, Bool.false_eq_true, if_false, Tryd.underlying22]
  have hbs : J0Q Tryd.prog h 22 0 [] = some (.slice (some ⟨h.next, 0, none⟩) 0 0, h.push (.row [] 46 false false)) := by
   simp [J0Q, Tryd.underlying22, sz46, J40, flat, J1i, J0G, J5k, J3e]
  have hsrc : J16 (h.push (.row [] 46 false false)) 5 ([] : List RowN).length (.slice (some ⟨id, off, none⟩) ([] : List RowN).length c) = some [] := by simp [J16]
  have hap : J1o Tryd.prog (h.push (.row [] 46 false false)) 22 (.slice (some ⟨h.next, 0, none⟩) 0 0) (.slice (some ⟨id, off, none⟩) ([] : List RowN).length c) = some (.slice (some ⟨h.next, 0, none⟩) 0 0, h.push (.row [] 46 false false)) := by
   have hu : (0 : Nat) ≠ unk := by unfold unk; omega
   have hzs : (Value.agg #[.int .i64 0, .string ByteArray.empty, .int .i64 0, .int .i64 0, .int .i64 0]).cells.size = 5 := rfl
   simp [J1o, Tryd.underlying22, sz46, by46, J40, hzs, J16, hu]
  simp only [evC, seval, ↓evP, hr, hb, hbs, hap]
theorem k_cloneA {n : Nat} {h : SHeap} {l : List RowN} {v : Value} (hv : J0l h v l) (hlies : Lies v l.length) (hlen : l.length < 1099511627) (hn : 0 < n) :
  ∃ v' h', J0T n 48 [v] h = some (v', h') ∧ (∃ o c g, v' = .slice (some ⟨o, 0, none⟩) l.length c ∧ h'.get o = .row (l.flatMap J0e) 46 g false ∧ h.next ≤ o ∧ o < h'.next) ∧ h'.floor = h.floor ∧ h.next ≤ h'.next ∧ ∀ i, i < h.next → h'.get i = h.get i := by
 obtain ⟨n, rfl⟩ : ∃ j, n = j + 1 := ⟨n - 1, by omega⟩
 refine k_ex (J13 ⟨rfl, rfl, rfl⟩) (clone_any (call := J0T n) (N := n) hv hlies hlen) fun v' h1 hf ho ⟨⟨o, c, g, e1, _⟩, _⟩ => ?_
 rw [e1] at hf
 cases hf
section
variable {n N : Nat}
set_option maxHeartbeats 16000000 in
theorem chkP_walk {nm : ByteArray} {s : StN} {pv : Value} {lo : Nat} {h : SHeap} (hp : J3x lo h pv nm s) (hlies : ∀ nm' vr vq vv vt vu vo m, pv = .agg #[.string nm', vr, vq, vv, vt, vu, vo, m] → Lies vr s.rows.length) (hs : JdC s) (hl : s.rows.length < 900000000) (hfl : h.floor ≤ h.next) (hg : h.get 0 = J14) (hn0 : 0 < h.next) (hn : 2 * Jbg s + 200 < n) (hN : Jbg s + 200 < N) :
  ∃ h', J0L Tryd.prog (J0T n) N 22 [pv] h = some (iv (chkPol nm s), h') ∧ ∀ i, i < h.next → h'.get i = h.get i := by
 obtain ⟨vr, vq, vv, vt, vu, vo, rfl, p1, p2, p3, p4, p5, p6⟩ := hp
 have hlv := hlies _ _ _ _ _ _ _ _ rfl
 refine J1N (R := fun h' => ∀ i, i < h.next → h'.get i = h.get i) Tryd.func22 rfl (by simp [Tryd.f22]) ?_
 have hr : Tryd.f22.results.toList = [.tmp 2] := rfl
 unfold Jbg at hn hN
 obtain ⟨q1, q2, q3, q4, q5, q6⟩ := hs
 have ca : (Value.agg #[.string nm, vr, vq, vv, vt, vu, vo, iv s.miss]).cells.toList = [.string nm, vr, vq, vv, vt, vu, vo, iv s.miss] := rfl
 have oa := all8 (nm := nm) p1 p2 p3 p4 p5 p6
 have gA : (h.push (.row [.string nm, vr, vq, vv, vt, vu, vo, iv s.miss] 30 false false)).get h.next = .row [.string nm, vr, vq, vv, vt, vu, vo, iv s.miss] 30 false false := J0h
 have gO : ∀ i, i < h.next → (h.push (.row [.string nm, vr, vq, vv, vt, vu, vo, iv s.miss] 30 false false)).get i = h.get i := fun i hi => J06 hi
 have nA : (h.push (.row [.string nm, vr, vq, vv, vt, vu, vo, iv s.miss] 30 false false)).next = h.next + 1 := rfl
 have fA : (h.push (.row [.string nm, vr, vq, vv, vt, vu, vo, iv s.miss] 30 false false)).floor = h.floor := rfl
 show WK _ _ _ (.seq _ (.seq _ (.seq (.seq _ _) (.seq _ (.seq _ _))))) _ _
 simp only [evC, seval, ↓evP, rpD, J0X, J2t, ca, oa, sz30]
 generalize h.push (.row [.string nm, vr, vq, vv, vt, vu, vo, iv s.miss] 30 false false) = A at *
 have l1 : ld1 1 (A.get h.next) = some vr := by rw [gA]; rfl
 have P1 : J0l A vr s.rows := p1.1.mono (by omega) gO
 obtain ⟨v', h1, hcl, ⟨o, c, g, rfl, g1, g2, g3⟩, f1, n1, o1⟩ := k_cloneA (n := n) P1 hlv (by omega) (by omega)
 have hlen : ∀ h' : SHeap, lenS Tryd.prog h' 22 (.slice (some ⟨o, 0, none⟩) s.rows.length c) = some (iv (s.rows.length : Int)) := fun h' => JeK
 simp only [evC, seval, ↓evP, Nat.zero_add, J0y, J0F, l1, hcl, hlen]
 refine WK.loop (fun i s' => s'.T.get 1 = .pointer (some ⟨h.next, 0, none⟩) ∧ s'.T.get 3 = .slice (some ⟨o, 0, none⟩) s.rows.length c ∧ s'.T.get 11 = iv (s.rows.length : Int) ∧ s'.T.get 12 = iv i ∧ i ≤ s.rows.length ∧ s'.h.next = h1.next ∧ s'.h.floor = h1.floor ∧ (∀ i, i ≠ o → s'.h.get i = h1.get i) ∧
  ∃ L : List RowN, s'.h.get o = .row (L.flatMap J0e) 46 g false ∧ ∀ j, L[j]? = (s.rows[j]?).map fun x => if j < i then zero1 x else x) s.rows.length (by omega) ?_ ?_
 ·refine ⟨by simp only [evC, ↓reduceIte, Nat.reduceEqDiff, reduceCtorEq, ↓evP, rpC, Nat.reduceAdd, Nat.reduceLT], by simp only [evC, ↓reduceIte, Nat.reduceEqDiff, reduceCtorEq, ↓evP, rpC, Nat.reduceAdd, Nat.reduceLT], by simp only [evC, ↓reduceIte, Nat.reduceEqDiff, reduceCtorEq, ↓evP, rpC, Nat.reduceAdd, Nat.reduceLT], by simp only [evC, ↓reduceIte, Nat.reduceEqDiff, reduceCtorEq, ↓evP, rpC, Nat.reduceAdd, Nat.reduceLT]; rfl, by omega, rfl, rfl, fun _ _ => rfl, s.rows, g1, fun j => ?_⟩
  simp
 rintro i ⟨T1, H1⟩ hi ⟨t1, t3, t11, t12, hil, m1, m2, m3, L, gL, hL⟩
 simp only at t1 t3 t11 t12 m1 m2 m3 gL
 have hLl : L.length = s.rows.length := by
  rcases Nat.lt_trichotomy L.length s.rows.length with h9 | h9 | h9
  ·have := hL L.length
   rw [List.getElem?_eq_none (Nat.le_refl _), List.getElem?_eq_getElem h9] at this
   cases this
  ·exact h9
  ·have := hL s.rows.length
   rw [List.getElem?_eq_getElem h9, List.getElem?_eq_none (Nat.le_refl _)] at this
   cases this
 by_cases hlt : i < s.rows.length
 ·have c1 : decide ((i : Int) < (s.rows.length : Int)) = true := by simp; omega
  obtain ⟨x, hx⟩ : ∃ x, s.rows[i]? = some x := ⟨_, List.getElem?_eq_getElem hlt⟩
  have hLx : L[i]? = some x := by rw [hL, hx]; simp
  have ea := JaW (id := o) (n := s.rows.length) (c := c) hlt
  have lk : ld1 (i * 5) (H1.get o) = some (iv x.kind) := by
   have h5 := J2Y hLx
   rw [gL]
   have : (L.flatMap J0e)[i * 5]? = (J0e x)[0]? := by
    rw [← h5, List.getElem?_take_of_lt (by omega), List.getElem?_drop, Nat.add_zero]
   simp only [ld1, this]
   rfl
  have w1 : IntKind.i64.wrap ((i : Int) + 1) = ((i + 1 : Nat) : Int) := J0s (by omega) (by omega)
  cases d : (x.kind != 27) with
  | false =>
   have hz : zero1 x = x := by
    unfold zero1
    rw [if_neg (by simpa using d)]
   simp only [evC, seval, ↓evP, t1, t3, t11, t12, c1, ea, J0t, J0m, lk, d, w1]
   refine ⟨hlt, by omega, m1, m2, m3, L, gL, fun j => ?_⟩
   rw [hL j]
   by_cases hj : j = i
   ·subst hj
    rw [hx]
    simp [hz]
   ·congr 1
    funext y
    by_cases h9 : j < i
    ·rw [if_pos h9, if_pos (by omega)]
    ·rw [if_neg h9, if_neg (by omega)]
  | true =>
   have hz : zero1 x = { x with n := 0 } := by
    unfold zero1
    rw [if_pos (by simpa using d)]
   have hst := stc (t := 3) (off := i * 5 + 3) (v := iv 0) sz3 rfl rfl gL (by rw [J0N]; omega) (by omega)
   rw [J3N hLx] at hst
   simp only [evC, seval, ↓evP, t1, t3, t11, t12, c1, ea, J0t, J0O, J0m, lk, d, hst, w1]
   refine ⟨hlt, by omega, m1, m2, fun j hj => by rw [J05 (by omega) (Ne.symm hj)]; exact m3 j hj, setN L i 0, J0b rfl (by omega), fun j => ?_⟩
   by_cases hj : j = i
   ·subst hj
    rw [J4g hLx, hx]
    simp [hz]
   ·rw [J4M hj, hL j]
    congr 1
    funext y
    by_cases h9 : j < i
    ·rw [if_pos h9, if_pos (by omega)]
    ·rw [if_neg h9, if_neg (by omega)]
 have c1 : decide ((i : Int) < (s.rows.length : Int)) = false := by simp; omega
 have : i = s.rows.length := by omega
 subst this
 have hLz : L = zeroN s.rows := by
  apply List.ext_getElem?
  intro j
  rw [hL j, zeroN, List.getElem?_map]
  rcases Nat.lt_or_ge j s.rows.length with h9 | h9
  ·simp [h9]
  ·rw [List.getElem?_eq_none h9]
   rfl
 subst hLz
 have hvz : J0l H1 (.slice (some ⟨o, 0, none⟩) s.rows.length c) (zeroN s.rows) := by
  refine ⟨_, _, by rw [hLl], .inr ⟨o, 0, _, _, _, _, rfl, gL, by omega, fun k r hk => by rw [Nat.zero_add]; exact J2Y hk⟩⟩
 have hw1 : H1.get 0 = J14 := by rw [m3 0 (by omega), o1 0 (by omega), gO 0 hn0]; exact hg
 obtain ⟨v2, h2, hres, pv, rfl, hp', f2, n2, o2⟩ := Jia (n := n) (h := H1) (by omega) hw1 (by omega) hvz (by omega) (by omega)
 obtain ⟨vr', vq', vv', vt', vu', vo', rfl, b1, b2, b3, b4, b5, b6⟩ := hp'
 obtain ⟨⟨hb, h3⟩, s1, s2, rO, n3, f3, o3⟩ := laid_out (H := h2) (cs := [.string (outN (zeroN s.rows)).1, vr', vq', vv', vt', vu', vo', iv (outN (zeroN s.rows)).2.miss]) (e := (resN (zeroN s.rows)).1.1) (p := (resN (zeroN s.rows)).1.2) rfl (all8 b1 b2 b3 b4 b5 b6) (by omega)
 simp only at s1 s2 rO n3 f3 o3
 have zc30 : zPol.cells.toList = [.string ByteArray.empty, .slice none 0 0, .slice none 0 0, .slice none 0 0, .slice none 0 0, .slice none 0 0, .slice none 0 0, iv 0] := rfl
 have zc33 : (J2k 0 0).cells.toList = [iv 0, iv 0] := rfl
 have HO : ∀ i, i < h.next → h3.get i = h.get i := fun i hi => by rw [o3 i (by omega), o2 i (by omega), m3 i (by omega), o1 i (by omega), gO i hi]
 have HA : h3.get h.next = .row [.string nm, vr, vq, vv, vt, vu, vo, iv s.miss] 30 false false := by rw [o3 _ (by omega), o2 _ (by omega), m3 _ (by omega), o1 _ (by omega)]; exact gA
 obtain ⟨x0, x1, x2, x3, x4, x5, x6, x7⟩ := Jhw (a := .string nm) (b := vr) (c := vq) (d := vv) (e := vt) (f := vu) (g := vo) (i := iv s.miss) (ty := 30) (x := false) (y := false)
 obtain ⟨y0, y1, y2, y3, y4, y5, y6, y7⟩ := Jhw (a := .string (outN (zeroN s.rows)).1) (b := vr') (c := vq') (d := vv') (e := vt') (f := vu') (g := vo') (i := iv (outN (zeroN s.rows)).2.miss) (ty := 30) (x := false) (y := false)
 rw [← HA] at x0 x1 x2 x3 x4 x5 x6 x7
 rw [← rO.1] at y0 y1 y2 y3 y4 y5 y6 y7
 have lF : ld1 0 (h3.get (h2.next + 1)) = some (iv (resN (zeroN s.rows)).1.1) := by rw [rO.2]; rfl
 have NN : h.next ≤ h3.next := by omega
 have A1 := p1.1.mono NN HO
 have A2 := p2.mono NN fun i _ hi => HO i hi
 have A3 := p3.mono NN fun i _ hi => HO i hi
 have A4 := p4.mono NN fun i _ hi => HO i hi
 have A5 := J1S.mono p5 NN fun i _ hi => HO i hi
 have A6 := J1S.mono p6 NN fun i _ hi => HO i hi
 have B1 := (b1.mono (h' := h3) (by omega) fun i _ hi => o3 i hi).1
 have B2 := b2.mono (h' := h3) (by omega) fun i _ hi => o3 i hi
 have B3 := b3.mono (h' := h3) (by omega) fun i _ hi => o3 i hi
 have B4 := b4.mono (h' := h3) (by omega) fun i _ hi => o3 i hi
 have B5 := J1S.mono (h' := h3) b5 (by omega) fun i _ hi => o3 i hi
 have B6 := J1S.mono (h' := h3) b6 (by omega) fun i _ hi => o3 i hi
 have hR := k_eqR (n := n) A1 B1 (by omega) (by omega)
 have hQ := k_eqQ (n := n) A2 B2 (by omega) (by omega)
 have hV := k_eqT (n := n) A3 B3 (by omega) (by omega)
 have hT := k_eqT (n := n) A4 B4 (by omega) (by omega)
 have hU := k_eqI (n := n) A5 B5 (by omega) (by omega)
 have hO := k_eqI (n := n) A6 B6 (by omega) (by omega)
 have yes : (resN (zeroN s.rows)).1.1 = 0 → J5b nm (outN (zeroN s.rows)).1 s (outN (zeroN s.rows)).2 → chkPol nm s = 0 := fun h8 h9 => if_pos ⟨h8, h9⟩
 have no1 : (resN (zeroN s.rows)).1.1 ≠ 0 → chkPol nm s = 23 := fun h8 => if_neg fun h9 => h8 h9.1
 have no2 : ¬ J5b nm (outN (zeroN s.rows)).1 s (outN (zeroN s.rows)).2 → chkPol nm s = 23 := fun h8 => if_neg fun h9 => h8 h9.2
 simp only [evC, seval, ↓evP, t1, t3, t11, t12, c1, hres, J5F, J3Y, zc30, J3C, J1t, zc33, J1D, s1, s2]
 cases d0 : ((resN (zeroN s.rows)).1.1 != 0) with
 | true =>
  rw [no1 (by simpa using d0)]
  simp only [evC, seval, ↓evP, hr, t1, List.append_eq, List.toList_toArray, Nat.zero_add, J6a, J7G, lF, J5g, J0y, J0B, J1A, J1B, J36, J1T, J38, J0d, J0m, J0F, J0S, J0Y, J0n, x0, x1, x2, x3, x4, x5, x6, x7, y0, y1, y2, y3, y4, y5, y6, y7, J26, d0]
  exact HO
 | false =>
 cases d1 : (!(nm == (outN (zeroN s.rows)).1)) with
 | true =>
  rw [no2 fun h9 => by rw [h9.1, J34] at d1; cases d1]
  simp only [evC, seval, ↓evP, hr, t1, List.append_eq, List.toList_toArray, Nat.zero_add, J6a, J7G, lF, J5g, J0y, J0B, J1A, J1B, J36, J1T, J38, J0d, J0m, J0F, J0S, J0Y, J0n, x0, x1, x2, x3, x4, x5, x6, x7, y0, y1, y2, y3, y4, y5, y6, y7, J26, d0, d1]
  exact HO
 | false =>
 cases d2 : (s.miss != (outN (zeroN s.rows)).2.miss) with
 | true =>
  rw [no2 fun h9 => by rw [h9.2.1] at d2; simp at d2]
  simp only [evC, seval, ↓evP, hr, t1, List.append_eq, List.toList_toArray, Nat.zero_add, J6a, J7G, lF, J5g, J0y, J0B, J1A, J1B, J36, J1T, J38, J0d, J0m, J0F, J0S, J0Y, J0n, x0, x1, x2, x3, x4, x5, x6, x7, y0, y1, y2, y3, y4, y5, y6, y7, J26, d0, d1, d2]
  exact HO
 | false =>
 cases d3 : decide (s.rows = (outN (zeroN s.rows)).2.rows) with
 | false =>
  rw [d3] at hR
  rw [no2 fun h9 => (of_decide_eq_false d3) h9.2.2.1]
  simp only [evC, seval, ↓evP, hr, t1, List.append_eq, List.toList_toArray, Nat.zero_add, J6a, J7G, lF, J5g, J0y, J0B, J1A, J1B, J36, J1T, J38, J0d, J0m, J0F, J0S, J0Y, J0n, x0, x1, x2, x3, x4, x5, x6, x7, y0, y1, y2, y3, y4, y5, y6, y7, J26, d0, d1, d2, hR]
  exact HO
 | true =>
 rw [d3] at hR
 cases d4 : decide (s.queues = (outN (zeroN s.rows)).2.queues) with
 | false =>
  rw [d4] at hQ
  rw [no2 fun h9 => (of_decide_eq_false d4) h9.2.2.2.1]
  simp only [evC, seval, ↓evP, hr, t1, List.append_eq, List.toList_toArray, Nat.zero_add, J6a, J7G, lF, J5g, J0y, J0B, J1A, J1B, J36, J1T, J38, J0d, J0m, J0F, J0S, J0Y, J0n, x0, x1, x2, x3, x4, x5, x6, x7, y0, y1, y2, y3, y4, y5, y6, y7, J26, d0, d1, d2, hR, hQ]
  exact HO
 | true =>
 rw [d4] at hQ
 cases d5 : decide (s.vars = (outN (zeroN s.rows)).2.vars) with
 | false =>
  rw [d5] at hV
  rw [no2 fun h9 => (of_decide_eq_false d5) h9.2.2.2.2.1]
  simp only [evC, seval, ↓evP, hr, t1, List.append_eq, List.toList_toArray, Nat.zero_add, J6a, J7G, lF, J5g, J0y, J0B, J1A, J1B, J36, J1T, J38, J0d, J0m, J0F, J0S, J0Y, J0n, x0, x1, x2, x3, x4, x5, x6, x7, y0, y1, y2, y3, y4, y5, y6, y7, J26, d0, d1, d2, hR, hQ, hV]
  exact HO
 | true =>
 rw [d5] at hV
 cases d6 : decide (s.tags = (outN (zeroN s.rows)).2.tags) with
 | false =>
  rw [d6] at hT
  rw [no2 fun h9 => (of_decide_eq_false d6) h9.2.2.2.2.2.1]
  simp only [evC, seval, ↓evP, hr, t1, List.append_eq, List.toList_toArray, Nat.zero_add, J6a, J7G, lF, J5g, J0y, J0B, J1A, J1B, J36, J1T, J38, J0d, J0m, J0F, J0S, J0Y, J0n, x0, x1, x2, x3, x4, x5, x6, x7, y0, y1, y2, y3, y4, y5, y6, y7, J26, d0, d1, d2, hR, hQ, hV, hT]
  exact HO
 | true =>
 rw [d6] at hT
 cases d7 : decide (s.rules = (outN (zeroN s.rows)).2.rules) with
 | false =>
  rw [d7] at hU
  rw [no2 fun h9 => (of_decide_eq_false d7) h9.2.2.2.2.2.2.1]
  simp only [evC, seval, ↓evP, hr, t1, List.append_eq, List.toList_toArray, Nat.zero_add, J6a, J7G, lF, J5g, J0y, J0B, J1A, J1B, J36, J1T, J38, J0d, J0m, J0F, J0S, J0Y, J0n, x0, x1, x2, x3, x4, x5, x6, x7, y0, y1, y2, y3, y4, y5, y6, y7, J26, d0, d1, d2, hR, hQ, hV, hT, hU]
  exact HO
 | true =>
 rw [d7] at hU
 cases d8 : decide (s.on = (outN (zeroN s.rows)).2.on) with
 | false =>
  rw [d8] at hO
  rw [no2 fun h9 => (of_decide_eq_false d8) h9.2.2.2.2.2.2.2]
  simp only [evC, seval, ↓evP, hr, t1, List.append_eq, List.toList_toArray, Nat.zero_add, J6a, J7G, lF, J5g, J0y, J0B, J1A, J1B, J36, J1T, J38, J0d, J0m, J0F, J0S, J0Y, J0n, x0, x1, x2, x3, x4, x5, x6, x7, y0, y1, y2, y3, y4, y5, y6, y7, J26, d0, d1, d2, hR, hQ, hV, hT, hU, hO]
  exact HO
 | true =>
 rw [d8] at hO
 rw [yes (by simpa using d0) ⟨J3o (by simpa using d1), by simpa using d2, of_decide_eq_true d3, of_decide_eq_true d4, of_decide_eq_true d5, of_decide_eq_true d6, of_decide_eq_true d7, of_decide_eq_true d8⟩]
 simp only [evC, seval, ↓evP, hr, t1, List.append_eq, List.toList_toArray, Nat.zero_add, J6a, J7G, lF, J5g, J0y, J0B, J1A, J1B, J36, J1T, J38, J0d, J0m, J0F, J0S, J0Y, J0n, x0, x1, x2, x3, x4, x5, x6, x7, y0, y1, y2, y3, y4, y5, y6, y7, J26, d0, d1, d2, hR, hQ, hV, hT, hU, hO]
 exact HO
theorem k_chkP {nm : ByteArray} {s : StN} {pv : Value} {lo : Nat} {h : SHeap} (hp : J3x lo h pv nm s) (hlies : ∀ nm' vr vq vv vt vu vo m, pv = .agg #[.string nm', vr, vq, vv, vt, vu, vo, m] → Lies vr s.rows.length) (hs : JdC s) (hl : s.rows.length < 900000000) (hfl : h.floor ≤ h.next) (hg : h.get 0 = J14) (hn0 : 0 < h.next) (hn : 2 * Jbg s + 300 < n) :
  J0T n 22 [pv] h = some (iv (chkPol nm s), h) := by
 obtain ⟨n, rfl⟩ : ∃ j, n = j + 1 := ⟨n - 1, by omega⟩
 exact J4r (J13 ⟨rfl, rfl, rfl⟩) rfl (chkP_walk hp hlies hs hl hfl hg hn0 (by omega) (by omega))
end
def SaysN (s : StN) (k n : Int) (nm : ByteArray) : Prop :=
 0 ≤ n ∧ ((k = 1 ∧ ∃ b, s.queues[n.toNat]? = some (nm, b)) ∨ (k = 2 ∧ s.vars[n.toNat]? = some nm) ∨ (k = 3 ∧ s.tags[n.toNat]? = some nm) ∨ (k = 4 ∧ ∃ ru : Nat, s.rules[n.toNat]? = some ((ru : Int) + 1) ∧ ∃ y : RowN, s.rows[ru]? = some y ∧ y.name = nm))
structure UpS (s s' : StN) : Prop where
 q : ∀ (i : Nat) x, s.queues[i]? = some x → s'.queues[i]? = some x
 v : ∀ (i : Nat) x, s.vars[i]? = some x → s'.vars[i]? = some x
 t : ∀ (i : Nat) x, s.tags[i]? = some x → s'.tags[i]? = some x
 u : ∀ (i : Nat) x, s.rules[i]? = some x → s'.rules[i]? = some x
 r : ∀ (i : Nat) (y : RowN), s.rows[i]? = some y → ∃ y' : RowN, s'.rows[i]? = some y' ∧ y'.name = y.name
theorem SaysN.up {s s' : StN} {k n : Int} {nm : ByteArray} (h : SaysN s k n nm) (hu : UpS s s') : SaysN s' k n nm := by
 refine ⟨h.1, ?_⟩
 rcases h.2 with ⟨h1, b, h2⟩ | ⟨h1, h2⟩ | ⟨h1, h2⟩ | ⟨h1, ru, h2, y, h3, h4⟩
 ·exact .inl ⟨h1, b, hu.q _ _ h2⟩
 ·exact .inr (.inl ⟨h1, hu.v _ _ h2⟩)
 ·exact .inr (.inr (.inl ⟨h1, hu.t _ _ h2⟩))
 ·obtain ⟨y', h5, h6⟩ := hu.r _ _ h3
  exact .inr (.inr (.inr ⟨h1, ru, hu.u _ _ h2, y', h5, h6.trans h4⟩))
theorem app_get {α : Type} {l : List α} {i : Nat} {x y : α} (h : l[i]? = some x) : (l ++ [y])[i]? = some x := by rw [List.getElem?_append_left (List.getElem?_eq_some_iff.1 h).1]; exact h
theorem setN_name {l : List RowN} {k i : Nat} {n : Int} {y : RowN} (h : l[i]? = some y) : ∃ y' : RowN, (setN l k n)[i]? = some y' ∧ y'.name = y.name := by
 by_cases hi : i = k
 ·subst hi
  exact ⟨_, J4g h, rfl⟩
 ·exact ⟨y, (J4M hi).trans h, rfl⟩
theorem declares_calls {k : Int} (h : J1O k ≠ 0) : J0j k = 0 := by
 unfold J0j
 unfold J1O at h
 split
 ·rename_i h1
  simp only [List.contains_cons, List.contains_nil, Bool.or_false, Bool.or_eq_true, beq_iff_eq] at h1
  rcases h1 with rfl | rfl <;> exact absurd rfl h
 split
 ·subst k; exact absurd rfl h
 split
 ·subst k; exact absurd rfl h
 split
 ·subst k; exact absurd rfl h
 rfl
def saysK (k : Int) : Int := J1O k + J0j k
theorem saysK_0 {k : Int} (h : saysK k = 0) : J1O k = 0 ∧ J0j k = 0 := by
 have := Jcr k
 have := J3c k
 unfold saysK at h
 omega
structure ToldM (l : List RowN) (at_ : Nat) (s : StN) : Prop where
 rows : ∀ (i : Nat) (x : RowN), i < at_ → s.rows[i]? = some x → (saysK x.kind = 0 → l[i]? = some x) ∧ (saysK x.kind ≠ 0 → SaysN s (saysK x.kind) x.n x.name)
 things : ∀ t ∈ s.things, SaysN s t.kind t.num t.name
theorem ToldM.up {l : List RowN} {at_ : Nat} {s s' : StN} (h : ToldM l at_ s) (hu : UpS s s') (hr : ∀ i, i < at_ → s'.rows[i]? = s.rows[i]?) (ht : ∀ t ∈ s'.things, t ∈ s.things ∨ SaysN s' t.kind t.num t.name) : ToldM l at_ s' where
 rows := fun i x hi hx => by
  rw [hr i hi] at hx
  obtain ⟨h1, h2⟩ := h.rows i x hi hx
  exact ⟨h1, fun h3 => (h2 h3).up hu⟩
 things := fun t h1 => by
  rcases ht t h1 with h2 | h2
  ·exact (h.things t h2).up hu
  ·exact h2
theorem up_decl {at_ : Nat} {end_ : Int} {x : RowN} {s : StN} : UpS s (addN at_ end_ x s) where
 q := fun i y h => by simp only [addN]; split; (first | exact app_get h | exact h); exact h
 v := fun i y h => by simp only [addN]; split; (first | exact app_get h | exact h); exact h
 t := fun i y h => by simp only [addN]; split; (first | exact app_get h | exact h); exact h
 u := fun i y h => by simp only [addN]; split; (first | exact app_get h | exact h); exact h
 r := fun i y h => setN_name h
theorem up_refl (s : StN) : UpS s s := ⟨fun _ _ h => h, fun _ _ h => h, fun _ _ h => h, fun _ _ h => h, fun _ y h => ⟨y, h, rfl⟩⟩
theorem app_last {α : Type} (l : List α) (y : α) : (l ++ [y])[l.length]? = some y := by simp
theorem says_new {at_ : Nat} {end_ : Int} {x : RowN} {s : StN} (hx : s.rows[at_]? = some x) (hd : J0j x.kind ≠ 0) : SaysN (addN at_ end_ x s) (J0j x.kind) (cntN s (J0j x.kind)) x.name := by
 have hk := J3c x.kind
 refine ⟨by omega, ?_⟩
 rw [Int.toNat_natCast]
 have hc : J0j x.kind = 1 ∨ J0j x.kind = 2 ∨ J0j x.kind = 3 ∨ J0j x.kind = 4 := by omega
 rcases hc with e | e | e | e
 ·refine .inl ⟨e, x.kind == 3, ?_⟩
  simp only [addN, cntN, e]
  exact app_last _ _
 ·refine .inr (.inl ⟨e, ?_⟩)
  simp only [addN, cntN, e]
  exact app_last _ _
 ·refine .inr (.inr (.inl ⟨e, ?_⟩))
  simp only [addN, cntN, e]
  exact app_last _ _
 ·refine .inr (.inr (.inr ⟨e, at_, ?_, _, J4g hx, rfl⟩))
  simp only [addN, cntN, e]
  exact app_last _ _
theorem told_decl {l : List RowN} {at_ : Nat} {end_ : Int} {x : RowN} {s : StN} (h : ToldM l at_ s) (hx : s.rows[at_]? = some x) :
  ToldM l at_ (J0W at_ end_ x s) ∧ ∃ n, (J0W at_ end_ x s).rows[at_]? = some { x with n := n } ∧ (J0j x.kind = 0 → n = x.n) ∧ (J0j x.kind ≠ 0 → SaysN (J0W at_ end_ x s) (J0j x.kind) n x.name) := by
 unfold J0W
 by_cases d0 : J0j x.kind = 0
 ·rw [if_pos d0]
  exact ⟨h, x.n, hx, fun _ => rfl, fun h1 => absurd d0 h1⟩
 ·rw [if_neg d0]
  have hs := says_new (end_ := end_) hx d0
  refine ⟨h.up up_decl (fun i hi => J4M (by omega)) fun t ht => ?_, _, J4g hx, fun h1 => absurd h1 d0, fun _ => hs⟩
  simp only [addN, List.mem_append, List.mem_cons, List.not_mem_nil, or_false] at ht
  rcases ht with h1 | rfl
  ·exact .inl h1
  ·exact .inr hs
theorem told_call {l : List RowN} {at_ : Nat} {x : RowN} {s : StN} (h : ToldM l at_ s) (hx : s.rows[at_]? = some x) (hc : J1v at_ x s = 0) :
  ToldM l at_ (J0D at_ x s) ∧ UpS s (J0D at_ x s) ∧ ∃ n, (J0D at_ x s).rows[at_]? = some { x with n := n } ∧ (J1O x.kind = 0 → n = x.n) ∧ (J1O x.kind ≠ 0 → SaysN (J0D at_ x s) (J1O x.kind) n x.name) := by
 unfold J0D
 unfold J1v at hc
 by_cases d0 : J1O x.kind = 0
 ·rw [if_pos d0]
  exact ⟨h, up_refl s, x.n, hx, fun _ => rfl, fun h1 => absurd d0 h1⟩
 ·rw [if_neg d0] at hc ⊢
  cases hf : J30 s.things x.name with
  | none => simp only [hf] at hc; cases hc
  | some t =>
   simp only [hf] at hc ⊢
   have hk : t.kind = J1O x.kind := by
    split at hc
    ·cases hc
    ·split at hc
     ·cases hc
     ·rename_i h; simpa using h
   have hnm : t.name = x.name := by
    have := List.find?_some hf
    exact (J3o this).symm
   have hu : UpS s { s with rows := setN s.rows at_ t.num } := ⟨fun _ _ h => h, fun _ _ h => h, fun _ _ h => h, fun _ _ h => h, fun _ y h => setN_name h⟩
   have hs := (h.things t (J8w hf)).up hu
   rw [hk, hnm] at hs
   exact ⟨h.up hu (fun i hi => J4M (by omega)) fun t ht => .inl ht, hu, _, J4g hx, fun h1 => absurd h1 d0, fun _ => hs⟩
theorem told_step {l : List RowN} {E : List Int} {at_ : Nat} {s : StN} (hat : at_ < l.length) (hi : InvR l at_ s) (h : ToldM l at_ s) (h0 : (J31 E at_ s).1 = 0) : ToldM l (at_ + 1) (J31 E at_ s).2 := by
 obtain ⟨x, hx⟩ : ∃ x, s.rows[at_]? = some x := ⟨_, List.getElem?_eq_getElem (by rw [hi.len]; exact hat)⟩
 have hxl : l[at_]? = some x := by rw [← hi.later at_ (Nat.le_refl _)]; exact hx
 unfold J31 at h0 ⊢
 rw [hx] at h0 ⊢
 simp only at h0 ⊢
 by_cases hd : J25 x s = 0
 case neg => rw [if_pos hd] at h0; exact absurd h0 hd
 rw [if_neg (by simpa using hd)] at h0 ⊢
 obtain ⟨t1, k1, r1, a1, b1⟩ := told_decl (end_ := (E[at_]?).getD 0) h hx
 generalize J0W at_ ((E[at_]?).getD 0) x s = s1 at *
 rw [r1] at h0 ⊢
 simp only at h0 ⊢
 by_cases hc : J1v at_ { x with n := k1 } s1 = 0
 case neg => rw [if_pos hc] at h0; exact absurd h0 hc
 rw [if_neg (by simpa using hc)] at h0 ⊢
 obtain ⟨t2, u2, k2, r2, a2, b2⟩ := told_call t1 r1 hc
 simp only at r2 a2 b2
 generalize J0D at_ { x with n := k1 } s1 = s2 at *
 rw [r2] at h0 ⊢
 simp only at h0 ⊢
 by_cases hv : evE { x with n := k2 } s2 = 0
 case neg => rw [if_pos hv] at h0; exact absurd h0 hv
 rw [if_neg (by simpa using hv)] at h0 ⊢
 have hev : (evS at_ { x with n := k2 } s2).queues = s2.queues ∧ (evS at_ { x with n := k2 } s2).vars = s2.vars ∧ (evS at_ { x with n := k2 } s2).tags = s2.tags ∧ (evS at_ { x with n := k2 } s2).rules = s2.rules ∧ (evS at_ { x with n := k2 } s2).rows = s2.rows ∧ (evS at_ { x with n := k2 } s2).things = s2.things := by
  unfold evS
  split
  ·exact ⟨rfl, rfl, rfl, rfl, rfl, rfl⟩
  ·split <;> exact ⟨rfl, rfl, rfl, rfl, rfl, rfl⟩
 obtain ⟨e1, e2, e3, e4, e5, e6⟩ := hev
 generalize evS at_ { x with n := k2 } s2 = s3 at *
 have hu3 : UpS s2 s3 := ⟨fun i y h => by rw [e1]; exact h, fun i y h => by rw [e2]; exact h, fun i y h => by rw [e3]; exact h, fun i y h => by rw [e4]; exact h, fun i y h => ⟨y, by rw [e5]; exact h, rfl⟩⟩
 have t3 : ToldM l at_ s3 := t2.up hu3 (fun i _ => by rw [e5]) fun t ht => .inl (by rw [← e6]; exact ht)
 refine ⟨fun i y hi' hy => ?_, t3.things⟩
 by_cases hia : i = at_
 ·subst hia
  rw [e5, r2] at hy
  cases hy
  simp only
  refine ⟨fun h1 => ?_, fun h1 => ?_⟩
  ·obtain ⟨h2, h3⟩ := saysK_0 h1
   rw [a2 h2, a1 h3]
   exact hxl
  ·by_cases c0 : J1O x.kind = 0
   ·have d0 : J0j x.kind ≠ 0 := fun h2 => h1 (by unfold saysK; omega)
    rw [show saysK x.kind = J0j x.kind by unfold saysK; omega, a2 c0]
    exact ((b1 d0).up u2).up hu3
   ·rw [show saysK x.kind = J1O x.kind by unfold saysK; rw [declares_calls c0]; omega]
    exact (b2 c0).up hu3
 ·exact t3.rows i y (by omega) hy
theorem told_go {l : List RowN} {E : List Int} (ht : J2c l) (hE : ∀ i : Nat, 0 ≤ (E[i]?).getD 0) : ∀ r at_ s, at_ + r = l.length → InvR l at_ s → ToldM l at_ s → (goN E r at_ s).1 = 0 → ToldM l l.length (goN E r at_ s).2.2
 | 0, at_, s, hr, hi, h, _ => by
  have : at_ = l.length := by omega
  subst this
  exact h
 | r + 1, at_, s, hr, hi, h, h0 => by
  unfold goN at h0 ⊢
  by_cases h9 : (J31 E at_ s).1 = 0
  ·rw [if_neg (by simpa using h9)] at h0 ⊢
   exact told_go ht hE r (at_ + 1) _ (by omega) (J6b ht (hE at_) (by omega) hi h9) (told_step (by omega) hi h h9) h0
  ·rw [if_pos h9] at h0
   exact absurd h0 h9
theorem told_res {l : List RowN} (h : (resN l).1.1 = 0) : ToldM l l.length (resN l).2 := by
 obtain ⟨ht, _, hg, _, he, _⟩ := JhO h
 rw [he]
 exact told_go ht J3T l.length 0 (s0N l) (by omega) (inv0 l) ⟨fun i x hi => by omega, fun t ht => by simp [s0N] at ht⟩ hg
theorem fit_n {x : RowN} (h : fitN J09 x = true) : (x.kind ≠ 27 → x.n = 0) ∧ 0 ≤ x.n := by
 unfold fitN at h
 simp only [Bool.and_eq_true, Bool.or_eq_true, beq_iff_eq, decide_eq_true_eq] at h
 obtain ⟨⟨⟨⟨⟨_, _⟩, _⟩, h1⟩, _⟩, _⟩ := h
 rcases h1 with h1 | ⟨⟨h1, h2⟩, _⟩
 ·exact ⟨fun _ => h1, by omega⟩
 ·exact ⟨fun h3 => absurd h1 h3, by omega⟩
theorem zero_res {l : List RowN} (h : (resN l).1.1 = 0) : zeroN (resN l).2.rows = l := by
 have hm := told_res h
 obtain ⟨ht, _, _, _, _, hi⟩ := JhO h
 apply List.ext_getElem?
 intro i
 rw [zeroN, List.getElem?_map]
 rcases Nat.lt_or_ge i l.length with h1 | h1
 ·obtain ⟨x, hx⟩ : ∃ x, (resN l).2.rows[i]? = some x := ⟨_, List.getElem?_eq_getElem (by rw [hi.len]; exact h1)⟩
  obtain ⟨y, hy, hxy⟩ := hi.same i x hx
  rw [hx, hy]
  simp only [Option.map_some, Option.some.injEq]
  have hkind : x.kind = y.kind := by rw [hxy]
  unfold zero1
  by_cases h27 : x.kind = 27
  ·rw [if_neg (by simpa using h27)]
   have := (hm.rows i x h1 hx).1 (by rw [h27]; rfl)
   rw [hy] at this
   exact (Option.some.inj this).symm
  ·rw [if_pos h27, hxy]
   have := (fit_n (ht.row hy).1).1 (by rw [← hkind]; exact h27)
   show { y with n := 0 } = y
   rw [← this]
 ·rw [List.getElem?_eq_none (by rw [hi.len]; exact h1), List.getElem?_eq_none h1]
  rfl
theorem mayBe_res {l : List RowN} (h : (resN l).1.1 = 0) : MayBe (J52 l) (resN l).2 := by
 unfold MayBe
 rw [zero_res h, JeO h]
 exact ⟨h, J8U _ _⟩
theorem chk_res {l : List RowN} (h : (resN l).1.1 = 0) : chkPol (J52 l) (resN l).2 = 0 := if_pos (mayBe_res h)
theorem zero_set {l : List RowN} {k : Nat} {n : Int} {x : RowN} (hx : l[k]? = some x) (h27 : x.kind ≠ 27) : zeroN (setN l k n) = zeroN l := by
 apply List.ext_getElem?
 intro i
 rw [zeroN, zeroN, List.getElem?_map, List.getElem?_map]
 by_cases hi : i = k
 ·subst hi
  rw [J4g hx, hx]
  simp only [Option.map_some, Option.some.injEq]
  unfold zero1
  rw [if_pos h27, if_pos h27]
 ·rw [J4M hi]
end Go.Proofs.YtipekdhneagdbaaDoor
