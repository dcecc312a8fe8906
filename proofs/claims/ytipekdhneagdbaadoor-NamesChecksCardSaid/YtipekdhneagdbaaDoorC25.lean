/- Part 25 of what the claim leans on: 1 texts laid one behind another. -/
import Derived.Test.YtipekdhneagdbaaDoorC24
namespace Go.Proofs.YtipekdhneagdbaaDoor
open Go Go.Sx Go.ChangeShapes Go.WideShapes Go.ChangeAt Go.RowKit
set_option maxRecDepth 100000
set_option linter.unusedSimpArgs false
set_option linter.unusedVariables false
section
variable {α : Type} {cells : α → List Value} {w : Nat} {l : List α}
theorem flat_len (hcl : ∀ x, (cells x).length = w) : (l.flatMap cells).length = l.length * w := by
 induction l with
 | nil => simp
 | cons x l ih =>
  rw [List.flatMap_cons, List.length_append, ih, hcl, List.length_cons, Nat.succ_mul]
  omega
theorem flat_ix (hcl : ∀ x, (cells x).length = w) : ∀ {l : List α} {i j : Nat} {x : α}, l[i]? = some x → j < w → (l.flatMap cells)[i * w + j]? = (cells x)[j]?
 | [], i, j, x, h, _ => by simp at h
 | y :: l, 0, j, x, h, hj => by
  cases h
  rw [List.flatMap_cons, Nat.zero_mul, Nat.zero_add, List.getElem?_append_left (by rw [hcl]; exact hj)]
 | y :: l, i + 1, j, x, h, hj => by
  have h' : l[i]? = some x := h
  rw [List.flatMap_cons, List.getElem?_append_right (by rw [hcl, Nat.succ_mul]; omega), hcl, ← flat_ix hcl h' hj]
  congr 1
  rw [Nat.succ_mul]
  omega
end
def SliceW (W : World) (v : Value) (n w : Nat) (cs : List Value) : Prop := cs.length = n * w ∧ ((n = 0 ∧ v = .slice none 0 0) ∨
 ∃ b off cap CS ty fr, v = .slice (some ⟨b, off, none⟩) n cap ∧ n ≤ cap ∧ cap < unk ∧ W.heap[b]? = some (.cells CS ty fr) ∧ ∀ k, k < n * w → CS[off + k]? = cs[k]?)
section
variable {H : Type} {enc : TypeId × Value → H} {W : World} {base b0 : Nat} {sp : Nat → Bool} {hd : Bool}
theorem slice_in {α : Type} {cells : α → List Value} {Q : α → Prop} {w : Nat} {t e : TypeId} (ht : Tryd.prog.underlying t = some (.slice e)) (hw : Tryd.prog.cellsOf e = w)
  (hopen : ∀ n cs y, DataW.trod enc Tryd.prog W base sp hd n e cs = some y → ∃ x, cs = cells x ∧ Q x) (hcl : ∀ x, (cells x).length = w) (hw0 : 0 < w)
  {v : Value} {n : Nat} {y : DataW H × List MemPlace} (hval : Cell.okWide Tryd.prog W .any b0 t v) (h : DataW.trod enc Tryd.prog W base sp hd n t [v] = some y) : ∃ l : List α, (∀ x ∈ l, Q x) ∧ SliceW W v l.length w (l.flatMap cells) := by
 rcases DataW.trod_slice ht h with ⟨h1, h2⟩ | ⟨a', len, cap, elems, rest, n', _, h1, _, hb, hl, hm, hlen, hel, _⟩
 ·cases h1
  exact ⟨[], fun x hx => (by cases hx), by simp, .inl ⟨rfl, rfl⟩⟩
 ·cases h1
  simp only [Cell.okWide, ht, Cell.ok] at hval
  obtain ⟨_, _, _, hsp, row, cells', hsh, _⟩ := hval
  obtain ⟨b, off, spot⟩ := a'
  simp only at hsp
  subst hsp
  have hblk : ∃ CS ty fr, W.heap[b]? = some (.cells CS ty fr) := by
   simp only [World.shape?] at hsh
   split at hsh
   ·rename_i CS ty fr hh; exact ⟨_, _, _, hh⟩
   ·cases hsh
  obtain ⟨CS, ty, fr, hblk⟩ := hblk
  have each : ∀ i, i < len → ∃ x : α, Q x ∧ ∀ j, j < w → CS[off + (i * w + j)]? = (cells x)[j]? := fun i hi => by
   have := hel i hi
   obtain ⟨y, hy⟩ : ∃ y, elems[i]? = some y := ⟨_, List.getElem?_eq_getElem (by omega)⟩
   rw [hy, J9W, hw, Option.bind_eq_some_iff] at this
   obtain ⟨cs, hcs, ht⟩ := this
   obtain ⟨x, rfl, hx⟩ := hopen _ _ _ ht
   obtain ⟨_, hc⟩ := Jen hcs
   refine ⟨x, hx, fun j hj => ?_⟩
   rw [← hc j hj, ← Nat.add_assoc]
   simp only [World.cell?, hblk, Option.isSome_none, Bool.false_eq_true, if_false]
  obtain ⟨l, hll, hl1⟩ : ∃ l : List α, l.length = len ∧ ∀ i x, l[i]? = some x → Q x ∧ ∀ j, j < w → CS[off + (i * w + j)]? = (cells x)[j]? := by
   have : ∀ m, m ≤ len → ∃ l : List α, l.length = m ∧ ∀ i x, l[i]? = some x → Q x ∧ ∀ j, j < w → CS[off + (i * w + j)]? = (cells x)[j]? := by
    intro m
    induction m with
    | zero => exact fun _ => ⟨[], rfl, fun i x h => by simp at h⟩
    | succ m ih =>
     intro hm
     obtain ⟨l, h1, h2⟩ := ih (by omega)
     obtain ⟨x, hx⟩ := each m (by omega)
     refine ⟨l ++ [x], by simp [h1], fun i y hy => ?_⟩
     rcases Nat.lt_or_ge i l.length with h3 | h3
     ·rw [List.getElem?_append_left h3] at hy
      exact h2 i y hy
     ·rw [List.getElem?_append_right h3] at hy
      have : i - l.length = 0 := by
       rcases Nat.eq_zero_or_pos (i - l.length) with h4 | h4
       ·exact h4
       ·rw [List.getElem?_eq_none (by simp; omega)] at hy
        cases hy
      rw [this] at hy
      cases hy
      have : i = m := by omega
      subst this
      exact hx
   exact this len (Nat.le_refl _)
  unfold maxLen at hm
  refine ⟨l, fun x hx => ?_, flat_len hcl, .inr ⟨b, off, cap, CS, ty, fr, by rw [hll], by omega, by unfold unk; omega, hblk, fun k hk => ?_⟩⟩
  ·obtain ⟨i, hi⟩ := List.getElem?_of_mem hx
   exact (hl1 i x hi).1
  ·have hdm := Nat.div_add_mod k w
   rw [Nat.mul_comm] at hdm
   have hj := Nat.mod_lt k hw0
   have hi : k / w < l.length := (Nat.div_lt_iff_lt_mul hw0).2 hk
   have hx := List.getElem?_eq_getElem hi
   rw [← hdm, (hl1 _ _ hx).2 _ hj, flat_ix hcl hx hj]
end
structure Piece where
 v : Value
 n : Nat
 w : Nat
 cs : List Value
 ty : TypeId
noncomputable def heapFrom : SHeap → List Piece → SHeap
 | h, [] => h
 | h, p :: ps => heapFrom (h.push (.row p.cs p.ty false true)) ps
theorem heapFrom_next : ∀ (ps : List Piece) (h : SHeap), (heapFrom h ps).next = h.next + ps.length ∧ (heapFrom h ps).floor = h.floor ∧ ∀ i, i < h.next → (heapFrom h ps).get i = h.get i
 | [], h => ⟨rfl, rfl, fun _ _ => rfl⟩
 | p :: ps, h => by
  obtain ⟨h1, h2, h3⟩ := heapFrom_next ps (h.push (.row p.cs p.ty false true))
  rw [J1D] at h1 h3
  refine ⟨by show (heapFrom _ ps).next = _; rw [h1, List.length_cons]; omega, h2, fun i hi => ?_⟩
  show (heapFrom _ ps).get i = _
  rw [h3 i (by omega), J06 hi]
theorem heapFrom_get : ∀ {ps : List Piece} {h : SHeap} {i : Nat} {p : Piece}, ps[i]? = some p → (heapFrom h ps).get (h.next + i) = .row p.cs p.ty false true
 | [], h, i, p, hp => by simp at hp
 | q :: ps, h, 0, p, hp => by
  cases hp
  show (heapFrom _ ps).get h.next = _
  rw [(heapFrom_next ps _).2.2 _ (by rw [J1D]; omega), J0h]
 | q :: ps, h, i + 1, p, hp => by
  have := heapFrom_get (ps := ps) (h := h.push (.row q.cs q.ty false true)) (i := i) (p := p) hp
  rw [J1D] at this
  show (heapFrom _ ps).get (h.next + (i + 1)) = _
  rw [← this]
  congr 1
  omega
def locP (p : Piece) : Go.Sx.Loc := match p.v with
 | .slice (some a) _ _ => ⟨a.block, a.off, 0, 0⟩
 | _ => ⟨0, 0, 0, 0⟩
def mapL (ps : List Piece) : Map := fun i => if i = 0 then some ⟨0, 0, 0, 0⟩ else (ps[i - 1]?).map locP
def svP (i : Nat) (p : Piece) : Value := match p.v with
 | .slice (some _) n c => .slice (some ⟨i, 0, none⟩) n c
 | v => v
theorem mapL_get {ps : List Piece} {i : Nat} {p : Piece} (h : ps[i]? = some p) : mapL ps (i + 1) = some (locP p) := by
 unfold mapL
 rw [if_neg (by omega), Nat.add_sub_cancel, h]
 rfl
theorem relL {W : World} (h : laidMetH Tryd.prog [("winnow/lex.words", Rows.laid_winnow_lex_words)] W) {ps : List Piece} (hps : ∀ p ∈ ps, SliceW W p.v p.n p.w p.cs ∧ ∀ v ∈ p.cs, J1i v = true) :
  Rel Tryd.prog (mapL ps) (heapFrom Jfv ps) W ∧ (∀ i, ¬ wr ((heapFrom Jfv ps).get i)) ∧ (heapFrom Jfv ps).next = ps.length + 1 ∧ (heapFrom Jfv ps).floor = 0 ∧ (heapFrom Jfv ps).get 0 = J14 ∧
   ∀ (i : Nat) p, ps[i]? = some p → vrel (mapL ps) (svP (i + 1) p) p.v ∧ J0p 0 (heapFrom Jfv ps) (svP (i + 1) p) p.n p.w p.cs := by
 obtain ⟨hn, hf, ho⟩ := heapFrom_next ps Jfv
 have h01 : Jfv.next = 1 := rfl
 rw [h01] at hn ho
 obtain ⟨CS0, ty0, fr0, hb0, hcs0⟩ := J5Q (zs := J2D) (rest := []) JfI J7e Tryd.underlying145 Tryd.underlying9 JfP J7w h
 have hget : ∀ (i : Nat) p, ps[i]? = some p → (heapFrom Jfv ps).get (i + 1) = .row p.cs p.ty false true := fun i p hp => by
  have := heapFrom_get (h := Jfv) hp
  rw [h01, Nat.add_comm] at this
  exact this
 have hro := Jcz (P := Tryd.prog) (W := W) (ρ := mapL ps) (h := heapFrom Jfv ps) rfl (fun i hi => by
   unfold mapL
   rw [if_neg (by omega), List.getElem?_eq_none (by omega)]
   rfl) (fun g hg => by
   rw [Jg1] at hg
   obtain rfl : g = 0 := by omega
   exact ⟨_, rfl, rfl, rfl⟩) (fun i hi => by
   rw [hn] at hi
   cases i with
   | zero =>
    refine ⟨J5v, 9, false, ⟨0, 0, 0, 0⟩, CS0, ty0, fr0, (ho 0 (by omega)).trans rfl, rfl, hb0, fun k v hv => ⟨v, ?_, ?_⟩⟩
    ·have : CS0.toList[k]? = some v := by rw [hcs0]; exact hv
     simpa using this
    ·have hm : v ∈ J5v := List.mem_of_getElem? hv
     obtain ⟨z, _, rfl⟩ := List.mem_map.1 hm
     exact .flat rfl
   | succ i =>
    obtain ⟨p, hp⟩ : ∃ p, ps[i]? = some p := ⟨_, List.getElem?_eq_getElem (by omega)⟩
    obtain ⟨⟨hl, hor⟩, hfl⟩ := hps p (List.mem_of_getElem? hp)
    rcases hor with ⟨h0, hv⟩ | ⟨b, off, cap, CS, ty, fr, hv, h1, h2, h3, h4⟩
    ·refine ⟨p.cs, p.ty, false, locP p, CS0, ty0, fr0, hget i p hp, mapL_get hp, by unfold locP; rw [hv]; exact hb0, fun k v hk => ?_⟩
     have := (List.getElem?_eq_some_iff.1 hk).1
     rw [hl, h0, Nat.zero_mul] at this
     omega
    ·refine ⟨p.cs, p.ty, false, locP p, CS, ty, fr, hget i p hp, mapL_get hp, by unfold locP; rw [hv]; exact h3, fun k v hk => ⟨v, ?_, .flat (hfl v (List.mem_of_getElem? hk))⟩⟩
     have hkl := (List.getElem?_eq_some_iff.1 hk).1
     have e : (locP p).d = off := by unfold locP; rw [hv]
     rw [e, h4 k (by omega)]
     exact hk)
 refine ⟨hro.1, hro.2, by omega, hf, (ho 0 (by omega)).trans rfl, fun i p hp => ?_⟩
 obtain ⟨⟨hl, hor⟩, hfl⟩ := hps p (List.mem_of_getElem? hp)
 have hil := (List.getElem?_eq_some_iff.1 hp).1
 rcases hor with ⟨h0, hv⟩ | ⟨b, off, cap, CS, ty, fr, hv, h1, h2, h3, h4⟩
 ·have e : svP (i + 1) p = .slice none 0 0 := by unfold svP; rw [hv]
  have ecs : p.cs = [] := List.length_eq_zero_iff.1 (by rw [hl, h0, Nat.zero_mul])
  rw [e, hv, ecs, h0]
  exact ⟨.flat rfl, J0p.nil _ _ _⟩
 ·have e : svP (i + 1) p = .slice (some ⟨i + 1, 0, none⟩) p.n cap := by unfold svP; rw [hv]
  have eL : locP p = ⟨b, off, 0, 0⟩ := by unfold locP; rw [hv]
  rw [e]
  refine ⟨?_, J0p.rowR (ex := []) (by rw [List.append_nil]; exact hget i p hp) ⟨Nat.zero_le _, by omega⟩ hl fun h => absurd h (Nat.lt_irrefl 0)⟩
  rw [hv]
  exact vrel.slice (L := ⟨b, off, 0, 0⟩) (by rw [mapL_get hp, eL]) h2
theorem cellsPol : Tryd.prog.cellsOf 30 = 8 := by kernel_rfl
theorem cellsQu : Tryd.prog.cellsOf 57 = 2 := by kernel_rfl
theorem cellsB : Tryd.prog.cellsOf 4 = 1 := by kernel_rfl
theorem cellsSl : Tryd.prog.cellsOf 22 = 1 ∧ Tryd.prog.cellsOf 26 = 1 ∧ Tryd.prog.cellsOf 27 = 1 ∧ Tryd.prog.cellsOf 28 = 1 := ⟨by kernel_rfl, by kernel_rfl, by kernel_rfl, by kernel_rfl⟩
theorem cellTypesP : Tryd.prog.cellTypes Tryd.prog.depth 30 = some [9, 22, 26, 27, 27, 28, 28, 3] := by kernel_rfl
structure PolW (W : World) (v : Value) (nm : ByteArray) (s : StN) : Prop where
 ok : ∃ vr vq vv vt vu vo, v = .agg #[.string nm, vr, vq, vv, vt, vu, vo, iv s.miss] ∧ SliceW W vr s.rows.length 5 (s.rows.flatMap J0e) ∧ SliceW W vq s.queues.length 2 (J3S s.queues) ∧ SliceW W vv s.vars.length 1 (strs s.vars) ∧ SliceW W vt s.tags.length 1 (strs s.tags) ∧ SliceW W vu s.rules.length 1 (ints s.rules) ∧ SliceW W vo s.on.length 1 (ints s.on)
 rows : ∀ x ∈ s.rows, Jd7 x
 miss : -9223372036854775808 ≤ s.miss ∧ s.miss ≤ 9223372036854775807
 rules : ∀ x ∈ s.rules, -9223372036854775808 ≤ x ∧ x ≤ 9223372036854775807
 on : ∀ x ∈ s.on, -9223372036854775808 ≤ x ∧ x ≤ 9223372036854775807
theorem strs_flat (l : List ByteArray) : l.flatMap (fun x => [Value.string x]) = strs l := by
 induction l with
 | nil => rfl
 | cons x l ih => rw [List.flatMap_cons, ih]; rfl
theorem ints_flat (l : List Int) : l.flatMap (fun x => [iv x]) = ints l := by
 induction l with
 | nil => rfl
 | cons x l ih => rw [List.flatMap_cons, ih]; rfl
section
variable {H : Type} {enc : TypeId × Value → H} {W : World} {base b0 : Nat} {sp : Nat → Bool} {hd : Bool}
theorem open_queue {n : Nat} {cs : List Value} {y : DataW H × List MemPlace} (h : DataW.trod enc Tryd.prog W base sp hd n 57 cs = some y) : ∃ x : ByteArray × Bool, cs = [.string x.1, .bool x.2] ∧ True := by
 obtain ⟨xs, m, _, _, hl, hxl, hf⟩ := DataW.trod_struct Tryd.underlying57 h
 rw [cellsQu] at hl
 obtain ⟨c0, c1, rfl⟩ : ∃ c0 c1, cs = [c0, c1] := by
  match cs, hl with
  | [a, b], _ => exact ⟨a, b, rfl⟩
 have hxl : xs.length = 2 := hxl
 have g : ∀ i, i < 2 → ∃ y, xs[i]? = some y := fun i hi => ⟨_, List.getElem?_eq_getElem (by omega)⟩
 obtain ⟨y0, e0⟩ := g 0 (by omega)
 obtain ⟨y1, e1⟩ := g 1 (by omega)
 have f0 : DataW.trod enc Tryd.prog W base sp hd m 9 (([c0, c1].drop 0).take (Tryd.prog.cellsOf 9)) = xs[0]? := hf 0 _ rfl
 rw [Jhu, e0] at f0
 have f1 : DataW.trod enc Tryd.prog W base sp hd m 4 (([c0, c1].drop 1).take (Tryd.prog.cellsOf 4)) = xs[1]? := hf 1 _ rfl
 rw [cellsB, e1] at f1
 obtain ⟨a, ha, _⟩ := DataW.trod_string Tryd.underlying9 f0
 obtain ⟨b, hb, _⟩ := DataW.trod_bool Tryd.underlying4 f1
 cases ha
 cases hb
 exact ⟨(a, b), rfl, trivial⟩
theorem open_str {n : Nat} {cs : List Value} {y : DataW H × List MemPlace} (h : DataW.trod enc Tryd.prog W base sp hd n 9 cs = some y) : ∃ x : ByteArray, cs = [.string x] ∧ True := by
 obtain ⟨a, ha, _⟩ := DataW.trod_string Tryd.underlying9 h
 exact ⟨a, ha, trivial⟩
theorem open_int {n : Nat} {cs : List Value} {y : DataW H × List MemPlace} (h : DataW.trod enc Tryd.prog W base sp hd n 3 cs = some y) : ∃ x : Int, cs = [iv x] ∧ (-9223372036854775808 ≤ x ∧ x ≤ 9223372036854775807) := by
 obtain ⟨a, ha, _, wa⟩ := DataW.trod_int Tryd.underlying3 h
 exact ⟨a, ha, bounds_i64 wa⟩
theorem pol_in {v : Value} {d : DataW H} {p : List MemPlace} (hval : Value.okWide Tryd.prog W .any b0 30 v) (h : DataW.Trod enc Tryd.prog W base sp hd 30 v d p) : ∃ nm s, PolW W v nm s := by
 simp only [Value.okWide, Tryd.underlying30] at hval
 obtain ⟨CS, rfl, hsz, ts, hts, _, hcell⟩ := hval
 rw [cellTypesP] at hts
 cases hts
 obtain ⟨fuel, hf⟩ := h
 have hcs : (Value.agg CS).cells.toList = CS.toList := rfl
 rw [hcs] at hf
 obtain ⟨xs, m, _, _, hl, hxl, hf⟩ := DataW.trod_struct Tryd.underlying30 hf
 rw [cellsPol] at hl
 obtain ⟨c0, c1, c2, c3, c4, c5, c6, c7, hcs⟩ : ∃ c0 c1 c2 c3 c4 c5 c6 c7, CS.toList = [c0, c1, c2, c3, c4, c5, c6, c7] := by
  match CS.toList, hl with
  | [a, b, c, d, e, f, g, i], _ => exact ⟨a, b, c, d, e, f, g, i, rfl⟩
 obtain rfl : CS = #[c0, c1, c2, c3, c4, c5, c6, c7] := by cases CS; simp_all
 have hxl : xs.length = 8 := hxl
 have g : ∀ i, i < 8 → ∃ y, xs[i]? = some y := fun i hi => ⟨_, List.getElem?_eq_getElem (by omega)⟩
 obtain ⟨y0, e0⟩ := g 0 (by omega)
 obtain ⟨y1, e1⟩ := g 1 (by omega)
 obtain ⟨y2, e2⟩ := g 2 (by omega)
 obtain ⟨y3, e3⟩ := g 3 (by omega)
 obtain ⟨y4, e4⟩ := g 4 (by omega)
 obtain ⟨y5, e5⟩ := g 5 (by omega)
 obtain ⟨y6, e6⟩ := g 6 (by omega)
 obtain ⟨y7, e7⟩ := g 7 (by omega)
 have f0 : DataW.trod enc Tryd.prog W base sp hd m 9 (([c0, c1, c2, c3, c4, c5, c6, c7].drop 0).take (Tryd.prog.cellsOf 9)) = xs[0]? := hf 0 _ rfl
 rw [Jhu, e0] at f0
 have f1 : DataW.trod enc Tryd.prog W base sp hd m 22 (([c0, c1, c2, c3, c4, c5, c6, c7].drop 1).take (Tryd.prog.cellsOf 22)) = xs[1]? := hf 1 _ rfl
 rw [cellsSl.1, e1] at f1
 have f2 : DataW.trod enc Tryd.prog W base sp hd m 26 (([c0, c1, c2, c3, c4, c5, c6, c7].drop 2).take (Tryd.prog.cellsOf 26)) = xs[2]? := hf 2 _ rfl
 rw [cellsSl.2.1, e2] at f2
 have f3 : DataW.trod enc Tryd.prog W base sp hd m 27 (([c0, c1, c2, c3, c4, c5, c6, c7].drop 3).take (Tryd.prog.cellsOf 27)) = xs[3]? := hf 3 _ rfl
 rw [cellsSl.2.2.1, e3] at f3
 have f4 : DataW.trod enc Tryd.prog W base sp hd m 27 (([c0, c1, c2, c3, c4, c5, c6, c7].drop 4).take (Tryd.prog.cellsOf 27)) = xs[4]? := hf 4 _ rfl
 rw [cellsSl.2.2.1, e4] at f4
 have f5 : DataW.trod enc Tryd.prog W base sp hd m 28 (([c0, c1, c2, c3, c4, c5, c6, c7].drop 5).take (Tryd.prog.cellsOf 28)) = xs[5]? := hf 5 _ rfl
 rw [cellsSl.2.2.2, e5] at f5
 have f6 : DataW.trod enc Tryd.prog W base sp hd m 28 (([c0, c1, c2, c3, c4, c5, c6, c7].drop 6).take (Tryd.prog.cellsOf 28)) = xs[6]? := hf 6 _ rfl
 rw [cellsSl.2.2.2, e6] at f6
 have f7 : DataW.trod enc Tryd.prog W base sp hd m 3 (([c0, c1, c2, c3, c4, c5, c6, c7].drop 7).take (Tryd.prog.cellsOf 3)) = xs[7]? := hf 7 _ rfl
 rw [Jag, e7] at f7
 have hc : ∀ i v u, (#[c0, c1, c2, c3, c4, c5, c6, c7] : Array Value)[i]? = some v → ([9, 22, 26, 27, 27, 28, 28, 3] : List Nat)[i % 8]? = some u → Cell.okWide Tryd.prog W .any b0 u v := fun i v u hi hu => by
  obtain ⟨u', h1, h2⟩ := hcell i v hi
  have : u' = u := Option.some.inj (h1.symm.trans hu)
  subst this
  exact h2
 obtain ⟨nm, hnm, _⟩ := open_str f0
 obtain ⟨lr, ir, sr⟩ := slice_in Tryd.underlying22 J9Y (fun n cs y h => JcH h) (fun _ => rfl) (by decide) (hc 1 _ _ rfl rfl) f1
 obtain ⟨lq, _, sq⟩ := slice_in (cells := fun x : ByteArray × Bool => [.string x.1, .bool x.2]) Tryd.underlying26 cellsQu (fun n cs y h => open_queue h) (fun _ => rfl) (by decide) (hc 2 _ _ rfl rfl) f2
 obtain ⟨lv, _, sv⟩ := slice_in (cells := fun x : ByteArray => [.string x]) Tryd.underlying27 Jhu (fun n cs y h => open_str h) (fun _ => rfl) (by decide) (hc 3 _ _ rfl rfl) f3
 obtain ⟨lt, _, st⟩ := slice_in (cells := fun x : ByteArray => [.string x]) Tryd.underlying27 Jhu (fun n cs y h => open_str h) (fun _ => rfl) (by decide) (hc 4 _ _ rfl rfl) f4
 obtain ⟨lu, iu, su⟩ := slice_in (cells := fun x : Int => [iv x]) Tryd.underlying28 Jag (fun n cs y h => open_int h) (fun _ => rfl) (by decide) (hc 5 _ _ rfl rfl) f5
 obtain ⟨lo, io, so⟩ := slice_in (cells := fun x : Int => [iv x]) Tryd.underlying28 Jag (fun n cs y h => open_int h) (fun _ => rfl) (by decide) (hc 6 _ _ rfl rfl) f6
 obtain ⟨ms, hms, bms⟩ := open_int f7
 obtain rfl : c0 = .string nm := by simpa using hnm
 obtain rfl : c7 = iv ms := by simpa using hms
 rw [strs_flat] at sv st
 rw [ints_flat] at su so
 exact ⟨nm, ⟨lr, lq, lv, lt, lu, lo, ms, []⟩, ⟨c1, c2, c3, c4, c5, c6, rfl, sr, sq, sv, st, su, so⟩, ir, bms, iu, io⟩
end
theorem relP {W : World} (h : laidMetH Tryd.prog [("winnow/lex.words", Rows.laid_winnow_lex_words)] W) {v : Value} {nm : ByteArray} {s : StN} (hv : PolW W v nm s) :
  ∃ hp ρ sv, Rel Tryd.prog ρ hp W ∧ (∀ i, ¬ wr (hp.get i)) ∧ vrel ρ sv v ∧ J3x 0 hp sv nm s ∧ hp.floor = 0 ∧ hp.get 0 = J14 ∧ 0 < hp.next := by
 obtain ⟨vr, vq, vv, vt, vu, vo, rfl, s1, s2, s3, s4, s5, s6⟩ := hv.ok
 have hR := relL h (ps := [⟨vr, _, _, _, 46⟩, ⟨vq, _, _, _, 57⟩, ⟨vv, _, _, _, 9⟩, ⟨vt, _, _, _, 9⟩, ⟨vu, _, _, _, 3⟩, ⟨vo, _, _, _, 3⟩]) (fun p hp => by
  simp only [List.mem_cons, List.not_mem_nil, or_false] at hp
  rcases hp with rfl | rfl | rfl | rfl | rfl | rfl
  ·refine ⟨s1, fun v hv => ?_⟩
   obtain ⟨x, _, hx⟩ := List.mem_flatMap.1 hv
   obtain ⟨j, hj⟩ := List.getElem?_of_mem hx
   exact J7Q hj
  ·refine ⟨s2, fun v hv => ?_⟩
   obtain ⟨x, _, hx⟩ := List.mem_flatMap.1 hv
   simp only [List.mem_cons, List.not_mem_nil, or_false] at hx
   rcases hx with rfl | rfl <;> rfl
  ·refine ⟨s3, fun v hv => ?_⟩
   obtain ⟨x, _, rfl⟩ := List.mem_map.1 hv
   rfl
  ·refine ⟨s4, fun v hv => ?_⟩
   obtain ⟨x, _, rfl⟩ := List.mem_map.1 hv
   rfl
  ·refine ⟨s5, fun v hv => ?_⟩
   obtain ⟨x, _, rfl⟩ := List.mem_map.1 hv
   rfl
  ·refine ⟨s6, fun v hv => ?_⟩
   obtain ⟨x, _, rfl⟩ := List.mem_map.1 hv
   rfl)
 obtain ⟨r1, r2, r3, r4, r5, r6⟩ := hR
 obtain ⟨a0, b0⟩ := r6 0 _ rfl
 obtain ⟨a1, b1⟩ := r6 1 _ rfl
 obtain ⟨a2, b2⟩ := r6 2 _ rfl
 obtain ⟨a3, b3⟩ := r6 3 _ rfl
 obtain ⟨a4, b4⟩ := r6 4 _ rfl
 obtain ⟨a5, b5⟩ := r6 5 _ rfl
 refine ⟨_, _, .agg #[.string nm, _, _, _, _, _, _, iv s.miss], r1, r2, .agg (.cons (.flat rfl) (.cons a0 (.cons a1 (.cons a2 (.cons a3 (.cons a4 (.cons a5 (.cons (.flat rfl) .nil)))))))), ⟨_, _, _, _, _, _, rfl, J3P.of b0, b1, b2, b3, b4, b5⟩, r4, r5, by omega⟩
section
variable {H : Type} {enc : TypeId × Value → H} {W : World} {base b0 : Nat} {sp : Nat → Bool} {hd : Bool} {v : Value} {d : DataW H} {p : List MemPlace}
theorem rows_in2 (hval : Value.okWide Tryd.prog W .any b0 22 v) (h : DataW.Trod enc Tryd.prog W base sp hd 22 v d p) : ∃ l : List RowN, (∀ x ∈ l, Jd7 x) ∧ SliceW W v l.length 5 (l.flatMap J0e) := by
 obtain ⟨a, len, cap, rfl⟩ := okWide_slice Tryd.underlying22 hval
 obtain ⟨fuel, hf⟩ := h
 have hc : Cell.okWide Tryd.prog W .any b0 22 (.slice a len cap) := by simpa only [Value.okWide, Tryd.underlying22] using hval
 exact slice_in Tryd.underlying22 J9Y (fun n cs y h => JcH h) (fun _ => rfl) (by decide) hc hf
theorem ints_in2 (hval : Value.okWide Tryd.prog W .any b0 28 v) (h : DataW.Trod enc Tryd.prog W base sp hd 28 v d p) : ∃ l : List Int, SliceW W v l.length 1 (ints l) := by
 obtain ⟨a, len, cap, rfl⟩ := okWide_slice Tryd.underlying28 hval
 obtain ⟨fuel, hf⟩ := h
 have hc : Cell.okWide Tryd.prog W .any b0 28 (.slice a len cap) := by simpa only [Value.okWide, Tryd.underlying28] using hval
 obtain ⟨l, _, hl⟩ := slice_in (cells := fun x : Int => [iv x]) Tryd.underlying28 Jag (fun n cs y h => open_int h) (fun _ => rfl) (by decide) hc hf
 rw [ints_flat] at hl
 exact ⟨l, hl⟩
end
theorem relRI {W : World} (h : laidMetH Tryd.prog [("winnow/lex.words", Rows.laid_winnow_lex_words)] W) {v w : Value} {l : List RowN} {A : List Int} (hv : SliceW W v l.length 5 (l.flatMap J0e)) (hw : SliceW W w A.length 1 (ints A)) :
  ∃ hp ρ sv sw, Rel Tryd.prog ρ hp W ∧ (∀ i, ¬ wr (hp.get i)) ∧ vrel ρ sv v ∧ vrel ρ sw w ∧ J0l hp sv l ∧ J1S 0 hp sw A ∧ hp.floor = 0 ∧ hp.get 0 = J14 ∧ 0 < hp.next := by
 have hR := relL h (ps := [⟨v, _, _, _, 46⟩, ⟨w, _, _, _, 3⟩]) (fun p hp => by
  simp only [List.mem_cons, List.not_mem_nil, or_false] at hp
  rcases hp with rfl | rfl
  ·refine ⟨hv, fun v hv => ?_⟩
   obtain ⟨x, _, hx⟩ := List.mem_flatMap.1 hv
   obtain ⟨j, hj⟩ := List.getElem?_of_mem hx
   exact J7Q hj
  ·refine ⟨hw, fun v hv => ?_⟩
   obtain ⟨x, _, rfl⟩ := List.mem_map.1 hv
   rfl)
 obtain ⟨r1, r2, r3, r4, r5, r6⟩ := hR
 obtain ⟨a0, b0⟩ := r6 0 _ rfl
 obtain ⟨a1, b1⟩ := r6 1 _ rfl
 exact ⟨_, _, _, _, r1, r2, a0, a1, (J3P.of b0).1, b1, r4, r5, by omega⟩
end Go.Proofs.YtipekdhneagdbaaDoor
