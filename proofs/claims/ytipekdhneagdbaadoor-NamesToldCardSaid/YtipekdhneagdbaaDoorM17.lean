/- Part 17 of what the claim leans on: 2 texts laid one behind another. -/
import Derived.Test.YtipekdhneagdbaaDoorM16
namespace Go.Proofs.YtipekdhneagdbaaDoor
open Go Go.Sx
set_option maxRecDepth 100000
set_option linter.unusedSimpArgs false
set_option linter.unusedVariables false
theorem round_walk {call : J0r} {N : Nat} {h : SHeap} {a m : Int} (hm : 0 < m ∧ m < 1099511627776) : J0L Tryd.prog call N 25 [iv a, iv m] h = some (iv (a % m), h) := by
 refine J1m Tryd.func25 rfl (by simp [Tryd.f25]) ?_
 have hr : Tryd.f25.results.toList = [.tmp 4] := rfl
 have h1 := Jjy (P := Tryd.prog) (t := 3) (x := .tmp 6) (y := .tmp 7) (k := .i64) (a := a) (show m ≠ 0 by omega)
 have h2 := Int.tmod_add_mul_tdiv a m
 have h3 := Int.emod_add_mul_ediv a m
 have h4 := Int.emod_nonneg a (show m ≠ 0 by omega)
 have h5 := Int.emod_lt_of_pos a hm.1
 have h6 := Int.tmod_lt_of_pos a hm.1
 have h7 : -m < a.tmod m := by
  have := Int.tmod_lt_of_pos (-a) hm.1
  rw [Int.neg_tmod] at this
  omega
 have h8 : (a - a.tmod m) % m = 0 := by rw [show a - a.tmod m = m * (a.tdiv m) by omega]; exact Int.mul_emod_right _ _
 have h9 : a % m = (a.tmod m) % m := by
  have := Int.emod_emod_of_dvd a (Int.dvd_refl m)
  have e := Int.add_emod (a - a.tmod m) (a.tmod m) m
  rw [Int.sub_add_cancel, h8, Int.zero_add, Int.emod_emod] at e
  exact e
 cases d : decide (a.tmod m < 0) with
 | true =>
  have d' := of_decide_eq_true d
  have w : IntKind.i64.wrap (a.tmod m + m) = a % m := by
   rw [J0s (by omega) (by omega), h9, ← Int.add_emod_right, Int.emod_eq_of_lt (by omega) (by omega)]
  simp only [evC, seval, ↓evP, hr, h1, d, w]
 | false =>
  have d' := of_decide_eq_false d
  have w : a.tmod m = a % m := by rw [h9, Int.emod_eq_of_lt (by omega) (by omega)]
  rw [w] at d h1
  simp only [evC, seval, ↓evP, hr, h1, d]
theorem k_round {n : Nat} {h : SHeap} {a m : Int} (hm : 0 < m ∧ m < 1099511627776) (hn : 0 < n) : J0T n 25 [iv a, iv m] h = some (iv (a % m), h) := by
 obtain ⟨n, rfl⟩ : ∃ j, n = j + 1 := ⟨n - 1, by omega⟩
 exact J6r (J13 ⟨rfl, rfl, rfl⟩) rfl (round_walk hm)
theorem J0p.put {lo : Nat} {h : SHeap} {v : Value} {n w : Nat} {cs : List Value} (hc : J0p lo h v n w cs) {id q : Nat} {R : List Value} {ty : TypeId} {g : Bool} {a b : Int} (hg : h.get id = .row R ty g false) (hid : id < h.next) (hq : R[q]? = some (iv a)) (hno : ∀ x ∈ cs, ∀ c, x ≠ iv c) :
  J0p lo (h.put id (.row (R.set q (iv b)) ty g false)) v n w cs := by
 obtain ⟨hl, ad, c, rfl, h1 | ⟨i, off, row, ty', g', ro, rfl, h1, h2, h3, h4⟩⟩ := hc
 ·exact ⟨hl, _, _, rfl, .inl h1⟩
 ·by_cases hi : i = id
  ·subst hi
   rw [hg] at h1
   cases h1
   refine ⟨hl, _, _, rfl, .inr ⟨i, off, _, _, _, _, rfl, J0b rfl hid, h2, ?_, h4⟩⟩
   rw [← h3]
   apply List.ext_getElem?
   intro j
   rw [List.getElem?_take, List.getElem?_take]
   split
   ·rename_i hj
    rw [List.getElem?_drop, List.getElem?_drop, List.getElem?_set]
    split
    ·rename_i hqj
     exfalso
     have : cs[j]? = some (iv a) := by rw [← h3, List.getElem?_take_of_lt hj, List.getElem?_drop, ← hqj]; exact hq
     exact hno _ (List.mem_of_getElem? this) a rfl
    ·rfl
   ·rfl
  ·exact ⟨hl, _, _, rfl, .inr ⟨i, off, row, ty', g', ro, rfl, by rw [J05 hid (Ne.symm hi)]; exact h1, h2, h3, h4⟩⟩
theorem J1S.put {lo : Nat} {h : SHeap} {v : Value} {l : List Int} (hc : J1S lo h v l) {id q : Nat} {R : List Value} {ty : TypeId} {g : Bool} {b : Int} (hg : h.get id = .row R ty g false) (hid : id < h.next) :
  ∃ l', l'.length = l.length ∧ J1S lo (h.put id (.row (R.set q (iv b)) ty g false)) v l' := by
 obtain ⟨hl, ad, c, rfl, h1 | ⟨i, off, row, ty', g', ro, rfl, h1, h2, h3, h4⟩⟩ := hc
 ·exact ⟨l, rfl, hl, _, _, rfl, .inl h1⟩
 ·by_cases hi : i = id
  ·subst hi
   rw [hg] at h1
   cases h1
   refine ⟨if off ≤ q then l.set (q - off) b else l, by split <;> simp, ?_⟩
   have hlen : (if off ≤ q then l.set (q - off) b else l).length = l.length := by split <;> simp
   refine ⟨by rw [J1h, Nat.mul_one], _, _, by rw [hlen], .inr ⟨i, off, _, _, _, _, rfl, J0b rfl hid, h2, ?_, h4⟩⟩
   rw [hlen]
   apply List.ext_getElem?
   intro j
   have hj3 : ((R.drop off).take (l.length * 1))[j]? = (ints l)[j]? := by rw [h3]
   rw [List.getElem?_take] at hj3 ⊢
   split
   ·rename_i hj
    rw [if_pos hj, List.getElem?_drop] at hj3
    rw [List.getElem?_drop, List.getElem?_set]
    split
    ·rename_i hqj
     have h7 : off + j < R.length := by
      rcases Nat.lt_or_ge (off + j) R.length with h9 | h9
      ·exact h9
      ·rw [List.getElem?_eq_none h9, J6g, List.getElem?_eq_getElem (by omega)] at hj3
       cases hj3
     rw [if_pos (by omega), J6g, if_pos (by omega), List.getElem?_set, if_pos (by omega), if_pos (by omega)]
     rfl
    ·rename_i hqj
     rw [hj3, J6g, J6g]
     split
     ·rw [List.getElem?_set_ne (by omega)]
     ·rfl
   ·rename_i hj
    rw [List.getElem?_eq_none (by rw [J1h, hlen]; omega)]
  ·exact ⟨l, rfl, hl, _, _, rfl, .inr ⟨i, off, row, ty', g', ro, rfl, by rw [J05 hid (Ne.symm hi)]; exact h1, h2, h3, h4⟩⟩
theorem J3P.turn {lo : Nat} {h0 h : SHeap} {v : Value} {l : List RowN} (hc : J3P lo h0 v l) (hn : h0.next ≤ h.next) (hsame : ∀ i, lo ≤ i → i < h0.next → h.get i = h0.get i) (hlo : 0 < lo) (hf : h.floor ≤ lo) {k : Nat} {x : RowN} (hx : l[k]? = some x) (b : Int) :
  ∃ id q R ty g, J0R Tryd.prog 22 v (iv (k : Int)) = some (.pointer (some ⟨id, q, none⟩)) ∧ h.get id = .row R ty g false ∧ lo ≤ id ∧ id < h0.next ∧ R[q + 3]? = some (iv x.n) ∧ J0K Tryd.prog h 3 (.pointer (some ⟨id, q + 3, none⟩)) (iv b) = some (h.put id (.row (R.set (q + 3) (iv b)) ty g false)) ∧
   J3P lo (h.put id (.row (R.set (q + 3) (iv b)) ty g false)) v (setN l k b) ∧ ld1 q (h.get id) = some (iv x.kind) ∧ ld1 (q + 3) (h.get id) = some (iv x.n) := by
 obtain ⟨hl, ad, c, rfl, ⟨h1, _⟩ | ⟨i, off, row, ty', g', ro, rfl, h1', h2, h3, h4⟩⟩ := hc.2
 ·have := (List.getElem?_eq_some_iff.1 hx).1
  omega
 ·obtain rfl := h4 hlo
  have h1 : h.get i = .row row ty' g' false := (hsame i h2.1 h2.2).trans h1'
  have hih : i < h.next := by omega
  have hk := (List.getElem?_eq_some_iff.1 hx).1
  have hcell : ∀ j, j < 5 → row[off + k * 5 + j]? = (J0e x)[j]? := fun j hj => by
   have := J2Y hx
   rw [← this, ← h3, List.getElem?_take_of_lt hj, List.getElem?_drop, List.getElem?_take_of_lt (by omega), List.getElem?_drop]
   congr 1
   omega
  have h30 : row[off + k * 5 + 3]? = some (iv x.n) := hcell 3 (by decide)
  have hlt := (List.getElem?_eq_some_iff.1 h30).1
  refine ⟨i, off + k * 5, row, ty', g', ?_, h1, h2.1, h2.2, h30, stc sz3 rfl rfl h1 hlt (by omega), ?_, by rw [h1]; exact (hcell 0 (by decide)).trans rfl, by rw [h1]; exact h30⟩
  ·simp only [J0R, Tryd.underlying22, sz46, J0q]
   rw [if_pos (by omega)]
   simp
  ·refine J3P.of ⟨J0N _, _, _, by rw [J4N], .inr ⟨i, off, _, _, _, _, rfl, J0b rfl hih, ⟨h2.1, hih⟩, ?_, fun _ => rfl⟩⟩
   rw [← J3N hx, ← h3, J4N]
   apply List.ext_getElem?
   intro j
   rw [List.getElem?_take, List.getElem?_set]
   have hcl : ((row.drop off).take (l.length * 5)).length = l.length * 5 := by rw [h3]; exact hl
   by_cases hj : j < l.length * 5
   ·rw [if_pos hj, List.getElem?_drop, List.getElem?_set, List.getElem?_take, if_pos hj, List.getElem?_drop]
    by_cases hq : k * 5 + 3 = j
    ·rw [if_pos hq, if_pos (by omega), if_pos (by omega), if_pos (by omega)]
    ·rw [if_neg hq, if_neg (by omega)]
   ·rw [if_neg hj, if_neg (by omega), List.getElem?_eq_none (by omega)]
theorem chk_turned' {l : List RowN} (h : (resN l).1.1 = 0) {k : Nat} {n : Int} {x : RowN} (hx : (resN l).2.rows[k]? = some x) (h27 : x.kind ≠ 27) (hn : n ≠ x.n) {s' : StN} (hs' : s'.rows = setN (resN l).2.rows k n) : chkPol (J52 l) s' = 23 := by
 refine if_neg fun hm => ?_
 obtain ⟨_, _, _, h1, _⟩ := hm
 rw [hs', zero_set hx h27, zero_res h, JeO h] at h1
 have h2 := J4g (n := n) hx
 rw [h1, hx] at h2
 exact hn (congrArg RowN.n (Option.some.inj h2)).symm
theorem k_namesR {n : Nat} {h : SHeap} {k : Int} (hk : 1 ≤ k ∧ k ≤ 54) : J0T n 32 [iv k] h = some (iv (J1O k), h) := J2Z (J1M (k := 12) (Jfb k h hk))
theorem k_declaresR {n : Nat} {h : SHeap} {k : Int} (hk : 1 ≤ k ∧ k ≤ 54) : J0T n 31 [iv k] h = some (iv (J0j k), h) := J2Z (J1M (k := 12) (Jgc k h hk))
theorem says_le {s : StN} (hw : WfS s) {k n : Int} {nm : ByteArray} (h : SaysN s k n nm) : n ≤ 64 := by
 have := hw.q; have := hw.v; have := hw.t; have := hw.u
 obtain ⟨h0, h1⟩ := h
 rcases h1 with ⟨_, b, h2⟩ | ⟨_, h2⟩ | ⟨_, h2⟩ | ⟨_, ru, h2, _⟩
 all_goals (have := (List.getElem?_eq_some_iff.1 h2).1; omega)
theorem queue_name {l : List (ByteArray × Bool)} {i : Nat} {nm : ByteArray} {b : Bool} (hx : l[i]? = some (nm, b)) {lo : Nat} {h : SHeap} {v : Value} (hc : J0p lo h v l.length 2 (J3S l)) : ∃ id p, J0R Tryd.prog 26 v (iv (i : Int)) = some (.pointer (some ⟨id, p, none⟩)) ∧ id < h.next ∧ ld1 p (h.get id) = some (.string nm) := by
 obtain ⟨id, p, h1, h2, h3⟩ := J0p.idx hc Tryd.underlying26 sz57 (List.getElem?_eq_some_iff.1 hx).1
 refine ⟨id, p, h1, h2, ?_⟩
 have h4 := h3 0 (by decide)
 have h5 := J7n hx
 have h6 : (((J3S l).drop (i * 2)).take 2)[0]? = some (.string nm) := by rw [h5]; rfl
 rw [List.getElem?_take_of_lt (by decide), List.getElem?_drop] at h6
 rw [Nat.add_zero] at h4
 rw [h4, Nat.add_zero]
 exact h6
noncomputable def ops9_13 : Array Oper := J18 Tryd.f9 13
def fs9_13 : List (Bool × Bool × List Operand) := [(false, true, []), (false, true, []), (false, true, []), (true, true, [.tmp 88]), (true, true, [.tmp 88]), (false, false, []), (false, false, []), (false, false, [])]
theorem flags9_13 : J1E ops9_13 = fs9_13 := by kernel_rfl
noncomputable def ops9_23 : Array Oper := J18 Tryd.f9 23
def fs9_23 : List (Bool × Bool × List Operand) := [(false, true, []), (false, true, []), (false, true, [.tmp 162]), (false, true, [.tmp 162]), (false, true, [.tmp 162, .tmp 164]), (false, true, [.tmp 162, .tmp 164]), (false, true, [.tmp 162]), (false, true, [.tmp 162]), (false, true, [.tmp 162]), (false, false, []), (false, false, []), (false, false, []), (false, false, [])]
theorem flags9_23 : J1E ops9_23 = fs9_23 := by kernel_rfl
noncomputable def ops9_26 : Array Oper := J18 Tryd.f9 26
def fs9_26 : List (Bool × Bool × List Operand) := [(false, true, []), (false, false, []), (false, false, []), (false, false, []), (false, false, []), (false, true, []), (false, true, []), (false, true, [.tmp 182]), (false, true, [.tmp 182]), (false, true, [.tmp 182]), (false, true, [.tmp 182]), (false, true, [.tmp 182]), (false, false, []), (false, false, []), (false, false, []), (false, true, []), (false, true, []), (false, true, [.tmp 192]), (false, true, [.tmp 192]), (false, true, [.tmp 192]), (false, true, [.tmp 192]), (false, true, [.tmp 192]), (false, false, []), (false, false, [])]
theorem flags9_26 : J1E ops9_26 = fs9_26 := by kernel_rfl
noncomputable def ops9_31 : Array Oper := J18 Tryd.f9 31
def fs9_31 : List (Bool × Bool × List Operand) := [(false, true, []), (false, true, []), (false, true, [.tmp 219]), (false, true, [.tmp 219]), (false, true, [.tmp 219]), (false, true, [.tmp 219, .tmp 222]), (false, true, [.tmp 219]), (false, true, [.tmp 219]), (false, true, [.tmp 219]), (false, true, [.tmp 219, .tmp 222, .tmp 226]), (false, true, [.tmp 219]), (false, false, []), (false, false, []), (false, false, [])]
theorem flags9_31 : J1E ops9_31 = fs9_31 := by kernel_rfl
theorem gd9_26 : (ops9_26[4]?).bind (·.dst) = some 181 ∧ (ops9_26[14]?).bind (·.dst) = some 191 := ⟨by kernel_rfl, by kernel_rfl⟩
section
variable {n : Nat} {h : SHeap}
set_option maxHeartbeats 32000000 in
theorem told_walk {l : List RowN} {v : Value} {a b : Int} (hv : J0l h v l) (hfl : h.floor ≤ h.next) (hg : h.get 0 = J14) (hn0 : 0 < h.next) (hn : 400000 < n) :
  ∃ h', J0L Tryd.prog (Jb4 n) n 9 [v, iv a, iv b] h = some (.bool true, h') ∧ True := by
 have hsn := (JaT n).2
 refine J1N (R := fun _ => True) Tryd.func9 rfl (by simp [Tryd.f9]) ?_
 have hr : Tryd.f9.results.toList = [.tmp 6] := rfl
 have hfar := t_k (by decide) (JiW (n := n) hv (by omega))
 cases d : decide ((l.length : Int) > 65536) with
 | true =>
  rw [d] at hfar
  have hhd := JfG (n := n) hg
  simp only [evC, seval, ↓evP, hr, hfar, hhd]
 | false =>
 rw [d] at hfar
 have hl : l.length ≤ 65536 := by
  have := of_decide_eq_false d
  omega
 obtain ⟨h1, hlend, ⟨L, hL⟩, n1, f1, o1⟩ := Jic (n := n) hv (by omega) hfl (by omega)
 have hlend' := t_k (n := n) (by decide) hlend
 have hmine : J0l h1 (.slice (some ⟨h.next, 0, none⟩) l.length (l.length + 9)) l := by
  refine ⟨_, _, rfl, .inr ⟨h.next, 0, _, _, _, _, rfl, hL.g, by omega, fun k r hk => ?_⟩⟩
  have hkl := (List.getElem?_eq_some_iff.1 hk).1
  rw [Nat.zero_add]
  exact J2Y ((hL.own k hkl).trans hk)
 obtain ⟨v2, h2, hres, pv, rfl, hp, f2, n2, o2⟩ := Jia (n := n) (h := h1) (by omega) ((o1 0 hn0).trans hg) (by omega) hmine (by omega) (by omega)
 have hres' := t_k (n := n) (by decide) hres
 obtain ⟨nm, s, hout⟩ : ∃ nm s, outN l = (nm, s) := ⟨_, _, rfl⟩
 have hsm := (JdR (l := l) (by omega)).1
 have htot := (JdR (l := l) (by omega)).2
 rw [hout] at hp hsm htot
 simp only at hp hsm htot
 obtain ⟨vr, vq, vv, vt, vu, vo, rfl, p1, p2, p3, p4, p5, p6⟩ := hp
 have oa := all8 (nm := nm) p1 p2 p3 p4 p5 p6
 obtain ⟨⟨hc, h3⟩, s1, s2, rO, n3, f3, o3⟩ := laid_out (H := h2) (cs := [.string nm, vr, vq, vv, vt, vu, vo, iv s.miss]) (e := (resN l).1.1) (p := (resN l).1.2) rfl oa (by omega)
 simp only at s1 s2 rO n3 f3 o3
 obtain ⟨x0, x1, x2, x3, x4, x5, x6, x7⟩ := Jhw (a := .string nm) (b := vr) (c := vq) (d := vv) (e := vt) (f := vu) (g := vo) (i := iv s.miss) (ty := 30) (x := false) (y := false)
 rw [← rO.1] at x0 x1 x2 x3 x4 x5 x6 x7
 have lF : ld1 0 (h3.get (h2.next + 1)) = some (iv (resN l).1.1) := by rw [rO.2]; rfl
 have zc30 : zPol.cells.toList = [.string ByteArray.empty, .slice none 0 0, .slice none 0 0, .slice none 0 0, .slice none 0 0, .slice none 0 0, .slice none 0 0, iv 0] := rfl
 have zc33 : (J2k 0 0).cells.toList = [iv 0, iv 0] := rfl
 have len1 := fun h' => JfA p1.2 h'
 have len2 := fun h' => JfC p2 h'
 have len6 := fun h' => JfF p6 h'
 have hg3 : h3.get 0 = J14 := by rw [o3 0 (by omega), o2 0 (by omega), o1 0 hn0]; exact hg
 simp only [evC, seval, ↓evP, hfar, hlend', hres', J5F, J3Y, zc30, J3C, J1t, zc33, J1D, s1, s2, Nat.zero_add, J6a, J7G, lF]
 cases d0 : ((resN l).1.1 != 0) with
 | true =>
  have hbad := hout.symm.trans (Jg8 (by simpa using d0))
  cases hbad
  have hhd := JfG (n := n) (h := h3) hg3
  have z1 : ∀ h' : SHeap, lenS Tryd.prog h' 22 vr = some (iv 0) := fun h' => len1 h'
  have z2 : ∀ h' : SHeap, lenS Tryd.prog h' 26 vq = some (iv 0) := fun h' => len2 h'
  have z6 : ∀ h' : SHeap, lenS Tryd.prog h' 28 vo = some (iv 0) := fun h' => len6 h'
  have z7 : ld1 7 (h3.get h2.next) = some (iv 0) := x7
  have ze : (ByteArray.empty == (⟨#[]⟩ : ByteArray)) = true := J34 _
  simp only [evC, seval, ↓evP, hr, d0, Nat.zero_add, J5g, J0y, J0B, J1T, J38, J0m, J0d, J0F, J0S, J0n, x0, x1, x2, x6, z7, z1, z2, z6, BEq.rfl, J1y, ze, hhd]
 | false =>
 have hok : (resN l).1.1 = 0 := by simpa using d0
 have hgood := hout.symm.trans (JeO hok)
 obtain ⟨rfl, rfl⟩ : nm = J52 l ∧ s = (resN l).2 := by cases hgood; exact ⟨rfl, rfl⟩
 obtain ⟨ht, _, _, _, _, hi⟩ := JhO hok
 have hm := told_res hok
 have hpos := ht.pos
 have hlen := hi.len
 have how := hi.wf.o
 have hkinds := J68 ht hi
 generalize hs : (resN l).2 = s at *
 have O3 : ∀ i, i < h2.next → h3.get i = h2.get i := o3
 have hp3 : J3x h1.next h3 (.agg #[.string (J52 l), vr, vq, vv, vt, vu, vo, iv s.miss]) (J52 l) s := J3x.mono (h := h2) ⟨vr, vq, vv, vt, vu, vo, rfl, p1, p2, p3, p4, p5, p6⟩ (by omega) fun i _ hi => o3 i hi
 have hlies : ∀ (nm' : ByteArray) (vr' vq' vv' vt' vu' vo' m : Value), Value.agg #[.string (J52 l), vr, vq, vv, vt, vu, vo, iv s.miss] = .agg #[.string nm', vr', vq', vv', vt', vu', vo', m] → Lies vr' s.rows.length := by
  intro nm' vr' vq' vv' vt' vu' vo' m he
  simp only [Value.agg.injEq, Array.mk.injEq, List.cons.injEq] at he
  rw [← he.2.1]
  exact lies_of p1.1 (by omega)
 have hchk := t_k (n := n) (by decide) (k_chkP (n := n) hp3 hlies hsm (by omega) (by omega) hg3 (by omega) (by omega))
 have hc0 : chkPol (J52 l) s = 0 := by rw [← hs]; exact chk_res hok
 rw [hc0] at hchk
 have lP : ldN 8 0 (h3.get h2.next) = some (.agg #[.string (J52 l), vr, vq, vv, vt, vu, vo, iv s.miss]) := J9E rO.1 rfl
 have lenv := fun h' => hv.len (h' := h')
 have e1 : ((s.rows.length : Int) != (l.length : Int)) = false := by rw [hlen]; simp
 have e2 : ((s.on.length : Int) != (s.queues.length : Int)) = false := by rw [how]; simp
 simp only [evC, seval, ↓evP, d0, J1b, lP, hchk, Nat.zero_add, J0y, J0B, J1T, J0F, J0S, J0n, x1, x2, x6, len1, len2, len6, lenv, e1, e2, bne_self_eq_false]
 have hfl3 : h3.floor ≤ h1.next := by omega
 refine WK.loop (fun i s' => s'.T.get 0 = v ∧ s'.T.get 1 = iv a ∧ s'.T.get 2 = iv b ∧ s'.T.get 7 = .pointer (some ⟨h2.next, 0, none⟩) ∧ s'.T.get 9 = iv i ∧ i ≤ s.rows.length ∧ h3.next ≤ s'.h.next ∧ s'.h.floor = h3.floor ∧ ∀ j, j < h3.next → s'.h.get j = h3.get j) s.rows.length (by omega) ?_ ?_
 ·exact ⟨by simp only [evC, seval, ↓evP, rpC], by simp only [evC, seval, ↓evP, rpC], by simp only [evC, seval, ↓evP, rpC], by simp only [evC, seval, ↓evP, rpC], by simp only [evC, seval, ↓evP, rpC], by omega, Nat.le_refl _, rfl, fun _ _ => rfl⟩
 rintro i ⟨T1, H1⟩ hi1 ⟨t0, t1, t2, t7, t9, hil, m1, m2, m3⟩
 simp only at t0 t1 t2 t7 t9 m1 m2 m3
 have gA1 : H1.get h2.next = h3.get h2.next := m3 _ (by omega)
 by_cases hlt : i < s.rows.length
 ·have c1 : decide ((i : Int) < (s.rows.length : Int)) = true := by simp; omega
  obtain ⟨x, hx⟩ : ∃ x, s.rows[i]? = some x := ⟨_, List.getElem?_eq_getElem hlt⟩
  obtain ⟨y, hy, hxy⟩ := hi.same i x hx
  have hname : y.name = x.name := by rw [hxy]
  have hkind : y.kind = x.kind := by rw [hxy]
  have hkx := hkinds x (List.mem_of_getElem? hx)
  have old1 : ∀ j, j < h2.next → H1.get j = h2.get j := fun j hj => (m3 j (by omega)).trans (o3 j hj)
  obtain ⟨ida, pa, ea, hida, _, _, _, _, _, la⟩ := (p1.1.mono (h' := H1) (by omega) old1).row hx
  have la' : ldN 5 pa (H1.get ida) = some (rowV x) := la
  have hz : flat (.agg #[.int .i64 0, .string ByteArray.empty, .int .i64 0, .int .i64 0, .int .i64 0]) = true := rfl
  have hzc : (Value.agg #[.int .i64 0, .string ByteArray.empty, .int .i64 0, .int .i64 0, .int .i64 0]).cells.toList = J0e zRow := rfl
  have hst : J0K Tryd.prog (H1.push (.row (J0e zRow) 46 false false)) 46 (.pointer (some ⟨H1.next, 0, none⟩)) (rowV x) = some ((H1.push (.row (J0e zRow) 46 false false)).put H1.next (.row (J0e x) 46 false false)) := JaU (i := 0) (off := 0) (L := [zRow]) rfl J0h (by decide) (by rw [J0i]; omega)
  simp only [evC, seval, ↓evP, Nat.zero_add, t0, t1, t2, t7, t9, J0y, J0F, gA1, x1, len1, c1, ea, J0u, la', J40, hz, hzc, hst]
  have gN : ((H1.push (.row (J0e zRow) 46 false false)).put H1.next (.row (J0e x) 46 false false)).get H1.next = .row (J0e x) 46 false false := J0b rfl (by rw [J1D]; omega)
  have gO : ∀ j, j < H1.next → ((H1.push (.row (J0e zRow) 46 false false)).put H1.next (.row (J0e x) 46 false false)).get j = H1.get j := fun j hj => by rw [J05 (by rw [J1D]; omega) (by omega), J06 hj]
  have nG : ((H1.push (.row (J0e zRow) 46 false false)).put H1.next (.row (J0e x) 46 false false)).next = H1.next + 1 := rfl
  have fG : ((H1.push (.row (J0e zRow) 46 false false)).put H1.next (.row (J0e x) 46 false false)).floor = H1.floor := rfl
  generalize (H1.push (.row (J0e zRow) 46 false false)).put H1.next (.row (J0e x) 46 false false) = G at *
  have lD0 : ld1 0 (G.get H1.next) = some (iv x.kind) := by rw [gN]; rfl
  have lD1 : ld1 1 (G.get H1.next) = some (.string x.name) := by rw [gN]; rfl
  have lD3 : ld1 3 (G.get H1.next) = some (iv x.n) := by rw [gN]; rfl
  have hDlt : (H1.next < G.next) = True := by rw [nG]; simp
  have hN := fun H => t_k (n := n) (by decide) (k_namesR (n := n) (h := H) hkx)
  have hC := fun H => t_k (n := n) (by decide) (k_declaresR (n := n) (h := H) hkx)
  have hle1 := Jcr x.kind
  have hle2 := J3c x.kind
  have w1 : IntKind.i64.wrap (J1O x.kind + J0j x.kind) = saysK x.kind := J0s (by omega) (by omega)
  obtain ⟨q1, q2⟩ := hm.rows i x (by omega) hx
  have hxn0 : 0 ≤ x.n := by
   by_cases hk0 : saysK x.kind = 0
   ·exact (fit_n (ht.row (q1 hk0)).1).2
   ·exact (q2 hk0).1
  obtain ⟨m, hxm⟩ : ∃ m : Nat, x.n = (m : Int) := ⟨x.n.toNat, by omega⟩
  rw [hxm] at lD3
  have cn : decide ((m : Int) < 0) = false := by simp
  simp only [evC, seval, ↓evP, Nat.zero_add, t0, t1, t2, t7, t9, J07, J0d, lD1]
  refine WK.flags (ops := ops9_13) flags9_13 ?_
  refine WKF.begin ?_
  have FF := And.intro @JcC (And.intro @J0t (And.intro @J0m (And.intro @lD0 (And.intro @hN (And.intro @hC (And.intro @w1 (And.intro @hDlt (And.intro @JiM (And.intro @J0J (And.intro @J1g @Jk2))))))))))
  refine wst hsn 0 (some 88) (.fieldAddr 46 (.tmp 10) 0) none ?_
  simp only [rgC, seval, J04, J02, WKFC, Nat.zero_add, FF]
  refine wst hsn 1 (some 89) (.load 3 (.tmp 88)) none ?_
  simp only [rgC, seval, J04, J02, WKFC, rgL, FF]
  refine wst hsn 2 (some 90) (.call { callee := .value (.func 32), args := #[.tmp 89], argTypes := #[3] }) none ?_
  simp only [rgC, seval, J04, J02, WKFC, rgK, FF]
  refine wst hsn 3 (some 91) (.fieldAddr 46 (.tmp 10) 0) none ?_
  simp only [rgC, seval, J04, J02, WKFC, Nat.zero_add, FF]
  refine wst hsn 4 (some 92) (.load 3 (.tmp 91)) none ?_
  simp only [rgC, seval, J04, J02, WKFC, rgL, FF]
  refine wst hsn 5 (some 93) (.call { callee := .value (.func 31), args := #[.tmp 92], argTypes := #[3] }) none ?_
  simp only [rgC, seval, J04, J02, WKFC, rgK, FF]
  refine wst hsn 6 (some 94) (.binOp .add 3 (.tmp 90) (.tmp 93) 3) none ?_
  simp only [rgC, seval, J04, J02, WKFC, rgB, FF]
  refine wst hsn 7 (some 12) (.assign (.tmp 94)) none ?_
  simp only [rgC, seval, J04, J02, WKFC, FF]
  refine WKF.done (i := 8) (by kernel_rfl) ?_
  clear FF
  have hcase : saysK x.kind = 0 ∨ saysK x.kind = 1 ∨ saysK x.kind = 2 ∨ saysK x.kind = 3 ∨ saysK x.kind = 4 := by
   by_cases hc9 : J1O x.kind = 0
   ·unfold saysK; omega
   ·have := declares_calls hc9; unfold saysK; omega
  have oldG : ∀ j, j < h2.next → G.get j = h2.get j := fun j hj => (gO j (by omega)).trans (old1 j hj)
  have gAG : G.get h2.next = h3.get h2.next := (gO _ (by omega)).trans gA1
  have G1 := p1.1.mono (h' := G) (by omega) oldG
  have G2 := p2.mono (h' := G) (by omega) fun j _ hj => oldG j hj
  have G3 := p3.mono (h' := G) (by omega) fun j _ hj => oldG j hj
  have G4 := p4.mono (h' := G) (by omega) fun j _ hj => oldG j hj
  have G5 : J1S h1.next G vu s.rules := J1S.mono p5 (by omega) fun j _ hj => oldG j hj
  have len3 := fun h' => JfT p3 h'
  have len4 := fun h' => JfT p4 h'
  have len5 := fun h' => JfF p5 h'
  have hvG : J0l G v l := hv.mono (by omega) fun j hj => by rw [oldG j (by omega), o2 j (by omega), o1 j hj]
  obtain ⟨idy, py, ey, _, ly0, ly1, _⟩ := hvG.row hy
  rw [hname] at ly1
  rw [hkind] at ly0
  rw [hxm] at q2
  have hnn : (x.name == x.name) = true := J34 _
  have hkk : (x.kind != x.kind) = false := by simp
  have w2 : IntKind.i64.wrap ((i : Int) + 1) = ((i + 1 : Nat) : Int) := J0s (by omega) (by omega)
  rcases hcase with hk | hk | hk | hk | hk
  all_goals rw [hk]
  focus
   simp only [evC, seval, ↓evP, JcC, Nat.zero_add, t7, J0O, J0m, lD3, cn]
  rotate_left
  focus
   obtain ⟨_, hs1 | ⟨h8, _⟩ | ⟨h8, _⟩ | ⟨h8, _⟩⟩ := q2 (by rw [hk]; decide)
   rotate_left
   all_goals first | (rw [hk] at h8; exact absurd h8 (by decide)) | skip
   obtain ⟨_, bq, hq⟩ := hs1
   rw [Int.toNat_natCast] at hq
   have hml := (List.getElem?_eq_some_iff.1 hq).1
   obtain ⟨idq, pq, eq, _, lq⟩ := queue_name hq G2
   have cm : decide ((m : Int) < (s.queues.length : Int)) = true := by simp; omega
   simp only [evC, seval, ↓evP, JcC, Nat.zero_add, t7, J0O, J0m, lD3, cn, J0B, J0S, gAG, x2, len2, cm, eq, JiV, J0d, lq]
  rotate_left
  focus
   obtain ⟨_, ⟨h8, _⟩ | hs1 | ⟨h8, _⟩ | ⟨h8, _⟩⟩ := q2 (by rw [hk]; decide)
   rotate_left 1
   rotate_left 1
   all_goals first | (rw [hk] at h8; exact absurd h8 (by decide)) | skip
   obtain ⟨_, hq⟩ := hs1
   rw [Int.toNat_natCast] at hq
   have hml := (List.getElem?_eq_some_iff.1 hq).1
   obtain ⟨idq, pq, eq, _, lq⟩ := Ja3 hq G3
   have cm : decide ((m : Int) < (s.vars.length : Int)) = true := by simp; omega
   simp only [evC, seval, ↓evP, JcC, Nat.zero_add, t7, J0O, J0m, lD3, cn, J1A, J0Y, gAG, x3, len3, cm, eq, J0d, lq]
  rotate_left
  focus
   obtain ⟨_, ⟨h8, _⟩ | ⟨h8, _⟩ | hs1 | ⟨h8, _⟩⟩ := q2 (by rw [hk]; decide)
   all_goals first | (rw [hk] at h8; exact absurd h8 (by decide)) | skip
   obtain ⟨_, hq⟩ := hs1
   rw [Int.toNat_natCast] at hq
   have hml := (List.getElem?_eq_some_iff.1 hq).1
   obtain ⟨idq, pq, eq, _, lq⟩ := Ja3 hq G4
   have cm : decide ((m : Int) < (s.tags.length : Int)) = true := by simp; omega
   simp only [evC, seval, ↓evP, JcC, Nat.zero_add, t7, J0O, J0m, lD3, cn, J1B, J0Y, gAG, x4, len4, cm, eq, J0d, lq]
  rotate_left
  focus
   obtain ⟨_, ⟨h8, _⟩ | ⟨h8, _⟩ | ⟨h8, _⟩ | hs1⟩ := q2 (by rw [hk]; decide)
   all_goals first | (rw [hk] at h8; exact absurd h8 (by decide)) | skip
   obtain ⟨_, ru, hq, yy, hyy, hyn⟩ := hs1
   rw [Int.toNat_natCast] at hq
   have hml := (List.getElem?_eq_some_iff.1 hq).1
   have hrl := (List.getElem?_eq_some_iff.1 hyy).1
   obtain ⟨idq, pq, eq, _, lq⟩ := G5.get hq
   obtain ⟨idr, pr, er, _, _, lr, _⟩ := G1.row hyy
   rw [hyn] at lr
   have cm : decide ((m : Int) < (s.rules.length : Int)) = true := by simp; omega
   have w3 : IntKind.i64.wrap ((ru : Int) + 1 - 1) = (ru : Int) := by rw [J0s (by omega) (by omega)]; omega
   simp only [evC, seval, ↓evP, JcC, Nat.zero_add, t7, J0O, J0m, lD3, cn, J36, J0n, gAG, x5, len5, cm]
   refine WK.flags (ops := ops9_23) flags9_23 ?_
   refine WKF.begin ?_
   have FF := And.intro @JcC (And.intro @t7 (And.intro @J0y (And.intro @J36 (And.intro @J0F (And.intro @J0n (And.intro @gAG (And.intro @x1 (And.intro @x5 (And.intro @J0O (And.intro @J07 (And.intro @J0m (And.intro @lD3 (And.intro @eq (And.intro @lq (And.intro @w3 (And.intro @er (And.intro @J0d @lr)))))))))))))))))
   refine wst hsn 0 (some 162) (.fieldAddr 30 (.tmp 7) 1) none ?_
   simp only [rgC, seval, J04, J02, WKFC, Nat.zero_add, FF]
   refine wst hsn 1 (some 163) (.load 22 (.tmp 162)) none ?_
   simp only [rgC, seval, J04, J02, WKFC, rgL, FF]
   refine wst hsn 2 (some 164) (.fieldAddr 30 (.tmp 7) 5) none ?_
   simp only [rgC, seval, J04, J02, WKFC, Nat.zero_add, FF]
   refine wst hsn 3 (some 165) (.load 28 (.tmp 164)) none ?_
   simp only [rgC, seval, J04, J02, WKFC, rgL, FF]
   refine wst hsn 4 (some 166) (.fieldAddr 46 (.tmp 10) 3) none ?_
   simp only [rgC, seval, J04, J02, WKFC, Nat.zero_add, FF]
   refine wst hsn 5 (some 167) (.load 3 (.tmp 166)) none ?_
   simp only [rgC, seval, J04, J02, WKFC, rgL, FF]
   refine wst hsn 6 (some 168) (.indexAddr 28 (.tmp 165) (.tmp 167)) none ?_
   simp only [rgC, seval, J04, J02, WKFC, Nat.zero_add, FF]
   refine wst hsn 7 (some 169) (.load 3 (.tmp 168)) none ?_
   simp only [rgC, seval, J04, J02, WKFC, rgL, FF]
   refine wst hsn 8 (some 170) (.binOp .sub 3 (.tmp 169) (.const (Value.int IntKind.i64 1)) 3) none ?_
   simp only [rgC, seval, J04, J02, WKFC, rgB, FF]
   refine wst hsn 9 (some 171) (.indexAddr 22 (.tmp 163) (.tmp 170)) none ?_
   simp only [rgC, seval, J04, J02, WKFC, Nat.zero_add, FF]
   refine wst hsn 10 (some 172) (.fieldAddr 46 (.tmp 171) 1) none ?_
   simp only [rgC, seval, J04, J02, WKFC, Nat.zero_add, FF]
   refine wst hsn 11 (some 173) (.load 9 (.tmp 172)) none ?_
   simp only [rgC, seval, J04, J02, WKFC, rgL, FF]
   refine wst hsn 12 (some 11) (.assign (.tmp 173)) none ?_
   simp only [rgC, seval, J04, J02, WKFC, FF]
   refine WKF.done (i := 13) (by kernel_rfl) ?_
   clear FF
   simp only [evC, seval, ↓evP, JcC]
  rotate_left
  all_goals
   refine WK.flags (ops := ops9_26) flags9_26 ?_
   refine WKF.begin ?_
   have FF := And.intro @JcC (And.intro gd9_26.1 (And.intro gd9_26.2 (And.intro @t0 (And.intro @t1 (And.intro @t2 (And.intro @t7 (And.intro @J07 (And.intro @J0t (And.intro @J0d (And.intro @J0m (And.intro @lD1 (And.intro @lD0 (And.intro @J26 (And.intro @hnn (And.intro @ey (And.intro @ly0 (And.intro @ly1 @hkk)))))))))))))))))
   refine wst hsn 0 (some 177) (.move (.tmp 11)) none ?_
   simp only [rgC, seval, J04, J02, WKFC, t9, FF]
   refine wst hsn 1 (some 178) (.fieldAddr 46 (.tmp 10) 1) none ?_
   simp only [rgC, seval, J04, J02, WKFC, Nat.zero_add, t9, FF]
   refine wst hsn 2 (some 179) (.load 9 (.tmp 178)) none ?_
   simp only [rgC, seval, J04, J02, WKFC, rgL, t9, FF]
   refine wst hsn 3 (some 180) (.binOp .neq 9 (.tmp 177) (.tmp 179) 9) none ?_
   simp only [rgC, seval, J04, J02, WKFC, rgB, t9, FF]
   refine wst hsn 4 (some 181) (.move (.tmp 180)) none ?_
   simp only [rgC, seval, J04, J02, WKFC, t9, FF]
   refine wst hsn 5 (some 182) (.fieldAddr 46 (.tmp 10) 1) (some (4, false)) ?_
   simp only [rgC, seval, J04, J02, WKFC, Nat.zero_add, t9, FF]
   refine wst hsn 6 (some 183) (.load 9 (.tmp 182)) (some (4, false)) ?_
   simp only [rgC, seval, J04, J02, WKFC, rgL, t9, FF]
   refine wst hsn 7 (some 184) (.move (.tmp 0)) (some (4, false)) ?_
   simp only [rgC, seval, J04, J02, WKFC, t9, FF]
   refine wst hsn 8 (some 185) (.move (.tmp 9)) (some (4, false)) ?_
   simp only [rgC, seval, J04, J02, WKFC, t9, FF]
   refine wst hsn 9 (some 186) (.indexAddr 22 (.tmp 184) (.tmp 185)) (some (4, false)) ?_
   simp only [rgC, seval, J04, J02, WKFC, Nat.zero_add, t9, FF]
   refine wst hsn 10 (some 187) (.fieldAddr 46 (.tmp 186) 1) (some (4, false)) ?_
   simp only [rgC, seval, J04, J02, WKFC, Nat.zero_add, t9, FF]
   refine wst hsn 11 (some 188) (.load 9 (.tmp 187)) (some (4, false)) ?_
   simp only [rgC, seval, J04, J02, WKFC, rgL, t9, FF]
   refine wst hsn 12 (some 189) (.binOp .neq 9 (.tmp 183) (.tmp 188) 9) (some (4, false)) ?_
   simp only [rgC, seval, J04, J02, WKFC, rgB, t9, FF]
   refine wst hsn 13 (some 190) (.pick (.tmp 181) (.const (Value.bool true)) (.tmp 189)) none ?_
   simp only [rgC, seval, J04, J02, WKFC, t9, FF]
   refine wst hsn 14 (some 191) (.move (.tmp 190)) none ?_
   simp only [rgC, seval, J04, J02, WKFC, t9, FF]
   refine wst hsn 15 (some 192) (.fieldAddr 46 (.tmp 10) 0) (some (14, false)) ?_
   simp only [rgC, seval, J04, J02, WKFC, Nat.zero_add, t9, FF]
   refine wst hsn 16 (some 193) (.load 3 (.tmp 192)) (some (14, false)) ?_
   simp only [rgC, seval, J04, J02, WKFC, rgL, t9, FF]
   refine wst hsn 17 (some 194) (.move (.tmp 0)) (some (14, false)) ?_
   simp only [rgC, seval, J04, J02, WKFC, t9, FF]
   refine wst hsn 18 (some 195) (.move (.tmp 9)) (some (14, false)) ?_
   simp only [rgC, seval, J04, J02, WKFC, t9, FF]
   refine wst hsn 19 (some 196) (.indexAddr 22 (.tmp 194) (.tmp 195)) (some (14, false)) ?_
   simp only [rgC, seval, J04, J02, WKFC, Nat.zero_add, t9, FF]
   refine wst hsn 20 (some 197) (.fieldAddr 46 (.tmp 196) 0) (some (14, false)) ?_
   simp only [rgC, seval, J04, J02, WKFC, Nat.zero_add, t9, FF]
   refine wst hsn 21 (some 198) (.load 3 (.tmp 197)) (some (14, false)) ?_
   simp only [rgC, seval, J04, J02, WKFC, rgL, t9, FF]
   refine wst hsn 22 (some 199) (.binOp .neq 3 (.tmp 193) (.tmp 198) 3) (some (14, false)) ?_
   simp only [rgC, seval, J04, J02, WKFC, rgB, t9, FF]
   refine wst hsn 23 (some 200) (.pick (.tmp 191) (.const (Value.bool true)) (.tmp 199)) none ?_
   simp only [rgC, seval, J04, J02, WKFC, t9, FF]
   refine WKF.done (i := 24) (by kernel_rfl) ?_
   clear FF
   simp only [evC, seval, ↓evP, JcC, t0, t1, t2, t7, t9, w2]
   exact ⟨by omega, by omega, by omega, by omega, fun j hj => (gO j (by omega)).trans (m3 j hj)⟩
 have c1 : decide ((i : Int) < (s.rows.length : Int)) = false := by simp; omega
 have hra := fun H => t_k (n := n) (by decide) (k_round (n := n) (h := H) (a := a) (m := (s.rows.length : Int)) ⟨by omega, by omega⟩ (by omega))
 have hrb := fun H => t_k (n := n) (by decide) (k_round (n := n) (h := H) (a := b) (m := 1000) ⟨by decide, by decide⟩ (by omega))
 obtain ⟨k, hk⟩ : ∃ k : Nat, a % (s.rows.length : Int) = (k : Int) := ⟨_, (Int.toNat_of_nonneg (Int.emod_nonneg a (by omega))).symm⟩
 have hkl : k < s.rows.length := by
  have := Int.emod_lt_of_pos a (show (0 : Int) < s.rows.length by omega)
  omega
 have hcb : 0 ≤ b % 1000 ∧ b % 1000 < 1000 := by omega
 generalize b % 1000 = c at *
 obtain ⟨x, hx⟩ : ∃ x, s.rows[k]? = some x := ⟨_, List.getElem?_eq_getElem hkl⟩
 have old1 : ∀ j, j < h2.next → H1.get j = h2.get j := fun j hj => (m3 j (by omega)).trans (o3 j hj)
 obtain ⟨id, q, R, ty, g, ek, gR, hid1, hid2, hR3, hst, hRin, lk, ln⟩ := J3P.turn (h0 := h2) (h := H1) p1 (by omega) (fun j _ hj => old1 j hj) (by omega) (by omega) hx (x.n + c)
 have hhd := JfG (n := n) (h := H1) (by rw [m3 0 (by omega)]; exact hg3)
 cases d27 : (x.kind != 27) with
 | false =>
  simp only [evC, seval, ↓evP, hr, Nat.zero_add, t0, t1, t2, t7, t9, J0y, J0F, gA1, x1, len1, c1, hra, hk, hrb, ek, J0t, J0m, lk, d27, hhd]
 | true =>
 have h27 : x.kind ≠ 27 := by simpa using d27
 cases dc : decide (c > 0) with
 | false =>
  simp only [evC, seval, ↓evP, hr, Nat.zero_add, t0, t1, t2, t7, t9, J0y, J0F, gA1, x1, len1, c1, hra, hk, hrb, ek, J0t, J0m, lk, d27, dc, hhd]
 | true =>
 have hc0' : c > 0 := of_decide_eq_true dc
 obtain ⟨q1, q2⟩ := hm.rows k x (by omega) hx
 have hxn : 0 ≤ x.n ∧ x.n ≤ 64 := by
  by_cases hk0 : saysK x.kind = 0
  ·have h9 := fit_n (ht.row (q1 hk0)).1
   have h10 := h9.1 h27
   omega
  ·exact ⟨(q2 hk0).1, says_le hi.wf (q2 hk0)⟩
 have wn : IntKind.i64.wrap (x.n + c) = x.n + c := J0s (by omega) (by omega)
 simp only [evC, seval, ↓evP, Nat.zero_add, t0, t1, t2, t7, t9, J0y, J0F, gA1, x1, len1, c1, hra, hk, hrb, ek, J0t, J0m, lk, d27, dc]
 refine WK.flags (ops := ops9_31) flags9_31 ?_
 refine WKF.begin ?_
 have FF := And.intro @JcC (And.intro @t0 (And.intro @t1 (And.intro @t2 (And.intro @t7 (And.intro @J0y (And.intro @J0F (And.intro @gA1 (And.intro @x1 (And.intro @ek (And.intro @J0O (And.intro @J0m (And.intro @ln (And.intro @wn @hst)))))))))))))
 refine wst hsn 0 (some 219) (.fieldAddr 30 (.tmp 7) 1) none ?_
 simp only [rgC, seval, J04, J02, WKFC, Nat.zero_add, FF]
 refine wst hsn 1 (some 220) (.load 22 (.tmp 219)) none ?_
 simp only [rgC, seval, J04, J02, WKFC, rgL, FF]
 refine wst hsn 2 (some 221) (.move (.tmp 1)) none ?_
 simp only [rgC, seval, J04, J02, WKFC, FF]
 refine wst hsn 3 (some 222) (.fieldAddr 30 (.tmp 7) 1) none ?_
 simp only [rgC, seval, J04, J02, WKFC, Nat.zero_add, FF]
 refine wst hsn 4 (some 223) (.load 22 (.tmp 222)) none ?_
 simp only [rgC, seval, J04, J02, WKFC, rgL, FF]
 refine wst hsn 5 (some 224) (.move (.tmp 1)) none ?_
 simp only [rgC, seval, J04, J02, WKFC, FF]
 refine wst hsn 6 (some 225) (.indexAddr 22 (.tmp 223) (.tmp 224)) none ?_
 simp only [rgC, seval, J04, J02, WKFC, Nat.zero_add, FF]
 refine wst hsn 7 (some 226) (.fieldAddr 46 (.tmp 225) 3) none ?_
 simp only [rgC, seval, J04, J02, WKFC, Nat.zero_add, FF]
 refine wst hsn 8 (some 227) (.load 3 (.tmp 226)) none ?_
 simp only [rgC, seval, J04, J02, WKFC, rgL, FF]
 refine wst hsn 9 (some 228) (.move (.tmp 2)) none ?_
 simp only [rgC, seval, J04, J02, WKFC, FF]
 refine wst hsn 10 (some 229) (.binOp .add 3 (.tmp 227) (.tmp 228) 3) none ?_
 simp only [rgC, seval, J04, J02, WKFC, rgB, FF]
 refine wst hsn 11 (some 230) (.indexAddr 22 (.tmp 220) (.tmp 221)) none ?_
 simp only [rgC, seval, J04, J02, WKFC, Nat.zero_add, FF]
 refine wst hsn 12 (some 231) (.fieldAddr 46 (.tmp 230) 3) none ?_
 simp only [rgC, seval, J04, J02, WKFC, Nat.zero_add, FF]
 refine wst hsn 13 (none) (.store 3 (.tmp 231) (.tmp 229)) none ?_
 simp only [rgC, seval, J04, J02, WKFC, J17, rgS, FF]
 refine WKF.done (i := 14) (by kernel_rfl) ?_
 clear FF
 have hidH : id < H1.next := by omega
 obtain ⟨r', hr', c5⟩ := J1S.put (b := x.n + c) (q := q + 3) (J1S.mono (h' := H1) p5 (by omega) fun j _ hj => old1 j hj) gR hidH
 obtain ⟨o', ho', c6⟩ := J1S.put (b := x.n + c) (q := q + 3) (J1S.mono (h' := H1) p6 (by omega) fun j _ hj => old1 j hj) gR hidH
 have c2 := (p2.mono (h' := H1) (by omega) fun j _ hj => old1 j hj).put (b := x.n + c) gR hidH hR3 (fun y hy cc => by
  obtain ⟨z, _, hz⟩ := List.mem_flatMap.1 hy
  simp only [List.mem_cons, List.not_mem_nil, or_false] at hz
  rcases hz with rfl | rfl <;> exact fun h => by cases h)
 have c3 := (p3.mono (h' := H1) (by omega) fun j _ hj => old1 j hj).put (b := x.n + c) gR hidH hR3 (fun y hy cc => by
  obtain ⟨z, _, rfl⟩ := List.mem_map.1 hy
  exact fun h => by cases h)
 have c4 := (p4.mono (h' := H1) (by omega) fun j _ hj => old1 j hj).put (b := x.n + c) gR hidH hR3 (fun y hy cc => by
  obtain ⟨z, _, rfl⟩ := List.mem_map.1 hy
  exact fun h => by cases h)
 have hp4 : J3x h1.next (H1.put id (.row (R.set (q + 3) (iv (x.n + c))) ty g false)) (.agg #[.string (J52 l), vr, vq, vv, vt, vu, vo, iv s.miss]) (J52 l) { s with rows := setN s.rows k (x.n + c), rules := r', on := o' } := ⟨vr, vq, vv, vt, vu, vo, rfl, hRin, c2, c3, c4, c5, c6⟩
 have hsm4 : JdC { s with rows := setN s.rows k (x.n + c), rules := r', on := o' } := by
  unfold JdC at hsm ⊢
  simp only [J4N, hr', ho']
  exact hsm
 have htot4 : Jbg { s with rows := setN s.rows k (x.n + c), rules := r', on := o' } = Jbg s := by
  unfold Jbg
  simp only [J4N, hr', ho']
 have hlies4 : ∀ (nm' : ByteArray) (vr' vq' vv' vt' vu' vo' m : Value), Value.agg #[.string (J52 l), vr, vq, vv, vt, vu, vo, iv s.miss] = .agg #[.string nm', vr', vq', vv', vt', vu', vo', m] → Lies vr' (setN s.rows k (x.n + c)).length := by
  intro nm' vr' vq' vv' vt' vu' vo' m he
  rw [J4N]
  exact hlies _ _ _ _ _ _ _ _ he
 have gz : (H1.put id (.row (R.set (q + 3) (iv (x.n + c))) ty g false)).get 0 = J14 := by rw [J05 hidH (by omega), m3 0 (by omega)]; exact hg3
 have hchk4 := t_k (n := n) (by decide) (k_chkP (n := n) hp4 hlies4 hsm4 (by simp only [J4N]; omega) (by show H1.floor ≤ H1.next; omega) gz (by show 0 < H1.next; omega) (by omega))
 rw [chk_turned' hok (k := k) (n := x.n + c) (x := x) (by rw [hs]; exact hx) h27 (by omega) (by rw [hs])] at hchk4
 have lP4 : ldN 8 0 ((H1.put id (.row (R.set (q + 3) (iv (x.n + c))) ty g false)).get h2.next) = some (.agg #[.string (J52 l), vr, vq, vv, vt, vu, vo, iv s.miss]) := by rw [J05 hidH (by omega), gA1]; exact lP
 have hhd4 := JfG (n := n) gz
 simp only [evC, seval, ↓evP, hr, JcC, t7, J1b, lP4, hchk4, BEq.rfl, hhd4]
end
end Go.Proofs.YtipekdhneagdbaaDoor
