/- Part 20 of what the claim leans on: 4 texts laid one behind another. -/
import Derived.Test.YtipekdhneagdbaaDoorL19
namespace Go.Proofs.YtipekdhneagdbaaDoor
open Go Go.Sx
set_option maxRecDepth 100000
set_option linter.unusedSimpArgs false
set_option linter.unusedVariables false
def zero1 (x : RowN) : RowN := if x.kind ≠ 27 then { x with n := 0 } else x
def zeroN (l : List RowN) : List RowN := l.map zero1
def MayBe (nm : ByteArray) (s : StN) : Prop := (resN (zeroN s.rows)).1.1 = 0 ∧ J5b nm (outN (zeroN s.rows)).1 s (outN (zeroN s.rows)).2
open Classical in
noncomputable def chkPol (nm : ByteArray) (s : StN) : Int := if MayBe nm s then 0 else 23
theorem laid_out {H : SHeap} {cs : List Value} {e p : Int} (hl : cs.length = 8) (ho : cs.all one = true) (hf : H.floor ≤ H.next) :
  ∃ H' : SHeap × SHeap, J0K Tryd.prog ((H.push (.row [.string ByteArray.empty, .slice none 0 0, .slice none 0 0, .slice none 0 0, .slice none 0 0, .slice none 0 0, .slice none 0 0, iv 0] 30 false false)).push (.row [iv 0, iv 0] 33 false false)) 30 (.pointer (some ⟨H.next, 0, none⟩)) (.agg cs.toArray) = some (H'.1) ∧ J0K Tryd.prog H'.1 33 (.pointer (some ⟨H.next + 1, 0, none⟩)) (J2k e p) = some H'.2 ∧
   Out2 H.next H'.2 cs e p ∧ H'.2.next = H.next + 2 ∧ H'.2.floor = H.floor ∧ ∀ i, i < H.next → H'.2.get i = H.get i := by
 have ga := J4c (h := H) (o := .row [.string ByteArray.empty, .slice none 0 0, .slice none 0 0, .slice none 0 0, .slice none 0 0, .slice none 0 0, .slice none 0 0, iv 0] 30 false false) (o' := .row [iv 0, iv 0] 33 false false)
 have gb := J48 (h := H) (o := .row [.string ByteArray.empty, .slice none 0 0, .slice none 0 0, .slice none 0 0, .slice none 0 0, .slice none 0 0, .slice none 0 0, iv 0] 30 false false) (o' := .row [iv 0, iv 0] 33 false false)
 have gold : ∀ i, i < H.next → ((H.push (.row [.string ByteArray.empty, .slice none 0 0, .slice none 0 0, .slice none 0 0, .slice none 0 0, .slice none 0 0, .slice none 0 0, iv 0] 30 false false)).push (.row [iv 0, iv 0] 33 false false)).get i = H.get i := fun i hi => by rw [J06 (by show i < H.next + 1; omega), J06 hi]
 have hnx : ((H.push (.row [.string ByteArray.empty, .slice none 0 0, .slice none 0 0, .slice none 0 0, .slice none 0 0, .slice none 0 0, .slice none 0 0, iv 0] 30 false false)).push (.row [iv 0, iv 0] 33 false false)).next = H.next + 2 := rfl
 have hfx : ((H.push (.row [.string ByteArray.empty, .slice none 0 0, .slice none 0 0, .slice none 0 0, .slice none 0 0, .slice none 0 0, .slice none 0 0, iv 0] 30 false false)).push (.row [iv 0, iv 0] 33 false false)).floor = H.floor := rfl
 generalize (H.push (.row [.string ByteArray.empty, .slice none 0 0, .slice none 0 0, .slice none 0 0, .slice none 0 0, .slice none 0 0, .slice none 0 0, iv 0] 30 false false)).push (.row [iv 0, iv 0] 33 false false) = G at *
 obtain ⟨H', s1, s2, r1, r2, r3, r4⟩ := J4J (a := H.next) (H := G) ⟨ga, gb⟩ rfl (by omega) (by omega) (cs' := cs) hl ho (e' := e) (p' := p)
 exact ⟨⟨_, H'⟩, s1, s2, r1, by show H'.next = _; omega, by show H'.floor = _; omega, fun i hi => by show H'.get i = _; rw [r4 i (by omega) (by omega), gold i hi]⟩
theorem all8 {lo : Nat} {h : SHeap} {nm : ByteArray} {s : StN} {vr vq vv vt vu vo : Value} (h1 : J3P lo h vr s.rows) (h2 : J0p lo h vq s.queues.length 2 (J3S s.queues)) (h3 : J0p lo h vv s.vars.length 1 (strs s.vars)) (h4 : J0p lo h vt s.tags.length 1 (strs s.tags)) (h5 : J1S lo h vu s.rules) (h6 : J1S lo h vo s.on) :
  ([.string nm, vr, vq, vv, vt, vu, vo, iv s.miss] : List Value).all one = true := by
 simp only [List.all_cons, List.all_nil, h1.2.one, h2.one, h3.one, h4.one, J0p.one h5, J0p.one h6, J5J, J5K, Bool.and_self]
def Lies (v : Value) (n : Nat) : Prop := ∃ id off c, v = .slice (some ⟨id, off, none⟩) n c
theorem clone_any {call : J0r} {N : Nat} {h : SHeap} {l : List RowN} {v : Value} (hv : J0l h v l) (hlies : Lies v l.length) (hlen : l.length < 1099511627) :
  ∃ v' h', J0L Tryd.prog call N 48 [v] h = some (v', h') ∧ (∃ o c g, v' = .slice (some ⟨o, 0, none⟩) l.length c ∧ h'.get o = .row (l.flatMap J0e) 46 g false ∧ h.next ≤ o ∧ o < h'.next) ∧ h'.floor = h.floor ∧ h.next ≤ h'.next ∧ ∀ i, i < h.next → h'.get i = h.get i := by
 by_cases h0 : 0 < l.length
 ·obtain ⟨h', e, g1, g2, g3, g4⟩ := Jby (call := call) (N := N) hv h0 hlen
  exact ⟨_, h', e, ⟨h.next + 1, unk, true, rfl, g1, by omega, by omega⟩, g3, by omega, g4⟩
 ·have hl : l = [] := List.length_eq_zero_iff.1 (by omega)
  subst hl
  obtain ⟨id, off, c, rfl⟩ := hlies
  refine ⟨.slice (some ⟨h.next, 0, none⟩) 0 0, h.push (.row [] 46 false false), ?_, ⟨h.next, 0, false, rfl, J0h, Nat.le_refl _, by show h.next < h.next + 1; omega⟩, rfl, by show h.next ≤ h.next + 1; omega, fun i hi => J06 hi⟩
  refine J1m Tryd.func48 rfl (by simp [Tryd.f48]) ?_
  have hr : Tryd.f48.results.toList = [.tmp 2] := rfl
  have hb : binS Tryd.prog .eql 22 (.tmp 3) (.const (.slice none 0 0)) (.slice (some ⟨id, off, none⟩) ([] : List RowN).length c) (.slice none 0 0) = some (.bool false) := by
   have hf : flat (.slice (some ⟨id, off, none⟩) ([] : List RowN).length c) = false := rfl
   simp only [binS, hf, Bool.false_and, Bool.false_eq_true, if_false, Tryd.underlying22]
  have hbs : J0Q Tryd.prog h 22 0 [] = some (.slice (some ⟨h.next, 0, none⟩) 0 0, h.push (.row [] 46 false false)) := by
   simp [J0Q, Tryd.underlying22, sz46, J40, flat, J1i, J0G, J5k, J3e]
  have hsrc : J16 (h.push (.row [] 46 false false)) 5 ([] : List RowN).length (.slice (some ⟨id, off, none⟩) ([] : List RowN).length c) = some [] := by simp [J16]
  have hap : J1o Tryd.prog (h.push (.row [] 46 false false)) 22 (.slice (some ⟨h.next, 0, none⟩) 0 0) (.slice (some ⟨id, off, none⟩) ([] : List RowN).length c) = some (.slice (some ⟨h.next, 0, none⟩) 0 0, h.push (.row [] 46 false false)) := by
   have hu : (0 : Nat) ≠ unk := by unfold unk; omega
   have hzs : (Value.agg #[.int .i64 0, .string ByteArray.empty, .int .i64 0, .int .i64 0, .int .i64 0]).cells.size = 5 := rfl
   simp [J1o, Tryd.underlying22, sz46, by46, J40, hzs, J16, hu]
  simp only [evC, seval, ↓evP, hr, hb, hbs, hap]
theorem k_cloneA {n : Nat} {h : SHeap} {l : List RowN} {v : Value} (hv : J0l h v l) (hlies : Lies v l.length) (hlen : l.length < 1099511627) (hn : 0 < n) :
  ∃ v' h', J0T n 48 [v] h = some (v', h') ∧ (∃ o c g, v' = .slice (some ⟨o, 0, none⟩) l.length c ∧ h'.get o = .row (l.flatMap J0e) 46 g false ∧ h.next ≤ o ∧ o < h'.next) ∧ h'.floor = h.floor ∧ h.next ≤ h'.next ∧ ∀ i, i < h.next → h'.get i = h.get i := by
 obtain ⟨n, rfl⟩ : ∃ j, n = j + 1 := ⟨n - 1, by omega⟩
 refine k_ex (J13 ⟨rfl, rfl, rfl⟩) (clone_any (call := J0T n) (N := n) hv hlies hlen) fun v' h1 hf ho ⟨⟨o, c, g, e1, _⟩, _⟩ => ?_
 rw [e1] at hf
 cases hf
section
variable {n N : Nat}
set_option maxHeartbeats 16000000 in
theorem chkP_walk {nm : ByteArray} {s : StN} {pv : Value} {lo : Nat} {h : SHeap} (hp : J3x lo h pv nm s) (hlies : ∀ nm' vr vq vv vt vu vo m, pv = .agg #[.string nm', vr, vq, vv, vt, vu, vo, m] → Lies vr s.rows.length) (hs : JdC s) (hl : s.rows.length < 900000000) (hfl : h.floor ≤ h.next) (hg : h.get 0 = J14) (hn0 : 0 < h.next) (hn : 2 * Jbg s + 200 < n) (hN : Jbg s + 200 < N) :
  ∃ h', J0L Tryd.prog (J0T n) N 22 [pv] h = some (iv (chkPol nm s), h') ∧ ∀ i, i < h.next → h'.get i = h.get i := by
 obtain ⟨vr, vq, vv, vt, vu, vo, rfl, p1, p2, p3, p4, p5, p6⟩ := hp
 have hlv := hlies _ _ _ _ _ _ _ _ rfl
 refine J1N (R := fun h' => ∀ i, i < h.next → h'.get i = h.get i) Tryd.func22 rfl (by simp [Tryd.f22]) ?_
 have hr : Tryd.f22.results.toList = [.tmp 2] := rfl
 unfold Jbg at hn hN
 obtain ⟨q1, q2, q3, q4, q5, q6⟩ := hs
 have ca : (Value.agg #[.string nm, vr, vq, vv, vt, vu, vo, iv s.miss]).cells.toList = [.string nm, vr, vq, vv, vt, vu, vo, iv s.miss] := rfl
 have oa := all8 (nm := nm) p1 p2 p3 p4 p5 p6
 have gA : (h.push (.row [.string nm, vr, vq, vv, vt, vu, vo, iv s.miss] 30 false false)).get h.next = .row [.string nm, vr, vq, vv, vt, vu, vo, iv s.miss] 30 false false := J0h
 have gO : ∀ i, i < h.next → (h.push (.row [.string nm, vr, vq, vv, vt, vu, vo, iv s.miss] 30 false false)).get i = h.get i := fun i hi => J06 hi
 have nA : (h.push (.row [.string nm, vr, vq, vv, vt, vu, vo, iv s.miss] 30 false false)).next = h.next + 1 := rfl
 have fA : (h.push (.row [.string nm, vr, vq, vv, vt, vu, vo, iv s.miss] 30 false false)).floor = h.floor := rfl
 show WK _ _ _ (.seq _ (.seq _ (.seq (.seq _ _) (.seq _ (.seq _ _))))) _ _
 simp only [evC, seval, ↓evP, rpD, J0X, J2t, ca, oa, sz30]
 generalize h.push (.row [.string nm, vr, vq, vv, vt, vu, vo, iv s.miss] 30 false false) = A at *
 have l1 : ld1 1 (A.get h.next) = some vr := by rw [gA]; rfl
 have P1 : J0l A vr s.rows := p1.1.mono (by omega) gO
 obtain ⟨v', h1, hcl, ⟨o, c, g, rfl, g1, g2, g3⟩, f1, n1, o1⟩ := k_cloneA (n := n) P1 hlv (by omega) (by omega)
 have hlen : ∀ h' : SHeap, lenS Tryd.prog h' 22 (.slice (some ⟨o, 0, none⟩) s.rows.length c) = some (iv (s.rows.length : Int)) := fun h' => JeK
 simp only [evC, seval, ↓evP, Nat.zero_add, J0y, J0F, l1, hcl, hlen]
 refine WK.loop (fun i s' => s'.T.get 1 = .pointer (some ⟨h.next, 0, none⟩) ∧ s'.T.get 3 = .slice (some ⟨o, 0, none⟩) s.rows.length c ∧ s'.T.get 11 = iv (s.rows.length : Int) ∧ s'.T.get 12 = iv i ∧ i ≤ s.rows.length ∧ s'.h.next = h1.next ∧ s'.h.floor = h1.floor ∧ (∀ i, i ≠ o → s'.h.get i = h1.get i) ∧
  ∃ L : List RowN, s'.h.get o = .row (L.flatMap J0e) 46 g false ∧ ∀ j, L[j]? = (s.rows[j]?).map fun x => if j < i then zero1 x else x) s.rows.length (by omega) ?_ ?_
 ·refine ⟨by simp only [evC, ↓reduceIte, Nat.reduceEqDiff, reduceCtorEq, ↓evP, rpC, Nat.reduceAdd, Nat.reduceLT], by simp only [evC, ↓reduceIte, Nat.reduceEqDiff, reduceCtorEq, ↓evP, rpC, Nat.reduceAdd, Nat.reduceLT], by simp only [evC, ↓reduceIte, Nat.reduceEqDiff, reduceCtorEq, ↓evP, rpC, Nat.reduceAdd, Nat.reduceLT], by simp only [evC, ↓reduceIte, Nat.reduceEqDiff, reduceCtorEq, ↓evP, rpC, Nat.reduceAdd, Nat.reduceLT]; rfl, by omega, rfl, rfl, fun _ _ => rfl, s.rows, g1, fun j => ?_⟩
  simp
 rintro i ⟨T1, H1⟩ hi ⟨t1, t3, t11, t12, hil, m1, m2, m3, L, gL, hL⟩
 simp only at t1 t3 t11 t12 m1 m2 m3 gL
 have hLl : L.length = s.rows.length := by
  rcases Nat.lt_trichotomy L.length s.rows.length with h9 | h9 | h9
  ·have := hL L.length
   rw [List.getElem?_eq_none (Nat.le_refl _), List.getElem?_eq_getElem h9] at this
   cases this
  ·exact h9
  ·have := hL s.rows.length
   rw [List.getElem?_eq_getElem h9, List.getElem?_eq_none (Nat.le_refl _)] at this
   cases this
 by_cases hlt : i < s.rows.length
 ·have c1 : decide ((i : Int) < (s.rows.length : Int)) = true := by simp; omega
  obtain ⟨x, hx⟩ : ∃ x, s.rows[i]? = some x := ⟨_, List.getElem?_eq_getElem hlt⟩
  have hLx : L[i]? = some x := by rw [hL, hx]; simp
  have ea := JaW (id := o) (n := s.rows.length) (c := c) hlt
  have lk : ld1 (i * 5) (H1.get o) = some (iv x.kind) := by
   have h5 := J2Y hLx
   rw [gL]
   have : (L.flatMap J0e)[i * 5]? = (J0e x)[0]? := by
    rw [← h5, List.getElem?_take_of_lt (by omega), List.getElem?_drop, Nat.add_zero]
   simp only [ld1, this]
   rfl
  have w1 : IntKind.i64.wrap ((i : Int) + 1) = ((i + 1 : Nat) : Int) := J0s (by omega) (by omega)
  cases d : (x.kind != 27) with
  | false =>
   have hz : zero1 x = x := by
    unfold zero1
    rw [if_neg (by simpa using d)]
   simp only [evC, seval, ↓evP, t1, t3, t11, t12, c1, ea, J0t, J0m, lk, d, w1]
   refine ⟨hlt, by omega, m1, m2, m3, L, gL, fun j => ?_⟩
   rw [hL j]
   by_cases hj : j = i
   ·subst hj
    rw [hx]
    simp [hz]
   ·congr 1
    funext y
    by_cases h9 : j < i
    ·rw [if_pos h9, if_pos (by omega)]
    ·rw [if_neg h9, if_neg (by omega)]
  | true =>
   have hz : zero1 x = { x with n := 0 } := by
    unfold zero1
    rw [if_pos (by simpa using d)]
   have hst := stc (t := 3) (off := i * 5 + 3) (v := iv 0) sz3 rfl rfl gL (by rw [J0N]; omega) (by omega)
   rw [J3N hLx] at hst
   simp only [evC, seval, ↓evP, t1, t3, t11, t12, c1, ea, J0t, J0O, J0m, lk, d, hst, w1]
   refine ⟨hlt, by omega, m1, m2, fun j hj => by rw [J05 (by omega) (Ne.symm hj)]; exact m3 j hj, setN L i 0, J0b rfl (by omega), fun j => ?_⟩
   by_cases hj : j = i
   ·subst hj
    rw [J4g hLx, hx]
    simp [hz]
   ·rw [J4M hj, hL j]
    congr 1
    funext y
    by_cases h9 : j < i
    ·rw [if_pos h9, if_pos (by omega)]
    ·rw [if_neg h9, if_neg (by omega)]
 have c1 : decide ((i : Int) < (s.rows.length : Int)) = false := by simp; omega
 have : i = s.rows.length := by omega
 subst this
 have hLz : L = zeroN s.rows := by
  apply List.ext_getElem?
  intro j
  rw [hL j, zeroN, List.getElem?_map]
  rcases Nat.lt_or_ge j s.rows.length with h9 | h9
  ·simp [h9]
  ·rw [List.getElem?_eq_none h9]
   rfl
 subst hLz
 have hvz : J0l H1 (.slice (some ⟨o, 0, none⟩) s.rows.length c) (zeroN s.rows) := by
  refine ⟨_, _, by rw [hLl], .inr ⟨o, 0, _, _, _, _, rfl, gL, by omega, fun k r hk => by rw [Nat.zero_add]; exact J2Y hk⟩⟩
 have hw1 : H1.get 0 = J14 := by rw [m3 0 (by omega), o1 0 (by omega), gO 0 hn0]; exact hg
 obtain ⟨v2, h2, hres, pv, rfl, hp', f2, n2, o2⟩ := Jia (n := n) (h := H1) (by omega) hw1 (by omega) hvz (by omega) (by omega)
 obtain ⟨vr', vq', vv', vt', vu', vo', rfl, b1, b2, b3, b4, b5, b6⟩ := hp'
 obtain ⟨⟨hb, h3⟩, s1, s2, rO, n3, f3, o3⟩ := laid_out (H := h2) (cs := [.string (outN (zeroN s.rows)).1, vr', vq', vv', vt', vu', vo', iv (outN (zeroN s.rows)).2.miss]) (e := (resN (zeroN s.rows)).1.1) (p := (resN (zeroN s.rows)).1.2) rfl (all8 b1 b2 b3 b4 b5 b6) (by omega)
 simp only at s1 s2 rO n3 f3 o3
 have zc30 : zPol.cells.toList = [.string ByteArray.empty, .slice none 0 0, .slice none 0 0, .slice none 0 0, .slice none 0 0, .slice none 0 0, .slice none 0 0, iv 0] := rfl
 have zc33 : (J2k 0 0).cells.toList = [iv 0, iv 0] := rfl
 have HO : ∀ i, i < h.next → h3.get i = h.get i := fun i hi => by rw [o3 i (by omega), o2 i (by omega), m3 i (by omega), o1 i (by omega), gO i hi]
 have HA : h3.get h.next = .row [.string nm, vr, vq, vv, vt, vu, vo, iv s.miss] 30 false false := by rw [o3 _ (by omega), o2 _ (by omega), m3 _ (by omega), o1 _ (by omega)]; exact gA
 obtain ⟨x0, x1, x2, x3, x4, x5, x6, x7⟩ := Jhw (a := .string nm) (b := vr) (c := vq) (d := vv) (e := vt) (f := vu) (g := vo) (i := iv s.miss) (ty := 30) (x := false) (y := false)
 obtain ⟨y0, y1, y2, y3, y4, y5, y6, y7⟩ := Jhw (a := .string (outN (zeroN s.rows)).1) (b := vr') (c := vq') (d := vv') (e := vt') (f := vu') (g := vo') (i := iv (outN (zeroN s.rows)).2.miss) (ty := 30) (x := false) (y := false)
 rw [← HA] at x0 x1 x2 x3 x4 x5 x6 x7
 rw [← rO.1] at y0 y1 y2 y3 y4 y5 y6 y7
 have lF : ld1 0 (h3.get (h2.next + 1)) = some (iv (resN (zeroN s.rows)).1.1) := by rw [rO.2]; rfl
 have NN : h.next ≤ h3.next := by omega
 have A1 := p1.1.mono NN HO
 have A2 := p2.mono NN fun i _ hi => HO i hi
 have A3 := p3.mono NN fun i _ hi => HO i hi
 have A4 := p4.mono NN fun i _ hi => HO i hi
 have A5 := J1S.mono p5 NN fun i _ hi => HO i hi
 have A6 := J1S.mono p6 NN fun i _ hi => HO i hi
 have B1 := (b1.mono (h' := h3) (by omega) fun i _ hi => o3 i hi).1
 have B2 := b2.mono (h' := h3) (by omega) fun i _ hi => o3 i hi
 have B3 := b3.mono (h' := h3) (by omega) fun i _ hi => o3 i hi
 have B4 := b4.mono (h' := h3) (by omega) fun i _ hi => o3 i hi
 have B5 := J1S.mono (h' := h3) b5 (by omega) fun i _ hi => o3 i hi
 have B6 := J1S.mono (h' := h3) b6 (by omega) fun i _ hi => o3 i hi
 have hR := k_eqR (n := n) A1 B1 (by omega) (by omega)
 have hQ := k_eqQ (n := n) A2 B2 (by omega) (by omega)
 have hV := k_eqT (n := n) A3 B3 (by omega) (by omega)
 have hT := k_eqT (n := n) A4 B4 (by omega) (by omega)
 have hU := k_eqI (n := n) A5 B5 (by omega) (by omega)
 have hO := k_eqI (n := n) A6 B6 (by omega) (by omega)
 have yes : (resN (zeroN s.rows)).1.1 = 0 → J5b nm (outN (zeroN s.rows)).1 s (outN (zeroN s.rows)).2 → chkPol nm s = 0 := fun h8 h9 => if_pos ⟨h8, h9⟩
 have no1 : (resN (zeroN s.rows)).1.1 ≠ 0 → chkPol nm s = 23 := fun h8 => if_neg fun h9 => h8 h9.1
 have no2 : ¬ J5b nm (outN (zeroN s.rows)).1 s (outN (zeroN s.rows)).2 → chkPol nm s = 23 := fun h8 => if_neg fun h9 => h8 h9.2
 simp only [evC, seval, ↓evP, t1, t3, t11, t12, c1, hres, J5F, J3Y, zc30, J3C, J1t, zc33, J1D, s1, s2]
 cases d0 : ((resN (zeroN s.rows)).1.1 != 0) with
 | true =>
  rw [no1 (by simpa using d0)]
  simp only [evC, seval, ↓evP, hr, t1, List.append_eq, List.toList_toArray, Nat.zero_add, J6a, J7G, lF, J5g, J0y, J0B, J1A, J1B, J36, J1T, J38, J0d, J0m, J0F, J0S, J0Y, J0n, x0, x1, x2, x3, x4, x5, x6, x7, y0, y1, y2, y3, y4, y5, y6, y7, J26, d0]
  exact HO
 | false =>
 cases d1 : (!(nm == (outN (zeroN s.rows)).1)) with
 | true =>
  rw [no2 fun h9 => by rw [h9.1, J34] at d1; cases d1]
  simp only [evC, seval, ↓evP, hr, t1, List.append_eq, List.toList_toArray, Nat.zero_add, J6a, J7G, lF, J5g, J0y, J0B, J1A, J1B, J36, J1T, J38, J0d, J0m, J0F, J0S, J0Y, J0n, x0, x1, x2, x3, x4, x5, x6, x7, y0, y1, y2, y3, y4, y5, y6, y7, J26, d0, d1]
  exact HO
 | false =>
 cases d2 : (s.miss != (outN (zeroN s.rows)).2.miss) with
 | true =>
  rw [no2 fun h9 => by rw [h9.2.1] at d2; simp at d2]
  simp only [evC, seval, ↓evP, hr, t1, List.append_eq, List.toList_toArray, Nat.zero_add, J6a, J7G, lF, J5g, J0y, J0B, J1A, J1B, J36, J1T, J38, J0d, J0m, J0F, J0S, J0Y, J0n, x0, x1, x2, x3, x4, x5, x6, x7, y0, y1, y2, y3, y4, y5, y6, y7, J26, d0, d1, d2]
  exact HO
 | false =>
 cases d3 : decide (s.rows = (outN (zeroN s.rows)).2.rows) with
 | false =>
  rw [d3] at hR
  rw [no2 fun h9 => (of_decide_eq_false d3) h9.2.2.1]
  simp only [evC, seval, ↓evP, hr, t1, List.append_eq, List.toList_toArray, Nat.zero_add, J6a, J7G, lF, J5g, J0y, J0B, J1A, J1B, J36, J1T, J38, J0d, J0m, J0F, J0S, J0Y, J0n, x0, x1, x2, x3, x4, x5, x6, x7, y0, y1, y2, y3, y4, y5, y6, y7, J26, d0, d1, d2, hR]
  exact HO
 | true =>
 rw [d3] at hR
 cases d4 : decide (s.queues = (outN (zeroN s.rows)).2.queues) with
 | false =>
  rw [d4] at hQ
  rw [no2 fun h9 => (of_decide_eq_false d4) h9.2.2.2.1]
  simp only [evC, seval, ↓evP, hr, t1, List.append_eq, List.toList_toArray, Nat.zero_add, J6a, J7G, lF, J5g, J0y, J0B, J1A, J1B, J36, J1T, J38, J0d, J0m, J0F, J0S, J0Y, J0n, x0, x1, x2, x3, x4, x5, x6, x7, y0, y1, y2, y3, y4, y5, y6, y7, J26, d0, d1, d2, hR, hQ]
  exact HO
 | true =>
 rw [d4] at hQ
 cases d5 : decide (s.vars = (outN (zeroN s.rows)).2.vars) with
 | false =>
  rw [d5] at hV
  rw [no2 fun h9 => (of_decide_eq_false d5) h9.2.2.2.2.1]
  simp only [evC, seval, ↓evP, hr, t1, List.append_eq, List.toList_toArray, Nat.zero_add, J6a, J7G, lF, J5g, J0y, J0B, J1A, J1B, J36, J1T, J38, J0d, J0m, J0F, J0S, J0Y, J0n, x0, x1, x2, x3, x4, x5, x6, x7, y0, y1, y2, y3, y4, y5, y6, y7, J26, d0, d1, d2, hR, hQ, hV]
  exact HO
 | true =>
 rw [d5] at hV
 cases d6 : decide (s.tags = (outN (zeroN s.rows)).2.tags) with
 | false =>
  rw [d6] at hT
  rw [no2 fun h9 => (of_decide_eq_false d6) h9.2.2.2.2.2.1]
  simp only [evC, seval, ↓evP, hr, t1, List.append_eq, List.toList_toArray, Nat.zero_add, J6a, J7G, lF, J5g, J0y, J0B, J1A, J1B, J36, J1T, J38, J0d, J0m, J0F, J0S, J0Y, J0n, x0, x1, x2, x3, x4, x5, x6, x7, y0, y1, y2, y3, y4, y5, y6, y7, J26, d0, d1, d2, hR, hQ, hV, hT]
  exact HO
 | true =>
 rw [d6] at hT
 cases d7 : decide (s.rules = (outN (zeroN s.rows)).2.rules) with
 | false =>
  rw [d7] at hU
  rw [no2 fun h9 => (of_decide_eq_false d7) h9.2.2.2.2.2.2.1]
  simp only [evC, seval, ↓evP, hr, t1, List.append_eq, List.toList_toArray, Nat.zero_add, J6a, J7G, lF, J5g, J0y, J0B, J1A, J1B, J36, J1T, J38, J0d, J0m, J0F, J0S, J0Y, J0n, x0, x1, x2, x3, x4, x5, x6, x7, y0, y1, y2, y3, y4, y5, y6, y7, J26, d0, d1, d2, hR, hQ, hV, hT, hU]
  exact HO
 | true =>
 rw [d7] at hU
 cases d8 : decide (s.on = (outN (zeroN s.rows)).2.on) with
 | false =>
  rw [d8] at hO
  rw [no2 fun h9 => (of_decide_eq_false d8) h9.2.2.2.2.2.2.2]
  simp only [evC, seval, ↓evP, hr, t1, List.append_eq, List.toList_toArray, Nat.zero_add, J6a, J7G, lF, J5g, J0y, J0B, J1A, J1B, J36, J1T, J38, J0d, J0m, J0F, J0S, J0Y, J0n, x0, x1, x2, x3, x4, x5, x6, x7, y0, y1, y2, y3, y4, y5, y6, y7, J26, d0, d1, d2, hR, hQ, hV, hT, hU, hO]
  exact HO
 | true =>
 rw [d8] at hO
 rw [yes (by simpa using d0) ⟨J3o (by simpa using d1), by simpa using d2, of_decide_eq_true d3, of_decide_eq_true d4, of_decide_eq_true d5, of_decide_eq_true d6, of_decide_eq_true d7, of_decide_eq_true d8⟩]
 simp only [evC, seval, ↓evP, hr, t1, List.append_eq, List.toList_toArray, Nat.zero_add, J6a, J7G, lF, J5g, J0y, J0B, J1A, J1B, J36, J1T, J38, J0d, J0m, J0F, J0S, J0Y, J0n, x0, x1, x2, x3, x4, x5, x6, x7, y0, y1, y2, y3, y4, y5, y6, y7, J26, d0, d1, d2, hR, hQ, hV, hT, hU, hO]
 exact HO
theorem k_chkP {nm : ByteArray} {s : StN} {pv : Value} {lo : Nat} {h : SHeap} (hp : J3x lo h pv nm s) (hlies : ∀ nm' vr vq vv vt vu vo m, pv = .agg #[.string nm', vr, vq, vv, vt, vu, vo, m] → Lies vr s.rows.length) (hs : JdC s) (hl : s.rows.length < 900000000) (hfl : h.floor ≤ h.next) (hg : h.get 0 = J14) (hn0 : 0 < h.next) (hn : 2 * Jbg s + 300 < n) :
  J0T n 22 [pv] h = some (iv (chkPol nm s), h) := by
 obtain ⟨n, rfl⟩ : ∃ j, n = j + 1 := ⟨n - 1, by omega⟩
 exact J4r (J13 ⟨rfl, rfl, rfl⟩) rfl (chkP_walk hp hlies hs hl hfl hg hn0 (by omega) (by omega))
end
def SaysN (s : StN) (k n : Int) (nm : ByteArray) : Prop :=
 0 ≤ n ∧ ((k = 1 ∧ ∃ b, s.queues[n.toNat]? = some (nm, b)) ∨ (k = 2 ∧ s.vars[n.toNat]? = some nm) ∨ (k = 3 ∧ s.tags[n.toNat]? = some nm) ∨ (k = 4 ∧ ∃ ru : Nat, s.rules[n.toNat]? = some ((ru : Int) + 1) ∧ ∃ y : RowN, s.rows[ru]? = some y ∧ y.name = nm))
structure UpS (s s' : StN) : Prop where
 q : ∀ (i : Nat) x, s.queues[i]? = some x → s'.queues[i]? = some x
 v : ∀ (i : Nat) x, s.vars[i]? = some x → s'.vars[i]? = some x
 t : ∀ (i : Nat) x, s.tags[i]? = some x → s'.tags[i]? = some x
 u : ∀ (i : Nat) x, s.rules[i]? = some x → s'.rules[i]? = some x
 r : ∀ (i : Nat) (y : RowN), s.rows[i]? = some y → ∃ y' : RowN, s'.rows[i]? = some y' ∧ y'.name = y.name
theorem SaysN.up {s s' : StN} {k n : Int} {nm : ByteArray} (h : SaysN s k n nm) (hu : UpS s s') : SaysN s' k n nm := by
 refine ⟨h.1, ?_⟩
 rcases h.2 with ⟨h1, b, h2⟩ | ⟨h1, h2⟩ | ⟨h1, h2⟩ | ⟨h1, ru, h2, y, h3, h4⟩
 ·exact .inl ⟨h1, b, hu.q _ _ h2⟩
 ·exact .inr (.inl ⟨h1, hu.v _ _ h2⟩)
 ·exact .inr (.inr (.inl ⟨h1, hu.t _ _ h2⟩))
 ·obtain ⟨y', h5, h6⟩ := hu.r _ _ h3
  exact .inr (.inr (.inr ⟨h1, ru, hu.u _ _ h2, y', h5, h6.trans h4⟩))
theorem app_get {α : Type} {l : List α} {i : Nat} {x y : α} (h : l[i]? = some x) : (l ++ [y])[i]? = some x := by rw [List.getElem?_append_left (List.getElem?_eq_some_iff.1 h).1]; exact h
theorem setN_name {l : List RowN} {k i : Nat} {n : Int} {y : RowN} (h : l[i]? = some y) : ∃ y' : RowN, (setN l k n)[i]? = some y' ∧ y'.name = y.name := by
 by_cases hi : i = k
 ·subst hi
  exact ⟨_, J4g h, rfl⟩
 ·exact ⟨y, (J4M hi).trans h, rfl⟩
theorem declares_calls {k : Int} (h : J1O k ≠ 0) : J0j k = 0 := by
 unfold J0j
 unfold J1O at h
 split
 ·rename_i h1
  simp only [List.contains_cons, List.contains_nil, Bool.or_false, Bool.or_eq_true, beq_iff_eq] at h1
  rcases h1 with rfl | rfl <;> exact absurd rfl h
 split
 ·subst k; exact absurd rfl h
 split
 ·subst k; exact absurd rfl h
 split
 ·subst k; exact absurd rfl h
 rfl
def saysK (k : Int) : Int := J1O k + J0j k
theorem saysK_0 {k : Int} (h : saysK k = 0) : J1O k = 0 ∧ J0j k = 0 := by
 have := Jcr k
 have := J3c k
 unfold saysK at h
 omega
structure ToldM (l : List RowN) (at_ : Nat) (s : StN) : Prop where
 rows : ∀ (i : Nat) (x : RowN), i < at_ → s.rows[i]? = some x → (saysK x.kind = 0 → l[i]? = some x) ∧ (saysK x.kind ≠ 0 → SaysN s (saysK x.kind) x.n x.name)
 things : ∀ t ∈ s.things, SaysN s t.kind t.num t.name
theorem ToldM.up {l : List RowN} {at_ : Nat} {s s' : StN} (h : ToldM l at_ s) (hu : UpS s s') (hr : ∀ i, i < at_ → s'.rows[i]? = s.rows[i]?) (ht : ∀ t ∈ s'.things, t ∈ s.things ∨ SaysN s' t.kind t.num t.name) : ToldM l at_ s' where
 rows := fun i x hi hx => by
  rw [hr i hi] at hx
  obtain ⟨h1, h2⟩ := h.rows i x hi hx
  exact ⟨h1, fun h3 => (h2 h3).up hu⟩
 things := fun t h1 => by
  rcases ht t h1 with h2 | h2
  ·exact (h.things t h2).up hu
  ·exact h2
theorem up_decl {at_ : Nat} {end_ : Int} {x : RowN} {s : StN} : UpS s (addN at_ end_ x s) where
 q := fun i y h => by simp only [addN]; split; (first | exact app_get h | exact h); exact h
 v := fun i y h => by simp only [addN]; split; (first | exact app_get h | exact h); exact h
 t := fun i y h => by simp only [addN]; split; (first | exact app_get h | exact h); exact h
 u := fun i y h => by simp only [addN]; split; (first | exact app_get h | exact h); exact h
 r := fun i y h => setN_name h
theorem up_refl (s : StN) : UpS s s := ⟨fun _ _ h => h, fun _ _ h => h, fun _ _ h => h, fun _ _ h => h, fun _ y h => ⟨y, h, rfl⟩⟩
theorem app_last {α : Type} (l : List α) (y : α) : (l ++ [y])[l.length]? = some y := by simp
theorem says_new {at_ : Nat} {end_ : Int} {x : RowN} {s : StN} (hx : s.rows[at_]? = some x) (hd : J0j x.kind ≠ 0) : SaysN (addN at_ end_ x s) (J0j x.kind) (cntN s (J0j x.kind)) x.name := by
 have hk := J3c x.kind
 refine ⟨by omega, ?_⟩
 rw [Int.toNat_natCast]
 have hc : J0j x.kind = 1 ∨ J0j x.kind = 2 ∨ J0j x.kind = 3 ∨ J0j x.kind = 4 := by omega
 rcases hc with e | e | e | e
 ·refine .inl ⟨e, x.kind == 3, ?_⟩
  simp only [addN, cntN, e]
  exact app_last _ _
 ·refine .inr (.inl ⟨e, ?_⟩)
  simp only [addN, cntN, e]
  exact app_last _ _
 ·refine .inr (.inr (.inl ⟨e, ?_⟩))
  simp only [addN, cntN, e]
  exact app_last _ _
 ·refine .inr (.inr (.inr ⟨e, at_, ?_, _, J4g hx, rfl⟩))
  simp only [addN, cntN, e]
  exact app_last _ _
theorem told_decl {l : List RowN} {at_ : Nat} {end_ : Int} {x : RowN} {s : StN} (h : ToldM l at_ s) (hx : s.rows[at_]? = some x) :
  ToldM l at_ (J0W at_ end_ x s) ∧ ∃ n, (J0W at_ end_ x s).rows[at_]? = some { x with n := n } ∧ (J0j x.kind = 0 → n = x.n) ∧ (J0j x.kind ≠ 0 → SaysN (J0W at_ end_ x s) (J0j x.kind) n x.name) := by
 unfold J0W
 by_cases d0 : J0j x.kind = 0
 ·rw [if_pos d0]
  exact ⟨h, x.n, hx, fun _ => rfl, fun h1 => absurd d0 h1⟩
 ·rw [if_neg d0]
  have hs := says_new (end_ := end_) hx d0
  refine ⟨h.up up_decl (fun i hi => J4M (by omega)) fun t ht => ?_, _, J4g hx, fun h1 => absurd h1 d0, fun _ => hs⟩
  simp only [addN, List.mem_append, List.mem_cons, List.not_mem_nil, or_false] at ht
  rcases ht with h1 | rfl
  ·exact .inl h1
  ·exact .inr hs
theorem told_call {l : List RowN} {at_ : Nat} {x : RowN} {s : StN} (h : ToldM l at_ s) (hx : s.rows[at_]? = some x) (hc : J1v at_ x s = 0) :
  ToldM l at_ (J0D at_ x s) ∧ UpS s (J0D at_ x s) ∧ ∃ n, (J0D at_ x s).rows[at_]? = some { x with n := n } ∧ (J1O x.kind = 0 → n = x.n) ∧ (J1O x.kind ≠ 0 → SaysN (J0D at_ x s) (J1O x.kind) n x.name) := by
 unfold J0D
 unfold J1v at hc
 by_cases d0 : J1O x.kind = 0
 ·rw [if_pos d0]
  exact ⟨h, up_refl s, x.n, hx, fun _ => rfl, fun h1 => absurd d0 h1⟩
 ·rw [if_neg d0] at hc ⊢
  cases hf : J30 s.things x.name with
  | none => simp only [hf] at hc; cases hc
  | some t =>
   simp only [hf] at hc ⊢
   have hk : t.kind = J1O x.kind := by
    split at hc
    ·cases hc
    ·split at hc
     ·cases hc
     ·rename_i h; simpa using h
   have hnm : t.name = x.name := by
    have := List.find?_some hf
    exact (J3o this).symm
   have hu : UpS s { s with rows := setN s.rows at_ t.num } := ⟨fun _ _ h => h, fun _ _ h => h, fun _ _ h => h, fun _ _ h => h, fun _ y h => setN_name h⟩
   have hs := (h.things t (J8w hf)).up hu
   rw [hk, hnm] at hs
   exact ⟨h.up hu (fun i hi => J4M (by omega)) fun t ht => .inl ht, hu, _, J4g hx, fun h1 => absurd h1 d0, fun _ => hs⟩
theorem told_step {l : List RowN} {E : List Int} {at_ : Nat} {s : StN} (hat : at_ < l.length) (hi : InvR l at_ s) (h : ToldM l at_ s) (h0 : (J31 E at_ s).1 = 0) : ToldM l (at_ + 1) (J31 E at_ s).2 := by
 obtain ⟨x, hx⟩ : ∃ x, s.rows[at_]? = some x := ⟨_, List.getElem?_eq_getElem (by rw [hi.len]; exact hat)⟩
 have hxl : l[at_]? = some x := by rw [← hi.later at_ (Nat.le_refl _)]; exact hx
 unfold J31 at h0 ⊢
 rw [hx] at h0 ⊢
 simp only at h0 ⊢
 by_cases hd : J25 x s = 0
 case neg => rw [if_pos hd] at h0; exact absurd h0 hd
 rw [if_neg (by simpa using hd)] at h0 ⊢
 obtain ⟨t1, k1, r1, a1, b1⟩ := told_decl (end_ := (E[at_]?).getD 0) h hx
 generalize J0W at_ ((E[at_]?).getD 0) x s = s1 at *
 rw [r1] at h0 ⊢
 simp only at h0 ⊢
 by_cases hc : J1v at_ { x with n := k1 } s1 = 0
 case neg => rw [if_pos hc] at h0; exact absurd h0 hc
 rw [if_neg (by simpa using hc)] at h0 ⊢
 obtain ⟨t2, u2, k2, r2, a2, b2⟩ := told_call t1 r1 hc
 simp only at r2 a2 b2
 generalize J0D at_ { x with n := k1 } s1 = s2 at *
 rw [r2] at h0 ⊢
 simp only at h0 ⊢
 by_cases hv : evE { x with n := k2 } s2 = 0
 case neg => rw [if_pos hv] at h0; exact absurd h0 hv
 rw [if_neg (by simpa using hv)] at h0 ⊢
 have hev : (evS at_ { x with n := k2 } s2).queues = s2.queues ∧ (evS at_ { x with n := k2 } s2).vars = s2.vars ∧ (evS at_ { x with n := k2 } s2).tags = s2.tags ∧ (evS at_ { x with n := k2 } s2).rules = s2.rules ∧ (evS at_ { x with n := k2 } s2).rows = s2.rows ∧ (evS at_ { x with n := k2 } s2).things = s2.things := by
  unfold evS
  split
  ·exact ⟨rfl, rfl, rfl, rfl, rfl, rfl⟩
  ·split <;> exact ⟨rfl, rfl, rfl, rfl, rfl, rfl⟩
 obtain ⟨e1, e2, e3, e4, e5, e6⟩ := hev
 generalize evS at_ { x with n := k2 } s2 = s3 at *
 have hu3 : UpS s2 s3 := ⟨fun i y h => by rw [e1]; exact h, fun i y h => by rw [e2]; exact h, fun i y h => by rw [e3]; exact h, fun i y h => by rw [e4]; exact h, fun i y h => ⟨y, by rw [e5]; exact h, rfl⟩⟩
 have t3 : ToldM l at_ s3 := t2.up hu3 (fun i _ => by rw [e5]) fun t ht => .inl (by rw [← e6]; exact ht)
 refine ⟨fun i y hi' hy => ?_, t3.things⟩
 by_cases hia : i = at_
 ·subst hia
  rw [e5, r2] at hy
  cases hy
  simp only
  refine ⟨fun h1 => ?_, fun h1 => ?_⟩
  ·obtain ⟨h2, h3⟩ := saysK_0 h1
   rw [a2 h2, a1 h3]
   exact hxl
  ·by_cases c0 : J1O x.kind = 0
   ·have d0 : J0j x.kind ≠ 0 := fun h2 => h1 (by unfold saysK; omega)
    rw [show saysK x.kind = J0j x.kind by unfold saysK; omega, a2 c0]
    exact ((b1 d0).up u2).up hu3
   ·rw [show saysK x.kind = J1O x.kind by unfold saysK; rw [declares_calls c0]; omega]
    exact (b2 c0).up hu3
 ·exact t3.rows i y (by omega) hy
theorem told_go {l : List RowN} {E : List Int} (ht : J2c l) (hE : ∀ i : Nat, 0 ≤ (E[i]?).getD 0) : ∀ r at_ s, at_ + r = l.length → InvR l at_ s → ToldM l at_ s → (goN E r at_ s).1 = 0 → ToldM l l.length (goN E r at_ s).2.2
 | 0, at_, s, hr, hi, h, _ => by
  have : at_ = l.length := by omega
  subst this
  exact h
 | r + 1, at_, s, hr, hi, h, h0 => by
  unfold goN at h0 ⊢
  by_cases h9 : (J31 E at_ s).1 = 0
  ·rw [if_neg (by simpa using h9)] at h0 ⊢
   exact told_go ht hE r (at_ + 1) _ (by omega) (J6b ht (hE at_) (by omega) hi h9) (told_step (by omega) hi h h9) h0
  ·rw [if_pos h9] at h0
   exact absurd h0 h9
theorem told_res {l : List RowN} (h : (resN l).1.1 = 0) : ToldM l l.length (resN l).2 := by
 obtain ⟨ht, _, hg, _, he, _⟩ := JhO h
 rw [he]
 exact told_go ht J3T l.length 0 (s0N l) (by omega) (inv0 l) ⟨fun i x hi => by omega, fun t ht => by simp [s0N] at ht⟩ hg
theorem fit_n {x : RowN} (h : fitN J09 x = true) : (x.kind ≠ 27 → x.n = 0) ∧ 0 ≤ x.n := by
 unfold fitN at h
 simp only [Bool.and_eq_true, Bool.or_eq_true, beq_iff_eq, decide_eq_true_eq] at h
 obtain ⟨⟨⟨⟨⟨_, _⟩, _⟩, h1⟩, _⟩, _⟩ := h
 rcases h1 with h1 | ⟨⟨h1, h2⟩, _⟩
 ·exact ⟨fun _ => h1, by omega⟩
 ·exact ⟨fun h3 => absurd h1 h3, by omega⟩
theorem zero_res {l : List RowN} (h : (resN l).1.1 = 0) : zeroN (resN l).2.rows = l := by
 have hm := told_res h
 obtain ⟨ht, _, _, _, _, hi⟩ := JhO h
 apply List.ext_getElem?
 intro i
 rw [zeroN, List.getElem?_map]
 rcases Nat.lt_or_ge i l.length with h1 | h1
 ·obtain ⟨x, hx⟩ : ∃ x, (resN l).2.rows[i]? = some x := ⟨_, List.getElem?_eq_getElem (by rw [hi.len]; exact h1)⟩
  obtain ⟨y, hy, hxy⟩ := hi.same i x hx
  rw [hx, hy]
  simp only [Option.map_some, Option.some.injEq]
  have hkind : x.kind = y.kind := by rw [hxy]
  unfold zero1
  by_cases h27 : x.kind = 27
  ·rw [if_neg (by simpa using h27)]
   have := (hm.rows i x h1 hx).1 (by rw [h27]; rfl)
   rw [hy] at this
   exact (Option.some.inj this).symm
  ·rw [if_pos h27, hxy]
   have := (fit_n (ht.row hy).1).1 (by rw [← hkind]; exact h27)
   show { y with n := 0 } = y
   rw [← this]
 ·rw [List.getElem?_eq_none (by rw [hi.len]; exact h1), List.getElem?_eq_none h1]
  rfl
theorem mayBe_res {l : List RowN} (h : (resN l).1.1 = 0) : MayBe (J52 l) (resN l).2 := by
 unfold MayBe
 rw [zero_res h, JeO h]
 exact ⟨h, J8U _ _⟩
theorem chk_res {l : List RowN} (h : (resN l).1.1 = 0) : chkPol (J52 l) (resN l).2 = 0 := if_pos (mayBe_res h)
theorem round_walk {call : J0r} {N : Nat} {h : SHeap} {a m : Int} (hm : 0 < m ∧ m < 1099511627776) : J0L Tryd.prog call N 25 [iv a, iv m] h = some (iv (a % m), h) := by
 refine J1m Tryd.func25 rfl (by simp [Tryd.f25]) ?_
 have hr : Tryd.f25.results.toList = [.tmp 4] := rfl
 have h1 := Jjy (P := Tryd.prog) (t := 3) (x := .tmp 6) (y := .tmp 7) (k := .i64) (a := a) (show m ≠ 0 by omega)
 have h2 := Int.tmod_add_mul_tdiv a m
 have h3 := Int.emod_add_mul_ediv a m
 have h4 := Int.emod_nonneg a (show m ≠ 0 by omega)
 have h5 := Int.emod_lt_of_pos a hm.1
 have h6 := Int.tmod_lt_of_pos a hm.1
 have h7 : -m < a.tmod m := by
  have := Int.tmod_lt_of_pos (-a) hm.1
  rw [Int.neg_tmod] at this
  omega
 have h8 : (a - a.tmod m) % m = 0 := by rw [show a - a.tmod m = m * (a.tdiv m) by omega]; exact Int.mul_emod_right _ _
 have h9 : a % m = (a.tmod m) % m := by
  have := Int.emod_emod_of_dvd a (Int.dvd_refl m)
  have e := Int.add_emod (a - a.tmod m) (a.tmod m) m
  rw [Int.sub_add_cancel, h8, Int.zero_add, Int.emod_emod] at e
  exact e
 cases d : decide (a.tmod m < 0) with
 | true =>
  have d' := of_decide_eq_true d
  have w : IntKind.i64.wrap (a.tmod m + m) = a % m := by
   rw [J0s (by omega) (by omega), h9, ← Int.add_emod_right, Int.emod_eq_of_lt (by omega) (by omega)]
  simp only [evC, seval, ↓evP, hr, h1, d, w]
 | false =>
  have d' := of_decide_eq_false d
  have w : a.tmod m = a % m := by rw [h9, Int.emod_eq_of_lt (by omega) (by omega)]
  rw [w] at d h1
  simp only [evC, seval, ↓evP, hr, h1, d]
theorem k_round {n : Nat} {h : SHeap} {a m : Int} (hm : 0 < m ∧ m < 1099511627776) (hn : 0 < n) : J0T n 25 [iv a, iv m] h = some (iv (a % m), h) := by
 obtain ⟨n, rfl⟩ : ∃ j, n = j + 1 := ⟨n - 1, by omega⟩
 exact J6r (J13 ⟨rfl, rfl, rfl⟩) rfl (round_walk hm)
theorem J0p.put {lo : Nat} {h : SHeap} {v : Value} {n w : Nat} {cs : List Value} (hc : J0p lo h v n w cs) {id q : Nat} {R : List Value} {ty : TypeId} {g : Bool} {a b : Int} (hg : h.get id = .row R ty g false) (hid : id < h.next) (hq : R[q]? = some (iv a)) (hno : ∀ x ∈ cs, ∀ c, x ≠ iv c) :
  J0p lo (h.put id (.row (R.set q (iv b)) ty g false)) v n w cs := by
 obtain ⟨hl, ad, c, rfl, h1 | ⟨i, off, row, ty', g', ro, rfl, h1, h2, h3, h4⟩⟩ := hc
 ·exact ⟨hl, _, _, rfl, .inl h1⟩
 ·by_cases hi : i = id
  ·subst hi
   rw [hg] at h1
   cases h1
   refine ⟨hl, _, _, rfl, .inr ⟨i, off, _, _, _, _, rfl, J0b rfl hid, h2, ?_, h4⟩⟩
   rw [← h3]
   apply List.ext_getElem?
   intro j
   rw [List.getElem?_take, List.getElem?_take]
   split
   ·rename_i hj
    rw [List.getElem?_drop, List.getElem?_drop, List.getElem?_set]
    split
    ·rename_i hqj
     exfalso
     have : cs[j]? = some (iv a) := by rw [← h3, List.getElem?_take_of_lt hj, List.getElem?_drop, ← hqj]; exact hq
     exact hno _ (List.mem_of_getElem? this) a rfl
    ·rfl
   ·rfl
  ·exact ⟨hl, _, _, rfl, .inr ⟨i, off, row, ty', g', ro, rfl, by rw [J05 hid (Ne.symm hi)]; exact h1, h2, h3, h4⟩⟩
theorem J1S.put {lo : Nat} {h : SHeap} {v : Value} {l : List Int} (hc : J1S lo h v l) {id q : Nat} {R : List Value} {ty : TypeId} {g : Bool} {b : Int} (hg : h.get id = .row R ty g false) (hid : id < h.next) :
  ∃ l', l'.length = l.length ∧ J1S lo (h.put id (.row (R.set q (iv b)) ty g false)) v l' := by
 obtain ⟨hl, ad, c, rfl, h1 | ⟨i, off, row, ty', g', ro, rfl, h1, h2, h3, h4⟩⟩ := hc
 ·exact ⟨l, rfl, hl, _, _, rfl, .inl h1⟩
 ·by_cases hi : i = id
  ·subst hi
   rw [hg] at h1
   cases h1
   refine ⟨if off ≤ q then l.set (q - off) b else l, by split <;> simp, ?_⟩
   have hlen : (if off ≤ q then l.set (q - off) b else l).length = l.length := by split <;> simp
   refine ⟨by rw [J1h, Nat.mul_one], _, _, by rw [hlen], .inr ⟨i, off, _, _, _, _, rfl, J0b rfl hid, h2, ?_, h4⟩⟩
   rw [hlen]
   apply List.ext_getElem?
   intro j
   have hj3 : ((R.drop off).take (l.length * 1))[j]? = (ints l)[j]? := by rw [h3]
   rw [List.getElem?_take] at hj3 ⊢
   split
   ·rename_i hj
    rw [if_pos hj, List.getElem?_drop] at hj3
    rw [List.getElem?_drop, List.getElem?_set]
    split
    ·rename_i hqj
     have h7 : off + j < R.length := by
      rcases Nat.lt_or_ge (off + j) R.length with h9 | h9
      ·exact h9
      ·rw [List.getElem?_eq_none h9, J6g, List.getElem?_eq_getElem (by omega)] at hj3
       cases hj3
     rw [if_pos (by omega), J6g, if_pos (by omega), List.getElem?_set, if_pos (by omega), if_pos (by omega)]
     rfl
    ·rename_i hqj
     rw [hj3, J6g, J6g]
     split
     ·rw [List.getElem?_set_ne (by omega)]
     ·rfl
   ·rename_i hj
    rw [List.getElem?_eq_none (by rw [J1h, hlen]; omega)]
  ·exact ⟨l, rfl, hl, _, _, rfl, .inr ⟨i, off, row, ty', g', ro, rfl, by rw [J05 hid (Ne.symm hi)]; exact h1, h2, h3, h4⟩⟩
theorem lay_nil {cs : List Value} {off : Nat} : Go.Sx.lay cs off [] = cs := by simp [Go.Sx.lay]
theorem lay_mid {a b c new : List Value} {off : Nat} (ho : off = a.length) (h : b.length = new.length) : Go.Sx.lay (a ++ (b ++ c)) off new = a ++ (new ++ c) := by
 subst ho
 simp only [Go.Sx.lay, ← h]
 rw [List.take_left', List.append_assoc]
 ·congr 2
  rw [← List.append_assoc, List.drop_left' (by simp)]
 ·rfl
theorem zeros_len {z : List Value} : ∀ n, (J3e z n).length = n * z.length
 | 0 => by simp [J3e]
 | n + 1 => by rw [J3e, List.length_append, zeros_len n, Nat.succ_mul]; omega
theorem zeros_add {z : List Value} : ∀ a b, J3e z (a + b) = J3e z a ++ J3e z b
 | 0, b => by simp [J3e]
 | a + 1, b => by rw [Nat.succ_add, J3e, J3e, zeros_add a b, List.append_assoc]
section
variable {P : Program} {t e : TypeId} {w b : Nat} {z : Value} {h : SHeap}
theorem make_in (ht : P.underlying t = some (.slice e)) (he : szOf P e = some w) (hb : byOf P e = some b) (hz : J1w P e = some z) (hzc : z.cells.size = w) (hzf : flat z = true) (hw : 0 < w) (hbb : b ≤ 64) {n : Nat} (hn : n < 1099511627776) :
  J2l P h t (iv 0) (iv (n : Int)) = some (.slice (some ⟨h.next, 0, none⟩) 0 n, h.push (.row (J3e z.cells.toList n) e false false)) := by
 simp only [J2l, ht, he, hz, hb]
 have hmul : (b : Int) * (n : Int) ≤ 64 * (n : Int) := Int.mul_le_mul_of_nonneg_right (by omega) (by omega)
 rw [if_pos (by simp [hzf, hzc, hw]; omega)]
 simp
theorem app_in (ht : P.underlying t = some (.slice e)) (he : szOf P e = some w) (hb : byOf P e = some b) (hz : J1w P e = some z) (hzc : z.cells.size = w) (hw : 0 < w)
  {id n c k c' : Nat} {a : Option Addr} {cs new : List Value} {ty : TypeId} {g : Bool} (hg : h.get id = .row cs ty g false) (hid : id < h.next) (hf : h.floor ≤ id) (hsrc : J16 h w k (.slice a k c') = some new) (hnl : new.length = k * w) (hone : new.all one = true) (hc : c ≠ unk) (hle : n + k ≤ c) (hlen : cs.length = c * w) :
  ∃ h', J1o P h t (.slice (some ⟨id, 0, none⟩) n c) (.slice a k c') = some (.slice (some ⟨id, 0, none⟩) (n + k) c, h') ∧ h'.get id = .row (Go.Sx.lay cs (n * w) new) ty g false ∧ h'.next = h.next ∧ h'.floor = h.floor ∧ ∀ i, i ≠ id → h'.get i = h.get i := by
 by_cases h0 : k = 0
 ·subst h0
  have : new = [] := List.length_eq_zero_iff.1 (by rw [hnl, Nat.zero_mul])
  subst this
  refine ⟨h, ?_, by rw [lay_nil]; exact hg, rfl, rfl, fun _ _ => rfl⟩
  simp only [J1o, ht, he, hb, hz, hsrc]
  rw [if_pos (by simp [hw, hzc]; omega), if_pos hone, if_neg hc, if_pos hle, if_true]
 ·have hfit : n * w + new.length ≤ cs.length := by
   rw [hnl, hlen, ← Nat.add_mul]
   exact Nat.mul_le_mul_right w hle
  have hst : J1q h id (0 + n * w) new = some (h.put id (.row (Go.Sx.lay cs (n * w) new) ty g false)) := by
   simp only [J1q, hg]
   rw [if_pos (by simp [hone]; omega), Nat.zero_add]
  refine ⟨_, ?_, J0b rfl hid, rfl, rfl, fun i hi => J05 hid (Ne.symm hi)⟩
  simp only [J1o, ht, he, hb, hz, hsrc]
  rw [if_pos (by simp [hw, hzc]; omega), if_pos hone, if_neg hc, if_pos hle, if_neg h0]
  simp only [hst]
theorem slice_in0 (ht : P.underlying t = some (.slice e)) (he : szOf P e = some w) {id n m c : Nat} (hm : m ≤ c) (hc : c ≠ unk) : J2M P h t (.slice (some ⟨id, 0, none⟩) n c) none (some (iv (m : Int))) none = some (.slice (some ⟨id, 0, none⟩) m c) := by
 simp only [J2M, ht, he, J3a, hc, if_false]
 rw [if_pos (by omega)]
 simp only [Int.toNat_natCast]
 by_cases h0 : c = 0
 ·subst h0
  simp [J0q]
 ·simp [J0q]
end
structure LentC (h : SHeap) (o n w : Nat) (cs mk z : List Value) (e : TypeId) : Prop where
 g : h.get o = .row (cs ++ (mk ++ J3e z 2)) e false false
 len : cs.length = n * w
 mlen : mk.length = w
 zlen : z.length = w
section
variable {t e : TypeId} {w b : Nat} {z : Value} {h : SHeap}
theorem lend_a (ht : Tryd.prog.underlying t = some (.slice e)) (he : szOf Tryd.prog e = some w) (hb : byOf Tryd.prog e = some b) (hz : J1w Tryd.prog e = some z) (hzc : z.cells.size = w) (hw : 0 < w) {lo n : Nat} {v : Value} {cs : List Value} (hv : J0p lo h v n w cs) (hone : cs.all one = true) (hn : n < 1099511627776) (hfl : h.floor ≤ h.next) :
  ∃ h1, J1o Tryd.prog (h.push (.row (J3e z.cells.toList (n + 3)) e false false)) t (.slice (some ⟨h.next, 0, none⟩) 0 (n + 3)) v = some (.slice (some ⟨h.next, 0, none⟩) n (n + 3), h1) ∧ h1.get h.next = .row (cs ++ (z.cells.toList ++ J3e z.cells.toList 2)) e false false ∧ h1.next = h.next + 1 ∧ h1.floor = h.floor ∧ ∀ i, i < h.next → h1.get i = h.get i := by
 have hv1 := hv.mono (h' := h.push (.row (J3e z.cells.toList (n + 3)) e false false)) (by rw [J1D]; omega) fun i _ hi => J06 hi
 have hsrc := hv1.src
 have hcl := hv.1
 obtain ⟨_, a, c, rfl, _⟩ := hv
 have hzl : z.cells.toList.length = w := by simpa using hzc
 obtain ⟨h1, e1, e2, e3, e4, e5⟩ := app_in (n := 0) (c := n + 3) ht he hb hz hzc hw J0h (by rw [J1D]; omega) hfl hsrc hcl hone (by unfold unk; omega) (by omega) (by rw [zeros_len, hzl])
 rw [Nat.zero_add] at e1
 refine ⟨h1, e1, ?_, e3, e4, fun i hi => by rw [e5 i (by omega), J06 hi]⟩
 rw [e2, zeros_add, show J3e z.cells.toList 3 = z.cells.toList ++ J3e z.cells.toList 2 from rfl, ← List.nil_append (J3e z.cells.toList n ++ _), lay_mid (by simp) (by rw [zeros_len, hcl, hzl])]
 rfl
theorem lend_b (ht : Tryd.prog.underlying t = some (.slice e)) (he : szOf Tryd.prog e = some w) (hb : byOf Tryd.prog e = some b) (hz : J1w Tryd.prog e = some z) (hzc : z.cells.size = w) (hw : 0 < w) {lo n o : Nat} {v : Value} {cs mk : List Value} (hg : h.get o = .row (cs ++ (z.cells.toList ++ J3e z.cells.toList 2)) e false false) (ho : o < h.next) (hf : h.floor ≤ o) (hcl : cs.length = n * w)
  (hv : J0p lo h v 1 w mk) (hone : mk.all one = true) (hn : n < 1099511627776) :
  ∃ h1, J1o Tryd.prog h t (.slice (some ⟨o, 0, none⟩) n (n + 3)) v = some (.slice (some ⟨o, 0, none⟩) (n + 1) (n + 3), h1) ∧ LentC h1 o n w cs mk z.cells.toList e ∧ h1.next = h.next ∧ h1.floor = h.floor ∧ ∀ i, i ≠ o → h1.get i = h.get i := by
 have hsrc := hv.src
 have hml := hv.1
 obtain ⟨_, a, c, rfl, _⟩ := hv
 have hzl : z.cells.toList.length = w := by simpa using hzc
 obtain ⟨h1, e1, e2, e3, e4, e5⟩ := app_in (n := n) (c := n + 3) ht he hb hz hzc hw hg ho hf hsrc hml hone (by unfold unk; omega) (by omega) (by
  rw [List.length_append, List.length_append, zeros_len, hcl, hzl]
  simp only [Nat.add_mul]
  omega)
 rw [lay_mid hcl.symm (by rw [hzl, hml, Nat.one_mul])] at e2
 exact ⟨h1, e1, ⟨e2, hcl, by rw [hml, Nat.one_mul], hzl⟩, e3, e4, e5⟩
end
section
variable {t e : TypeId} {w b : Nat} {z : Value} {h : SHeap}
theorem lend_c (ht : Tryd.prog.underlying t = some (.slice e)) (he : szOf Tryd.prog e = some w) (hb : byOf Tryd.prog e = some b) (hz : J1w Tryd.prog e = some z) (hzc : z.cells.size = w) (hw : 0 < w) {lo n : Nat} {v : Value} {cs mk : List Value} (hv : J0p lo h v n w cs) (hone : cs.all one = true) (hml : mk.length = w) (hmo : mk.all one = true) (hn : n < 1099511627) (hfl : h.floor ≤ h.next) :
  ∃ h1 h3, J1o Tryd.prog (h.push (.row (J3e z.cells.toList (n + 3)) e false false)) t (.slice (some ⟨h.next, 0, none⟩) 0 (n + 3)) v = some (.slice (some ⟨h.next, 0, none⟩) n (n + 3), h1) ∧ h1.next = h.next + 1 ∧ h1.floor = h.floor ∧ (∀ i, i < h.next → h1.get i = h.get i) ∧
   J1o Tryd.prog (h1.push (.row mk e false false)) t (.slice (some ⟨h.next, 0, none⟩) n (n + 3)) (.slice (some ⟨h1.next, 0, none⟩) 1 1) = some (.slice (some ⟨h.next, 0, none⟩) (n + 1) (n + 3), h3) ∧ LentC h3 h.next n w cs mk z.cells.toList e ∧ h3.next = h.next + 2 ∧ h3.floor = h.floor ∧ ∀ i, i < h.next → h3.get i = h.get i := by
 obtain ⟨h1, a1, a2, a3, a4, a5⟩ := lend_a ht he hb hz hzc hw hv hone (by omega) hfl
 have hm : J0p 0 (h1.push (.row mk e false false)) (.slice (some ⟨h1.next, 0, none⟩) 1 1) 1 w mk := J0p.row (ex := []) (by rw [List.append_nil]; exact J0h) ⟨Nat.zero_le _, by rw [J1D]; omega⟩ (by rw [hml, Nat.one_mul])
 obtain ⟨h3, b1, b2, b3, b4, b5⟩ := lend_b (h := h1.push (.row mk e false false)) (o := h.next) ht he hb hz hzc hw (by rw [J06 (by omega)]; exact a2) (by rw [J1D]; omega) (by rw [J0i]; omega) hv.1 hm hmo (by omega)
 exact ⟨h1, h3, a1, a3, a4, a5, b1, b2, by rw [b3, J1D, a3], by rw [b4, J0i, a4], fun i hi => by rw [b5 i (by omega), J06 (by omega), a5 i hi]⟩
end
section
variable {h h' : SHeap} {o n w : Nat} {cs mk z : List Value} {e : TypeId}
theorem LentC.mono (hl : LentC h o n w cs mk z e) (hg : h'.get o = h.get o) : LentC h' o n w cs mk z e := ⟨by rw [hg]; exact hl.g, hl.len, hl.mlen, hl.zlen⟩
theorem LentC.cells (hl : LentC h o n w cs mk z e) {lo c : Nat} (ho : lo ≤ o ∧ o < h.next) : J0p lo h (.slice (some ⟨o, 0, none⟩) n c) n w cs := J0p.row hl.g ho hl.len
theorem LentC.mark (hl : LentC h o n w cs mk z e) {lo c : Nat} (ho : lo ≤ o ∧ o < h.next) : J0p lo h (.slice (some ⟨o, 0, none⟩) (n + 1) c) (n + 1) w (cs ++ mk) :=
 J0p.row (ex := J3e z 2) (by rw [List.append_assoc]; exact hl.g) ho (by rw [List.length_append, hl.len, hl.mlen, Nat.succ_mul])
end
end Go.Proofs.YtipekdhneagdbaaDoor
