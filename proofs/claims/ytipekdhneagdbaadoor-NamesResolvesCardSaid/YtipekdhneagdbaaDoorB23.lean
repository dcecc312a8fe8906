/- Part 23 of what the claim leans on: 1 texts laid one behind another. -/
import Derived.Test.YtipekdhneagdbaaDoorB22
/- P701: any rows: both resolve them alike, the rows are kept. -/
namespace Go.Proofs.YtipekdhneagdbaaDoor
open Go Go.Sx
set_option maxRecDepth 100000
set_option linter.unusedSimpArgs false
set_option linter.unusedVariables false

theorem Jey {call : J0r} {N : Nat} {h : SHeap} {l : List RowN} {v : Value} (hv : J0l h v l) : J0L Tryd.prog call N 13 [v] h = some (.bool (decide ((l.length : Int) > 65536)), h) := by
  refine J1m Tryd.func13 rfl (by simp [Tryd.f13]) ?_
  have hr : Tryd.f13.results.toList = [.tmp 2] := rfl
  have hlen := fun h' => hv.len (h' := h')
  simp only [evC, sop, J00, J01, evs, resS, resV, ↓reduceIte, Nat.reduceEqDiff, reduceCtorEq, ↓evP, hr, hlen]
theorem JiW {n : Nat} {h : SHeap} {l : List RowN} {v : Value} (hv : J0l h v l) (hn : 0 < n) : J0T n 13 [v] h = some (.bool (decide ((l.length : Int) > 65536)), h) := by
  obtain ⟨n, rfl⟩ : ∃ j, n = j + 1 := ⟨n - 1, by omega⟩
  exact J6r (J13 ⟨rfl, rfl, rfl⟩) rfl (Jey hv)
theorem JhO {l : List RowN} (h : (resN l).1.1 = 0) : J2c l ∧ (J0v l).1 = 0 ∧ (goN (J0o l) l.length 0 (s0N l)).1 = 0 ∧ ¬ J2K (goN (J0o l) l.length 0 (s0N l)).2.2.rows (J0o l) (goN (J0o l) l.length 0 (s0N l)).2.2.rules ≥ 0 ∧
    resN l = ((0, 0), (goN (J0o l) l.length 0 (s0N l)).2.2) ∧ InvR l l.length (resN l).2 := by
  by_cases h1 : (J0v l).1 ≠ 0
  · unfold resN at h
    rw [if_pos h1] at h
    exact absurd h h1
  · by_cases h2 : (goN (J0o l) l.length 0 (s0N l)).1 ≠ 0
    · unfold resN at h
      rw [if_neg h1] at h
      simp only at h
      rw [if_pos h2] at h
      exact absurd h h2
    · by_cases h3 : J2K (goN (J0o l) l.length 0 (s0N l)).2.2.rows (J0o l) (goN (J0o l) l.length 0 (s0N l)).2.2.rules ≥ 0
      · unfold resN at h
        rw [if_neg h1] at h
        simp only at h
        rw [if_neg h2, if_pos h3] at h
        cases h
      · have e1 : (J0v l).1 = 0 := by simpa using h1
        have e2 : (goN (J0o l) l.length 0 (s0N l)).1 = 0 := by simpa using h2
        have e : resN l = ((0, 0), (goN (J0o l) l.length 0 (s0N l)).2.2) := by
          unfold resN
          rw [if_neg h1]
          simp only
          rw [if_neg h2, if_neg h3]
        have ht := J8d (J5d e1)
        refine ⟨ht, e1, e2, h3, e, ?_⟩
        rw [e]
        exact JfJ ht J3T l.length 0 (s0N l) (by omega) (inv0 l) e2
theorem Jg8 {l : List RowN} (h : (resN l).1.1 ≠ 0) : outN l = (ByteArray.empty, sZ) := by unfold outN; rw [if_pos h]
theorem JeO {l : List RowN} (h : (resN l).1.1 = 0) : outN l = (J52 l, (resN l).2) := by unfold outN; rw [if_neg (by rw [h]; simp)]
theorem JdR {l : List RowN} (hl : l.length < 900000000) : JdC (outN l).2 ∧ Jbg (outN l).2 ≤ l.length + 200 := by
  by_cases h : (resN l).1.1 = 0
  · rw [JeO h]
    obtain ⟨_, _, _, _, _, hi⟩ := JhO h
    have hw := hi.wf
    have := hw.q; have := hw.v; have := hw.t; have := hw.u; have := hw.o; have := hi.len
    unfold JdC Jbg
    simp only
    omega
  · rw [Jg8 h]
    exact ⟨⟨by decide, by decide, by decide, by decide, by decide, by decide⟩, by show 0 ≤ _; omega⟩
/-- An answer laid down: a policy and a fault, each in memory of its own. -/
theorem J9U {lo : Nat} {H : SHeap} {pv : Value} {nm : ByteArray} {s : StN} {e p : Int} (hp : J3x lo H pv nm s) (hf : H.floor ≤ H.next) :
    ∃ H' : SHeap × SHeap, J0K Tryd.prog ((H.push (.row [.string ByteArray.empty, .slice none 0 0, .slice none 0 0, .slice none 0 0, .slice none 0 0, .slice none 0 0, .slice none 0 0, iv 0] 30 false false)).push (.row [iv 0, iv 0] 33 false false)) 30 (.pointer (some ⟨H.next, 0, none⟩)) pv = some (H'.1) ∧ J0K Tryd.prog H'.1 33 (.pointer (some ⟨H.next + 1, 0, none⟩)) (J2k e p) = some H'.2 ∧
      ldN 8 0 (H'.2.get H.next) = some pv ∧ ldN 2 0 (H'.2.get (H.next + 1)) = some (J2k e p) ∧ H'.2.next = H.next + 2 ∧ H'.2.floor = H.floor ∧ ∀ i, i < H.next → H'.2.get i = H.get i := by
  obtain ⟨vr, vq, vv, vt, vu, vo, rfl, h1, h2, h3, h4, h5, h6⟩ := hp
  have hall : ([.string nm, vr, vq, vv, vt, vu, vo, iv s.miss] : List Value).all one = true := by
    simp only [List.all_cons, List.all_nil, h1.2.one, h2.one, h3.one, h4.one, J0p.one h5, J0p.one h6, J5J, J5K, Bool.and_self]
  have ga := J4c (h := H) (o := .row [.string ByteArray.empty, .slice none 0 0, .slice none 0 0, .slice none 0 0, .slice none 0 0, .slice none 0 0, .slice none 0 0, iv 0] 30 false false) (o' := .row [iv 0, iv 0] 33 false false)
  have gb := J48 (h := H) (o := .row [.string ByteArray.empty, .slice none 0 0, .slice none 0 0, .slice none 0 0, .slice none 0 0, .slice none 0 0, .slice none 0 0, iv 0] 30 false false) (o' := .row [iv 0, iv 0] 33 false false)
  have gold : ∀ i, i < H.next → ((H.push (.row [.string ByteArray.empty, .slice none 0 0, .slice none 0 0, .slice none 0 0, .slice none 0 0, .slice none 0 0, .slice none 0 0, iv 0] 30 false false)).push (.row [iv 0, iv 0] 33 false false)).get i = H.get i := fun i hi => by rw [J06 (by show i < H.next + 1; omega), J06 hi]
  have hnx : ((H.push (.row [.string ByteArray.empty, .slice none 0 0, .slice none 0 0, .slice none 0 0, .slice none 0 0, .slice none 0 0, .slice none 0 0, iv 0] 30 false false)).push (.row [iv 0, iv 0] 33 false false)).next = H.next + 2 := rfl
  have hfx : ((H.push (.row [.string ByteArray.empty, .slice none 0 0, .slice none 0 0, .slice none 0 0, .slice none 0 0, .slice none 0 0, .slice none 0 0, iv 0] 30 false false)).push (.row [iv 0, iv 0] 33 false false)).floor = H.floor := rfl
  generalize (H.push (.row [.string ByteArray.empty, .slice none 0 0, .slice none 0 0, .slice none 0 0, .slice none 0 0, .slice none 0 0, .slice none 0 0, iv 0] 30 false false)).push (.row [iv 0, iv 0] 33 false false) = G at *
  obtain ⟨H', s1, s2, r1, r2, r3, r4⟩ := J4J (a := H.next) (H := G) ⟨ga, gb⟩ rfl (by omega) (by omega) (cs' := [.string nm, vr, vq, vv, vt, vu, vo, iv s.miss]) rfl hall (e' := e) (p' := p)
  refine ⟨⟨_, H'⟩, s1, s2, J9E r1.1 rfl, ?_, by show H'.next = _; omega, by show H'.floor = _; omega, fun i hi => by rw [r4 i (by omega) (by omega), gold i hi]⟩
  rw [r1.2]
  rfl
theorem J8U (nm : ByteArray) (s : StN) : J5b nm nm s s := ⟨rfl, rfl, rfl, rfl, rfl, rfl, rfl, rfl⟩
section
variable {n : Nat} {h : SHeap}
set_option maxHeartbeats 8000000 in
theorem J7H {l : List RowN} {v : Value} (hv : J0l h v l) (h64 : ∀ x ∈ l, x.kids ≤ 9223372036854775807) (hfl : h.floor ≤ h.next) (hg : h.get 0 = J14) (hn0 : 0 < h.next) (hn : 400000 < n) :
    ∃ h', J0L Tryd.prog (Jb4 n) n 3 [v] h = some (.bool true, h') ∧ True := by
  refine J1N (R := fun _ => True) Tryd.func3 rfl (by simp [Tryd.f3]) ?_
  have hr : Tryd.f3.results.toList = [.tmp 2] := rfl
  have hfar := t_k (by decide) (JiW (n := n) hv (by omega))
  cases d : decide ((l.length : Int) > 65536) with
  | true =>
    rw [d] at hfar
    have hhd := JfG (n := n) hg
    simp only [evC, sop, J00, J01, evs, resS, resV, ↓reduceIte, Nat.reduceEqDiff, reduceCtorEq, ↓evP, hr, hfar, hhd]
  | false =>
    rw [d] at hfar
    have hl : l.length ≤ 65536 := by
      have := of_decide_eq_false d
      omega
    obtain ⟨h1, hlend, ⟨L, hL⟩, n1, f1, o1⟩ := Jic (n := n) hv (by omega) hfl (by omega)
    have hlend' := t_k (n := n) (by decide) hlend
    have hmine : J0l h1 (.slice (some ⟨h.next, 0, none⟩) l.length (l.length + 9)) l := by
      refine ⟨_, _, rfl, .inr ⟨h.next, 0, _, _, _, _, rfl, hL.g, by omega, fun k r hk => ?_⟩⟩
      have hkl := (List.getElem?_eq_some_iff.1 hk).1
      rw [Nat.zero_add]
      exact J2Y ((hL.own k hkl).trans hk)
    obtain ⟨v2, h2, hres, pv, rfl, hp, f2, n2, o2⟩ := Jia (n := n) (h := h1) (by omega) ((o1 0 hn0).trans hg) (by omega) hmine (by omega) (by omega)
    have hres' := t_k (n := n) (by decide) hres
    obtain ⟨⟨ha, h3⟩, s1, s2, la1, la2, n3, f3, o3⟩ := J9U (e := (resN l).1.1) (p := (resN l).1.2) hp (by omega)
    simp only at s1 s2 la1 la2 n3 f3 o3
    have hv3 : J0l h3 v l := hv.mono (by omega) fun i hi => by rw [o3 i (by omega), o2 i (by omega), o1 i hi]
    obtain ⟨v4, h4, hrefr, pv', rfl, hp', f4, n4, o4⟩ := Jij (n := n) (h := h3) (by omega) hv3 (by omega) h64 (by omega)
    have href' := t_k (n := n) (by decide) hrefr
    obtain ⟨⟨hb, h5⟩, s3, s4, lb1, lb2, n5, f5, o5⟩ := J9U (e := (resN l).1.1) (p := (resN l).1.2) hp' (by omega)
    simp only at s3 s4 lb1 lb2 n5 f5 o5
    have hO : ∀ i, i < h2.next → h5.get i = h2.get i := fun i hi => by rw [o5 i (by omega), o4 i (by omega), o3 i hi]
    have hL5 : LentAt h5 h.next l L := ⟨by rw [hO _ (by omega), o2 _ (by omega)]; exact hL.g, hL.len, hL.own, hL.marks⟩
    have hv5 : J0l h5 v l := hv3.mono (by omega) fun i hi => by rw [o5 i (by omega), o4 i (by omega)]
    obtain ⟨h6, hkept, n6, f6, o6⟩ := JhR (n := n) hL5 (by omega) (by omega) hv5 (by omega) (by omega)
    have hkept' := t_k (n := n) (by decide) hkept
    have hpA : J3x h1.next h6 pv (outN l).1 (outN l).2 := hp.mono (by omega) fun i hi1 hi2 => by rw [o6 i (by omega), hO i hi2]
    have hpB : J3x h3.next h6 pv' (outN l).1 (outN l).2 := hp'.mono (by omega) fun i hi1 hi2 => by rw [o6 i (by omega), o5 i (by omega)]
    have hsm := JdR (l := l) (by omega)
    obtain ⟨b, hsame, hb'⟩ := JgK (n := n) (h := h6) hpA hpB hsm.1 (by omega)
    have hbt : b = true := hb'.2 (J8U _ _)
    subst hbt
    have hsame' := t_k (n := n) (by decide) hsame
    have hhd := JfG (n := n) (h := h6) (by rw [o6 0 (by omega), hO 0 (by omega), o2 0 (by omega), o1 0 hn0]; exact hg)
    have lA1 : ldN 8 0 (h6.get h2.next) = some pv := by rw [o6 _ (by omega), o5 _ (by omega), o4 _ (by omega)]; exact la1
    have lA2 : ldN 2 0 (h6.get (h2.next + 1)) = some (J2k (resN l).1.1 (resN l).1.2) := by rw [o6 _ (by omega), o5 _ (by omega), o4 _ (by omega)]; exact la2
    have lB1 : ldN 8 0 (h6.get h4.next) = some pv' := by rw [o6 _ (by omega)]; exact lb1
    have lB2 : ldN 2 0 (h6.get (h4.next + 1)) = some (J2k (resN l).1.1 (resN l).1.2) := by rw [o6 _ (by omega)]; exact lb2
    have zc30 : zPol.cells.toList = [.string ByteArray.empty, .slice none 0 0, .slice none 0 0, .slice none 0 0, .slice none 0 0, .slice none 0 0, .slice none 0 0, iv 0] := rfl
    have zc33 : (J2k 0 0).cells.toList = [iv 0, iv 0] := rfl
    have z1 : ((resN l).1.1 == (resN l).1.1 && (resN l).1.2 == (resN l).1.2) = true := by simp
    simp only [evC, sop, J00, J01, evs, resS, resV, ↓reduceIte, Nat.reduceEqDiff, reduceCtorEq, ↓evP, hr, hfar, hlend', hres', J5F, J3Y, zc30, J3C, J1t, zc33, J1D, s1, s2, href', s3, s4, hkept', J1b, J2n, lA1, lA2, lB1, lB2, eq33, z1, Bool.and_self, hsame', hhd]
end
end Go.Proofs.YtipekdhneagdbaaDoor
