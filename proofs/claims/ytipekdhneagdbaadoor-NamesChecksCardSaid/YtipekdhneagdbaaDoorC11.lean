/- Part 11 of what the claim leans on: 6 texts laid one behind another. -/
import Derived.Test.YtipekdhneagdbaaDoorC10
namespace Go.Proofs.YtipekdhneagdbaaDoor
open Go Go.Sx
set_option maxRecDepth 100000
set_option linter.unusedSimpArgs false
set_option linter.unusedVariables false
def rt : Code → Code
 | .seq _ b => b
 | c => c
def lf : Code → Code
 | .seq a _ => a
 | c => c
noncomputable def J77 : Code := rt (rt (rt (Tryd.f73.body.getD .skip)))
theorem Jba {what k : Int} (hw : what ≠ 8) (h : J1l what k = true) : k ≠ 1 := by
 intro e
 subst e
 unfold J1l at h
 rw [if_neg hw] at h
 (repeat' split at h) <;> simp at h
theorem Jbu {k : Int} {j : Nat} : J0A k j ≠ 8 := J5w.2
theorem J4a (k : Int) : 0 ≤ J1U k := by unfold J1U; (repeat' split) <;> omega
section
variable {call : J0r} {n : Nat}
structure Calls73 (call : J0r) (l : List RowN) (v : Value) (m at_ : Nat) : Prop where
 asked : ∀ (k : Int) (j : Nat) h, 1 ≤ k ∧ k ≤ 54 → (k = 11 ∨ (j : Int) < J1r k) → call 93 [iv k, iv j] h = some (iv (J0A k j), h)
 row : ∀ (p : Nat) (w : Int) h, at_ < p → p ≤ l.length → w ≠ 8 → J0l h v l → h.get 0 = J14 → 0 < h.next → h.floor ≤ h.next → call 73 [v, iv p, iv w] h = some (.tuple #[iv ((rowN J09 l m p w).1 : Int), .bool (rowN J09 l m p w).2], h)
set_option maxHeartbeats 16000000 in
theorem Jfc (hsn : J1G call) {l : List RowN} {v : Value} {m at_ a b : Nat} {x : RowN} {T : Tr} {h : SHeap} {k : Kont} {ga0 gb0 : Bool} (hc : Calls73 call l v m at_) (hn : l.length + 3 < n) (hlen : l.length < 1099511627776) (hat : at_ < l.length)
  (h91 : ∀ h', h'.get 0 = J14 → call 91 [.string x.name] h' = some (.bool (J09 x.name), h'))
  (hv : J0l h v l) (hg : h.get 0 = J14) (hn0 : 0 < h.next) (hfl : h.floor ≤ h.next) (hkind : 1 ≤ x.kind ∧ x.kind ≤ 54) (hk1 : x.kind ≠ 1)
  (t0 : T.get 0 = v) (t1 : T.get 1 = iv at_) (t8 : T.get 8 = .pointer (some ⟨a, 0, none⟩)) (t9 : T.get 9 = .pointer (some ⟨b, 0, none⟩))
  (ga : h.get a = .row [.int .i64 x.kind, .string x.name, .int .i64 x.ends, .int .i64 x.n, .int .i64 x.kids] 46 ga0 false)
  (gb : h.get b = .row [.bool (J3l x.kind), .bool (endK x.kind), .bool (x.kind == 27), .int .i64 (J1U x.kind), .int .i64 (J1r x.kind)] 123 gb0 false) (hb : b < h.next)
  (hk : ∀ T' (p : Nat) ok, (p, ok) = (if fitN J09 x = true then J2r (fun k next => rowN J09 l m next (J0A x.kind k)) x.kids.toNat 0 (at_ + 1) else (at_, false)) → T'.get 6 = iv p → T'.get 7 = .bool ok → k.ap Tryd.prog call n .ret ⟨T', h⟩) :
  WK Tryd.prog call n J77 ⟨T, h⟩ k := by
 show WK _ _ _ (.seq (.region _ _ true) _) _ _
 rw [J4p]
 refine WK.flags (ops := J0M) J8v ?_
 refine WKF.begin ?_
 refine ph1 hsn t8 t9 ga gb (by simpa using hb) (fun h' e => h91 h' (by rw [e]; exact hg)) fun T1 e1 k1 => ?_
 refine ph2 hsn (by rw [k1 8 (by decide)]; exact t8) (by rw [k1 9 (by decide)]; exact t9) ga gb (by simpa using hb) e1 fun T2 e2 k2 => ?_
 refine ph3 hsn (by rw [k2 8 (by decide), k1 8 (by decide)]; exact t8) (by rw [k2 9 (by decide), k1 9 (by decide)]; exact t9) ga gb (by simpa using hb) e2 fun T3 e3 k3 => ?_
 refine WKF.done (i := 49) (by kernel_rfl) ?_
 rw [J7O]
 have kp : ∀ t : Nat, t < 10 → T3.get t = T.get t := fun t ht => by rw [k3 t ht, k2 t (by omega), k1 t (by omega)]
 have u0 := (kp 0 (by decide)).trans t0
 have u1 := (kp 1 (by decide)).trans t1
 have u8 := (kp 8 (by decide)).trans t8
 have u9 := (kp 9 (by decide)).trans t9
 clear k1 k2 k3 kp e1 e2
 generalize hcc : (((J09 x.name == J3l x.kind) && (J3l x.kind || x.name == ⟨#[]⟩)) && (x.ends == 0 || endK x.kind && x.ends == 1) && (x.n == 0 || (x.kind == 27) && decide (x.n > 0) && decide (x.n ≤ 1073741824))) = cc at e3
 have hfit : fitN J09 x = (cc && decide (x.kids ≥ J1U x.kind) && (decide (J1r x.kind < 0) || decide (x.kids ≤ J1r x.kind))) := by
  rw [← hcc]
  rfl
 have bad : fitN J09 x = false → ∀ T', T'.get 6 = iv at_ → T'.get 7 = .bool false → k.ap Tryd.prog call n .ret ⟨T', h⟩ := fun hf T' h6 h7 => hk T' at_ false (by rw [hf]; rfl) h6 h7
 have e1 : (x.kind == 1) = false := by simpa using hk1
 have hkids : fitN J09 x = true → 0 ≤ x.kids ∧ (decide (J1r x.kind < 0) || decide (x.kids ≤ J1r x.kind)) = true := fun hf => by
  rw [hfit] at hf
  simp only [Bool.and_eq_true, decide_eq_true_eq] at hf
  have := J4a x.kind
  exact ⟨by omega, hf.2⟩
 have main : fitN J09 x = true → ∀ T', T'.get 0 = v → T'.get 1 = iv at_ → T'.get 8 = .pointer (some ⟨a, 0, none⟩) → WK Tryd.prog call n (rt (rt J77)) ⟨T', h⟩ k := by
  intro hf T' w0 w1 w8
  obtain ⟨hk0, hkm⟩ := hkids hf
  have hkN : ((x.kids.toNat : Nat) : Int) = x.kids := by omega
  have wat : IntKind.i64.wrap ((at_ : Int) + 1) = ((at_ + 1 : Nat) : Int) := J0s (by omega) (by omega)
  show WK _ _ _ (.seq _ _) _ _
  simp only [evC, seval, ↓evP, rpC, w0, w1, w8, ga, e1]
  have res : ∀ (p : Nat) ok, J2r (fun k next => rowN J09 l m next (J0A x.kind k)) x.kids.toNat 0 (at_ + 1) = (p, ok) → ∀ T', T'.get 6 = iv p → T'.get 7 = .bool ok → k.ap Tryd.prog call n .ret ⟨T', h⟩ := fun p ok e T' h6 h7 => hk T' p ok (by rw [if_pos hf, e]) h6 h7
  generalize hg0 : J2r (fun k next => rowN J09 l m next (J0A x.kind k)) x.kids.toNat 0 (at_ + 1) = R at res
  refine WK.loop (fun i s => s.h = h ∧ s.T.get 0 = v ∧ s.T.get 8 = .pointer (some ⟨a, 0, none⟩) ∧ s.T.get 13 = iv i ∧ ∃ p : Nat, ∃ ok : Bool, s.T.get 11 = iv p ∧ s.T.get 12 = .bool ok ∧ p ≤ l.length ∧ i ≤ l.length + 1 ∧
   ((ok = true ∧ i ≤ x.kids.toNat ∧ at_ + 1 + i ≤ p ∧ J2r (fun k next => rowN J09 l m next (J0A x.kind k)) (x.kids.toNat - i) i p = R) ∨ (ok = false ∧ R = (p, false)))) (l.length + 2) (by omega) ?_ ?_
  ·simp only [evC, ↓reduceIte, Nat.reduceEqDiff, reduceCtorEq, ↓evP, rpC, Nat.reduceAdd, Nat.reduceLT, w0, w8]
   exact ⟨rfl, at_ + 1, true, wat, rfl, by omega, .inl ⟨rfl, by omega, by rw [Nat.sub_zero]; exact hg0⟩⟩
  ·rintro i ⟨T1, h1⟩ hi ⟨rfl, y0, y8, y13, p, ok, y11, y12, hp, hil, hcase⟩
   simp only at y0 y8 y13 y11 y12
   rcases hcase with ⟨rfl, hik, hpi, hR⟩ | ⟨rfl, hR⟩
   ·by_cases hlt : i < x.kids.toNat
    ·have c1 : decide ((i : Int) < x.kids) = true := by simp only [decide_eq_true_eq]; omega
     have hask := fun hh => hc.asked x.kind i hh hkind (by
      simp only [Bool.or_eq_true, decide_eq_true_eq] at hkm
      rcases hkm with h | h
      ·left
       unfold J1r at h
       (repeat' split at h) <;> simp_all
      ·right; omega)
     have hrow := fun hv' hg' => hc.row p (J0A x.kind i) h1 (by omega) hp Jbu hv' hg' hn0 hfl
     have hrow' := hrow hv hg
     have w5 : IntKind.i64.wrap ((i : Int) + 1) = ((i + 1 : Nat) : Int) := J0s (by omega) (by omega)
     generalize hq : rowN J09 l m p (J0A x.kind i) = q at hrow'
     have hstep : J2r (fun k next => rowN J09 l m next (J0A x.kind k)) (x.kids.toNat - i) i p = if q.2 = true then J2r (fun k next => rowN J09 l m next (J0A x.kind k)) (x.kids.toNat - (i + 1)) (i + 1) q.1 else (q.1, false) := by
      obtain ⟨r, hr⟩ : ∃ r, x.kids.toNat - i = r + 1 := ⟨x.kids.toNat - i - 1, by omega⟩
      rw [hr, show x.kids.toNat - (i + 1) = r by omega]
      simp only [J2r, hq]
     have hq1 : q.1 ≤ l.length := by rw [← hq]; exact J6h m p _ hp
     have hq2 : q.2 = true → p < q.1 := fun h => by
      have := J5D (isName := J09) (l := l) m p (J0A x.kind i)
      rw [hq] at this
      exact (this h).1
     simp only [evC, seval, ↓evP, rpC, y0, y8, y13, y11, y12, ga, c1, hask, hrow']
     refine ⟨by omega, w5, q.1, q.2, rfl, rfl, hq1, by omega, ?_⟩
     cases hb2 : q.2 with
     | true =>
      left
      have := hq2 hb2
      rw [hb2, if_pos rfl] at hstep
      exact ⟨rfl, by omega, by omega, by rw [← hstep]; exact hR⟩
     | false =>
      right
      rw [hb2, if_neg (by simp)] at hstep
      exact ⟨rfl, by rw [← hR, hstep]⟩
    ·have c1 : decide ((i : Int) < x.kids) = false := by simp only [decide_eq_false_iff_not]; omega
     have hie : x.kids.toNat - i = 0 := by omega
     rw [hie] at hR
     simp only [evC, seval, ↓evP, rpC, y0, y8, y13, y11, y12, ga, c1]
     refine res p true (by rw [← hR]; rfl) _ ?_ ?_
     ·simp only [evC, seval, ↓evP, rpC, y11]
     ·simp only [evC, seval, ↓evP, rpC, y12]
   ·cases c1 : decide ((i : Int) < x.kids) with
    | true =>
     simp only [evC, seval, ↓evP, rpC, y0, y8, y13, y11, y12, ga, c1]
     refine res p false hR _ ?_ ?_
     ·simp only [evC, seval, ↓evP, rpC, y11]
     ·simp only [evC, seval, ↓evP, rpC, y12]
    | false =>
     simp only [evC, seval, ↓evP, rpC, y0, y8, y13, y11, y12, ga, c1]
     refine res p false hR _ ?_ ?_
     ·simp only [evC, seval, ↓evP, rpC, y11]
     ·simp only [evC, seval, ↓evP, rpC, y12]
 show WK _ _ _ (.seq _ (rt (rt J77))) _ _
 cases cc with
 | false =>
  simp only [evC, seval, ↓evP, rpC, e3, u0, u1, u8, u9, ga, gb]
  refine bad (by rw [hfit]; rfl) _ ?_ ?_
  ·simp only [evC, seval, ↓evP, rpC]
  ·simp only [evC, seval, ↓evP, rpC]
 | true =>
  cases d1 : decide (x.kids < J1U x.kind) with
  | true =>
   simp only [evC, seval, ↓evP, rpC, e3, u0, u1, u8, u9, ga, gb, d1]
   refine bad (by rw [hfit, decide_eq_false (by simp only [decide_eq_true_eq] at d1; omega)]; rfl) _ ?_ ?_
   ·simp only [evC, seval, ↓evP, rpC]
   ·simp only [evC, seval, ↓evP, rpC]
  | false =>
   have hl : decide (x.kids ≥ J1U x.kind) = true := by simp only [decide_eq_false_iff_not] at d1; simp only [decide_eq_true_eq]; omega
   cases d2 : decide (J1r x.kind ≥ 0) with
   | false =>
    have hm : decide (J1r x.kind < 0) = true := by simp only [decide_eq_false_iff_not] at d2; simp only [decide_eq_true_eq]; omega
    simp only [evC, seval, ↓evP, rpC, e3, u0, u1, u8, u9, ga, gb, d1, d2]
    refine main (by rw [hfit, hl, hm]; rfl) _ ?_ ?_ ?_
    ·simp only [evC, seval, ↓evP, rpC, u0]
    ·simp only [evC, seval, ↓evP, rpC, u1]
    ·simp only [evC, seval, ↓evP, rpC, u8]
   | true =>
    cases d3 : decide (x.kids > J1r x.kind) with
    | true =>
     have hm : decide (J1r x.kind < 0) = false := by simp only [decide_eq_true_eq] at d2; simp only [decide_eq_false_iff_not]; omega
     have hm2 : decide (x.kids ≤ J1r x.kind) = false := by simp only [decide_eq_true_eq] at d3; simp only [decide_eq_false_iff_not]; omega
     simp only [evC, seval, ↓evP, rpC, e3, u0, u1, u8, u9, ga, gb, d1, d2, d3]
     refine bad (by rw [hfit, hl, hm, hm2]; rfl) _ ?_ ?_
     ·simp only [evC, seval, ↓evP, rpC]
     ·simp only [evC, seval, ↓evP, rpC]
    | false =>
     have hm2 : decide (x.kids ≤ J1r x.kind) = true := by simp only [decide_eq_false_iff_not] at d3; simp only [decide_eq_true_eq]; omega
     simp only [evC, seval, ↓evP, rpC, e3, u0, u1, u8, u9, ga, gb, d1, d2, d3]
     refine main (by rw [hfit, hl, hm2, Bool.or_true]; rfl) _ ?_ ?_ ?_
     ·simp only [evC, seval, ↓evP, rpC, u0]
     ·simp only [evC, seval, ↓evP, rpC, u1]
     ·simp only [evC, seval, ↓evP, rpC, u8]
end
theorem J93 {a b : Value} (ha : flat a = true) (hb : flat b = true) : J3m (.tuple #[a, b]) = true := by simp [J3m, ha, hb]
theorem J5l {l : List RowN} {m at_ : Nat} {what : Int} {x : RowN} (hx : l[at_]? = some x) : rowN J09 l (m + 1) at_ what = if (J1l what x.kind && fitN J09 x) = true then J2r (fun k next => rowN J09 l m next (J0A x.kind k)) x.kids.toNat 0 (at_ + 1) else (at_, false) := by
 rw [rowN, hx]
theorem J6M {l : List RowN} {m at_ : Nat} {what : Int} (hx : l[at_]? = none) : rowN J09 l (m + 1) at_ what = (at_, false) := by
 rw [rowN, hx]
section
variable {call : J0r} {n : Nat}
set_option maxHeartbeats 16000000 in
theorem Jfm (hsn : J1G call) {l : List RowN} {v : Value} {m at_ : Nat} {what : Int} {h : SHeap} (hc : Calls73 call l v m at_) (hn : l.length + 3 < n) (hlen : l.length < 1099511627776) (hat : at_ ≤ l.length) (hw : what ≠ 8)
  (h89 : ∀ w k h, call 89 [iv w, iv k] h = some (.bool (J1l w k), h))
  (h90' : ∀ k h, 1 ≤ k ∧ k ≤ 54 → call 90 [iv k] h = some (.agg #[.bool (J3l k), .bool (endK k), .bool (k == 27), iv (J1U k), iv (J1r k)], h))
  (h91 : ∀ s h', h'.get 0 = J14 → call 91 [.string s] h' = some (.bool (J09 s), h'))
  (hv : J0l h v l) (hg : h.get 0 = J14) (hn0 : 0 < h.next) (hfl : h.floor ≤ h.next) :
  ∃ h1, J0L Tryd.prog call n 73 [v, iv at_, iv what] h = some (.tuple #[iv ((rowN J09 l (m + 1) at_ what).1 : Int), .bool (rowN J09 l (m + 1) at_ what).2], h1) ∧ ∀ i, i < h.next → h1.get i = h.get i := by
 refine J1N (R := fun h1 => ∀ i, i < h.next → h1.get i = h.get i) Tryd.func73 rfl (by simp [Tryd.f73]) ?_
 have hr : Tryd.f73.results.toList = [.tmp 6, .tmp 7] := rfl
 have hl22 : ∀ h', lenS Tryd.prog h' 22 v = some (.int .i64 l.length) := fun h' => hv.len
 cases hx : l[at_]? with
 | none =>
  rw [J6M hx]
  have hge : l.length ≤ at_ := List.getElem?_eq_none_iff.1 hx
  have c1 : decide ((at_ : Int) ≥ (l.length : Int)) = true := by simp only [decide_eq_true_eq]; omega
  simp only [evC, seval, ↓evP, rpC, hr, hl22, c1]
  exact fun i hi => trivial
 | some x =>
  have hlt : at_ < l.length := (List.getElem?_eq_some_iff.1 hx).1
  have c1 : decide ((at_ : Int) ≥ (l.length : Int)) = false := by simp only [decide_eq_false_iff_not]; omega
  obtain ⟨id, p, e0, hid, l0, l1, l2, l3, l4, lr⟩ := hv.row hx
  rw [J5l hx]
  cases hs : J1l what x.kind with
  | false =>
   simp only [evC, seval, ↓evP, rpC, hr, hl22, c1, e0, l0, h89, hs, Bool.false_and]
   exact fun i hi => trivial
  | true =>
  have hkind := J2H hs
  have h90 := fun h => h90' x.kind h hkind
  have hidT : (id < h.next) = True := by simpa using hid
  have hne1 : (h.next = h.next + 1) = False := by simp
  have hne2 : (h.next + 1 = h.next) = False := by simp
  have hfl1 : (h.floor ≤ h.next) = True := by simpa using hfl
  have hfl2 : (h.floor ≤ h.next + 1) = True := by simp; omega
  have hlt1 : (h.next < h.next + 1 + 1) = True := by simp; omega
  have hlt2 : (h.next + 1 < h.next + 1 + 1) = True := by simp
  simp only [Bool.true_and]
  simp only [evC, seval, ↓evP, rpC, hr, hl22, c1, e0, l0, h89, hs]
  refine WK.flags (ops := J9n) J8D ?_
  refine WKF.begin ?_
  refine wst hsn 0 (some 29) (.move (.tmp 0)) none ?_
  simp only [evC, seval, ↓evP, rpC, WKFC, J04, J02, J0w, J0P, J0f, J0a, J0V, J0U, J0J, J1g, hr, e0, l0, lr, hidT, h90, hne1, hne2, hfl1, hfl2, hlt1, hlt2]
  refine wst hsn 1 (some 30) (.move (.tmp 1)) none ?_
  simp only [evC, seval, ↓evP, rpC, WKFC, J04, J02, J0w, J0P, J0f, J0a, J0V, J0U, J0J, J1g, hr, e0, l0, lr, hidT, h90, hne1, hne2, hfl1, hfl2, hlt1, hlt2]
  refine wst hsn 2 (some 31) (.indexAddr 22 (.tmp 29) (.tmp 30)) none ?_
  simp only [evC, seval, ↓evP, rpC, WKFC, J04, J02, J0w, J0P, J0f, J0a, J0V, J0U, J0J, J1g, hr, e0, l0, lr, hidT, h90, hne1, hne2, hfl1, hfl2, hlt1, hlt2]
  refine wst hsn 3 (some 32) (.load 46 (.tmp 31)) none ?_
  simp only [evC, seval, ↓evP, rpC, WKFC, J04, J02, J0w, J0P, J0f, J0a, J0V, J0U, J0J, J1g, hr, e0, l0, lr, hidT, h90, hne1, hne2, hfl1, hfl2, hlt1, hlt2]
  refine wst hsn 4 (some 33) (.move (.tmp 0)) none ?_
  simp only [evC, seval, ↓evP, rpC, WKFC, J04, J02, J0w, J0P, J0f, J0a, J0V, J0U, J0J, J1g, hr, e0, l0, lr, hidT, h90, hne1, hne2, hfl1, hfl2, hlt1, hlt2]
  refine wst hsn 5 (some 34) (.move (.tmp 1)) none ?_
  simp only [evC, seval, ↓evP, rpC, WKFC, J04, J02, J0w, J0P, J0f, J0a, J0V, J0U, J0J, J1g, hr, e0, l0, lr, hidT, h90, hne1, hne2, hfl1, hfl2, hlt1, hlt2]
  refine wst hsn 6 (some 35) (.indexAddr 22 (.tmp 33) (.tmp 34)) none ?_
  simp only [evC, seval, ↓evP, rpC, WKFC, J04, J02, J0w, J0P, J0f, J0a, J0V, J0U, J0J, J1g, hr, e0, l0, lr, hidT, h90, hne1, hne2, hfl1, hfl2, hlt1, hlt2]
  refine wst hsn 7 (some 36) (.fieldAddr 46 (.tmp 35) 0) none ?_
  simp only [evC, seval, ↓evP, rpC, WKFC, J04, J02, J0w, J0P, J0f, J0a, J0V, J0U, J0J, J1g, hr, e0, l0, lr, hidT, h90, hne1, hne2, hfl1, hfl2, hlt1, hlt2]
  refine wst hsn 8 (some 37) (.load 3 (.tmp 36)) none ?_
  simp only [evC, seval, ↓evP, rpC, WKFC, J04, J02, J0w, J0P, J0f, J0a, J0V, J0U, J0J, J1g, hr, e0, l0, lr, hidT, h90, hne1, hne2, hfl1, hfl2, hlt1, hlt2]
  refine wst hsn 9 (some 38) (.call { callee := .value (.func 90), args := #[.tmp 37], argTypes := #[3] }) none ?_
  simp only [evC, seval, ↓evP, rpC, WKFC, J04, J02, J0w, J0P, J0f, J0a, J0V, J0U, J0J, J1g, hr, e0, l0, lr, hidT, h90, hne1, hne2, hfl1, hfl2, hlt1, hlt2]
  refine wst hsn 10 (some 8) (.alloc 46) none ?_
  simp only [evC, seval, ↓evP, rpC, WKFC, J04, J02, J0w, J0P, J0f, J0a, J0V, J0U, J0J, J1g, hr, e0, l0, lr, hidT, h90, hne1, hne2, hfl1, hfl2, hlt1, hlt2]
  refine wst hsn 11 (some 9) (.alloc 123) none ?_
  simp only [evC, seval, ↓evP, rpC, WKFC, J04, J02, J0w, J0P, J0f, J0a, J0V, J0U, J0J, J1g, hr, e0, l0, lr, hidT, h90, hne1, hne2, hfl1, hfl2, hlt1, hlt2]
  refine wst hsn 12 (none) (.store 46 (.tmp 8) (.tmp 32)) none ?_
  simp only [evC, seval, ↓evP, rpC, WKFC, J04, J02, J0w, J0P, J0f, J0a, J0V, J0U, J0J, J1g, hr, e0, l0, lr, hidT, h90, hne1, hne2, hfl1, hfl2, hlt1, hlt2]
  refine wst hsn 13 (none) (.store 123 (.tmp 9) (.tmp 38)) none ?_
  simp only [evC, seval, ↓evP, rpC, WKFC, J04, J02, J0w, J0P, J0f, J0a, J0V, J0U, J0J, J1g, hr, e0, l0, lr, hidT, h90, hne1, hne2, hfl1, hfl2, hlt1, hlt2]
  refine WKF.done (i := 14) (by kernel_rfl) ?_
  rw [J7O]
  have hold : ∀ i, i < h.next → ((((h.push (.row [.int .i64 0, .string ByteArray.empty, .int .i64 0, .int .i64 0, .int .i64 0] 46 false false)).push (.row [.bool false, .bool false, .bool false, .int .i64 0, .int .i64 0] 123 false false)).put h.next (.row [.int .i64 x.kind, .string x.name, .int .i64 x.ends, .int .i64 x.n, .int .i64 x.kids] 46 false false)).put (h.next + 1)
    (.row [.bool (J3l x.kind), .bool (endK x.kind), .bool (x.kind == 27), iv (J1U x.kind), iv (J1r x.kind)] 123 false false)).get i = h.get i := fun i hi => by
   rw [J6i, if_neg (by omega), J6i, if_neg (by omega), J29, if_neg (by rw [J1D]; omega), J29, if_neg (by omega)]
  refine Jfc hsn hc hn hlen hlt (h91 x.name) (hv.mono (by simp only [J2T, J1D]; omega) hold) (by rw [hold 0 hn0]; exact hg) (by simp only [J2T, J1D]; omega) (by simp only [J2T, J1D, J6Q, J0i]; omega) hkind (Jba hw hs) (a := h.next) (b := h.next + 1) (ga0 := false) (gb0 := false) ?_ ?_ ?_ ?_ ?_ ?_ (by simp only [J2T, J1D]; omega) ?_
  ·simp only [evC, seval, ↓evP, rpC]
  ·simp only [evC, seval, ↓evP, rpC]
  ·simp only [evC, seval, ↓evP, rpC]
  ·simp only [evC, seval, ↓evP, rpC]
  ·simp only [evC, seval, ↓evP, rpC, hne1, hlt1]
  ·simp only [evC, seval, ↓evP, rpC, hlt2]
  ·intro T' q ok hq h6 h7
   simp only [evC, seval, ↓evP, rpC, hr, h6, h7, ← hq]
   intro i hi
   rw [if_neg (by omega), if_neg (by omega), if_neg (by omega), if_neg (by omega)]
end
theorem J7b (k : Int) (h : SHeap) (hk : 1 ≤ k ∧ k ≤ 54) : L1 90 [iv k] h = some (.agg #[.bool (J3l k), .bool (endK k), .bool (k == 27), iv (J1U k), iv (J1r k)], h) :=
 J1M (J0I rfl rfl rfl rfl (J1I J9K hk))
theorem Jf1 (k : Int) : J1r k ≤ 3 := by unfold J1r; (repeat' split) <;> omega
theorem Jg0 {call : J0r} {n : Nat} {h : SHeap} {j : Nat} : J0L Tryd.prog call n 93 [iv 11, iv j] h = some (iv (J0A 11 j), h) := by
 refine J1m Tryd.func93 rfl (by simp [Tryd.f93]) ?_
 have hr : Tryd.f93.results.toList = [.tmp 4] := rfl
 simp only [evC, seval, ↓evP, rpC, hr]
 rfl
theorem Jfj (k : Int) (j : Nat) (h : SHeap) (hk : 1 ≤ k ∧ k ≤ 54) (hj : k = 11 ∨ (j : Int) < J1r k) : L1 93 [iv k, iv j] h = some (iv (J0A k j), h) := by
 refine J1M (J0I rfl rfl rfl rfl ?_)
 rcases hj with rfl | hj
 ·exact ⟨_, Jg0⟩
 ·have := Jf1 k
  have h3 : j = 0 ∨ j = 1 ∨ j = 2 := by omega
  rcases h3 with rfl | rfl | rfl
  ·exact J1I Jbt hk
  ·exact J1I JbN hk
  ·have h15 : k ≠ 15 := by
    rintro rfl
    revert hj
    decide
   have := J1I JbJ hk
   simp only [if_neg h15] at this
   exact this
noncomputable def rowT (K m : Nat) : J0r := tower [73] L2 K m
theorem rowT_ok (K m : Nat) : J1x Tryd.prog (rowT K m) ∧ J1G (rowT K m) := tower_ok Jjr m
theorem rowT_up {K K' m : Nat} {f : FuncId} {args : List Value} {h : SHeap} {r : Value × SHeap} (hb : L2 f args h = some r) : J3U Tryd.prog (rowT K m) (K' + 1) f args h = some r := J55 (tower_up hb)
theorem rowT_spec {K : Nat} {l : List RowN} {v : Value} (hK : l.length + 3 < K + 1) (hlen : l.length < 1099511627776) : ∀ m (at_ : Nat) (what : Int) h, at_ ≤ l.length → l.length < at_ + m → what ≠ 8 → J0l h v l → h.get 0 = J14 → 0 < h.next → h.floor ≤ h.next →
  rowT (K + 1) m 73 [v, iv at_, iv what] h = some (.tuple #[iv ((rowN J09 l m at_ what).1 : Int), .bool (rowN J09 l m at_ what).2], h) := by
 intro m
 induction m with
 | zero => intro at_ what h hat hm; omega
 | succ m ih =>
  intro at_ what h hat hm hw hv hg hn0 hfl
  refine tower_new (J8X (J20 (J20 rfl rfl) rfl) rfl) rfl (J93 rfl rfl) ?_
  refine Jfm (J6f J2f (rowT_ok (K + 1) m).1 (rowT_ok (K + 1) m).2 (K + 1)).2 ⟨fun k j h hk hj => J55 (tower_up (J6k (Jfj k j h hk hj))), fun p w h hp hpl hw hv hg hn0 hfl => J55 (ih p w h hpl (by omega) hw hv hg hn0 hfl)⟩
   hK hlen hat hw (fun w k h => J55 (tower_up (J6k (J9I w k h)))) (fun k h hk => J55 (tower_up (J6k (J7b k h hk)))) (fun s h' hg => J55 (tower_up (J94 hg s))) hv hg hn0 hfl
theorem J5q {l : List RowN} {m : Nat} {x : RowN} (hx : l[0]? = some x) : topN J09 l m = if (J1l 8 x.kind && fitN J09 x) = true then polN J09 l m x.kids.toNat false 1 else (0, false) := by
 rw [topN, hx]
theorem J6T {l : List RowN} {m : Nat} (hx : l[0]? = none) : topN J09 l m = (0, false) := by
 rw [topN, hx]
section
variable {call : J0r} {n : Nat}
set_option maxHeartbeats 16000000 in
theorem Je4 (hsn : J1G call) {l : List RowN} {v : Value} {m at_ a b : Nat} {x : RowN} {T : Tr} {h : SHeap} {k : Kont} {ga0 gb0 : Bool} (h92 : fitN J09 x = true → call 92 [v, iv at_] h = some (.tuple #[iv ((polN J09 l m x.kids.toNat false (at_ + 1)).1 : Int), .bool (polN J09 l m x.kids.toNat false (at_ + 1)).2], h)) (hn : l.length + 3 < n) (hlen : l.length < 1099511627776) (hat : at_ < l.length)
  (h91 : ∀ h', h'.get 0 = J14 → call 91 [.string x.name] h' = some (.bool (J09 x.name), h'))
  (hv : J0l h v l) (hg : h.get 0 = J14) (hn0 : 0 < h.next) (hfl : h.floor ≤ h.next) (hkind : 1 ≤ x.kind ∧ x.kind ≤ 54) (hk1 : x.kind = 1)
  (t0 : T.get 0 = v) (t1 : T.get 1 = iv at_) (t8 : T.get 8 = .pointer (some ⟨a, 0, none⟩)) (t9 : T.get 9 = .pointer (some ⟨b, 0, none⟩))
  (ga : h.get a = .row [.int .i64 x.kind, .string x.name, .int .i64 x.ends, .int .i64 x.n, .int .i64 x.kids] 46 ga0 false)
  (gb : h.get b = .row [.bool (J3l x.kind), .bool (endK x.kind), .bool (x.kind == 27), .int .i64 (J1U x.kind), .int .i64 (J1r x.kind)] 123 gb0 false) (hb : b < h.next)
  (hk : ∀ T' (p : Nat) ok, (p, ok) = (if fitN J09 x = true then polN J09 l m x.kids.toNat false (at_ + 1) else (at_, false)) → T'.get 6 = iv p → T'.get 7 = .bool ok → k.ap Tryd.prog call n .ret ⟨T', h⟩) :
  WK Tryd.prog call n J77 ⟨T, h⟩ k := by
 show WK _ _ _ (.seq (.region _ _ true) _) _ _
 rw [J4p]
 refine WK.flags (ops := J0M) J8v ?_
 refine WKF.begin ?_
 refine ph1 hsn t8 t9 ga gb (by simpa using hb) (fun h' e => h91 h' (by rw [e]; exact hg)) fun T1 e1 k1 => ?_
 refine ph2 hsn (by rw [k1 8 (by decide)]; exact t8) (by rw [k1 9 (by decide)]; exact t9) ga gb (by simpa using hb) e1 fun T2 e2 k2 => ?_
 refine ph3 hsn (by rw [k2 8 (by decide), k1 8 (by decide)]; exact t8) (by rw [k2 9 (by decide), k1 9 (by decide)]; exact t9) ga gb (by simpa using hb) e2 fun T3 e3 k3 => ?_
 refine WKF.done (i := 49) (by kernel_rfl) ?_
 rw [J7O]
 have kp : ∀ t : Nat, t < 10 → T3.get t = T.get t := fun t ht => by rw [k3 t ht, k2 t (by omega), k1 t (by omega)]
 have u0 := (kp 0 (by decide)).trans t0
 have u1 := (kp 1 (by decide)).trans t1
 have u8 := (kp 8 (by decide)).trans t8
 have u9 := (kp 9 (by decide)).trans t9
 clear k1 k2 k3 kp e1 e2
 generalize hcc : (((J09 x.name == J3l x.kind) && (J3l x.kind || x.name == ⟨#[]⟩)) && (x.ends == 0 || endK x.kind && x.ends == 1) && (x.n == 0 || (x.kind == 27) && decide (x.n > 0) && decide (x.n ≤ 1073741824))) = cc at e3
 have hfit : fitN J09 x = (cc && decide (x.kids ≥ J1U x.kind) && (decide (J1r x.kind < 0) || decide (x.kids ≤ J1r x.kind))) := by
  rw [← hcc]
  rfl
 have bad : fitN J09 x = false → ∀ T', T'.get 6 = iv at_ → T'.get 7 = .bool false → k.ap Tryd.prog call n .ret ⟨T', h⟩ := fun hf T' h6 h7 => hk T' at_ false (by rw [hf]; rfl) h6 h7
 have e1 : (x.kind == 1) = true := by simpa using hk1
 have hkids : fitN J09 x = true → 0 ≤ x.kids ∧ (decide (J1r x.kind < 0) || decide (x.kids ≤ J1r x.kind)) = true := fun hf => by
  rw [hfit] at hf
  simp only [Bool.and_eq_true, decide_eq_true_eq] at hf
  have := J4a x.kind
  exact ⟨by omega, hf.2⟩
 have main : fitN J09 x = true → ∀ T', T'.get 0 = v → T'.get 1 = iv at_ → T'.get 8 = .pointer (some ⟨a, 0, none⟩) → WK Tryd.prog call n (rt (rt J77)) ⟨T', h⟩ k := by
  intro hf T' w0 w1 w8
  have h92' := h92 hf
  show WK _ _ _ (.seq _ _) _ _
  simp only [evC, seval, ↓evP, rpC, w0, w1, w8, ga, e1, h92']
  refine hk _ _ _ (by rw [if_pos hf]) ?_ ?_
  ·simp only [evC, seval, ↓evP, rpC]
  ·simp only [evC, seval, ↓evP, rpC]
 show WK _ _ _ (.seq _ (rt (rt J77))) _ _
 cases cc with
 | false =>
  simp only [evC, seval, ↓evP, rpC, e3, u0, u1, u8, u9, ga, gb]
  refine bad (by rw [hfit]; rfl) _ ?_ ?_
  ·simp only [evC, seval, ↓evP, rpC]
  ·simp only [evC, seval, ↓evP, rpC]
 | true =>
  cases d1 : decide (x.kids < J1U x.kind) with
  | true =>
   simp only [evC, seval, ↓evP, rpC, e3, u0, u1, u8, u9, ga, gb, d1]
   refine bad (by rw [hfit, decide_eq_false (by simp only [decide_eq_true_eq] at d1; omega)]; rfl) _ ?_ ?_
   ·simp only [evC, seval, ↓evP, rpC]
   ·simp only [evC, seval, ↓evP, rpC]
  | false =>
   have hl : decide (x.kids ≥ J1U x.kind) = true := by simp only [decide_eq_false_iff_not] at d1; simp only [decide_eq_true_eq]; omega
   cases d2 : decide (J1r x.kind ≥ 0) with
   | false =>
    have hm : decide (J1r x.kind < 0) = true := by simp only [decide_eq_false_iff_not] at d2; simp only [decide_eq_true_eq]; omega
    simp only [evC, seval, ↓evP, rpC, e3, u0, u1, u8, u9, ga, gb, d1, d2]
    refine main (by rw [hfit, hl, hm]; rfl) _ ?_ ?_ ?_
    ·simp only [evC, seval, ↓evP, rpC, u0]
    ·simp only [evC, seval, ↓evP, rpC, u1]
    ·simp only [evC, seval, ↓evP, rpC, u8]
   | true =>
    cases d3 : decide (x.kids > J1r x.kind) with
    | true =>
     have hm : decide (J1r x.kind < 0) = false := by simp only [decide_eq_true_eq] at d2; simp only [decide_eq_false_iff_not]; omega
     have hm2 : decide (x.kids ≤ J1r x.kind) = false := by simp only [decide_eq_true_eq] at d3; simp only [decide_eq_false_iff_not]; omega
     simp only [evC, seval, ↓evP, rpC, e3, u0, u1, u8, u9, ga, gb, d1, d2, d3]
     refine bad (by rw [hfit, hl, hm, hm2]; rfl) _ ?_ ?_
     ·simp only [evC, seval, ↓evP, rpC]
     ·simp only [evC, seval, ↓evP, rpC]
    | false =>
     have hm2 : decide (x.kids ≤ J1r x.kind) = true := by simp only [decide_eq_false_iff_not] at d3; simp only [decide_eq_true_eq]; omega
     simp only [evC, seval, ↓evP, rpC, e3, u0, u1, u8, u9, ga, gb, d1, d2, d3]
     refine main (by rw [hfit, hl, hm2, Bool.or_true]; rfl) _ ?_ ?_ ?_
     ·simp only [evC, seval, ↓evP, rpC, u0]
     ·simp only [evC, seval, ↓evP, rpC, u1]
     ·simp only [evC, seval, ↓evP, rpC, u8]
set_option maxHeartbeats 16000000 in
theorem Jcw (hsn : J1G call) {l : List RowN} {v : Value} {m : Nat} {h : SHeap} (h92 : ∀ x h, l[0]? = some x → fitN J09 x = true → x.kind = 1 → J0l h v l → h.get 0 = J14 → 0 < h.next → h.floor ≤ h.next → call 92 [v, iv 0] h = some (.tuple #[iv ((polN J09 l m x.kids.toNat false 1).1 : Int), .bool (polN J09 l m x.kids.toNat false 1).2], h)) (hn : l.length + 3 < n) (hlen : l.length < 1099511627776)
  (h89 : ∀ w k h, call 89 [iv w, iv k] h = some (.bool (J1l w k), h))
  (h90' : ∀ k h, 1 ≤ k ∧ k ≤ 54 → call 90 [iv k] h = some (.agg #[.bool (J3l k), .bool (endK k), .bool (k == 27), iv (J1U k), iv (J1r k)], h))
  (h91 : ∀ s h', h'.get 0 = J14 → call 91 [.string s] h' = some (.bool (J09 s), h'))
  (hv : J0l h v l) (hg : h.get 0 = J14) (hn0 : 0 < h.next) (hfl : h.floor ≤ h.next) :
  ∃ h1, J0L Tryd.prog call n 73 [v, iv 0, iv 8] h = some (.tuple #[iv ((topN J09 l m).1 : Int), .bool (topN J09 l m).2], h1) ∧ ∀ i, i < h.next → h1.get i = h.get i := by
 refine J1N (R := fun h1 => ∀ i, i < h.next → h1.get i = h.get i) Tryd.func73 rfl (by simp [Tryd.f73]) ?_
 have hr : Tryd.f73.results.toList = [.tmp 6, .tmp 7] := rfl
 have hl22 : ∀ h', lenS Tryd.prog h' 22 v = some (.int .i64 l.length) := fun h' => hv.len
 have e00 : ((0 : Nat) : Int) = 0 := rfl
 cases hx : l[0]? with
 | none =>
  rw [J6T hx]
  have hge : l.length ≤ 0 := List.getElem?_eq_none_iff.1 hx
  have c1 : decide ((0 : Int) ≥ (l.length : Int)) = true := by simp only [decide_eq_true_eq]; omega
  simp only [evC, ↓reduceIte, Nat.reduceEqDiff, reduceCtorEq, ↓evP, rpC, Nat.reduceAdd, Nat.reduceLT, hr, hl22, c1]
  exact ⟨rfl, fun i hi => trivial⟩
 | some x =>
  have hlt : 0 < l.length := (List.getElem?_eq_some_iff.1 hx).1
  have c1 : decide ((0 : Int) ≥ (l.length : Int)) = false := by simp only [decide_eq_false_iff_not]; omega
  obtain ⟨id, p, e0, hid, l0, l1, l2, l3, l4, lr⟩ := hv.row hx
  rw [J5q hx]
  rw [e00] at e0
  cases hs : J1l 8 x.kind with
  | false =>
   simp only [evC, ↓reduceIte, Nat.reduceEqDiff, reduceCtorEq, ↓evP, rpC, Nat.reduceAdd, Nat.reduceLT, hr, hl22, c1, e0, l0, h89, hs, Bool.false_and]
   exact ⟨rfl, fun i hi => trivial⟩
  | true =>
  have hkind := J2H hs
  have hk1 : x.kind = 1 := by simpa [J1l] using hs
  have h90 := fun h => h90' x.kind h hkind
  have hidT : (id < h.next) = True := by simpa using hid
  have hne1 : (h.next = h.next + 1) = False := by simp
  have hne2 : (h.next + 1 = h.next) = False := by simp
  have hfl1 : (h.floor ≤ h.next) = True := by simpa using hfl
  have hfl2 : (h.floor ≤ h.next + 1) = True := by simp; omega
  have hlt1 : (h.next < h.next + 1 + 1) = True := by simp; omega
  have hlt2 : (h.next + 1 < h.next + 1 + 1) = True := by simp
  simp only [Bool.true_and]
  simp only [evC, seval, ↓evP, rpC, hr, hl22, c1, e0, l0, h89, hs]
  refine WK.flags (ops := J9n) J8D ?_
  refine WKF.begin ?_
  refine wst hsn 0 (some 29) (.move (.tmp 0)) none ?_
  simp only [evC, seval, ↓evP, rpC, WKFC, J04, J02, J0w, J0P, J0f, J0a, J0V, J0U, J0J, J1g, hr, e0, l0, lr, hidT, h90, hne1, hne2, hfl1, hfl2, hlt1, hlt2]
  refine wst hsn 1 (some 30) (.move (.tmp 1)) none ?_
  simp only [evC, seval, ↓evP, rpC, WKFC, J04, J02, J0w, J0P, J0f, J0a, J0V, J0U, J0J, J1g, hr, e0, l0, lr, hidT, h90, hne1, hne2, hfl1, hfl2, hlt1, hlt2]
  refine wst hsn 2 (some 31) (.indexAddr 22 (.tmp 29) (.tmp 30)) none ?_
  simp only [evC, seval, ↓evP, rpC, WKFC, J04, J02, J0w, J0P, J0f, J0a, J0V, J0U, J0J, J1g, hr, e0, l0, lr, hidT, h90, hne1, hne2, hfl1, hfl2, hlt1, hlt2]
  refine wst hsn 3 (some 32) (.load 46 (.tmp 31)) none ?_
  simp only [evC, seval, ↓evP, rpC, WKFC, J04, J02, J0w, J0P, J0f, J0a, J0V, J0U, J0J, J1g, hr, e0, l0, lr, hidT, h90, hne1, hne2, hfl1, hfl2, hlt1, hlt2]
  refine wst hsn 4 (some 33) (.move (.tmp 0)) none ?_
  simp only [evC, seval, ↓evP, rpC, WKFC, J04, J02, J0w, J0P, J0f, J0a, J0V, J0U, J0J, J1g, hr, e0, l0, lr, hidT, h90, hne1, hne2, hfl1, hfl2, hlt1, hlt2]
  refine wst hsn 5 (some 34) (.move (.tmp 1)) none ?_
  simp only [evC, seval, ↓evP, rpC, WKFC, J04, J02, J0w, J0P, J0f, J0a, J0V, J0U, J0J, J1g, hr, e0, l0, lr, hidT, h90, hne1, hne2, hfl1, hfl2, hlt1, hlt2]
  refine wst hsn 6 (some 35) (.indexAddr 22 (.tmp 33) (.tmp 34)) none ?_
  simp only [evC, seval, ↓evP, rpC, WKFC, J04, J02, J0w, J0P, J0f, J0a, J0V, J0U, J0J, J1g, hr, e0, l0, lr, hidT, h90, hne1, hne2, hfl1, hfl2, hlt1, hlt2]
  refine wst hsn 7 (some 36) (.fieldAddr 46 (.tmp 35) 0) none ?_
  simp only [evC, seval, ↓evP, rpC, WKFC, J04, J02, J0w, J0P, J0f, J0a, J0V, J0U, J0J, J1g, hr, e0, l0, lr, hidT, h90, hne1, hne2, hfl1, hfl2, hlt1, hlt2]
  refine wst hsn 8 (some 37) (.load 3 (.tmp 36)) none ?_
  simp only [evC, seval, ↓evP, rpC, WKFC, J04, J02, J0w, J0P, J0f, J0a, J0V, J0U, J0J, J1g, hr, e0, l0, lr, hidT, h90, hne1, hne2, hfl1, hfl2, hlt1, hlt2]
  refine wst hsn 9 (some 38) (.call { callee := .value (.func 90), args := #[.tmp 37], argTypes := #[3] }) none ?_
  simp only [evC, seval, ↓evP, rpC, WKFC, J04, J02, J0w, J0P, J0f, J0a, J0V, J0U, J0J, J1g, hr, e0, l0, lr, hidT, h90, hne1, hne2, hfl1, hfl2, hlt1, hlt2]
  refine wst hsn 10 (some 8) (.alloc 46) none ?_
  simp only [evC, seval, ↓evP, rpC, WKFC, J04, J02, J0w, J0P, J0f, J0a, J0V, J0U, J0J, J1g, hr, e0, l0, lr, hidT, h90, hne1, hne2, hfl1, hfl2, hlt1, hlt2]
  refine wst hsn 11 (some 9) (.alloc 123) none ?_
  simp only [evC, seval, ↓evP, rpC, WKFC, J04, J02, J0w, J0P, J0f, J0a, J0V, J0U, J0J, J1g, hr, e0, l0, lr, hidT, h90, hne1, hne2, hfl1, hfl2, hlt1, hlt2]
  refine wst hsn 12 (none) (.store 46 (.tmp 8) (.tmp 32)) none ?_
  simp only [evC, seval, ↓evP, rpC, WKFC, J04, J02, J0w, J0P, J0f, J0a, J0V, J0U, J0J, J1g, hr, e0, l0, lr, hidT, h90, hne1, hne2, hfl1, hfl2, hlt1, hlt2]
  refine wst hsn 13 (none) (.store 123 (.tmp 9) (.tmp 38)) none ?_
  simp only [evC, seval, ↓evP, rpC, WKFC, J04, J02, J0w, J0P, J0f, J0a, J0V, J0U, J0J, J1g, hr, e0, l0, lr, hidT, h90, hne1, hne2, hfl1, hfl2, hlt1, hlt2]
  refine WKF.done (i := 14) (by kernel_rfl) ?_
  rw [J7O]
  have hold : ∀ i, i < h.next → ((((h.push (.row [.int .i64 0, .string ByteArray.empty, .int .i64 0, .int .i64 0, .int .i64 0] 46 false false)).push (.row [.bool false, .bool false, .bool false, .int .i64 0, .int .i64 0] 123 false false)).put h.next (.row [.int .i64 x.kind, .string x.name, .int .i64 x.ends, .int .i64 x.n, .int .i64 x.kids] 46 false false)).put (h.next + 1)
    (.row [.bool (J3l x.kind), .bool (endK x.kind), .bool (x.kind == 27), iv (J1U x.kind), iv (J1r x.kind)] 123 false false)).get i = h.get i := fun i hi => by
   rw [J6i, if_neg (by omega), J6i, if_neg (by omega), J29, if_neg (by rw [J1D]; omega), J29, if_neg (by omega)]
  refine Je4 hsn (m := m) (at_ := 0) (l := l) (v := v) (fun hf => h92 x _ hx hf hk1 (hv.mono (by simp only [J2T, J1D]; omega) hold) (by rw [hold 0 hn0]; exact hg) (by simp only [J2T, J1D]; omega) (by simp only [J2T, J1D, J6Q, J0i]; omega)) hn hlen hlt (h91 x.name) (hv.mono (by simp only [J2T, J1D]; omega) hold) (by rw [hold 0 hn0]; exact hg) (by simp only [J2T, J1D]; omega) (by simp only [J2T, J1D, J6Q, J0i]; omega) hkind hk1 (a := h.next) (b := h.next + 1) (ga0 := false) (gb0 := false) ?_ ?_ ?_ ?_ ?_ ?_ (by simp only [J2T, J1D]; omega) ?_
  ·simp only [evC, seval, ↓evP, rpC]
  ·simp only [evC, ↓reduceIte, Nat.reduceEqDiff, reduceCtorEq, ↓evP, rpC, Nat.reduceAdd, Nat.reduceLT]
   rfl
  ·simp only [evC, seval, ↓evP, rpC]
  ·simp only [evC, seval, ↓evP, rpC]
  ·simp only [evC, seval, ↓evP, rpC, hne1, hlt1]
  ·simp only [evC, seval, ↓evP, rpC, hlt2]
  ·intro T' q ok hq h6 h7
   simp only [evC, seval, ↓evP, rpC, hr, h6, h7, ← hq]
   intro i hi
   rw [if_neg (by omega), if_neg (by omega), if_neg (by omega), if_neg (by omega)]
def evI (ev : Bool) : Int := if ev = true then 1 else 0
set_option maxHeartbeats 16000000 in
theorem JeN {l : List RowN} {v : Value} {m : Nat} {x : RowN} {h : SHeap} (hx : l[0]? = some x) (hk0 : 0 ≤ x.kids) (hn : l.length + 3 < n) (hlen : l.length < 1099511627776) (hv : J0l h v l)
  (h89 : ∀ w k h, call 89 [iv w, iv k] h = some (.bool (J1l w k), h))
  (h73 : ∀ (p : Nat) (w : Int), 0 < p → p ≤ l.length → w ≠ 8 → call 73 [v, iv p, iv w] h = some (.tuple #[iv ((rowN J09 l m p w).1 : Int), .bool (rowN J09 l m p w).2], h)) :
  J0L Tryd.prog call n 92 [v, iv 0] h = some (.tuple #[iv ((polN J09 l m x.kids.toNat false 1).1 : Int), .bool (polN J09 l m x.kids.toNat false 1).2], h) := by
 refine J1m Tryd.func92 rfl (by simp [Tryd.f92]) ?_
 have hr : Tryd.f92.results.toList = [.tmp 4, .tmp 5] := rfl
 have hl22 : ∀ h', lenS Tryd.prog h' 22 v = some (.int .i64 l.length) := fun h' => hv.len
 have hlt0 : 0 < l.length := (List.getElem?_eq_some_iff.1 hx).1
 obtain ⟨id, q, e0', hid, l0, l1, l2, l3, l4, lr⟩ := hv.row hx
 have e0 : J0R Tryd.prog 22 v (.int .i64 0) = some (.pointer (some ⟨id, q, none⟩)) := e0'
 have w1 : IntKind.i64.wrap (0 + 1) = ((1 : Nat) : Int) := rfl
 simp only [evC, ↓reduceIte, Nat.reduceEqDiff, reduceCtorEq, ↓evP, rpC, Nat.reduceAdd, Nat.reduceLT, hr, w1]
 generalize hg0 : polN J09 l m x.kids.toNat false 1 = R
 refine WK.loop (fun i s => s.h = h ∧ s.T.get 0 = v ∧ s.T.get 1 = iv 0 ∧ s.T.get 9 = iv i ∧ ∃ p : Nat, ∃ ok ev : Bool, s.T.get 6 = iv p ∧ s.T.get 7 = .bool ok ∧ s.T.get 8 = iv (evI ev) ∧ p ≤ l.length ∧ 0 < p ∧ i ≤ l.length + 1 ∧
  ((ok = true ∧ i ≤ x.kids.toNat ∧ 1 + i ≤ p ∧ polN J09 l m (x.kids.toNat - i) ev p = R) ∨ (ok = false ∧ R = (p, false)))) (l.length + 2) (by omega) ?_ ?_
 ·simp only [evC, ↓reduceIte, Nat.reduceEqDiff, reduceCtorEq, ↓evP, rpC, Nat.reduceAdd, Nat.reduceLT]
  exact ⟨rfl, 1, true, false, rfl, rfl, rfl, by omega, by omega, .inl ⟨rfl, by omega, by rw [Nat.sub_zero]; exact hg0⟩⟩
 ·rintro i ⟨T1, h1⟩ hi ⟨rfl, y0, y1, y9, p, ok, ev, y6, y7, y8, hp, hp0, hil, hcase⟩
  simp only at y0 y1 y9 y6 y7 y8
  rcases hcase with ⟨rfl, hik, hpi, hR⟩ | ⟨rfl, hR⟩
  ·by_cases hlt : i < x.kids.toNat
   ·have c1 : decide ((i : Int) < x.kids) = true := by simp only [decide_eq_true_eq]; omega
    have w5 : IntKind.i64.wrap ((i : Int) + 1) = ((i + 1 : Nat) : Int) := J0s (by omega) (by omega)
    have hstep : polN J09 l m (x.kids.toNat - i) ev p = if (rowN J09 l m p (J3J ev l[p]?)).2 = true then polN J09 l m (x.kids.toNat - (i + 1)) (ev || isEv l[p]?) (rowN J09 l m p (J3J ev l[p]?)).1 else ((rowN J09 l m p (J3J ev l[p]?)).1, false) := by
     obtain ⟨r, hr⟩ : ∃ r, x.kids.toNat - i = r + 1 := ⟨x.kids.toNat - i - 1, by omega⟩
     rw [hr, show x.kids.toNat - (i + 1) = r by omega]
     rfl
    have hdw : J3J ev l[p]? ≠ 8 := by unfold J3J; split <;> decide
    have hrow := h73 p (J3J ev l[p]?) hp0 hp hdw
    have hev' : J3J ev l[p]? = evI (ev || isEv l[p]?) := by unfold J3J evI; cases ev <;> cases isEv l[p]? <;> rfl
    have fin : i < l.length + 2 ∧ ∃ p1 : Nat, ∃ ok ev1 : Bool, (((rowN J09 l m p (J3J ev l[p]?)).1 : Nat) : Int) = (p1 : Int) ∧ Value.bool (rowN J09 l m p (J3J ev l[p]?)).2 = .bool ok ∧ evI (ev || isEv l[p]?) = evI ev1 ∧ p1 ≤ l.length ∧ 0 < p1 ∧ i + 1 ≤ l.length + 1 ∧
       ((ok = true ∧ i + 1 ≤ x.kids.toNat ∧ 1 + (i + 1) ≤ p1 ∧ polN J09 l m (x.kids.toNat - (i + 1)) ev1 p1 = R) ∨ (ok = false ∧ R = (p1, false))) := by
     generalize hq : rowN J09 l m p (J3J ev l[p]?) = Q at *
     have hq1 : Q.1 ≤ l.length := by rw [← hq]; exact J6h m p _ hp
     have hq0 : p ≤ Q.1 := by rw [← hq]; exact J57 m p _
     have hq2 : Q.2 = true → p < Q.1 := fun h => by
      have := J5D (isName := J09) (l := l) m p (J3J ev l[p]?)
      rw [hq] at this
      exact (this h).1
     refine ⟨by omega, Q.1, Q.2, (ev || isEv l[p]?), rfl, rfl, rfl, hq1, by omega, by omega, ?_⟩
     cases hb2 : Q.2 with
     | true =>
      left
      have := hq2 hb2
      rw [hb2, if_pos rfl] at hstep
      exact ⟨rfl, by omega, by omega, by rw [← hstep]; exact hR⟩
     | false =>
      right
      rw [hb2, if_neg (by simp)] at hstep
      exact ⟨rfl, by rw [← hR, hstep]⟩
    cases hxp : l[p]? with
    | none =>
     have hge : l.length ≤ p := List.getElem?_eq_none_iff.1 hxp
     have c2 : decide ((p : Int) < (l.length : Int)) = false := by simp only [decide_eq_false_iff_not]; omega
     have hie : isEv (none : Option RowN) = false := rfl
     rw [hxp] at hrow fin hev'
     rw [hie, Bool.or_false] at hev' fin
     rw [hev'] at hrow fin
     simp only [evC, ↓reduceIte, Nat.reduceEqDiff, reduceCtorEq, ↓evP, rpC, Nat.reduceAdd, Nat.reduceLT, y0, y1, y9, y6, y7, y8, e0, l4, c1, hl22, c2, hrow, w5]
     exact fin
    | some y =>
     have hlt2 : p < l.length := (List.getElem?_eq_some_iff.1 hxp).1
     have c2 : decide ((p : Int) < (l.length : Int)) = true := by simp only [decide_eq_true_eq]; omega
     obtain ⟨id2, q2, f0, hid2, m0, m1, m2, m3, m4, mr⟩ := hv.row hxp
     have hie : isEv (some y) = J1l 1 y.kind := rfl
     rw [hxp] at hrow fin hev'
     rw [hie] at hev' fin
     rw [hev'] at hrow fin
     cases hs : J1l 1 y.kind with
     | false =>
      rw [hs, Bool.or_false] at hrow fin
      simp only [evC, ↓reduceIte, Nat.reduceEqDiff, reduceCtorEq, ↓evP, rpC, Nat.reduceAdd, Nat.reduceLT, y0, y1, y9, y6, y7, y8, e0, l4, c1, hl22, c2, f0, m0, h89, hs, hrow, w5]
      exact fin
     | true =>
      have he1 : evI true = 1 := rfl
      rw [hs, Bool.or_true, he1] at hrow fin
      simp only [evC, ↓reduceIte, Nat.reduceEqDiff, reduceCtorEq, ↓evP, rpC, Nat.reduceAdd, Nat.reduceLT, y0, y1, y9, y6, y7, y8, e0, l4, c1, hl22, c2, f0, m0, h89, hs, hrow, w5]
      exact fin
   ·have c1 : decide ((i : Int) < x.kids) = false := by simp only [decide_eq_false_iff_not]; omega
    have hie : x.kids.toNat - i = 0 := by omega
    rw [hie] at hR
    have hR' : R = (p, true) := by rw [← hR]; rfl
    simp only [evC, seval, ↓evP, rpC, hr, y0, y1, y9, y6, y7, y8, e0, l4, c1, hR']
  ·cases c1 : decide ((i : Int) < x.kids) <;> simp only [evC, seval, ↓evP, rpC, hr, y0, y1, y9, y6, y7, y8, e0, l4, c1, hR]
end
def J4q (a b : Int) (k : Nat) : Bool := if b = 0 then false else if 1 ≤ a ∧ a ≤ 5 then (decide (b < a) || (b == a && ((k : Int) == 1 || a == 3))) else if a = 6 then decide (b < 6) else false
def J2i (a b : Int) (k : Nat) : Int := if J4q a b k = true then 1 else 0
def levL (g : Nat → Int × Nat) (l : List RowN) (kind : Int) : Nat → Nat → Int → Nat → Int × Nat
 | 0, _, most, next => (most, next)
 | r + 1, k, most, next => match l[next]? with
  | none => (most, next)
  | some y => levL g l kind r (k + 1) (if (g next).1 + J2i (J1f kind) (J1f y.kind) k > most then (g next).1 + J2i (J1f kind) (J1f y.kind) k else most) (g next).2
def levN (l : List RowN) : Nat → Nat → Int × Nat
 | 0, at_ => (0, at_)
 | m + 1, at_ => match l[at_]? with
  | none => (0, at_)
  | some x => ((levL (levN l m) l x.kind x.kids.toNat 0 0 (at_ + 1)).1 + J1s x.kind, (levL (levN l m) l x.kind x.kids.toNat 0 0 (at_ + 1)).2)
theorem J4A (k : Int) : 0 ≤ J1s k ∧ J1s k ≤ 1 := by unfold J1s; split <;> omega
theorem J6p (a b : Int) (k : Nat) : 0 ≤ J2i a b k ∧ J2i a b k ≤ 1 := by unfold J2i; split <;> omega
theorem Jeb {g : Nat → Int × Nat} {l : List RowN} {kind B : Int} (hg : ∀ p, 0 ≤ (g p).1 ∧ (g p).1 ≤ B) : ∀ r k most next, 0 ≤ most → most ≤ B + 1 → 0 ≤ (levL g l kind r k most next).1 ∧ (levL g l kind r k most next).1 ≤ B + 1 := by
 intro r
 induction r with
 | zero => intro k most next h0 h1; exact ⟨h0, h1⟩
 | succ r ih =>
  intro k most next h0 h1
  unfold levL
  split
  ·exact ⟨h0, h1⟩
  ·rename_i y hy
   have := hg next
   have := J6p (J1f kind) (J1f y.kind) k
   apply ih <;> split <;> omega
theorem JcK {l : List RowN} : ∀ m at_, 0 ≤ (levN l m at_).1 ∧ (levN l m at_).1 ≤ 2 * (m : Int) := by
 intro m
 induction m with
 | zero => intro at_; exact ⟨Int.le_refl 0, by show (0 : Int) ≤ _; omega⟩
 | succ m ih =>
  intro at_
  unfold levN
  split
  ·exact ⟨Int.le_refl 0, by show (0 : Int) ≤ _; omega⟩
  ·rename_i x hx
   have := Jeb (g := levN l m) (l := l) (kind := x.kind) (B := 2 * (m : Int)) ih x.kids.toNat 0 0 (at_ + 1) (Int.le_refl 0) (by omega)
   have := J4A x.kind
   constructor <;> simp only <;> omega
theorem Jdk {g : Nat → Int × Nat} {l : List RowN} {kind : Int} (hg : ∀ p, p < l.length → p ≤ (g p).2 ∧ (g p).2 ≤ l.length) : ∀ r k most next, next ≤ l.length → next ≤ (levL g l kind r k most next).2 ∧ (levL g l kind r k most next).2 ≤ l.length := by
 intro r
 induction r with
 | zero => intro k most next h; exact ⟨Nat.le_refl _, h⟩
 | succ r ih =>
  intro k most next h
  unfold levL
  split
  ·exact ⟨Nat.le_refl _, h⟩
  ·rename_i y hy
   have hlt : next < l.length := (List.getElem?_eq_some_iff.1 hy).1
   have h1 := hg next hlt
   have h2 := ih (k + 1) (if (g next).1 + J2i (J1f kind) (J1f y.kind) k > most then (g next).1 + J2i (J1f kind) (J1f y.kind) k else most) (g next).2 h1.2
   omega
theorem JcF {l : List RowN} : ∀ m at_, at_ < l.length → at_ ≤ (levN l m at_).2 ∧ (levN l m at_).2 ≤ l.length ∧ (0 < m → at_ < (levN l m at_).2) := by
 intro m
 induction m with
 | zero => intro at_ h; exact ⟨Nat.le_refl _, by show at_ ≤ _; omega, fun h => absurd h (by omega)⟩
 | succ m ih =>
  intro at_ h
  unfold levN
  rw [List.getElem?_eq_getElem h]
  have := Jdk (g := levN l m) (l := l) (kind := l[at_].kind) (fun p hp => ⟨(ih p hp).1, (ih p hp).2.1⟩) l[at_].kids.toNat 0 0 (at_ + 1) h
  simp only
  omega
section
variable {call : J0r} {n : Nat} {h : SHeap}
theorem Jjx (k : Int) (h : SHeap) (hk : 1 ≤ k ∧ k ≤ 54) : L1 118 [iv k] h = some (iv (J1f k), h) := J1M (J0I rfl rfl rfl rfl (J1I JaJ hk))
theorem Jeh (k : Int) (h : SHeap) (hk : 1 ≤ k ∧ k ≤ 54) : L1 109 [iv k] h = some (iv (J1s k), h) := J1M (J0I rfl rfl rfl rfl (J1I Jdm hk))
set_option maxHeartbeats 8000000 in
theorem Jb3 {P K : Int} {k : Nat} {a b : Int} (ha : call 118 [iv P] h = some (iv a, h)) (hb : call 118 [iv K] h = some (iv b, h)) : J0L Tryd.prog call n 108 [iv P, iv k, iv K] h = some (.bool (J4q a b k), h) := by
 refine J1m Tryd.func108 rfl (by simp [Tryd.f108]) ?_
 have hr : Tryd.f108.results.toList = [.tmp 6] := rfl
 unfold J4q
 by_cases b0 : b = 0
 ·subst b0
  simp only [evC, seval, ↓evP, rpC, hr, ha, hb]
 have c0 : (b == 0) = false := by simpa using b0
 rw [if_neg b0]
 by_cases a15 : 1 ≤ a ∧ a ≤ 5
 ·rw [if_pos a15]
  have d1 : decide (a ≥ 1) = true := decide_eq_true a15.1
  have d2 : decide (a ≤ 5) = true := decide_eq_true a15.2
  cases d3 : decide (b < a) with
  | true => simp only [evC, seval, ↓evP, rpC, hr, ha, hb, c0, d1, d2, d3, Bool.true_or]
  | false =>
   cases d4 : (b == a) with
   | false => simp only [evC, seval, ↓evP, rpC, hr, ha, hb, c0, d1, d2, d3, d4, Bool.false_or, Bool.false_and]
   | true =>
    cases d5 : ((k : Int) == 1) with
    | true => simp only [evC, seval, ↓evP, rpC, hr, ha, hb, c0, d1, d2, d3, d4, d5, Bool.false_or, Bool.true_or]
    | false => simp only [evC, seval, ↓evP, rpC, hr, ha, hb, c0, d1, d2, d3, d4, d5, Bool.false_or]
 ·rw [if_neg a15]
  cases d1 : decide (a ≥ 1) with
  | false =>
   simp only [decide_eq_false_iff_not] at d1
   have d1' : decide (a ≥ 1) = false := decide_eq_false d1
   have c6 : (a == 6) = false := by simp; omega
   rw [if_neg (by omega)]
   simp only [evC, seval, ↓evP, rpC, hr, ha, hb, c0, d1', c6]
  | true =>
   simp only [decide_eq_true_eq] at d1
   have d1' : decide (a ≥ 1) = true := decide_eq_true d1
   have d2 : decide (a ≤ 5) = false := decide_eq_false (by omega)
   by_cases a6 : a = 6
   ·subst a6
    simp only [evC, seval, ↓evP, rpC, hr, ha, hb, c0, d1', d2]
   ·have c6 : (a == 6) = false := by simpa using a6
    rw [if_neg a6]
    simp only [evC, seval, ↓evP, rpC, hr, ha, hb, c0, d1', d2, c6]
noncomputable def JhA : Array Oper := J18 Tryd.f94 6
def fs94 : List (Bool × Bool × List Operand) := [(false, true, []), (false, true, []), (false, true, []), (false, true, []), (false, true, []), (false, true, [.tmp 30]), (false, true, [.tmp 30]), (false, true, [.tmp 30]), (false, true, [.tmp 30]), (false, true, [.tmp 30]), (false, true, [.tmp 30]), (false, false, [])]
theorem JfY : J1E JhA = fs94 := by kernel_rfl
set_option maxHeartbeats 16000000 in
theorem J9x (hsn : J1G call) {l : List RowN} {v : Value} {m at_ : Nat} (hn : l.length + 3 < n) (hlen : l.length < 1099511627776) (hm : m < 1099511627776) (hat : at_ < l.length) (hmm : l.length < at_ + 1 + m) (hv : J0l h v l) (hval : ∀ (i : Nat) x, l[i]? = some x → 1 ≤ x.kind ∧ x.kind ≤ 54)
  (h108 : ∀ P K (k : Nat) h, 1 ≤ P ∧ P ≤ 54 → 1 ≤ K ∧ K ≤ 54 → call 108 [iv P, iv k, iv K] h = some (.bool (J4q (J1f P) (J1f K) k), h)) (h109 : ∀ k h, 1 ≤ k ∧ k ≤ 54 → call 109 [iv k] h = some (iv (J1s k), h))
  (h94 : ∀ p : Nat, at_ < p → p < l.length → call 94 [v, iv p] h = some (.tuple #[iv (levN l m p).1, iv ((levN l m p).2 : Int)], h)) :
  J0L Tryd.prog call n 94 [v, iv at_] h = some (.tuple #[iv (levN l (m + 1) at_).1, iv ((levN l (m + 1) at_).2 : Int)], h) := by
 refine J1m Tryd.func94 rfl (by simp [Tryd.f94]) ?_
 have hr : Tryd.f94.results.toList = [.tmp 4, .tmp 5] := rfl
 have hl22 : ∀ h', lenS Tryd.prog h' 22 v = some (.int .i64 l.length) := fun h' => hv.len
 obtain ⟨x, hx⟩ : ∃ x, l[at_]? = some x := ⟨_, List.getElem?_eq_getElem hat⟩
 obtain ⟨id, q, e0, hid, l0, l1, l2, l3, l4, lr⟩ := hv.row hx
 have hkx := hval at_ x hx
 have w1 : IntKind.i64.wrap ((at_ : Int) + 1) = ((at_ + 1 : Nat) : Int) := J0s (by omega) (by omega)
 have hres : levN l (m + 1) at_ = ((levL (levN l m) l x.kind x.kids.toNat 0 0 (at_ + 1)).1 + J1s x.kind, (levL (levN l m) l x.kind x.kids.toNat 0 0 (at_ + 1)).2) := by rw [levN, hx]
 rw [hres]
 have hop := fun h => h109 x.kind h hkx
 have hopl := J4A x.kind
 have hRle := Jeb (g := levN l m) (l := l) (kind := x.kind) (B := 2 * (m : Int)) (JcK m) x.kids.toNat 0 0 (at_ + 1) (Int.le_refl 0) (by omega)
 simp only [evC, seval, ↓evP, rpC, hr, w1]
 generalize hg0 : levL (levN l m) l x.kind x.kids.toNat 0 0 (at_ + 1) = R at *
 refine WK.loop (fun i s => s.h = h ∧ s.T.get 0 = v ∧ s.T.get 1 = iv at_ ∧ s.T.get 6 = iv i ∧ ∃ (most : Int) (p : Nat), s.T.get 4 = iv most ∧ s.T.get 5 = iv p ∧ at_ + 1 + i ≤ p ∧ p ≤ l.length ∧ 0 ≤ most ∧ most ≤ 2 * (m : Int) + 1 ∧ i ≤ x.kids.toNat ∧ levL (levN l m) l x.kind (x.kids.toNat - i) i most p = R) (l.length + 2) (by omega) ?_ ?_
 ·simp only [evC, ↓reduceIte, Nat.reduceEqDiff, reduceCtorEq, ↓evP, rpC, Nat.reduceAdd, Nat.reduceLT]
  exact ⟨rfl, 0, at_ + 1, rfl, rfl, by omega, by omega, by omega, by omega, by rw [Nat.sub_zero]; exact hg0⟩
 ·rintro i ⟨T1, h1⟩ hi ⟨rfl, y0, y1, y6, most, p, y4, y5, hip, hp, hm0, hm1, hik, hR⟩
  simp only at y0 y1 y4 y5 y6
  have done : ∀ T' : Tr, T'.get 4 = iv most → T'.get 5 = iv p → R = (most, p) → True := fun _ _ _ _ => trivial
  by_cases hlt : i < x.kids.toNat
  ·have c1 : decide ((i : Int) < x.kids) = true := by simp only [decide_eq_true_eq]; omega
   obtain ⟨r, hr1⟩ : ∃ r, x.kids.toNat - i = r + 1 := ⟨x.kids.toNat - i - 1, by omega⟩
   rw [hr1] at hR
   by_cases hpl : p < l.length
   ·have c2 : decide ((p : Int) < (l.length : Int)) = true := by simp only [decide_eq_true_eq]; omega
    obtain ⟨y, hy⟩ : ∃ y, l[p]? = some y := ⟨_, List.getElem?_eq_getElem hpl⟩
    obtain ⟨id2, q2, f0, hid2, m0, m1, m2, m3, m4, mr⟩ := hv.row hy
    have hky := hval p y hy
    have hL := fun hh => h108 x.kind y.kind i hh hkx hky
    have h94' := h94 p (by omega) hpl
    have hle := JcK (l := l) m p
    have hnx := JcF (l := l) m p hpl
    have w5 : IntKind.i64.wrap ((i : Int) + 1) = ((i + 1 : Nat) : Int) := J0s (by omega) (by omega)
    have hloI := J6p (J1f x.kind) (J1f y.kind) i
    have w6 : IntKind.i64.wrap ((levN l m p).1 + J2i (J1f x.kind) (J1f y.kind) i) = (levN l m p).1 + J2i (J1f x.kind) (J1f y.kind) i := J0s (by omega) (by omega)
    have hstep : levL (levN l m) l x.kind (x.kids.toNat - (i + 1)) (i + 1) (if (levN l m p).1 + J2i (J1f x.kind) (J1f y.kind) i > most then (levN l m p).1 + J2i (J1f x.kind) (J1f y.kind) i else most) (levN l m p).2 = R := by
     rw [← hR, show x.kids.toNat - (i + 1) = r by omega]
     simp only [levL, hy]
    simp only [evC, seval, ↓evP, rpC, y0, y1, y4, y5, y6, e0, l0, l4, c1, hl22, c2]
    refine WK.flags (ops := JhA) JfY ?_
    refine WKF.begin ?_
    refine wst hsn 0 (some 27) (.move (.tmp 0)) none ?_
    simp only [evC, seval, ↓evP, rpC, WKFC, J04, J02, J0w, J0P, J0f, J0a, J0V, J0U, J0J, J1g, y0, y1, y4, y5, y6, e0, l0, f0, m0, hL]
    refine wst hsn 1 (some 28) (.move (.tmp 1)) none ?_
    simp only [evC, seval, ↓evP, rpC, WKFC, J04, J02, J0w, J0P, J0f, J0a, J0V, J0U, J0J, J1g, y0, y1, y4, y5, y6, e0, l0, f0, m0, hL]
    refine wst hsn 2 (some 29) (.indexAddr 22 (.tmp 27) (.tmp 28)) none ?_
    simp only [evC, seval, ↓evP, rpC, WKFC, J04, J02, J0w, J0P, J0f, J0a, J0V, J0U, J0J, J1g, y0, y1, y4, y5, y6, e0, l0, f0, m0, hL]
    refine wst hsn 3 (some 30) (.fieldAddr 46 (.tmp 29) 0) none ?_
    simp only [evC, seval, ↓evP, rpC, WKFC, J04, J02, J0w, J0P, J0f, J0a, J0V, J0U, J0J, J1g, y0, y1, y4, y5, y6, e0, l0, f0, m0, hL]
    refine wst hsn 4 (some 31) (.load 3 (.tmp 30)) none ?_
    simp only [evC, seval, ↓evP, rpC, WKFC, J04, J02, J0w, J0P, J0f, J0a, J0V, J0U, J0J, J1g, y0, y1, y4, y5, y6, e0, l0, f0, m0, hL]
    refine wst hsn 5 (some 32) (.move (.tmp 6)) none ?_
    simp only [evC, seval, ↓evP, rpC, WKFC, J04, J02, J0w, J0P, J0f, J0a, J0V, J0U, J0J, J1g, y0, y1, y4, y5, y6, e0, l0, f0, m0, hL]
    refine wst hsn 6 (some 33) (.move (.tmp 0)) none ?_
    simp only [evC, seval, ↓evP, rpC, WKFC, J04, J02, J0w, J0P, J0f, J0a, J0V, J0U, J0J, J1g, y0, y1, y4, y5, y6, e0, l0, f0, m0, hL]
    refine wst hsn 7 (some 34) (.move (.tmp 5)) none ?_
    simp only [evC, seval, ↓evP, rpC, WKFC, J04, J02, J0w, J0P, J0f, J0a, J0V, J0U, J0J, J1g, y0, y1, y4, y5, y6, e0, l0, f0, m0, hL]
    refine wst hsn 8 (some 35) (.indexAddr 22 (.tmp 33) (.tmp 34)) none ?_
    simp only [evC, seval, ↓evP, rpC, WKFC, J04, J02, J0w, J0P, J0f, J0a, J0V, J0U, J0J, J1g, y0, y1, y4, y5, y6, e0, l0, f0, m0, hL]
    refine wst hsn 9 (some 36) (.fieldAddr 46 (.tmp 35) 0) none ?_
    simp only [evC, seval, ↓evP, rpC, WKFC, J04, J02, J0w, J0P, J0f, J0a, J0V, J0U, J0J, J1g, y0, y1, y4, y5, y6, e0, l0, f0, m0, hL]
    refine wst hsn 10 (some 37) (.load 3 (.tmp 36)) none ?_
    simp only [evC, seval, ↓evP, rpC, WKFC, J04, J02, J0w, J0P, J0f, J0a, J0V, J0U, J0J, J1g, y0, y1, y4, y5, y6, e0, l0, f0, m0, hL]
    refine wst hsn 11 (some 38) (.call { callee := .value (.func 108), args := #[.tmp 31, .tmp 32, .tmp 37], argTypes := #[3, 3, 3] }) none ?_
    simp only [evC, seval, ↓evP, rpC, WKFC, J04, J02, J0w, J0P, J0f, J0a, J0V, J0U, J0J, J1g, y0, y1, y4, y5, y6, e0, l0, f0, m0, hL]
    refine WKF.done (i := 12) (by kernel_rfl) ?_
    cases hlo : J4q (J1f x.kind) (J1f y.kind) i with
    | false =>
     have hI : J2i (J1f x.kind) (J1f y.kind) i = 0 := by unfold J2i; rw [hlo]; rfl
     rw [hI] at w6 hstep
     simp only [evC, seval, ↓evP, rpC, y0, y1, y4, y5, y6, h94', w5, w6]
     exact ⟨by omega, _, _, rfl, rfl, by omega, by omega, by split <;> omega, by split <;> omega, by omega, hstep⟩
    | true =>
     have hI : J2i (J1f x.kind) (J1f y.kind) i = 1 := by unfold J2i; rw [hlo]; rfl
     rw [hI] at w6 hstep
     simp only [evC, seval, ↓evP, rpC, y0, y1, y4, y5, y6, h94', w5, w6]
     exact ⟨by omega, _, _, rfl, rfl, by omega, by omega, by split <;> omega, by split <;> omega, by omega, hstep⟩
   ·have c2 : decide ((p : Int) < (l.length : Int)) = false := by simp only [decide_eq_false_iff_not]; omega
    have hRe : R = (most, p) := by
     rw [← hR]
     simp only [levL, List.getElem?_eq_none (Nat.le_of_not_lt hpl)]
    subst hRe
    have w7 : IntKind.i64.wrap (most + J1s x.kind) = most + J1s x.kind := J0s (by omega) (by omega)
    simp only [evC, seval, ↓evP, rpC, hr, y0, y1, y4, y5, y6, e0, l0, l4, c1, hl22, c2, hop, w7]
  ·have c1 : decide ((i : Int) < x.kids) = false := by simp only [decide_eq_false_iff_not]; omega
   have hRe : R = (most, p) := by
    rw [← hR, show x.kids.toNat - i = 0 by omega]
    rfl
   subst hRe
   have w7 : IntKind.i64.wrap (most + J1s x.kind) = most + J1s x.kind := J0s (by omega) (by omega)
   simp only [evC, seval, ↓evP, rpC, hr, y0, y1, y4, y5, y6, e0, l0, l4, c1, hop, w7]
end
def JcX (l : List RowN) (i : Nat) : Prop := ∃ x, l[i]? = some x ∧ 1 ≤ x.kind ∧ x.kind ≤ 54
theorem J5C {g : Nat → Nat → Nat × Bool} {V : Nat → Prop} (hg : ∀ k p, (g k p).2 = true → ∀ i, p ≤ i → i < (g k p).1 → V i) : ∀ r k p, (J2r g r k p).2 = true → ∀ i, p ≤ i → i < (J2r g r k p).1 → V i := by
 intro r
 induction r with
 | zero => intro k p _ i h1 h2; exact absurd (show i < p from h2) (by omega)
 | succ r ih =>
  intro k p h i h1 h2
  unfold J2r at h h2
  split at h
  ·rename_i hc
   rw [if_pos hc] at h2
   rcases Nat.lt_or_ge i (g k p).1 with h3 | h3
   ·exact hg k p hc i h1 h3
   ·exact ih _ _ h i h3 h2
  ·cases h
theorem Jcm {l : List RowN} : ∀ m at_ what, (rowN J09 l m at_ what).2 = true → ∀ i, at_ ≤ i → i < (rowN J09 l m at_ what).1 → JcX l i := by
 intro m
 induction m with
 | zero => intro at_ what h; cases h
 | succ m ih =>
  intro at_ what
  unfold rowN
  cases hx : l[at_]? with
  | none => intro h; cases h
  | some x =>
   simp only
   split
   ·rename_i hc
    intro h i h1 h2
    rcases Nat.lt_or_ge at_ i with h3 | h3
    ·exact J5C (V := JcX l) (fun k p hk i h1 h2 => ih p (J0A x.kind k) hk i h1 h2) x.kids.toNat 0 (at_ + 1) h i h3 h2
    ·have : i = at_ := by omega
     subst this
     exact ⟨x, hx, J2H (Bool.and_eq_true_iff.1 hc).1⟩
   ·intro h; cases h
theorem Jce {l : List RowN} {m : Nat} : ∀ r ev p, (polN J09 l m r ev p).2 = true → ∀ i, p ≤ i → i < (polN J09 l m r ev p).1 → JcX l i := by
 intro r
 induction r with
 | zero => intro ev p _ i h1 h2; exact absurd (show i < p from h2) (by omega)
 | succ r ih =>
  intro ev p h i h1 h2
  unfold polN at h h2
  split at h
  ·rename_i hc
   rw [if_pos hc] at h2
   rcases Nat.lt_or_ge i (rowN J09 l m p (J3J ev l[p]?)).1 with h3 | h3
   ·exact Jcm m p _ hc i h1 h3
   ·exact ih _ _ h i h3 h2
  ·cases h
theorem J9T {l : List RowN} (h : J2L J09 l = none) : ∀ (i : Nat) x, l[i]? = some x → 1 ≤ x.kind ∧ x.kind ≤ 54 := by
 unfold J2L at h
 split at h
 ·rename_i hc
  obtain ⟨h1, h2⟩ := hc
  intro i x hx
  have hlt := (List.getElem?_eq_some_iff.1 hx).1
  unfold topN at h1 h2
  cases h0 : l[0]? with
  | none => rw [h0] at h1; cases h1
  | some y =>
   rw [h0] at h1 h2
   simp only at h1 h2
   split at h1
   ·rename_i hc
    rw [if_pos hc] at h2
    rcases Nat.eq_zero_or_pos i with rfl | hp
    ·rw [h0] at hx
     cases hx
     exact J2H (Bool.and_eq_true_iff.1 hc).1
    ·obtain ⟨z, hz, hv⟩ := Jce y.kids.toNat false 1 h1 i hp (by omega)
     rw [hx] at hz
     cases hz
     exact hv
   ·cases h1
 ·cases h
theorem J8Q {l : List RowN} (h : J2L J09 l = none) : 0 < l.length := by
 rcases Nat.eq_zero_or_pos l.length with h0 | h0
 ·have : l = [] := List.length_eq_zero_iff.1 h0
  subst this
  revert h
  unfold J2L topN
  simp
 ·exact h0
theorem sz33 : szOf Tryd.prog 33 = some 2 := by kernel_rfl
theorem Jj6 : J2X Tryd.prog 33 = some true := by kernel_rfl
theorem J3C : J1w Tryd.prog 33 = some (.agg #[.int .i64 0, .int .i64 0]) := by kernel_rfl
theorem J8e : J2Q Tryd.prog (match Tryd.prog.underlying 33 with | some (.struct fs) => fs.toList | _ => []) = some [(0, 1), (1, 1)] := by kernel_rfl
abbrev J2k (e a : Int) : Value := .agg #[.int .i64 e, .int .i64 a]
theorem J1t {e a : Int} : flat (J2k e a) = true := rfl
theorem J4G {e a : Int} : J1P Tryd.prog 33 [(0, .int .i64 e), (1, .int .i64 a)] = some (J2k e a) := by
 have h := J8e
 rw [Tryd.underlying33] at h
 simp only at h
 simp only [J1P, J3C, J1t, if_true, Tryd.underlying33, h]
 rfl
theorem J96 {e : Int} : J1P Tryd.prog 33 [(0, .int .i64 e)] = some (J2k e 0) := by
 have h := J8e
 rw [Tryd.underlying33] at h
 simp only at h
 simp only [J1P, J3C, J1t, if_true, Tryd.underlying33, h]
 rfl
theorem J5n : J1P Tryd.prog 33 [] = some (J2k 0 0) := by
 have h := J8e
 rw [Tryd.underlying33] at h
 simp only at h
 simp only [J1P, J3C, J1t, if_true, Tryd.underlying33, h]
 rfl
noncomputable def st33 (h : SHeap) (id : Nat) (a b : Int) : SObj → Option SHeap
 | .row [_, _] ty g false => if h.floor ≤ id then some (h.put id (.row [.int .i64 a, .int .i64 b] ty g false)) else none
 | _ => J0K Tryd.prog h 33 (.pointer (some ⟨id, 0, none⟩)) (J2k a b)
theorem J5a {h : SHeap} {id : Nat} {a b : Int} : J0K Tryd.prog h 33 (.pointer (some ⟨id, 0, none⟩)) (J2k a b) = st33 h id a b (h.get id) := by
 cases hg : h.get id with
 | dead => rfl
 | map _ => rfl
 | row cs ty g ro =>
  match cs, ro with
  | [c, d], false =>
   simp only [st33]
   split
   ·rename_i hf
    simp [J0K, sz33, J1q, hg, hf, Go.Sx.lay, Value.cells, one]
   ·rename_i hf
    simp [J0K, sz33, J1q, hg, hf, Go.Sx.lay, Value.cells, one]
  | [c, d], true => rfl
  | [], ro => rfl
  | [c], ro => rfl
  | c :: d :: e :: l, ro => rfl
theorem J4k {h : SHeap} {id : Nat} {a b : Int} {x y : Value} {ty : TypeId} {g : Bool} : st33 h id a b (.row [x, y] ty g false) = if h.floor ≤ id then some (h.put id (.row [.int .i64 a, .int .i64 b] ty g false)) else none := rfl
theorem J2n {h : SHeap} {id off : Nat} : J2x Tryd.prog h 33 (.pointer (some ⟨id, off, none⟩)) = ldN 2 off (h.get id) := J5S Jj6 sz33
theorem J4j {a b : Value} {ty : TypeId} {g ro : Bool} : ldN 2 0 (.row [a, b] ty g ro) = some (.agg #[a, b]) := rfl
theorem rowT_top {K m : Nat} {l : List RowN} {v : Value} (hK : l.length + 3 < K + 1) (hm : l.length < 1 + m) (hlen : l.length < 1099511627776) {h : SHeap} (hv : J0l h v l) (hg : h.get 0 = J14) (hn0 : 0 < h.next) (hfl : h.floor ≤ h.next) :
  rowT (K + 2) (m + 1) 73 [v, iv 0, iv 8] h = some (.tuple #[iv ((topN J09 l m).1 : Int), .bool (topN J09 l m).2], h) := by
 refine tower_new (J8X (J20 (J20 rfl rfl) rfl) rfl) rfl (J93 rfl rfl) ?_
 refine Jcw (J6f J2f (rowT_ok (K + 2) m).1 (rowT_ok (K + 2) m).2 (K + 2)).2 ?_ (by omega) hlen (fun w k h => J55 (tower_up (J6k (J9I w k h)))) (fun k h hk => J55 (tower_up (J6k (J7b k h hk)))) (fun s h' hg => J55 (tower_up (J94 hg s))) hv hg hn0 hfl
 intro x h' hx hf hk1 hv' hg' hn0' hfl'
 have e : rowT (K + 2) m 92 [v, iv 0] h' = none := tower_none (J8X (J20 (J20 rfl rfl) rfl) rfl) rfl
 rw [J4u (n := K + 1) e]
 have hk0 : 0 ≤ x.kids := by
  unfold fitN at hf
  simp only [Bool.and_eq_true, decide_eq_true_eq] at hf
  have := J4a x.kind
  omega
 refine JeN hx hk0 (by omega) hlen hv' (fun w k h => J55 (tower_up (J6k (J9I w k h)))) fun p w hp hpl hw => ?_
 exact J55 (rowT_spec (K := K + 1) (by omega) hlen m p w h' hpl (by omega) hw hv' hg' hn0' hfl')
theorem Jdr (k : Int) (h : SHeap) (hk : 1 ≤ k ∧ k ≤ 54) : L0 118 [iv k] h = some (iv (J1f k), h) := J0I rfl rfl rfl rfl (J1I JaJ hk)
theorem Jel (P Q : Int) (k : Nat) (h : SHeap) (hP : 1 ≤ P ∧ P ≤ 54) (hQ : 1 ≤ Q ∧ Q ≤ 54) : L1 108 [iv P, iv k, iv Q] h = some (.bool (J4q (J1f P) (J1f Q) k), h) :=
 J0I (J20 rfl rfl) rfl rfl rfl ⟨_, Jb3 (J55 (Jdr P _ hP)) (J55 (Jdr Q _ hQ))⟩
noncomputable def levT (K m : Nat) : J0r := tower [94] (rowT K m) K m
theorem levT_ok (K m : Nat) : J1x Tryd.prog (levT K m) ∧ J1G (levT K m) := tower_ok (rowT_ok K m) m
theorem lev_spec {K M : Nat} {l : List RowN} {v : Value} (hK : l.length + 3 < K + 1) (hlen : l.length < 1099511627776) (hval : ∀ (i : Nat) x, l[i]? = some x → 1 ≤ x.kind ∧ x.kind ≤ 54) {h : SHeap} (hv : J0l h v l) : ∀ m (at_ : Nat), m < 1099511627776 → at_ < l.length → l.length < at_ + m →
  tower [94] (rowT (K + 2) M) (K + 2) m 94 [v, iv at_] h = some (.tuple #[iv (levN l m at_).1, iv ((levN l m at_).2 : Int)], h) := by
 intro m
 induction m with
 | zero => intro at_ _ hat hm; omega
 | succ m ih =>
  intro at_ hmm hat hm
  refine tower_new (tower_none (J8X (J20 (J20 rfl rfl) rfl) rfl) rfl) rfl (J93 rfl rfl) ⟨h, ?_, fun _ _ => rfl⟩
  have up : ∀ {f : FuncId} {args : List Value} {h : SHeap} {r : Value × SHeap}, L1 f args h = some r → J3U Tryd.prog (tower [94] (rowT (K + 2) M) (K + 2) m) (K + 2) f args h = some r := fun e => J55 (tower_up (tower_up (J6k e)))
  refine J9x (J6f J2f (tower_ok (rowT_ok (K + 2) M) m).1 (tower_ok (rowT_ok (K + 2) M) m).2 (K + 2)).2 (by omega) hlen (by omega) hat (by omega) hv hval (fun P Q k h hP hQ => up (Jel P Q k h hP hQ)) (fun k h hk => up (Jeh k h hk)) fun p hp hpl => ?_
  exact J55 (ih p (by omega) hpl (by omega))
theorem JgP {l : List RowN} {m : Nat} : (topN J09 l m).1 ≤ l.length := by
 unfold topN
 split
 ·exact Nat.zero_le _
 ·rename_i x hx
  have := (List.getElem?_eq_some_iff.1 hx).1
  split
  ·exact Jas _ _ _ this
  ·exact Nat.zero_le _
def J0v (l : List RowN) : Int × Int := match J2L J09 l with
 | some p => (23, (p : Int))
 | none => if (levN l (l.length + 1) 0).1 > 64 then (22, 0) else (0, 0)
section
variable {call : J0r} {n : Nat}
theorem J9R {l : List RowN} {v : Value} {h : SHeap} {m : Nat} (hv : J0l h v l) (hpos : 0 < l.length) (h94 : call 94 [v, iv 0] h = some (.tuple #[iv (levN l m 0).1, iv ((levN l m 0).2 : Int)], h)) :
  J0L Tryd.prog call n 74 [v] h = some (iv (levN l m 0).1, h) := by
 refine J1m Tryd.func74 rfl (by simp [Tryd.f74]) ?_
 have hr : Tryd.f74.results.toList = [.tmp 2] := rfl
 have hl22 : ∀ h', lenS Tryd.prog h' 22 v = some (.int .i64 l.length) := fun h' => hv.len
 have c0 : ((l.length : Int) == 0) = false := by rw [beq_eq_false_iff_ne]; omega
 simp only [evC, seval, ↓evP, rpC, hr, hl22, c0, h94]
set_option maxHeartbeats 8000000 in
theorem Jb8 {l : List RowN} {v : Value} {h : SHeap} (hv : J0l h v l) (hg : h.get 0 = J14) (hn0 : 0 < h.next) (hfl : h.floor ≤ h.next)
  (h73 : ∀ h', J0l h' v l → h'.get 0 = J14 → 0 < h'.next → h'.floor ≤ h'.next → call 73 [v, iv 0, iv 8] h' = some (.tuple #[iv ((topN J09 l (l.length + 1)).1 : Int), .bool (topN J09 l (l.length + 1)).2], h'))
  (h74 : J2L J09 l = none → ∀ h', J0l h' v l → call 74 [v] h' = some (iv (levN l (l.length + 1) 0).1, h')) :
  ∃ h1, J0L Tryd.prog call n 30 [v] h = some (J2k (J0v l).1 (J0v l).2, h1) ∧ ∀ i, i < h.next → h1.get i = h.get i := by
 refine J1N (R := fun h1 => ∀ i, i < h.next → h1.get i = h.get i) Tryd.func30 rfl (by simp [Tryd.f30]) ?_
 have hr : Tryd.f30.results.toList = [.cell 2 33] := rfl
 have hl22 : ∀ h', lenS Tryd.prog h' 22 v = some (.int .i64 l.length) := fun h' => hv.len
 have hold : ∀ o : SObj, ∀ i, i < h.next → (h.push o).get i = h.get i := fun o i hi => J06 hi
 have hvp := hv.mono (h' := h.push (.row [.int .i64 0, .int .i64 0] 33 false false)) (by show h.next ≤ h.next + 1; omega) (hold _)
 have h73' := h73 _ hvp (by rw [hold _ 0 hn0]; exact hg) (by show 0 < h.next + 1; omega) (by show h.floor ≤ h.next + 1; omega)
 have hflT : (h.floor ≤ h.next) = True := by simpa using hfl
 have hltT : (h.next < h.next + 1) = True := by simp
 have hvq := fun o => (hvp.mono (h' := (h.push (.row [.int .i64 0, .int .i64 0] 33 false false)).put h.next o) (by show h.next + 1 ≤ h.next + 1; omega))
 have hle := JgP (l := l) (m := l.length + 1)
 unfold J0v
 cases hs : J2L J09 l with
 | some p =>
  unfold J2L at hs
  split at hs
  ·cases hs
  ·rename_i hc
   generalize topN J09 l (l.length + 1) = q at *
   cases hs
   cases q2 : q.2 with
   | false =>
    rw [q2] at h73'
    simp only [evC, seval, ↓evP, rpC, hr, J51, J3C, J1t, h73', J4G, J5a, J4k, J2n, J4j, hflT, hltT]
    intro i hi
    rw [if_neg (by omega), if_neg (by omega)]
   | true =>
    rw [q2] at h73' hc
    have c1 : decide ((q.1 : Int) < (l.length : Int)) = true := by
     simp only [decide_eq_true_eq]
     have : q.1 ≠ l.length := fun h => hc ⟨rfl, h⟩
     omega
    simp only [evC, seval, ↓evP, rpC, hr, hl22, c1, J51, J3C, J1t, h73', J4G, J5a, J4k, J2n, J4j, hflT, hltT]
    intro i hi
    rw [if_neg (by omega), if_neg (by omega)]
 | none =>
  have h74' := h74 hs _ hvp
  unfold J2L at hs
  split at hs
  ·rename_i hc
   generalize topN J09 l (l.length + 1) = q at *
   obtain ⟨q2, q1⟩ := hc
   rw [q2] at h73'
   have c1 : decide ((q.1 : Int) < (l.length : Int)) = false := by simp only [decide_eq_false_iff_not]; omega
   cases c2 : decide ((levN l (l.length + 1) 0).1 > 64) with
   | true =>
    rw [if_pos (by simpa using c2)]
    simp only [evC, seval, ↓evP, rpC, hr, hl22, c1, c2, J51, J3C, J1t, h73', h74', J96, J5a, J4k, J2n, J4j, hflT, hltT]
    intro i hi
    rw [if_neg (by omega), if_neg (by omega)]
   | false =>
    rw [if_neg (by simpa using c2)]
    simp only [evC, seval, ↓evP, rpC, hr, hl22, c1, c2, J51, J3C, J1t, h73', h74', J5n, J5a, J4k, J2n, J4j, hflT, hltT]
    intro i hi
    rw [if_neg (by omega), if_neg (by omega)]
  ·cases hs
end
noncomputable def chkS (K M : Nat) : J0r := layK [30] (layK [74] (tower [94] (rowT (K + 2) (M + 1)) (K + 2) M) (K + 2)) (K + 2)
theorem chkS_ok (K M : Nat) : J1x Tryd.prog (chkS K M) ∧ J1G (chkS K M) := Jh4 (Jh4 (tower_ok (rowT_ok (K + 2) (M + 1)) M))
theorem chk_spec {K : Nat} {l : List RowN} {v : Value} (hK : l.length + 3 < K + 1) (hlen : l.length < 1099511627) {h : SHeap} (hv : J0l h v l) (hg : h.get 0 = J14) (hn0 : 0 < h.next) (hfl : h.floor ≤ h.next) :
  chkS K (l.length + 1) 30 [v] h = some (J2k (J0v l).1 (J0v l).2, h) := by
 have n0 : ∀ f args h, f ∈ [30, 74] → tower [94] (rowT (K + 2) (l.length + 1 + 1)) (K + 2) (l.length + 1) f args h = none := by
  intro f args h hf
  simp only [List.mem_cons, List.not_mem_nil, or_false] at hf
  rcases hf with rfl | rfl
  ·exact tower_none (tower_none (J8X (J20 (J20 rfl rfl) rfl) rfl) rfl) rfl
  ·exact tower_none (tower_none (J8X (J20 (J20 rfl rfl) rfl) rfl) rfl) rfl
 refine Jap (J8X (n0 _ _ _ (by simp)) rfl) rfl rfl ?_
 refine Jb8 hv hg hn0 hfl (fun h' hv' hg' hn' hfl' => ?_) fun hs h' hv' => ?_
 ·exact J55 (J6k (tower_up (rowT_top (m := l.length + 1) (by omega) (by omega) (by omega) hv' hg' hn' hfl')))
 ·refine J55 (Jap (n0 _ _ _ (by simp)) rfl rfl ⟨h', ?_, fun _ _ => rfl⟩)
  exact J9R (m := l.length + 1) hv' (J8Q hs) (J55 (lev_spec (by omega) (by omega) (J9T hs) hv' (l.length + 1) 0 (by omega) (J8Q hs) (by omega)))
def SubT (l : List RowN) (at_ q : Nat) : Prop := (∃ m what, rowN J09 l m at_ what = (q, true)) ∨ (at_ = 0 ∧ ∃ m, topN J09 l m = (q, true))
def J35 (l : List RowN) : Nat → Nat → Nat → Prop
 | 0, p, q => p = q
 | r + 1, p, q => ∃ p', SubT l p p' ∧ p < p' ∧ p' ≤ l.length ∧ J35 l r p' q
theorem JbR {l : List RowN} {m : Nat} {κ : Int} : ∀ r k p q, J2r (fun k next => rowN J09 l m next (J0A κ k)) r k p = (q, true) → J35 l r p q := by
 intro r
 induction r with
 | zero => intro k p q h; exact congrArg (·.1) h
 | succ r ih =>
  intro k p q h
  unfold J2r at h
  split at h
  ·rename_i hc
   have hle := J5D (isName := J09) (l := l) m p (J0A κ k) hc
   refine ⟨(rowN J09 l m p (J0A κ k)).1, .inl ⟨m, J0A κ k, Prod.ext rfl hc⟩, hle.1, hle.2, ih _ _ _ h⟩
  ·cases h
theorem JcP {l : List RowN} {m : Nat} : ∀ r ev p q, polN J09 l m r ev p = (q, true) → J35 l r p q := by
 intro r
 induction r with
 | zero => intro ev p q h; exact congrArg (·.1) h
 | succ r ih =>
  intro ev p q h
  unfold polN at h
  split at h
  ·rename_i hc
   have hle := J5D (isName := J09) (l := l) m p (J3J ev l[p]?) hc
   exact ⟨(rowN J09 l m p (J3J ev l[p]?)).1, .inl ⟨m, _, Prod.ext rfl hc⟩, hle.1, hle.2, ih _ _ _ h⟩
  ·cases h
theorem J2o {l : List RowN} : ∀ r p q, J35 l r p q → p + r ≤ q := by
 intro r
 induction r with
 | zero => intro p q h; have : p = q := h; omega
 | succ r ih => intro p q ⟨p', _, h1, _, h2⟩; have := ih _ _ h2; omega
theorem Jcj {l : List RowN} : ∀ r p q, p ≤ l.length → J35 l r p q → q ≤ l.length := by
 intro r
 induction r with
 | zero => intro p q hp h; have : p = q := h; omega
 | succ r ih => intro p q hp ⟨p', _, h1, h3, h2⟩; exact ih _ _ h3 h2
theorem SubT.kids {l : List RowN} {at_ q : Nat} (h : SubT l at_ q) : ∃ x, l[at_]? = some x ∧ 0 ≤ x.kids ∧ (1 ≤ x.kind ∧ x.kind ≤ 54) ∧ J35 l x.kids.toNat (at_ + 1) q := by
 have kids0 : ∀ x, fitN J09 x = true → 0 ≤ x.kids := fun x hf => by
  unfold fitN at hf
  simp only [Bool.and_eq_true, decide_eq_true_eq] at hf
  have := J4a x.kind
  omega
 rcases h with ⟨m, what, h⟩ | ⟨rfl, m, h⟩
 ·cases m with
  | zero => cases h
  | succ m =>
   cases hx : l[at_]? with
   | none => rw [J6M hx] at h; cases h
   | some x =>
    rw [J5l hx] at h
    split at h
    ·rename_i hc
     simp only [Bool.and_eq_true] at hc
     exact ⟨x, rfl, kids0 x hc.2, J2H hc.1, JbR _ _ _ _ h⟩
    ·cases h
 ·cases hx : l[0]? with
  | none => rw [J6T hx] at h; cases h
  | some x =>
   rw [J5q hx] at h
   split at h
   ·rename_i hc
    simp only [Bool.and_eq_true] at hc
    exact ⟨x, rfl, kids0 x hc.2, J2H hc.1, JcP _ _ _ _ h⟩
   ·cases h
theorem SubT.lt {l : List RowN} {at_ q : Nat} (h : SubT l at_ q) : at_ < q ∧ q ≤ l.length := by
 obtain ⟨x, hx, _, _, hc⟩ := h.kids
 have hlt := (List.getElem?_eq_some_iff.1 hx).1
 have := J2o _ _ _ hc
 exact ⟨by omega, Jcj _ _ _ hlt hc⟩
theorem SubT.unique {l : List RowN} : ∀ (n at_ : Nat) {q q' : Nat}, l.length ≤ at_ + n → SubT l at_ q → SubT l at_ q' → q = q' := by
 intro n
 induction n with
 | zero => intro at_ q q' hn h h'; have := h.lt; omega
 | succ n ih =>
  intro at_ q q' hn h h'
  obtain ⟨x, hx, _, _, hc⟩ := h.kids
  obtain ⟨y, hy, _, _, hc'⟩ := h'.kids
  rw [hx] at hy
  cases hy
  have key : ∀ r p a b, at_ < p → J35 l r p a → J35 l r p b → a = b := by
   intro r
   induction r with
   | zero => intro p a b _ h1 h2; exact (show p = a from h1).symm.trans (show p = b from h2)
   | succ r ihr =>
    intro p a b hp ⟨p1, s1, _, _, c1⟩ ⟨p2, s2, _, _, c2⟩
    have : p1 = p2 := ih p (by omega) s1 s2
    subst this
    have := s1.lt
    exact ihr p1 a b (by omega) c1 c2
  exact key _ _ _ _ (by omega) hc hc'
theorem SubT.cover {l : List RowN} : ∀ (n : Nat) {at_ q : Nat}, q ≤ at_ + n → SubT l at_ q → ∀ i, at_ ≤ i → i < q → ∃ qi, SubT l i qi ∧ qi ≤ q := by
 intro n
 induction n with
 | zero => intro at_ q hn h; have := h.lt; omega
 | succ n ih =>
  intro at_ q hn h i h1 h2
  rcases Nat.eq_or_lt_of_le h1 with rfl | h3
  ·exact ⟨q, h, Nat.le_refl q⟩
  ·obtain ⟨x, hx, _, _, hc⟩ := h.kids
   have key : ∀ r p, at_ < p → p ≤ i → J35 l r p q → ∃ qi, SubT l i qi ∧ qi ≤ q := by
    intro r
    induction r with
    | zero => intro p _ hp hc; have : p = q := hc; omega
    | succ r ihr =>
     intro p hp0 hp ⟨p', s, hlt, _, c⟩
     have hpq := J2o _ _ _ c
     rcases Nat.lt_or_ge i p' with h4 | h4
     ·obtain ⟨qi, s1, s2⟩ := ih (by omega) s i hp h4
      exact ⟨qi, s1, by omega⟩
     ·exact ihr p' (by omega) h4 c
   exact key _ _ (by omega) h3 hc
def J2c (l : List RowN) : Prop := SubT l 0 l.length
theorem J8d {l : List RowN} (h : J2L J09 l = none) : J2c l := by
 unfold J2L at h
 split at h
 ·rename_i hc
  exact .inr ⟨rfl, l.length + 1, Prod.ext hc.2 hc.1⟩
 ·cases h
theorem J2c.pos {l : List RowN} (h : J2c l) : 0 < l.length := h.lt.1
theorem J2c.sub {l : List RowN} (h : J2c l) {i : Nat} (hi : i < l.length) : ∃ q, SubT l i q := by
 obtain ⟨q, hq, _⟩ := SubT.cover l.length (by omega) h i (Nat.zero_le i) hi
 exact ⟨q, hq⟩
open Classical in
noncomputable def endN (l : List RowN) (i : Nat) : Nat := if h : ∃ q, SubT l i q then h.choose else 0
theorem J5P {l : List RowN} {i q : Nat} (h : SubT l i q) : endN l i = q := by
 unfold endN
 have hx : ∃ q, SubT l i q := ⟨q, h⟩
 rw [dif_pos hx]
 exact SubT.unique l.length i (by omega) hx.choose_spec h
theorem J2c.end {l : List RowN} (h : J2c l) {i : Nat} (hi : i < l.length) : SubT l i (endN l i) := by
 obtain ⟨q, hq⟩ := h.sub hi
 rw [J5P hq]
 exact hq
noncomputable def J0o (l : List RowN) : List Int := (List.range l.length).map fun i => (endN l i : Int)
theorem J2B {l : List RowN} {i : Nat} (hi : i < l.length) : (J0o l)[i]? = some (endN l i : Int) := by simp [J0o, hi]
theorem J39 {l : List RowN} : (J0o l).length = l.length := by simp [J0o]
end Go.Proofs.YtipekdhneagdbaaDoor
