/- Part 23 of what the claim leans on: 1 texts laid one behind another. -/
import Derived.Test.YtipekdhneagdbaaDoorC22
namespace Go.Proofs.YtipekdhneagdbaaDoor
open Go Go.Sx
set_option maxRecDepth 100000
set_option linter.unusedSimpArgs false
set_option linter.unusedVariables false
section
variable {call : J0r} {n N : Nat} {h : SHeap}
set_option maxHeartbeats 4000000 in
theorem lendInts_walk {l : List Int} {v : Value} {lo : Nat} (hv : J1S lo h v l) (hl : l.length < 900000000) (hfl : h.floor ≤ h.next) :
  ∃ h', J0L Tryd.prog call N 65 [v] h = some (.slice (some ⟨h.next, 0, none⟩) l.length (l.length + 3), h') ∧ (LentC h' h.next l.length 1 (ints l) [iv (-77)] [iv 0] 3 ∧ h'.next = h.next + 2 ∧ h'.floor = h.floor ∧ ∀ i, i < h.next → h'.get i = h.get i) := by
 refine J1N (R := fun h' => LentC h' h.next l.length 1 (ints l) [iv (-77)] [iv 0] 3 ∧ h'.next = h.next + 2 ∧ h'.floor = h.floor ∧ ∀ i, i < h.next → h'.get i = h.get i) Tryd.func65 rfl (by simp [Tryd.f65]) ?_
 have hr : Tryd.f65.results.toList = [.tmp 2] := rfl
 have hlen := JfF hv
 have w3 : IntKind.i64.wrap ((l.length : Int) + 3) = ((l.length + 3 : Nat) : Int) := J0s (by omega) (by omega)
 have hmk := make_in (h := h) (n := l.length + 3) Tryd.underlying28 sz3 by3 J8P rfl rfl (by decide) (by decide) (by omega)
 obtain ⟨h1, h3, a1, a2, a3, a4, a5, a6, a7, a8, a9⟩ := lend_c (mk := [iv (-77)]) Tryd.underlying28 sz3 by3 J8P rfl (by decide) hv (J5u l) rfl rfl (by omega) hfl
 have hsl := fun (H : SHeap) => slice_in0 (h := H) (id := h.next) (n := l.length + 1) (m := l.length) (c := l.length + 3) Tryd.underlying28 sz3 (by omega) (by unfold unk; omega)
 simp only [evC, seval, ↓evP, hr, hlen, w3, hmk, a1, bs28, a5, hsl]
 exact ⟨a6, a7, a8, a9⟩
theorem k_lendInts {l : List Int} {v : Value} {lo : Nat} (hv : J1S lo h v l) (hl : l.length < 900000000) (hfl : h.floor ≤ h.next) (hn : 0 < n) :
  ∃ h', J0T n 65 [v] h = some (.slice (some ⟨h.next, 0, none⟩) l.length (l.length + 3), h') ∧ (LentC h' h.next l.length 1 (ints l) [iv (-77)] [iv 0] 3 ∧ h'.next = h.next + 2 ∧ h'.floor = h.floor ∧ ∀ i, i < h.next → h'.get i = h.get i) := by
 obtain ⟨n, rfl⟩ : ∃ j, n = j + 1 := ⟨n - 1, by omega⟩
 exact Jc0 (J13 ⟨rfl, rfl, rfl⟩) rfl (lendInts_walk hv hl hfl)
end
theorem build30_l {nm : ByteArray} {m : Int} {id k c : Nat} : J1P Tryd.prog 30 [(0, .string nm), (7, iv m), (1, .slice (some ⟨id, 0, none⟩) k c)] = some (.agg #[.string nm, .slice (some ⟨id, 0, none⟩) k c, .slice none 0 0, .slice none 0 0, .slice none 0 0, .slice none 0 0, .slice none 0 0, iv m]) := by
 have h := J82
 rw [Tryd.underlying30] at h
 simp only at h
 simp only [J1P, J5F, J3Y, if_true, Tryd.underlying30, h]
 rfl
theorem build57_l {nm : ByteArray} : J1P Tryd.prog 57 [(0, .string nm)] = some (.agg #[.string nm, .bool false]) := by
 have h := Jgp
 rw [Tryd.underlying57] at h
 simp only at h
 simp only [J1P, J9V, Ji6, Jig, Jh8, Bool.and_self, if_true, Tryd.underlying57, h]
 rfl
noncomputable def ops21_1 : Array Oper := J18 Tryd.f21 1
def fs21_1 : List (Bool × Bool × List Operand) := [(true, true, []), (true, true, []), (true, true, [.tmp 4]), (true, true, [.tmp 4]), (false, true, [.tmp 4, .tmp 6]), (false, true, [.tmp 4, .tmp 6]), (false, true, [.tmp 4, .tmp 6]), (false, false, []), (true, true, [.tmp 4, .tmp 6, .tmp 8]), (false, false, [])]
theorem flags21_1 : J1E ops21_1 = fs21_1 := by kernel_rfl
noncomputable def ops21_2 : Array Oper := J18 Tryd.f21 2
def fs21_2 : List (Bool × Bool × List Operand) := [(false, true, []), (false, true, []), (false, true, []), (false, true, []), (false, true, []), (true, true, [.tmp 12]), (true, true, [.tmp 12]), (false, true, []), (true, true, [.tmp 12, .tmp 17]), (true, true, [.tmp 12, .tmp 17]), (false, true, []), (true, true, [.tmp 12, .tmp 17]), (true, true, [.tmp 12, .tmp 17]), (true, true, [.tmp 12, .tmp 17]), (false, false, []), (false, false, []), (false, false, [])]
theorem flags21_2 : J1E ops21_2 = fs21_2 := by kernel_rfl
noncomputable def ops21_3 : Array Oper := J18 Tryd.f21 3
def fs21_3 : List (Bool × Bool × List Operand) := [(false, true, []), (false, true, []), (false, true, []), (false, true, []), (false, true, []), (true, true, [.tmp 28]), (true, true, [.tmp 28]), (false, true, []), (true, true, [.tmp 28, .tmp 33]), (false, true, []), (true, true, [.tmp 28, .tmp 33]), (true, true, [.tmp 28, .tmp 33]), (true, true, [.tmp 28, .tmp 33]), (false, false, []), (false, false, []), (false, false, [])]
theorem flags21_3 : J1E ops21_3 = fs21_3 := by kernel_rfl
noncomputable def ops21_4 : Array Oper := J18 Tryd.f21 4
def fs21_4 : List (Bool × Bool × List Operand) := [(false, true, []), (false, true, []), (false, true, []), (false, true, []), (false, true, []), (true, true, [.tmp 43]), (true, true, [.tmp 43]), (false, true, []), (true, true, [.tmp 43, .tmp 48]), (false, true, []), (true, true, [.tmp 43, .tmp 48]), (true, true, [.tmp 43, .tmp 48]), (true, true, [.tmp 43, .tmp 48]), (false, false, []), (false, false, []), (false, false, [])]
theorem flags21_4 : J1E ops21_4 = fs21_4 := by kernel_rfl
structure LentPol (h : SHeap) (b : Nat) (v : Value) (nm : ByteArray) (s : StN) (o : Nat → Nat) : Prop where
 v : v = .agg #[.string nm, .slice (some ⟨o 1, 0, none⟩) s.rows.length (s.rows.length + 9), .slice (some ⟨o 2, 0, none⟩) s.queues.length (s.queues.length + 3), .slice (some ⟨o 3, 0, none⟩) s.vars.length (s.vars.length + 3), .slice (some ⟨o 4, 0, none⟩) s.tags.length (s.tags.length + 3), .slice (some ⟨o 5, 0, none⟩) s.rules.length (s.rules.length + 3), .slice (some ⟨o 6, 0, none⟩) s.on.length (s.on.length + 3), iv s.miss]
 far : b ≤ o 1 ∧ o 1 < o 2 ∧ o 2 < o 3 ∧ o 3 < o 4 ∧ o 4 < o 5 ∧ o 5 < o 6 ∧ o 6 < h.next
 r : ∃ L, LentAt h (o 1) s.rows L
 q : LentC h (o 2) s.queues.length 2 (J3S s.queues) [.string JcY, .bool false] [.string ByteArray.empty, .bool false] 57
 w : LentC h (o 3) s.vars.length 1 (strs s.vars) [.string JcY] [.string ByteArray.empty] 9
 t : LentC h (o 4) s.tags.length 1 (strs s.tags) [.string JcY] [.string ByteArray.empty] 9
 u : LentC h (o 5) s.rules.length 1 (ints s.rules) [iv (-77)] [iv 0] 3
 p : LentC h (o 6) s.on.length 1 (ints s.on) [iv (-77)] [iv 0] 3
section
variable {n N : Nat} {h : SHeap}
set_option maxHeartbeats 16000000 in
theorem lend7_walk {nm : ByteArray} {s : StN} {pv : Value} {lo : Nat} (hp : J3x lo h pv nm s) (hs : JdC s) (hl : s.rows.length < 900000000) (hl2 : s.rules.length < 900000000 ∧ s.on.length < 900000000) (hfl : h.floor ≤ h.next) (hn : 20 < n) :
  ∃ v' h', J0L Tryd.prog (J0T n) N 21 [pv] h = some (v', h') ∧ (∃ o, LentPol h' h.next v' nm s o) ∧ h.next ≤ h'.next ∧ h'.floor = h.floor ∧ ∀ i, i < h.next → h'.get i = h.get i := by
 obtain ⟨vr, vq, vv, vt, vu, vo, rfl, p1, p2, p3, p4, p5, p6⟩ := hp
 obtain ⟨aq, cq, rfl, _⟩ := id p2.2
 obtain ⟨av, cv, rfl, _⟩ := id p3.2
 obtain ⟨at_, ct, rfl, _⟩ := id p4.2
 have hsn := (J1z n).2
 refine J65 (R := fun v' h' => (∃ o, LentPol h' h.next v' nm s o) ∧ h.next ≤ h'.next ∧ h'.floor = h.floor ∧ ∀ i, i < h.next → h'.get i = h.get i) Tryd.func21 rfl (by simp [Tryd.f21]) ?_
 have hr : Tryd.f21.results.toList = [.cell 2 30] := rfl
 obtain ⟨q1, q2, q3, q4, q5, q6⟩ := hs
 have ca : (Value.agg #[.string nm, vr, .slice aq s.queues.length cq, .slice av s.vars.length cv, .slice at_ s.tags.length ct, vu, vo, iv s.miss]).cells.toList = [.string nm, vr, .slice aq s.queues.length cq, .slice av s.vars.length cv, .slice at_ s.tags.length ct, vu, vo, iv s.miss] := rfl
 have zc30 : zPol.cells.toList = [.string ByteArray.empty, .slice none 0 0, .slice none 0 0, .slice none 0 0, .slice none 0 0, .slice none 0 0, .slice none 0 0, iv 0] := rfl
 have oa := all8 (nm := nm) p1 p2 p3 p4 p5 p6
 obtain ⟨x0, x1, x2, x3, x4, x5, x6, x7⟩ := Jhw (a := .string nm) (b := vr) (c := .slice aq s.queues.length cq) (d := .slice av s.vars.length cv) (e := .slice at_ s.tags.length ct) (f := vu) (g := vo) (i := iv s.miss) (ty := 30) (x := false) (y := false)
 have len2 := JfC p2
 have len3 := JfT p3
 have len4 := JfT p4
 simp only [evC, seval, ↓evP, rpD, J0X, J2t, ca, oa, sz30, J5F, J3Y, zc30]
 have gA : ((h.push (.row [.string nm, vr, .slice aq s.queues.length cq, .slice av s.vars.length cv, .slice at_ s.tags.length ct, vu, vo, iv s.miss] 30 false false)).push (.row [.string ByteArray.empty, .slice none 0 0, .slice none 0 0, .slice none 0 0, .slice none 0 0, .slice none 0 0, .slice none 0 0, iv 0] 30 false false)).get h.next = .row [.string nm, vr, .slice aq s.queues.length cq, .slice av s.vars.length cv, .slice at_ s.tags.length ct, vu, vo, iv s.miss] 30 false false := J4c
 have gZ : ((h.push (.row [.string nm, vr, .slice aq s.queues.length cq, .slice av s.vars.length cv, .slice at_ s.tags.length ct, vu, vo, iv s.miss] 30 false false)).push (.row [.string ByteArray.empty, .slice none 0 0, .slice none 0 0, .slice none 0 0, .slice none 0 0, .slice none 0 0, .slice none 0 0, iv 0] 30 false false)).get (h.next + 1) = .row [.string ByteArray.empty, .slice none 0 0, .slice none 0 0, .slice none 0 0, .slice none 0 0, .slice none 0 0, .slice none 0 0, iv 0] 30 false false := J48
 have gO : ∀ i, i < h.next → ((h.push (.row [.string nm, vr, .slice aq s.queues.length cq, .slice av s.vars.length cv, .slice at_ s.tags.length ct, vu, vo, iv s.miss] 30 false false)).push (.row [.string ByteArray.empty, .slice none 0 0, .slice none 0 0, .slice none 0 0, .slice none 0 0, .slice none 0 0, .slice none 0 0, iv 0] 30 false false)).get i = h.get i := fun i hi => by rw [J06 (by show i < h.next + 1; omega), J06 hi]
 have n0 : ((h.push (.row [.string nm, vr, .slice aq s.queues.length cq, .slice av s.vars.length cv, .slice at_ s.tags.length ct, vu, vo, iv s.miss] 30 false false)).push (.row [.string ByteArray.empty, .slice none 0 0, .slice none 0 0, .slice none 0 0, .slice none 0 0, .slice none 0 0, .slice none 0 0, iv 0] 30 false false)).next = h.next + 2 := rfl
 have f0 : ((h.push (.row [.string nm, vr, .slice aq s.queues.length cq, .slice av s.vars.length cv, .slice at_ s.tags.length ct, vu, vo, iv s.miss] 30 false false)).push (.row [.string ByteArray.empty, .slice none 0 0, .slice none 0 0, .slice none 0 0, .slice none 0 0, .slice none 0 0, .slice none 0 0, iv 0] 30 false false)).floor = h.floor := rfl
 generalize (h.push (.row [.string nm, vr, .slice aq s.queues.length cq, .slice av s.vars.length cv, .slice at_ s.tags.length ct, vu, vo, iv s.miss] 30 false false)).push (.row [.string ByteArray.empty, .slice none 0 0, .slice none 0 0, .slice none 0 0, .slice none 0 0, .slice none 0 0, .slice none 0 0, iv 0] 30 false false) = H0 at *
 have hA0 : (h.next < H0.next) = True := by rw [n0]; simp
 have P1 : J0l (H0.fl (max H0.floor H0.next)) vr s.rows := p1.1.mono (by rw [J0J]; omega) gO
 obtain ⟨h1, hlend, ⟨L, hL⟩, n1, f1, o1⟩ := Jic (n := n) P1 hl (by rw [J0J, JiM]; omega) hn
 rw [J0J] at hlend hL n1 o1
 rw [JiM] at f1
 have hst : J0K Tryd.prog ((h1.fl H0.floor).push (.row [.string ByteArray.empty, .slice none 0 0, .slice none 0 0, .slice none 0 0, .slice none 0 0, .slice none 0 0, .slice none 0 0, iv 0] 30 false false)) 30 (.pointer (some ⟨(h1.fl H0.floor).next, 0, none⟩)) _ = _ :=
  stW sz30 (vs := [.string nm, .slice (some ⟨H0.next, 0, none⟩) s.rows.length (s.rows.length + 9), .slice none 0 0, .slice none 0 0, .slice none 0 0, .slice none 0 0, .slice none 0 0, iv s.miss]) (J0h (h := h1.fl H0.floor)) rfl rfl rfl (by rw [J0i, JiM, J0J]; omega)
 refine WK.flags (ops := ops21_1) flags21_1 ?_
 refine WKF.begin ?_
 have FF := And.intro @J5g (And.intro @J38 (And.intro @J0y (And.intro @J0d (And.intro @J0m (And.intro @J0F (And.intro @gA (And.intro @x0 (And.intro @x1 (And.intro @x7 (And.intro @hA0 (And.intro @hlend (And.intro @build30_l (And.intro @J5F (And.intro @J3Y (And.intro @zc30 @hst)))))))))))))))
 refine wst hsn 0 (some 4) (.fieldAddr 30 (.tmp 1) 0) none ?_
 simp only [rgC, seval, J04, J02, WKFC, Nat.zero_add, FF]
 refine wst hsn 1 (some 5) (.load 9 (.tmp 4)) none ?_
 simp only [rgC, seval, J04, J02, WKFC, rgL, FF]
 refine wst hsn 2 (some 6) (.fieldAddr 30 (.tmp 1) 7) none ?_
 simp only [rgC, seval, J04, J02, WKFC, Nat.zero_add, FF]
 refine wst hsn 3 (some 7) (.load 3 (.tmp 6)) none ?_
 simp only [rgC, seval, J04, J02, WKFC, rgL, FF]
 refine wst hsn 4 (some 8) (.fieldAddr 30 (.tmp 1) 1) none ?_
 simp only [rgC, seval, J04, J02, WKFC, Nat.zero_add, FF]
 refine wst hsn 5 (some 9) (.load 22 (.tmp 8)) none ?_
 simp only [rgC, seval, J04, J02, WKFC, rgL, FF]
 refine wst hsn 6 (some 10) (.call { callee := .value (.func 15), args := #[.tmp 9], argTypes := #[22] }) none ?_
 simp only [rgC, seval, J04, J02, WKFC, rgK, FF]
 refine wst hsn 7 (some 11) (.build 30 #[(0, .tmp 5), (7, .tmp 7), (1, .tmp 10)]) none ?_
 simp only [rgC, seval, J04, J02, WKFC, List.map_cons, List.map_nil, FF]
 refine wst hsn 8 (some 3) (.alloc 30) none ?_
 simp only [rgC, seval, J04, J02, WKFC, rgA, FF]
 refine wst hsn 9 (none) (.store 30 (.tmp 3) (.tmp 11)) none ?_
 simp only [rgC, seval, J04, J02, WKFC, J17, rgS, FF]
 refine WKF.done (i := 10) (by kernel_rfl) ?_
 clear FF
 have gG : ∀ i, (h1.fl H0.floor).get i = h1.get i := fun _ => rfl
 have nG : (h1.fl H0.floor).next = H0.next + 1 := n1
 have fG : (h1.fl H0.floor).floor = H0.floor := rfl
 have hL0 : LentAt (h1.fl H0.floor) H0.next s.rows L := ⟨hL.g, hL.len, hL.own, hL.marks⟩
 clear hst hlend hL P1
 generalize h1.fl H0.floor = G at *
 have nnG : ((G.push (.row [.string ByteArray.empty, .slice none 0 0, .slice none 0 0, .slice none 0 0, .slice none 0 0, .slice none 0 0, .slice none 0 0, iv 0] 30 false false)).put G.next (.row [.string nm, .slice (some ⟨H0.next, 0, none⟩) s.rows.length (s.rows.length + 9), .slice none 0 0, .slice none 0 0, .slice none 0 0, .slice none 0 0, .slice none 0 0, iv s.miss] 30 false false)).next = G.next + 1 := rfl
 have ffG : ((G.push (.row [.string ByteArray.empty, .slice none 0 0, .slice none 0 0, .slice none 0 0, .slice none 0 0, .slice none 0 0, .slice none 0 0, iv 0] 30 false false)).put G.next (.row [.string nm, .slice (some ⟨H0.next, 0, none⟩) s.rows.length (s.rows.length + 9), .slice none 0 0, .slice none 0 0, .slice none 0 0, .slice none 0 0, .slice none 0 0, iv s.miss] 30 false false)).floor = G.floor := rfl
 have gDH1 : ((G.push (.row [.string ByteArray.empty, .slice none 0 0, .slice none 0 0, .slice none 0 0, .slice none 0 0, .slice none 0 0, .slice none 0 0, iv 0] 30 false false)).put G.next (.row [.string nm, .slice (some ⟨H0.next, 0, none⟩) s.rows.length (s.rows.length + 9), .slice none 0 0, .slice none 0 0, .slice none 0 0, .slice none 0 0, .slice none 0 0, iv s.miss] 30 false false)).get G.next = .row [.string nm, .slice (some ⟨H0.next, 0, none⟩) s.rows.length (s.rows.length + 9), .slice none 0 0, .slice none 0 0, .slice none 0 0, .slice none 0 0, .slice none 0 0, iv s.miss] 30 false false := J0b rfl (by rw [J1D]; omega)
 have ggG : ∀ i, i < G.next → ((G.push (.row [.string ByteArray.empty, .slice none 0 0, .slice none 0 0, .slice none 0 0, .slice none 0 0, .slice none 0 0, .slice none 0 0, iv 0] 30 false false)).put G.next (.row [.string nm, .slice (some ⟨H0.next, 0, none⟩) s.rows.length (s.rows.length + 9), .slice none 0 0, .slice none 0 0, .slice none 0 0, .slice none 0 0, .slice none 0 0, iv s.miss] 30 false false)).get i = G.get i := fun i hi => by rw [J05 (by rw [J1D]; omega) (by omega), J06 hi]
 generalize (G.push (.row [.string ByteArray.empty, .slice none 0 0, .slice none 0 0, .slice none 0 0, .slice none 0 0, .slice none 0 0, .slice none 0 0, iv 0] 30 false false)).put G.next (.row [.string nm, .slice (some ⟨H0.next, 0, none⟩) s.rows.length (s.rows.length + 9), .slice none 0 0, .slice none 0 0, .slice none 0 0, .slice none 0 0, .slice none 0 0, iv s.miss] 30 false false) = H1 at *
 generalize hDD : G.next = D at *
 have gAH1 : H1.get h.next = .row [.string nm, vr, .slice aq s.queues.length cq, .slice av s.vars.length cv, .slice at_ s.tags.length ct, vu, vo, iv s.miss] 30 false false := by rw [ggG _ (by omega), gG, o1 _ (by omega)]; exact gA
 have gOH1 : ∀ i, i < h.next → H1.get i = h.get i := fun i hi => by rw [ggG _ (by omega), gG, o1 _ (by omega)]; exact gO i hi
 have hL1 : LentAt H1 H0.next s.rows L := ⟨by rw [ggG _ (by omega)]; exact hL0.g, hL0.len, hL0.own, hL0.marks⟩
 have gZ1 : ∀ i, i = h.next + 1 → H1.get i = H0.get i := fun i hi => by rw [ggG _ (by omega), gG, o1 _ (by omega)]; rfl
 have P2 := p2.mono (h' := H1.fl (max H1.floor H1.next)) (by rw [J0J]; omega) fun i _ hi => (gOH1 i hi)
 have w2 : IntKind.i64.wrap ((s.queues.length : Int) + 3) = ((s.queues.length + 3 : Nat) : Int) := J0s (by omega) (by omega)
 have mk2 := fun (H : SHeap) => make_in (h := H) (n := s.queues.length + 3) Tryd.underlying26 sz57 by57 J9V rfl rfl (by decide) (by decide) (by omega)
 obtain ⟨g2, k2, a1, a2, a3, a4, a5, a6, a7, a8, a9⟩ := lend_c (mk := [.string JcY, .bool false]) Tryd.underlying26 sz57 by57 J9V rfl (by decide) P2 (J5A _) rfl rfl (by omega) (by rw [J0J, JiM]; omega)
 rw [J0J] at a1 a2 a4 a5 a6 a7 a9
 rw [JiM] at a3 a8
 have sl2 := fun (H : SHeap) => slice_in0 (h := H) (id := H1.next) (n := s.queues.length + 1) (m := s.queues.length) (c := s.queues.length + 3) Tryd.underlying26 sz57 (by omega) (by unfold unk; omega)
 have hfx : g2.fl (max H1.floor H1.next) = g2 := by rw [← a3]; exact J6L g2
 have ex : ∀ i, i < H1.next → g2.get i = H1.get i := a4
 have ez : ∀ i, i < H1.next → k2.get i = H1.get i := a9
 have e1 : (H1.push (.row (J3e ((Value.agg #[.string ByteArray.empty, .bool false]).cells.toList) (s.queues.length + 3)) 57 false false)).get h.next = .row [.string nm, vr, .slice aq s.queues.length cq, .slice av s.vars.length cv, .slice at_ s.tags.length ct, vu, vo, iv s.miss] 30 false false := by rw [J06 (by omega)]; exact gAH1
 have e2 : g2.get h.next = .row [.string nm, vr, .slice aq s.queues.length cq, .slice av s.vars.length cv, .slice at_ s.tags.length ct, vu, vo, iv s.miss] 30 false false := by rw [ex _ (by omega)]; exact gAH1
 have e3 : k2.get h.next = .row [.string nm, vr, .slice aq s.queues.length cq, .slice av s.vars.length cv, .slice at_ s.tags.length ct, vu, vo, iv s.miss] 30 false false := by rw [ez _ (by omega)]; exact gAH1
 have gDk : (k2.fl H1.floor).get D = .row [.string nm, .slice (some ⟨H0.next, 0, none⟩) s.rows.length (s.rows.length + 9), .slice none 0 0, .slice none 0 0, .slice none 0 0, .slice none 0 0, .slice none 0 0, iv s.miss] 30 false false := by rw [J1g, ez _ (by omega)]; exact gDH1
 have hA : (h.next < H1.next) = True := by simp; omega
 have st2 : J0K Tryd.prog (k2.fl H1.floor) 26 (.pointer (some ⟨D, 2, none⟩)) (.slice (some ⟨H1.next, 0, none⟩) s.queues.length (s.queues.length + 3)) = _ := stc sz26 rfl rfl gDk (by simp only [List.length_cons, List.length_nil]; omega) (by rw [JiM]; omega)
 simp only [List.set_cons_succ, List.set_cons_zero] at st2
 simp only [evC, seval, ↓evP]
 refine WK.flags (ops := ops21_2) flags21_2 ?_
 refine WKF.begin ?_
 have FF := And.intro @J0B (And.intro @J0S (And.intro @gAH1 (And.intro @e1 (And.intro @e2 (And.intro @e3 (And.intro @x2 (And.intro @hA (And.intro @len2 (And.intro @w2 (And.intro @mk2 (And.intro @a1 (And.intro @hfx (And.intro @build57_l (And.intro @bs26 (And.intro @a5 (And.intro @sl2 (And.intro @st2 (And.intro @J0a (And.intro @J0i (And.intro @J1D (And.intro @J0J (And.intro @JiM (And.intro @J1g @Jk2)))))))))))))))))))))))
 refine wst hsn 0 (some 12) (.fieldAddr 30 (.tmp 1) 2) none ?_
 simp only [rgC, seval, J04, J02, WKFC, Nat.zero_add, Nat.zero_add, FF]
 refine wst hsn 1 (some 13) (.load 26 (.tmp 12)) none ?_
 simp only [rgC, seval, J04, J02, WKFC, rgL, Nat.zero_add, FF]
 refine wst hsn 2 (some 14) (.call { callee := .builtin .len, args := #[.tmp 13], argTypes := #[26] }) none ?_
 simp only [rgC, seval, J04, J02, WKFC, rgK, Nat.zero_add, FF]
 refine wst hsn 3 (some 15) (.binOp .add 3 (.tmp 14) (.const (Value.int IntKind.i64 3)) 3) none ?_
 simp only [rgC, seval, J04, J02, WKFC, rgB, Nat.zero_add, FF]
 refine wst hsn 4 (some 16) (.makeSlice 26 (.const (Value.int IntKind.i64 0)) (.tmp 15)) none ?_
 simp only [rgC, seval, J04, J02, WKFC, Nat.zero_add, FF]
 refine wst hsn 5 (some 17) (.fieldAddr 30 (.tmp 1) 2) none ?_
 simp only [rgC, seval, J04, J02, WKFC, Nat.zero_add, Nat.zero_add, FF]
 refine wst hsn 6 (some 18) (.load 26 (.tmp 17)) none ?_
 simp only [rgC, seval, J04, J02, WKFC, rgL, Nat.zero_add, FF]
 refine wst hsn 7 (some 19) (.call { callee := .builtin .append, args := #[.tmp 16, .tmp 18], argTypes := #[26, 26] }) none ?_
 simp only [rgC, seval, J04, J02, WKFC, rgK, Nat.zero_add, FF]
 refine wst hsn 8 (some 20) (.build 57 #[(0, .const (Value.string { data := #[108, 101, 110, 116] }))]) none ?_
 simp only [rgC, seval, J04, J02, WKFC, List.map_cons, List.map_nil, Nat.zero_add, FF]
 refine wst hsn 9 (some 21) (.buildSlice 26 1 #[(0, .tmp 20)]) none ?_
 simp only [rgC, seval, J04, J02, WKFC, List.map_cons, List.map_nil, Nat.zero_add, FF]
 refine wst hsn 10 (some 22) (.call { callee := .builtin .append, args := #[.tmp 19, .tmp 21], argTypes := #[26, 26] }) none ?_
 simp only [rgC, seval, J04, J02, WKFC, rgK, Nat.zero_add, FF]
 refine wst hsn 11 (some 23) (.fieldAddr 30 (.tmp 1) 2) none ?_
 simp only [rgC, seval, J04, J02, WKFC, Nat.zero_add, Nat.zero_add, FF]
 refine wst hsn 12 (some 24) (.load 26 (.tmp 23)) none ?_
 simp only [rgC, seval, J04, J02, WKFC, rgL, Nat.zero_add, FF]
 refine wst hsn 13 (some 25) (.call { callee := .builtin .len, args := #[.tmp 24], argTypes := #[26] }) none ?_
 simp only [rgC, seval, J04, J02, WKFC, rgK, Nat.zero_add, FF]
 refine wst hsn 14 (some 26) (.slice 26 (.tmp 22) none (some (.tmp 25)) none) none ?_
 simp only [rgC, seval, J04, J02, WKFC, rgL, Nat.zero_add, FF]
 refine wst hsn 15 (some 27) (.fieldAddr 30 (.tmp 3) 2) none ?_
 simp only [rgC, seval, J04, J02, WKFC, Nat.zero_add, Nat.zero_add, FF]
 refine wst hsn 16 (none) (.store 26 (.tmp 27) (.tmp 26)) none ?_
 simp only [rgC, seval, J04, J02, WKFC, J17, rgS, Nat.zero_add, FF]
 refine WKF.done (i := 17) (by kernel_rfl) ?_
 clear FF
 have nn2 : ((k2.fl H1.floor).put D (.row [.string nm, .slice (some ⟨H0.next, 0, none⟩) s.rows.length (s.rows.length + 9), .slice (some ⟨H1.next, 0, none⟩) s.queues.length (s.queues.length + 3), .slice none 0 0, .slice none 0 0, .slice none 0 0, .slice none 0 0, iv s.miss] 30 false false)).next = H1.next + 2 := a7
 have ff2 : ((k2.fl H1.floor).put D (.row [.string nm, .slice (some ⟨H0.next, 0, none⟩) s.rows.length (s.rows.length + 9), .slice (some ⟨H1.next, 0, none⟩) s.queues.length (s.queues.length + 3), .slice none 0 0, .slice none 0 0, .slice none 0 0, .slice none 0 0, iv s.miss] 30 false false)).floor = H1.floor := rfl
 have gg2 : ∀ i, i < H1.next → i ≠ D → ((k2.fl H1.floor).put D (.row [.string nm, .slice (some ⟨H0.next, 0, none⟩) s.rows.length (s.rows.length + 9), .slice (some ⟨H1.next, 0, none⟩) s.queues.length (s.queues.length + 3), .slice none 0 0, .slice none 0 0, .slice none 0 0, .slice none 0 0, iv s.miss] 30 false false)).get i = H1.get i := fun i hi hd => by rw [J05 (by rw [J0J]; omega) (Ne.symm hd), J1g, ez i hi]
 have gDH2 : ((k2.fl H1.floor).put D (.row [.string nm, .slice (some ⟨H0.next, 0, none⟩) s.rows.length (s.rows.length + 9), .slice (some ⟨H1.next, 0, none⟩) s.queues.length (s.queues.length + 3), .slice none 0 0, .slice none 0 0, .slice none 0 0, .slice none 0 0, iv s.miss] 30 false false)).get D = .row [.string nm, .slice (some ⟨H0.next, 0, none⟩) s.rows.length (s.rows.length + 9), .slice (some ⟨H1.next, 0, none⟩) s.queues.length (s.queues.length + 3), .slice none 0 0, .slice none 0 0, .slice none 0 0, .slice none 0 0, iv s.miss] 30 false false := J0b rfl (by rw [J0J]; omega)
 have gl2 : ((k2.fl H1.floor).put D (.row [.string nm, .slice (some ⟨H0.next, 0, none⟩) s.rows.length (s.rows.length + 9), .slice (some ⟨H1.next, 0, none⟩) s.queues.length (s.queues.length + 3), .slice none 0 0, .slice none 0 0, .slice none 0 0, .slice none 0 0, iv s.miss] 30 false false)).get H1.next = k2.get H1.next := by rw [J05 (by rw [J0J]; omega) (by omega), J1g]
 have L2 := a6.mono gl2
 clear gl2 gDk st2 a1 a4 a5 a6 a9 ex ez e1 e2 e3 hfx hA mk2
 generalize (k2.fl H1.floor).put D (.row [.string nm, .slice (some ⟨H0.next, 0, none⟩) s.rows.length (s.rows.length + 9), .slice (some ⟨H1.next, 0, none⟩) s.queues.length (s.queues.length + 3), .slice none 0 0, .slice none 0 0, .slice none 0 0, .slice none 0 0, iv s.miss] 30 false false) = H2 at *
 have gAH2 : H2.get h.next = .row [.string nm, vr, .slice aq s.queues.length cq, .slice av s.vars.length cv, .slice at_ s.tags.length ct, vu, vo, iv s.miss] 30 false false := (gg2 _ (by omega) (by omega)).trans gAH1
 have gOH2 : ∀ i, i < h.next → H2.get i = h.get i := fun i hi => (gg2 i (by omega) (by omega)).trans (gOH1 i hi)
 have P3 := p3.mono (h' := H2.fl (max H2.floor H2.next)) (by rw [J0J]; omega) fun i _ hi => (gOH2 i hi)
 have w3 : IntKind.i64.wrap ((s.vars.length : Int) + 3) = ((s.vars.length + 3 : Nat) : Int) := J0s (by omega) (by omega)
 have mk3 := fun (H : SHeap) => make_in (h := H) (n := s.vars.length + 3) Tryd.underlying27 sz9 by9 Jdg rfl rfl (by decide) (by decide) (by omega)
 obtain ⟨g3, k3, a1, a2, a3, a4, a5, a6, a7, a8, a9⟩ := lend_c (mk := [.string JcY]) Tryd.underlying27 sz9 by9 Jdg rfl (by decide) P3 (J6e _) rfl rfl (by omega) (by rw [J0J, JiM]; omega)
 rw [J0J] at a1 a2 a4 a5 a6 a7 a9
 rw [JiM] at a3 a8
 have sl3 := fun (H : SHeap) => slice_in0 (h := H) (id := H2.next) (n := s.vars.length + 1) (m := s.vars.length) (c := s.vars.length + 3) Tryd.underlying27 sz9 (by omega) (by unfold unk; omega)
 have hfx : g3.fl (max H2.floor H2.next) = g3 := by rw [← a3]; exact J6L g3
 have ex : ∀ i, i < H2.next → g3.get i = H2.get i := a4
 have ez : ∀ i, i < H2.next → k3.get i = H2.get i := a9
 have e1 : (H2.push (.row (J3e ((Value.string ByteArray.empty).cells.toList) (s.vars.length + 3)) 9 false false)).get h.next = .row [.string nm, vr, .slice aq s.queues.length cq, .slice av s.vars.length cv, .slice at_ s.tags.length ct, vu, vo, iv s.miss] 30 false false := by rw [J06 (by omega)]; exact gAH2
 have e2 : g3.get h.next = .row [.string nm, vr, .slice aq s.queues.length cq, .slice av s.vars.length cv, .slice at_ s.tags.length ct, vu, vo, iv s.miss] 30 false false := by rw [ex _ (by omega)]; exact gAH2
 have e3 : k3.get h.next = .row [.string nm, vr, .slice aq s.queues.length cq, .slice av s.vars.length cv, .slice at_ s.tags.length ct, vu, vo, iv s.miss] 30 false false := by rw [ez _ (by omega)]; exact gAH2
 have gDk : (k3.fl H2.floor).get D = .row [.string nm, .slice (some ⟨H0.next, 0, none⟩) s.rows.length (s.rows.length + 9), .slice (some ⟨H1.next, 0, none⟩) s.queues.length (s.queues.length + 3), .slice none 0 0, .slice none 0 0, .slice none 0 0, .slice none 0 0, iv s.miss] 30 false false := by rw [J1g, ez _ (by omega)]; exact gDH2
 have hA : (h.next < H2.next) = True := by simp; omega
 have st3 : J0K Tryd.prog (k3.fl H2.floor) 27 (.pointer (some ⟨D, 3, none⟩)) (.slice (some ⟨H2.next, 0, none⟩) s.vars.length (s.vars.length + 3)) = _ := stc sz27 rfl rfl gDk (by simp only [List.length_cons, List.length_nil]; omega) (by rw [JiM]; omega)
 simp only [List.set_cons_succ, List.set_cons_zero] at st3
 simp only [evC, seval, ↓evP]
 refine WK.flags (ops := ops21_3) flags21_3 ?_
 refine WKF.begin ?_
 have FF := And.intro @J1A (And.intro @J0Y (And.intro @gAH2 (And.intro @e1 (And.intro @e2 (And.intro @e3 (And.intro @x3 (And.intro @hA (And.intro @len3 (And.intro @w3 (And.intro @mk3 (And.intro @a1 (And.intro @hfx (And.intro @bs27 (And.intro @a5 (And.intro @sl3 (And.intro @J0a (And.intro @J0i (And.intro @J1D (And.intro @J0J (And.intro @JiM (And.intro @J1g @Jk2)))))))))))))))))))))
 refine wst hsn 0 (some 28) (.fieldAddr 30 (.tmp 1) 3) none ?_
 simp only [rgC, seval, J04, J02, WKFC, Nat.zero_add, Nat.zero_add, st3, FF]
 refine wst hsn 1 (some 29) (.load 27 (.tmp 28)) none ?_
 simp only [rgC, seval, J04, J02, WKFC, rgL, Nat.zero_add, st3, FF]
 refine wst hsn 2 (some 30) (.call { callee := .builtin .len, args := #[.tmp 29], argTypes := #[27] }) none ?_
 simp only [rgC, seval, J04, J02, WKFC, rgK, Nat.zero_add, st3, FF]
 refine wst hsn 3 (some 31) (.binOp .add 3 (.tmp 30) (.const (Value.int IntKind.i64 3)) 3) none ?_
 simp only [rgC, seval, J04, J02, WKFC, rgB, Nat.zero_add, st3, FF]
 refine wst hsn 4 (some 32) (.makeSlice 27 (.const (Value.int IntKind.i64 0)) (.tmp 31)) none ?_
 simp only [rgC, seval, J04, J02, WKFC, Nat.zero_add, st3, FF]
 refine wst hsn 5 (some 33) (.fieldAddr 30 (.tmp 1) 3) none ?_
 simp only [rgC, seval, J04, J02, WKFC, Nat.zero_add, Nat.zero_add, st3, FF]
 refine wst hsn 6 (some 34) (.load 27 (.tmp 33)) none ?_
 simp only [rgC, seval, J04, J02, WKFC, rgL, Nat.zero_add, st3, FF]
 refine wst hsn 7 (some 35) (.call { callee := .builtin .append, args := #[.tmp 32, .tmp 34], argTypes := #[27, 27] }) none ?_
 simp only [rgC, seval, J04, J02, WKFC, rgK, Nat.zero_add, st3, FF]
 refine wst hsn 8 (some 36) (.buildSlice 27 1 #[(0, .const (Value.string { data := #[108, 101, 110, 116] }))]) none ?_
 simp only [rgC, seval, J04, J02, WKFC, List.map_cons, List.map_nil, Nat.zero_add, st3, FF]
 refine wst hsn 9 (some 37) (.call { callee := .builtin .append, args := #[.tmp 35, .tmp 36], argTypes := #[27, 27] }) none ?_
 simp only [rgC, seval, J04, J02, WKFC, rgK, Nat.zero_add, st3, FF]
 refine wst hsn 10 (some 38) (.fieldAddr 30 (.tmp 1) 3) none ?_
 simp only [rgC, seval, J04, J02, WKFC, Nat.zero_add, Nat.zero_add, st3, FF]
 refine wst hsn 11 (some 39) (.load 27 (.tmp 38)) none ?_
 simp only [rgC, seval, J04, J02, WKFC, rgL, Nat.zero_add, st3, FF]
 refine wst hsn 12 (some 40) (.call { callee := .builtin .len, args := #[.tmp 39], argTypes := #[27] }) none ?_
 simp only [rgC, seval, J04, J02, WKFC, rgK, Nat.zero_add, st3, FF]
 refine wst hsn 13 (some 41) (.slice 27 (.tmp 37) none (some (.tmp 40)) none) none ?_
 simp only [rgC, seval, J04, J02, WKFC, rgL, Nat.zero_add, st3, FF]
 refine wst hsn 14 (some 42) (.fieldAddr 30 (.tmp 3) 3) none ?_
 simp only [rgC, seval, J04, J02, WKFC, Nat.zero_add, Nat.zero_add, st3, FF]
 refine wst hsn 15 (none) (.store 27 (.tmp 42) (.tmp 41)) none ?_
 simp only [rgC, seval, J04, J02, WKFC, J17, rgS, Nat.zero_add, st3, FF]
 refine WKF.done (i := 16) (by kernel_rfl) ?_
 clear FF
 have nn3 : ((k3.fl H2.floor).put D (.row [.string nm, .slice (some ⟨H0.next, 0, none⟩) s.rows.length (s.rows.length + 9), .slice (some ⟨H1.next, 0, none⟩) s.queues.length (s.queues.length + 3), .slice (some ⟨H2.next, 0, none⟩) s.vars.length (s.vars.length + 3), .slice none 0 0, .slice none 0 0, .slice none 0 0, iv s.miss] 30 false false)).next = H2.next + 2 := a7
 have ff3 : ((k3.fl H2.floor).put D (.row [.string nm, .slice (some ⟨H0.next, 0, none⟩) s.rows.length (s.rows.length + 9), .slice (some ⟨H1.next, 0, none⟩) s.queues.length (s.queues.length + 3), .slice (some ⟨H2.next, 0, none⟩) s.vars.length (s.vars.length + 3), .slice none 0 0, .slice none 0 0, .slice none 0 0, iv s.miss] 30 false false)).floor = H2.floor := rfl
 have gg3 : ∀ i, i < H2.next → i ≠ D → ((k3.fl H2.floor).put D (.row [.string nm, .slice (some ⟨H0.next, 0, none⟩) s.rows.length (s.rows.length + 9), .slice (some ⟨H1.next, 0, none⟩) s.queues.length (s.queues.length + 3), .slice (some ⟨H2.next, 0, none⟩) s.vars.length (s.vars.length + 3), .slice none 0 0, .slice none 0 0, .slice none 0 0, iv s.miss] 30 false false)).get i = H2.get i := fun i hi hd => by rw [J05 (by rw [J0J]; omega) (Ne.symm hd), J1g, ez i hi]
 have gDH3 : ((k3.fl H2.floor).put D (.row [.string nm, .slice (some ⟨H0.next, 0, none⟩) s.rows.length (s.rows.length + 9), .slice (some ⟨H1.next, 0, none⟩) s.queues.length (s.queues.length + 3), .slice (some ⟨H2.next, 0, none⟩) s.vars.length (s.vars.length + 3), .slice none 0 0, .slice none 0 0, .slice none 0 0, iv s.miss] 30 false false)).get D = .row [.string nm, .slice (some ⟨H0.next, 0, none⟩) s.rows.length (s.rows.length + 9), .slice (some ⟨H1.next, 0, none⟩) s.queues.length (s.queues.length + 3), .slice (some ⟨H2.next, 0, none⟩) s.vars.length (s.vars.length + 3), .slice none 0 0, .slice none 0 0, .slice none 0 0, iv s.miss] 30 false false := J0b rfl (by rw [J0J]; omega)
 have gl3 : ((k3.fl H2.floor).put D (.row [.string nm, .slice (some ⟨H0.next, 0, none⟩) s.rows.length (s.rows.length + 9), .slice (some ⟨H1.next, 0, none⟩) s.queues.length (s.queues.length + 3), .slice (some ⟨H2.next, 0, none⟩) s.vars.length (s.vars.length + 3), .slice none 0 0, .slice none 0 0, .slice none 0 0, iv s.miss] 30 false false)).get H2.next = k3.get H2.next := by rw [J05 (by rw [J0J]; omega) (by omega), J1g]
 have L3 := a6.mono gl3
 clear gl3 gDk st3 a1 a4 a5 a6 a9 ex ez e1 e2 e3 hfx hA mk3
 generalize (k3.fl H2.floor).put D (.row [.string nm, .slice (some ⟨H0.next, 0, none⟩) s.rows.length (s.rows.length + 9), .slice (some ⟨H1.next, 0, none⟩) s.queues.length (s.queues.length + 3), .slice (some ⟨H2.next, 0, none⟩) s.vars.length (s.vars.length + 3), .slice none 0 0, .slice none 0 0, .slice none 0 0, iv s.miss] 30 false false) = H3 at *
 have gAH3 : H3.get h.next = .row [.string nm, vr, .slice aq s.queues.length cq, .slice av s.vars.length cv, .slice at_ s.tags.length ct, vu, vo, iv s.miss] 30 false false := (gg3 _ (by omega) (by omega)).trans gAH2
 have gOH3 : ∀ i, i < h.next → H3.get i = h.get i := fun i hi => (gg3 i (by omega) (by omega)).trans (gOH2 i hi)
 have P4 := p4.mono (h' := H3.fl (max H3.floor H3.next)) (by rw [J0J]; omega) fun i _ hi => (gOH3 i hi)
 have w4 : IntKind.i64.wrap ((s.tags.length : Int) + 3) = ((s.tags.length + 3 : Nat) : Int) := J0s (by omega) (by omega)
 have mk4 := fun (H : SHeap) => make_in (h := H) (n := s.tags.length + 3) Tryd.underlying27 sz9 by9 Jdg rfl rfl (by decide) (by decide) (by omega)
 obtain ⟨g4, k4, a1, a2, a3, a4, a5, a6, a7, a8, a9⟩ := lend_c (mk := [.string JcY]) Tryd.underlying27 sz9 by9 Jdg rfl (by decide) P4 (J6e _) rfl rfl (by omega) (by rw [J0J, JiM]; omega)
 rw [J0J] at a1 a2 a4 a5 a6 a7 a9
 rw [JiM] at a3 a8
 have sl4 := fun (H : SHeap) => slice_in0 (h := H) (id := H3.next) (n := s.tags.length + 1) (m := s.tags.length) (c := s.tags.length + 3) Tryd.underlying27 sz9 (by omega) (by unfold unk; omega)
 have hfx : g4.fl (max H3.floor H3.next) = g4 := by rw [← a3]; exact J6L g4
 have ex : ∀ i, i < H3.next → g4.get i = H3.get i := a4
 have ez : ∀ i, i < H3.next → k4.get i = H3.get i := a9
 have e1 : (H3.push (.row (J3e ((Value.string ByteArray.empty).cells.toList) (s.tags.length + 3)) 9 false false)).get h.next = .row [.string nm, vr, .slice aq s.queues.length cq, .slice av s.vars.length cv, .slice at_ s.tags.length ct, vu, vo, iv s.miss] 30 false false := by rw [J06 (by omega)]; exact gAH3
 have e2 : g4.get h.next = .row [.string nm, vr, .slice aq s.queues.length cq, .slice av s.vars.length cv, .slice at_ s.tags.length ct, vu, vo, iv s.miss] 30 false false := by rw [ex _ (by omega)]; exact gAH3
 have e3 : k4.get h.next = .row [.string nm, vr, .slice aq s.queues.length cq, .slice av s.vars.length cv, .slice at_ s.tags.length ct, vu, vo, iv s.miss] 30 false false := by rw [ez _ (by omega)]; exact gAH3
 have gDk : (k4.fl H3.floor).get D = .row [.string nm, .slice (some ⟨H0.next, 0, none⟩) s.rows.length (s.rows.length + 9), .slice (some ⟨H1.next, 0, none⟩) s.queues.length (s.queues.length + 3), .slice (some ⟨H2.next, 0, none⟩) s.vars.length (s.vars.length + 3), .slice none 0 0, .slice none 0 0, .slice none 0 0, iv s.miss] 30 false false := by rw [J1g, ez _ (by omega)]; exact gDH3
 have hA : (h.next < H3.next) = True := by simp; omega
 have st4 : J0K Tryd.prog (k4.fl H3.floor) 27 (.pointer (some ⟨D, 4, none⟩)) (.slice (some ⟨H3.next, 0, none⟩) s.tags.length (s.tags.length + 3)) = _ := stc sz27 rfl rfl gDk (by simp only [List.length_cons, List.length_nil]; omega) (by rw [JiM]; omega)
 simp only [List.set_cons_succ, List.set_cons_zero] at st4
 simp only [evC, seval, ↓evP]
 refine WK.flags (ops := ops21_4) flags21_4 ?_
 refine WKF.begin ?_
 have FF := And.intro @J1B (And.intro @J0Y (And.intro @gAH3 (And.intro @e1 (And.intro @e2 (And.intro @e3 (And.intro @x4 (And.intro @hA (And.intro @len4 (And.intro @w4 (And.intro @mk4 (And.intro @a1 (And.intro @hfx (And.intro @bs27 (And.intro @a5 (And.intro @sl4 (And.intro @st4 (And.intro @J0a (And.intro @J0i (And.intro @J1D (And.intro @J0J (And.intro @JiM (And.intro @J1g @Jk2))))))))))))))))))))))
 refine wst hsn 0 (some 43) (.fieldAddr 30 (.tmp 1) 4) none ?_
 simp only [rgC, seval, J04, J02, WKFC, Nat.zero_add, Nat.zero_add, FF]
 refine wst hsn 1 (some 44) (.load 27 (.tmp 43)) none ?_
 simp only [rgC, seval, J04, J02, WKFC, rgL, Nat.zero_add, FF]
 refine wst hsn 2 (some 45) (.call { callee := .builtin .len, args := #[.tmp 44], argTypes := #[27] }) none ?_
 simp only [rgC, seval, J04, J02, WKFC, rgK, Nat.zero_add, FF]
 refine wst hsn 3 (some 46) (.binOp .add 3 (.tmp 45) (.const (Value.int IntKind.i64 3)) 3) none ?_
 simp only [rgC, seval, J04, J02, WKFC, rgB, Nat.zero_add, FF]
 refine wst hsn 4 (some 47) (.makeSlice 27 (.const (Value.int IntKind.i64 0)) (.tmp 46)) none ?_
 simp only [rgC, seval, J04, J02, WKFC, Nat.zero_add, FF]
 refine wst hsn 5 (some 48) (.fieldAddr 30 (.tmp 1) 4) none ?_
 simp only [rgC, seval, J04, J02, WKFC, Nat.zero_add, Nat.zero_add, FF]
 refine wst hsn 6 (some 49) (.load 27 (.tmp 48)) none ?_
 simp only [rgC, seval, J04, J02, WKFC, rgL, Nat.zero_add, FF]
 refine wst hsn 7 (some 50) (.call { callee := .builtin .append, args := #[.tmp 47, .tmp 49], argTypes := #[27, 27] }) none ?_
 simp only [rgC, seval, J04, J02, WKFC, rgK, Nat.zero_add, FF]
 refine wst hsn 8 (some 51) (.buildSlice 27 1 #[(0, .const (Value.string { data := #[108, 101, 110, 116] }))]) none ?_
 simp only [rgC, seval, J04, J02, WKFC, List.map_cons, List.map_nil, Nat.zero_add, FF]
 refine wst hsn 9 (some 52) (.call { callee := .builtin .append, args := #[.tmp 50, .tmp 51], argTypes := #[27, 27] }) none ?_
 simp only [rgC, seval, J04, J02, WKFC, rgK, Nat.zero_add, FF]
 refine wst hsn 10 (some 53) (.fieldAddr 30 (.tmp 1) 4) none ?_
 simp only [rgC, seval, J04, J02, WKFC, Nat.zero_add, Nat.zero_add, FF]
 refine wst hsn 11 (some 54) (.load 27 (.tmp 53)) none ?_
 simp only [rgC, seval, J04, J02, WKFC, rgL, Nat.zero_add, FF]
 refine wst hsn 12 (some 55) (.call { callee := .builtin .len, args := #[.tmp 54], argTypes := #[27] }) none ?_
 simp only [rgC, seval, J04, J02, WKFC, rgK, Nat.zero_add, FF]
 refine wst hsn 13 (some 56) (.slice 27 (.tmp 52) none (some (.tmp 55)) none) none ?_
 simp only [rgC, seval, J04, J02, WKFC, rgL, Nat.zero_add, FF]
 refine wst hsn 14 (some 57) (.fieldAddr 30 (.tmp 3) 4) none ?_
 simp only [rgC, seval, J04, J02, WKFC, Nat.zero_add, Nat.zero_add, FF]
 refine wst hsn 15 (none) (.store 27 (.tmp 57) (.tmp 56)) none ?_
 simp only [rgC, seval, J04, J02, WKFC, J17, rgS, Nat.zero_add, FF]
 refine WKF.done (i := 16) (by kernel_rfl) ?_
 clear FF
 have nn4 : ((k4.fl H3.floor).put D (.row [.string nm, .slice (some ⟨H0.next, 0, none⟩) s.rows.length (s.rows.length + 9), .slice (some ⟨H1.next, 0, none⟩) s.queues.length (s.queues.length + 3), .slice (some ⟨H2.next, 0, none⟩) s.vars.length (s.vars.length + 3), .slice (some ⟨H3.next, 0, none⟩) s.tags.length (s.tags.length + 3), .slice none 0 0, .slice none 0 0, iv s.miss] 30 false false)).next = H3.next + 2 := a7
 have ff4 : ((k4.fl H3.floor).put D (.row [.string nm, .slice (some ⟨H0.next, 0, none⟩) s.rows.length (s.rows.length + 9), .slice (some ⟨H1.next, 0, none⟩) s.queues.length (s.queues.length + 3), .slice (some ⟨H2.next, 0, none⟩) s.vars.length (s.vars.length + 3), .slice (some ⟨H3.next, 0, none⟩) s.tags.length (s.tags.length + 3), .slice none 0 0, .slice none 0 0, iv s.miss] 30 false false)).floor = H3.floor := rfl
 have gg4 : ∀ i, i < H3.next → i ≠ D → ((k4.fl H3.floor).put D (.row [.string nm, .slice (some ⟨H0.next, 0, none⟩) s.rows.length (s.rows.length + 9), .slice (some ⟨H1.next, 0, none⟩) s.queues.length (s.queues.length + 3), .slice (some ⟨H2.next, 0, none⟩) s.vars.length (s.vars.length + 3), .slice (some ⟨H3.next, 0, none⟩) s.tags.length (s.tags.length + 3), .slice none 0 0, .slice none 0 0, iv s.miss] 30 false false)).get i = H3.get i := fun i hi hd => by rw [J05 (by rw [J0J]; omega) (Ne.symm hd), J1g, ez i hi]
 have gDH4 : ((k4.fl H3.floor).put D (.row [.string nm, .slice (some ⟨H0.next, 0, none⟩) s.rows.length (s.rows.length + 9), .slice (some ⟨H1.next, 0, none⟩) s.queues.length (s.queues.length + 3), .slice (some ⟨H2.next, 0, none⟩) s.vars.length (s.vars.length + 3), .slice (some ⟨H3.next, 0, none⟩) s.tags.length (s.tags.length + 3), .slice none 0 0, .slice none 0 0, iv s.miss] 30 false false)).get D = .row [.string nm, .slice (some ⟨H0.next, 0, none⟩) s.rows.length (s.rows.length + 9), .slice (some ⟨H1.next, 0, none⟩) s.queues.length (s.queues.length + 3), .slice (some ⟨H2.next, 0, none⟩) s.vars.length (s.vars.length + 3), .slice (some ⟨H3.next, 0, none⟩) s.tags.length (s.tags.length + 3), .slice none 0 0, .slice none 0 0, iv s.miss] 30 false false := J0b rfl (by rw [J0J]; omega)
 have gl4 : ((k4.fl H3.floor).put D (.row [.string nm, .slice (some ⟨H0.next, 0, none⟩) s.rows.length (s.rows.length + 9), .slice (some ⟨H1.next, 0, none⟩) s.queues.length (s.queues.length + 3), .slice (some ⟨H2.next, 0, none⟩) s.vars.length (s.vars.length + 3), .slice (some ⟨H3.next, 0, none⟩) s.tags.length (s.tags.length + 3), .slice none 0 0, .slice none 0 0, iv s.miss] 30 false false)).get H3.next = k4.get H3.next := by rw [J05 (by rw [J0J]; omega) (by omega), J1g]
 have L4 := a6.mono gl4
 clear gl4 gDk st4 a1 a4 a5 a6 a9 ex ez e1 e2 e3 hfx hA mk4
 generalize (k4.fl H3.floor).put D (.row [.string nm, .slice (some ⟨H0.next, 0, none⟩) s.rows.length (s.rows.length + 9), .slice (some ⟨H1.next, 0, none⟩) s.queues.length (s.queues.length + 3), .slice (some ⟨H2.next, 0, none⟩) s.vars.length (s.vars.length + 3), .slice (some ⟨H3.next, 0, none⟩) s.tags.length (s.tags.length + 3), .slice none 0 0, .slice none 0 0, iv s.miss] 30 false false) = H4 at *
 have gAH4 : H4.get h.next = .row [.string nm, vr, .slice aq s.queues.length cq, .slice av s.vars.length cv, .slice at_ s.tags.length ct, vu, vo, iv s.miss] 30 false false := (gg4 _ (by omega) (by omega)).trans gAH3
 have gOH4 : ∀ i, i < h.next → H4.get i = h.get i := fun i hi => (gg4 i (by omega) (by omega)).trans (gOH3 i hi)
 have P5 : J1S lo H4 vu s.rules := J1S.mono p5 (by omega) fun i _ hi => gOH4 i hi
 obtain ⟨j5, hc5, l5, m5, f5, o5⟩ := k_lendInts (n := n) P5 hl2.1 (by omega) (by omega)
 have gA5 : j5.get h.next = .row [.string nm, vr, .slice aq s.queues.length cq, .slice av s.vars.length cv, .slice at_ s.tags.length ct, vu, vo, iv s.miss] 30 false false := by rw [o5 _ (by omega)]; exact gAH4
 have gD5 : j5.get D = .row [.string nm, .slice (some ⟨H0.next, 0, none⟩) s.rows.length (s.rows.length + 9), .slice (some ⟨H1.next, 0, none⟩) s.queues.length (s.queues.length + 3), .slice (some ⟨H2.next, 0, none⟩) s.vars.length (s.vars.length + 3), .slice (some ⟨H3.next, 0, none⟩) s.tags.length (s.tags.length + 3), .slice none 0 0, .slice none 0 0, iv s.miss] 30 false false := by rw [o5 _ (by omega)]; exact gDH4
 have st5 : J0K Tryd.prog j5 28 (.pointer (some ⟨D, 5, none⟩)) (.slice (some ⟨H4.next, 0, none⟩) s.rules.length (s.rules.length + 3)) = _ := stc sz28 rfl rfl gD5 (by simp only [List.length_cons, List.length_nil]; omega) (by omega)
 simp only [List.set_cons_succ, List.set_cons_zero] at st5
 simp only [evC, seval, ↓evP, Nat.zero_add, J36, J0n, gAH4, x5, hc5, st5]
 have nn5 : (j5.put D (.row [.string nm, .slice (some ⟨H0.next, 0, none⟩) s.rows.length (s.rows.length + 9), .slice (some ⟨H1.next, 0, none⟩) s.queues.length (s.queues.length + 3), .slice (some ⟨H2.next, 0, none⟩) s.vars.length (s.vars.length + 3), .slice (some ⟨H3.next, 0, none⟩) s.tags.length (s.tags.length + 3), .slice (some ⟨H4.next, 0, none⟩) s.rules.length (s.rules.length + 3), .slice none 0 0, iv s.miss] 30 false false)).next = H4.next + 2 := m5
 have ff5 : (j5.put D (.row [.string nm, .slice (some ⟨H0.next, 0, none⟩) s.rows.length (s.rows.length + 9), .slice (some ⟨H1.next, 0, none⟩) s.queues.length (s.queues.length + 3), .slice (some ⟨H2.next, 0, none⟩) s.vars.length (s.vars.length + 3), .slice (some ⟨H3.next, 0, none⟩) s.tags.length (s.tags.length + 3), .slice (some ⟨H4.next, 0, none⟩) s.rules.length (s.rules.length + 3), .slice none 0 0, iv s.miss] 30 false false)).floor = H4.floor := f5
 have gD5' : (j5.put D (.row [.string nm, .slice (some ⟨H0.next, 0, none⟩) s.rows.length (s.rows.length + 9), .slice (some ⟨H1.next, 0, none⟩) s.queues.length (s.queues.length + 3), .slice (some ⟨H2.next, 0, none⟩) s.vars.length (s.vars.length + 3), .slice (some ⟨H3.next, 0, none⟩) s.tags.length (s.tags.length + 3), .slice (some ⟨H4.next, 0, none⟩) s.rules.length (s.rules.length + 3), .slice none 0 0, iv s.miss] 30 false false)).get D = .row [.string nm, .slice (some ⟨H0.next, 0, none⟩) s.rows.length (s.rows.length + 9), .slice (some ⟨H1.next, 0, none⟩) s.queues.length (s.queues.length + 3), .slice (some ⟨H2.next, 0, none⟩) s.vars.length (s.vars.length + 3), .slice (some ⟨H3.next, 0, none⟩) s.tags.length (s.tags.length + 3), .slice (some ⟨H4.next, 0, none⟩) s.rules.length (s.rules.length + 3), .slice none 0 0, iv s.miss] 30 false false := J0b rfl (by omega)
 have gg5 : ∀ i, i < H4.next → i ≠ D → (j5.put D (.row [.string nm, .slice (some ⟨H0.next, 0, none⟩) s.rows.length (s.rows.length + 9), .slice (some ⟨H1.next, 0, none⟩) s.queues.length (s.queues.length + 3), .slice (some ⟨H2.next, 0, none⟩) s.vars.length (s.vars.length + 3), .slice (some ⟨H3.next, 0, none⟩) s.tags.length (s.tags.length + 3), .slice (some ⟨H4.next, 0, none⟩) s.rules.length (s.rules.length + 3), .slice none 0 0, iv s.miss] 30 false false)).get i = H4.get i := fun i hi hd => by rw [J05 (by omega) (Ne.symm hd), o5 i hi]
 have L5 := l5.mono (h' := j5.put D (.row [.string nm, .slice (some ⟨H0.next, 0, none⟩) s.rows.length (s.rows.length + 9), .slice (some ⟨H1.next, 0, none⟩) s.queues.length (s.queues.length + 3), .slice (some ⟨H2.next, 0, none⟩) s.vars.length (s.vars.length + 3), .slice (some ⟨H3.next, 0, none⟩) s.tags.length (s.tags.length + 3), .slice (some ⟨H4.next, 0, none⟩) s.rules.length (s.rules.length + 3), .slice none 0 0, iv s.miss] 30 false false)) (by rw [J05 (by omega) (by omega)])
 clear gA5 gD5 st5 hc5
 generalize j5.put D (.row [.string nm, .slice (some ⟨H0.next, 0, none⟩) s.rows.length (s.rows.length + 9), .slice (some ⟨H1.next, 0, none⟩) s.queues.length (s.queues.length + 3), .slice (some ⟨H2.next, 0, none⟩) s.vars.length (s.vars.length + 3), .slice (some ⟨H3.next, 0, none⟩) s.tags.length (s.tags.length + 3), .slice (some ⟨H4.next, 0, none⟩) s.rules.length (s.rules.length + 3), .slice none 0 0, iv s.miss] 30 false false) = H5 at *
 have gAH5 : H5.get h.next = .row [.string nm, vr, .slice aq s.queues.length cq, .slice av s.vars.length cv, .slice at_ s.tags.length ct, vu, vo, iv s.miss] 30 false false := (gg5 _ (by omega) (by omega)).trans gAH4
 have gOH5 : ∀ i, i < h.next → H5.get i = h.get i := fun i hi => (gg5 i (by omega) (by omega)).trans (gOH4 i hi)
 have P6 : J1S lo H5 vo s.on := J1S.mono p6 (by omega) fun i _ hi => gOH5 i hi
 obtain ⟨j6, hc6, l6, m6, f6, o6⟩ := k_lendInts (n := n) P6 hl2.2 (by omega) (by omega)
 have gA6 : j6.get h.next = .row [.string nm, vr, .slice aq s.queues.length cq, .slice av s.vars.length cv, .slice at_ s.tags.length ct, vu, vo, iv s.miss] 30 false false := by rw [o6 _ (by omega)]; exact gAH5
 have gD6 : j6.get D = .row [.string nm, .slice (some ⟨H0.next, 0, none⟩) s.rows.length (s.rows.length + 9), .slice (some ⟨H1.next, 0, none⟩) s.queues.length (s.queues.length + 3), .slice (some ⟨H2.next, 0, none⟩) s.vars.length (s.vars.length + 3), .slice (some ⟨H3.next, 0, none⟩) s.tags.length (s.tags.length + 3), .slice (some ⟨H4.next, 0, none⟩) s.rules.length (s.rules.length + 3), .slice none 0 0, iv s.miss] 30 false false := by rw [o6 _ (by omega)]; exact gD5'
 have st6 : J0K Tryd.prog j6 28 (.pointer (some ⟨D, 6, none⟩)) (.slice (some ⟨H5.next, 0, none⟩) s.on.length (s.on.length + 3)) = _ := stc sz28 rfl rfl gD6 (by simp only [List.length_cons, List.length_nil]; omega) (by omega)
 simp only [List.set_cons_succ, List.set_cons_zero] at st6
 simp only [evC, seval, ↓evP, Nat.zero_add, J1T, J0n, gAH5, x6, hc6, st6]
 have nn6 : (j6.put D (.row [.string nm, .slice (some ⟨H0.next, 0, none⟩) s.rows.length (s.rows.length + 9), .slice (some ⟨H1.next, 0, none⟩) s.queues.length (s.queues.length + 3), .slice (some ⟨H2.next, 0, none⟩) s.vars.length (s.vars.length + 3), .slice (some ⟨H3.next, 0, none⟩) s.tags.length (s.tags.length + 3), .slice (some ⟨H4.next, 0, none⟩) s.rules.length (s.rules.length + 3), .slice (some ⟨H5.next, 0, none⟩) s.on.length (s.on.length + 3), iv s.miss] 30 false false)).next = H5.next + 2 := m6
 have ff6 : (j6.put D (.row [.string nm, .slice (some ⟨H0.next, 0, none⟩) s.rows.length (s.rows.length + 9), .slice (some ⟨H1.next, 0, none⟩) s.queues.length (s.queues.length + 3), .slice (some ⟨H2.next, 0, none⟩) s.vars.length (s.vars.length + 3), .slice (some ⟨H3.next, 0, none⟩) s.tags.length (s.tags.length + 3), .slice (some ⟨H4.next, 0, none⟩) s.rules.length (s.rules.length + 3), .slice (some ⟨H5.next, 0, none⟩) s.on.length (s.on.length + 3), iv s.miss] 30 false false)).floor = H5.floor := f6
 have gD6' : (j6.put D (.row [.string nm, .slice (some ⟨H0.next, 0, none⟩) s.rows.length (s.rows.length + 9), .slice (some ⟨H1.next, 0, none⟩) s.queues.length (s.queues.length + 3), .slice (some ⟨H2.next, 0, none⟩) s.vars.length (s.vars.length + 3), .slice (some ⟨H3.next, 0, none⟩) s.tags.length (s.tags.length + 3), .slice (some ⟨H4.next, 0, none⟩) s.rules.length (s.rules.length + 3), .slice (some ⟨H5.next, 0, none⟩) s.on.length (s.on.length + 3), iv s.miss] 30 false false)).get D = .row [.string nm, .slice (some ⟨H0.next, 0, none⟩) s.rows.length (s.rows.length + 9), .slice (some ⟨H1.next, 0, none⟩) s.queues.length (s.queues.length + 3), .slice (some ⟨H2.next, 0, none⟩) s.vars.length (s.vars.length + 3), .slice (some ⟨H3.next, 0, none⟩) s.tags.length (s.tags.length + 3), .slice (some ⟨H4.next, 0, none⟩) s.rules.length (s.rules.length + 3), .slice (some ⟨H5.next, 0, none⟩) s.on.length (s.on.length + 3), iv s.miss] 30 false false := J0b rfl (by omega)
 have gg6 : ∀ i, i < H5.next → i ≠ D → (j6.put D (.row [.string nm, .slice (some ⟨H0.next, 0, none⟩) s.rows.length (s.rows.length + 9), .slice (some ⟨H1.next, 0, none⟩) s.queues.length (s.queues.length + 3), .slice (some ⟨H2.next, 0, none⟩) s.vars.length (s.vars.length + 3), .slice (some ⟨H3.next, 0, none⟩) s.tags.length (s.tags.length + 3), .slice (some ⟨H4.next, 0, none⟩) s.rules.length (s.rules.length + 3), .slice (some ⟨H5.next, 0, none⟩) s.on.length (s.on.length + 3), iv s.miss] 30 false false)).get i = H5.get i := fun i hi hd => by rw [J05 (by omega) (Ne.symm hd), o6 i hi]
 have L6 := l6.mono (h' := j6.put D (.row [.string nm, .slice (some ⟨H0.next, 0, none⟩) s.rows.length (s.rows.length + 9), .slice (some ⟨H1.next, 0, none⟩) s.queues.length (s.queues.length + 3), .slice (some ⟨H2.next, 0, none⟩) s.vars.length (s.vars.length + 3), .slice (some ⟨H3.next, 0, none⟩) s.tags.length (s.tags.length + 3), .slice (some ⟨H4.next, 0, none⟩) s.rules.length (s.rules.length + 3), .slice (some ⟨H5.next, 0, none⟩) s.on.length (s.on.length + 3), iv s.miss] 30 false false)) (by rw [J05 (by omega) (by omega)])
 clear gA6 gD6 st6 hc6
 generalize j6.put D (.row [.string nm, .slice (some ⟨H0.next, 0, none⟩) s.rows.length (s.rows.length + 9), .slice (some ⟨H1.next, 0, none⟩) s.queues.length (s.queues.length + 3), .slice (some ⟨H2.next, 0, none⟩) s.vars.length (s.vars.length + 3), .slice (some ⟨H3.next, 0, none⟩) s.tags.length (s.tags.length + 3), .slice (some ⟨H4.next, 0, none⟩) s.rules.length (s.rules.length + 3), .slice (some ⟨H5.next, 0, none⟩) s.on.length (s.on.length + 3), iv s.miss] 30 false false) = H6 at *
 have gOH6 : ∀ i, i < h.next → H6.get i = h.get i := fun i hi => (gg6 i (by omega) (by omega)).trans (gOH5 i hi)
 have lD : ldN 8 0 (H6.get D) = some (.agg #[.string nm, .slice (some ⟨H0.next, 0, none⟩) s.rows.length (s.rows.length + 9), .slice (some ⟨H1.next, 0, none⟩) s.queues.length (s.queues.length + 3), .slice (some ⟨H2.next, 0, none⟩) s.vars.length (s.vars.length + 3), .slice (some ⟨H3.next, 0, none⟩) s.tags.length (s.tags.length + 3), .slice (some ⟨H4.next, 0, none⟩) s.rules.length (s.rules.length + 3), .slice (some ⟨H5.next, 0, none⟩) s.on.length (s.on.length + 3), iv s.miss]) := J9E gD6' rfl
 have gZ6 : H6.get (h.next + 1) = .row [.string ByteArray.empty, .slice none 0 0, .slice none 0 0, .slice none 0 0, .slice none 0 0, .slice none 0 0, .slice none 0 0, iv 0] 30 false false := by
  rw [gg6 _ (by omega) (by omega), gg5 _ (by omega) (by omega), gg4 _ (by omega) (by omega), gg3 _ (by omega) (by omega), gg2 _ (by omega) (by omega), gZ1 _ rfl]
  exact gZ
 have st7 : J0K Tryd.prog H6 30 (.pointer (some ⟨h.next + 1, 0, none⟩)) _ = _ := stW sz30 (vs := [.string nm, .slice (some ⟨H0.next, 0, none⟩) s.rows.length (s.rows.length + 9), .slice (some ⟨H1.next, 0, none⟩) s.queues.length (s.queues.length + 3), .slice (some ⟨H2.next, 0, none⟩) s.vars.length (s.vars.length + 3), .slice (some ⟨H3.next, 0, none⟩) s.tags.length (s.tags.length + 3), .slice (some ⟨H4.next, 0, none⟩) s.rules.length (s.rules.length + 3), .slice (some ⟨H5.next, 0, none⟩) s.on.length (s.on.length + 3), iv s.miss]) gZ6 rfl rfl rfl (by omega)
 have lZ : ldN 8 0 ((H6.put (h.next + 1) (.row [.string nm, .slice (some ⟨H0.next, 0, none⟩) s.rows.length (s.rows.length + 9), .slice (some ⟨H1.next, 0, none⟩) s.queues.length (s.queues.length + 3), .slice (some ⟨H2.next, 0, none⟩) s.vars.length (s.vars.length + 3), .slice (some ⟨H3.next, 0, none⟩) s.tags.length (s.tags.length + 3), .slice (some ⟨H4.next, 0, none⟩) s.rules.length (s.rules.length + 3), .slice (some ⟨H5.next, 0, none⟩) s.on.length (s.on.length + 3), iv s.miss] 30 false false)).get (h.next + 1)) = some (.agg #[.string nm, .slice (some ⟨H0.next, 0, none⟩) s.rows.length (s.rows.length + 9), .slice (some ⟨H1.next, 0, none⟩) s.queues.length (s.queues.length + 3), .slice (some ⟨H2.next, 0, none⟩) s.vars.length (s.vars.length + 3), .slice (some ⟨H3.next, 0, none⟩) s.tags.length (s.tags.length + 3), .slice (some ⟨H4.next, 0, none⟩) s.rules.length (s.rules.length + 3), .slice (some ⟨H5.next, 0, none⟩) s.on.length (s.on.length + 3), iv s.miss]) := J9E (J0b rfl (by omega)) rfl
 simp only [evC, seval, ↓evP, hr, J1b, lD, st7, lZ]
 have gg7 : ∀ i, i < H6.next → i ≠ h.next + 1 → (H6.put (h.next + 1) (.row [.string nm, .slice (some ⟨H0.next, 0, none⟩) s.rows.length (s.rows.length + 9), .slice (some ⟨H1.next, 0, none⟩) s.queues.length (s.queues.length + 3), .slice (some ⟨H2.next, 0, none⟩) s.vars.length (s.vars.length + 3), .slice (some ⟨H3.next, 0, none⟩) s.tags.length (s.tags.length + 3), .slice (some ⟨H4.next, 0, none⟩) s.rules.length (s.rules.length + 3), .slice (some ⟨H5.next, 0, none⟩) s.on.length (s.on.length + 3), iv s.miss] 30 false false)).get i = H6.get i := fun i hi hd => J05 (by omega) (Ne.symm hd)
 have nn7 : (H6.put (h.next + 1) (.row [.string nm, .slice (some ⟨H0.next, 0, none⟩) s.rows.length (s.rows.length + 9), .slice (some ⟨H1.next, 0, none⟩) s.queues.length (s.queues.length + 3), .slice (some ⟨H2.next, 0, none⟩) s.vars.length (s.vars.length + 3), .slice (some ⟨H3.next, 0, none⟩) s.tags.length (s.tags.length + 3), .slice (some ⟨H4.next, 0, none⟩) s.rules.length (s.rules.length + 3), .slice (some ⟨H5.next, 0, none⟩) s.on.length (s.on.length + 3), iv s.miss] 30 false false)).next = H6.next := rfl
 have ff7 : (H6.put (h.next + 1) (.row [.string nm, .slice (some ⟨H0.next, 0, none⟩) s.rows.length (s.rows.length + 9), .slice (some ⟨H1.next, 0, none⟩) s.queues.length (s.queues.length + 3), .slice (some ⟨H2.next, 0, none⟩) s.vars.length (s.vars.length + 3), .slice (some ⟨H3.next, 0, none⟩) s.tags.length (s.tags.length + 3), .slice (some ⟨H4.next, 0, none⟩) s.rules.length (s.rules.length + 3), .slice (some ⟨H5.next, 0, none⟩) s.on.length (s.on.length + 3), iv s.miss] 30 false false)).floor = H6.floor := rfl
 generalize H6.put (h.next + 1) (.row [.string nm, .slice (some ⟨H0.next, 0, none⟩) s.rows.length (s.rows.length + 9), .slice (some ⟨H1.next, 0, none⟩) s.queues.length (s.queues.length + 3), .slice (some ⟨H2.next, 0, none⟩) s.vars.length (s.vars.length + 3), .slice (some ⟨H3.next, 0, none⟩) s.tags.length (s.tags.length + 3), .slice (some ⟨H4.next, 0, none⟩) s.rules.length (s.rules.length + 3), .slice (some ⟨H5.next, 0, none⟩) s.on.length (s.on.length + 3), iv s.miss] 30 false false) = H7 at *
 refine ⟨⟨fun i => if i = 1 then H0.next else if i = 2 then H1.next else if i = 3 then H2.next else if i = 4 then H3.next else if i = 5 then H4.next else H5.next, rfl, ?_, ⟨L, ?_, hL1.len, hL1.own, hL1.marks⟩, L2.mono ?_, L3.mono ?_, L4.mono ?_, L5.mono ?_, L6.mono ?_⟩, by omega, by omega, fun i hi => by rw [gg7 _ (by omega) (by omega)]; exact gOH6 i hi⟩
 ·simp only [↓reduceIte, Nat.reduceEqDiff]
  omega
 ·show H7.get H0.next = _
  rw [gg7 _ (by omega) (by omega), gg6 _ (by omega) (by omega), gg5 _ (by omega) (by omega), gg4 _ (by omega) (by omega), gg3 _ (by omega) (by omega), gg2 _ (by omega) (by omega)]
  exact hL1.g
 ·show H7.get H1.next = _
  rw [gg7 _ (by omega) (by omega), gg6 _ (by omega) (by omega), gg5 _ (by omega) (by omega), gg4 _ (by omega) (by omega), gg3 _ (by omega) (by omega)]
 ·show H7.get H2.next = _
  rw [gg7 _ (by omega) (by omega), gg6 _ (by omega) (by omega), gg5 _ (by omega) (by omega), gg4 _ (by omega) (by omega)]
 ·show H7.get H3.next = _
  rw [gg7 _ (by omega) (by omega), gg6 _ (by omega) (by omega), gg5 _ (by omega) (by omega)]
 ·show H7.get H4.next = _
  rw [gg7 _ (by omega) (by omega), gg6 _ (by omega) (by omega)]
 ·show H7.get H5.next = _
  rw [gg7 _ (by omega) (by omega)]
theorem k_lend7 {nm : ByteArray} {s : StN} {pv : Value} {lo : Nat} (hp : J3x lo h pv nm s) (hs : JdC s) (hl : s.rows.length < 900000000) (hl2 : s.rules.length < 900000000 ∧ s.on.length < 900000000) (hfl : h.floor ≤ h.next) (hn : 30 < n) :
  ∃ v' h', J0T n 21 [pv] h = some (v', h') ∧ (∃ o, LentPol h' h.next v' nm s o) ∧ h.next ≤ h'.next ∧ h'.floor = h.floor ∧ ∀ i, i < h.next → h'.get i = h.get i := by
 obtain ⟨n, rfl⟩ : ∃ j, n = j + 1 := ⟨n - 1, by omega⟩
 refine k_ex (J13 ⟨rfl, rfl, rfl⟩) (lend7_walk hp hs hl hl2 hfl (by omega)) fun v' h1 hf ho ⟨⟨o, hL⟩, _⟩ => ?_
 rw [hL.v] at hf
 cases hf
end
end Go.Proofs.YtipekdhneagdbaaDoor
