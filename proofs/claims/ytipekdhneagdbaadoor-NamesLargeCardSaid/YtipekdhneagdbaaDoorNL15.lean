/- Part 15 of what the claim leans on: 4 texts laid one behind another. -/
import Derived.Test.YtipekdhneagdbaaDoorNL14
namespace Go.Proofs.YtipekdhneagdbaaDoor
open Go Go.Sx
set_option maxRecDepth 100000
set_option linter.unusedSimpArgs false
set_option linter.unusedVariables false
theorem J2W.trans {h H H' : SHeap} {lo : Nat} {F : List Nat} (a : J2W h H lo F) (b : J2W H H' lo F) : J2W h H' lo F := ⟨fun i hi => (b.1 i hi).trans (a.1 i hi), Nat.le_trans a.2.1 b.2.1, b.2.2.trans a.2.2⟩
section
variable {n N : Nat}
set_option maxHeartbeats 4000000 in
theorem Jbf {l : List RowN} {v : Value} {T : Tr} {H : SHeap} {K : Kont} {a fl lo m k c e r c5 c6 : Nat} {nm : ByteArray} {F : List Nat} (ht : J2c l) (hL : l.length < 900000000) (hn : 3 < n) (hN : l.length + 3 < N)
  (t0 : T.get 0 = v) (t2 : T.get 2 = .pointer (some ⟨a, 0, none⟩)) (t3 : T.get 3 = .pointer (some ⟨a + 1, 0, none⟩)) (t7 : T.get 7 = .slice (some ⟨fl, 0, none⟩) 3 3) (hv : J0l H v l)
  (hp : MkE H lo m k c e r l.length nm (J0o l) F (s0N l)) (hcl : CellsP H m e c5 c6 fl l.length (J0o l)) (h5 : c5 ∈ F) (h6 : c6 ∈ F) (hfl : fl ∈ F) (ha : a + 1 < lo) (hlo : lo ≤ H.next) (hout : Out2 a H [.string ByteArray.empty, .slice none 0 0, .slice none 0 0, .slice none 0 0, .slice none 0 0, .slice none 0 0, .slice none 0 0, iv 0] 0 0) (hfa : H.floor ≤ a)
  (hbad : (goN (J0o l) l.length 0 (s0N l)).1 ≠ 0 → ∀ T' H', T'.get 2 = .pointer (some ⟨a, 0, none⟩) → T'.get 3 = .pointer (some ⟨a + 1, 0, none⟩) → Out2 a H' [.string ByteArray.empty, .slice none 0 0, .slice none 0 0, .slice none 0 0, .slice none 0 0, .slice none 0 0, .slice none 0 0, iv 0] (goN (J0o l) l.length 0 (s0N l)).1 (goN (J0o l) l.length 0 (s0N l)).2.1 → H.next ≤ H'.next → H'.floor = H.floor → (∀ i, i < a → H'.get i = H.get i) → K.ap Tryd.prog (J0T n) N .ret ⟨T', H'⟩)
  (hgood : (goN (J0o l) l.length 0 (s0N l)).1 = 0 → ∀ T' H', (∀ t, t ≤ 7 → T'.get t = T.get t) → MkE H' lo m k c e r l.length nm (J0o l) F (goN (J0o l) l.length 0 (s0N l)).2.2 → InvR l l.length (goN (J0o l) l.length 0 (s0N l)).2.2 → J2W H H' lo F → WK Tryd.prog (J0T n) N PR19 ⟨T', H'⟩ K) :
  WK Tryd.prog (J0T n) N PR8 ⟨T, H⟩ K := by
 show WK _ _ _ (.seq (.seq _ (.block 0 (.loop (.seq _ (.seq _ (.seq (.block 1 XB16) _)))))) PR19) _ _
 have hlen := fun h' => hv.len (h' := h')
 simp only [evC, seval, ↓evP, t0, hlen]
 refine WK.loop (fun i s' => s'.T.get 43 = iv l.length ∧ s'.T.get 44 = iv i ∧ i ≤ l.length ∧ (∀ t, t ≤ 7 → s'.T.get t = T.get t) ∧ J2W H s'.h lo F ∧ ∃ s, MkE s'.h lo m k c e r l.length nm (J0o l) F s ∧ InvR l i s ∧ goN (J0o l) (l.length - i) i s = goN (J0o l) l.length 0 (s0N l)) l.length (by omega) ?_ ?_
 ·refine ⟨by simp only [evC, ↓reduceIte, Nat.reduceEqDiff, reduceCtorEq, ↓evP, rpC, Nat.reduceAdd, Nat.reduceLT], by simp only [evC, ↓reduceIte, Nat.reduceEqDiff, reduceCtorEq, ↓evP, rpC, Nat.reduceAdd, Nat.reduceLT]; rfl, by omega, fun t ht => ?_, ⟨fun _ _ => rfl, Nat.le_refl _, rfl⟩, s0N l, hp, inv0 l, rfl⟩
  simp only [Tr.get_put, Option.some.injEq]
  repeat rw [if_neg (by omega)]
 ·rintro i ⟨T1, H1⟩ hi ⟨t43, t44, hil, hkeep, haf, s, hp1, hin, hgo⟩
  simp only at t43 t44 hkeep haf hp1
  by_cases hlt : i < l.length
  ·have c1 : decide ((i : Int) < (l.length : Int)) = true := by simp; omega
   obtain ⟨x, hx⟩ : ∃ x, s.rows[i]? = some x := ⟨_, List.getElem?_eq_getElem (by rw [hin.len]; exact hlt)⟩
   obtain ⟨n1, h1⟩ := J7P (end_ := endN l i) hx
   have hcl1 : CellsP H1 m e c5 c6 fl l.length (J0o l) := ⟨(haf.1 c5 (.inr h5)).trans hcl.h5, (haf.1 c6 (.inr h6)).trans hcl.h6, (haf.1 fl (.inr hfl)).trans hcl.hf⟩
   obtain ⟨x2, hx2, hlook⟩ := Jh3 (n := n) (lo := lo) (k := k) (c := c) (r := r) (nm := nm) (F := F) ht hL hlt hin hx h1 hcl1 h5 h6 hfl hn
   obtain ⟨sb, sg⟩ := Jgq (E := J0o l) hx (J2B hlt) h1 hx2
   have hr : l.length - i = (l.length - (i + 1)) + 1 := by omega
   rw [hr] at hgo
   have hout1 : Out2 a H1 [.string ByteArray.empty, .slice none 0 0, .slice none 0 0, .slice none 0 0, .slice none 0 0, .slice none 0 0, .slice none 0 0, iv 0] 0 0 := hout.mono (haf.1 a (.inl (by omega))) (haf.1 (a + 1) (.inl ha))
   have hn1 := haf.2.1
   have hf1 := haf.2.2
   have w1 : IntKind.i64.wrap ((i : Int) + 1) = ((i + 1 : Nat) : Int) := J0s (by omega) (by omega)
   have hkp : ∀ t, t ≤ 44 → (T1.put (some 45) (Value.bool true)).get t = T1.get t := fun t ht => by
    rw [Tr.get_put, if_neg (fun h => by have h9 : (45 : Nat) = t := Option.some.inj h; omega)]
   simp only [evC, seval, ↓evP, t43, t44, c1]
   refine Jc2 (a := a) (fl := fl) (er := erN i (endN l i) x { x with n := n1 } x2 s) (st := stN i (endN l i) x { x with n := n1 } x2 s) (E := J0o l) (F := F) ((hkp 2 (by omega)).trans ((hkeep 2 (by omega)).trans t2)) ((hkp 3 (by omega)).trans ((hkeep 3 (by omega)).trans t3)) ((hkp 7 (by omega)).trans ((hkeep 7 (by omega)).trans t7)) ((hkp 44 (by omega)).trans t44) (by omega) hp1 ha (by omega) hout1 (by omega) hcl1.hf hfl hlook ?_ ?_
   ·intro j hj he hz T' H' g2 g3 ho hnx hfx hox
    have hst := sb j hj he hz
    have hg : goN (J0o l) l.length 0 (s0N l) = (erN i (endN l i) x { x with n := n1 } x2 s j, i, s) := by
     rw [← hgo]
     unfold goN
     rw [hst, if_pos he]
    simp only [evC, seval, ↓evP]
    refine hbad (by rw [hg]; exact he) T' H' g2 g3 (by rw [hg]; exact ho) (by omega) (by omega) fun q hq => (hox q hq).trans (haf.1 q (.inl (by omega)))
   ·intro hz T' H' hk' hp' haf'
    have hst := sg hz
    have e0 : (J31 (J0o l) i s).1 = 0 := by rw [hst]
    have hin' := J6b ht (J3T i) hlt hin e0
    rw [hst] at hin'
    have hg : goN (J0o l) (l.length - (i + 1)) (i + 1) (stN i (endN l i) x { x with n := n1 } x2 s 3) = goN (J0o l) l.length 0 (s0N l) := by
     rw [← hgo]
     conv => rhs; unfold goN
     rw [if_neg (by rw [e0]; simp), hst]
    have u43 := (hk' 43 (by omega)).trans ((hkp 43 (by omega)).trans t43)
    have u44 := (hk' 44 (by omega)).trans ((hkp 44 (by omega)).trans t44)
    simp only [evC, seval, ↓evP, u43, u44, w1]
    refine ⟨hlt, by omega, fun t ht => ?_, haf.trans haf', _, hp', hin', hg⟩
    repeat rw [if_neg (by omega)]
    exact (hk' t (by omega)).trans ((hkp t (by omega)).trans (hkeep t ht))
  ·have c1 : decide ((i : Int) < (l.length : Int)) = false := by simp; omega
   have : i = l.length := by omega
   subst this
   have hg : goN (J0o l) l.length 0 (s0N l) = (0, l.length, s) := by
    rw [← hgo, Nat.sub_self]
    rfl
   simp only [evC, seval, ↓evP, t43, t44, c1]
   refine hgood (by rw [hg]) _ _ (fun t ht => ?_) (by rw [hg]; exact hp1) (by rw [hg]; exact hin) haf
   simp only [Tr.get_put, Option.some.injEq]
   repeat rw [if_neg (by omega)]
   exact hkeep t ht
theorem J3x.weak {lo lo' : Nat} {h : SHeap} {pv : Value} {nm : ByteArray} {s : StN} (hp : J3x lo h pv nm s) (hl : lo' ≤ lo) : J3x lo' h pv nm s := by
 obtain ⟨vr, vq, vv, vt, vu, vo, h1, h2, h3, h4, h5, h6, h7⟩ := hp
 exact ⟨vr, vq, vv, vt, vu, vo, h1, J3P.of (h2.2.weak hl), h3.weak hl, h4.weak hl, h5.weak hl, h6.weak hl, h7.weak hl⟩
def OwnS (lo : Nat) (h : SHeap) (pv : Value) (nm : ByteArray) (s : StN) : Prop :=
 ∃ tag r vq vv vt vu vo, pv = .agg #[.string nm, .slice (some ⟨r, 0, none⟩) s.rows.length unk, vq, vv, vt, vu, vo, iv s.miss] ∧ PolS h lo tag r s.rows.length vq vv vt vu vo s
theorem SlAt.weak {h : SHeap} {lo lo' : Nat} {tag : Nat → Nat} {j : Nat} {v : Value} {n : Nat} {cs : List Value} {ty : TypeId} (hs : SlAt h lo tag j v n cs ty) (hl : lo' ≤ lo) : SlAt h lo' tag j v n cs ty := by
 rcases hs with h1 | ⟨id, ex, h1, h2, h3, h4, h5⟩
 ·exact .inl h1
 ·exact .inr ⟨id, ex, h1, h2, by omega, h4, h5⟩
theorem PolS.weak {h : SHeap} {lo lo' : Nat} {tag : Nat → Nat} {r n : Nat} {vq vv vt vu vo : Value} {s : StN} (hp : PolS h lo tag r n vq vv vt vu vo s) (hl : lo' ≤ lo) : PolS h lo' tag r n vq vv vt vu vo s :=
 ⟨hp.rows, hp.len, hp.tr, ⟨by have := hp.lr.1; omega, hp.lr.2⟩, hp.q.weak hl, hp.v.weak hl, hp.t.weak hl, hp.u.weak hl, hp.o.weak hl⟩
theorem OwnS.weak {lo lo' : Nat} {h : SHeap} {pv : Value} {nm : ByteArray} {s : StN} (hp : OwnS lo h pv nm s) (hl : lo' ≤ lo) : OwnS lo' h pv nm s := by
 obtain ⟨tag, r, vq, vv, vt, vu, vo, h1, h2⟩ := hp
 exact ⟨tag, r, vq, vv, vt, vu, vo, h1, h2.weak hl⟩
theorem OwnS.mono {lo : Nat} {h h' : SHeap} {pv : Value} {nm : ByteArray} {s : StN} (hp : OwnS lo h pv nm s) (hn : h.next ≤ h'.next) (hg : ∀ i, lo ≤ i → i < h.next → h'.get i = h.get i) : OwnS lo h' pv nm s := by
 obtain ⟨tag, r, vq, vv, vt, vu, vo, h1, h2⟩ := hp
 exact ⟨tag, r, vq, vv, vt, vu, vo, h1, h2.mono hn (fun _ _ => rfl) fun i a b _ _ => hg i a b⟩
theorem OwnS.pol {lo : Nat} {h : SHeap} {pv : Value} {nm : ByteArray} {s : StN} (hp : OwnS lo h pv nm s) : J3x lo h pv nm s := by
 obtain ⟨tag, r, vq, vv, vt, vu, vo, h1, h2⟩ := hp
 exact ⟨_, vq, vv, vt, vu, vo, h1, J3P.of (J0p.row (ex := []) (by rw [List.append_nil]; exact h2.rows) h2.lr (J0N _)), h2.q.cells (J2J _), h2.v.cells (by simp [strs]), h2.t.cells (by simp [strs]), h2.u.cells (by rw [J1h, Nat.mul_one]), h2.o.cells (by rw [J1h, Nat.mul_one])⟩
theorem MkP.own {h : SHeap} {lo m k c e r n : Nat} {nm : ByteArray} {E : List Int} {tag : Nat → Nat} {vq vv vt vu vo : Value} {es : List (Value × Value)} {s : StN} (hp : MkP h lo m k c e r n nm E tag vq vv vt vu vo es s) :
  OwnS lo h (.agg #[.string nm, .slice (some ⟨r, 0, none⟩) n unk, vq, vv, vt, vu, vo, iv s.miss]) nm s := by
 have hl := hp.pol.len
 subst hl
 exact ⟨tag, r, vq, vv, vt, vu, vo, rfl, hp.pol⟩
set_option maxHeartbeats 4000000 in
theorem JbM {l : List RowN} {T : Tr} {H : SHeap} {K : Kont} {a lo m k c e r c5 c6 : Nat} {nm : ByteArray} {F : List Nat} {s : StN} (ht : J2c l) (hL : l.length < 900000000) (hn : l.length + 100 < n)
  (t2 : T.get 2 = .pointer (some ⟨a, 0, none⟩)) (t3 : T.get 3 = .pointer (some ⟨a + 1, 0, none⟩)) (t5 : T.get 5 = .pointer (some ⟨c5, 0, none⟩)) (t6 : T.get 6 = .pointer (some ⟨c6, 0, none⟩))
  (hp : MkE H lo m k c e r l.length nm (J0o l) F s) (hin : InvR l l.length s) (h5 : H.get c5 = .row [.pointer (some ⟨m, 0, none⟩)] 79 false false) (h6 : H.get c6 = .row [.slice (some ⟨e, 0, none⟩) l.length l.length] 28 false false) (ha : a + 1 < lo) (hlo : lo ≤ H.next) (hout : Out2 a H [.string ByteArray.empty, .slice none 0 0, .slice none 0 0, .slice none 0 0, .slice none 0 0, .slice none 0 0, .slice none 0 0, iv 0] 0 0) (hfa : H.floor ≤ a)
  (hbad : J2K s.rows (J0o l) s.rules ≥ 0 → ∀ T' H', T'.get 2 = .pointer (some ⟨a, 0, none⟩) → T'.get 3 = .pointer (some ⟨a + 1, 0, none⟩) → Out2 a H' [.string ByteArray.empty, .slice none 0 0, .slice none 0 0, .slice none 0 0, .slice none 0 0, .slice none 0 0, .slice none 0 0, iv 0] 34 (J2K s.rows (J0o l) s.rules) → H.next ≤ H'.next → H'.floor = H.floor → (∀ i, i < a → H'.get i = H.get i) → K.ap Tryd.prog (J0T n) N .ret ⟨T', H'⟩)
  (hgood : ¬ J2K s.rows (J0o l) s.rules ≥ 0 → ∀ T' H' cs, T'.get 2 = .pointer (some ⟨a, 0, none⟩) → T'.get 3 = .pointer (some ⟨a + 1, 0, none⟩) → cs.length = 8 → Out2 a H' cs 0 0 → OwnS lo H' (.agg cs.toArray) nm s → H.next ≤ H'.next → H'.floor = H.floor → (∀ i, i < a → H'.get i = H.get i) → K.ap Tryd.prog (J0T n) N .ret ⟨T', H'⟩) :
  WK Tryd.prog (J0T n) N PR19 ⟨T, H⟩ K := by
 show WK _ _ _ (.seq (.seq _ (.seq _ _)) (.seq _ _)) _ _
 obtain ⟨tag, vq, vv, vt, vu, vo, es, hp', _⟩ := id hp
 have hlg := JgH (n := n) hp' ht hL hin (by omega) hn
 have l5 : ld1 0 (H.get c5) = some (.pointer (some ⟨m, 0, none⟩)) := by rw [h5]; rfl
 have l6 : ld1 0 (H.get c6) = some (.slice (some ⟨e, 0, none⟩) l.length l.length) := by rw [h6]; rfl
 cases d : decide (J2K s.rows (J0o l) s.rules ≥ 0) with
 | true =>
  obtain ⟨H', s1, s2, r1, r2, r3, r4⟩ := J4J hout rfl (by omega) (by omega) (cs' := [.string ByteArray.empty, .slice none 0 0, .slice none 0 0, .slice none 0 0, .slice none 0 0, .slice none 0 0, .slice none 0 0, iv 0]) rfl rfl (e' := 34) (p' := J2K s.rows (J0o l) s.rules)
  simp only [evC, seval, ↓evP, J1W, J0n, t2, t3, t5, t6, l5, l6, hlg, d, J28, J4G, s1, s2]
  refine hbad (by simpa using d) _ _ ?_ ?_ r1 (by omega) r3 fun i hi => r4 i (by omega) (by omega)
  ·simp only [evC, seval, ↓evP, rpC, t2]
  ·simp only [evC, seval, ↓evP, rpC, t3]
 | false =>
  have l8 : ldN 8 0 (H.get m) = some (.agg #[.string nm, .slice (some ⟨r, 0, none⟩) l.length unk, vq, vv, vt, vu, vo, iv s.miss]) := by rw [hp'.cell]; rfl
  have hpol := hp'.own
  have hall : ([.string nm, .slice (some ⟨r, 0, none⟩) l.length unk, vq, vv, vt, vu, vo, iv s.miss] : List Value).all one = true := by
   have q1 := (hp'.pol.q.cells (w := 2) (J2J _)).one
   have q2 := (hp'.pol.v.cells (w := 1) (by simp [strs])).one
   have q3 := (hp'.pol.t.cells (w := 1) (by simp [strs])).one
   have q4 := (hp'.pol.u.cells (w := 1) (by rw [J1h, Nat.mul_one])).one
   have q5 := (hp'.pol.o.cells (w := 1) (by rw [J1h, Nat.mul_one])).one
   simp only [List.all_cons, List.all_nil, q1, q2, q3, q4, q5, J5J, J5K, Bool.and_self]
   rfl
  obtain ⟨H', s1, s2, r1, r2, r3, r4⟩ := J4J hout rfl (by omega) (by omega) (cs' := [.string nm, .slice (some ⟨r, 0, none⟩) l.length unk, vq, vv, vt, vu, vo, iv s.miss]) rfl hall (e' := 0) (p' := 0)
  simp only [evC, seval, ↓evP, J1W, J0n, t2, t3, t5, t6, l5, l6, hlg, d, J0g, J1b, l8, J5n, s1, s2]
  refine hgood (by simpa using d) _ _ _ ?_ ?_ rfl r1 (hpol.mono (by omega) fun i hi _ => r4 i (by omega) (by omega)) (by omega) r3 fun i hi => r4 i (by omega) (by omega)
  ·simp only [evC, seval, ↓evP, rpC, t2]
  ·simp only [evC, seval, ↓evP, rpC, t3]
end
theorem J9E {a : Nat} {H : SHeap} {cs : List Value} {ty : TypeId} {g ro : Bool} (h : H.get a = .row cs ty g ro) (hl : cs.length = 8) : ldN 8 0 (H.get a) = some (.agg cs.toArray) := by
 rw [h]
 have : cs.take 8 = cs := List.take_of_length_le (by omega)
 simp only [ldN, cut, List.drop_zero, this, hl, if_true]
theorem J5d {l : List RowN} (h : (J0v l).1 = 0) : J2L J09 l = none := by
 unfold J0v at h
 cases hs : J2L J09 l with
 | none => rfl
 | some p =>
  rw [hs] at h
  simp at h
def Told (h : SHeap) (l : List RowN) (v : Value) (h' : SHeap) : Prop :=
 ∃ pv, v = .tuple #[pv, J2k (resN l).1.1 (resN l).1.2] ∧ J3x h.next h' pv (outN l).1 (outN l).2 ∧ h'.floor = h.floor ∧ h.next ≤ h'.next ∧ ∀ i, i < h.next → h'.get i = h.get i
theorem J0p.flat {lo : Nat} {h : SHeap} {v : Value} {n w : Nat} {cs : List Value} (hc : J0p lo h v n w cs) (hf : J1i v = true) (lo' : Nat) (h' : SHeap) : J0p lo' h' v n w cs := by
 obtain ⟨hl, a, c, rfl, ⟨h0, rfl⟩ | ⟨id, off, row, ty, g, ro, rfl, g1, g2, g3⟩⟩ := hc
 ·exact ⟨hl, _, _, rfl, .inl ⟨h0, rfl⟩⟩
 ·cases hf
def Jlg (lo : Nat) (h : SHeap) (pv : Value) (nm : ByteArray) (s : StN) : Prop := (pv = zPol ∧ nm = ByteArray.empty ∧ s = sZ) ∨ OwnS lo h pv nm s
theorem Jlg.pol {lo : Nat} {h : SHeap} {pv : Value} {nm : ByteArray} {s : StN} (hp : Jlg lo h pv nm s) : J3x lo h pv nm s := by
 rcases hp with ⟨rfl, rfl, rfl⟩ | hp
 ·exact JcV lo h
 ·exact hp.pol
def Jld (h : SHeap) (l : List RowN) (v : Value) (h' : SHeap) : Prop :=
 ∃ pv, v = .tuple #[pv, J2k (resN l).1.1 (resN l).1.2] ∧ Jlg h.next h' pv (outN l).1 (outN l).2 ∧ h'.floor = h.floor ∧ h.next ≤ h'.next ∧ ∀ i, i < h.next → h'.get i = h.get i
theorem Jld.told {h h' : SHeap} {l : List RowN} {v : Value} (ht : Jld h l v h') : Told h l v h' := by
 obtain ⟨pv, h1, h2, h3⟩ := ht
 exact ⟨pv, h1, h2.pol, h3⟩
theorem Jlz {h h1 : SHeap} {l : List RowN} {v : Value} (hf : J3m v = true) (ht : Jld h l v h1) : Jld h l v h := by
 obtain ⟨pv, rfl, h2, _⟩ := ht
 refine ⟨pv, rfl, ?_, rfl, Nat.le_refl _, fun _ _ => rfl⟩
 rcases h2 with h2 | ⟨tag, r, vq, vv, vt, vu, vo, rfl, _⟩
 ·exact .inl h2
 ·have hf' : flat (.agg #[.string (outN l).1, .slice (some ⟨r, 0, none⟩) (outN l).2.rows.length unk, vq, vv, vt, vu, vo, iv (outN l).2.miss]) = true := by
   simp only [J3m, List.all_toArray, List.all_cons, Bool.and_eq_true] at hf
   exact hf.1
  simp only [flat, List.all_cons, Bool.and_eq_true] at hf'
  exact absurd hf'.2.1 (by simp [J1i])
section
variable {n N : Nat}
set_option maxHeartbeats 4000000 in
theorem JcB {l : List RowN} {v : Value} {h : SHeap} (hfl : h.floor ≤ h.next) (hg : h.get 0 = J14) (hn0 : 0 < h.next) (hv : J0l h v l) (hL : l.length < 900000000) (hn : 2 * l.length + 100 < n) (hN : l.length + 3 < N) :
  ∃ v' h', J0L Tryd.prog (J0T n) N 16 [v] h = some (v', h') ∧ Jld h l v' h' := by
 refine J65 (R := Jld h l) Tryd.func16 rfl (by simp [Tryd.f16]) ?_
 have hr : Tryd.f16.results.toList = [.cell 2 30, .cell 3 33] := rfl
 generalize hKK : Kont.top (fun e s => (e = SExit.normal ∨ e = SExit.ret) ∧ ∃ vs, resS Tryd.prog s Tryd.f16.results.toList = some vs ∧ Jld h l (resV vs) s.h) = K
 have fin : ∀ (T' : Tr) (H' : SHeap) cs e p nm s, T'.get 2 = .pointer (some ⟨h.next, 0, none⟩) → T'.get 3 = .pointer (some ⟨h.next + 1, 0, none⟩) → cs.length = 8 → Out2 h.next H' cs e p → Jlg h.next H' (.agg cs.toArray) nm s → (resN l).1 = (e, p) → outN l = (nm, s) → h.next ≤ H'.next → H'.floor = h.floor → (∀ i, i < h.next → H'.get i = h.get i) → K.ap Tryd.prog (J0T n) N .ret ⟨T', H'⟩ := by
  intro T' H' cs e p nm s t2 t3 hl ho hp he hout hnx hf hold
  have l30 := J9E ho.1 hl
  have l33 : ldN 2 0 (H'.get (h.next + 1)) = some (J2k e p) := by rw [ho.2]; rfl
  rw [← hKK]
  simp only [evC, seval, ↓evP, hr, t2, t3, J1b, J2n, l30, l33]
  exact ⟨_, by rw [he], by rw [hout]; exact hp, hf, hnx, hold⟩
 have hz : ∀ H', Jlg h.next H' zPol ByteArray.empty sZ := fun H' => .inl ⟨rfl, rfl, rfl⟩
 refine Je0 (J1z n).2 hfl hv hg hn0 (fun H hv' hg' hn' hfl' => JgM (by omega) (by omega) hv' hg' hn' hfl') ?_ ?_
 ·intro hc T' H t2 t3 ho hnx hf hold
  refine fin T' H _ _ _ ByteArray.empty sZ t2 t3 rfl ho (hz H) ?_ ?_ (by omega) hf hold
  ·unfold resN
   rw [if_pos hc]
  ·unfold outN
   have : (resN l).1.1 ≠ 0 := by unfold resN; rw [if_pos hc]; exact hc
   rw [if_pos this]
 ·intro hc T' H t0 t2 t3 ho hnx hf hold
  have ht := J8d (J5d hc)
  have hvH : J0l H v l := hv.mono (by omega) hold
  have hcw := fun H' (hv' : J0l H' v l) => Jc0 (n := n - 1) (J13 (f := 48) (args := [v]) (h := H') ⟨rfl, rfl, rfl⟩) rfl (Jby (call := J0T (n - 1)) (N := n - 1) hv' ht.pos (by omega))
  rw [show n - 1 + 1 = n by omega] at hcw
  refine Jdt (J1z n).2 ht hL (by omega) hvH t0 hcw (fun H' hv' hf' => JhY ht hv' (by omega) (by omega) hf') ?_
  intro T1 H1 m k c e r c5 c6 fl u0 u2 u3 u5 u6 u7 hp hcl hnx1 hf1 hold1
  have ho1 : Out2 h.next H1 [.string ByteArray.empty, .slice none 0 0, .slice none 0 0, .slice none 0 0, .slice none 0 0, .slice none 0 0, .slice none 0 0, iv 0] 0 0 := ho.mono (hold1 _ (by omega)) (hold1 _ (by omega))
  refine Jbf (a := h.next) ht hL (by omega) hN u0 (u2.trans t2) (u3.trans t3) u7 (hvH.mono hnx1 hold1) hp hcl (by simp) (by simp) (by simp) (by omega) (by omega) ho1 (by omega) ?_ ?_
  ·intro hgo T2 H2 w2 w3 ho2 hnx2 hf2 hold2
   refine fin T2 H2 _ _ _ ByteArray.empty sZ w2 w3 rfl ho2 (hz H2) ?_ ?_ (by omega) (by omega) fun i hi => by rw [hold2 i hi, hold1 i (by omega), hold i hi]
   ·unfold resN
    rw [if_neg (by rw [hc]; simp)]
    simp only
    rw [if_pos hgo]
   ·unfold outN
    have : (resN l).1.1 ≠ 0 := by
     unfold resN
     rw [if_neg (by rw [hc]; simp)]
     simp only
     rw [if_pos hgo]
     exact hgo
    rw [if_pos this]
  ·intro hgo T2 H2 hk2 hp2 hin2 haf
   have g5 := (haf.1 c5 (.inr (by simp))).trans hcl.h5
   have g6 := (haf.1 c6 (.inr (by simp))).trans hcl.h6
   have ho2 : Out2 h.next H2 [.string ByteArray.empty, .slice none 0 0, .slice none 0 0, .slice none 0 0, .slice none 0 0, .slice none 0 0, .slice none 0 0, iv 0] 0 0 := ho1.mono (haf.1 _ (.inl (by omega))) (haf.1 _ (.inl (by omega)))
   have hf2 := haf.2.2
   have hn2 := haf.2.1
   refine JbM (a := h.next) ht hL (by omega) ((hk2 2 (by omega)).trans (u2.trans t2)) ((hk2 3 (by omega)).trans (u3.trans t3)) ((hk2 5 (by omega)).trans u5) ((hk2 6 (by omega)).trans u6) hp2 hin2 g5 g6 (by omega) (by omega) ho2 (by omega) ?_ ?_
   ·intro hlg T3 H3 x2 x3 ho3 hnx3 hf3 hold3
    have hres : (resN l).1 = (34, J2K (goN (J0o l) l.length 0 (s0N l)).2.2.rows (J0o l) (goN (J0o l) l.length 0 (s0N l)).2.2.rules) := by
     unfold resN
     rw [if_neg (by rw [hc]; simp)]
     simp only
     rw [if_neg (by rw [hgo]; simp), if_pos hlg]
    refine fin T3 H3 _ _ _ ByteArray.empty sZ x2 x3 rfl ho3 (hz H3) hres ?_ (by omega) (by omega) fun i hi => by rw [hold3 i hi, haf.1 i (.inl (by omega)), hold1 i (by omega), hold i hi]
    unfold outN
    rw [if_pos (by rw [hres]; simp)]
   ·intro hlg T3 H3 cs x2 x3 hcs ho3 hpol hnx3 hf3 hold3
    have hres : resN l = ((0, 0), (goN (J0o l) l.length 0 (s0N l)).2.2) := by
     unfold resN
     rw [if_neg (by rw [hc]; simp)]
     simp only
     rw [if_neg (by rw [hgo]; simp), if_neg hlg]
    refine fin T3 H3 cs _ _ (J52 l) (goN (J0o l) l.length 0 (s0N l)).2.2 x2 x3 hcs ho3 (.inr (hpol.weak (by omega))) (by rw [hres]) ?_ (by omega) (by omega) fun i hi => by rw [hold3 i hi, haf.1 i (.inl (by omega)), hold1 i (by omega), hold i hi]
    unfold outN
    rw [hres]
    simp
theorem JmO {l : List RowN} {v : Value} {h : SHeap} (hfl : h.floor ≤ h.next) (hg : h.get 0 = J14) (hn0 : 0 < h.next) (hv : J0l h v l) (hL : l.length < 900000000) (hn : 2 * l.length + 110 < n) :
  ∃ v' h', J0T n 16 [v] h = some (v', h') ∧ Jld h l v' h' := by
 obtain ⟨n, rfl⟩ : ∃ j, n = j + 1 := ⟨n - 1, by omega⟩
 exact k_ex (J13 ⟨rfl, rfl, rfl⟩) (JcB (n := n) (N := n) hfl hg hn0 hv hL (by omega) (by omega)) fun v' h1 hf _ ht => Jlz hf ht
theorem Jia {l : List RowN} {v : Value} {h : SHeap} (hfl : h.floor ≤ h.next) (hg : h.get 0 = J14) (hn0 : 0 < h.next) (hv : J0l h v l) (hL : l.length < 900000000) (hn : 2 * l.length + 110 < n) :
  ∃ v' h', J0T n 16 [v] h = some (v', h') ∧ Told h l v' h' := by
 obtain ⟨v', h', h1, h2⟩ := JmO (n := n) hfl hg hn0 hv hL hn
 exact ⟨v', h', h1, h2.told⟩
end
theorem AftR.trans {h H H' : SHeap} {lo : Nat} (a : AftR h H lo) (b : AftR H H' lo) : AftR h H' lo := ⟨fun i hi => (b.1 i hi).trans (a.1 i hi), Nat.le_trans a.2.1 b.2.1, b.2.2.trans a.2.2⟩
theorem AftR.refl (h : SHeap) (lo : Nat) : AftR h h lo := ⟨fun _ _ => rfl, Nat.le_refl _, rfl⟩
section
variable {n N : Nat}
end
noncomputable def Jc8 : J0r := J4e 14 J14
def Jfx : Option (Value × SHeap) → Bool
 | some (.bool b, _) => b
 | _ => false
theorem JjS : Jfx (J5H Tryd.prog 400 14 [] Jfv) = true := by kernel_rfl
theorem Jeo : J1x Tryd.prog Jc8 ∧ J1G Jc8 := by
 have h := JjS
 unfold Jfx at h
 split at h
 ·rename_i b h' hs
  cases h
  exact Jbs J2f Jg1 (by kernel_rfl) hs
 ·cases h
noncomputable def Jb4 (n : Nat) : J0r := orS Jc8 (J0T n)
theorem JaT (n : Nat) : J1x Tryd.prog (Jb4 n) ∧ J1G (Jb4 n) := Jav Jeo (J1z n)
section
variable {n : Nat} {f : FuncId} {args : List Value} {h : SHeap} {r : Value × SHeap}
theorem JfG (hg : h.get 0 = J14) : Jb4 n 14 [] h = some (.bool true, h) := by
 refine Ja4 ?_
 unfold Jc8 J4e
 rw [if_pos ⟨rfl, rfl, hg⟩]
theorem t_k (hf : f ≠ 14) (hb : J0T n f args h = some r) : Jb4 n f args h = some r := by
 unfold Jb4 orS
 have : Jc8 f args h = none := by
  unfold Jc8 J4e
  rw [if_neg (fun hc => hf hc.1)]
 rw [this]
 exact hb
end
end Go.Proofs.YtipekdhneagdbaaDoor
