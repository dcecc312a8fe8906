/- Each operation of the shadow reading is the machine's: addresses, slices, values. -/
import Derived.Test.YtdnnjkneablfiaaGreatDoorSx3
namespace Go.Sx
open Go
set_option linter.unusedSimpArgs false
set_option linter.unusedVariables false

section
variable {P : Program} {ρ : Map} {h : SHeap} {W : World}

theorem vrel_ptr_add {a : Addr} {A : Value} (ha : vrel ρ (.pointer (some a)) A) (n : Nat) : ∃ B : Addr, A = .pointer (some B) ∧ vrel ρ (.pointer (some (a.add n))) (.pointer (some (B.add n))) := by
  obtain ⟨L, hL, hs, rfl⟩ := vrel_ptr' ha
  obtain ⟨b, o, s⟩ := a
  simp only at hs
  subst hs
  refine ⟨_, rfl, ?_⟩
  rw [add_lit, add_lit, Nat.add_assoc]
  exact .ptr hL

theorem vrel_slice {a : Option Addr} {n c : Nat} {V : Value} (hv : vrel ρ (.slice a n c) V) :
    (a = none ∧ n = 0 ∧ c = 0 ∧ V = .slice none 0 0) ∨
    (∃ id off L, a = some ⟨id, off, none⟩ ∧ ρ id = some L ∧ c < unk ∧ V = .slice (some ⟨L.b, L.d + off, none⟩) n c) ∨
    (∃ id off L A C, a = some ⟨id, off, none⟩ ∧ ρ id = some L ∧ c = unk ∧ n ≤ C ∧ V = .slice (some A) n C ∧ (C = 0 ∨ (A = ⟨L.b, L.d + off, none⟩ ∧ off + C * L.z = L.e))) := by
  cases hv with
  | flat hf =>
    left
    cases a with
    | none => cases n <;> cases c <;> simp_all [flat1]
    | some a => simp [flat1] at hf
  | slice hL hc => exact .inr (.inl ⟨_, _, _, rfl, hL, hc, rfl⟩)
  | sliceU hL hn hA => exact .inr (.inr ⟨_, _, _, _, _, rfl, hL, rfl, hn, rfl, hA⟩)

theorem idxAddr_ok {t : TypeId} {x X i I v : Value} (hx : vrel ρ x X) (hi : vrel ρ i I) (hs : idxAddr P t x i = some v) :
    ∃ V, (Instr.indexAt t X I).run P W = .ok V W ∧ vrel ρ v V := by
  unfold idxAddr at hs
  split at hs
  · rename_i e a len cap k n hu
    split at hs
    · rename_i hb
      split at hs
      · rename_i s hz
        cases hs
        obtain rfl := vrel_int hi
        rcases vrel_slice hx with ⟨h1, _⟩ | ⟨id, off, L, h1, hL, _, rfl⟩ | ⟨id, off, L, A, C, h1, hL, _, hC, rfl, hA⟩
        · cases h1
        · cases h1
          refine ⟨.pointer (some ((⟨L.b, L.d + off, none⟩ : Addr).add (n.toNat * s))), ?_, ?_⟩
          · simp [Instr.indexAt, run_underlying hu, asIntOf, hb.1, hb.2, run_sizeOf hz]
          · rw [add_lit, add_lit, Nat.add_assoc]; exact .ptr hL
        · cases h1
          rcases hA with rfl | ⟨rfl, _⟩
          · omega
          · refine ⟨.pointer (some ((⟨L.b, L.d + off, none⟩ : Addr).add (n.toNat * s))), ?_, ?_⟩
            · simp [Instr.indexAt, run_underlying hu, asIntOf, hb.1, hb.2, run_sizeOf hz]
            · rw [add_lit, add_lit, Nat.add_assoc]; exact .ptr hL
      · cases hs
    · cases hs
  · rename_i len e a k n hu
    split at hs
    · rename_i hb
      split at hs
      · rename_i s hz
        cases hs
        obtain rfl := vrel_int hi
        obtain ⟨B, rfl, hr⟩ := vrel_ptr_add hx (n.toNat * s)
        exact ⟨_, by simp [Instr.indexAt, run_underlying hu, asIntOf, Instr.sureAddr, hb.1, hb.2, run_sizeOf hz], hr⟩
      · cases hs
    · cases hs
  · cases hs

theorem bound_ok {x X : Option Value} {d hi m : Nat} {code : BoundsCode} (hx : All2 (vrel ρ) x.toList X.toList) (hs : bound x d 0 hi = some m) :
    (x = none ∧ X = none ∧ m = d) ∨ (∃ v, X = some v ∧ (∃ w, x = some w) ∧ m ≤ hi ∧ ∀ hi' code, hi ≤ hi' → (Instr.sliceBound v hi' code).run P W = .ok m W) := by
  cases x with
  | none =>
    cases X with
    | none => simp [bound] at hs; exact .inl ⟨rfl, rfl, hs.symm⟩
    | some V => cases hx
  | some v =>
    cases X with
    | none => cases hx
    | some V =>
      simp at hx
      cases hx with
      | cons hr _ =>
      unfold bound at hs
      split at hs
      · cases ‹some v = none›
      · rename_i k n hv
        cases hv
        obtain rfl := vrel_int hr
        split at hs
        · rename_i hb
          cases hs
          refine .inr ⟨_, rfl, ⟨_, rfl⟩, by omega, fun hi' code hh => ?_⟩
          have h1 : 0 ≤ n := by omega
          have h2 : n ≤ (hi' : Int) := by omega
          simp [Instr.sliceBound, asIntOf, h1, h2]
        · cases hs
      · cases hs

theorem slice_run {t e : TypeId} {s : Nat} (hu : P.underlying t = some (.slice e)) (hz : szOf P e = some s) {A : Option Addr} {len cap l hh m : Nat} {LO HI MX : Option Value}
    (hb : (Instr.sliceBounds true len cap LO HI MX).run P W = .ok (l, hh, m) W) :
    (Instr.sliceAt t (.slice A len cap) LO HI MX).run P W = .ok (.slice (if m = l then A else A.map (·.add (l * s))) (hh - l) (m - l)) W := by
  simp [Instr.sliceAt, Instr.slice, run_underlying hu, hb, run_sizeOf hz]

theorem bounds_run {len cap l hh m : Nat} {lo hi mx LO HI MX : Option Value} (hlo : All2 (vrel ρ) lo.toList LO.toList) (hhi : All2 (vrel ρ) hi.toList HI.toList) (hmx : All2 (vrel ρ) mx.toList MX.toList)
    {top tp : Nat} (htop : top ≤ m)
    (h1 : (mx = none ∧ m = cap) ∨ (∃ v, mx = some v ∧ bound mx 0 0 cap = some m ∧ ∃ w, hi = some w)) (h2 : bound hi len 0 top = some hh)
    (h3 : bound lo 0 0 hh = some l) (sl : Bool) :
    (Instr.sliceBounds sl len cap LO HI MX).run P W = .ok (l, hh, m) W := by
  rcases h1 with ⟨rfl, rfl⟩ | ⟨v, rfl, h1, ⟨w, rfl⟩⟩
  · have : MX = none := by cases MX with | none => rfl | some _ => cases hmx
    subst this
    rcases bound_ok (P := P) (W := W) (code := .index) hhi h2 with ⟨rfl, rfl, rfl⟩ | ⟨V, rfl, ⟨w, rfl⟩, hm, hr⟩
    · rcases bound_ok (P := P) (W := W) (code := .index) hlo h3 with ⟨rfl, rfl, rfl⟩ | ⟨V, rfl, _, hm, hr⟩
      · simp [Instr.sliceBounds]
      · simp [Instr.sliceBounds, hr _ _ (Nat.le_refl _)]
    · rcases bound_ok (P := P) (W := W) (code := .index) hlo h3 with ⟨rfl, rfl, rfl⟩ | ⟨V, rfl, _, hm', hr'⟩
      · simp [Instr.sliceBounds, hr _ _ htop]
      · simp [Instr.sliceBounds, hr _ _ htop, hr' _ _ (Nat.le_refl _)]
  · rcases bound_ok (P := P) (W := W) (code := .index) hmx h1 with ⟨h, _⟩ | ⟨VM, rfl, _, hm0, hrm⟩
    · cases h
    · rcases bound_ok (P := P) (W := W) (code := .index) hhi h2 with ⟨h, _⟩ | ⟨VH, rfl, _, hm1, hrh⟩
      · cases h
      · rcases bound_ok (P := P) (W := W) (code := .index) hlo h3 with ⟨rfl, rfl, rfl⟩ | ⟨V, rfl, _, hm', hr'⟩
        · simp [Instr.sliceBounds, hrm _ _ (Nat.le_refl _), hrh _ _ htop]
        · simp [Instr.sliceBounds, hrm _ _ (Nat.le_refl _), hrh _ _ htop, hr' _ _ (Nat.le_refl _)]

theorem bound_le {x : Option Value} {d hi m : Nat} (hs : bound x d 0 hi = some m) : m = d ∨ m ≤ hi := by
  unfold bound at hs
  split at hs
  · cases hs; exact .inl rfl
  · split at hs
    · cases hs; right; omega
    · cases hs
  · cases hs

theorem sliceS_ok (hR : Rel P ρ h W) {t : TypeId} {x X v : Value} {lo hi mx LO HI MX : Option Value} (hx : vrel ρ x X) (hlo : All2 (vrel ρ) lo.toList LO.toList) (hhi : All2 (vrel ρ) hi.toList HI.toList)
    (hmx : All2 (vrel ρ) mx.toList MX.toList) (hs : sliceS P h t x lo hi mx = some v) : ∃ V, (Instr.sliceAt t X LO HI MX).run P W = .ok V W ∧ vrel ρ v V := by
  unfold sliceS at hs
  split at hs
  · rename_i e a len cap hu
    split at hs
    · rename_i s hz
      split at hs
      · rename_i hc
        subst hc
        split at hs
        · rename_i hh hbh
          split at hs
          · rename_i l id off hbl
            rcases vrel_slice hx with ⟨h1, _⟩ | ⟨id', off', L, h1, hL, hlt, _⟩ | ⟨id', off', L, A, C, h1, hL, _, hC, rfl, hA⟩
            · cases h1
            · omega
            · cases h1
              have hrun := bounds_run (P := P) (W := W) (len := len) (cap := C) (m := C) (top := len) (tp := 0) hlo hhi hmx hC (.inl ⟨rfl, rfl⟩) hbh hbl true
              have hhl : hh ≤ len := by rcases bound_le hbh with h | h <;> omega
              have hll : l ≤ hh := by rcases bound_le hbl with h | h <;> omega
              refine ⟨_, slice_run hu hz hrun, ?_⟩
              split at hs
              · rename_i hl0
                cases hs
                subst hl0
                simp only [Nat.sub_zero, Nat.zero_mul]
                have hadd : (Option.map (fun x : Addr => x.add 0) (some A)) = some A := by simp [Addr.add]
                rw [hadd]
                have : (if C = 0 then some A else some A) = some A := by split <;> rfl
                rw [this]
                exact .sliceU hL (by omega) hA
              · rename_i hl0
                split at hs
                · rename_i cs ty gr hg
                  split at hs
                  · rename_i hty
                    cases hs
                    obtain ⟨CS, ty', fr, hb, hcs, hown⟩ := row_get hR hg hL
                    obtain ⟨_, rfl, _, hzz⟩ := hown rfl
                    rw [hty] at hzz
                    cases hzz
                    by_cases hcl : C = l
                    · rw [if_pos hcl]
                      exact .sliceU hL (by omega) (.inl (by omega))
                    · rw [if_neg hcl]
                      rcases hA with rfl | ⟨rfl, he⟩
                      · omega
                      · simp only [Option.map_some, add_lit]
                        refine .sliceU hL (by omega) (.inr ⟨by rw [Nat.add_assoc], ?_⟩)
                        rw [← he, Nat.add_assoc, ← Nat.add_mul]
                        congr 2
                        omega
                  · cases hs
                · cases hs
          · cases hs
        · cases hs
      · rename_i hc
        split at hs
        · rename_i m hm
          split at hs
          · rename_i hh hbh
            split at hs
            · rename_i l hbl
              cases hs
              have hmc : m ≤ cap := by
                cases mx with
                | none => simp at hm; omega
                | some w =>
                  simp only at hm
                  split at hm
                  · rcases bound_le hm with h | h <;> omega
                  · cases hm
              have h1 : (mx = none ∧ m = cap) ∨ (∃ v, mx = some v ∧ bound mx 0 0 cap = some m ∧ ∃ w, hi = some w) := by
                cases mx with
                | none => simp at hm; exact .inl ⟨rfl, hm.symm⟩
                | some w =>
                  simp only at hm
                  split at hm
                  · rename_i w2
                    exact .inr ⟨_, rfl, hm, ⟨_, rfl⟩⟩
                  · cases hm
              have hrun := bounds_run (P := P) (W := W) (len := len) (cap := cap) (m := m) (top := m) (tp := 0) hlo hhi hmx (Nat.le_refl _) h1 hbh hbl true
              rcases vrel_slice hx with ⟨rfl, rfl, rfl, rfl⟩ | ⟨id', off', L, rfl, hL, hlt, rfl⟩ | ⟨id', off', L, A, C, h1, hL, hcu, hC, rfl, hA⟩
              · refine ⟨_, slice_run hu hz hrun, ?_⟩
                have : m - l = 0 := by omega
                have hh0 : hh - l = 0 := by
                  rcases bound_le hbh with h | h <;> omega
                rw [this, hh0]
                have e : (if m = l then (none : Option Addr) else Option.map (fun x : Addr => x.add (l * s)) none) = none := by split <;> rfl
                rw [e]
                exact .flat rfl
              · refine ⟨_, slice_run hu hz hrun, ?_⟩
                by_cases hml : m = l
                · rw [if_pos hml, if_pos hml]
                  exact .slice hL (by omega)
                · rw [if_neg hml, if_neg hml]
                  simp only [Option.map_some, add_lit]
                  rw [Nat.add_assoc]
                  exact .slice hL (by omega)
              · exact absurd hcu hc
            · cases hs
          · cases hs
        · cases hs
    · cases hs
  · rename_i s hu
    split at hs
    · cases hs
    · rename_i hm
      split at hs
      · rename_i hh hbh
        split at hs
        · rename_i l hbl
          cases hs
          obtain rfl := vrel_str hx
          have hmn : mx = none := by cases mx <;> simp_all
          subst hmn
          have : MX = none := by cases MX with | none => rfl | some _ => cases hmx
          subst this
          have hrun := bounds_run (P := P) (W := W) (len := s.size) (cap := s.size) (m := s.size) (top := s.size) (tp := 0) hlo hhi hmx (Nat.le_refl _) (.inl ⟨rfl, rfl⟩) hbh hbl false
          exact ⟨_, by simp [Instr.sliceAt, Instr.slice, run_underlying hu, hrun], .flat rfl⟩
        · cases hs
      · cases hs
  · rename_i n e a hu
    split at hs
    · cases hs
    · rename_i hm
      split at hs
      · rename_i hh hbh
        split at hs
        · rename_i l hbl
          split at hs
          · rename_i s hz
            cases hs
            simp only [Bool.or_eq_true, decide_eq_true_eq, not_or] at hm
            have hmn : mx = none := by cases mx <;> simp_all
            subst hmn
            have : MX = none := by cases MX with | none => rfl | some _ => cases hmx
            subst this
            have hrun := bounds_run (P := P) (W := W) (len := n) (cap := n) (m := n) (top := n) (tp := 0) hlo hhi hmx (Nat.le_refl _) (.inl ⟨rfl, rfl⟩) hbh hbl false
            obtain ⟨L, hL, hsp, rfl⟩ := vrel_ptr' hx
            obtain ⟨b, o, sp⟩ := a
            simp only at hsp
            subst hsp
            refine ⟨.slice (some (if n = l then ⟨L.b, L.d + o, none⟩ else (⟨L.b, L.d + o, none⟩ : Addr).add (l * s))) (hh - l) (n - l), ?_, ?_⟩
            · simp [Instr.sliceAt, run_underlying hu, Instr.sureAddr, hrun, run_sizeOf hz]
            · have hlt : n - l < unk := by unfold unk; omega
              split
              · exact .slice hL hlt
              · rw [add_lit, add_lit, Nat.add_assoc]; exact .slice hL hlt
          · cases hs
        · cases hs
      · cases hs
  · cases hs

theorem unk_big {n : Nat} (h : n ≤ 281474976710656) : n ≠ unk := by unfold unk; omega

theorem fieldAddrS_ok {s : TypeId} {x X v : Value} {f : Nat} (hx : vrel ρ x X) (hs : fieldAddrS P s x f = some v) : ∃ V, (Instr.fieldAt s X f).run P W = .ok V W ∧ vrel ρ v V := by
  unfold fieldAddrS at hs
  split at hs
  · rename_i fs a hu
    split at hs
    · rename_i fd hf
      split at hs
      · cases hs
      · rename_i n h0 hz
        cases hs
        obtain ⟨B, rfl, hr⟩ := vrel_ptr_add hx fd.offset
        refine ⟨_, ?_, hr⟩
        simp [Instr.fieldAt, run_underlying hu, hf, Instr.sureAddr, fieldPlace, run_sizeOf hz]
        intro h; exact absurd h h0
      · cases hs
    · cases hs
  · cases hs

theorem all2_extract {cs CS : Array Value} (hc : All2 (vrel ρ) cs.toList CS.toList) (a b : Nat) : All2 (vrel ρ) (cs.extract a b).toList (CS.extract a b).toList := by
  simp only [Array.toList_extract, List.extract_eq_take_drop]
  exact (hc.drop a).take (b - a)

theorem fieldS_ok {s : TypeId} {x X v : Value} {f : Nat} (hx : vrel ρ x X) (hs : fieldS P s x f = some v) : ∃ V, (Instr.field s X f).run P W = .ok V W ∧ vrel ρ v V := by
  unfold fieldS at hs
  split at hs
  · rename_i fs cs hu
    obtain ⟨CS, rfl, hcs⟩ := vrel_agg hx
    split at hs
    · rename_i fd hf
      split at hs
      · rename_i hag
        split at hs
        · rename_i n hz
          cases hs
          exact ⟨_, by simp [Instr.field, run_underlying hu, hf, asAgg, part, run_isAgg hag, run_sizeOf hz], .agg (all2_extract hcs _ _)⟩
        · cases hs
      · rename_i hag
        obtain ⟨V, hV, hr⟩ := hcs.get (i := fd.offset) (a := v) (by simpa using hs)
        simp at hV
        exact ⟨V, by simp [Instr.field, run_underlying hu, hf, asAgg, part, run_isAgg hag, hV], hr⟩
      · cases hs
    · cases hs
  · cases hs

end
end Go.Sx
