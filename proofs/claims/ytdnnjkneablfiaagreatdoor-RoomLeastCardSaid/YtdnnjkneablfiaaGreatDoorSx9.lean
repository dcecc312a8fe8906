/- What an operation of the shadow reading looks at, and what it leaves. -/
import Derived.Test.YtdnnjkneablfiaaGreatDoorSx8
namespace Go.Sx
open Go
set_option linter.unusedSimpArgs false
set_option linter.unusedVariables false

/-- The heap has gone on; what is shielded has not turned. -/
structure SNx (h h' : SHeap) : Prop where
  nx : h.next ≤ h'.next
  floor : h'.floor = h.floor
  keep : ∀ i, i < h.next → i < h.floor → h'.get i = h.get i

theorem SNx.refl (h : SHeap) : SNx h h := ⟨Nat.le_refl _, rfl, fun _ _ _ => rfl⟩
theorem SNx.trans {a b c : SHeap} (h : SNx a b) (k : SNx b c) : SNx a c :=
  ⟨Nat.le_trans h.nx k.nx, k.floor.trans h.floor, fun i hi hf => (k.keep i (Nat.lt_of_lt_of_le hi h.nx) (by rw [h.floor]; exact hf)).trans (h.keep i hi hf)⟩
theorem SNx.push (h : SHeap) (o : SObj) : SNx h (h.push o) := ⟨by simp [SHeap.push], rfl, fun i hi _ => get_push_old hi⟩
theorem SNx.put {h : SHeap} {i : Nat} {o : SObj} (hi : i < h.next) (hf : h.floor ≤ i) : SNx h (h.put i o) := ⟨Nat.le_refl _, rfl, fun j _ hj => get_put_ne hi (by omega)⟩
theorem SNx.unfl {h h' : SHeap} {f : Nat} (hf : h.floor ≤ f) (hn : SNx (h.fl f) h') : SNx h (h'.fl h.floor) :=
  ⟨hn.nx, rfl, fun i hi hl => hn.keep i hi (Nat.lt_of_lt_of_le hl hf)⟩

section
variable {P : Program} {call : SCall}

theorem storeRow_snx {h h' : SHeap} {id off : Nat} {new : List Value} (hs : storeRow h id off new = some h') : ∃ o, h' = h.put id o ∧ id < h.next ∧ h.floor ≤ id ∧ wr (h.get id) ∧ ∀ h2 : SHeap, h2.get id = h.get id → h2.floor = h.floor → storeRow h2 id off new = some (h2.put id o) := by
  unfold storeRow at hs
  split at hs
  · rename_i cs ty g hg
    split at hs
    · rename_i hc
      simp only [Bool.and_eq_true, decide_eq_true_eq] at hc
      cases hs
      refine ⟨_, rfl, get_lt (by rw [hg]; simp), hc.1.1, by rw [hg]; rfl, fun h2 he hf => ?_⟩
      unfold storeRow
      rw [he, hg]
      simp only [hf, hc.1.1, hc.1.2, hc.2, decide_true, Bool.and_self, if_true]
    · cases hs
  · cases hs

theorem storeS_snx {h h' : SHeap} {t : TypeId} {a v : Value} (hs : storeS P h t a v = some h') : ∃ id o, idOf a = some id ∧ h' = h.put id o ∧ id < h.next ∧ h.floor ≤ id ∧ wr (h.get id) ∧ ∀ h2 : SHeap, h2.get id = h.get id → h2.floor = h.floor → storeS P h2 t a v = some (h2.put id o) := by
  unfold storeS at hs
  split at hs
  · split at hs
    · rename_i hsz
      obtain ⟨o, h1, h2, h3, h4, h5⟩ := storeRow_snx hs
      refine ⟨_, o, rfl, h1, h2, h3, h4, fun h2 he hf => ?_⟩
      unfold storeS
      simp only [hsz, if_true]
      exact h5 h2 he hf
    · cases hs
  · cases hs

theorem updateS_snx {h h' : SHeap} {t : TypeId} {m k v : Value} (hs : updateS P h t m k v = some h') : ∃ id o, idOf m = some id ∧ h' = h.put id o ∧ id < h.next ∧ h.floor ≤ id ∧ wr (h.get id) ∧ ∀ h2 : SHeap, h2.get id = h.get id → h2.floor = h.floor → updateS P h2 t m k v = some (h2.put id o) := by
  unfold updateS at hs
  split at hs
  · split at hs
    · rename_i hc
      simp only [Bool.and_eq_true, decide_eq_true_eq] at hc
      split at hs
      · rename_i es hg
        split at hs
        · rename_i r hf2
          cases hs
          refine ⟨_, _, rfl, rfl, get_lt (by rw [hg]; simp), hc.2, by rw [hg]; trivial, fun h2 he hf => ?_⟩
          have hu := ‹P.underlying t = some (.map _ _)›
          unfold updateS
          rw [hu]
          simp only [hf, hc.1, hc.2, decide_true, Bool.and_self, if_true, he, hg, hf2]
        · cases hs
      · cases hs
    · cases hs
  · cases hs

theorem appendS_snx {h h' : SHeap} {t : TypeId} {x y v : Value} (hs : appendS P h t x y = some (v, h')) : SNx h h' := by
  unfold appendS at hs
  split at hs
  · split at hs
    · split at hs
      · split at hs
        · split at hs
          · split at hs
            · split at hs
              · split at hs
                · rename_i hc1
                  simp only [Bool.and_eq_true, decide_eq_true_eq] at hc1
                  split at hs
                  · cases hs; exact .refl _
                  · split at hs
                    · rename_i hg
                      split at hs
                      · split at hs
                        · split at hs
                          · cases hs
                            exact (SNx.put (get_lt (by rw [hg]; simp)) hc1.2).trans (.push _ _)
                          · cases hs
                        · cases hs
                      · cases hs
                    · cases hs
                · cases hs
              · cases hs
            · split at hs
              · split at hs
                · cases hs; exact .refl _
                · split at hs
                  · split at hs
                    · rename_i hst
                      cases hs
                      obtain ⟨o, rfl, h2, h3, _⟩ := storeRow_snx hst
                      exact .put h2 h3
                    · cases hs
                  · cases hs
              · split at hs
                · split at hs
                  · cases hs; exact .push _ _
                  · cases hs
                · cases hs
          · cases hs
        · cases hs
      · cases hs
    · cases hs
  · cases hs

theorem copyS_snx {h h' : SHeap} {t : TypeId} {x y v : Value} (hs : copyS P h t x y = some (v, h')) : SNx h h' := by
  unfold copyS at hs
  split at hs
  · split at hs
    · simp only at hs
      split at hs
      · split at hs
        · split at hs
          · cases hs; exact .refl _
          · split at hs
            · rename_i hst
              cases hs
              obtain ⟨o, rfl, h2, h3, _⟩ := storeRow_snx hst
              exact .put h2 h3
            · cases hs
        · cases hs; exact .refl _
        · cases hs
      · cases hs
    · cases hs
  · cases hs

theorem callS_snx (hcall : ∀ f args h v h', call f args h = some (v, h') → SNx h h') {T : Tr} {h h' : SHeap} {c : Call} {v : Value} (hs : callS P call T h c = some (v, h')) : SNx h h' := by
  unfold callS at hs
  split at hs
  · split at hs
    · simp only [Option.map_eq_some_iff, Prod.mk.injEq] at hs
      obtain ⟨u, _, _, rfl⟩ := hs
      exact .refl _
    · cases hs
  · split at hs
    · split at hs
      · exact appendS_snx hs
      · cases hs
    · cases hs
  · split at hs
    · split at hs
      · exact copyS_snx hs
      · cases hs
    · cases hs
  · simp only [Option.map_eq_some_iff, Prod.mk.injEq] at hs
    obtain ⟨u, _, _, rfl⟩ := hs
    exact .refl _
  · simp only [Option.map_eq_some_iff, Prod.mk.injEq] at hs
    obtain ⟨u, _, _, rfl⟩ := hs
    exact .refl _
  · split at hs
    · exact hcall _ _ _ _ _ hs
    · cases hs
  · split at hs
    · split at hs
      · exact hcall _ _ _ _ _ hs
      · cases hs
    · cases hs
  · cases hs

/-- An operation that only reckons. -/
theorem sop_pure {T : Tr} {h h' : SHeap} {op : Op} {v : Value} (hc : clsOf op = .pure) (hm : ∀ c, op = .call c → ∀ r, c.args.toList.map (ev T) ≠ [.map r]) (hs : sop P call T h op = some (v, h')) : h' = h ∧ ∀ h2, sop P call T h2 op = some (v, h2) := by
  cases op with
  | call c =>
    simp only [clsOf] at hc
    simp only [sop] at hs ⊢
    unfold callS at hs ⊢
    split at hc
    · rename_i hcc
      simp only [hcc] at hs ⊢
      split at hs
      · rename_i t x ht hx
        simp only [Option.map_eq_some_iff, Prod.mk.injEq] at hs
        obtain ⟨u, hu, rfl, rfl⟩ := hs
        refine ⟨rfl, fun h2 => ?_⟩
        have hne : ∀ r, x ≠ .map r := fun r e => hm c rfl r (by unfold evs at hx; rw [hx, e])
        have : lenS P h2 t x = some u := by
          rw [← hu]
          unfold lenS
          split <;> simp_all
        simp [this]
      · cases hs
    · rename_i hcc
      simp only [hcc] at hs ⊢
      simp only [Option.map_eq_some_iff, Prod.mk.injEq] at hs
      obtain ⟨u, hu, rfl, rfl⟩ := hs
      exact ⟨rfl, fun h2 => by simp [hu]⟩
    · rename_i hcc
      simp only [hcc] at hs ⊢
      simp only [Option.map_eq_some_iff, Prod.mk.injEq] at hs
      obtain ⟨u, hu, rfl, rfl⟩ := hs
      exact ⟨rfl, fun h2 => by simp [hu]⟩
    · cases hc
  | pick c a b =>
    simp only [sop] at hs ⊢
    split at hs
    · simp at hs; obtain ⟨rfl, rfl⟩ := hs; exact ⟨rfl, fun _ => rfl⟩
    · cases hs
  | nilCheck x =>
    simp only [sop] at hs ⊢
    split at hs
    · simp at hs; obtain ⟨rfl, rfl⟩ := hs; exact ⟨rfl, fun _ => rfl⟩
    · simp at hs; obtain ⟨rfl, rfl⟩ := hs; exact ⟨rfl, fun _ => rfl⟩
    · cases hs
  | unOp a b x =>
    simp only [sop] at hs ⊢
    split at hs
    · rename_i h1
      split at hs
      · rename_i u h2
        split at hs
        · rename_i h3
          simp at hs; obtain ⟨rfl, rfl⟩ := hs; exact ⟨rfl, fun _ => by rw [if_pos h1, if_pos h3]⟩
        · cases hs
      · cases hs
    · cases hs
  | index a b x =>
    simp only [sop] at hs ⊢
    split at hs
    · rename_i h1
      split at hs
      · rename_i u h2
        split at hs
        · rename_i h3
          simp at hs; obtain ⟨rfl, rfl⟩ := hs; exact ⟨rfl, fun _ => by rw [if_pos h1, if_pos h3]⟩
        · cases hs
      · cases hs
    · cases hs
  | extract a b =>
    simp only [sop] at hs ⊢
    split at hs
    · simp only [Option.map_eq_some_iff, Prod.mk.injEq] at hs
      obtain ⟨u, hu, rfl, rfl⟩ := hs
      exact ⟨rfl, fun h2 => by simp [hu]⟩
    · cases hs
  | move x => simp [sop] at hs ⊢; exact ⟨hs.2.symm, fun _ => hs.1⟩
  | assign x => simp [sop] at hs ⊢; exact ⟨hs.2.symm, fun _ => hs.1⟩
  | makeFunc fn a b => simp [sop] at hs ⊢; exact ⟨hs.2.symm, fun _ => hs.1⟩
  | build t parts =>
    simp only [sop, Option.map_eq_some_iff, Prod.mk.injEq] at hs ⊢
    obtain ⟨u, hu, rfl, rfl⟩ := hs
    exact ⟨rfl, fun h2 => ⟨_, hu, rfl, trivial⟩⟩
  | binOp a b c d e =>
    simp only [sop, Option.map_eq_some_iff, Prod.mk.injEq] at hs ⊢
    obtain ⟨u, hu, rfl, rfl⟩ := hs
    exact ⟨rfl, fun h2 => ⟨_, hu, rfl, trivial⟩⟩
  | fieldAddr a b c =>
    simp only [sop, Option.map_eq_some_iff, Prod.mk.injEq] at hs ⊢
    obtain ⟨u, hu, rfl, rfl⟩ := hs
    exact ⟨rfl, fun h2 => ⟨_, hu, rfl, trivial⟩⟩
  | field a b c =>
    simp only [sop, Option.map_eq_some_iff, Prod.mk.injEq] at hs ⊢
    obtain ⟨u, hu, rfl, rfl⟩ := hs
    exact ⟨rfl, fun h2 => ⟨_, hu, rfl, trivial⟩⟩
  | indexAddr a b c =>
    simp only [sop, Option.map_eq_some_iff, Prod.mk.injEq] at hs ⊢
    obtain ⟨u, hu, rfl, rfl⟩ := hs
    exact ⟨rfl, fun h2 => ⟨_, hu, rfl, trivial⟩⟩
  | makeInterface t x =>
    simp only [sop] at hs ⊢
    split at hs
    · cases hs
    · simp at hs; obtain ⟨rfl, rfl⟩ := hs; exact ⟨rfl, fun _ => rfl⟩
    · cases hs
  | typeAssert a b c d =>
    simp only [sop, Option.map_eq_some_iff, Prod.mk.injEq] at hs ⊢
    obtain ⟨u, hu, rfl, rfl⟩ := hs
    exact ⟨rfl, fun h2 => ⟨_, hu, rfl, trivial⟩⟩
  | makeMap t r => simp [clsOf] at hc
  | load t r => simp [clsOf] at hc
  | _ => first | (simp [clsOf] at hc; done) | (simp [sop] at hs; done)

theorem makeSlice_new {h h' : SHeap} {t : TypeId} {l c v : Value} (hs : makeSliceS P h t l c = some (v, h')) : ∃ o, wr o ∧ h' = h.push o ∧ ∀ h2 : SHeap, h2.next = h.next → makeSliceS P h2 t l c = some (v, h2.push o) := by
  unfold makeSliceS at hs ⊢
  split at hs
  · split at hs
    · split at hs
      · rename_i hc
        cases hs
        exact ⟨.row _ _ _ false, rfl, rfl, fun h2 hn => by simp only [hc, if_true, hn]⟩
      · cases hs
    · cases hs
  · cases hs

theorem buildSlice_new {h h' : SHeap} {t : TypeId} {n : Nat} {l : List (Nat × Value)} {v : Value} (hs : buildSliceS P h t n l = some (v, h')) : ∃ o, wr o ∧ h' = h.push o ∧ ∀ h2 : SHeap, h2.next = h.next → buildSliceS P h2 t n l = some (v, h2.push o) := by
  unfold buildSliceS at hs ⊢
  split at hs
  · split at hs
    · split at hs
      · rename_i hc
        split at hs
        · rename_i cs hcs
          cases hs
          exact ⟨.row _ _ _ false, rfl, rfl, fun h2 hn => by simp only [hc, if_true, hcs, hn]⟩
        · cases hs
      · cases hs
    · cases hs
  · cases hs

/-- An operation that makes one object. -/
theorem sop_new {T : Tr} {h h' : SHeap} {op : Op} {v : Value} (hc : clsOf op = .new) (hs : sop P call T h op = some (v, h')) : ∃ o, wr o ∧ h' = h.push o ∧ ∀ h2 : SHeap, h2.next = h.next → sop P call T h2 op = some (v, h2.push o) := by
  cases op with
  | alloc e =>
    simp only [sop] at hs ⊢
    split at hs
    · split at hs
      · rename_i hf
        simp at hs
        obtain ⟨rfl, rfl⟩ := hs
        exact ⟨.row _ _ _ false, rfl, rfl, fun h2 hn => by simp [hn, hf]⟩
      · cases hs
    · cases hs
  | box e x =>
    simp only [sop] at hs ⊢
    split at hs
    · rename_i hone
      split at hs
      · simp at hs
        obtain ⟨rfl, rfl⟩ := hs
        exact ⟨.row _ _ _ false, rfl, rfl, fun h2 hn => by simp [hn, hone]⟩
      · cases hs
    · cases hs
  | makeMap t r =>
    cases r with
    | some r => simp [sop] at hs
    | none =>
      simp only [sop, Option.some.injEq, Prod.mk.injEq] at hs ⊢
      obtain ⟨rfl, rfl⟩ := hs
      exact ⟨.map [], trivial, rfl, fun h2 hn => by simp [hn]⟩
  | makeSlice t l c => simp only [sop] at hs ⊢; exact makeSlice_new hs
  | buildSlice t n l => simp only [sop] at hs ⊢; exact buildSlice_new hs
  | call c =>
    simp only [clsOf] at hc
    split at hc <;> cases hc
  | _ => first | (simp [clsOf] at hc; done) | (simp [sop] at hs; done)

theorem srcCells_same {h h2 : SHeap} {s n : Nat} {x : Value} (he : ∀ id, idOf x = some id → h2.get id = h.get id) : srcCells h2 s n x = srcCells h s n x := by
  unfold srcCells
  split
  · rfl
  · rename_i id off _ _
    rw [he id rfl]
  · rfl

theorem sliceS_same {h h2 : SHeap} {t : TypeId} {x : Value} {lo hi mx : Option Value} (he : ∀ id, idOf x = some id → h2.get id = h.get id) : sliceS P h2 t x lo hi mx = sliceS P h t x lo hi mx := by
  unfold sliceS
  cases x with
  | slice b n c =>
    cases P.underlying t with
    | none => rfl
    | some d =>
      cases d with
      | slice e =>
        simp only
        cases szOf P e with
        | none => rfl
        | some s =>
          simp only
          by_cases hc : c = unk
          · rw [if_pos hc, if_pos hc]
            cases mx with
            | some m => rfl
            | none =>
              cases bound hi n 0 n with
              | none => rfl
              | some hh =>
                simp only
                cases bound lo 0 0 hh with
                | none => rfl
                | some l =>
                  cases b with
                  | none => rfl
                  | some b =>
                    obtain ⟨b, o, sp⟩ := b
                    cases sp with
                    | some sp => rfl
                    | none => simp only [he b rfl]
          · rw [if_neg hc, if_neg hc]
      | _ => rfl
  | pointer a => cases P.underlying t with
    | none => rfl
    | some d => cases d <;> (first | rfl | (cases a <;> rfl))
  | _ => cases P.underlying t with
    | none => rfl
    | some d => cases d <;> rfl

/-- An operation that reads. -/
theorem sop_read {T : Tr} {h h' : SHeap} {op : Op} {v : Value} {a : Operand} (hc : clsOf op = .read a) (hs : sop P call T h op = some (v, h')) :
    h' = h ∧ ∀ h2 : SHeap, (∀ id, idOf (ev T a) = some id → h2.get id = h.get id) → sop P call T h2 op = some (v, h2) := by
  cases op with
  | load t x =>
    simp only [clsOf, Cls.read.injEq] at hc
    subst hc
    simp only [sop, Option.map_eq_some_iff, Prod.mk.injEq] at hs ⊢
    obtain ⟨u, hu, rfl, rfl⟩ := hs
    refine ⟨rfl, fun h2 he => ⟨_, ?_, rfl, trivial⟩⟩
    rw [← hu]
    unfold loadS
    split
    · rename_i id off hid
      rw [he id (by rw [hid]; rfl)]
    · rfl
  | lookup t m k ok =>
    simp only [clsOf, Cls.read.injEq] at hc
    subst hc
    simp only [sop, Option.map_eq_some_iff, Prod.mk.injEq] at hs ⊢
    obtain ⟨u, hu, rfl, rfl⟩ := hs
    refine ⟨rfl, fun h2 he => ⟨_, ?_, rfl, trivial⟩⟩
    rw [← hu]
    unfold lookupS
    cases hm : ev T m with
    | map r =>
      cases r with
      | none => rfl
      | some id => simp only [he id (by rw [hm]; rfl)]
    | _ => rfl
  | convert s d x =>
    simp only [clsOf, Cls.read.injEq] at hc
    subst hc
    simp only [sop, Option.map_eq_some_iff, Prod.mk.injEq] at hs ⊢
    obtain ⟨u, hu, rfl, rfl⟩ := hs
    refine ⟨rfl, fun h2 he => ⟨_, ?_, rfl, trivial⟩⟩
    rw [← hu]
    unfold convS
    split
    · rfl
    · rfl
    · rename_i e b n c _ _ hx
      rw [hx] at he
      rw [srcCells_same he]
    · rfl
  | slice t x lo hi mx =>
    simp only [clsOf, Cls.read.injEq] at hc
    subst hc
    simp only [sop, Option.map_eq_some_iff, Prod.mk.injEq] at hs ⊢
    obtain ⟨u, hu, rfl, rfl⟩ := hs
    refine ⟨rfl, fun h2 he => ⟨_, ?_, rfl, trivial⟩⟩
    rw [← hu]
    exact sliceS_same he
  | call c =>
    simp only [clsOf] at hc
    split at hc <;> cases hc
  | _ => first | (simp [clsOf] at hc; done) | (simp [sop] at hs; done)

/-- An operation that stores. -/
theorem sop_store {T : Tr} {h h' : SHeap} {op : Op} {v : Value} (hc : clsOf op = .store) (hs : sop P call T h op = some (v, h')) :
    ∃ a id o, ((∃ t x, op = .store t a x) ∨ (∃ t k x, op = .mapUpdate t a k x ∨ op = .insert t a k x)) ∧ idOf (ev T a) = some id ∧ h' = h.put id o ∧ id < h.next ∧ h.floor ≤ id ∧ wr (h.get id) ∧
      ∀ h2 : SHeap, h2.get id = h.get id → h2.floor = h.floor → sop P call T h2 op = some (v, h2.put id o) := by
  cases op with
  | store t a x =>
    simp only [sop, Option.map_eq_some_iff, Prod.mk.injEq] at hs
    obtain ⟨u, hu, rfl, rfl⟩ := hs
    obtain ⟨id, o, h1, h2, h3, h4, h5, h6⟩ := storeS_snx hu
    exact ⟨a, id, o, .inl ⟨_, _, rfl⟩, h1, h2, h3, h4, h5, fun h2 he hf => by simp only [sop, h6 h2 he hf, Option.map_some]⟩
  | mapUpdate t m k x =>
    simp only [sop, Option.map_eq_some_iff, Prod.mk.injEq] at hs
    obtain ⟨u, hu, rfl, rfl⟩ := hs
    obtain ⟨id, o, h1, h2, h3, h4, h5, h6⟩ := updateS_snx hu
    exact ⟨m, id, o, .inr ⟨_, _, _, .inl rfl⟩, h1, h2, h3, h4, h5, fun h2 he hf => by simp only [sop, h6 h2 he hf, Option.map_some]⟩
  | insert t m k x =>
    simp only [sop, Option.map_eq_some_iff, Prod.mk.injEq] at hs
    obtain ⟨u, hu, rfl, rfl⟩ := hs
    obtain ⟨id, o, h1, h2, h3, h4, h5, h6⟩ := updateS_snx hu
    exact ⟨m, id, o, .inr ⟨_, _, _, .inr rfl⟩, h1, h2, h3, h4, h5, fun h2 he hf => by simp only [sop, h6 h2 he hf, Option.map_some]⟩
  | call c =>
    simp only [clsOf] at hc
    split at hc <;> cases hc
  | _ => first | (simp [clsOf] at hc; done) | (simp [sop] at hs; done)

theorem sop_act {T : Tr} {h h' : SHeap} {op : Op} {v : Value} (hcall : ∀ f args h v h', call f args h = some (v, h') → SNx h h') (hc : clsOf op = .act) (hs : sop P call T h op = some (v, h')) : SNx h h' := by
  cases op with
  | call c => simp only [sop] at hs; exact callS_snx hcall hs
  | _ => first | (simp [clsOf] at hc; done) | (simp [sop] at hs; done)

theorem sop_snx {T : Tr} {h h' : SHeap} {op : Op} {v : Value} (hcall : ∀ f args h v h', call f args h = some (v, h') → SNx h h') (hs : sop P call T h op = some (v, h')) : SNx h h' := by
  cases hc : clsOf op with
  | pure =>
    cases op with
    | call c => simp only [sop] at hs; exact callS_snx hcall hs
    | _ =>
      first
      | (obtain ⟨rfl, _⟩ := sop_pure hc (by intro c hcc; cases hcc) hs; exact .refl _)
  | read a => obtain ⟨rfl, _⟩ := sop_read hc hs; exact .refl _
  | new => obtain ⟨o, _, rfl, _⟩ := sop_new hc hs; exact .push _ _
  | act => exact sop_act hcall hc hs
  | store =>
    obtain ⟨a, id, o, _, _, rfl, h1, h2, _⟩ := sop_store hc hs
    exact .put h1 h2

theorem evs_congr {T T' : Tr} {l : Array Operand} (h : ∀ x ∈ l, ev T x = ev T' x) : evs T l = evs T' l := by
  unfold evs
  exact List.map_congr_left fun x hx => h x (by simpa using hx)

theorem parts_congr {T T' : Tr} {l : Array (Nat × Operand)} (h : ∀ i x, (i, x) ∈ l → ev T x = ev T' x) : (l.toList.map fun (i, x) => (i, ev T x)) = (l.toList.map fun (i, x) => (i, ev T' x)) :=
  List.map_congr_left fun x hx => by obtain ⟨i, x⟩ := x; simp [h i x (by simpa using hx)]

theorem sop_congr {T T' : Tr} {h : SHeap} {op : Op} (he : ∀ x ∈ op.operands, ev T x = ev T' x) : sop P call T h op = sop P call T' h op := by
  cases op with
  | call c =>
    simp only [sop, callS]
    have h1 : evs T c.args = evs T' c.args := evs_congr fun x hx => he x (by simp [Op.operands, Call.operands, hx])
    cases hcc : c.callee with
    | builtin b => cases b <;> simp only [h1]
    | invoke r m =>
      have h2 : ev T r = ev T' r := he r (by simp [Op.operands, Call.operands, hcc])
      simp only [h1, h2]
    | value f =>
      have h2 : ev T f = ev T' f := he f (by simp [Op.operands, Call.operands, hcc])
      simp only [h1, h2]
  | build t parts =>
    have : (parts.toList.map fun (i, x) => (i, ev T x)) = (parts.toList.map fun (i, x) => (i, ev T' x)) := parts_congr fun i x hx => he x (by simp [Op.operands]; exact ⟨i, hx⟩)
    simp only [sop, this]
  | buildSlice t n parts =>
    have : (parts.toList.map fun (i, x) => (i, ev T x)) = (parts.toList.map fun (i, x) => (i, ev T' x)) := parts_congr fun i x hx => he x (by simp [Op.operands]; exact ⟨i, hx⟩)
    simp only [sop, this]
  | makeFunc fn first captured =>
    have h1 : first.map (ev T) = first.map (ev T') := Array.map_congr_left fun x hx => he x (by simp [Op.operands, hx])
    have h2 : captured.map (ev T) = captured.map (ev T') := Array.map_congr_left fun x hx => he x (by simp [Op.operands, hx])
    simp only [sop, h1, h2]
  | slice t x lo hi mx =>
    have h1 : ev T x = ev T' x := he x (by simp [Op.operands])
    have h2 : lo.map (ev T) = lo.map (ev T') := by cases lo with | none => rfl | some y => simp [he y (by simp [Op.operands])]
    have h3 : hi.map (ev T) = hi.map (ev T') := by cases hi with | none => rfl | some y => simp [he y (by simp [Op.operands])]
    have h4 : mx.map (ev T) = mx.map (ev T') := by cases mx with | none => rfl | some y => simp [he y (by simp [Op.operands])]
    simp only [sop, h1, h2, h3, h4]
  | makeMap t r => cases r <;> rfl
  | makeChan t s => rfl
  | _ => first | rfl | (simp only [Op.operands, List.mem_toArray, List.mem_cons, List.not_mem_nil, or_false, forall_eq_or_imp, forall_eq] at he; simp only [sop, he])

end
end Go.Sx
