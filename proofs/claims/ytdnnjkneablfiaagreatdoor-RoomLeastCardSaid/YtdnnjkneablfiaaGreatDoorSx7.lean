/- Each operation of the shadow reading is the machine's: copy, maps, conversions; all together. -/
import Derived.Test.YtdnnjkneablfiaaGreatDoorSx6
import Derived.Laws.BytesArg
namespace Go.Sx
open Go
set_option linter.unusedSimpArgs false
set_option linter.unusedVariables false

section
variable {P : Program} {ρ : Map} {h : SHeap} {W : World}

theorem nmin (a b : Nat) : Nat.min a b = min a b := rfl

theorem copyS_ok (hR : Rel P ρ h W) {t ty : TypeId} {x X y Y v : Value} {h' : SHeap} (hx : vrel ρ x X) (hy : vrel ρ y Y) (hs : copyS P h t x y = some (v, h')) :
    ∃ V W' ρ', (Builtin.copy_ #[t, t] ty #[X, Y]).run P W = .ok V W' ∧ Nx P ρ h W ρ' h' W' ∧ vrel ρ' v V := by
  unfold copyS at hs
  split at hs
  · rename_i e base len cap sb n sc hu
    split at hs
    · rename_i s hsz
      simp only at hs
      split at hs
      · rename_i new hnew
        obtain ⟨A', C', New, rfl, hN, hrn, hsrc⟩ := srcCells_ok hR hy (Nat.min_le_left n len) hnew
        have hf := run_first (P := P) (m := n) (C := C') hN hsrc
        split at hs
        · rename_i id off
          split at hs
          · rename_i hm0
            cases hs
            have hNn : New = [] := List.eq_nil_of_length_eq_zero (by rw [hN, hm0]; simp)
            rw [hNn] at hf
            have hr : ∃ B C, X = .slice (some B) len C := by
              rcases vrel_slice hx with ⟨h1, _⟩ | ⟨_, _, L, _, _, _, rfl⟩ | ⟨_, _, L, A, C, _, _, _, _, rfl, _⟩
              · cases h1
              · exact ⟨_, _, rfl⟩
              · exact ⟨_, _, rfl⟩
            obtain ⟨B, C, rfl⟩ := hr
            refine ⟨.int .i64 (min n len : Nat), W, ρ, ?_, Nx.refl hR, .flat rfl⟩
            simp [Builtin.copy_, nmin, run_underlying hu, Builtin.lenOf, run_sizeOf hsz, hf, storeCells, goInt]
          · rename_i hm0
            split at hs
            · rename_i h2 hst
              cases hs
              rcases vrel_slice hx with ⟨h1, _⟩ | ⟨_, _, L, h1, hL, hlt, rfl⟩ | ⟨_, _, L, A, C, h1, hL, _, hC, rfl, hA⟩
              · cases h1
              · cases h1
                obtain ⟨W', hrun, hN2⟩ := storeRow_ok hR hrn hL hst
                refine ⟨.int .i64 (min n len : Nat), W', ρ, ?_, hN2, .flat rfl⟩
                simp [Builtin.copy_, nmin, run_underlying hu, Builtin.lenOf, run_sizeOf hsz, hf, hrun, goInt]
              · cases h1
                rcases hA with rfl | ⟨rfl, _⟩
                · have : min n len = 0 := by omega
                  exact absurd this hm0
                · obtain ⟨W', hrun, hN2⟩ := storeRow_ok hR hrn hL hst
                  refine ⟨.int .i64 (min n len : Nat), W', ρ, ?_, hN2, .flat rfl⟩
                  simp [Builtin.copy_, nmin, run_underlying hu, Builtin.lenOf, run_sizeOf hsz, hf, hrun, goInt]
            · cases hs
        · cases hs
          rcases vrel_slice hx with ⟨_, rfl, rfl, rfl⟩ | ⟨_, _, L, h1, _⟩ | ⟨_, _, L, A, C, h1, _⟩
          · refine ⟨.int .i64 (min n 0 : Nat), W, ρ, ?_, Nx.refl hR, .flat rfl⟩
            simp only [Nat.min_zero] at hf
            simp [Builtin.copy_, nmin, run_underlying hu, Builtin.lenOf, run_sizeOf hsz, hf, goInt]
          · cases h1
          · cases h1
        · cases hs
      · cases hs
    · cases hs
  · cases hs

theorem bytes_eq {a b : ByteArray} (h : (a == b) = true) : a = b := by
  have : a.data == b.data := h
  cases a; cases b; simp at this; simp [this]

/-! ### Maps -/

theorem keyEq_sameNow {k x X : Value} {b : Bool} {kt : TypeDesc} (hk : (∃ j, kt = .int j ∧ ∃ n i, k = .int n i) ∨ (kt = .string ∧ ∃ s, k = .string s)) (hx : vrel ρ x X) (h : keyEq k x = some b) : Instr.sameNow kt k X = some b := by
  rcases hk with ⟨j, rfl, n, i, rfl⟩ | ⟨rfl, s, rfl⟩
  · cases x <;> simp [keyEq] at h
    obtain rfl := vrel_int hx
    simp [Instr.sameNow, h]
  · cases x <;> simp [keyEq] at h
    obtain rfl := vrel_str hx
    simp [Instr.sameNow, h]

theorem find_ok {k : Value} {kt : TypeDesc} (hk : (∃ j, kt = .int j ∧ ∃ n i, k = .int n i) ∨ (kt = .string ∧ ∃ s, k = .string s)) {es : List (Value × Value)} {ES : List MapEntry}
    (he : All2 (fun e E => vrel ρ e.1 E.key ∧ vrel ρ e.2 E.val) es ES) : ∀ {r : Option Value} (i : Nat), mapFind k es = some r →
    ∃ R, Instr.findNow kt k ES i = some R ∧ (match r, R with
      | none, none => True
      | some v, some (j, V) => vrel ρ v V ∧ i ≤ j ∧ (∃ x u, es[j - i]? = some (x, u) ∧ keyEq k x = some true ∧ ∀ m x' u', m < j - i → es[m]? = some (x', u') → keyEq k x' = some false)
      | _, _ => False) := by
  induction he with
  | nil =>
    intro r i hf
    simp [mapFind] at hf
    subst hf
    exact ⟨none, rfl, trivial⟩
  | cons hh _ ih =>
    intro r i hf
    rename_i a b l m _
    obtain ⟨x, v⟩ := a
    simp only [mapFind] at hf
    split at hf
    · rename_i hq
      cases hf
      refine ⟨some (i, b.val), ?_, hh.2, Nat.le_refl _, x, v, by simp, hq, fun m x' u' hm => by omega⟩
      simp [Instr.findNow, keyEq_sameNow hk hh.1 hq]
    · rename_i hq
      obtain ⟨R, hR, hm⟩ := ih (i + 1) hf
      refine ⟨R, by simp [Instr.findNow, keyEq_sameNow hk hh.1 hq, hR], ?_⟩
      cases r with
      | none => cases R with
        | none => trivial
        | some R => exact hm.elim
      | some w => cases R with
        | none => exact hm.elim
        | some R =>
          obtain ⟨h1, h2, x', u', h3, h4, h5⟩ := hm
          refine ⟨h1, by omega, x', u', ?_, h4, ?_⟩
          · rw [show R.1 - i = (R.1 - (i + 1)) + 1 by omega]
            simpa using h3
          · intro m x2 u2 hm2 hg
            cases m with
            | zero => simp at hg; obtain ⟨rfl, rfl⟩ := hg; exact hq
            | succ m => exact h5 m x2 u2 (by omega) (by simpa using hg)
    · cases hf

theorem keyOk_spec {kt : TypeId} {k : Value} (h : keyOk P kt k = true) : ∃ d, P.underlying kt = some d ∧ ((∃ j, d = .int j ∧ ∃ n i, k = .int n i) ∨ (d = .string ∧ ∃ s, k = .string s)) := by
  unfold keyOk at h
  split at h
  · rename_i j n i hu
    exact ⟨_, hu, .inl ⟨_, rfl, _, _, rfl⟩⟩
  · rename_i s hu
    exact ⟨_, hu, .inr ⟨rfl, _, rfl⟩⟩
  · cases h

theorem run_checkKey {kt : TypeId} {k : Value} {d : TypeDesc} (hu : P.underlying kt = some d) (hd : (∃ j, d = .int j ∧ ∃ n i, k = .int n i) ∨ (d = .string ∧ ∃ s, k = .string s)) (b : Bool) (n : Nat) : (Instr.checkKey b (n + 1) kt k).run P W = .ok () W := by
  rcases hd with ⟨j, rfl, m, i, rfl⟩ | ⟨rfl, s, rfl⟩ <;> simp [Instr.checkKey, run_underlying hu]

theorem key_flat {d : TypeDesc} {k K : Value} (hd : (∃ j, d = .int j ∧ ∃ n i, k = .int n i) ∨ (d = .string ∧ ∃ s, k = .string s)) (hk : vrel ρ k K) : K = k := by
  rcases hd with ⟨_, _, n, i, rfl⟩ | ⟨_, s, rfl⟩
  · exact vrel_int hk
  · exact vrel_str hk

theorem map_get {id : Nat} {es : List (Value × Value)} (hR : Rel P ρ h W) (hg : h.get id = .map es) {L : Loc} (hL : ρ id = some L) :
    ∃ ES clk, W.heap[L.b]? = some (.map ES clk) ∧ All2 (fun e E => vrel ρ e.1 E.key ∧ vrel ρ e.2 E.val) es ES.toList := by
  have := hR.obj id
  rw [hg] at this
  obtain ⟨L', ES, clk, h1, h2, h3⟩ := this
  rw [hL] at h1
  cases h1
  exact ⟨ES, clk, h2, h3⟩

theorem lookupS_ok (hR : Rel P ρ h W) {t : TypeId} {m M k K v : Value} {ok : Bool} (hm : vrel ρ m M) (hk : vrel ρ k K) (hs : lookupS P h t m k ok = some v) :
    ∃ V, (Instr.lookup t M K ok).run P W = .ok V W ∧ vrel ρ v V := by
  unfold lookupS at hs
  split at hs
  · rename_i kt et hu
    split at hs
    · rename_i hko
      obtain ⟨d, hd, hdk⟩ := keyOk_spec hko
      have hKk : K = k := key_flat hdk hk
      subst hKk
      split at hs
      · rename_i es hes
        have hck : ∀ b, (Instr.checkKey b 10000 kt K).run P W = .ok () W := fun b => run_checkKey hd hdk b 9999
        -- the entries on the other side
        have hent : ∃ ES : Array MapEntry, All2 (fun e E => vrel ρ e.1 E.key ∧ vrel ρ e.2 E.val) es ES.toList ∧
            ∀ (f : Array MapEntry → Sem Value), ((do
              let es ← match M with
                | .map none => pure #[]
                | .map (some r) => do
                  let .map es _ ← getObj r | stuck "Lookup: map expected"
                  pure es
                | _ => stuck "Lookup: map expected"
              f es : Sem Value)).run P W = (f ES).run P W := by
          split at hes
          · cases hes
            obtain rfl : M = .map none := flat1_eq rfl hm
            exact ⟨#[], .nil, fun f => by simp⟩
          · rename_i id
            split at hes
            · rename_i es' hg
              cases hes
              obtain ⟨L, hL, rfl⟩ := vrel_map hm
              obtain ⟨ES, clk, hb, hall⟩ := map_get hR hg hL
              refine ⟨ES, hall, fun f => ?_⟩
              simp [getObj, Sem.run, hb]
            · cases hes
          · cases hes
        obtain ⟨ES, hall, hrunM⟩ := hent
        have hrun0 : (Instr.lookup t M K ok).run P W = (do
              Instr.checkKey ES.isEmpty 10000 kt K
              let (v, ok') ← match ← Instr.findKey kt K ES.toList with
                | some (_, v) => pure (v, true)
                | none => pure (← zeroValue et, false)
              pure (if ok then .tuple #[v, .bool ok'] else v) : Sem Value).run P W := by
          unfold Instr.lookup
          rw [Sem.run_bind, run_underlying hu]
          exact hrunM _
        split at hs
        · rename_i r hf
          cases hs
          obtain ⟨R, hR2, hmatch⟩ := find_ok hdk hall 0 hf
          cases R with
          | none => exact hmatch.elim
          | some jv =>
            obtain ⟨j, V⟩ := jv
            obtain ⟨hv, _⟩ := hmatch
            refine ⟨if ok then .tuple #[V, .bool true] else V, ?_, ?_⟩
            · rw [hrun0]
              simp [hck, Instr.findKey, run_underlying hd, hR2]
            · cases ok
              · exact hv
              · exact .tuple (.cons hv (.cons (.flat rfl) .nil))
        · rename_i hf
          split at hs
          · rename_i z hz
            split at hs
            · rename_i hfl
              cases hs
              obtain ⟨R, hR2, hmatch⟩ := find_ok hdk hall 0 hf
              cases R with
              | some _ => exact hmatch.elim
              | none =>
                refine ⟨if ok then .tuple #[z, .bool false] else z, ?_, ?_⟩
                · rw [hrun0]
                  simp [hck, Instr.findKey, run_underlying hd, hR2, run_zeroValue hz]
                · cases ok
                  · exact vrel_flat hfl
                  · exact .tuple (.cons (vrel_flat hfl) (.cons (.flat rfl) .nil))
            · cases hs
          · cases hs
        · cases hs
      · cases hs
    · cases hs
  · cases hs

theorem mapSet_found {k v : Value} : ∀ {es : List (Value × Value)} {j : Nat} {x u : Value}, es[j]? = some (x, u) → keyEq k x = some true → (∀ (m : Nat) (x' u' : Value), m < j → es[m]? = some (x', u') → keyEq k x' = some false) → mapSet k v es = es.set j (k, v) := by
  intro es
  induction es with
  | nil => intro j x u h; simp at h
  | cons e es ih =>
    intro j x u hj hk hno
    obtain ⟨x0, u0⟩ := e
    cases j with
    | zero =>
      simp at hj
      obtain ⟨rfl, rfl⟩ := hj
      simp [mapSet, hk]
    | succ j =>
      have h0 := hno 0 x0 u0 (by omega) rfl
      simp only [mapSet, h0]
      rw [if_neg (by simp)]
      rw [ih (j := j) (by simpa using hj) hk (fun m x' u' hm hg => hno (m + 1) x' u' (by omega) (by simpa using hg))]
      rfl

theorem mapSet_none {k v : Value} : ∀ {es : List (Value × Value)}, mapFind k es = some none → mapSet k v es = es ++ [(k, v)] := by
  intro es
  induction es with
  | nil => intro _; rfl
  | cons e es ih =>
    intro h
    obtain ⟨x0, u0⟩ := e
    simp only [mapFind] at h
    split at h
    · cases h
    · rename_i hq
      simp only [mapSet, hq]
      rw [if_neg (by simp), ih h]
      rfl
    · cases h

theorem updateS_ok (hR : Rel P ρ h W) {t : TypeId} {m M k K v V : Value} {h' : SHeap} (hm : vrel ρ m M) (hk : vrel ρ k K) (hv : vrel ρ v V) (hs : updateS P h t m k v = some h') :
    ∃ W', (Instr.mapUpdate t M K V).run P W = .ok () W' ∧ Nx P ρ h W ρ h' W' := by
  unfold updateS at hs
  split at hs
  · rename_i kt et id hu
    split at hs
    · rename_i hc
      simp only [Bool.and_eq_true, decide_eq_true_eq] at hc
      obtain ⟨hko, hf⟩ := hc
      obtain ⟨d, hd, hdk⟩ := keyOk_spec hko
      have hKk : K = k := key_flat hdk hk
      subst hKk
      split at hs
      · rename_i es hg
        obtain ⟨L, hL, rfl⟩ := vrel_map hm
        obtain ⟨ES, clk, hb, hall⟩ := map_get hR hg hL
        have hck : (Instr.checkKey false 10000 kt K).run P W = .ok () W := run_checkKey hd hdk false 9999
        have hlt : L.b < W.heap.size := (Array.getElem?_eq_some_iff.1 hb).1
        have hwr : wr (h.get id) := by rw [hg]; trivial
        have hput : ∀ ES' clk', All2 (fun e E => vrel ρ e.1 E.key ∧ vrel ρ e.2 E.val) (mapSet K v es) ES'.toList →
            Nx P ρ h W ρ (h.put id (.map (mapSet K v es))) { W with heap := W.heap.setIfInBounds L.b (.map ES' clk') } := by
          intro ES' clk' ha
          refine nx_put hR (L := L) hwr hf hL rfl rfl rfl (by simp) (fun b _ hne => by simp [Array.getElem?_setIfInBounds, Ne.symm hne]) ?_
          exact ⟨L, ES', clk', hL, by simp [Array.getElem?_setIfInBounds, hlt], ha⟩
        split at hs
        · rename_i r hf2
          cases hs
          obtain ⟨R, hR2, hmatch⟩ := find_ok hdk hall 0 hf2
          cases R with
          | none =>
            cases r with
            | some _ => exact hmatch.elim
            | none =>
              refine ⟨_, ?_, hput (ES.push { key := K, val := V, born := clk }) (clk + 1) ?_⟩
              · simp [Instr.mapUpdate, run_underlying hu, getObj, setObj, Sem.run, hb, hck, Instr.findKey, run_underlying hd, hR2]
              · rw [mapSet_none hf2, Array.toList_push]
                exact hall.append (.cons ⟨vrel_flat (by rcases hdk with ⟨_, _, _, _, rfl⟩ | ⟨_, _, rfl⟩ <;> rfl), hv⟩ .nil)
          | some jv =>
            cases r with
            | none => exact hmatch.elim
            | some r =>
              obtain ⟨j, V0⟩ := jv
              obtain ⟨_, _, x, u, hj, hq, hno⟩ := hmatch
              simp only [Nat.sub_zero] at hj hno
              obtain ⟨E, hE, hEk, hEv⟩ := hall.get hj
              have hE2 : ES[j]? = some E := by simpa using hE
              have hkey : E.key = x ∧ Instr.sameBits 10000 E.key K = true := by
                rcases hdk with ⟨i, _, n, y, rfl⟩ | ⟨_, s, rfl⟩
                · cases x <;> simp [keyEq] at hq
                  obtain ⟨rfl, rfl⟩ := hq
                  have := vrel_int hEk
                  rw [this]
                  exact ⟨rfl, by simp [Instr.sameBits]⟩
                · cases x <;> simp [keyEq] at hq
                  have hq2 := bytes_eq hq
                  subst hq2
                  have := vrel_str hEk
                  rw [this]
                  exact ⟨rfl, by simp only [Instr.sameBits]; exact hq⟩
              refine ⟨_, ?_, hput (ES.modify j fun e => { e with key := K, val := V }) clk ?_⟩
              · simp [Instr.mapUpdate, run_underlying hu, getObj, setObj, Sem.run, hb, hck, Instr.findKey, run_underlying hd, hR2, Instr.keyThatStays, hE2, hkey.2]
              · rw [mapSet_found hj hq hno]
                have hjl : j < ES.toList.length := (List.getElem?_eq_some_iff.1 hE).1
                have e1 : (ES.modify j fun e => { e with key := K, val := V }).toList = ES.toList.set j { E with key := K, val := V } := by
                  rw [Array.toList_modify]
                  apply List.ext_getElem?
                  intro i
                  rw [List.getElem?_modify, List.getElem?_set]
                  by_cases hij : j = i
                  · subst hij; simp [hE]; simpa using hjl
                  · simp [hij]
                rw [e1]
                exact hall.set ⟨vrel_flat (by rcases hdk with ⟨_, _, _, _, rfl⟩ | ⟨_, _, rfl⟩ <;> rfl), hv⟩
        · cases hs
      · cases hs
    · cases hs
  · cases hs

theorem lenS_ok (hR : Rel P ρ h W) {t ty : TypeId} {x X v : Value} (hx : vrel ρ x X) (hs : lenS P h t x = some v) : ∃ V, (Builtin.len_ #[t] ty #[X]).run P W = .ok V W ∧ vrel ρ v V := by
  unfold lenS at hs
  split at hs
  · rename_i s hu
    cases hs
    obtain rfl := vrel_str hx
    exact ⟨_, by simp [Builtin.len_, run_underlying hu, goInt], .flat rfl⟩
  · rename_i e a n c hu
    cases hs
    have : ∃ A C, X = .slice A n C := by
      rcases vrel_slice hx with ⟨_, rfl, rfl, rfl⟩ | ⟨_, _, L, _, _, _, rfl⟩ | ⟨_, _, L, A, C, _, _, _, _, rfl, _⟩
      · exact ⟨_, _, rfl⟩
      · exact ⟨_, _, rfl⟩
      · exact ⟨_, _, rfl⟩
    obtain ⟨A, C, rfl⟩ := this
    exact ⟨_, by simp [Builtin.len_, run_underlying hu, goInt], .flat rfl⟩
  · rename_i n e hu
    cases hs
    exact ⟨.int .i64 n, by simp [Builtin.len_, run_underlying hu, goInt], .flat rfl⟩
  · rename_i kt e hu
    cases hs
    obtain rfl : X = .map none := flat1_eq rfl hx
    exact ⟨_, by simp [Builtin.len_, run_underlying hu, goInt], .flat rfl⟩
  · rename_i kt e id hu
    split at hs
    · rename_i es hg
      cases hs
      obtain ⟨L, hL, rfl⟩ := vrel_map hx
      obtain ⟨ES, clk, hb, hall⟩ := map_get hR hg hL
      have hl : es.length = ES.size := by simpa using hall.length
      exact ⟨.int .i64 ES.size, by simp [Builtin.len_, run_underlying hu, goInt, getObj, Sem.run, hb], by rw [hl]; exact .flat rfl⟩
    · cases hs
  · cases hs

theorem foldM_int {g : Int → Int → Int} {f : Value → Value → Option Value} {F : Value → Value → Sem Value} (hf : ∀ a b c, f a b = some c → ∃ k x j y, a = .int k x ∧ b = .int j y ∧ c = .int k (g x y))
    (hF : ∀ k x j y, F (.int k x) (.int j y) = pure (.int k (g x y))) : ∀ {l L : List Value} {a v : Value}, All2 (vrel ρ) l L → (∃ k x, a = .int k x) → l.foldlM f a = some v → (L.foldlM F a).run P W = .ok v W ∧ ∃ k x, v = .int k x := by
  intro l
  induction l with
  | nil =>
    intro L a v hl ha hs
    cases hl
    simp at hs
    subst hs
    exact ⟨by simp, ha⟩
  | cons b l ih =>
    intro L a v hl ha hs
    cases hl with
    | cons hb hl =>
    rw [List.foldlM_cons] at hs
    cases hfa : f a b with
    | none => rw [hfa] at hs; simp at hs
    | some c =>
      rw [hfa] at hs
      obtain ⟨k, x, j, y, rfl, rfl, rfl⟩ := hf a b c hfa
      obtain rfl := vrel_int hb
      have := ih hl ⟨k, g x y, rfl⟩ hs
      rw [List.foldlM_cons, hF]
      simpa using this

theorem maxS_ok {ty : TypeId} {at_ : Array TypeId} {l : List Value} {L : Array Value} {v : Value} (hl : All2 (vrel ρ) l L.toList) (hs : maxS l = some v) : (Builtin.max_ at_ ty L).run P W = .ok v W ∧ vrel ρ v v := by
  unfold maxS at hs
  split at hs
  · rename_i k x rest
    unfold Builtin.max_
    cases hL : L.toList with
    | nil => rw [hL] at hl; cases hl
    | cons X REST =>
      rw [hL] at hl
      cases hl with
      | cons hx hr =>
      obtain rfl := vrel_int hx
      have := foldM_int (P := P) (W := W) (g := fun x y => if y > x then y else x) (F := Builtin.max2) (fun a b c h => by
        split at h
        · cases h; exact ⟨_, _, _, _, rfl, rfl, rfl⟩
        · cases h) (fun _ _ _ _ => rfl) hr ⟨k, x, rfl⟩ hs
      obtain ⟨h1, k2, x2, rfl⟩ := this
      exact ⟨h1, .flat rfl⟩
  · cases hs

theorem minS_ok {ty : TypeId} {at_ : Array TypeId} {l : List Value} {L : Array Value} {v : Value} (hl : All2 (vrel ρ) l L.toList) (hs : minS l = some v) : (Builtin.min_ at_ ty L).run P W = .ok v W ∧ vrel ρ v v := by
  unfold minS at hs
  split at hs
  · rename_i k x rest
    unfold Builtin.min_
    cases hL : L.toList with
    | nil => rw [hL] at hl; cases hl
    | cons X REST =>
      rw [hL] at hl
      cases hl with
      | cons hx hr =>
      obtain rfl := vrel_int hx
      have := foldM_int (P := P) (W := W) (g := fun x y => if y < x then y else x) (F := Builtin.min2) (fun a b c h => by
        split at h
        · cases h; exact ⟨_, _, _, _, rfl, rfl, rfl⟩
        · cases h) (fun _ _ _ _ => rfl) hr ⟨k, x, rfl⟩ hs
      obtain ⟨h1, k2, x2, rfl⟩ := this
      exact ⟨h1, .flat rfl⟩
  · cases hs

section
variable {t : TypeId} {e : TypeId}
theorem run_equal_ptr_nil (hu : P.underlying t = some (.pointer e)) (a : Addr) : (Op.equal t (.pointer (some a)) (.pointer none)).run P W = .ok false W := by
  have h : ∀ d, (Op.equalIn (d + 1) t (.pointer (some a)) (.pointer none)).run P W = .ok false W := fun d => by simp [Op.equalIn, run_underlying hu]
  exact h 9999
theorem run_equal_nil_ptr (hu : P.underlying t = some (.pointer e)) (a : Addr) : (Op.equal t (.pointer none) (.pointer (some a))).run P W = .ok false W := by
  have h : ∀ d, (Op.equalIn (d + 1) t (.pointer none) (.pointer (some a))).run P W = .ok false W := fun d => by simp [Op.equalIn, run_underlying hu]
  exact h 9999
theorem run_equal_slice_nil (hu : P.underlying t = some (.slice e)) (a : Addr) (n c : Nat) : (Op.equal t (.slice (some a) n c) (.slice none 0 0)).run P W = .ok false W := by
  have h : ∀ d, (Op.equalIn (d + 1) t (.slice (some a) n c) (.slice none 0 0)).run P W = .ok false W := fun d => by simp [Op.equalIn, run_underlying hu]
  exact h 9999
end
theorem run_eql {t : TypeId} {A B : Value} {r : Bool} (hA : (∃ a, A = .pointer a) ∨ (∃ a n c, A = .slice a n c)) (hB : (∃ a, B = .pointer a) ∨ (∃ a n c, B = .slice a n c)) (hr : (Op.equal t A B).run P W = .ok r W) (x y : Operand) :
    (do eqGuard .eql t x y A B; binOp .eql t A B : Sem Value).run P W = .ok (.bool r) W ∧ (do eqGuard .neq t x y A B; binOp .neq t A B : Sem Value).run P W = .ok (.bool !r) W := by
  have e1 : ∀ op, eqGuard op t x y A B = pure () := by
    intro op
    rcases hA with ⟨a, rfl⟩ | ⟨a, n, c, rfl⟩
    · exact eqGuard_at_pointer op t x y B a
    · exact eqGuard_at_slice op t x y B a n c
  have e2 : binOp .eql t A B = (do pure (.bool (← Op.equal t A B))) := by
    rcases hA with ⟨a, rfl⟩ | ⟨a, n, c, rfl⟩ <;> rcases hB with ⟨b, rfl⟩ | ⟨b, n', c', rfl⟩ <;> rfl
  have e3 : binOp .neq t A B = (do pure (.bool (!(← Op.equal t A B)))) := by
    rcases hA with ⟨a, rfl⟩ | ⟨a, n, c, rfl⟩ <;> rcases hB with ⟨b, rfl⟩ | ⟨b, n', c', rfl⟩ <;> rfl
  rw [e1, e1, e2, e3]
  simp only [Sem.run_bind, Sem.run_pure, Result.andThen_ok, hr, and_self]

theorem vrel_iface {t : TypeId} {v V : Value} (h : vrel ρ (.iface t v) V) : ∃ V', V = .iface t V' ∧ vrel ρ v V' := by
  cases h with
  | flat hf => simp [flat1] at hf
  | iface h => exact ⟨_, rfl, h⟩
theorem run_equal_iface_nil {t : TypeId} {ms : Array (String × TypeId)} (hu : P.underlying t = some (.interface ms)) (ty : TypeId) (v : Value) : (Op.equal t (.iface ty v) .nilIface).run P W = .ok false W := by
  unfold Op.equal Op.maxDepth Op.equalIn
  simp [run_underlying hu]
theorem run_equal_nil_iface {t : TypeId} {ms : Array (String × TypeId)} (hu : P.underlying t = some (.interface ms)) (ty : TypeId) (v : Value) : (Op.equal t .nilIface (.iface ty v)).run P W = .ok false W := by
  unfold Op.equal Op.maxDepth Op.equalIn
  simp [run_underlying hu]
theorem run_eql_iface {t : TypeId} {A B : Value} {r : Bool} (hAB : (∃ ty v, A = .iface ty v ∧ B = .nilIface) ∨ (∃ ty v, B = .iface ty v ∧ A = .nilIface)) (hr : (Op.equal t A B).run P W = .ok r W) (x y : Operand) :
    (do eqGuard .eql t x y A B; binOp .eql t A B : Sem Value).run P W = .ok (.bool r) W ∧ (do eqGuard .neq t x y A B; binOp .neq t A B : Sem Value).run P W = .ok (.bool (!r)) W := by
  have e1 : ∀ op, eqGuard op t x y A B = (pure () : Sem Unit) := by
    intro op
    rcases hAB with ⟨_, _, rfl, rfl⟩ | ⟨_, _, rfl, rfl⟩ <;> cases op <;> rfl
  have e2 : binOp .eql t A B = (do pure (.bool (← Op.equal t A B))) := by
    rcases hAB with ⟨_, _, rfl, rfl⟩ | ⟨_, _, rfl, rfl⟩ <;> rfl
  have e3 : binOp .neq t A B = (do pure (.bool (!(← Op.equal t A B)))) := by
    rcases hAB with ⟨_, _, rfl, rfl⟩ | ⟨_, _, rfl, rfl⟩ <;> rfl
  rw [e1, e1, e2, e3]
  simp only [Sem.run_bind, Sem.run_pure, Result.andThen_ok, hr, and_self]

theorem binS_ok {op : BinOp} {t : TypeId} {x y : Operand} {a b A B v : Value} (ha : vrel ρ a A) (hb : vrel ρ b B) (hs : binS P op t x y a b = some v) :
    ∃ V, (do eqGuard op t x y A B; binOp op t A B : Sem Value).run P W = .ok V W ∧ vrel ρ v V := by
  unfold binS at hs
  split at hs
  · rename_i hf
    simp only [Bool.and_eq_true] at hf
    obtain rfl := flat_eq hf.1 ha
    obtain rfl := flat_eq hf.2 hb
    cases hp : pureRun P (do eqGuard op t x y A B; binOp op t A B) with
    | none => rw [hp] at hs; cases hs
    | some u =>
      rw [hp] at hs
      simp only at hs
      split at hs
      · cases hs
        exact ⟨v, run_pureRun hp, vrel_flat ‹_›⟩
      · cases hs
  · split at hs
    · cases hs
      have hu := ‹P.underlying t = some (.pointer _)›
      obtain ⟨L, hL, _, rfl⟩ := vrel_ptr' ha
      obtain rfl : B = .pointer none := flat1_eq rfl hb
      exact ⟨_, (run_eql (.inl ⟨_, rfl⟩) (.inl ⟨_, rfl⟩) (run_equal_ptr_nil hu _) x y).1, .flat rfl⟩
    · cases hs
      have hu := ‹P.underlying t = some (.pointer _)›
      obtain ⟨L, hL, _, rfl⟩ := vrel_ptr' hb
      obtain rfl : A = .pointer none := flat1_eq rfl ha
      exact ⟨_, (run_eql (.inl ⟨_, rfl⟩) (.inl ⟨_, rfl⟩) (run_equal_nil_ptr hu _) x y).1, .flat rfl⟩
    · cases hs
      have hu := ‹P.underlying t = some (.pointer _)›
      obtain ⟨L, hL, _, rfl⟩ := vrel_ptr' ha
      obtain rfl : B = .pointer none := flat1_eq rfl hb
      exact ⟨_, (run_eql (.inl ⟨_, rfl⟩) (.inl ⟨_, rfl⟩) (run_equal_ptr_nil hu _) x y).2, .flat rfl⟩
    · cases hs
      have hu := ‹P.underlying t = some (.pointer _)›
      obtain ⟨L, hL, _, rfl⟩ := vrel_ptr' hb
      obtain rfl : A = .pointer none := flat1_eq rfl ha
      exact ⟨_, (run_eql (.inl ⟨_, rfl⟩) (.inl ⟨_, rfl⟩) (run_equal_nil_ptr hu _) x y).2, .flat rfl⟩
    · cases hs
      have hu := ‹P.underlying t = some (.slice _)›
      obtain rfl : B = .slice none 0 0 := flat1_eq rfl hb
      have : ∃ A' n C, A = .slice (some A') n C := by
        rcases vrel_slice ha with ⟨h1, _⟩ | ⟨_, _, L, _, _, _, rfl⟩ | ⟨_, _, L, A, C, _, _, _, _, rfl, _⟩
        · cases h1
        · exact ⟨_, _, _, rfl⟩
        · exact ⟨_, _, _, rfl⟩
      obtain ⟨A', n, C, rfl⟩ := this
      exact ⟨_, (run_eql (.inr ⟨_, _, _, rfl⟩) (.inr ⟨_, _, _, rfl⟩) (run_equal_slice_nil hu _ _ _) x y).1, .flat rfl⟩
    · cases hs
      have hu := ‹P.underlying t = some (.slice _)›
      obtain rfl : B = .slice none 0 0 := flat1_eq rfl hb
      have : ∃ A' n C, A = .slice (some A') n C := by
        rcases vrel_slice ha with ⟨h1, _⟩ | ⟨_, _, L, _, _, _, rfl⟩ | ⟨_, _, L, A, C, _, _, _, _, rfl, _⟩
        · cases h1
        · exact ⟨_, _, _, rfl⟩
        · exact ⟨_, _, _, rfl⟩
      obtain ⟨A', n, C, rfl⟩ := this
      exact ⟨_, (run_eql (.inr ⟨_, _, _, rfl⟩) (.inr ⟨_, _, _, rfl⟩) (run_equal_slice_nil hu _ _ _) x y).2, .flat rfl⟩
    · cases hs
      have hu := ‹P.underlying t = some (.interface _)›
      obtain ⟨A', rfl, _⟩ := vrel_iface ha
      obtain rfl : B = .nilIface := flat1_eq rfl hb
      exact ⟨_, (run_eql_iface (.inl ⟨_, _, rfl, rfl⟩) (run_equal_iface_nil hu _ _) x y).1, .flat rfl⟩
    · cases hs
      have hu := ‹P.underlying t = some (.interface _)›
      obtain ⟨B', rfl, _⟩ := vrel_iface hb
      obtain rfl : A = .nilIface := flat1_eq rfl ha
      exact ⟨_, (run_eql_iface (.inr ⟨_, _, rfl, rfl⟩) (run_equal_nil_iface hu _ _) x y).1, .flat rfl⟩
    · cases hs
      have hu := ‹P.underlying t = some (.interface _)›
      obtain ⟨A', rfl, _⟩ := vrel_iface ha
      obtain rfl : B = .nilIface := flat1_eq rfl hb
      exact ⟨_, (run_eql_iface (.inl ⟨_, _, rfl, rfl⟩) (run_equal_iface_nil hu _ _) x y).2, .flat rfl⟩
    · cases hs
      have hu := ‹P.underlying t = some (.interface _)›
      obtain ⟨B', rfl, _⟩ := vrel_iface hb
      obtain rfl : A = .nilIface := flat1_eq rfl ha
      exact ⟨_, (run_eql_iface (.inr ⟨_, _, rfl, rfl⟩) (run_equal_nil_iface hu _ _) x y).2, .flat rfl⟩
    · cases hs

theorem run_typeInfo' {t : TypeId} {i : TypeInfo} (h : P.info? t = some i) : (typeInfo t).run P W = .ok i W := by
  simp [typeInfo, Sem.run_bind, h]

theorem assertIn_ok {d : TypeDesc} {x X : Value} {xt asserted : TypeId} {ok : Bool} {r : Option Value} (hu : P.underlying asserted = some d) (hx : vrel ρ x X) (ha : assertIn P d asserted x = some r) :
    (∀ u, r = some u → ∃ U, vrel ρ u U ∧ (Instr.typeAssert X xt asserted ok).run P W = .ok (if ok then .tuple #[U, .bool true] else U) W) ∧
    (r = none → ∀ z, ok = true → zeroOf P asserted = some z → (Instr.typeAssert X xt asserted ok).run P W = .ok (.tuple #[z, .bool false]) W) := by
  cases x with
  | nilIface =>
    obtain rfl : X = .nilIface := flat1_eq rfl hx
    have : r = none := by cases d <;> (simp [assertIn] at ha; exact ha.symm)
    subst this
    refine ⟨fun u h => (by cases h), fun _ z hok hz => ?_⟩
    subst hok
    cases d <;> simp [Instr.typeAssert, run_underlying hu, run_zeroValue hz]
  | iface t v =>
    obtain ⟨V, rfl, hv⟩ := vrel_iface hx
    by_cases hd : ∃ want, d = .interface want
    · obtain ⟨want, rfl⟩ := hd
      cases hi : P.info? t with
      | none => simp [assertIn, hi] at ha
      | some i =>
        cases hm : Instr.missingMethod want i.methods with
        | none =>
          have : r = some (.iface t v) := by simp [assertIn, hi, hm] at ha; exact ha.symm
          subst this
          refine ⟨fun u h => ?_, fun h => (by cases h)⟩
          cases h
          exact ⟨_, hx, by cases ok <;> simp [Instr.typeAssert, run_underlying hu, run_typeInfo' hi, hm]⟩
        | some m =>
          have : r = none := by simp [assertIn, hi, hm] at ha; exact ha.symm
          subst this
          refine ⟨fun u h => (by cases h), fun _ z hok hz => ?_⟩
          subst hok
          simp [Instr.typeAssert, run_underlying hu, run_typeInfo' hi, hm, run_zeroValue hz]
    · by_cases ht : t = asserted
      · subst ht
        have : r = some v := by cases d <;> first | (exact absurd ⟨_, rfl⟩ hd) | (simp [assertIn] at ha; exact ha.symm)
        subst this
        refine ⟨fun u h => ?_, fun h => (by cases h)⟩
        cases h
        exact ⟨_, hv, by cases d <;> first | (exact absurd ⟨_, rfl⟩ hd) | (cases ok <;> simp [Instr.typeAssert, run_underlying hu])⟩
      · have : r = none := by cases d <;> first | (exact absurd ⟨_, rfl⟩ hd) | (simp [assertIn, ht] at ha; exact ha.symm)
        subst this
        refine ⟨fun u h => (by cases h), fun _ z hok hz => ?_⟩
        subst hok
        cases d <;> first | (exact absurd ⟨_, rfl⟩ hd) | (simp [Instr.typeAssert, run_underlying hu, ht, run_zeroValue hz])
  | _ => cases d <;> simp [assertIn] at ha

/-- A value of an interface asked for a type. -/
theorem assertS_ok {x X v : Value} {xt asserted : TypeId} {ok : Bool} (hx : vrel ρ x X) (hs : assertS P x asserted ok = some v) :
    ∃ V, (Instr.typeAssert X xt asserted ok).run P W = .ok V W ∧ vrel ρ v V := by
  unfold assertS at hs
  cases hu : P.underlying asserted with
  | none => rw [hu] at hs; cases hs
  | some d =>
    rw [hu] at hs
    simp only at hs
    cases ha : assertIn P d asserted x with
    | none => rw [ha] at hs; cases hs
    | some r =>
      have hh := assertIn_ok (xt := xt) (ok := ok) (W := W) hu hx ha
      rw [ha] at hs
      cases r with
      | some u =>
        simp only at hs
        cases hs
        obtain ⟨U, hU, hr⟩ := hh.1 u rfl
        refine ⟨_, hr, ?_⟩
        cases ok
        · exact hU
        · exact .tuple (.cons hU (.cons (.flat rfl) .nil))
      | none =>
        simp only at hs
        split at hs
        · rename_i hok
          cases hz : zeroOf P asserted with
          | none => rw [hz] at hs; cases hs
          | some z =>
            rw [hz] at hs
            simp only at hs
            split at hs
            · rename_i hf
              cases hs
              exact ⟨_, hh.2 rfl z hok hz, .tuple (.cons (vrel_flat hf) (.cons (.flat rfl) .nil))⟩
            · cases hs
        · cases hs

/-- The method of a type. -/
theorem methodS_ok {t : TypeId} {v v' V : Value} {name : String} {k : FuncId} {n : Nat} (hv : vrel ρ v V) (hs : methodS P t v name = some (k, v')) :
    v' = v ∧ (method (n + 1) t V name).run P W = .ok (k, V) W := by
  unfold methodS at hs
  cases hi : P.info? t with
  | none => rw [hi] at hs; cases hs
  | some i =>
    rw [hi] at hs
    simp only at hs
    cases hm : i.methods.find? (·.name == name) with
    | none => rw [hm] at hs; cases hs
    | some m =>
      rw [hm] at hs
      simp only at hs
      split at hs
      · rename_i hp
        have hp' : m.path = #[] := by simpa [Array.isEmpty_iff] using hp
        cases hf : m.func with
        | none => rw [hf] at hs; simp at hs
        | some fp =>
          obtain ⟨f, pr⟩ := fp
          cases hu : P.underlying t with
          | none => rw [hf, hu] at hs; cases pr <;> simp at hs
          | some d =>
            rw [hf, hu] at hs
            have key : (f, v) = (k, v') ∧ (pr = true → ∃ e, d = .pointer e) ∧ (pr = false → ∀ e, d ≠ .pointer e) := by
              cases pr <;> cases d <;> simp_all
            obtain ⟨h1, h2, h3⟩ := key
            cases h1
            refine ⟨rfl, ?_⟩
            cases pr with
            | true =>
              obtain ⟨e, rfl⟩ := h2 rfl
              simp [method, run_typeInfo' hi, hm, hp', hf, follow, receiverAt, run_underlying hu, Place.get]
            | false =>
              have h3 := h3 rfl
              cases d <;> first | (exact absurd rfl (h3 _)) | (simp [method, run_typeInfo' hi, hm, hp', hf, follow, receiverAt, run_underlying hu, Place.get])
      · cases hs

theorem bytesStr_spec : ∀ {cs : List Value} {l : List UInt8}, bytesStr cs = some l → ∃ ns : List Int, cs = ns.map (Value.int .u8) ∧ l = ns.map fun n => UInt8.ofNat n.toNat := by
  intro cs
  induction cs with
  | nil => intro l h; simp [bytesStr] at h; subst h; exact ⟨[], rfl, rfl⟩
  | cons c cs ih =>
    intro l h
    unfold bytesStr at h
    split at h
    · cases ‹_ = []›
    · rename_i n r heq
      cases heq
      split at h
      · rename_i l' hl
        cases h
        obtain ⟨ns, rfl, rfl⟩ := ih hl
        exact ⟨n :: ns, rfl, rfl⟩
      · cases h
    · cases h

theorem convS_ok (hR : Rel P ρ h W) {src dst : TypeId} {x X v : Value} (hx : vrel ρ x X) (hs : convS P h src dst x = some v) : ∃ V, (convert src dst X).run P W = .ok V W ∧ vrel ρ v V := by
  unfold convS at hs
  split at hs
  · rename_i d k k' n hd hk
    cases hs
    obtain rfl := vrel_int hx
    exact ⟨_, by simp [convert, run_underlying hd, run_underlying hk, Conv.intToInt], .flat rfl⟩
  · rename_i d s hd hk
    cases hs
    obtain rfl := vrel_str hx
    exact ⟨_, by simp [convert, run_underlying hd, run_underlying hk], .flat rfl⟩
  · rename_i e a n c hd hk
    split at hs
    · rename_i he
      split at hs
      · rename_i cs hcs
        split at hs
        · rename_i l hl
          cases hs
          obtain ⟨A, C, New, rfl, hN, hrn, hsrc⟩ := srcCells_ok hR hx (Nat.le_refl _) hcs
          obtain ⟨ns, rfl, rfl⟩ := bytesStr_spec hl
          have hNe : New = ns.map (Value.int .u8) := all2_flat hrn (by simp [flat1])
          subst hNe
          refine ⟨_, ?_, .flat rfl⟩
          rw [run_convert_bytes_string W src dst e A n C hd he hk]
          simp only [Nat.mul_one] at hN
          cases A with
          | none =>
            rcases hsrc with rfl | ⟨B, h1, _⟩
            · have : ns = [] := by simpa using hN
              subst this
              simp [Conv.bytesToString]
              rfl
            · cases h1
          | some B =>
            have hload : (loadCells B n).run P W = .ok (ns.map (Value.int .u8)).toArray W := by
              rcases hsrc with rfl | ⟨B', h1, h2⟩
              · have : ns = [] := by simpa using hN
                subst this
                simp [loadCells, loadCellsFrom]
              · cases h1
                have := run_loadCells_list (P := P) W B (ns.map (Value.int .u8)) h2
                rwa [hN] at this
            rw [run_bytesToString W B n C ns hload, foldl_push_bytes]
            simp [ByteArray.empty, ByteArray.emptyWithCapacity]
            rfl
        · cases hs
      · cases hs
    · cases hs
  · cases hs

end
end Go.Sx
