/- Each operation of the shadow reading is the machine's: memory. -/
import Derived.Test.YtdnnjkneablfiaaGreatDoorSx2
import Derived.Laws.Cells
import Derived.Laws.CopyRow
import Derived.Laws.AppendOwn
import Derived.Laws.MakeOwn
namespace Go.Sx
open Go
set_option linter.unusedSimpArgs false

section runs
variable {P : Program} {W : World}
theorem run_pureRun {α : Type} {m : Sem α} {a : α} (h : pureRun P m = some a) : m.run P W = .ok a W := by
  induction m with
  | pure b => simp [pureRun] at h; subst h; rfl
  | program k ih => simp only [pureRun] at h; simp only [Sem.run]; exact ih _ h
  | mark m k ih => simp only [pureRun] at h; simp only [Sem.run]; exact ih h
  | _ => simp [pureRun] at h
theorem run_sizeOf {t : TypeId} {n : Nat} (h : szOf P t = some n) : (sizeOf t).run P W = .ok n W := by
  unfold szOf at h
  cases hi : P.info? t with
  | none => simp [hi] at h
  | some i => simp [hi] at h; simp [sizeOf, typeInfo, hi, h]
theorem run_zeroValue {t : TypeId} {z : Value} (h : zeroOf P t = some z) : (zeroValue t).run P W = .ok z W := by
  unfold zeroOf at h
  cases hi : P.info? t with
  | none => simp [hi] at h
  | some i => simp [hi] at h; simp [zeroValue, typeInfo, hi, h]
theorem run_isAgg {t : TypeId} {b : Bool} (h : aggOf P t = some b) : (isAgg t).run P W = .ok b W := by
  unfold aggOf at h
  cases hu : P.underlying t with
  | none => simp [hu] at h
  | some d => cases d <;> simp [hu] at h <;> subst h <;> simp [isAgg, run_underlying hu]
theorem add_lit (b o n : Nat) : (⟨b, o, none⟩ : Addr).add n = ⟨b, o + n, none⟩ := by
  unfold Addr.add; split <;> simp_all
theorem run_loads {b off : Nat} {CS : Array Value} {ty : TypeId} {fr : Nat × Nat} (hb : W.heap[b]? = some (.cells CS ty fr)) {l : List Value} {n : Nat} (hn : l.length = n) (hl : ∀ (k : Nat) (v : Value), l[k]? = some v → CS[off + k]? = some v) :
    (loadCells ⟨b, off, none⟩ n).run P W = .ok l.toArray W := by
  subst hn
  refine run_loadCells_list W _ l fun j v hv => ?_
  rw [add_lit, cell_of_row W b (off + j) CS ty fr hb]
  exact hl j v hv
theorem one_eq (v : Value) : one v = v.oneCell' := by cases v <;> rfl
end runs

def upd (ρ : Map) (i : Nat) (L : Loc) : Map := fun j => if j = i then some L else ρ j
theorem upd_same (ρ : Map) (i : Nat) (L : Loc) : upd ρ i L i = some L := by simp [upd]
theorem upd_ne {ρ : Map} {i j : Nat} {L : Loc} (h : j ≠ i) : upd ρ i L j = ρ j := by simp [upd, h]

section
variable {P : Program} {ρ : Map} {h : SHeap} {W : World}

theorem Rel.ext_upd (hR : Rel P ρ h W) {L : Loc} : ∀ i L', ρ i = some L' → upd ρ h.next L i = some L' := by
  intro i L' hi
  rw [upd_ne]
  · exact hi
  · rintro rfl
    rw [hR.dom _ (Nat.le_refl _)] at hi
    cases hi

theorem Rel.lt (hR : Rel P ρ h W) {i : Nat} {L : Loc} (hi : ρ i = some L) : i < h.next := by
  rcases Nat.lt_or_ge i h.next with hlt | hge
  · exact hlt
  · rw [hR.dom _ hge] at hi; cases hi

/-- A new object. -/
theorem nx_push (hR : Rel P ρ h W) {o : SObj} {O : Obj} {L : Loc} {W1 : World} (h1 : W1.heap = W.heap) (hos : W1.os = W.os) (htp : W1.tape = W.tape) (hout : W1.output = W.output)
    (hb : L.b = W.heap.size) (ho : objR P (upd ρ h.next L) (W1.alloc O) h.next o) : Nx P ρ h W (upd ρ h.next L) (h.push o) (W1.alloc O) := by
  have hx := hR.ext_upd (L := L)
  have hsz : (W1.alloc O).heap.size = W.heap.size + 1 := by simp [h1]
  have hold : ∀ b, b < W.heap.size → (W1.alloc O).heap[b]? = W.heap[b]? := fun b hb => by rw [heap_alloc_old W1 O b (by rw [h1]; exact hb), h1]
  have hkeep : ∀ i, i ≠ h.next → objR P (upd ρ h.next L) (W1.alloc O) i (h.get i) := fun i hi =>
    (hR.obj i).mono hx fun L' hL' hl => by
      obtain ⟨L2, e2, hlt⟩ := (hR.obj i).at_ hl
      rw [hL'] at e2
      cases e2
      exact hold _ hlt
  refine ⟨hx, fun i hi => upd_ne (by omega), ⟨len_push hR.len, ?_, ?_, ?_, ?_⟩, ⟨hos, htp, hout, by omega, fun b hb' _ => hold b hb'⟩, by simp [SHeap.push], rfl, ?_, ?_, ?_, ?_⟩
  · intro i hi
    simp only [SHeap.push] at hi
    rw [upd_ne (by omega)]
    exact hR.dom i (by omega)
  · intro g hg
    obtain ⟨L', h1, h2, h3⟩ := hR.glob g hg
    exact ⟨L', hx _ _ h1, h2, h3⟩
  · intro i
    by_cases hi : i = h.next
    · subst hi; rw [get_push_new]; exact ho
    · rw [get_push hi]; exact hkeep i hi
  · intro i j Li Lj hw hl hne hi hj
    by_cases ei : i = h.next
    · subst ei
      rw [upd_same] at hi
      cases hi
      rw [upd_ne (Ne.symm hne)] at hj
      rw [get_push (Ne.symm hne)] at hl
      obtain ⟨L2, e2, hlt⟩ := (hR.obj j).at_ hl
      rw [hj] at e2
      cases e2
      omega
    · by_cases ej : j = h.next
      · subst ej
        rw [upd_same] at hj
        cases hj
        rw [upd_ne hne] at hi
        rw [get_push hne] at hw
        obtain ⟨L2, e2, hlt⟩ := (hR.obj i).at_ hw.live
        rw [hi] at e2
        cases e2
        omega
      · rw [upd_ne ei] at hi
        rw [upd_ne ej] at hj
        rw [get_push ei] at hw
        rw [get_push ej] at hl
        exact hR.inj i j Li Lj hw hl hne hi hj
  · intro i hi _; exact get_push_old hi
  · intro i hi hw; rwa [get_push_old hi] at hw
  · intro i hi hw; rwa [get_push_old hi] at hw
  · intro i L' hi hw hL'
    left
    by_cases ei : i = h.next
    · subst ei
      rw [upd_same] at hL'
      cases hL'
      omega
    · rw [get_ge (by simp [SHeap.push]; omega)] at hw
      exact hw.elim

/-- An object is written. -/
theorem nx_put (hR : Rel P ρ h W) {i : Nat} {o : SObj} {W' : World} {L : Loc} (hw : wr (h.get i)) (hf : h.floor ≤ i) (hL : ρ i = some L)
    (hos : W'.os = W.os) (htp : W'.tape = W.tape) (hout : W'.output = W.output) (hsz : W.heap.size ≤ W'.heap.size)
    (hblk : ∀ b, b < W.heap.size → b ≠ L.b → W'.heap[b]? = W.heap[b]?) (ho : objR P ρ W' i o) : Nx P ρ h W ρ (h.put i o) W' := by
  have hi : i < h.next := hR.lt hL
  refine ⟨fun _ _ h => h, fun _ _ => rfl, ⟨len_put hR.len, ?_, hR.glob, ?_, ?_⟩, ⟨hos, htp, hout, hsz, ?_⟩, Nat.le_refl _, rfl, ?_, ?_, ?_, ?_⟩
  · intro j hj; exact hR.dom j hj
  · intro j
    by_cases e : i = j
    · subst e; rw [get_put_same hR.len hi]; exact ho
    · rw [get_put_ne hi e]
      exact (hR.obj j).mono (fun _ _ h => h) fun L' hL' hl => by
        obtain ⟨L2, e2, hlt⟩ := (hR.obj j).at_ hl
        rw [hL'] at e2
        cases e2
        exact hblk _ hlt (Ne.symm (hR.inj i j L L' hw hl e hL hL'))
  · intro a b La Lb hwa hlb hne hLa hLb
    have ha : wr (h.get a) := by
      by_cases e : i = a
      · subst e; exact hw
      · rwa [get_put_ne hi e] at hwa
    have hb : live (h.get b) := by
      by_cases e : i = b
      · subst e; exact hw.live
      · rwa [get_put_ne hi e] at hlb
    exact hR.inj a b La Lb ha hb hne hLa hLb
  · intro b hb hno
    exact hblk b hb (Ne.symm (hno i L hw hf hL))
  · intro j hj hjf
    exact get_put_ne hi (by omega)
  · intro j hj hwj
    by_cases e : i = j
    · subst e; exact hw
    · rwa [get_put_ne hi e] at hwj
  · intro j hj hwj
    by_cases e : i = j
    · subst e; exact hw.live
    · rwa [get_put_ne hi e] at hwj
  · intro j L' hj hwj _
    rw [get_ge (by simpa [SHeap.put] using hj)] at hwj
    exact hwj.elim

theorem row_get {id : Nat} {cs : List Value} {ty : TypeId} {g ro : Bool} (hR : Rel P ρ h W) (hg : h.get id = .row cs ty g ro) {L : Loc} (hL : ρ id = some L) :
    ∃ CS ty' fr, W.heap[L.b]? = some (.cells CS ty' fr) ∧ (∀ (k : Nat) (v : Value), cs[k]? = some v → ∃ V, CS[L.d + k]? = some V ∧ vrel ρ v V) ∧
      (ro = false → fr = (0, 0) ∧ ty' = ty ∧ L.d + L.e = CS.size ∧ szOf P ty = some L.z) := by
  have := hR.obj id
  rw [hg] at this
  obtain ⟨L', CS, ty', fr, h1, h2, h3, h4⟩ := this
  rw [hL] at h1
  cases h1
  exact ⟨CS, ty', fr, h2, h3, h4⟩

theorem cut_spec {cs l : List Value} {off n : Nat} (hc : cut cs off n = some l) : l.length = n ∧ ∀ (k : Nat) (v : Value), l[k]? = some v → cs[off + k]? = some v := by
  unfold cut at hc
  simp only at hc
  split at hc
  · rename_i hl
    cases hc
    refine ⟨hl, fun k v hv => ?_⟩
    rw [List.getElem?_take] at hv
    split at hv
    · rw [List.getElem?_drop] at hv; exact hv
    · cases hv
  · cases hc

/-- Cells that are read one by one: their list on the other side. -/
theorem cells_list {cs l : List Value} {off n d : Nat} {CS : Array Value} (hc : cut cs off n = some l) (hcs : ∀ (k : Nat) (v : Value), cs[k]? = some v → ∃ V, CS[d + k]? = some V ∧ vrel ρ v V) :
    ∃ m : List Value, m.length = n ∧ All2 (vrel ρ) l m ∧ ∀ (k : Nat) (V : Value), m[k]? = some V → CS[d + off + k]? = some V := by
  obtain ⟨hl, hg⟩ := cut_spec hc
  clear hc
  subst hl
  induction l generalizing off with
  | nil => exact ⟨[], rfl, .nil, by simp⟩
  | cons a l ih =>
    obtain ⟨V, hV, hr⟩ := hcs off a (by simpa using hg 0 a rfl)
    obtain ⟨m, hm, h2, h3⟩ := ih (off := off + 1) (fun k v hv => by have := hg (k + 1) v (by simpa using hv); rwa [show off + (k + 1) = off + 1 + k by omega] at this)
    refine ⟨V :: m, by simp [hm], .cons hr h2, fun k X hk => ?_⟩
    cases k with
    | zero => simp at hk; subst hk; simpa using hV
    | succ k => have := h3 k X (by simpa using hk); rwa [show d + (off + 1) + k = d + off + (k + 1) by omega] at this

theorem loadS_ok (hR : Rel P ρ h W) {t : TypeId} {a A v : Value} (ha : vrel ρ a A) (hs : loadS P h t a = some v) :
    ∃ V, (Instr.loadAt t A).run P W = .ok V W ∧ vrel ρ v V := by
  unfold loadS at hs
  split at hs
  · rename_i id off
    split at hs
    · rename_i cs ty g ro hg
      obtain ⟨L, hL, rfl⟩ := vrel_ptr ha
      obtain ⟨CS, ty', fr, hb, hcs, _⟩ := row_get hR hg hL
      split at hs
      · rename_i hagg
        split at hs
        · rename_i n hn
          split at hs
          · rename_i l hcut
            cases hs
            obtain ⟨m, hm, h2, h3⟩ := cells_list hcut hcs
            refine ⟨.agg m.toArray, ?_, .agg (by simpa using h2)⟩
            simp [Instr.loadAt, Instr.sureAddr, loadVar, run_isAgg hagg, run_sizeOf hn, run_loads hb hm h3]
          · cases hs
        · cases hs
      · rename_i hagg
        obtain ⟨V, hV, hr⟩ := hcs off v hs
        refine ⟨V, ?_, hr⟩
        have hcell : W.cell? ⟨L.b, L.d + off, none⟩ = some V := by rw [cell_of_row W L.b _ CS ty' fr hb]; exact hV
        simp [Instr.loadAt, Instr.sureAddr, loadVar, run_isAgg hagg, hcell]
      · cases hs
    · cases hs
  · cases hs

theorem lay_length {cs new : List Value} {off : Nat} (h : off + new.length ≤ cs.length) : (lay cs off new).length = cs.length := by
  simp [lay]; omega

theorem lay_get {cs new : List Value} {off k : Nat} (h : off + new.length ≤ cs.length) : (lay cs off new)[k]? = if off ≤ k ∧ k < off + new.length then new[k - off]? else cs[k]? := by
  unfold lay
  have hlt : (cs.take off).length = off := by simp; omega
  by_cases h1 : k < off
  · rw [if_neg (by omega), List.append_assoc, List.getElem?_append_left (by omega), List.getElem?_take, if_pos h1]
  · by_cases h2 : k < off + new.length
    · rw [if_pos ⟨by omega, h2⟩, List.append_assoc, List.getElem?_append_right (by omega), hlt, List.getElem?_append_left (by omega)]
    · rw [if_neg (by omega), List.getElem?_append_right (by simp; omega), List.getElem?_drop]
      congr 1
      simp
      omega

/-- Cells are stored into a row of the heap's own. -/
theorem storeRow_ok (hR : Rel P ρ h W) {id off : Nat} {new New : List Value} {h' : SHeap} (hn : All2 (vrel ρ) new New) {L : Loc} (hL : ρ id = some L) (hs : storeRow h id off new = some h') :
    ∃ W', (storeCells ⟨L.b, L.d + off, none⟩ New).run P W = .ok () W' ∧ Nx P ρ h W ρ h' W' := by
  unfold storeRow at hs
  split at hs
  · rename_i cs ty g hg
    split at hs
    · rename_i hc
      simp only [Bool.and_eq_true, decide_eq_true_eq] at hc
      obtain ⟨⟨hf, hlen⟩, hone⟩ := hc
      cases hs
      obtain ⟨CS, ty', fr, hb, hcs, hown⟩ := row_get hR hg hL
      obtain ⟨rfl, rfl, hsz, hz⟩ := hown rfl
      have hNl : New.length = new.length := hn.length.symm
      have hfit : L.d + off + New.length ≤ CS.size := by
        rcases Nat.eq_zero_or_pos New.length with h0 | h0
        · rcases Nat.eq_zero_or_pos cs.length with hc0 | hc0
          · have : off = 0 := by omega
            omega
          · have hlast := hcs (cs.length - 1) cs[cs.length - 1] (List.getElem?_eq_getElem (by omega))
            obtain ⟨V, hV, _⟩ := hlast
            have := (Array.getElem?_eq_some_iff.1 hV).1
            omega
        · obtain ⟨V, hV, _⟩ := hcs (off + new.length - 1) cs[off + new.length - 1] (List.getElem?_eq_getElem (by omega))
          have := (Array.getElem?_eq_some_iff.1 hV).1
          omega
      have h1 : ∀ v ∈ New, v.oneCell' = true := by
        intro V hV
        obtain ⟨k, hk⟩ := List.getElem?_of_mem hV
        obtain ⟨v, hv, hr⟩ := hn.getR hk
        rw [← one_eq, vrel_one hr]
        exact List.all_eq_true.1 hone v (List.mem_of_getElem? hv)
      have hrun := run_storeCells_at P L.b (L.d + off) ty' New 0 CS W hb (by simpa using hfit) h1
      refine ⟨_, hrun, ?_⟩
      simp only [Nat.add_zero]
      have hnew : (W.setRow L.b (CS.toList.take (L.d + off) ++ New ++ CS.toList.drop (L.d + off + New.length)).toArray).heap[L.b]? = some (.cells (lay CS.toList (L.d + off) New).toArray ty' (0, 0)) := setRow_heap W L.b CS _ ty' _ hb
      refine nx_put hR (L := L) (by rw [hg]; rfl) hf hL rfl rfl rfl (by simp) (fun b _ hne => setRow_other W L.b b _ hne) ?_
      refine ⟨L, _, _, _, hL, hnew, ?_, fun _ => ⟨rfl, rfl, ?_, hz⟩⟩
      · intro k v hv
        rw [lay_get hlen] at hv
        have hg2 := lay_get (cs := CS.toList) (new := New) (off := L.d + off) (k := L.d + k) (by simpa using hfit)
        simp only [List.getElem?_toArray]
        rw [hg2]
        split at hv
        · rename_i hk
          obtain ⟨V, hV, hr⟩ := hn.get hv
          refine ⟨V, ?_, hr⟩
          rw [if_pos ⟨by omega, by omega⟩, show L.d + k - (L.d + off) = k - off by omega]
          exact hV
        · rename_i hk
          obtain ⟨V, hV, hr⟩ := hcs k v hv
          refine ⟨V, ?_, hr⟩
          rw [if_neg (by omega)]
          simpa using hV
      · rw [hsz]
        simp [lay_length (cs := CS.toList) (new := New) (off := L.d + off) (by simpa using hfit)]
    · cases hs
  · cases hs

theorem storeS_ok (hR : Rel P ρ h W) {t : TypeId} {a A v V : Value} {h' : SHeap} (ha : vrel ρ a A) (hv : vrel ρ v V) (hs : storeS P h t a v = some h') :
    ∃ W', (Instr.storeAt t A V).run P W = .ok () W' ∧ Nx P ρ h W ρ h' W' := by
  unfold storeS at hs
  split at hs
  · rename_i id off
    split at hs
    · rename_i hsz
      obtain ⟨L, hL, rfl⟩ := vrel_ptr ha
      have hc := vrel_cells hv
      have hcl : V.cells.size = v.cells.size := by simpa using hc.length.symm
      obtain ⟨W', hrun, hN⟩ := storeRow_ok hR hc hL hs
      refine ⟨W', ?_, hN⟩
      simp [Instr.storeAt, Instr.sureAddr, storeVar, run_sizeOf hsz, hcl, hrun]
    · cases hs
  · cases hs
end

end Go.Sx
