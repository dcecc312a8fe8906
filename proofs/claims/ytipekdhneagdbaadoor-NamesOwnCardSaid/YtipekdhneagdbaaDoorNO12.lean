/- Part 12 of what the claim leans on: 1 texts laid one behind another. -/
import Derived.Test.YtipekdhneagdbaaDoorNO11
import Derived.WalkKit
import Derived.Carry
import Derived.ChangeSlices
namespace Go.Proofs.YtipekdhneagdbaaDoor
open Go Go.Sx Go.ChangeShapes Go.WideShapes Go.ChangeAt Go.RowKit
set_option maxRecDepth 100000
set_option linter.unusedSimpArgs false
set_option linter.unusedVariables false
set_option maxHeartbeats 64000000
theorem Fv:laidOutB Tryd.prog=true:=by kernel_rfl
theorem Gz {H:Type} {enc:TypeId × Value→H} {W W':World} (hb:Below W.heap.size W W') {sp:Nat→Bool}:∀ (ts:List TypeId) (vs:List Value) (ds:List (DataW H)) (ps:List MemPlace),
  (ts.all fun t=>Tryd.prog.readableRec t&&decide (t<Tryd.prog.types.size))=true→DataW.TrodAll enc Tryd.prog W 0 (fun _=>true) true ts vs ds ps→(∀ p∈ps,p.block<W.heap.size)→(∀ p∈ps,sp p.block=true)→DataW.TrodAll enc Tryd.prog W' 0 sp true ts vs ds ps:=by
 intro ts
 induction ts with
 | nil=>
  intro vs ds ps _ h _ _
  cases vs <;> cases ds <;> first | exact h | exact h.elim
 | cons t ts ih=>
  intro vs ds ps ht h hlt hs
  cases vs with
  | nil=>cases ds <;> exact h.elim
  | cons v vs=>
   cases ds with
   | nil=>exact h.elim
   | cons d ds=>
    obtain⟨p,q,h1,h2,rfl⟩:=h
    simp only[List.all_cons,Bool.and_eq_true,decide_eq_true_eq] at ht
    exact⟨p,q,WideElems.Trod_stays Fv ht.1.1 ht.1.2 h1 (fun x hx=>hb.same (hlt x (List.mem_append_left _ hx))) (fun x hx=>hs x (List.mem_append_left _ hx)),
     ih vs ds q (by simpa using ht.2) h2 (fun x hx=>hlt x (List.mem_append_right _ hx)) (fun x hx=>hs x (List.mem_append_right _ hx)),rfl⟩
end Go.Proofs.YtipekdhneagdbaaDoor
