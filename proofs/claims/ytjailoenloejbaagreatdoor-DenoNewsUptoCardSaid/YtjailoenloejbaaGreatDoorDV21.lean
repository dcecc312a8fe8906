/- Part 21. -/
import Derived.Test.YtjailoenloejbaaGreatDoorDV20
import Derived.WalkKit
import Derived.Carry
import Derived.ChangeSlices
set_option linter.all false
namespace Go.Proofs.YtjailoenloejbaaGreatDoor
open Go Go.Sx Go.ChangeShapes Go.WideShapes Go.ChangeAt Go.RowKit Go.Proofs.Tryz
set_option maxRecDepth 100000
set_option maxHeartbeats 0
theorem zo:laidOutB prog=true:=by kernel_rfl
theorem zp{H:Type}{e:TypeId×Value->H}{W W':World}(k:Below W.heap.size W W'){i:Nat->Bool}:∀(c:List TypeId)(vs:List Value)(a:List (DataW H))(ps:List MemPlace),(c.all fun t=>prog.readableRec t&&decide (t<prog.types.size))=true->DataW.TrodAll e prog W 0 (fun _=>true) true c vs a ps->(∀p∈ps,p.block<W.heap.size)->(∀p∈ps,i p.block=true)->DataW.TrodAll e prog W' 0 i true c vs a ps:=by
 intro c;induction c with
 |nil=>intro vs a ps _ h _ _;cases vs<;>cases a<;>first|exact h|exact h.elim
 |cons t c l=>intro vs a ps g h f j;cases vs with|nil=>assumption|cons v vs=>cases a with|nil=>assumption|cons d a=>obtain⟨p,q,m,n,rfl⟩:=h;simp only[az,ah,am]at g;exact⟨p,q,WideElems.Trod_stays zo g.1.1 g.1.2 m (fun x b=>k.same (f x (List.mem_append_left _ b))) (fun x b=>j x (List.mem_append_left _ b)),l vs a q (by grind) n (fun x b=>f x (List.mem_append_right _ b)) (fun x b=>j x (List.mem_append_right _ b)),rfl⟩
end Go.Proofs.YtjailoenloejbaaGreatDoor




