/- Equality of two spans. -/
import Derived.Test.YtdnnjkneablfiaaGreatDoorSxSp0
namespace Go.Proofs.YtdnnjkneablfiaaGreatDoor
open Go Go.Sx
set_option maxRecDepth 100000
set_option linter.unusedSimpArgs false

theorem pureRun_program {P : Program} : pureRun P Go.program = some P := rfl
theorem pureRun_pure {P : Program} {α : Type} {a : α} : pureRun P (pure a : Sem α) = some a := rfl
theorem guard23 : Tryz.prog.eqGuardType Tryz.prog.depth 23 = false := by kernel_rfl
theorem stood23 : Tryz.prog.stoodInHeld 23 = false := by kernel_rfl
theorem eqi {P : Program} {t : TypeId} {k0 k : IntKind} {a b : Int} (h : P.underlying t = some (.int k0)) (d : Nat) : pureRun P (Op.equalIn (d + 1) t (.int k a) (.int k b)) = some (a == b) := by
  rw [Op.equalIn, pureRun_bind, pureRun_under h]
  simp [pureRun_pure]
theorem part_span {a b : Int} : pureRun Tryz.prog (part 3 #[.int .i64 a, .int .i64 b] 0) = some (.int .i64 a) ∧ pureRun Tryz.prog (part 3 #[.int .i64 a, .int .i64 b] 1) = some (.int .i64 b) := ⟨rfl, rfl⟩
theorem equal23 {a b c d : Int} (n : Nat) : pureRun Tryz.prog (Op.equalIn (n + 2) 23 (spanV a b) (spanV c d)) = some (a == c && b == d) := by
  rw [Op.equalIn, pureRun_bind, pureRun_under Tryz.underlying23]
  simp only [Option.bind_some, pureRun_bind, pureRun_program, stood23, Bool.false_eq_true, if_false, pureRun_pure]
  simp only [List.forIn_toArray, List.forIn_cons, List.forIn_nil, ne_eq, String.reduceEq, not_false_eq_true, if_true, pureRun_bind, part_span.1, part_span.2, Option.bind_some, eqi Tryz.underlying3]
  cases h1 : (a == c) <;> cases h2 : (b == d) <;> simp [pureRun_bind, pureRun_pure, part_span.1, part_span.2, eqi Tryz.underlying3, h1, h2, -beq_iff_eq, -beq_eq_false_iff_ne]
theorem eq23 {x y : Operand} {a b c d : Int} : binS Tryz.prog .eql 23 x y (spanV a b) (spanV c d) = some (.bool (a == c && b == d)) := by
  have e : pureRun Tryz.prog (do eqGuard .eql 23 x y (spanV a b) (spanV c d); binOp .eql 23 (spanV a b) (spanV c d)) = some (.bool (a == c && b == d)) := by
    rw [pureRun_bind]
    have g : pureRun Tryz.prog (eqGuard .eql 23 x y (spanV a b) (spanV c d)) = some () := by
      unfold eqGuard
      simp [pureRun_bind, pureRun_program, pureRun_pure, guard23]
    rw [g]
    show pureRun Tryz.prog ((do pure (.bool (← Op.equal 23 (spanV a b) (spanV c d)))) : Sem Value) = _
    rw [pureRun_bind]
    have k : pureRun Tryz.prog (Op.equal 23 (spanV a b) (spanV c d)) = some (a == c && b == d) := equal23 9998
    rw [k]
    rfl
  simp only [binS, flat_span, Bool.and_self, if_true, e, flat_bool]
end Go.Proofs.YtdnnjkneablfiaaGreatDoor
