/- The law FnExactInRange returns true for all arguments: the program's InRange and the reference's agree. It holds for every input that the statement admits; no condition is added. -/
import Derived.Test.YtaefidahlmojaaaPFnExactInRangex1
namespace Go.Proofs.Ytaefidahlmojaaa.Pure
open Go.RowKit Go.Proofs.Ytaefidahlmojaaa.PFnExactInRange Go.Proofs.YtaefidahlmojaaaW.PrintWords Go.Proofs.YtaefidahlmojaaaW.PrintLast
set_option linter.unusedVariables false
set_option linter.unusedSimpArgs false

theorem inRange_eq (a b c : Int) : impl_InRange.f a b c = some (decide (b ≤ a ∧ a ≤ c)) := by
  unfold impl_InRange.f; by_cases h : b ≤ a <;> simp [h]

theorem specInRange_eq (a b c : Int) : spec_InRange.f a b c = some (decide (b ≤ a ∧ a ≤ c)) := by
  unfold spec_InRange.f; by_cases h : b ≤ a <;> simp [h]

theorem FnExactInRange : laws_FnExactInRange.Pure := by
  intro a b c _ _ _
  unfold laws_FnExactInRange.f
  rw [inRange_eq, specInRange_eq]
  simp

end Go.Proofs.Ytaefidahlmojaaa.Pure
