/- The law FnExactIsValidKey returns true for all arguments: the program's IsValidKey and the reference's agree. It holds for every input that the statement admits; no condition is added. -/
import Derived.Test.YtaefidahlmojaaaPFnExactIsValidKeyx1
namespace Go.Proofs.Ytaefidahlmojaaa.Pure
open Go.RowKit Go.Proofs.Ytaefidahlmojaaa.PFnExactIsValidKey Go.Proofs.YtaefidahlmojaaaW.PrintWords Go.Proofs.YtaefidahlmojaaaW.PrintLast
set_option linter.unusedVariables false
set_option linter.unusedSimpArgs false

theorem inRange_eq (a b c : Int) : impl_InRange.f a b c = some (decide (b ≤ a ∧ a ≤ c)) := by
  unfold impl_InRange.f; by_cases h : b ≤ a <;> simp [h]

theorem l1In_eq (a b c : Int) : spec_l1In.f a b c = some (decide (b ≤ a ∧ a ≤ c)) := by
  unfold spec_l1In.f; by_cases h : b ≤ a <;> simp [h]

theorem FnExactIsValidKey : laws_FnExactIsValidKey.Pure := by
  intro a _
  unfold laws_FnExactIsValidKey.f impl_IsValidKey.f spec_IsValidKey.f
  rw [inRange_eq, l1In_eq]
  simp

end Go.Proofs.Ytaefidahlmojaaa.Pure
