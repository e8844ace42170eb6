/- The law FnExactCeilDiv returns true for all arguments: the program's CeilDiv and the reference's agree. It holds for every input that the statement admits; no condition is added. -/
import Derived.Test.YtaefidahlmojaaaPFnExactCeilDivx1
namespace Go.Proofs.Ytaefidahlmojaaa.Pure
open Go.RowKit Go.Proofs.Ytaefidahlmojaaa.PFnExactCeilDiv Go.Proofs.YtaefidahlmojaaaW.PrintWords Go.Proofs.YtaefidahlmojaaaW.PrintLast
set_option linter.unusedVariables false
set_option linter.unusedSimpArgs false

theorem inRange_eq (a b c : Int) : impl_InRange.f a b c = some (decide (b ≤ a ∧ a ≤ c)) := by
  unfold impl_InRange.f; by_cases h : b ≤ a <;> simp [h]

theorem l1In_eq (a b c : Int) : spec_l1In.f a b c = some (decide (b ≤ a ∧ a ≤ c)) := by
  unfold spec_l1In.f; by_cases h : b ≤ a <;> simp [h]

theorem FnExactCeilDiv : laws_FnExactCeilDiv.Pure := by
  intro a b _ _
  unfold laws_FnExactCeilDiv.f impl_CeilDiv.f spec_CeilDiv.f
  simp only [inRange_eq, l1In_eq, Option.bind_some]
  by_cases h1 : 0 ≤ a ∧ a ≤ 1000000000000
  · by_cases h2 : 1 ≤ b ∧ b ≤ 1000000000000
    · have h3 : ¬ b = 0 := by omega
      simp [h1, h2, h3]
    · simp [h1, h2]
  · simp [h1]

end Go.Proofs.Ytaefidahlmojaaa.Pure
