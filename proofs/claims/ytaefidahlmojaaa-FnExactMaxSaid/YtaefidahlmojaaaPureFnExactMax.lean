/- The law FnExactMax returns true for all arguments: the program's Max and the reference's agree. It holds for every input that the statement admits; no condition is added. -/
import Derived.Test.YtaefidahlmojaaaPFnExactMaxx1
namespace Go.Proofs.Ytaefidahlmojaaa.Pure
open Go.RowKit Go.Proofs.Ytaefidahlmojaaa.PFnExactMax Go.Proofs.YtaefidahlmojaaaW.PrintWords Go.Proofs.YtaefidahlmojaaaW.PrintLast
set_option linter.unusedVariables false
set_option linter.unusedSimpArgs false


theorem FnExactMax : laws_FnExactMax.Pure := by
  intro a b _ _
  unfold laws_FnExactMax.f impl_Max.f spec_Max.f mx
  by_cases h : a < b
  · by_cases h' : b < a
    · omega
    · simp [h, h']
  · by_cases h' : b < a
    · simp [h, h']
    · obtain rfl : a = b := by omega
      simp

end Go.Proofs.Ytaefidahlmojaaa.Pure
