/- The law FnExactConstants returns true: each constant of the program has the value that the reference names. It holds for every input that the statement admits; no condition is added. -/
import Derived.Test.YtaefidahlmojaaaPFnExactConstantsx1
namespace Go.Proofs.Ytaefidahlmojaaa.Pure
open Go.RowKit Go.Proofs.Ytaefidahlmojaaa.PFnExactConstants Go.Proofs.YtaefidahlmojaaaW.PrintWords Go.Proofs.YtaefidahlmojaaaW.PrintLast
set_option linter.unusedVariables false
set_option linter.unusedSimpArgs false


theorem FnExactConstants : laws_FnExactConstants.Pure := rfl

end Go.Proofs.Ytaefidahlmojaaa.Pure
