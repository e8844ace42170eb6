/- The words of the walks that follow: what each theorem says stands in its own statement. No condition beyond those that each theorem names. -/
-- PRINTED BY print.sh 35421559b90ae4d0a3588c463048766b98c2df88dd9212a6774a882060cdf62d: not written by this session
import Derived.Test.YthgikmgdgibimaaSFnCodesWInv
import Derived.Test.YthgikmgdgibimaaSFnCodesWFootNe
namespace Go.Proofs.YthgikmgdgibimaaW.PrintWords
open Go.RowKit
end Go.Proofs.YthgikmgdgibimaaW.PrintWords
namespace Go.Proofs.YthgikmgdgibimaaW.PrintLast
section
variable {ops : Array Oper} {a : Act} {o og : Oper} {g : Nat} {t : Tmp} {u : Bool}
end
end Go.Proofs.YthgikmgdgibimaaW.PrintLast
