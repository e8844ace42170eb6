/- Each Go function that the law reaches, told as a plain Lean function, and the proof that the machine's call answers just that. No condition beyond those that each theorem names. -/
import Derived.Test.YtofgihojpggecaaDoorProg
import Derived.Below
import Derived.Deep.Draws
import Derived.Deep.AppendLies
import Derived.Maps.AppendAt
import Derived.OwnWalk
import Derived.Laws.BytesArg
import Derived.Laws.MakeOwn
import Derived.Laws.OwnMore
import Derived.Deep.OwnRows
import Derived.Tactics
import Derived.Lib.ConvBytes
import Derived.Laws.Slices
import Derived.WalkKit
import Derived.KernelRfl
import Derived.RowKit3
import Derived.Deep.LoopGhost
import Derived.Deep.QuietTactic
import Derived.BigQuiet
import Derived.WideLaws
import Derived.Deep.DeepCutAuto
import Derived.Deep.CutBlock
import Derived.Deep.RegionHeld3
import Derived.Laws.Rows
import Derived.Lib.AppendStr
import Derived.ArgAppend
import Derived.Laws.IdiomCopy
import Derived.OrdersHeld
import Derived.Laws.BitsLemmas
import Derived.RowKit
import Derived.Lib.SliceRun
import Derived.ArgAppend
import Derived.Test.YtofgihojpggecaaDoorShelf
import Derived.Test.YtofgihojpggecaaDoorShelfA
import Derived.Test.YtofgihojpggecaaDoorWWords
import Derived.Test.YtofgihojpggecaaDoorWLast
import Derived.Test.YtofgihojpggecaaDoorWTab
import Derived.Test.YtofgihojpggecaaDoorWFour
import Derived.Test.YtofgihojpggecaaDoorWQPut
import Derived.Test.YtofgihojpggecaaDoorWApart
import Derived.Test.YtofgihojpggecaaDoorWArr
import Derived.Test.YtofgihojpggecaaDoorWZeros
import Derived.Test.YtofgihojpggecaaDoorWFoot
import Derived.Test.YtofgihojpggecaaDoorWKept
import Derived.Test.YtofgihojpggecaaDoorWShare
import Derived.Test.YtofgihojpggecaaDoorWN
import Derived.Test.YtofgihojpggecaaDoorWFootNe
import Derived.Test.YtofgihojpggecaaDoorWAt
import Derived.Test.YtofgihojpggecaaDoorWEqStruct
import Derived.Test.YtofgihojpggecaaDoorWRepsOne
import Derived.Test.YtofgihojpggecaaDoorWInv
import Derived.Test.YtofgihojpggecaaDoorWInvWords
import Derived.Test.YtofgihojpggecaaDoorWGuard
import Derived.Test.YtofgihojpggecaaDoorWNEv
import Derived.Test.YtofgihojpggecaaDoorWMore
namespace Go.Proofs.YtofgihojpggecaaDoor.QFnIntegers
open Go.RowKit Go.Proofs.YtofgihojpggecaaDoorW.PrintWords Go.Proofs.YtofgihojpggecaaDoorW.PrintLast Go.Proofs.YtofgihojpggecaaDoorW.PrintMore
attribute [local go_sem] max2_int min2_int max_two min_two max_three min_three max_four min_four   -- for this text's walks alone
set_option linter.unusedVariables false
set_option linter.unusedSimpArgs false



def errW : Option Int → Value
  | none => .nilIface
  | some c => .iface 0 (.int .i64 c)
theorem errW_none : errW none = .nilIface := rfl
theorem errW_some (c : Int) : errW (some c) = .iface 0 (.int .i64 c) := rfl

theorem info3 : (Tryd.prog.info? 3).map (fun i => (i.zero, i.size, i.bytes)) = some (some (.int .i64 0), 1, 8) := by kernel_rfl
theorem info5 : (Tryd.prog.info? 5).map (fun i => (i.zero, i.size, i.bytes)) = some (some (.int .u8 0), 1, 1) := by kernel_rfl
theorem info9 : (Tryd.prog.info? 9).map (fun i => (i.zero, i.size, i.bytes)) = some (some (.string ⟨#[]⟩), 1, 16) := by kernel_rfl
-- the values' own types

end Go.Proofs.YtofgihojpggecaaDoor.QFnIntegers
