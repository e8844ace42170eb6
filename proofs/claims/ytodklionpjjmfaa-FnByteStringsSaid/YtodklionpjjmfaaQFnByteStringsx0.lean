/- Each Go function that the law reaches, told as a plain Lean function, and the proof that the machine's call answers just that. No condition beyond those that each theorem names. -/
import Derived.Test.YtodklionpjjmfaaProg
import Derived.Below
import Derived.Deep.Draws
import Derived.Deep.AppendLies
import Derived.Maps.AppendAt
import Derived.OwnWalk
import Derived.Laws.BytesArg
import Derived.Laws.MakeOwn
import Derived.Laws.OwnMore
import Derived.Deep.OwnRows
import Derived.Tactics
import Derived.Lib.ConvBytes
import Derived.Laws.Slices
import Derived.WalkKit
import Derived.KernelRfl
import Derived.RowKit3
import Derived.Deep.LoopGhost
import Derived.Deep.QuietTactic
import Derived.BigQuiet
import Derived.WideLaws
import Derived.Deep.DeepCutAuto
import Derived.Deep.CutBlock
import Derived.Deep.RegionHeld3
import Derived.Laws.Rows
import Derived.Lib.AppendStr
import Derived.ArgAppend
import Derived.Laws.IdiomCopy
import Derived.OrdersHeld
import Derived.Laws.BitsLemmas
import Derived.RowKit
import Derived.Lib.SliceRun
import Derived.Test.YtodklionpjjmfaaWWords
import Derived.Test.YtodklionpjjmfaaWLast
import Derived.Test.YtodklionpjjmfaaWTab
import Derived.Test.YtodklionpjjmfaaWFour
import Derived.Test.YtodklionpjjmfaaWQPut
import Derived.Test.YtodklionpjjmfaaWApart
import Derived.Test.YtodklionpjjmfaaWArr
import Derived.Test.YtodklionpjjmfaaWZeros
import Derived.Test.YtodklionpjjmfaaWFoot
import Derived.Test.YtodklionpjjmfaaWKept
import Derived.Test.YtodklionpjjmfaaWShare
import Derived.Test.YtodklionpjjmfaaWN
import Derived.Test.YtodklionpjjmfaaWFootNe
import Derived.Test.YtodklionpjjmfaaWAt
import Derived.Test.YtodklionpjjmfaaWEqStruct
import Derived.Test.YtodklionpjjmfaaWRepsOne
import Derived.Test.YtodklionpjjmfaaWInv
import Derived.Test.YtodklionpjjmfaaWInvWords
import Derived.Test.YtodklionpjjmfaaWGuard
import Derived.Test.YtodklionpjjmfaaWNEv
import Derived.Test.YtodklionpjjmfaaWMore
namespace Go.Proofs.Ytodklionpjjmfaa.QFnByteStrings
open Go.RowKit Go.Proofs.YtodklionpjjmfaaW.PrintWords Go.Proofs.YtodklionpjjmfaaW.PrintLast Go.Proofs.YtodklionpjjmfaaW.PrintMore
attribute [local go_sem] max2_int min2_int max_two min_two max_three min_three max_four min_four   -- for this text's walks alone
set_option linter.unusedVariables false
set_option linter.unusedSimpArgs false



def errW : Option Int → Value
  | none => .nilIface
  | some c => .iface 0 (.int .i64 c)
theorem errW_none : errW none = .nilIface := rfl
theorem errW_some (c : Int) : errW (some c) = .iface 0 (.int .i64 c) := rfl

theorem info3 : (Try.prog.info? 3).map (fun i => (i.zero, i.size, i.bytes)) = some (some (.int .i64 0), 1, 8) := by kernel_rfl
theorem info5 : (Try.prog.info? 5).map (fun i => (i.zero, i.size, i.bytes)) = some (some (.int .u8 0), 1, 1) := by kernel_rfl
-- the values' own types

end Go.Proofs.Ytodklionpjjmfaa.QFnByteStrings
