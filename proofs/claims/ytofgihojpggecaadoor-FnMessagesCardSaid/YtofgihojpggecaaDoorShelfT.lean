/- What a walk keeps of the one listed table. No condition beyond those that each theorem names. -/
import Derived.Test.YtofgihojpggecaaDoorShelf
namespace Go.Proofs
open Go.Shelf Go.RowKit
/-- What the listed variable holds: the table of the powers of ten. -/
structure Tryd.LaidT (w : World) : Prop where
  tab : Lib.TabIs Tryd.prog w "internal/strconv.uint64pow10" .u64 Lib.pow10Tab
theorem Tryd.LaidT.stays {w w' : World} (h : Tryd.LaidT w) (hb : Below w.heap.size w w') : Tryd.LaidT w' := ⟨Joins.tab_stays (g := 2) (by kernel_rfl) h.tab hb (Nat.le_refl _)⟩
end Go.Proofs
