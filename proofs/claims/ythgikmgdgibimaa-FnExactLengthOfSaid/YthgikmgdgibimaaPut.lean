/- Three laws of lists by short names: a store into an array that is written out. -/
import Derived.WalkKit
import Derived.Below
namespace Go
open Go.RowKit Go.ChangeShapes Go.WideShapes
theorem sT {α : Type} (l : List α) (i : Nat) (a : α) : l.toArray.setIfInBounds i a = (l.set i a).toArray := by simp
theorem sZ {α : Type} (x : α) (l : List α) (a : α) : (x :: l).set 0 a = a :: l := rfl
theorem sS {α : Type} (x : α) (l : List α) (n : Nat) (a : α) : (x :: l).set (n + 1) a = x :: l.set n a := rfl
theorem hC {w W : World} {a : Addr} {v : Value} (h : Below w.heap.size w W) (x : w.cell? a = some v) : W.cell? a = some v := (h.cell (World.block_lt_of_cell? w _ x)).trans x
end Go
