/- The library's slices.Sort and slices.Compact at []int at this program, by the shelf's contracts, over a row of the call's own. No condition beyond those that each theorem names. -/
import Derived.Shelf.Sort.Plain
import Derived.Shelf.Slices.CompactI
import Derived.Shelf.Slices.In.SortNone
import Derived.Lib.RowBridge
import Derived.WalkKit
import Derived.Below
import Derived.Test.YtofgihojpggecaaWWords
import Derived.Test.YtofgihojpggecaaWKept
import Derived.Test.YtofgihojpggecaaProg
namespace Go.Proofs
open Go.Shelf Go.RowKit
def Try.laysSort_ren : Go.Shelf.Ren := ⟨fun | 189 => 15 | 125 => 19 | 257 => 18 | 128 => 29 | 129 => 30 | 294 => 20 | 295 => 21 | 296 => 22 | 297 => 23 | 298 => 24 | 299 => 25 | 216 => 26 | 300 => 27 | 301 => 28 | 328 => 31 | 329 => 32 | 330 => 33 | 331 => 34 | 332 => 35 | 215 => 36 | 343 => 37 | n => n, fun | 28 => 24 | 3 => 3 | 46 => 43 | 0 => 0 | 51 => 54 | 53 => 56 | 4 => 4 | 183 => 46 | 182 => 45 | 131 => 51 | 5 => 5 | 9 => 9 | 218 => 57 | 222 => 61 | 228 => 64 | 229 => 65 | n => n, fun | n => n⟩
theorem Try.laysSort : Go.Proofs.Lays.n189 Try.prog Try.laysSort_ren := {
  mixed := by kernel_rfl
  f125 := Try.func19.trans (congrArg some (by kernel_rfl))
  f128 := Try.func29.trans (congrArg some (by kernel_rfl))
  f129 := Try.func30.trans (congrArg some (by kernel_rfl))
  f189 := Try.func15.trans (congrArg some (by kernel_rfl))
  f215 := Try.func36.trans (congrArg some (by kernel_rfl))
  f216 := Try.func26.trans (congrArg some (by kernel_rfl))
  f257 := Try.func18.trans (congrArg some (by kernel_rfl))
  f294 := Try.func20.trans (congrArg some (by kernel_rfl))
  f295 := Try.func21.trans (congrArg some (by kernel_rfl))
  f296 := Try.func22.trans (congrArg some (by kernel_rfl))
  f297 := Try.func23.trans (congrArg some (by kernel_rfl))
  f298 := Try.func24.trans (congrArg some (by kernel_rfl))
  f299 := Try.func25.trans (congrArg some (by kernel_rfl))
  f300 := Try.func27.trans (congrArg some (by kernel_rfl))
  f301 := Try.func28.trans (congrArg some (by kernel_rfl))
  f328 := Try.func31.trans (congrArg some (by kernel_rfl))
  f329 := Try.func32.trans (congrArg some (by kernel_rfl))
  f330 := Try.func33.trans (congrArg some (by kernel_rfl))
  f331 := Try.func34.trans (congrArg some (by kernel_rfl))
  f332 := Try.func35.trans (congrArg some (by kernel_rfl))
  f343 := Try.func37.trans (congrArg some (by kernel_rfl))
  t0 := Try.underlying0
  a0 := Try.isAgg0
  z0 := Try.sizeOf0
  v0 := Try.zeroValue0
  t3 := Try.underlying3
  a3 := Try.isAgg3
  z3 := Try.sizeOf3
  v3 := Try.zeroValue3
  t4 := Try.underlying4
  a4 := Try.isAgg4
  z4 := Try.sizeOf4
  v4 := Try.zeroValue4
  t5 := Try.underlying5
  a5 := Try.isAgg5
  z5 := Try.sizeOf5
  v5 := Try.zeroValue5
  t9 := Try.underlying9
  a9 := Try.isAgg9
  z9 := Try.sizeOf9
  v9 := Try.zeroValue9
  t28 := Try.underlying24
  a28 := Try.isAgg24
  z28 := Try.sizeOf24
  v28 := Try.zeroValue24
  t46 := Try.underlying43
  a46 := Try.isAgg43
  z46 := Try.sizeOf43
  v46 := Try.zeroValue43
  t51 := Try.underlying54
  a51 := Try.isAgg54
  z51 := Try.sizeOf54
  v51 := Try.zeroValue54
  t53 := Try.underlying56
  a53 := Try.isAgg56
  z53 := Try.sizeOf56
  v53 := Try.zeroValue56
  t131 := Try.underlying51
  a131 := Try.isAgg51
  z131 := Try.sizeOf51
  v131 := Try.zeroValue51
  t182 := Try.underlying45
  a182 := Try.isAgg45
  z182 := Try.sizeOf45
  v182 := Try.zeroValue45
  t183 := Try.underlying46
  a183 := Try.isAgg46
  z183 := Try.sizeOf46
  v183 := Try.zeroValue46
  t218 := Try.underlying57
  a218 := Try.isAgg57
  z218 := Try.sizeOf57
  v218 := Try.zeroValue57
  t222 := Try.underlying61
  a222 := Try.isAgg61
  z222 := Try.sizeOf61
  v222 := Try.zeroValue61
  t228 := Try.underlying64
  a228 := Try.isAgg64
  z228 := Try.sizeOf64
  v228 := Try.zeroValue64
  t229 := Try.underlying65
  a229 := Try.isAgg65
  z229 := Try.sizeOf65
  v229 := Try.zeroValue65 }
def Try.laysCompact_ren : Go.Shelf.Ren := ⟨fun | 20 => 16 | n => n, fun | 22 => 24 | 3 => 3 | 4 => 4 | 0 => 0 | n => n, fun | n => n⟩
theorem Try.laysCompact : Go.Proofs.Lays2.n20 Try.prog Try.laysCompact_ren := {
  mixed := by kernel_rfl
  f20 := Try.func16.trans (congrArg some (by kernel_rfl))
  t0 := Try.underlying0
  a0 := Try.isAgg0
  z0 := Try.sizeOf0
  v0 := Try.zeroValue0
  t3 := Try.underlying3
  a3 := Try.isAgg3
  z3 := Try.sizeOf3
  v3 := Try.zeroValue3
  t4 := Try.underlying4
  a4 := Try.isAgg4
  z4 := Try.sizeOf4
  v4 := Try.zeroValue4
  t22 := Try.underlying24
  a22 := Try.isAgg24
  z22 := Try.sizeOf24
  v22 := Try.zeroValue24
  i3 := by kernel_rfl }
namespace Ytofgihojpggecaa.RowMove
open Go.Proofs.YtofgihojpggecaaW.PrintWords
theorem heap_put (w : World) (g : Nat) (d : Array Int) (k : Nat) : (Go.Sort.putRow (Value.int .i64) w g 0 d).heap[k]? = if g = k then (w.heap[k]?).map (Go.Sort.onCells (Go.Sort.putCells (Value.int .i64) 0 d)) else w.heap[k]? := by
  simp only [Go.Sort.putRow, Go.Sort.mapBlock, Array.getElem?_modify]
theorem take_put (d : Array Int) (c : Array Value) (m : Nat) (hm : m ≤ d.size) (hc : d.size ≤ c.size) : (Go.Sort.putCells (Value.int .i64) 0 d c).toList.take m = encs (Value.int .i64) (d.toList.take m) := by
  apply List.ext_getElem
  · simp [Go.Sort.putCells, encs]
    omega
  · intro i h1 h2
    have hi : i < m := by simp at h1; omega
    have hd : i < d.size := by omega
    simp [Go.Sort.putCells, encs, hd]
theorem own_put {w : World} {base g cap : Nat} {xs : List Int} (h : w.ownsRow base 3 1 (.slice (some ⟨g, 0, none⟩) xs.length cap) xs.length (encs (Value.int .i64) xs)) (n : Nat) (d : Array Int) (hd : d.size = xs.length) (os : Array Obj) (m : Nat) (hm : m ≤ d.size) :
    (Go.Sort.grow (Go.Sort.putRow (Value.int .i64) (Go.Sort.ahead w n) g 0 d) os).ownsRow base 3 1 (.slice (some ⟨g, 0, none⟩) m cap) m (encs (Value.int .i64) (d.toList.take m)) := by
  obtain ⟨hl, hr⟩ := h
  rcases hr with ⟨hv, _⟩ | ⟨g', cap', cur, hv, hb, hh, hn, hx, hs, ht⟩
  · cases hv
  · obtain rfl : g = g' := by injection hv with hv; injection hv with hv; injection hv with hv
    obtain rfl : cap = cap' := by injection hv
    have hlt : g < w.heap.size := by
      rcases Nat.lt_or_ge g w.heap.size with h' | h'
      · exact h'
      · simp [Array.getElem?_eq_none h'] at hh
    refine ⟨by simp [encs]; omega, .inr ⟨g, cap, Go.Sort.putCells (Value.int .i64) 0 d cur, rfl, hb, ?_, by omega, hx, by simpa [Go.Sort.putCells] using hs, ?_⟩⟩
    · have h1 : (Go.Sort.putRow (Value.int .i64) (Go.Sort.ahead w n) g 0 d).heap[g]? = some (.cells (Go.Sort.putCells (Value.int .i64) 0 d cur) 3 (0, 0)) := by
        rw [heap_put, if_pos rfl]
        show (w.heap[g]?).map _ = _
        rw [hh]
        rfl
      show ((Go.Sort.putRow (Value.int .i64) (Go.Sort.ahead w n) g 0 d).heap ++ os)[g]? = _
      rw [Array.getElem?_append_left (by rw [Go.Sort.size_putRow]; exact hlt)]
      exact h1
    · rw [Nat.mul_one]
      exact take_put d cur m hm (by omega)
theorem below_put {w0 w : World} (hB : Below w0.heap.size w0 w) (n g : Nat) (hg : w0.heap.size ≤ g) (d : Array Int) (os : Array Obj) : Below w0.heap.size w0 (Go.Sort.grow (Go.Sort.putRow (Value.int .i64) (Go.Sort.ahead w n) g 0 d) os) := by
  refine ⟨hB.os, hB.tape, hB.output, ?_, ?_⟩
  · show _ ≤ ((Go.Sort.putRow (Value.int .i64) (Go.Sort.ahead w n) g 0 d).heap ++ os).size
    rw [Array.size_append, Go.Sort.size_putRow]
    exact Nat.le_trans hB.size (Nat.le_add_right _ _)
  · intro k hk
    show ((Go.Sort.putRow (Value.int .i64) (Go.Sort.ahead w n) g 0 d).heap ++ os)[k]? = _
    rw [Array.getElem?_append_left (by rw [Go.Sort.size_putRow]; exact Nat.lt_of_lt_of_le hk hB.size), heap_put, if_neg (by omega)]
    exact hB.block k hk
theorem kept_put (w : World) (n g : Nat) (S : Nat → Prop) (hS : S g) (d : Array Int) (os : Array Obj) : Kept w (Go.Sort.grow (Go.Sort.putRow (Value.int .i64) (Go.Sort.ahead w n) g 0 d) os) S := by
  refine ⟨?_, ?_⟩
  · show _ ≤ ((Go.Sort.putRow (Value.int .i64) (Go.Sort.ahead w n) g 0 d).heap ++ os).size
    rw [Array.size_append, Go.Sort.size_putRow]
    exact Nat.le_add_right _ _
  · intro k hk hn
    show ((Go.Sort.putRow (Value.int .i64) (Go.Sort.ahead w n) g 0 d).heap ++ os)[k]? = _
    rw [Array.getElem?_append_left (by rw [Go.Sort.size_putRow]; exact hk), heap_put, if_neg (fun e => by subst e; exact hn hS)]
    rfl
theorem holds_own {w : World} {base g cap : Nat} {xs : List Int} (h : w.ownsRow base 3 1 (.slice (some ⟨g, 0, none⟩) xs.length cap) xs.length (encs (Value.int .i64) xs)) : Go.Sort.Holds (Value.int .i64) w g 0 xs.toArray := by
  intro j hj
  have hj' : j < xs.length := by simpa using hj
  have h2 := own_at_of (d := 0) h (j : Int) (by omega) (by omega)
  rw [Int.toNat_natCast] at h2
  rw [Nat.zero_add]
  refine ⟨?_, h2.2⟩
  rw [h2.1, getElem!_pos _ j hj]
  simp [rdOf, hj']
end Ytofgihojpggecaa.RowMove
end Go.Proofs
