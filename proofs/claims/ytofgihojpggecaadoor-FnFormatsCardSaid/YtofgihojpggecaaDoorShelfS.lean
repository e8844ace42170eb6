/- The library's slices.Sort and slices.Compact at []int at this program, by the shelf's contracts, over a row of the call's own. No condition beyond those that each theorem names. -/
import Derived.Shelf.Sort.Plain
import Derived.Shelf.Slices.CompactI
import Derived.Shelf.Slices.In.SortNone
import Derived.Lib.RowBridge
import Derived.WalkKit
import Derived.Below
import Derived.Test.YtofgihojpggecaaDoorWWords
import Derived.Test.YtofgihojpggecaaDoorWKept
import Derived.Test.YtofgihojpggecaaDoorProg
namespace Go.Proofs
open Go.Shelf Go.RowKit
def Tryd.laysSort_ren : Go.Shelf.Ren := ⟨fun | 189 => 69 | 125 => 90 | 257 => 89 | 128 => 111 | 129 => 112 | 294 => 102 | 295 => 103 | 296 => 104 | 297 => 105 | 298 => 106 | 299 => 107 | 216 => 108 | 300 => 109 | 301 => 110 | 328 => 122 | 329 => 123 | 330 => 124 | 331 => 125 | 332 => 126 | 215 => 127 | 343 => 134 | n => n, fun | 28 => 50 | 3 => 3 | 46 => 110 | 0 => 0 | 51 => 128 | 53 => 130 | 4 => 4 | 183 => 122 | 182 => 121 | 131 => 38 | 5 => 5 | 9 => 9 | 218 => 144 | 222 => 148 | 228 => 158 | 229 => 59 | n => n, fun | n => n⟩
theorem Tryd.laysSort : Go.Proofs.Lays.n189 Tryd.prog Tryd.laysSort_ren := {
  mixed := by kernel_rfl
  f125 := Tryd.func90.trans (congrArg some (by kernel_rfl))
  f128 := Tryd.func111.trans (congrArg some (by kernel_rfl))
  f129 := Tryd.func112.trans (congrArg some (by kernel_rfl))
  f189 := Tryd.func69.trans (congrArg some (by kernel_rfl))
  f215 := Tryd.func127.trans (congrArg some (by kernel_rfl))
  f216 := Tryd.func108.trans (congrArg some (by kernel_rfl))
  f257 := Tryd.func89.trans (congrArg some (by kernel_rfl))
  f294 := Tryd.func102.trans (congrArg some (by kernel_rfl))
  f295 := Tryd.func103.trans (congrArg some (by kernel_rfl))
  f296 := Tryd.func104.trans (congrArg some (by kernel_rfl))
  f297 := Tryd.func105.trans (congrArg some (by kernel_rfl))
  f298 := Tryd.func106.trans (congrArg some (by kernel_rfl))
  f299 := Tryd.func107.trans (congrArg some (by kernel_rfl))
  f300 := Tryd.func109.trans (congrArg some (by kernel_rfl))
  f301 := Tryd.func110.trans (congrArg some (by kernel_rfl))
  f328 := Tryd.func122.trans (congrArg some (by kernel_rfl))
  f329 := Tryd.func123.trans (congrArg some (by kernel_rfl))
  f330 := Tryd.func124.trans (congrArg some (by kernel_rfl))
  f331 := Tryd.func125.trans (congrArg some (by kernel_rfl))
  f332 := Tryd.func126.trans (congrArg some (by kernel_rfl))
  f343 := Tryd.func134.trans (congrArg some (by kernel_rfl))
  t0 := Tryd.underlying0
  a0 := Tryd.isAgg0
  z0 := Tryd.sizeOf0
  v0 := Tryd.zeroValue0
  t3 := Tryd.underlying3
  a3 := Tryd.isAgg3
  z3 := Tryd.sizeOf3
  v3 := Tryd.zeroValue3
  t4 := Tryd.underlying4
  a4 := Tryd.isAgg4
  z4 := Tryd.sizeOf4
  v4 := Tryd.zeroValue4
  t5 := Tryd.underlying5
  a5 := Tryd.isAgg5
  z5 := Tryd.sizeOf5
  v5 := Tryd.zeroValue5
  t9 := Tryd.underlying9
  a9 := Tryd.isAgg9
  z9 := Tryd.sizeOf9
  v9 := Tryd.zeroValue9
  t28 := Tryd.underlying50
  a28 := Tryd.isAgg50
  z28 := Tryd.sizeOf50
  v28 := Tryd.zeroValue50
  t46 := Tryd.underlying110
  a46 := Tryd.isAgg110
  z46 := Tryd.sizeOf110
  v46 := Tryd.zeroValue110
  t51 := Tryd.underlying128
  a51 := Tryd.isAgg128
  z51 := Tryd.sizeOf128
  v51 := Tryd.zeroValue128
  t53 := Tryd.underlying130
  a53 := Tryd.isAgg130
  z53 := Tryd.sizeOf130
  v53 := Tryd.zeroValue130
  t131 := Tryd.underlying38
  a131 := Tryd.isAgg38
  z131 := Tryd.sizeOf38
  v131 := Tryd.zeroValue38
  t182 := Tryd.underlying121
  a182 := Tryd.isAgg121
  z182 := Tryd.sizeOf121
  v182 := Tryd.zeroValue121
  t183 := Tryd.underlying122
  a183 := Tryd.isAgg122
  z183 := Tryd.sizeOf122
  v183 := Tryd.zeroValue122
  t218 := Tryd.underlying144
  a218 := Tryd.isAgg144
  z218 := Tryd.sizeOf144
  v218 := Tryd.zeroValue144
  t222 := Tryd.underlying148
  a222 := Tryd.isAgg148
  z222 := Tryd.sizeOf148
  v222 := Tryd.zeroValue148
  t228 := Tryd.underlying158
  a228 := Tryd.isAgg158
  z228 := Tryd.sizeOf158
  v228 := Tryd.zeroValue158
  t229 := Tryd.underlying59
  a229 := Tryd.isAgg59
  z229 := Tryd.sizeOf59
  v229 := Tryd.zeroValue59 }
def Tryd.laysCompact_ren : Go.Shelf.Ren := ⟨fun | 20 => 70 | n => n, fun | 22 => 50 | 3 => 3 | 4 => 4 | 0 => 0 | n => n, fun | n => n⟩
theorem Tryd.laysCompact : Go.Proofs.Lays2.n20 Tryd.prog Tryd.laysCompact_ren := {
  mixed := by kernel_rfl
  f20 := Tryd.func70.trans (congrArg some (by kernel_rfl))
  t0 := Tryd.underlying0
  a0 := Tryd.isAgg0
  z0 := Tryd.sizeOf0
  v0 := Tryd.zeroValue0
  t3 := Tryd.underlying3
  a3 := Tryd.isAgg3
  z3 := Tryd.sizeOf3
  v3 := Tryd.zeroValue3
  t4 := Tryd.underlying4
  a4 := Tryd.isAgg4
  z4 := Tryd.sizeOf4
  v4 := Tryd.zeroValue4
  t22 := Tryd.underlying50
  a22 := Tryd.isAgg50
  z22 := Tryd.sizeOf50
  v22 := Tryd.zeroValue50
  i3 := by kernel_rfl }
namespace YtofgihojpggecaaDoor.RowMove
open Go.Proofs.YtofgihojpggecaaDoorW.PrintWords
theorem heap_put (w : World) (g : Nat) (d : Array Int) (k : Nat) : (Go.Sort.putRow (Value.int .i64) w g 0 d).heap[k]? = if g = k then (w.heap[k]?).map (Go.Sort.onCells (Go.Sort.putCells (Value.int .i64) 0 d)) else w.heap[k]? := by
  simp only [Go.Sort.putRow, Go.Sort.mapBlock, Array.getElem?_modify]
theorem take_put (d : Array Int) (c : Array Value) (m : Nat) (hm : m ≤ d.size) (hc : d.size ≤ c.size) : (Go.Sort.putCells (Value.int .i64) 0 d c).toList.take m = encs (Value.int .i64) (d.toList.take m) := by
  apply List.ext_getElem
  · simp [Go.Sort.putCells, encs]
    omega
  · intro i h1 h2
    have hi : i < m := by simp at h1; omega
    have hd : i < d.size := by omega
    simp [Go.Sort.putCells, encs, hd]
theorem own_put {w : World} {base g cap : Nat} {xs : List Int} (h : w.ownsRow base 3 1 (.slice (some ⟨g, 0, none⟩) xs.length cap) xs.length (encs (Value.int .i64) xs)) (n : Nat) (d : Array Int) (hd : d.size = xs.length) (os : Array Obj) (m : Nat) (hm : m ≤ d.size) :
    (Go.Sort.grow (Go.Sort.putRow (Value.int .i64) (Go.Sort.ahead w n) g 0 d) os).ownsRow base 3 1 (.slice (some ⟨g, 0, none⟩) m cap) m (encs (Value.int .i64) (d.toList.take m)) := by
  obtain ⟨hl, hr⟩ := h
  rcases hr with ⟨hv, _⟩ | ⟨g', cap', cur, hv, hb, hh, hn, hx, hs, ht⟩
  · cases hv
  · obtain rfl : g = g' := by injection hv with hv; injection hv with hv; injection hv with hv
    obtain rfl : cap = cap' := by injection hv
    have hlt : g < w.heap.size := by
      rcases Nat.lt_or_ge g w.heap.size with h' | h'
      · exact h'
      · simp [Array.getElem?_eq_none h'] at hh
    refine ⟨by simp [encs]; omega, .inr ⟨g, cap, Go.Sort.putCells (Value.int .i64) 0 d cur, rfl, hb, ?_, by omega, hx, by simpa [Go.Sort.putCells] using hs, ?_⟩⟩
    · have h1 : (Go.Sort.putRow (Value.int .i64) (Go.Sort.ahead w n) g 0 d).heap[g]? = some (.cells (Go.Sort.putCells (Value.int .i64) 0 d cur) 3 (0, 0)) := by
        rw [heap_put, if_pos rfl]
        show (w.heap[g]?).map _ = _
        rw [hh]
        rfl
      show ((Go.Sort.putRow (Value.int .i64) (Go.Sort.ahead w n) g 0 d).heap ++ os)[g]? = _
      rw [Array.getElem?_append_left (by rw [Go.Sort.size_putRow]; exact hlt)]
      exact h1
    · rw [Nat.mul_one]
      exact take_put d cur m hm (by omega)
theorem below_put {w0 w : World} (hB : Below w0.heap.size w0 w) (n g : Nat) (hg : w0.heap.size ≤ g) (d : Array Int) (os : Array Obj) : Below w0.heap.size w0 (Go.Sort.grow (Go.Sort.putRow (Value.int .i64) (Go.Sort.ahead w n) g 0 d) os) := by
  refine ⟨hB.os, hB.tape, hB.output, ?_, ?_⟩
  · show _ ≤ ((Go.Sort.putRow (Value.int .i64) (Go.Sort.ahead w n) g 0 d).heap ++ os).size
    rw [Array.size_append, Go.Sort.size_putRow]
    exact Nat.le_trans hB.size (Nat.le_add_right _ _)
  · intro k hk
    show ((Go.Sort.putRow (Value.int .i64) (Go.Sort.ahead w n) g 0 d).heap ++ os)[k]? = _
    rw [Array.getElem?_append_left (by rw [Go.Sort.size_putRow]; exact Nat.lt_of_lt_of_le hk hB.size), heap_put, if_neg (by omega)]
    exact hB.block k hk
theorem kept_put (w : World) (n g : Nat) (S : Nat → Prop) (hS : S g) (d : Array Int) (os : Array Obj) : Kept w (Go.Sort.grow (Go.Sort.putRow (Value.int .i64) (Go.Sort.ahead w n) g 0 d) os) S := by
  refine ⟨?_, ?_⟩
  · show _ ≤ ((Go.Sort.putRow (Value.int .i64) (Go.Sort.ahead w n) g 0 d).heap ++ os).size
    rw [Array.size_append, Go.Sort.size_putRow]
    exact Nat.le_add_right _ _
  · intro k hk hn
    show ((Go.Sort.putRow (Value.int .i64) (Go.Sort.ahead w n) g 0 d).heap ++ os)[k]? = _
    rw [Array.getElem?_append_left (by rw [Go.Sort.size_putRow]; exact hk), heap_put, if_neg (fun e => by subst e; exact hn hS)]
    rfl
theorem holds_own {w : World} {base g cap : Nat} {xs : List Int} (h : w.ownsRow base 3 1 (.slice (some ⟨g, 0, none⟩) xs.length cap) xs.length (encs (Value.int .i64) xs)) : Go.Sort.Holds (Value.int .i64) w g 0 xs.toArray := by
  intro j hj
  have hj' : j < xs.length := by simpa using hj
  have h2 := own_at_of (d := 0) h (j : Int) (by omega) (by omega)
  rw [Int.toNat_natCast] at h2
  rw [Nat.zero_add]
  refine ⟨?_, h2.2⟩
  rw [h2.1, getElem!_pos _ j hj]
  simp [rdOf, hj']
end YtofgihojpggecaaDoor.RowMove
end Go.Proofs
