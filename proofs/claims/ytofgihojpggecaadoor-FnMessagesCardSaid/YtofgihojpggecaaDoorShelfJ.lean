/- The library's strings.Join at this program, by the shelf's contract. No condition beyond those that each theorem names. -/
import Derived.Shelf.Strings.OnBuilder
import Derived.Lib.AtoiErrMem
import Derived.WalkKit
import Derived.Below
import Derived.Test.YtofgihojpggecaaDoorWWords
import Derived.Test.YtofgihojpggecaaDoorProg
namespace Go.Proofs
open Go.Shelf Go.RowKit
def Tryd.laysJoin_ren : Go.Shelf.Ren := ⟨fun | 156 => 46 | 165 => 75 | 166 => 76 | 169 => 77 | 240 => 92 | 241 => 93 | 276 => 117 | 277 => 118 | n => n, fun | 31 => 69 | 9 => 9 | 3 => 3 | 4 => 4 | 0 => 0 | 20 => 20 | 72 => 98 | 76 => 79 | 70 => 96 | 37 => 41 | 75 => 78 | 127 => 112 | 164 => 135 | 5 => 5 | 80 => 100 | n => n, fun | n => n⟩
theorem Tryd.laysJoin : Go.Proofs.Lays.n156 Tryd.prog Tryd.laysJoin_ren := {
  mixed := by kernel_rfl
  f156 := Tryd.func46.trans (congrArg some (by kernel_rfl))
  f165 := Tryd.func75.trans (congrArg some (by kernel_rfl))
  f166 := Tryd.func76.trans (congrArg some (by kernel_rfl))
  f169 := Tryd.func77.trans (congrArg some (by kernel_rfl))
  f240 := Tryd.func92.trans (congrArg some (by kernel_rfl))
  f241 := Tryd.func93.trans (congrArg some (by kernel_rfl))
  f276 := Tryd.func117.trans (congrArg some (by kernel_rfl))
  f277 := Tryd.func118.trans (congrArg some (by kernel_rfl))
  t0 := Tryd.underlying0
  a0 := Tryd.isAgg0
  z0 := Tryd.sizeOf0
  v0 := Tryd.zeroValue0
  t3 := Tryd.underlying3
  a3 := Tryd.isAgg3
  z3 := Tryd.sizeOf3
  v3 := Tryd.zeroValue3
  t4 := Tryd.underlying4
  a4 := Tryd.isAgg4
  z4 := Tryd.sizeOf4
  v4 := Tryd.zeroValue4
  t9 := Tryd.underlying9
  a9 := Tryd.isAgg9
  z9 := Tryd.sizeOf9
  v9 := Tryd.zeroValue9
  t20 := Tryd.underlying20
  a20 := Tryd.isAgg20
  z20 := Tryd.sizeOf20
  v20 := Tryd.zeroValue20
  t31 := Tryd.underlying69
  a31 := Tryd.isAgg69
  z31 := Tryd.sizeOf69
  v31 := Tryd.zeroValue69
  t37 := Tryd.underlying41
  a37 := Tryd.isAgg41
  z37 := Tryd.sizeOf41
  v37 := Tryd.zeroValue41
  t70 := Tryd.underlying96
  a70 := Tryd.isAgg96
  z70 := Tryd.sizeOf96
  v70 := Tryd.zeroValue96
  t72 := Tryd.underlying98
  a72 := Tryd.isAgg98
  z72 := Tryd.sizeOf98
  v72 := Tryd.zeroValue98
  t75 := Tryd.underlying78
  a75 := Tryd.isAgg78
  z75 := Tryd.sizeOf78
  v75 := Tryd.zeroValue78
  t76 := Tryd.underlying79
  a76 := Tryd.isAgg79
  z76 := Tryd.sizeOf79
  v76 := Tryd.zeroValue79
  t127 := Tryd.underlying112
  a127 := Tryd.isAgg112
  z127 := Tryd.sizeOf112
  v127 := Tryd.zeroValue112
  t164 := Tryd.underlying135
  a164 := Tryd.isAgg135
  z164 := Tryd.sizeOf135
  v164 := Tryd.zeroValue135 }
theorem Tryd.joinExtra : Builder.Extra Tryd.prog Tryd.laysJoin_ren := {
  sizeBuilder := by kernel_rfl
  liesBuilder := by kernel_rfl
  t5 := Tryd.underlying5
  a5 := Tryd.isAgg5
  z5 := Tryd.sizeOf5
  v5 := Tryd.zeroValue5
  infoByte := by kernel_rfl
  cellsByte := by kernel_rfl
  sizeByte := by kernel_rfl
  neB5 := by decide }
theorem Tryd.strings_Join_row (A : Option Addr) (c : Nat) (l : List ByteArray) (s : ByteArray) (w : World)
    (hr : 0 < l.length → ∃ ad, A = some ad ∧ ∀ j p, l[j]? = some p → ∃ cs, cs.length = 1 ∧ cs = [Value.string p] ∧ ∀ i u, cs[i]? = some u → w.cell? (ad.add (j * 1 + i)) = some u)
    (hc : l.length ≤ c) (h1 : l.length ≤ 140737488355328) (h2 : (Lib.join (l.map (·.data.toList)) s.data.toList).length ≤ 140737488355328) :
    Calls Tryd.prog 46 #[.slice A l.length c, .string s] w fun e w' => e = .returned (.string ⟨(Lib.join (l.map (·.data.toList)) s.data.toList).toArray⟩) ∧ Below w.heap.size w w' := by
  cases l with
  | nil =>
    refine (Any.strings_Join_none Tryd.laysJoin Tryd.joinExtra A c s w).mono ?_
    rintro e w' ⟨rfl, rfl⟩
    exact ⟨rfl, Below.refl _ _⟩
  | cons x xs =>
    obtain ⟨⟨bk, o, sp⟩, rfl, hcell⟩ := hr (by simp)
    have h0 : w.cell? ⟨bk, o, sp⟩ = some (.string x) := by
      obtain ⟨cs, _, rfl, h⟩ := hcell 0 x rfl
      have := h 0 _ rfl
      simpa [Addr.add] using this
    have hsp : sp = none := by
      cases sp with
      | none => rfl
      | some z =>
        unfold World.cell? at h0
        cases hh : w.heap[bk]? with
        | none => simp [hh] at h0
        | some ob => cases ob <;> simp [hh] at h0
    subst hsp
    have hc' : ∀ (j : Nat) y, (x :: xs)[j]? = some y → w.cell? ⟨bk, o + j, none⟩ = some (.string y) := by
      intro j y hy
      obtain ⟨cs, _, rfl, h⟩ := hcell j y hy
      have := h 0 _ rfl
      by_cases hj : j = 0
      · subst hj; simpa [Addr.add] using this
      · simpa [Addr.add, hj] using this
    have hbk : bk < w.heap.size := Lib.lt_of_cell h0
    exact Any.strings_Join Tryd.laysJoin Tryd.joinExtra bk o c (x :: xs) s w hc' hbk h1 hc h2
end Go.Proofs
