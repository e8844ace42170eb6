/- The library's strconv.Atoi at this program, by the shelf's contracts; and what a walk keeps of the listed variables. No condition beyond those that each theorem names. -/
import Derived.Shelf.Strconv.ErrVarAll
import Derived.Stop.LaidErr
import Derived.Test.YtofgihojpggecaaDoorShelf
namespace Go.Proofs
open Go.Shelf Go.RowKit
shelf_lay LaysC.n172 Nm 172 at Tryd as Tryd.laysAtoi
/-- What the listed variables hold: the table of the powers of ten, and the two sentinels. -/
structure Tryd.Laid (w : World) : Prop where
  tab : Lib.TabIs Tryd.prog w "internal/strconv.uint64pow10" .u64 Lib.pow10Tab
  syn : ∃ tp p, w.var? Tryd.prog "strconv.ErrSyntax" = some #[.iface tp p]
  ran : ∃ tp p, w.var? Tryd.prog "strconv.ErrRange" = some #[.iface tp p]
theorem Tryd.Laid.stays {w w' : World} (h : Tryd.Laid w) (hb : Below w.heap.size w w') : Tryd.Laid w' := by
  obtain ⟨h1, ⟨t2, p2, h2⟩, ⟨t3, p3, h3⟩⟩ := h
  refine ⟨Joins.tab_stays (g := 2) (by kernel_rfl) h1 hb (Nat.le_refl _), ⟨t2, p2, Joins.var_stays (g := 0) (by kernel_rfl) h2 hb (Nat.le_refl _)⟩, ⟨t3, p3, Joins.var_stays (g := 1) (by kernel_rfl) h3 hb (Nat.le_refl _)⟩⟩
theorem Tryd.strconv_Atoi_bad (s : ByteArray) (hlim : s.size ≤ 281474976710656) (h : ∀ v, Lib.atoiAll s.data.toList ≠ .ok v) (w : World) (hL : Tryd.Laid w) :
    Calls Tryd.prog 54 #[.string s] w fun e w' => (∃ v t a, e = .returned (.tuple #[.int .i64 v, .iface t (.pointer (some a))])) ∧ Below w.heap.size w w' := by
  obtain ⟨_, ⟨t2, p2, h2⟩, ⟨t3, p3, h3⟩⟩ := hL
  cases ha : Lib.atoiAll s.data.toList
  · exact absurd ha (h _)
  · refine (Any.strconv_Atoi_syntax_var Tryd.laysAtoi s hlim ha t2 p2 w h2).mono ?_
    rintro e w' ⟨N, rfl, _, _, hb⟩
    exact ⟨⟨_, _, _, rfl⟩, hb⟩
  · refine (Any.strconv_Atoi_range_var Tryd.laysAtoi s hlim ha t3 p3 w h3).mono ?_
    rintro e w' ⟨N, rfl, _, _, hb⟩
    exact ⟨⟨_, _, _, rfl⟩, hb⟩
theorem Tryd.strconv_Atoi_good (s : ByteArray) (hmax : s.size ≤ 281474976710656) (v : Int) (h : Lib.atoiAll s.data.toList = .ok v) (w : World) :
    Calls Tryd.prog 54 #[.string s] w fun e w' => e = .returned (.tuple #[.int .i64 v, .nilIface]) ∧ Below w.heap.size w w' := by
  refine (Any.strconv_Atoi_ok Tryd.laysAtoi s (by omega) v h w).mono ?_
  rintro e w' ⟨rfl, hw⟩
  refine ⟨rfl, ?_⟩
  rcases hw with rfl | ⟨t, rfl⟩
  · exact Below.refl _ _
  · exact Lib.bytesWorld_below _ _ _
end Go.Proofs
