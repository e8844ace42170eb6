/- Each Go function that the law reaches, told as a plain Lean function, and the proof that the machine's call answers just that. No condition beyond those that each theorem names. -/
import Derived.Test.YthgikmgdgibimaaQFnExactEncodeMessagex0
namespace Go.Proofs.Ythgikmgdgibimaa.QFnExactEncodeMessage
open Go.RowKit Go.Proofs.YthgikmgdgibimaaW.PrintWords Go.Proofs.YthgikmgdgibimaaW.PrintLast Go.Proofs.YthgikmgdgibimaaW.PrintMore
attribute [local go_sem] max2_int min2_int max_two min_two max_three min_three max_four min_four   -- for this text's walks alone
set_option linter.unusedVariables false
set_option linter.unusedSimpArgs false

/-! ### spec_l1In: function 59 -/
def spec_l1In.f (a0 : Int) (a1 : Int) (a2 : Int) : Option (Bool) := if a0 ≥ a1 then (some (decide (a0 ≤ a2))) else (some false)
set_option maxHeartbeats 8000000 in
set_option maxRecDepth 100000 in
theorem spec_l1In.calls (a0 : Int) (a1 : Int) (a2 : Int) (r : Bool) (w : World) (h : spec_l1In.f a0 a1 a2 = some r) :
    Calls Try.prog 59 #[.int .i64 a0, .int .i64 a1, .int .i64 a2] w fun e w' => e = .returned (.bool r) ∧ Drawn0 w w' := by
  have H : (if a0 ≥ a1 then (some (decide (a0 ≤ a2))) else (some false)) = some r := h
  clear h
  by_cases c4 : a0 ≥ a1
  · rw [if_pos c4] at H
    have c4b0 : decide (a1 ≤ a0) = true := decide_eq_true c4
    clear c4
    obtain rfl := Option.some.inj H
    go_enter Try.func59, Try.ntmps59
    go_wp2
    go_ret
    exact ⟨by first | rfl | (simp; done) | (simp [*]; done), by repeat (first | exact Drawn0.refl _ | apply Drawn0.step)⟩
  · rw [if_neg c4] at H
    have c4b0 : decide (a1 ≤ a0) = false := decide_eq_false c4
    clear c4
    obtain rfl := Option.some.inj H
    go_enter Try.func59, Try.ntmps59
    go_wp2
    go_ret
    exact ⟨by first | rfl | (simp; done) | (simp [*]; done), by repeat (first | exact Drawn0.refl _ | apply Drawn0.step)⟩

/-! ### spec_IsFormat: function 39 -/
mutual
abbrev m39x0 : Array Bool := #[true, true, true, true, true, true, true, true, true, true, true, true, true, true, true, true, true, true, true, true, true, true, true, true, true, true, true, true, true, true, true, true, true, true, true, true]
abbrev m39x1 : Array Bool := #[true, true, true, true, true, true, true, true, true, true, true, true, true, true, true, true, true, true, true, true, true, true, true, true, true, true, true, true, true, true, true, true, true, true, true, false]
abbrev m39x2 : Array Bool := #[true, true, true, true, true, true, true, true, true, true, true, true, true, true, true, true, true, true, true, true, true, true, true, true, true, true, true, true, true, true, true, true, true, true, false, false]
abbrev m39x3 : Array Bool := #[true, true, true, true, true, true, true, true, true, true, true, true, true, true, true, true, true, true, true, true, true, true, true, true, true, true, true, true, true, true, true, true, true, false, false, false]
abbrev m39x4 : Array Bool := #[true, true, true, true, true, true, true, true, true, true, true, true, true, true, true, true, true, true, true, true, true, true, true, true, true, true, true, true, true, true, true, true, false, false, false, false]
abbrev m39x5 : Array Bool := #[true, true, true, true, true, true, true, true, true, true, true, true, true, true, true, true, true, true, true, true, true, true, true, true, true, true, true, true, true, true, true, false, false, false, false, false]
abbrev m39x6 : Array Bool := #[true, true, true, true, true, true, true, true, true, true, true, true, true, true, true, true, true, true, true, true, true, true, true, true, true, true, true, true, true, true, false, false, false, false, false, false]
abbrev m39x7 : Array Bool := #[true, true, true, true, true, true, true, true, true, true, true, true, true, true, true, true, true, true, true, true, true, true, true, true, true, true, true, true, true, false, false, false, false, false, false, false]
abbrev m39x8 : Array Bool := #[true, true, true, true, true, true, true, true, true, true, true, true, true, true, true, true, true, true, true, true, true, true, true, true, true, true, false, true, true, false, false, false, false, false, false, false]
abbrev m39x9 : Array Bool := #[true, true, true, true, true, true, true, true, true, true, true, true, true, true, true, true, true, true, true, true, true, true, true, true, true, true, true, true, false, false, false, false, false, false, false, false]
abbrev m39x10 : Array Bool := #[true, true, true, true, true, true, true, true, true, true, true, true, true, true, true, true, true, true, true, true, true, true, true, true, true, true, false, true, false, false, false, false, false, false, false, false]
abbrev m39x11 : Array Bool := #[true, true, true, true, true, true, true, true, true, true, true, true, true, true, true, true, true, true, true, true, true, true, true, true, true, true, true, false, false, false, false, false, false, false, false, false]
abbrev m39x12 : Array Bool := #[true, true, true, true, true, true, true, true, true, true, true, true, true, true, true, true, true, true, true, true, true, true, true, true, true, true, false, false, false, false, false, false, false, false, false, false]
abbrev m39x13 : Array Bool := #[true, true, true, true, true, true, true, true, true, true, true, true, true, true, true, true, true, true, true, true, true, true, true, true, true, false, false, false, false, false, false, false, false, false, false, false]
abbrev m39x14 : Array Bool := #[true, true, true, true, true, true, true, true, true, true, true, true, true, true, true, true, true, true, true, true, true, true, true, true, false, false, false, false, false, false, false, false, false, false, false, false]
abbrev m39x15 : Array Bool := #[true, true, true, true, true, true, true, true, true, true, true, true, true, true, true, true, true, true, true, true, true, true, true, false, false, false, false, false, false, false, false, false, false, false, false, false]
abbrev m39x16 : Array Bool := #[true, true, true, true, true, true, true, true, true, true, true, true, true, true, true, true, true, true, true, true, true, true, false, false, false, false, false, false, false, false, false, false, false, false, false, false]
abbrev m39x17 : Array Bool := #[true, true, true, true, true, true, true, true, true, true, true, true, true, true, true, true, true, true, true, true, true, false, false, false, false, false, false, false, false, false, false, false, false, false, false, false]
abbrev m39x18 : Array Bool := #[true, true, true, true, true, true, true, true, true, true, true, true, true, true, true, true, true, true, true, true, false, false, false, false, false, false, false, false, false, false, false, false, false, false, false, false]
abbrev m39x19 : Array Bool := #[true, true, true, true, true, true, true, true, true, true, true, true, true, true, true, true, true, true, true, false, false, false, false, false, false, false, false, false, false, false, false, false, false, false, false, false]
abbrev m39x20 : Array Bool := #[true, true, true, true, true, true, true, true, true, true, true, true, true, true, true, true, true, true, false, false, false, false, false, false, false, false, false, false, false, false, false, false, false, false, false, false]
abbrev m39x21 : Array Bool := #[true, true, true, true, true, true, true, true, true, true, true, true, true, true, true, true, true, false, false, false, false, false, false, false, false, false, false, false, false, false, false, false, false, false, false, false]
abbrev m39x22 : Array Bool := #[true, true, true, true, true, true, true, true, true, true, true, true, true, true, true, true, false, false, false, false, false, false, false, false, false, false, false, false, false, false, false, false, false, false, false, false]
abbrev m39x23 : Array Bool := #[true, true, true, true, true, true, true, true, true, true, true, true, true, true, true, false, false, false, false, false, false, false, false, false, false, false, false, false, false, false, false, false, false, false, false, false]
abbrev m39x24 : Array Bool := #[true, true, true, true, true, true, true, true, true, true, true, true, true, true, false, false, false, false, false, false, false, false, false, false, false, false, false, false, false, false, false, false, false, false, false, false]
abbrev m39x25 : Array Bool := #[true, true, true, true, true, true, true, true, true, true, true, true, true, false, false, false, false, false, false, false, false, false, false, false, false, false, false, false, false, false, false, false, false, false, false, false]
abbrev m39x26 : Array Bool := #[true, true, true, true, true, true, true, true, true, true, true, true, false, false, false, false, false, false, false, false, false, false, false, false, false, false, false, false, false, false, false, false, false, false, false, false]
abbrev m39x27 : Array Bool := #[true, true, true, true, true, true, true, true, true, true, true, false, false, false, false, false, false, false, false, false, false, false, false, false, false, false, false, false, false, false, false, false, false, false, false, false]
abbrev m39x28 : Array Bool := #[true, true, true, true, true, true, true, true, true, true, false, false, false, false, false, false, false, false, false, false, false, false, false, false, false, false, false, false, false, false, false, false, false, false, false, false]
abbrev m39x29 : Array Bool := #[true, true, true, true, true, true, true, true, true, false, false, false, false, false, false, false, false, false, false, false, false, false, false, false, false, false, false, false, false, false, false, false, false, false, false, false]
abbrev m39x30 : Array Bool := #[true, true, true, true, true, true, true, true, false, false, false, false, false, false, false, false, false, false, false, false, false, false, false, false, false, false, false, false, false, false, false, false, false, false, false, false]
abbrev m39x31 : Array Bool := #[true, true, true, true, true, true, true, false, false, false, false, false, false, false, false, false, false, false, false, false, false, false, false, false, false, false, false, false, false, false, false, false, false, false, false, false]
abbrev m39x32 : Array Bool := #[true, true, true, true, true, true, false, false, false, false, false, false, false, false, false, false, false, false, false, false, false, false, false, false, false, false, false, false, false, false, false, false, false, false, false, false]
abbrev m39x33 : Array Bool := #[true, true, true, true, true, false, false, false, false, false, false, false, false, false, false, false, false, false, false, false, false, false, false, false, false, false, false, false, false, false, false, false, false, false, false, false]
abbrev m39x34 : Array Bool := #[true, true, true, true, false, false, false, false, false, false, false, false, false, false, false, false, false, false, false, false, false, false, false, false, false, false, false, false, false, false, false, false, false, false, false, false]
abbrev m39x35 : Array Bool := #[true, false, true, true, false, false, false, false, false, false, false, false, false, false, false, false, false, false, false, false, false, false, false, false, false, false, false, false, false, false, false, false, false, false, false, false]
abbrev m39x36 : Array Bool := #[true, false, true, false, false, false, false, false, false, false, false, false, false, false, false, false, false, false, false, false, false, false, false, false, false, false, false, false, false, false, false, false, false, false, false, false]
abbrev m39x37 : Array Bool := #[true, false, false, false, false, false, false, false, false, false, false, false, false, false, false, false, false, false, false, false, false, false, false, false, false, false, false, false, false, false, false, false, false, false, false, false]
abbrev m39x38 : Array Bool := #[false, false, false, false, false, false, false, false, false, false, false, false, false, false, false, false, false, false, false, false, false, false, false, false, false, false, false, false, false, false, false, false, false, false, false, false]
def spec_IsFormat.l0 : Nat → List (S67) → Int → Option (Bool)
  | 0, _, _ => none
  | k + 1, x0, x3 => if x3 < (x0.length : Int) then (if 0 ≤ x3 then (if ((rd_T67 x0 x3).f0) = 1 then (spec_IsFormat.j1 k x0 x3 99 ((rd_T67 x0 x3).f0) ((rd_T67 x0 x3).f1) ((rd_T67 x0 x3).f2) ((rd_T67 x0 x3).f3)) else (spec_IsFormat.j1 k x0 x3 5 ((rd_T67 x0 x3).f0) ((rd_T67 x0 x3).f1) ((rd_T67 x0 x3).f2) ((rd_T67 x0 x3).f3))) else (none)) else ((spec_l1In.f (x0.length : Int) 1 6).bind fun t215 => (some t215))
def spec_IsFormat.j1 : Nat → List (S67) → Int → Int → Int → Int → Int → Int → Option (Bool)
  | 0, _, _, _, _, _, _, _ => none
  | k + 1, x0, x3, x5, x218000, x218001, x218002, x218003 => (spec_l1In.f x218000 1 3).bind fun t218 => (if t218 = true then ((spec_l1In.f x218001 1 x5).bind fun t219 => (spec_IsFormat.j2 k x0 x3 (!t219) x218000 x218001 x218002 x218003)) else (spec_IsFormat.j2 k x0 x3 true x218000 x218001 x218002 x218003))
def spec_IsFormat.j2 : Nat → List (S67) → Int → Bool → Int → Int → Int → Int → Option (Bool)
  | 0, _, _, _, _, _, _, _ => none
  | k + 1, x0, x3, x29, x218000, x218001, x218002, x218003 => if x29 = true then (some false) else (if x218002 = (-1) then (if x218003 = 0 then (spec_IsFormat.l0 k x0 (wrap64 (x3 + 1))) else (some false)) else ((spec_l1In.f x218002 0 (wrap64 (x3 - 1))).bind fun t220 => (if t220 = true then (if 0 ≤ x218002 then (if x218002 < (x0.length : Int) then (if ((rd_T67 x0 x218002).f0) = 1 then (if ((rd_T67 x0 x218002).f2) = (-1) then ((spec_l1In.f x218003 0 ((rd_T67 x0 x218002).f1)).bind fun t224 => (if t224 = true then (spec_IsFormat.l0 k x0 (wrap64 (x3 + 1))) else (some false))) else (some false)) else (some false)) else (none)) else (none)) else (some false))))
end
def spec_IsFormat.f (k : Nat) (l0 : List (S67)) : Option (Bool) := spec_IsFormat.l0 k l0 0
theorem spec_IsFormat.mono_l : ∀ k, (∀ y0 y1, LeO (spec_IsFormat.l0 k y0 y1) (spec_IsFormat.l0 (k + 1) y0 y1)) ∧ (∀ y0 y1 y2 y3 y4 y5 y6, LeO (spec_IsFormat.j1 k y0 y1 y2 y3 y4 y5 y6) (spec_IsFormat.j1 (k + 1) y0 y1 y2 y3 y4 y5 y6)) ∧ (∀ y0 y1 y2 y3 y4 y5 y6, LeO (spec_IsFormat.j2 k y0 y1 y2 y3 y4 y5 y6) (spec_IsFormat.j2 (k + 1) y0 y1 y2 y3 y4 y5 y6))
  | 0 => ⟨fun _ _ r h => by simp [spec_IsFormat.l0] at h, fun _ _ _ _ _ _ _ r h => by simp [spec_IsFormat.j1] at h, fun _ _ _ _ _ _ _ r h => by simp [spec_IsFormat.j2] at h⟩
  | k + 1 => by
    obtain ⟨ih0, ih1, ih2⟩ := spec_IsFormat.mono_l k
    refine ⟨?_, ?_, ?_⟩
    · intro y0 y1
      unfold spec_IsFormat.l0
      repeat' first
      | (with_reducible exact ih0 _ _)
      | (with_reducible exact ih1 _ _ _ _ _ _ _)
      | (with_reducible exact ih2 _ _ _ _ _ _ _)
      | (with_reducible exact LeO.refl _)
      | (with_reducible exact LeO.none _)
      | (with_reducible refine LeO.ite ?_ ?_)
      | (with_reducible refine LeO.bind ?_ (fun _ => ?_))
      | exact ih0 _ _
      | exact ih1 _ _ _ _ _ _ _
      | exact ih2 _ _ _ _ _ _ _
      | exact LeO.none _
      | refine LeO.ite ?_ ?_
      | refine LeO.bind ?_ (fun _ => ?_)
    · intro y0 y1 y2 y3 y4 y5 y6
      unfold spec_IsFormat.j1
      repeat' first
      | (with_reducible exact ih0 _ _)
      | (with_reducible exact ih1 _ _ _ _ _ _ _)
      | (with_reducible exact ih2 _ _ _ _ _ _ _)
      | (with_reducible exact LeO.refl _)
      | (with_reducible exact LeO.none _)
      | (with_reducible refine LeO.ite ?_ ?_)
      | (with_reducible refine LeO.bind ?_ (fun _ => ?_))
      | exact ih0 _ _
      | exact ih1 _ _ _ _ _ _ _
      | exact ih2 _ _ _ _ _ _ _
      | exact LeO.none _
      | refine LeO.ite ?_ ?_
      | refine LeO.bind ?_ (fun _ => ?_)
    · intro y0 y1 y2 y3 y4 y5 y6
      unfold spec_IsFormat.j2
      repeat' first
      | (with_reducible exact ih0 _ _)
      | (with_reducible exact ih1 _ _ _ _ _ _ _)
      | (with_reducible exact ih2 _ _ _ _ _ _ _)
      | (with_reducible exact LeO.refl _)
      | (with_reducible exact LeO.none _)
      | (with_reducible refine LeO.ite ?_ ?_)
      | (with_reducible refine LeO.bind ?_ (fun _ => ?_))
      | exact ih0 _ _
      | exact ih1 _ _ _ _ _ _ _
      | exact ih2 _ _ _ _ _ _ _
      | exact LeO.none _
      | refine LeO.ite ?_ ?_
      | refine LeO.bind ?_ (fun _ => ?_)
theorem spec_IsFormat.mono : ∀ a0 k, LeO (spec_IsFormat.f k a0) (spec_IsFormat.f (k + 1) a0) := by
  intro a0 k
  obtain ⟨ih0, ih1, ih2⟩ := spec_IsFormat.mono_l k
  unfold spec_IsFormat.f
  repeat' first
      | (with_reducible exact ih0 _ _)
      | (with_reducible exact ih1 _ _ _ _ _ _ _)
      | (with_reducible exact ih2 _ _ _ _ _ _ _)
      | (with_reducible exact LeO.refl _)
      | (with_reducible exact LeO.none _)
      | (with_reducible refine LeO.ite ?_ ?_)
      | (with_reducible refine LeO.bind ?_ (fun _ => ?_))
      | exact ih0 _ _
      | exact ih1 _ _ _ _ _ _ _
      | exact ih2 _ _ _ _ _ _ _
      | exact LeO.none _
      | refine LeO.ite ?_ ?_
      | refine LeO.bind ?_ (fun _ => ?_)
def spec_IsFormat.T13 : Bool × List (List Nat × List Nat) := (true, [([], []), ([0], [0]), ([], []), ([2], [2]), ([1, 3], [1, 3]), ([4], [4]), ([5, 4], [5]), ([6], [6]), ([6], [6]), ([8, 6], [6, 8]), ([7, 9, 6], [6, 7, 9]), ([10, 6], [6, 10]), ([11, 6], [6, 11]), ([12, 6], [6, 12]), ([6, 13], [6, 13]), ([14, 6], [14]), ([15], [15]), ([15], [15]), ([17, 15], [15, 17]), ([16, 18, 15], [15, 16, 18]), ([19, 15], [15, 19]), ([20, 15], [15, 20]), ([21, 15], [15, 21]), ([15, 22], [15, 22]), ([23, 15], [23]), ([24], [24]), ([25, 24], [24, 25]), ([24], [24]), ([24], [24]), ([28, 24], [24, 28]), ([27, 29, 24], [24, 27, 29]), ([30, 24], [24, 30]), ([31, 24], [24, 31]), ([26, 32, 24, 24], [24, 26, 32]), ([33, 24], [24, 33]), ([24, 34], [24, 34])])
def spec_IsFormat.B13 : List Nat := [0, 1, 0, 4, 15, 31, 63, 127, 127, 383, 1023, 2047, 4095, 8191, 16383, 32767, 65535, 65535, 196607, 524287, 1048575, 2097151, 4194303, 8388607, 16777215, 33554431, 67108863, 33554431, 33554431, 301989887, 973078527, 2046820351, 4194303999, 8589934591, 17179869183, 34359738367]
theorem spec_IsFormat.tab13 : rtab .any (opsOf Try.f39 13) = spec_IsFormat.T13 := by kernel_rfl
theorem spec_IsFormat.bits13 : waitsOk spec_IsFormat.T13.2 spec_IsFormat.B13 = true := by kernel_rfl
set_option maxHeartbeats 8000000 in
set_option maxRecDepth 100000 in
theorem spec_IsFormat.calls (k : Nat) (A0 : Option Addr) (c0 : Nat) (l0 : List (S67)) (r : Bool) (w : World) (hr0 : Kd.C k67 w A0 l0.length l0) (hc0 : l0.length ≤ c0) (h : spec_IsFormat.f k l0 = some r) :
    Calls Try.prog 39 #[.slice A0 l0.length c0] w fun e w' => e = .returned (.bool r) ∧ Below w.heap.size w w' := by
  have hu67 := Try.underlying67
  have HR0 := Aside0.mk hr0
  have HC0 := Aside0.mk hc0
  clear hr0 hc0
  have HB := Aside0.mk (Below.refl w.heap.size w)
  have H : (spec_IsFormat.l0 k l0 0) = some r := h
  clear h
  have H' := Aside0.mk H
  clear H
  go_enter Try.func39, Try.ntmps39
  go_wp2
  go_loopg [3] k (fun kq v3 w' => ∃ (x3_1 : Int), v3 = .int .i64 x3_1 ∧ Aside0 (spec_IsFormat.l0 kq l0 x3_1 = some r) ∧ Aside0 (kq ≤ k) ∧ Aside0 (Below w.heap.size w w'))
  case atStart => exact ⟨(0), (by first | rfl | (simp; done) | (simp [*]; done)), H', ⟨Nat.le_refl _⟩, ⟨by repeat (first | (with_reducible first | exact HB.out | apply below_alloc | apply pw_below_drewN | apply below_drew1) | exact HB.out)⟩⟩
  case round =>
    clear H'
    obtain ⟨x3_1, rfl, HA, HK1, HB⟩ := hrel
    cases gk with
    | zero => exact absurd HA.out (by simp [spec_IsFormat.l0])
    | succ k1 =>
      have H := HA.out
      clear HA
      simp only [spec_IsFormat.l0] at H
      by_cases c2 : x3_1 < (l0.length : Int)
      · rw [if_pos c2] at H
        have c2b0 : decide (x3_1 < (l0.length : Int)) = true := decide_eq_true c2
        clear c2
        by_cases c3 : 0 ≤ x3_1
        · rw [if_pos c3] at H
          have c3b0 : decide (0 ≤ x3_1) = true := decide_eq_true c3; clear c3; have HC4 := Aside0.mk H; clear H; (have p216 : 0 ≤ (x3_1 : Int) := of_decide_eq_true (by assumption)); (have q216 : x3_1 < (l0.length : Int) := of_decide_eq_true (by assumption)); obtain ⟨ad216, e216, hx216_0, hx216_1, hx216_2, hx216_3⟩ := at_T67 HR0.out x3_1 p216 q216; cases e216; replace hx216_0 := hC HB.out hx216_0; replace hx216_1 := hC HB.out hx216_1; replace hx216_2 := hC HB.out hx216_2; replace hx216_3 := hC HB.out hx216_3; replace p216 := eq_true p216; replace q216 := eq_true q216; (go_upto_if 18 with (first | ((with_reducible refine gate_dst (N := 4) rfl ?_); refine box_event ?hg (N := 4) ?hd (cs := #[.int .i64 0, .int .i64 0, .int .i64 0, .int .i64 0]) (t := 67) ?hr ?_; (case hd => rfl); (case hg => rfl); (case hr => first | (go_simp; done) | (go_simp; rfl)); intro gb217 hg w5 hbox hb; have n0_ := bS hb; have n1_ := Aside0.mk (hbox); have n2_ : Aside0 (w.heap.size ≤ gb217) := bZ hg; have n3_ : Aside0 (w.heap.size ≤ gb217) := bZ hg; clear HB; have HB := n0_; have BK217 := n1_; have GW217 := n2_; have GE217 := n3_; clear n0_ n1_ n2_ n3_; clear hb hbox hg; obtain ⟨hcz6_0, hcz6_1, hcz6_2, hcz6_3, hfz6_0, hfz6_1, hfz6_2, hfz6_3⟩ := zc4 BK217.out))); ((try simp only [Act.put, sT, sZ, sS])); go_cut [5] (fun v5 wc => ∃ (kq : Nat) (x5_3 : Int), v5 = .int .i64 x5_3 ∧ Aside0 (spec_IsFormat.j1 kq l0 x3_1 x5_3 ((rd_T67 l0 x3_1).f0) ((rd_T67 l0 x3_1).f1) ((rd_T67 l0 x3_1).f2) ((rd_T67 l0 x3_1).f3) = some r) ∧ Aside0 (kq ≤ k1) ∧ Aside0 (wc.heap[gb217]? = some (.cells #[.int .i64 ((rd_T67 l0 x3_1).f0), .int .i64 ((rd_T67 l0 x3_1).f1), .int .i64 ((rd_T67 l0 x3_1).f2), .int .i64 ((rd_T67 l0 x3_1).f3)] 67 (0, 0))) ∧ Aside0 (Below w.heap.size w wc))
          case first =>
            have H := HC4.out; clear HC4; by_cases c7 : ((rd_T67 l0 x3_1).f0) = 1
            · rw [if_pos c7] at H
              have c7b0 : (((rd_T67 l0 x3_1).f0) == 1) = true := beq_iff_eq.mpr c7; have c7b1 : (((rd_T67 l0 x3_1).f0) != 1) = false := bne_eq_false_iff_eq.mpr c7; clear c7; ((first | rw [c7b0] | (simp only [i64_w, i32_w]; rw [c7b0]) | skip)); have H' := Aside0.mk H; clear H; go_wp2; go_meet
              case rel => exact ⟨_, (99), (by first | rfl | (simp; done) | (simp [*]; done)), H', ⟨by have := HK1.out; first | omega | exact Nat.le_refl _⟩, ⟨by (with_reducible repeat (first | refine blk_drewN ?_ _ | refine blk_drew ?_ | refine blk_alloc ?_ _)); refine blk_put (cs := #[.int .i64 ((rd_T67 l0 x3_1).f0), .int .i64 ((rd_T67 l0 x3_1).f1), .int .i64 ((rd_T67 l0 x3_1).f2), .int .i64 0]) ?_ 3 _ rfl; (with_reducible repeat (first | refine blk_drewN ?_ _ | refine blk_drew ?_ | refine blk_alloc ?_ _)); refine blk_put (cs := #[.int .i64 ((rd_T67 l0 x3_1).f0), .int .i64 ((rd_T67 l0 x3_1).f1), .int .i64 0, .int .i64 0]) ?_ 2 _ rfl; (with_reducible repeat (first | refine blk_drewN ?_ _ | refine blk_drew ?_ | refine blk_alloc ?_ _)); refine blk_put (cs := #[.int .i64 ((rd_T67 l0 x3_1).f0), .int .i64 0, .int .i64 0, .int .i64 0]) ?_ 1 _ rfl; (with_reducible repeat (first | refine blk_drewN ?_ _ | refine blk_drew ?_ | refine blk_alloc ?_ _)); refine blk_put (cs := #[.int .i64 0, .int .i64 0, .int .i64 0, .int .i64 0]) ?_ 0 _ rfl; (with_reducible repeat (first | refine blk_drewN ?_ _ | refine blk_drew ?_ | refine blk_alloc ?_ _)); exact BK217.out⟩, ⟨by repeat (first | (with_reducible first | exact HB.out | apply below_alloc | apply pw_below_drewN | apply below_drew1 | refine below_set ?_ GE217.out) | exact HB.out)⟩⟩
            · rw [if_neg c7] at H
              have c7b0 : (((rd_T67 l0 x3_1).f0) == 1) = false := beq_eq_false_iff_ne.mpr c7; have c7b1 : (((rd_T67 l0 x3_1).f0) != 1) = true := bne_iff_ne.mpr c7; ((first | rw [c7b0] | (simp only [i64_w, i32_w]; rw [c7b0]) | skip)); have H' := Aside0.mk H; clear H; go_wp2; go_meet
              case rel => exact ⟨_, (5), (by first | rfl | (simp; done) | (simp [*]; done)), H', ⟨by have := HK1.out; first | omega | exact Nat.le_refl _⟩, ⟨by (with_reducible repeat (first | refine blk_drewN ?_ _ | refine blk_drew ?_ | refine blk_alloc ?_ _)); refine blk_put (cs := #[.int .i64 ((rd_T67 l0 x3_1).f0), .int .i64 ((rd_T67 l0 x3_1).f1), .int .i64 ((rd_T67 l0 x3_1).f2), .int .i64 0]) ?_ 3 _ rfl; (with_reducible repeat (first | refine blk_drewN ?_ _ | refine blk_drew ?_ | refine blk_alloc ?_ _)); refine blk_put (cs := #[.int .i64 ((rd_T67 l0 x3_1).f0), .int .i64 ((rd_T67 l0 x3_1).f1), .int .i64 0, .int .i64 0]) ?_ 2 _ rfl; (with_reducible repeat (first | refine blk_drewN ?_ _ | refine blk_drew ?_ | refine blk_alloc ?_ _)); refine blk_put (cs := #[.int .i64 ((rd_T67 l0 x3_1).f0), .int .i64 0, .int .i64 0, .int .i64 0]) ?_ 1 _ rfl; (with_reducible repeat (first | refine blk_drewN ?_ _ | refine blk_drew ?_ | refine blk_alloc ?_ _)); refine blk_put (cs := #[.int .i64 0, .int .i64 0, .int .i64 0, .int .i64 0]) ?_ 0 _ rfl; (with_reducible repeat (first | refine blk_drewN ?_ _ | refine blk_drew ?_ | refine blk_alloc ?_ _)); exact BK217.out⟩, ⟨by repeat (first | (with_reducible first | exact HB.out | apply below_alloc | apply pw_below_drewN | apply below_drew1 | refine below_set ?_ GE217.out) | exact HB.out)⟩⟩
          case rest =>
            clear HC4; (try clear c2); (try clear c2b0); (try clear p2); (try clear q2); (try clear hx2); (try clear c3); (try clear c3b0); (try clear c7); (try clear c7b0); (try clear c7b1); (try clear hcz6_0); (try clear hcz6_1); (try clear hcz6_2); (try clear hcz6_3); (try clear hfz6_0); (try clear hfz6_1); (try clear hfz6_2); (try clear hfz6_3); (try clear hx216_0); (try clear hx216_1); (try clear hx216_2); (try clear hx216_3); (try clear p216); (try clear q216); obtain ⟨kq, x5_3, rfl, HA, HJ3, BK217, HB⟩ := hcut; cases kq with
            | zero => exact absurd HA.out (by simp [spec_IsFormat.j1])
            | succ kj3 =>
              have H := HA.out; clear HA; simp only [spec_IsFormat.j1] at H; have HC8 := Aside0.mk H; clear H; go_upto_region 8 with (fail); go_cut [29] (fun v29 wc => ∃ (kq : Nat) (x29_7 : Bool), v29 = .bool x29_7 ∧ Aside0 (spec_IsFormat.j2 kq l0 x3_1 x29_7 ((rd_T67 l0 x3_1).f0) ((rd_T67 l0 x3_1).f1) ((rd_T67 l0 x3_1).f2) ((rd_T67 l0 x3_1).f3) = some r) ∧ Aside0 (kq ≤ kj3) ∧ Aside0 (wc.heap[gb217]? = some (.cells #[.int .i64 ((rd_T67 l0 x3_1).f0), .int .i64 ((rd_T67 l0 x3_1).f1), .int .i64 ((rd_T67 l0 x3_1).f2), .int .i64 ((rd_T67 l0 x3_1).f3)] 67 (0, 0))) ∧ Aside0 (Below w.heap.size w wc))
              case first =>
                have H := HC8.out; clear HC8; replace H := Option.bind_eq_some_iff.mp H; obtain ⟨t218, A90, H⟩ := H; replace H : (if t218 = true then ((spec_l1In.f ((rd_T67 l0 x3_1).f1) 1 x5_3).bind fun t219 => (spec_IsFormat.j2 kj3 l0 x3_1 (!t219) ((rd_T67 l0 x3_1).f0) ((rd_T67 l0 x3_1).f1) ((rd_T67 l0 x3_1).f2) ((rd_T67 l0 x3_1).f3))) else (spec_IsFormat.j2 kj3 l0 x3_1 true ((rd_T67 l0 x3_1).f0) ((rd_T67 l0 x3_1).f1) ((rd_T67 l0 x3_1).f2) ((rd_T67 l0 x3_1).f3))) = some r := H; have A9 := Aside0.mk A90; clear A90; by_cases c10 : t218 = true
                · subst c10
                  (have H1 : ((spec_l1In.f ((rd_T67 l0 x3_1).f1) 1 x5_3).bind fun t219 => (spec_IsFormat.j2 kj3 l0 x3_1 (!t219) ((rd_T67 l0 x3_1).f0) ((rd_T67 l0 x3_1).f1) ((rd_T67 l0 x3_1).f2) ((rd_T67 l0 x3_1).f3))) = some r := by rw [if_pos rfl] at H; exact H); clear H; have H := H1; clear H1; replace H := Option.bind_eq_some_iff.mp H; obtain ⟨t219, A110, H⟩ := H; replace H : (spec_IsFormat.j2 kj3 l0 x3_1 (!t219) ((rd_T67 l0 x3_1).f0) ((rd_T67 l0 x3_1).f1) ((rd_T67 l0 x3_1).f2) ((rd_T67 l0 x3_1).f3)) = some r := H; have A11 := Aside0.mk A110; clear A110; have H' := Aside0.mk H; clear H; obtain ⟨hcz12_0, hcz12_1, hcz12_2, hcz12_3, hfz12_0, hfz12_1, hfz12_2, hfz12_3⟩ := zc4 BK217.out; (go_wp2_with (first | ((with_reducible refine gate_callee (f := 59) rfl ?_); refine gL 21 Try.func59 #[.int .i64 ((rd_T67 l0 x3_1).f0), .int .i64 1, .int .i64 3] ?_; (with_reducible refine (spec_l1In.calls ((rd_T67 l0 x3_1).f0) 1 3 true _ A9.out).mono ?_); rintro e w' ⟨rfl, ⟨nd, rfl⟩⟩; refine ⟨_, rfl, ?_⟩) | (go_at_call 59; (with_reducible refine (spec_l1In.calls ((rd_T67 l0 x3_1).f1) 1 x5_3 t219 _ A11.out).mono ?_); rintro e w' ⟨rfl, ⟨nd, rfl⟩⟩))); go_meet
                  case rel => exact ⟨_, (!t219), (by first | rfl | (simp; done) | (simp [*]; done)), H', ⟨by have := HK1.out; have := HJ3.out; first | omega | exact Nat.le_refl _⟩, ⟨by (with_reducible repeat (first | refine blk_drewN ?_ _ | refine blk_drew ?_ | refine blk_alloc ?_ _)); exact BK217.out⟩, ⟨by repeat (first | (with_reducible first | exact HB.out | apply below_alloc | apply pw_below_drewN | apply below_drew1 | refine below_set ?_ GE217.out) | exact HB.out)⟩⟩
                · replace c10 := Bool.eq_false_iff.mpr c10
                  subst c10; (have H1 : (spec_IsFormat.j2 kj3 l0 x3_1 true ((rd_T67 l0 x3_1).f0) ((rd_T67 l0 x3_1).f1) ((rd_T67 l0 x3_1).f2) ((rd_T67 l0 x3_1).f3)) = some r := by rw [if_neg (show ¬ (false = true) by decide)] at H; exact H); clear H; have H := H1; clear H1; have H' := Aside0.mk H; clear H; obtain ⟨hcz13_0, hcz13_1, hcz13_2, hcz13_3, hfz13_0, hfz13_1, hfz13_2, hfz13_3⟩ := zc4 BK217.out; (go_wp2_with (first | ((with_reducible refine gate_callee (f := 59) rfl ?_); refine gL 21 Try.func59 #[.int .i64 ((rd_T67 l0 x3_1).f0), .int .i64 1, .int .i64 3] ?_; (with_reducible refine (spec_l1In.calls ((rd_T67 l0 x3_1).f0) 1 3 false _ A9.out).mono ?_); rintro e w' ⟨rfl, ⟨nd, rfl⟩⟩; refine ⟨_, rfl, ?_⟩))); go_meet
                  case rel => exact ⟨_, (true), (by first | rfl | (simp; done) | (simp [*]; done)), H', ⟨by have := HK1.out; have := HJ3.out; first | omega | exact Nat.le_refl _⟩, ⟨by (with_reducible repeat (first | refine blk_drewN ?_ _ | refine blk_drew ?_ | refine blk_alloc ?_ _)); exact BK217.out⟩, ⟨by repeat (first | (with_reducible first | exact HB.out | apply below_alloc | apply pw_below_drewN | apply below_drew1 | refine below_set ?_ GE217.out) | exact HB.out)⟩⟩
              case rest =>
                clear HC8; (try clear c1); (try clear c2); (try clear c2b0); (try clear p2); (try clear q2); (try clear hx2); (try clear c3); (try clear c3b0); (try clear c5); (try clear c7); (try clear c7b0); (try clear c7b1); (try clear c10); (try clear hcz12_0); (try clear hcz12_1); (try clear hcz12_2); (try clear hcz12_3); (try clear hcz13_0); (try clear hcz13_1); (try clear hcz13_2); (try clear hcz13_3); (try clear hcz6_0); (try clear hcz6_1); (try clear hcz6_2); (try clear hcz6_3); (try clear hfz12_0); (try clear hfz12_1); (try clear hfz12_2); (try clear hfz12_3); (try clear hfz13_0); (try clear hfz13_1); (try clear hfz13_2); (try clear hfz13_3); (try clear hfz6_0); (try clear hfz6_1); (try clear hfz6_2); (try clear hfz6_3); (try clear hx216_0); (try clear hx216_1); (try clear hx216_2); (try clear hx216_3); (try clear p2); (try clear p216); (try clear q2); (try clear q216); obtain ⟨kq, x29_7, rfl, HA, HJ7, BK217, HB⟩ := hcut; cases kq with
                | zero => exact absurd HA.out (by simp [spec_IsFormat.j2])
                | succ kj7 =>
                  have H := HA.out; clear HA; simp only [spec_IsFormat.j2] at H; by_cases c14 : x29_7 = true; (· subst c14; (have H1 : (some false) = some r := by rw [if_pos rfl] at H; exact H); clear H; have H := H1; clear H1; obtain rfl := Option.some.inj H; go_wp2; go_ret; (exact ⟨by first | rfl | (simp [errW_none, errW_some] <;> rfl) | (simp [*, errW_none, errW_some] <;> rfl), by repeat (first | (with_reducible first | exact HB.out | apply below_alloc | apply pw_below_drewN | apply below_drew1 | refine below_set ?_ GE217.out) | exact HB.out)⟩))
                  · replace c14 := Bool.eq_false_iff.mpr c14
                    subst c14; (have H1 : (if ((rd_T67 l0 x3_1).f2) = (-1) then (if ((rd_T67 l0 x3_1).f3) = 0 then (spec_IsFormat.l0 kj7 l0 (wrap64 (x3_1 + 1))) else (some false)) else ((spec_l1In.f ((rd_T67 l0 x3_1).f2) 0 (wrap64 (x3_1 - 1))).bind fun t220 => (if t220 = true then (if 0 ≤ ((rd_T67 l0 x3_1).f2) then (if ((rd_T67 l0 x3_1).f2) < (l0.length : Int) then (if ((rd_T67 l0 ((rd_T67 l0 x3_1).f2)).f0) = 1 then (if ((rd_T67 l0 ((rd_T67 l0 x3_1).f2)).f2) = (-1) then ((spec_l1In.f ((rd_T67 l0 x3_1).f3) 0 ((rd_T67 l0 ((rd_T67 l0 x3_1).f2)).f1)).bind fun t224 => (if t224 = true then (spec_IsFormat.l0 kj7 l0 (wrap64 (x3_1 + 1))) else (some false))) else (some false)) else (some false)) else (none)) else (none)) else (some false)))) = some r := by rw [if_neg (show ¬ (false = true) by decide)] at H; exact H); clear H; have H := H1; clear H1; by_cases c15 : ((rd_T67 l0 x3_1).f2) = (-1)
                    · rw [if_pos c15] at H
                      have c15b0 : (((rd_T67 l0 x3_1).f2) == (-1)) = true := beq_iff_eq.mpr c15; have c15b1 : (((rd_T67 l0 x3_1).f2) != (-1)) = false := bne_eq_false_iff_eq.mpr c15; clear c15; by_cases c16 : ((rd_T67 l0 x3_1).f3) = 0
                      · rw [if_pos c16] at H
                        have c16b0 : (((rd_T67 l0 x3_1).f3) == 0) = true := beq_iff_eq.mpr c16; have c16b1 : (((rd_T67 l0 x3_1).f3) != 0) = false := bne_eq_false_iff_eq.mpr c16; clear c16; have H' := Aside0.mk H; clear H; obtain ⟨hcz17_0, hcz17_1, hcz17_2, hcz17_3, hfz17_0, hfz17_1, hfz17_2, hfz17_3⟩ := zc4 BK217.out; go_wp2; go_roundg kj7
                        case measure => have := HK1.out; have := HJ3.out; have := HJ7.out; omega
                        case rel => exact ⟨(wrap64 (x3_1 + 1)), (by first | rfl | (simp; done) | (simp [*]; done)), H', ⟨by have := HK1.out; have := HJ3.out; have := HJ7.out; omega⟩, ⟨by repeat (first | (with_reducible first | exact HB.out | apply below_alloc | apply pw_below_drewN | apply below_drew1 | refine below_set ?_ GE217.out) | exact HB.out)⟩⟩
                      · rw [if_neg c16] at H; have c16b0 : (((rd_T67 l0 x3_1).f3) == 0) = false := beq_eq_false_iff_ne.mpr c16; have c16b1 : (((rd_T67 l0 x3_1).f3) != 0) = true := bne_iff_ne.mpr c16; obtain rfl := Option.some.inj H; obtain ⟨hcz18_0, hcz18_1, hcz18_2, hcz18_3, hfz18_0, hfz18_1, hfz18_2, hfz18_3⟩ := zc4 BK217.out; go_wp2; go_ret; (exact ⟨by first | rfl | (simp [errW_none, errW_some] <;> rfl) | (simp [*, errW_none, errW_some] <;> rfl), by repeat (first | (with_reducible first | exact HB.out | apply below_alloc | apply pw_below_drewN | apply below_drew1 | refine below_set ?_ GE217.out) | exact HB.out)⟩)
                    · rw [if_neg c15] at H
                      have c15b0 : (((rd_T67 l0 x3_1).f2) == (-1)) = false := beq_eq_false_iff_ne.mpr c15; have c15b1 : (((rd_T67 l0 x3_1).f2) != (-1)) = true := bne_iff_ne.mpr c15; replace H := Option.bind_eq_some_iff.mp H; obtain ⟨t220, A190, H⟩ := H; replace H : (if t220 = true then (if 0 ≤ ((rd_T67 l0 x3_1).f2) then (if ((rd_T67 l0 x3_1).f2) < (l0.length : Int) then (if ((rd_T67 l0 ((rd_T67 l0 x3_1).f2)).f0) = 1 then (if ((rd_T67 l0 ((rd_T67 l0 x3_1).f2)).f2) = (-1) then ((spec_l1In.f ((rd_T67 l0 x3_1).f3) 0 ((rd_T67 l0 ((rd_T67 l0 x3_1).f2)).f1)).bind fun t224 => (if t224 = true then (spec_IsFormat.l0 kj7 l0 (wrap64 (x3_1 + 1))) else (some false))) else (some false)) else (some false)) else (none)) else (none)) else (some false)) = some r := H; have A19 := Aside0.mk A190; clear A190; by_cases c20 : t220 = true
                      · subst c20
                        (have H1 : (if 0 ≤ ((rd_T67 l0 x3_1).f2) then (if ((rd_T67 l0 x3_1).f2) < (l0.length : Int) then (if ((rd_T67 l0 ((rd_T67 l0 x3_1).f2)).f0) = 1 then (if ((rd_T67 l0 ((rd_T67 l0 x3_1).f2)).f2) = (-1) then ((spec_l1In.f ((rd_T67 l0 x3_1).f3) 0 ((rd_T67 l0 ((rd_T67 l0 x3_1).f2)).f1)).bind fun t224 => (if t224 = true then (spec_IsFormat.l0 kj7 l0 (wrap64 (x3_1 + 1))) else (some false))) else (some false)) else (some false)) else (none)) else (none)) = some r := by rw [if_pos rfl] at H; exact H); clear H; have H := H1; clear H1; by_cases c21 : 0 ≤ ((rd_T67 l0 x3_1).f2)
                        · rw [if_pos c21] at H
                          have c21b0 : decide (0 ≤ ((rd_T67 l0 x3_1).f2)) = true := decide_eq_true c21; clear c21; by_cases c22 : ((rd_T67 l0 x3_1).f2) < (l0.length : Int)
                          · rw [if_pos c22] at H
                            have c22b0 : decide (((rd_T67 l0 x3_1).f2) < (l0.length : Int)) = true := decide_eq_true c22; clear c22; by_cases c23 : ((rd_T67 l0 ((rd_T67 l0 x3_1).f2)).f0) = 1
                            · rw [if_pos c23] at H
                              have c23b0 : (((rd_T67 l0 ((rd_T67 l0 x3_1).f2)).f0) == 1) = true := beq_iff_eq.mpr c23; have c23b1 : (((rd_T67 l0 ((rd_T67 l0 x3_1).f2)).f0) != 1) = false := bne_eq_false_iff_eq.mpr c23; clear c23; by_cases c24 : ((rd_T67 l0 ((rd_T67 l0 x3_1).f2)).f2) = (-1)
                              · rw [if_pos c24] at H
                                have c24b0 : (((rd_T67 l0 ((rd_T67 l0 x3_1).f2)).f2) == (-1)) = true := beq_iff_eq.mpr c24; have c24b1 : (((rd_T67 l0 ((rd_T67 l0 x3_1).f2)).f2) != (-1)) = false := bne_eq_false_iff_eq.mpr c24; clear c24; replace H := Option.bind_eq_some_iff.mp H; obtain ⟨t224, A250, H⟩ := H; replace H : (if t224 = true then (spec_IsFormat.l0 kj7 l0 (wrap64 (x3_1 + 1))) else (some false)) = some r := H; have A25 := Aside0.mk A250; clear A250; by_cases c26 : t224 = true
                                · subst c26
                                  ((have H1 : (spec_IsFormat.l0 kj7 l0 (wrap64 (x3_1 + 1))) = some r := by rw [if_pos rfl] at H; exact H); clear H; have H := H1; clear H1; have H' := Aside0.mk H; clear H; obtain ⟨hcz27_0, hcz27_1, hcz27_2, hcz27_3, hfz27_0, hfz27_1, hfz27_2, hfz27_3⟩ := zc4 BK217.out; (try go_wp2); have n0_ := Aside0.mk (blk_drew BK217.out); have n1_ := Aside0.mk (below_drew1 HB.out); clear BK217; clear HB; have BK217 := n0_; have HB := n1_; clear n0_ n1_; (have p221 : 0 ≤ (((rd_T67 l0 x3_1).f2) : Int) := of_decide_eq_true (by assumption)); (have q221 : ((rd_T67 l0 x3_1).f2) < (l0.length : Int) := of_decide_eq_true (by assumption)); obtain ⟨ad221, e221, hx221_0, hx221_1, hx221_2, hx221_3⟩ := at_T67 HR0.out ((rd_T67 l0 x3_1).f2) p221 q221; have hw221_3 := hx221_3; have hw221_2 := hx221_2; have hw221_1 := hx221_1; have hw221_0 := hx221_0; (obtain rfl : ad216 = ad221 := (by injection e221)); replace hx221_0 := hC HB.out hx221_0; replace hx221_1 := hC HB.out hx221_1; replace hx221_2 := hC HB.out hx221_2; replace hx221_3 := hC HB.out hx221_3; replace p221 := eq_true p221; replace q221 := eq_true q221; (have p222 : 0 ≤ (((rd_T67 l0 x3_1).f2) : Int) := of_decide_eq_true (by assumption)); (have q222 : ((rd_T67 l0 x3_1).f2) < (l0.length : Int) := of_decide_eq_true (by assumption)); obtain ⟨ad222, e222, hx222_0, hx222_1, hx222_2, hx222_3⟩ := at_T67 HR0.out ((rd_T67 l0 x3_1).f2) p222 q222; have hw222_3 := hx222_3; have hw222_2 := hx222_2; have hw222_1 := hx222_1; have hw222_0 := hx222_0; (obtain rfl : ad216 = ad222 := (by injection e222)); replace hx222_0 := hC HB.out hx222_0; replace hx222_1 := hC HB.out hx222_1; replace hx222_2 := hC HB.out hx222_2; replace hx222_3 := hC HB.out hx222_3; replace p222 := eq_true p222; replace q222 := eq_true q222; (have p223 : 0 ≤ (((rd_T67 l0 x3_1).f2) : Int) := of_decide_eq_true (by assumption)); (have q223 : ((rd_T67 l0 x3_1).f2) < (l0.length : Int) := of_decide_eq_true (by assumption)); obtain ⟨ad223, e223, hx223_0, hx223_1, hx223_2, hx223_3⟩ := at_T67 HR0.out ((rd_T67 l0 x3_1).f2) p223 q223; have hw223_3 := hx223_3; have hw223_2 := hx223_2; have hw223_1 := hx223_1; have hw223_0 := hx223_0; (obtain rfl : ad216 = ad223 := (by injection e223)); replace hx223_0 := hC HB.out hx223_0; replace hx223_1 := hC HB.out hx223_1; replace hx223_2 := hC HB.out hx223_2; replace hx223_3 := hC HB.out hx223_3; replace p223 := eq_true p223; replace q223 := eq_true q223; (refine start_ (n := 36) (S := fun w' => w'.cell? ⟨gb217, 0, none⟩ = some (.int .i64 ((rd_T67 l0 x3_1).f0)) ∧ w'.cell? ⟨gb217, 1, none⟩ = some (.int .i64 ((rd_T67 l0 x3_1).f1)) ∧ w'.cell? ⟨gb217, 2, none⟩ = some (.int .i64 ((rd_T67 l0 x3_1).f2)) ∧ w'.cell? ⟨gb217, 3, none⟩ = some (.int .i64 ((rd_T67 l0 x3_1).f3)) ∧ w'.cell? (ad216.add ((((rd_T67 l0 x3_1).f2)).toNat * 4)) = some (.int .i64 ((rd_T67 l0 ((rd_T67 l0 x3_1).f2)).f0)) ∧ w'.cell? ⟨(ad216.add ((((rd_T67 l0 x3_1).f2)).toNat * 4)).block, (ad216.add ((((rd_T67 l0 x3_1).f2)).toNat * 4)).off + 1, none⟩ = some (.int .i64 ((rd_T67 l0 ((rd_T67 l0 x3_1).f2)).f1)) ∧ w'.cell? ⟨(ad216.add ((((rd_T67 l0 x3_1).f2)).toNat * 4)).block, (ad216.add ((((rd_T67 l0 x3_1).f2)).toNat * 4)).off + 2, none⟩ = some (.int .i64 ((rd_T67 l0 ((rd_T67 l0 x3_1).f2)).f2)) ∧ w'.cell? ⟨(ad216.add ((((rd_T67 l0 x3_1).f2)).toNat * 4)).block, (ad216.add ((((rd_T67 l0 x3_1).f2)).toNat * 4)).off + 3, none⟩ = some (.int .i64 ((rd_T67 l0 ((rd_T67 l0 x3_1).f2)).f3)) ∧ w'.cell? (ad216.add ((((rd_T67 l0 x3_1).f2)).toNat * 4)) = some (.int .i64 ((rd_T67 l0 ((rd_T67 l0 x3_1).f2)).f0)) ∧ w'.cell? ⟨(ad216.add ((((rd_T67 l0 x3_1).f2)).toNat * 4)).block, (ad216.add ((((rd_T67 l0 x3_1).f2)).toNat * 4)).off + 1, none⟩ = some (.int .i64 ((rd_T67 l0 ((rd_T67 l0 x3_1).f2)).f1)) ∧ w'.cell? ⟨(ad216.add ((((rd_T67 l0 x3_1).f2)).toNat * 4)).block, (ad216.add ((((rd_T67 l0 x3_1).f2)).toNat * 4)).off + 2, none⟩ = some (.int .i64 ((rd_T67 l0 ((rd_T67 l0 x3_1).f2)).f2)) ∧ w'.cell? ⟨(ad216.add ((((rd_T67 l0 x3_1).f2)).toNat * 4)).block, (ad216.add ((((rd_T67 l0 x3_1).f2)).toNat * 4)).off + 3, none⟩ = some (.int .i64 ((rd_T67 l0 ((rd_T67 l0 x3_1).f2)).f3)) ∧ w'.cell? (ad216.add ((((rd_T67 l0 x3_1).f2)).toNat * 4)) = some (.int .i64 ((rd_T67 l0 ((rd_T67 l0 x3_1).f2)).f0)) ∧ w'.cell? ⟨(ad216.add ((((rd_T67 l0 x3_1).f2)).toNat * 4)).block, (ad216.add ((((rd_T67 l0 x3_1).f2)).toNat * 4)).off + 1, none⟩ = some (.int .i64 ((rd_T67 l0 ((rd_T67 l0 x3_1).f2)).f1)) ∧ w'.cell? ⟨(ad216.add ((((rd_T67 l0 x3_1).f2)).toNat * 4)).block, (ad216.add ((((rd_T67 l0 x3_1).f2)).toNat * 4)).off + 2, none⟩ = some (.int .i64 ((rd_T67 l0 ((rd_T67 l0 x3_1).f2)).f2)) ∧ w'.cell? ⟨(ad216.add ((((rd_T67 l0 x3_1).f2)).toNat * 4)).block, (ad216.add ((((rd_T67 l0 x3_1).f2)).toNat * 4)).off + 3, none⟩ = some (.int .i64 ((rd_T67 l0 ((rd_T67 l0 x3_1).f2)).f3))) (ds := []) m39x38 (by kernel_rfl) rfl rfl ⟨(blk_cell BK217.out 0).trans rfl, (blk_cell BK217.out 1).trans rfl, (blk_cell BK217.out 2).trans rfl, (blk_cell BK217.out 3).trans rfl, (hC HB.out hw221_0).trans rfl, (hC HB.out hw221_1).trans rfl, (hC HB.out hw221_2).trans rfl, (hC HB.out hw221_3).trans rfl, (hC HB.out hw222_0).trans rfl, (hC HB.out hw222_1).trans rfl, (hC HB.out hw222_2).trans rfl, (hC HB.out hw222_3).trans rfl, (hC HB.out hw223_0).trans rfl, (hC HB.out hw223_1).trans rfl, (hC HB.out hw223_2).trans rfl, (hC HB.out hw223_3).trans rfl⟩ (fun hHeld => ?_); refine with_tabW spec_IsFormat.tab13 spec_IsFormat.bits13 (fun HT_ HW_ => ?_)); generalize wc.drew = w28 at BK217 HB hx221_0 hx221_1 hx221_2 hx221_3 hx222_0 hx222_1 hx222_2 hx222_3 hx223_0 hx223_1 hx223_2 hx223_3 hHeld ⊢; (refine pure_ (i := 0) (N := some 36) (v := ?_) (a' := ?_) m39x37 rfl rfl (any_of HT_.out (by kernel_rfl)) (fun _ _ _ h => h) (Or.inl ⟨by rfl, ?_⟩) ?_ ?_); rotate_left); (· intro w'; go_simp; (with_reducible rfl)); rotate_left; (· simp only [Act.put, sT, sZ, sS, i64_w, i32_w]; rfl); refine pV 2 38 m39x36 ?_; refine pV 3 39 m39x35 ?_; refine tV 1 37 m39x34 ?_; ((refine oN 4 40 m39x33 (fun K hK => ?_)); (refine goes_ Try.func59 (by kernel_rfl) rfl #[.int .i64 ((rd_T67 l0 x3_1).f2), .int .i64 0, .int .i64 (wrap64 (x3_1 - 1))] (by rfl) rfl rfl (by (try simp only [List.map_toArray, List.map_cons, List.map_nil]); first | done | rfl | (simp only [List.length_drop, List.length_take]; rfl)) ?_); (with_reducible refine (spec_l1In.calls ((rd_T67 l0 x3_1).f2) 0 (wrap64 (x3_1 - 1)) true _ A19.out).mono ?_); rintro e w' ⟨rfl, ⟨nd, rfl⟩⟩; refine ⟨_, rfl, ?_⟩; refine hK.out _ _ ⟨(blk_cell BK217.out 0).trans rfl, (blk_cell BK217.out 1).trans rfl, (blk_cell BK217.out 2).trans rfl, (blk_cell BK217.out 3).trans rfl, (hC HB.out hw221_0).trans rfl, (hC HB.out hw221_1).trans rfl, (hC HB.out hw221_2).trans rfl, (hC HB.out hw221_3).trans rfl, (hC HB.out hw222_0).trans rfl, (hC HB.out hw222_1).trans rfl, (hC HB.out hw222_2).trans rfl, (hC HB.out hw222_3).trans rfl, (hC HB.out hw223_0).trans rfl, (hC HB.out hw223_1).trans rfl, (hC HB.out hw223_2).trans rfl, (hC HB.out hw223_3).trans rfl⟩ (fun hHeld => ?_); clear hK K; refine norm_ (a' := ?_) ?_ ?_; rotate_left); (· show Act.put _ (some 40) _ = _; simp only [Act.put, sT, sZ, sS, i64_w, i32_w]; rfl); refine pV 5 41 m39x32 ?_; refine pV 6 42 m39x31 ?_; refine pV 7 43 m39x30 ?_; refine pV 8 44 m39x29 ?_; refine tV 9 45 m39x28 ?_; refine pV 10 46 m39x27 ?_; refine pV 11 47 m39x26 ?_; refine tV 12 48 m39x25 ?_; refine pV 13 49 m39x24 ?_; refine pV 14 50 m39x23 ?_; refine pV 15 51 m39x22 ?_; refine pV 16 52 m39x21 ?_; refine pV 17 53 m39x20 ?_; refine tV 18 54 m39x19 ?_; refine pV 19 55 m39x18 ?_; refine pV 20 56 m39x17 ?_; refine tV 21 57 m39x16 ?_; refine pV 22 58 m39x15 ?_; refine pV 23 59 m39x14 ?_; refine pV 24 60 m39x13 ?_; refine pV 25 61 m39x12 ?_; refine pV 27 63 m39x10 ?_; refine pV 28 64 m39x8 ?_; refine tV 26 62 m39x7 ?_; refine tV 29 65 m39x6 ?_; refine pV 30 66 m39x5 ?_; refine pV 31 67 m39x4 ?_; refine tV 32 68 m39x3 ?_; ((refine oN 33 69 m39x2 (fun K hK => ?_)); (refine goes_ Try.func59 (by kernel_rfl) rfl #[.int .i64 ((rd_T67 l0 x3_1).f3), .int .i64 0, .int .i64 ((rd_T67 l0 ((rd_T67 l0 x3_1).f2)).f1)] (by rfl) rfl rfl (by (try simp only [List.map_toArray, List.map_cons, List.map_nil]); first | done | rfl | (simp only [List.length_drop, List.length_take]; rfl)) ?_); (with_reducible refine (spec_l1In.calls ((rd_T67 l0 x3_1).f3) 0 ((rd_T67 l0 ((rd_T67 l0 x3_1).f2)).f1) true _ A25.out).mono ?_); rintro e w' ⟨rfl, ⟨nd, rfl⟩⟩; refine ⟨_, rfl, ?_⟩; refine hK.out _ _ ⟨(blk_cell BK217.out 0).trans rfl, (blk_cell BK217.out 1).trans rfl, (blk_cell BK217.out 2).trans rfl, (blk_cell BK217.out 3).trans rfl, (hC HB.out hw221_0).trans rfl, (hC HB.out hw221_1).trans rfl, (hC HB.out hw221_2).trans rfl, (hC HB.out hw221_3).trans rfl, (hC HB.out hw222_0).trans rfl, (hC HB.out hw222_1).trans rfl, (hC HB.out hw222_2).trans rfl, (hC HB.out hw222_3).trans rfl, (hC HB.out hw223_0).trans rfl, (hC HB.out hw223_1).trans rfl, (hC HB.out hw223_2).trans rfl, (hC HB.out hw223_3).trans rfl⟩ (fun hHeld => ?_); clear hK K; refine norm_ (a' := ?_) ?_ ?_; rotate_left); (· show Act.put _ (some 69) _ = _; simp only [Act.put, sT, sZ, sS, i64_w, i32_w]; rfl); refine pV 34 70 m39x1 ?_; refine pV 35 71 m39x0 ?_; ((refine done_ (done_of HT_.out (by kernel_rfl)) ?_); (try go_wp2); go_roundg kj7)
                                  case measure => have := HK1.out; have := HJ3.out; have := HJ7.out; omega
                                  case rel => exact ⟨(wrap64 (x3_1 + 1)), (by first | rfl | (simp; done) | (simp [*]; done)), H', ⟨by have := HK1.out; have := HJ3.out; have := HJ7.out; omega⟩, ⟨by repeat (first | (with_reducible first | exact HB.out | apply below_alloc | apply pw_below_drewN | apply below_drew1 | refine below_set ?_ GE217.out) | exact HB.out)⟩⟩
                                · replace c26 := Bool.eq_false_iff.mpr c26
                                  (subst c26; (have H1 : (some false) = some r := by rw [if_neg (show ¬ (false = true) by decide)] at H; exact H); clear H; have H := H1; clear H1; obtain rfl := Option.some.inj H; obtain ⟨hcz29_0, hcz29_1, hcz29_2, hcz29_3, hfz29_0, hfz29_1, hfz29_2, hfz29_3⟩ := zc4 BK217.out; (try go_wp2); have n0_ := Aside0.mk (blk_drew BK217.out); have n1_ := Aside0.mk (below_drew1 HB.out); clear BK217; clear HB; have BK217 := n0_; have HB := n1_; clear n0_ n1_; (have p221 : 0 ≤ (((rd_T67 l0 x3_1).f2) : Int) := of_decide_eq_true (by assumption)); (have q221 : ((rd_T67 l0 x3_1).f2) < (l0.length : Int) := of_decide_eq_true (by assumption)); obtain ⟨ad221, e221, hx221_0, hx221_1, hx221_2, hx221_3⟩ := at_T67 HR0.out ((rd_T67 l0 x3_1).f2) p221 q221; have hw221_3 := hx221_3; have hw221_2 := hx221_2; have hw221_1 := hx221_1; have hw221_0 := hx221_0; (obtain rfl : ad216 = ad221 := (by injection e221)); replace hx221_0 := hC HB.out hx221_0; replace hx221_1 := hC HB.out hx221_1; replace hx221_2 := hC HB.out hx221_2; replace hx221_3 := hC HB.out hx221_3; replace p221 := eq_true p221; replace q221 := eq_true q221; (have p222 : 0 ≤ (((rd_T67 l0 x3_1).f2) : Int) := of_decide_eq_true (by assumption)); (have q222 : ((rd_T67 l0 x3_1).f2) < (l0.length : Int) := of_decide_eq_true (by assumption)); obtain ⟨ad222, e222, hx222_0, hx222_1, hx222_2, hx222_3⟩ := at_T67 HR0.out ((rd_T67 l0 x3_1).f2) p222 q222; have hw222_3 := hx222_3; have hw222_2 := hx222_2; have hw222_1 := hx222_1; have hw222_0 := hx222_0; (obtain rfl : ad216 = ad222 := (by injection e222)); replace hx222_0 := hC HB.out hx222_0; replace hx222_1 := hC HB.out hx222_1; replace hx222_2 := hC HB.out hx222_2; replace hx222_3 := hC HB.out hx222_3; replace p222 := eq_true p222; replace q222 := eq_true q222; (have p223 : 0 ≤ (((rd_T67 l0 x3_1).f2) : Int) := of_decide_eq_true (by assumption)); (have q223 : ((rd_T67 l0 x3_1).f2) < (l0.length : Int) := of_decide_eq_true (by assumption)); obtain ⟨ad223, e223, hx223_0, hx223_1, hx223_2, hx223_3⟩ := at_T67 HR0.out ((rd_T67 l0 x3_1).f2) p223 q223; have hw223_3 := hx223_3; have hw223_2 := hx223_2; have hw223_1 := hx223_1; have hw223_0 := hx223_0; (obtain rfl : ad216 = ad223 := (by injection e223)); replace hx223_0 := hC HB.out hx223_0; replace hx223_1 := hC HB.out hx223_1; replace hx223_2 := hC HB.out hx223_2; replace hx223_3 := hC HB.out hx223_3; replace p223 := eq_true p223; replace q223 := eq_true q223; (refine start_ (n := 36) (S := fun w' => w'.cell? ⟨gb217, 0, none⟩ = some (.int .i64 ((rd_T67 l0 x3_1).f0)) ∧ w'.cell? ⟨gb217, 1, none⟩ = some (.int .i64 ((rd_T67 l0 x3_1).f1)) ∧ w'.cell? ⟨gb217, 2, none⟩ = some (.int .i64 ((rd_T67 l0 x3_1).f2)) ∧ w'.cell? ⟨gb217, 3, none⟩ = some (.int .i64 ((rd_T67 l0 x3_1).f3)) ∧ w'.cell? (ad216.add ((((rd_T67 l0 x3_1).f2)).toNat * 4)) = some (.int .i64 ((rd_T67 l0 ((rd_T67 l0 x3_1).f2)).f0)) ∧ w'.cell? ⟨(ad216.add ((((rd_T67 l0 x3_1).f2)).toNat * 4)).block, (ad216.add ((((rd_T67 l0 x3_1).f2)).toNat * 4)).off + 1, none⟩ = some (.int .i64 ((rd_T67 l0 ((rd_T67 l0 x3_1).f2)).f1)) ∧ w'.cell? ⟨(ad216.add ((((rd_T67 l0 x3_1).f2)).toNat * 4)).block, (ad216.add ((((rd_T67 l0 x3_1).f2)).toNat * 4)).off + 2, none⟩ = some (.int .i64 ((rd_T67 l0 ((rd_T67 l0 x3_1).f2)).f2)) ∧ w'.cell? ⟨(ad216.add ((((rd_T67 l0 x3_1).f2)).toNat * 4)).block, (ad216.add ((((rd_T67 l0 x3_1).f2)).toNat * 4)).off + 3, none⟩ = some (.int .i64 ((rd_T67 l0 ((rd_T67 l0 x3_1).f2)).f3)) ∧ w'.cell? (ad216.add ((((rd_T67 l0 x3_1).f2)).toNat * 4)) = some (.int .i64 ((rd_T67 l0 ((rd_T67 l0 x3_1).f2)).f0)) ∧ w'.cell? ⟨(ad216.add ((((rd_T67 l0 x3_1).f2)).toNat * 4)).block, (ad216.add ((((rd_T67 l0 x3_1).f2)).toNat * 4)).off + 1, none⟩ = some (.int .i64 ((rd_T67 l0 ((rd_T67 l0 x3_1).f2)).f1)) ∧ w'.cell? ⟨(ad216.add ((((rd_T67 l0 x3_1).f2)).toNat * 4)).block, (ad216.add ((((rd_T67 l0 x3_1).f2)).toNat * 4)).off + 2, none⟩ = some (.int .i64 ((rd_T67 l0 ((rd_T67 l0 x3_1).f2)).f2)) ∧ w'.cell? ⟨(ad216.add ((((rd_T67 l0 x3_1).f2)).toNat * 4)).block, (ad216.add ((((rd_T67 l0 x3_1).f2)).toNat * 4)).off + 3, none⟩ = some (.int .i64 ((rd_T67 l0 ((rd_T67 l0 x3_1).f2)).f3)) ∧ w'.cell? (ad216.add ((((rd_T67 l0 x3_1).f2)).toNat * 4)) = some (.int .i64 ((rd_T67 l0 ((rd_T67 l0 x3_1).f2)).f0)) ∧ w'.cell? ⟨(ad216.add ((((rd_T67 l0 x3_1).f2)).toNat * 4)).block, (ad216.add ((((rd_T67 l0 x3_1).f2)).toNat * 4)).off + 1, none⟩ = some (.int .i64 ((rd_T67 l0 ((rd_T67 l0 x3_1).f2)).f1)) ∧ w'.cell? ⟨(ad216.add ((((rd_T67 l0 x3_1).f2)).toNat * 4)).block, (ad216.add ((((rd_T67 l0 x3_1).f2)).toNat * 4)).off + 2, none⟩ = some (.int .i64 ((rd_T67 l0 ((rd_T67 l0 x3_1).f2)).f2)) ∧ w'.cell? ⟨(ad216.add ((((rd_T67 l0 x3_1).f2)).toNat * 4)).block, (ad216.add ((((rd_T67 l0 x3_1).f2)).toNat * 4)).off + 3, none⟩ = some (.int .i64 ((rd_T67 l0 ((rd_T67 l0 x3_1).f2)).f3))) (ds := []) m39x38 (by kernel_rfl) rfl rfl ⟨(blk_cell BK217.out 0).trans rfl, (blk_cell BK217.out 1).trans rfl, (blk_cell BK217.out 2).trans rfl, (blk_cell BK217.out 3).trans rfl, (hC HB.out hw221_0).trans rfl, (hC HB.out hw221_1).trans rfl, (hC HB.out hw221_2).trans rfl, (hC HB.out hw221_3).trans rfl, (hC HB.out hw222_0).trans rfl, (hC HB.out hw222_1).trans rfl, (hC HB.out hw222_2).trans rfl, (hC HB.out hw222_3).trans rfl, (hC HB.out hw223_0).trans rfl, (hC HB.out hw223_1).trans rfl, (hC HB.out hw223_2).trans rfl, (hC HB.out hw223_3).trans rfl⟩ (fun hHeld => ?_); refine with_tabW spec_IsFormat.tab13 spec_IsFormat.bits13 (fun HT_ HW_ => ?_)); generalize wc.drew = w30 at BK217 HB hx221_0 hx221_1 hx221_2 hx221_3 hx222_0 hx222_1 hx222_2 hx222_3 hx223_0 hx223_1 hx223_2 hx223_3 hHeld ⊢; (refine pure_ (i := 0) (N := some 36) (v := ?_) (a' := ?_) m39x37 rfl rfl (any_of HT_.out (by kernel_rfl)) (fun _ _ _ h => h) (Or.inl ⟨by rfl, ?_⟩) ?_ ?_); rotate_left); (· intro w'; go_simp; (with_reducible rfl)); rotate_left; (· simp only [Act.put, sT, sZ, sS, i64_w, i32_w]; rfl); refine pV 2 38 m39x36 ?_; refine pV 3 39 m39x35 ?_; refine tV 1 37 m39x34 ?_; ((refine oN 4 40 m39x33 (fun K hK => ?_)); (refine goes_ Try.func59 (by kernel_rfl) rfl #[.int .i64 ((rd_T67 l0 x3_1).f2), .int .i64 0, .int .i64 (wrap64 (x3_1 - 1))] (by rfl) rfl rfl (by (try simp only [List.map_toArray, List.map_cons, List.map_nil]); first | done | rfl | (simp only [List.length_drop, List.length_take]; rfl)) ?_); (with_reducible refine (spec_l1In.calls ((rd_T67 l0 x3_1).f2) 0 (wrap64 (x3_1 - 1)) true _ A19.out).mono ?_); rintro e w' ⟨rfl, ⟨nd, rfl⟩⟩; refine ⟨_, rfl, ?_⟩; refine hK.out _ _ ⟨(blk_cell BK217.out 0).trans rfl, (blk_cell BK217.out 1).trans rfl, (blk_cell BK217.out 2).trans rfl, (blk_cell BK217.out 3).trans rfl, (hC HB.out hw221_0).trans rfl, (hC HB.out hw221_1).trans rfl, (hC HB.out hw221_2).trans rfl, (hC HB.out hw221_3).trans rfl, (hC HB.out hw222_0).trans rfl, (hC HB.out hw222_1).trans rfl, (hC HB.out hw222_2).trans rfl, (hC HB.out hw222_3).trans rfl, (hC HB.out hw223_0).trans rfl, (hC HB.out hw223_1).trans rfl, (hC HB.out hw223_2).trans rfl, (hC HB.out hw223_3).trans rfl⟩ (fun hHeld => ?_); clear hK K; refine norm_ (a' := ?_) ?_ ?_; rotate_left); (· show Act.put _ (some 40) _ = _; simp only [Act.put, sT, sZ, sS, i64_w, i32_w]; rfl); refine pV 5 41 m39x32 ?_; refine pV 6 42 m39x31 ?_; refine pV 7 43 m39x30 ?_; refine pV 8 44 m39x29 ?_; refine tV 9 45 m39x28 ?_; refine pV 10 46 m39x27 ?_; refine pV 11 47 m39x26 ?_; refine tV 12 48 m39x25 ?_; refine pV 13 49 m39x24 ?_; refine pV 14 50 m39x23 ?_; refine pV 15 51 m39x22 ?_; refine pV 16 52 m39x21 ?_; refine pV 17 53 m39x20 ?_; refine tV 18 54 m39x19 ?_; refine pV 19 55 m39x18 ?_; refine pV 20 56 m39x17 ?_; refine tV 21 57 m39x16 ?_; refine pV 22 58 m39x15 ?_; refine pV 23 59 m39x14 ?_; refine pV 24 60 m39x13 ?_; refine pV 25 61 m39x12 ?_; refine pV 27 63 m39x10 ?_; refine pV 28 64 m39x8 ?_; refine tV 26 62 m39x7 ?_; refine tV 29 65 m39x6 ?_; refine pV 30 66 m39x5 ?_; refine pV 31 67 m39x4 ?_; refine tV 32 68 m39x3 ?_; ((refine oN 33 69 m39x2 (fun K hK => ?_)); (refine goes_ Try.func59 (by kernel_rfl) rfl #[.int .i64 ((rd_T67 l0 x3_1).f3), .int .i64 0, .int .i64 ((rd_T67 l0 ((rd_T67 l0 x3_1).f2)).f1)] (by rfl) rfl rfl (by (try simp only [List.map_toArray, List.map_cons, List.map_nil]); first | done | rfl | (simp only [List.length_drop, List.length_take]; rfl)) ?_); (with_reducible refine (spec_l1In.calls ((rd_T67 l0 x3_1).f3) 0 ((rd_T67 l0 ((rd_T67 l0 x3_1).f2)).f1) false _ A25.out).mono ?_); rintro e w' ⟨rfl, ⟨nd, rfl⟩⟩; refine ⟨_, rfl, ?_⟩; refine hK.out _ _ ⟨(blk_cell BK217.out 0).trans rfl, (blk_cell BK217.out 1).trans rfl, (blk_cell BK217.out 2).trans rfl, (blk_cell BK217.out 3).trans rfl, (hC HB.out hw221_0).trans rfl, (hC HB.out hw221_1).trans rfl, (hC HB.out hw221_2).trans rfl, (hC HB.out hw221_3).trans rfl, (hC HB.out hw222_0).trans rfl, (hC HB.out hw222_1).trans rfl, (hC HB.out hw222_2).trans rfl, (hC HB.out hw222_3).trans rfl, (hC HB.out hw223_0).trans rfl, (hC HB.out hw223_1).trans rfl, (hC HB.out hw223_2).trans rfl, (hC HB.out hw223_3).trans rfl⟩ (fun hHeld => ?_); clear hK K; refine norm_ (a' := ?_) ?_ ?_; rotate_left); (· show Act.put _ (some 69) _ = _; simp only [Act.put, sT, sZ, sS, i64_w, i32_w]; rfl); refine pV 34 70 m39x1 ?_; refine pV 35 71 m39x0 ?_; ((refine done_ (done_of HT_.out (by kernel_rfl)) ?_); (try go_wp2); go_ret; (exact ⟨by first | rfl | (simp [errW_none, errW_some] <;> rfl) | (simp [*, errW_none, errW_some] <;> rfl), by repeat (first | (with_reducible first | exact HB.out | apply below_alloc | apply pw_below_drewN | apply below_drew1 | refine below_set ?_ GE217.out) | exact HB.out)⟩))
                              · rw [if_neg c24] at H
                                (have c24b0 : (((rd_T67 l0 ((rd_T67 l0 x3_1).f2)).f2) == (-1)) = false := beq_eq_false_iff_ne.mpr c24; have c24b1 : (((rd_T67 l0 ((rd_T67 l0 x3_1).f2)).f2) != (-1)) = true := bne_iff_ne.mpr c24; obtain rfl := Option.some.inj H; obtain ⟨hcz31_0, hcz31_1, hcz31_2, hcz31_3, hfz31_0, hfz31_1, hfz31_2, hfz31_3⟩ := zc4 BK217.out; (try go_wp2); have n0_ := Aside0.mk (blk_drew BK217.out); have n1_ := Aside0.mk (below_drew1 HB.out); clear BK217; clear HB; have BK217 := n0_; have HB := n1_; clear n0_ n1_; (have p221 : 0 ≤ (((rd_T67 l0 x3_1).f2) : Int) := of_decide_eq_true (by assumption)); (have q221 : ((rd_T67 l0 x3_1).f2) < (l0.length : Int) := of_decide_eq_true (by assumption)); obtain ⟨ad221, e221, hx221_0, hx221_1, hx221_2, hx221_3⟩ := at_T67 HR0.out ((rd_T67 l0 x3_1).f2) p221 q221; have hw221_3 := hx221_3; have hw221_2 := hx221_2; have hw221_1 := hx221_1; have hw221_0 := hx221_0; (obtain rfl : ad216 = ad221 := (by injection e221)); replace hx221_0 := hC HB.out hx221_0; replace hx221_1 := hC HB.out hx221_1; replace hx221_2 := hC HB.out hx221_2; replace hx221_3 := hC HB.out hx221_3; replace p221 := eq_true p221; replace q221 := eq_true q221; (have p222 : 0 ≤ (((rd_T67 l0 x3_1).f2) : Int) := of_decide_eq_true (by assumption)); (have q222 : ((rd_T67 l0 x3_1).f2) < (l0.length : Int) := of_decide_eq_true (by assumption)); obtain ⟨ad222, e222, hx222_0, hx222_1, hx222_2, hx222_3⟩ := at_T67 HR0.out ((rd_T67 l0 x3_1).f2) p222 q222; have hw222_3 := hx222_3; have hw222_2 := hx222_2; have hw222_1 := hx222_1; have hw222_0 := hx222_0; (obtain rfl : ad216 = ad222 := (by injection e222)); replace hx222_0 := hC HB.out hx222_0; replace hx222_1 := hC HB.out hx222_1; replace hx222_2 := hC HB.out hx222_2; replace hx222_3 := hC HB.out hx222_3; replace p222 := eq_true p222; replace q222 := eq_true q222; (refine start_ (n := 36) (S := fun w' => w'.cell? ⟨gb217, 0, none⟩ = some (.int .i64 ((rd_T67 l0 x3_1).f0)) ∧ w'.cell? ⟨gb217, 1, none⟩ = some (.int .i64 ((rd_T67 l0 x3_1).f1)) ∧ w'.cell? ⟨gb217, 2, none⟩ = some (.int .i64 ((rd_T67 l0 x3_1).f2)) ∧ w'.cell? ⟨gb217, 3, none⟩ = some (.int .i64 ((rd_T67 l0 x3_1).f3)) ∧ w'.cell? (ad216.add ((((rd_T67 l0 x3_1).f2)).toNat * 4)) = some (.int .i64 ((rd_T67 l0 ((rd_T67 l0 x3_1).f2)).f0)) ∧ w'.cell? ⟨(ad216.add ((((rd_T67 l0 x3_1).f2)).toNat * 4)).block, (ad216.add ((((rd_T67 l0 x3_1).f2)).toNat * 4)).off + 1, none⟩ = some (.int .i64 ((rd_T67 l0 ((rd_T67 l0 x3_1).f2)).f1)) ∧ w'.cell? ⟨(ad216.add ((((rd_T67 l0 x3_1).f2)).toNat * 4)).block, (ad216.add ((((rd_T67 l0 x3_1).f2)).toNat * 4)).off + 2, none⟩ = some (.int .i64 ((rd_T67 l0 ((rd_T67 l0 x3_1).f2)).f2)) ∧ w'.cell? ⟨(ad216.add ((((rd_T67 l0 x3_1).f2)).toNat * 4)).block, (ad216.add ((((rd_T67 l0 x3_1).f2)).toNat * 4)).off + 3, none⟩ = some (.int .i64 ((rd_T67 l0 ((rd_T67 l0 x3_1).f2)).f3)) ∧ w'.cell? (ad216.add ((((rd_T67 l0 x3_1).f2)).toNat * 4)) = some (.int .i64 ((rd_T67 l0 ((rd_T67 l0 x3_1).f2)).f0)) ∧ w'.cell? ⟨(ad216.add ((((rd_T67 l0 x3_1).f2)).toNat * 4)).block, (ad216.add ((((rd_T67 l0 x3_1).f2)).toNat * 4)).off + 1, none⟩ = some (.int .i64 ((rd_T67 l0 ((rd_T67 l0 x3_1).f2)).f1)) ∧ w'.cell? ⟨(ad216.add ((((rd_T67 l0 x3_1).f2)).toNat * 4)).block, (ad216.add ((((rd_T67 l0 x3_1).f2)).toNat * 4)).off + 2, none⟩ = some (.int .i64 ((rd_T67 l0 ((rd_T67 l0 x3_1).f2)).f2)) ∧ w'.cell? ⟨(ad216.add ((((rd_T67 l0 x3_1).f2)).toNat * 4)).block, (ad216.add ((((rd_T67 l0 x3_1).f2)).toNat * 4)).off + 3, none⟩ = some (.int .i64 ((rd_T67 l0 ((rd_T67 l0 x3_1).f2)).f3))) (ds := []) m39x38 (by kernel_rfl) rfl rfl ⟨(blk_cell BK217.out 0).trans rfl, (blk_cell BK217.out 1).trans rfl, (blk_cell BK217.out 2).trans rfl, (blk_cell BK217.out 3).trans rfl, (hC HB.out hw221_0).trans rfl, (hC HB.out hw221_1).trans rfl, (hC HB.out hw221_2).trans rfl, (hC HB.out hw221_3).trans rfl, (hC HB.out hw222_0).trans rfl, (hC HB.out hw222_1).trans rfl, (hC HB.out hw222_2).trans rfl, (hC HB.out hw222_3).trans rfl⟩ (fun hHeld => ?_); refine with_tabW spec_IsFormat.tab13 spec_IsFormat.bits13 (fun HT_ HW_ => ?_)); generalize wc.drew = w32 at BK217 HB hx221_0 hx221_1 hx221_2 hx221_3 hx222_0 hx222_1 hx222_2 hx222_3 hHeld ⊢; (refine pure_ (i := 0) (N := some 36) (v := ?_) (a' := ?_) m39x37 rfl rfl (any_of HT_.out (by kernel_rfl)) (fun _ _ _ h => h) (Or.inl ⟨by rfl, ?_⟩) ?_ ?_); rotate_left); (· intro w'; go_simp; (with_reducible rfl)); rotate_left; (· simp only [Act.put, sT, sZ, sS, i64_w, i32_w]; rfl); refine pV 2 38 m39x36 ?_; refine pV 3 39 m39x35 ?_; refine tV 1 37 m39x34 ?_; ((refine oN 4 40 m39x33 (fun K hK => ?_)); (refine goes_ Try.func59 (by kernel_rfl) rfl #[.int .i64 ((rd_T67 l0 x3_1).f2), .int .i64 0, .int .i64 (wrap64 (x3_1 - 1))] (by rfl) rfl rfl (by (try simp only [List.map_toArray, List.map_cons, List.map_nil]); first | done | rfl | (simp only [List.length_drop, List.length_take]; rfl)) ?_); (with_reducible refine (spec_l1In.calls ((rd_T67 l0 x3_1).f2) 0 (wrap64 (x3_1 - 1)) true _ A19.out).mono ?_); rintro e w' ⟨rfl, ⟨nd, rfl⟩⟩; refine ⟨_, rfl, ?_⟩; refine hK.out _ _ ⟨(blk_cell BK217.out 0).trans rfl, (blk_cell BK217.out 1).trans rfl, (blk_cell BK217.out 2).trans rfl, (blk_cell BK217.out 3).trans rfl, (hC HB.out hw221_0).trans rfl, (hC HB.out hw221_1).trans rfl, (hC HB.out hw221_2).trans rfl, (hC HB.out hw221_3).trans rfl, (hC HB.out hw222_0).trans rfl, (hC HB.out hw222_1).trans rfl, (hC HB.out hw222_2).trans rfl, (hC HB.out hw222_3).trans rfl⟩ (fun hHeld => ?_); clear hK K; refine norm_ (a' := ?_) ?_ ?_; rotate_left); (· show Act.put _ (some 40) _ = _; simp only [Act.put, sT, sZ, sS, i64_w, i32_w]; rfl); refine pV 5 41 m39x32 ?_; refine pV 6 42 m39x31 ?_; refine pV 7 43 m39x30 ?_; refine pV 8 44 m39x29 ?_; refine tV 9 45 m39x28 ?_; refine pV 10 46 m39x27 ?_; refine pV 11 47 m39x26 ?_; refine tV 12 48 m39x25 ?_; refine pV 13 49 m39x24 ?_; refine pV 14 50 m39x23 ?_; refine pV 15 51 m39x22 ?_; refine pV 16 52 m39x21 ?_; refine pV 17 53 m39x20 ?_; refine tV 18 54 m39x19 ?_; refine pV 19 55 m39x18 ?_; refine pV 20 56 m39x17 ?_; refine tV 21 57 m39x16 ?_; refine pV 22 58 m39x15 ?_; refine pV 23 59 m39x14 ?_; refine pV 24 60 m39x13 ?_; refine pU 25 61 m39x12 ?_; refine pU 26 62 m39x11 ?_; refine pU 27 63 m39x9 ?_; refine pU 28 64 m39x7 ?_; refine pU 29 65 m39x6 ?_; refine pU 30 66 m39x5 ?_; refine pU 31 67 m39x4 ?_; refine pU 32 68 m39x3 ?_; refine pU 33 69 m39x2 ?_; refine pU 34 70 m39x1 ?_; refine pV 35 71 m39x0 ?_; ((refine done_ (done_of HT_.out (by kernel_rfl)) ?_); (try go_wp2); go_ret; (exact ⟨by first | rfl | (simp [errW_none, errW_some] <;> rfl) | (simp [*, errW_none, errW_some] <;> rfl), by repeat (first | (with_reducible first | exact HB.out | apply below_alloc | apply pw_below_drewN | apply below_drew1 | refine below_set ?_ GE217.out) | exact HB.out)⟩))
                            · rw [if_neg c23] at H
                              (have c23b0 : (((rd_T67 l0 ((rd_T67 l0 x3_1).f2)).f0) == 1) = false := beq_eq_false_iff_ne.mpr c23; have c23b1 : (((rd_T67 l0 ((rd_T67 l0 x3_1).f2)).f0) != 1) = true := bne_iff_ne.mpr c23; obtain rfl := Option.some.inj H; obtain ⟨hcz33_0, hcz33_1, hcz33_2, hcz33_3, hfz33_0, hfz33_1, hfz33_2, hfz33_3⟩ := zc4 BK217.out; (try go_wp2); have n0_ := Aside0.mk (blk_drew BK217.out); have n1_ := Aside0.mk (below_drew1 HB.out); clear BK217; clear HB; have BK217 := n0_; have HB := n1_; clear n0_ n1_; (have p221 : 0 ≤ (((rd_T67 l0 x3_1).f2) : Int) := of_decide_eq_true (by assumption)); (have q221 : ((rd_T67 l0 x3_1).f2) < (l0.length : Int) := of_decide_eq_true (by assumption)); obtain ⟨ad221, e221, hx221_0, hx221_1, hx221_2, hx221_3⟩ := at_T67 HR0.out ((rd_T67 l0 x3_1).f2) p221 q221; have hw221_3 := hx221_3; have hw221_2 := hx221_2; have hw221_1 := hx221_1; have hw221_0 := hx221_0; (obtain rfl : ad216 = ad221 := (by injection e221)); replace hx221_0 := hC HB.out hx221_0; replace hx221_1 := hC HB.out hx221_1; replace hx221_2 := hC HB.out hx221_2; replace hx221_3 := hC HB.out hx221_3; replace p221 := eq_true p221; replace q221 := eq_true q221; (refine start_ (n := 36) (S := fun w' => w'.cell? ⟨gb217, 0, none⟩ = some (.int .i64 ((rd_T67 l0 x3_1).f0)) ∧ w'.cell? ⟨gb217, 1, none⟩ = some (.int .i64 ((rd_T67 l0 x3_1).f1)) ∧ w'.cell? ⟨gb217, 2, none⟩ = some (.int .i64 ((rd_T67 l0 x3_1).f2)) ∧ w'.cell? ⟨gb217, 3, none⟩ = some (.int .i64 ((rd_T67 l0 x3_1).f3)) ∧ w'.cell? (ad216.add ((((rd_T67 l0 x3_1).f2)).toNat * 4)) = some (.int .i64 ((rd_T67 l0 ((rd_T67 l0 x3_1).f2)).f0)) ∧ w'.cell? ⟨(ad216.add ((((rd_T67 l0 x3_1).f2)).toNat * 4)).block, (ad216.add ((((rd_T67 l0 x3_1).f2)).toNat * 4)).off + 1, none⟩ = some (.int .i64 ((rd_T67 l0 ((rd_T67 l0 x3_1).f2)).f1)) ∧ w'.cell? ⟨(ad216.add ((((rd_T67 l0 x3_1).f2)).toNat * 4)).block, (ad216.add ((((rd_T67 l0 x3_1).f2)).toNat * 4)).off + 2, none⟩ = some (.int .i64 ((rd_T67 l0 ((rd_T67 l0 x3_1).f2)).f2)) ∧ w'.cell? ⟨(ad216.add ((((rd_T67 l0 x3_1).f2)).toNat * 4)).block, (ad216.add ((((rd_T67 l0 x3_1).f2)).toNat * 4)).off + 3, none⟩ = some (.int .i64 ((rd_T67 l0 ((rd_T67 l0 x3_1).f2)).f3))) (ds := []) m39x38 (by kernel_rfl) rfl rfl ⟨(blk_cell BK217.out 0).trans rfl, (blk_cell BK217.out 1).trans rfl, (blk_cell BK217.out 2).trans rfl, (blk_cell BK217.out 3).trans rfl, (hC HB.out hw221_0).trans rfl, (hC HB.out hw221_1).trans rfl, (hC HB.out hw221_2).trans rfl, (hC HB.out hw221_3).trans rfl⟩ (fun hHeld => ?_); refine with_tabW spec_IsFormat.tab13 spec_IsFormat.bits13 (fun HT_ HW_ => ?_)); generalize wc.drew = w34 at BK217 HB hx221_0 hx221_1 hx221_2 hx221_3 hHeld ⊢; (refine pure_ (i := 0) (N := some 36) (v := ?_) (a' := ?_) m39x37 rfl rfl (any_of HT_.out (by kernel_rfl)) (fun _ _ _ h => h) (Or.inl ⟨by rfl, ?_⟩) ?_ ?_); rotate_left); (· intro w'; go_simp; (with_reducible rfl)); rotate_left; (· simp only [Act.put, sT, sZ, sS, i64_w, i32_w]; rfl); refine pV 2 38 m39x36 ?_; refine pV 3 39 m39x35 ?_; refine tV 1 37 m39x34 ?_; ((refine oN 4 40 m39x33 (fun K hK => ?_)); (refine goes_ Try.func59 (by kernel_rfl) rfl #[.int .i64 ((rd_T67 l0 x3_1).f2), .int .i64 0, .int .i64 (wrap64 (x3_1 - 1))] (by rfl) rfl rfl (by (try simp only [List.map_toArray, List.map_cons, List.map_nil]); first | done | rfl | (simp only [List.length_drop, List.length_take]; rfl)) ?_); (with_reducible refine (spec_l1In.calls ((rd_T67 l0 x3_1).f2) 0 (wrap64 (x3_1 - 1)) true _ A19.out).mono ?_); rintro e w' ⟨rfl, ⟨nd, rfl⟩⟩; refine ⟨_, rfl, ?_⟩; refine hK.out _ _ ⟨(blk_cell BK217.out 0).trans rfl, (blk_cell BK217.out 1).trans rfl, (blk_cell BK217.out 2).trans rfl, (blk_cell BK217.out 3).trans rfl, (hC HB.out hw221_0).trans rfl, (hC HB.out hw221_1).trans rfl, (hC HB.out hw221_2).trans rfl, (hC HB.out hw221_3).trans rfl⟩ (fun hHeld => ?_); clear hK K; refine norm_ (a' := ?_) ?_ ?_; rotate_left); (· show Act.put _ (some 40) _ = _; simp only [Act.put, sT, sZ, sS, i64_w, i32_w]; rfl); refine pV 5 41 m39x32 ?_; refine pV 6 42 m39x31 ?_; refine pV 7 43 m39x30 ?_; refine pV 8 44 m39x29 ?_; refine tV 9 45 m39x28 ?_; refine pV 10 46 m39x27 ?_; refine pV 11 47 m39x26 ?_; refine tV 12 48 m39x25 ?_; refine pV 13 49 m39x24 ?_; refine pV 14 50 m39x23 ?_; refine pV 15 51 m39x22 ?_; refine pU 16 52 m39x21 ?_; refine pU 17 53 m39x20 ?_; refine pU 18 54 m39x19 ?_; refine pU 19 55 m39x18 ?_; refine pU 20 56 m39x17 ?_; refine pU 21 57 m39x16 ?_; refine pU 22 58 m39x15 ?_; refine pV 23 59 m39x14 ?_; refine pV 24 60 m39x13 ?_; refine pU 25 61 m39x12 ?_; refine pU 26 62 m39x11 ?_; refine pU 27 63 m39x9 ?_; refine pU 28 64 m39x7 ?_; refine pU 29 65 m39x6 ?_; refine pU 30 66 m39x5 ?_; refine pU 31 67 m39x4 ?_; refine pU 32 68 m39x3 ?_; refine pU 33 69 m39x2 ?_; refine pU 34 70 m39x1 ?_; refine pV 35 71 m39x0 ?_; ((refine done_ (done_of HT_.out (by kernel_rfl)) ?_); (try go_wp2); go_ret; (exact ⟨by first | rfl | (simp [errW_none, errW_some] <;> rfl) | (simp [*, errW_none, errW_some] <;> rfl), by repeat (first | (with_reducible first | exact HB.out | apply below_alloc | apply pw_below_drewN | apply below_drew1 | refine below_set ?_ GE217.out) | exact HB.out)⟩))
                          · rw [if_neg c22] at H; (exact absurd H (by simp))
                        · rw [if_neg c21] at H; (exact absurd H (by simp))
                      · replace c20 := Bool.eq_false_iff.mpr c20
                        (subst c20; (have H1 : (some false) = some r := by rw [if_neg (show ¬ (false = true) by decide)] at H; exact H); clear H; have H := H1; clear H1; obtain rfl := Option.some.inj H; obtain ⟨hcz35_0, hcz35_1, hcz35_2, hcz35_3, hfz35_0, hfz35_1, hfz35_2, hfz35_3⟩ := zc4 BK217.out; (try go_wp2); have n0_ := Aside0.mk (blk_drew BK217.out); have n1_ := Aside0.mk (below_drew1 HB.out); clear BK217; clear HB; have BK217 := n0_; have HB := n1_; clear n0_ n1_; (refine start_ (n := 36) (S := fun w' => w'.cell? ⟨gb217, 0, none⟩ = some (.int .i64 ((rd_T67 l0 x3_1).f0)) ∧ w'.cell? ⟨gb217, 1, none⟩ = some (.int .i64 ((rd_T67 l0 x3_1).f1)) ∧ w'.cell? ⟨gb217, 2, none⟩ = some (.int .i64 ((rd_T67 l0 x3_1).f2)) ∧ w'.cell? ⟨gb217, 3, none⟩ = some (.int .i64 ((rd_T67 l0 x3_1).f3))) (ds := []) m39x38 (by kernel_rfl) rfl rfl ⟨(blk_cell BK217.out 0).trans rfl, (blk_cell BK217.out 1).trans rfl, (blk_cell BK217.out 2).trans rfl, (blk_cell BK217.out 3).trans rfl⟩ (fun hHeld => ?_); refine with_tabW spec_IsFormat.tab13 spec_IsFormat.bits13 (fun HT_ HW_ => ?_)); generalize wc.drew = w36 at BK217 HB hHeld ⊢; (refine pure_ (i := 0) (N := some 36) (v := ?_) (a' := ?_) m39x37 rfl rfl (any_of HT_.out (by kernel_rfl)) (fun _ _ _ h => h) (Or.inl ⟨by rfl, ?_⟩) ?_ ?_); rotate_left); (· intro w'; go_simp; (with_reducible rfl)); rotate_left; (· simp only [Act.put, sT, sZ, sS, i64_w, i32_w]; rfl); refine pV 2 38 m39x36 ?_; refine pV 3 39 m39x35 ?_; refine tV 1 37 m39x34 ?_; ((refine oN 4 40 m39x33 (fun K hK => ?_)); (refine goes_ Try.func59 (by kernel_rfl) rfl #[.int .i64 ((rd_T67 l0 x3_1).f2), .int .i64 0, .int .i64 (wrap64 (x3_1 - 1))] (by rfl) rfl rfl (by (try simp only [List.map_toArray, List.map_cons, List.map_nil]); first | done | rfl | (simp only [List.length_drop, List.length_take]; rfl)) ?_); (with_reducible refine (spec_l1In.calls ((rd_T67 l0 x3_1).f2) 0 (wrap64 (x3_1 - 1)) false _ A19.out).mono ?_); rintro e w' ⟨rfl, ⟨nd, rfl⟩⟩; refine ⟨_, rfl, ?_⟩; refine hK.out _ _ ⟨(blk_cell BK217.out 0).trans rfl, (blk_cell BK217.out 1).trans rfl, (blk_cell BK217.out 2).trans rfl, (blk_cell BK217.out 3).trans rfl⟩ (fun hHeld => ?_); clear hK K; refine norm_ (a' := ?_) ?_ ?_; rotate_left); (· show Act.put _ (some 40) _ = _; simp only [Act.put, sT, sZ, sS, i64_w, i32_w]; rfl); refine pV 5 41 m39x32 ?_; refine pV 6 42 m39x31 ?_; refine pU 7 43 m39x30 ?_; refine pU 8 44 m39x29 ?_; refine pU 9 45 m39x28 ?_; refine pU 10 46 m39x27 ?_; refine pU 11 47 m39x26 ?_; refine pU 12 48 m39x25 ?_; refine pU 13 49 m39x24 ?_; refine pV 14 50 m39x23 ?_; refine pV 15 51 m39x22 ?_; refine pU 16 52 m39x21 ?_; refine pU 17 53 m39x20 ?_; refine pU 18 54 m39x19 ?_; refine pU 19 55 m39x18 ?_; refine pU 20 56 m39x17 ?_; refine pU 21 57 m39x16 ?_; refine pU 22 58 m39x15 ?_; refine pV 23 59 m39x14 ?_; refine pV 24 60 m39x13 ?_; refine pU 25 61 m39x12 ?_; refine pU 26 62 m39x11 ?_; refine pU 27 63 m39x9 ?_; refine pU 28 64 m39x7 ?_; refine pU 29 65 m39x6 ?_; refine pU 30 66 m39x5 ?_; refine pU 31 67 m39x4 ?_; refine pU 32 68 m39x3 ?_; refine pU 33 69 m39x2 ?_; refine pU 34 70 m39x1 ?_; refine pV 35 71 m39x0 ?_; ((refine done_ (done_of HT_.out (by kernel_rfl)) ?_); (try go_wp2); go_ret; (exact ⟨by first | rfl | (simp [errW_none, errW_some] <;> rfl) | (simp [*, errW_none, errW_some] <;> rfl), by repeat (first | (with_reducible first | exact HB.out | apply below_alloc | apply pw_below_drewN | apply below_drew1 | refine below_set ?_ GE217.out) | exact HB.out)⟩))
        · rw [if_neg c3] at H
          exact absurd H (by simp)
      · rw [if_neg c2] at H
        have c2b0 : decide (x3_1 < (l0.length : Int)) = false := decide_eq_false c2
        clear c2
        replace H := Option.bind_eq_some_iff.mp H
        obtain ⟨t215, A370, H⟩ := H
        replace H : (some t215) = some r := H
        have A37 := Aside0.mk A370
        clear A370
        obtain rfl := Option.some.inj H
        go_wp2_with (first | ((with_reducible refine gate_callee (f := 59) rfl ?_); refine gL 74 Try.func59 #[.int .i64 (l0.length : Int), .int .i64 1, .int .i64 6] ?_; (with_reducible refine (spec_l1In.calls (l0.length : Int) 1 6 t215 _ A37.out).mono ?_); rintro e w' ⟨rfl, ⟨nd, rfl⟩⟩; refine ⟨_, rfl, ?_⟩))
        go_ret
        exact ⟨by first | rfl | (simp [errW_none, errW_some] <;> rfl) | (simp [*, errW_none, errW_some] <;> rfl), by repeat (first | (with_reducible first | exact HB.out | apply below_alloc | apply pw_below_drewN | apply below_drew1) | exact HB.out)⟩

/-! ### spec_IsThere: function 52 -/
abbrev m52x0 : Array Bool := #[true, true, true, true, true, true, true, true, true, true, true, true, true, true, true, true, true, true, true, true, true, true, true, true, true, true, true, true, true, true, true, true, true, true, true]
abbrev m52x1 : Array Bool := #[true, true, true, true, true, true, true, true, true, true, true, true, true, true, true, true, true, true, true, true, true, true, true, true, true, true, true, true, true, true, true, true, true, true, false]
abbrev m52x2 : Array Bool := #[true, true, true, true, true, true, true, true, true, true, true, true, true, true, true, true, true, true, true, true, true, true, true, true, true, true, true, true, true, true, true, true, true, false, false]
abbrev m52x3 : Array Bool := #[true, true, true, true, true, true, true, true, true, true, true, true, true, true, true, true, true, true, true, true, true, true, true, true, true, true, true, true, true, true, true, true, false, false, false]
abbrev m52x4 : Array Bool := #[true, true, true, true, true, true, true, true, true, true, true, true, true, true, true, true, true, true, true, true, true, true, true, true, true, true, true, true, true, true, true, false, false, false, false]
abbrev m52x5 : Array Bool := #[true, true, true, true, true, true, true, true, true, true, true, true, true, true, true, true, true, true, true, true, true, true, true, true, true, true, true, true, true, true, false, false, false, false, false]
abbrev m52x6 : Array Bool := #[true, true, true, true, true, true, true, true, true, true, true, true, true, true, true, true, true, true, true, true, true, true, true, true, true, false, true, true, true, true, false, false, false, false, false]
abbrev m52x7 : Array Bool := #[true, true, true, true, true, true, true, true, true, true, true, true, true, true, true, true, true, true, true, true, true, true, true, true, true, true, true, true, true, false, false, false, false, false, false]
abbrev m52x8 : Array Bool := #[true, true, true, true, true, true, true, true, true, true, true, true, true, true, true, true, true, true, true, true, true, true, true, true, false, false, true, true, true, true, false, false, false, false, false]
abbrev m52x9 : Array Bool := #[true, true, true, true, true, true, true, true, true, true, true, true, true, true, true, true, true, true, true, true, true, true, true, true, true, true, true, true, false, false, false, false, false, false, false]
abbrev m52x10 : Array Bool := #[true, true, true, true, true, true, true, true, true, true, true, true, true, true, true, true, true, true, true, true, true, true, true, false, false, false, true, true, true, true, false, false, false, false, false]
abbrev m52x11 : Array Bool := #[true, true, true, true, true, true, true, true, true, true, true, true, true, true, true, true, true, true, true, true, true, true, true, true, true, true, true, false, false, false, false, false, false, false, false]
abbrev m52x12 : Array Bool := #[true, true, true, true, true, true, true, true, true, true, true, true, true, true, true, true, true, true, true, true, true, true, false, false, false, false, true, true, true, true, false, false, false, false, false]
abbrev m52x13 : Array Bool := #[true, true, true, true, true, true, true, true, true, true, true, true, true, true, true, true, true, true, true, true, true, true, true, true, true, true, false, false, false, false, false, false, false, false, false]
abbrev m52x14 : Array Bool := #[true, true, true, true, true, true, true, true, true, true, true, true, true, true, true, true, true, true, true, true, true, true, false, false, false, false, true, true, true, false, false, false, false, false, false]
abbrev m52x15 : Array Bool := #[true, true, true, true, true, true, true, true, true, true, true, true, true, true, true, true, true, true, true, true, true, true, true, true, true, false, false, false, false, false, false, false, false, false, false]
abbrev m52x16 : Array Bool := #[true, true, true, true, true, true, true, true, true, true, true, true, true, true, true, true, true, true, true, true, true, true, false, false, false, false, true, true, false, false, false, false, false, false, false]
abbrev m52x17 : Array Bool := #[true, true, true, true, true, true, true, true, true, true, true, true, true, true, true, true, true, true, true, true, true, true, true, true, false, false, false, false, false, false, false, false, false, false, false]
abbrev m52x18 : Array Bool := #[true, true, true, true, true, true, true, true, true, true, true, true, true, true, true, true, true, true, true, true, true, true, false, false, false, false, true, false, false, false, false, false, false, false, false]
abbrev m52x19 : Array Bool := #[true, true, true, true, true, true, true, true, true, true, true, true, true, true, true, true, true, true, true, true, true, true, true, false, false, false, false, false, false, false, false, false, false, false, false]
abbrev m52x20 : Array Bool := #[true, true, true, true, true, true, true, true, true, true, true, true, true, true, true, true, true, true, true, true, true, true, false, false, false, false, false, false, false, false, false, false, false, false, false]
abbrev m52x21 : Array Bool := #[true, true, true, true, true, true, true, true, true, true, true, true, true, true, true, true, true, true, true, true, true, false, false, false, false, false, false, false, false, false, false, false, false, false, false]
abbrev m52x22 : Array Bool := #[true, true, true, true, true, true, true, true, true, true, true, true, true, true, true, true, true, true, true, true, false, false, false, false, false, false, false, false, false, false, false, false, false, false, false]
abbrev m52x23 : Array Bool := #[true, true, true, true, true, true, true, true, true, true, true, true, true, true, true, true, true, true, true, false, false, false, false, false, false, false, false, false, false, false, false, false, false, false, false]
abbrev m52x24 : Array Bool := #[true, true, true, true, true, true, true, true, true, true, true, true, true, true, true, true, true, true, false, false, false, false, false, false, false, false, false, false, false, false, false, false, false, false, false]
abbrev m52x25 : Array Bool := #[true, true, true, true, true, true, true, true, true, true, true, true, true, true, true, true, true, false, false, false, false, false, false, false, false, false, false, false, false, false, false, false, false, false, false]
abbrev m52x26 : Array Bool := #[true, true, true, true, true, true, true, true, true, true, true, true, true, true, true, true, false, false, false, false, false, false, false, false, false, false, false, false, false, false, false, false, false, false, false]
abbrev m52x27 : Array Bool := #[true, true, true, true, true, true, true, true, true, true, true, true, true, true, true, false, false, false, false, false, false, false, false, false, false, false, false, false, false, false, false, false, false, false, false]
abbrev m52x28 : Array Bool := #[true, true, true, true, true, true, true, true, true, true, true, false, true, true, true, false, false, false, false, false, false, false, false, false, false, false, false, false, false, false, false, false, false, false, false]
abbrev m52x29 : Array Bool := #[true, true, true, true, true, true, true, true, true, true, true, true, true, true, false, false, false, false, false, false, false, false, false, false, false, false, false, false, false, false, false, false, false, false, false]
abbrev m52x30 : Array Bool := #[true, true, true, true, true, true, true, true, true, true, true, false, true, true, false, false, false, false, false, false, false, false, false, false, false, false, false, false, false, false, false, false, false, false, false]
abbrev m52x31 : Array Bool := #[true, true, true, true, true, true, true, true, true, true, true, true, true, false, false, false, false, false, false, false, false, false, false, false, false, false, false, false, false, false, false, false, false, false, false]
abbrev m52x32 : Array Bool := #[true, true, true, true, true, true, true, true, true, true, true, false, true, false, false, false, false, false, false, false, false, false, false, false, false, false, false, false, false, false, false, false, false, false, false]
abbrev m52x33 : Array Bool := #[true, true, true, true, true, true, true, true, true, true, true, true, false, false, false, false, false, false, false, false, false, false, false, false, false, false, false, false, false, false, false, false, false, false, false]
abbrev m52x34 : Array Bool := #[true, true, true, true, true, true, true, true, true, true, true, false, false, false, false, false, false, false, false, false, false, false, false, false, false, false, false, false, false, false, false, false, false, false, false]
abbrev m52x35 : Array Bool := #[true, true, true, true, true, true, true, true, true, true, false, false, false, false, false, false, false, false, false, false, false, false, false, false, false, false, false, false, false, false, false, false, false, false, false]
abbrev m52x36 : Array Bool := #[true, true, true, true, true, true, true, true, true, false, false, false, false, false, false, false, false, false, false, false, false, false, false, false, false, false, false, false, false, false, false, false, false, false, false]
abbrev m52x37 : Array Bool := #[true, true, true, true, true, true, true, true, false, false, false, false, false, false, false, false, false, false, false, false, false, false, false, false, false, false, false, false, false, false, false, false, false, false, false]
abbrev m52x38 : Array Bool := #[true, true, true, true, true, true, true, false, false, false, false, false, false, false, false, false, false, false, false, false, false, false, false, false, false, false, false, false, false, false, false, false, false, false, false]
abbrev m52x39 : Array Bool := #[true, true, true, true, true, true, false, false, false, false, false, false, false, false, false, false, false, false, false, false, false, false, false, false, false, false, false, false, false, false, false, false, false, false, false]
abbrev m52x40 : Array Bool := #[true, true, true, true, true, false, false, false, false, false, false, false, false, false, false, false, false, false, false, false, false, false, false, false, false, false, false, false, false, false, false, false, false, false, false]
abbrev m52x41 : Array Bool := #[true, true, true, true, false, false, false, false, false, false, false, false, false, false, false, false, false, false, false, false, false, false, false, false, false, false, false, false, false, false, false, false, false, false, false]
abbrev m52x42 : Array Bool := #[true, true, true, false, false, false, false, false, false, false, false, false, false, false, false, false, false, false, false, false, false, false, false, false, false, false, false, false, false, false, false, false, false, false, false]
abbrev m52x43 : Array Bool := #[true, true, false, false, false, false, false, false, false, false, false, false, false, false, false, false, false, false, false, false, false, false, false, false, false, false, false, false, false, false, false, false, false, false, false]
abbrev m52x44 : Array Bool := #[true, false, false, false, false, false, false, false, false, false, false, false, false, false, false, false, false, false, false, false, false, false, false, false, false, false, false, false, false, false, false, false, false, false, false]
abbrev m52x45 : Array Bool := #[false, false, false, false, false, false, false, false, false, false, false, false, false, false, false, false, false, false, false, false, false, false, false, false, false, false, false, false, false, false, false, false, false, false, false]
def spec_IsThere.f (l0 : List (S67)) (l1 : List (S63)) (a2 : Int) : Option (Bool) := (spec_l1In.f a2 0 (wrap64 ((l0.length : Int) - 1))).bind fun t225 => (if t225 = true then (if 0 ≤ a2 then (if a2 < (l0.length : Int) then (if ((rd_T67 l0 a2).f2) = (-1) then (some true) else ((spec_l1In.f ((rd_T67 l0 a2).f2) 0 (wrap64 ((l1.length : Int) - 1))).bind fun t228 => (if t228 = true then (if 0 ≤ ((rd_T67 l0 a2).f2) then (if ((rd_T67 l0 a2).f2) < (l1.length : Int) then (some (((rd_T63 l1 ((rd_T67 l0 a2).f2)).f0) == ((rd_T67 l0 a2).f3))) else (none)) else (none)) else (some false)))) else (none)) else (none)) else (some false))
def spec_IsThere.T3 : Bool × List (List Nat × List Nat) := (true, [([], []), ([], []), ([0, 1], [0, 1]), ([2], [2]), ([3], [3]), ([4], [4]), ([5], [5]), ([6], [6]), ([6], [6]), ([7, 8, 6], [6, 7, 8]), ([9, 6], [6, 9]), ([10, 6], [6, 10]), ([6], [6]), ([12, 6], [6, 12]), ([13, 6], [6, 13]), ([11, 14, 6, 6], [6, 11, 14]), ([15, 15, 6], [6, 15]), ([16], [16]), ([16], [16]), ([16], [16]), ([18, 19, 16], [16, 18, 19]), ([20, 16], [16, 20]), ([21, 16], [16, 21]), ([17, 22, 16], [16, 17, 22]), ([23, 16], [16, 23]), ([24, 16], [16, 24]), ([16], [16]), ([16], [16]), ([26, 27, 16], [16, 26, 27]), ([28, 16], [16, 28]), ([29, 16], [16, 29]), ([25, 30, 16], [16, 25, 30]), ([16, 31, 6], [6, 16, 31]), ([6, 32], [6, 32]), ([33, 16, 0, 1, 2, 3, 4, 5, 6, 7, 8, 9, 10, 11, 12, 13, 14, 15, 16, 17, 18, 19, 20, 21, 22, 23, 24, 25, 26, 27, 28, 29, 30, 31, 32, 33], [33])])
def spec_IsThere.B3 : List Nat := [0, 0, 3, 7, 15, 31, 63, 127, 127, 511, 1023, 2047, 127, 4223, 12415, 32767, 65535, 131071, 131071, 131071, 917503, 1966079, 4063231, 8388607, 16777215, 33554431, 131071, 131071, 201457663, 469893119, 1006764031, 2147483647, 4294967295, 8589934591, 17179869183]
theorem spec_IsThere.tab3 : rtab .any (opsOf Try.f52 3) = spec_IsThere.T3 := by kernel_rfl
theorem spec_IsThere.bits3 : waitsOk spec_IsThere.T3.2 spec_IsThere.B3 = true := by kernel_rfl
set_option maxHeartbeats 8000000 in
set_option maxRecDepth 100000 in
theorem spec_IsThere.calls (A0 : Option Addr) (c0 : Nat) (l0 : List (S67)) (A1 : Option Addr) (c1 : Nat) (l1 : List (S63)) (a2 : Int) (r : Bool) (w : World) (hr0 : Kd.C k67 w A0 l0.length l0) (hc0 : l0.length ≤ c0) (hr1 : Kd.C k63 w A1 l1.length l1) (hc1 : l1.length ≤ c1) (h : spec_IsThere.f l0 l1 a2 = some r) :
    Calls Try.prog 52 #[.slice A0 l0.length c0, .slice A1 l1.length c1, .int .i64 a2] w fun e w' => e = .returned (.bool r) ∧ Below w.heap.size w w' := by
  have HR0 := Aside0.mk hr0
  have HC0 := Aside0.mk hc0
  clear hr0 hc0
  have HR1 := Aside0.mk hr1
  have HC1 := Aside0.mk hc1
  clear hr1 hc1
  have HB := Aside0.mk (Below.refl w.heap.size w)
  have H : ((spec_l1In.f a2 0 (wrap64 ((l0.length : Int) - 1))).bind fun t225 => (if t225 = true then (if 0 ≤ a2 then (if a2 < (l0.length : Int) then (if ((rd_T67 l0 a2).f2) = (-1) then (some true) else ((spec_l1In.f ((rd_T67 l0 a2).f2) 0 (wrap64 ((l1.length : Int) - 1))).bind fun t228 => (if t228 = true then (if 0 ≤ ((rd_T67 l0 a2).f2) then (if ((rd_T67 l0 a2).f2) < (l1.length : Int) then (some (((rd_T63 l1 ((rd_T67 l0 a2).f2)).f0) == ((rd_T67 l0 a2).f3))) else (none)) else (none)) else (some false)))) else (none)) else (none)) else (some false))) = some r := h
  clear h
  replace H := Option.bind_eq_some_iff.mp H
  obtain ⟨t225, A40, H⟩ := H
  replace H : (if t225 = true then (if 0 ≤ a2 then (if a2 < (l0.length : Int) then (if ((rd_T67 l0 a2).f2) = (-1) then (some true) else ((spec_l1In.f ((rd_T67 l0 a2).f2) 0 (wrap64 ((l1.length : Int) - 1))).bind fun t228 => (if t228 = true then (if 0 ≤ ((rd_T67 l0 a2).f2) then (if ((rd_T67 l0 a2).f2) < (l1.length : Int) then (some (((rd_T63 l1 ((rd_T67 l0 a2).f2)).f0) == ((rd_T67 l0 a2).f3))) else (none)) else (none)) else (some false)))) else (none)) else (none)) else (some false)) = some r := H
  have A4 := Aside0.mk A40
  clear A40
  by_cases c5 : t225 = true
  · subst c5
    have H1 : (if 0 ≤ a2 then (if a2 < (l0.length : Int) then (if ((rd_T67 l0 a2).f2) = (-1) then (some true) else ((spec_l1In.f ((rd_T67 l0 a2).f2) 0 (wrap64 ((l1.length : Int) - 1))).bind fun t228 => (if t228 = true then (if 0 ≤ ((rd_T67 l0 a2).f2) then (if ((rd_T67 l0 a2).f2) < (l1.length : Int) then (some (((rd_T63 l1 ((rd_T67 l0 a2).f2)).f0) == ((rd_T67 l0 a2).f3))) else (none)) else (none)) else (some false)))) else (none)) else (none)) = some r := by rw [if_pos rfl] at H; exact H
    clear H
    have H := H1
    clear H1
    by_cases c6 : 0 ≤ a2
    · rw [if_pos c6] at H
      have c6b0 : decide (0 ≤ a2) = true := decide_eq_true c6
      clear c6
      by_cases c7 : a2 < (l0.length : Int)
      · rw [if_pos c7] at H
        have c7b0 : decide (a2 < (l0.length : Int)) = true := decide_eq_true c7
        clear c7
        by_cases c8 : ((rd_T67 l0 a2).f2) = (-1)
        · rw [if_pos c8] at H
          (have c8b0 : (((rd_T67 l0 a2).f2) == (-1)) = true := beq_iff_eq.mpr c8; have c8b1 : (((rd_T67 l0 a2).f2) != (-1)) = false := bne_eq_false_iff_eq.mpr c8; clear c8; obtain rfl := Option.some.inj H; go_enter Try.func52, Try.ntmps52; (try go_wp2_with (first | ((with_reducible refine gate_callee (f := 59) rfl ?_); refine gL 11 Try.func59 #[.int .i64 a2, .int .i64 0, .int .i64 (wrap64 ((l0.length : Int) - 1))] ?_; (with_reducible refine (spec_l1In.calls a2 0 (wrap64 ((l0.length : Int) - 1)) true _ A4.out).mono ?_); rintro e w' ⟨rfl, ⟨nd, rfl⟩⟩; refine ⟨_, rfl, ?_⟩))); have n0_ := Aside0.mk (below_drew1 (pw_below_drewN HB.out nd)); clear HB; have HB := n0_; clear n0_; (have p226 : 0 ≤ (a2 : Int) := of_decide_eq_true (by assumption)); (have q226 : a2 < (l0.length : Int) := of_decide_eq_true (by assumption)); obtain ⟨ad226, e226, hx226_0, hx226_1, hx226_2, hx226_3⟩ := at_T67 HR0.out a2 p226 q226; have hw226_3 := hx226_3; have hw226_2 := hx226_2; have hw226_1 := hx226_1; have hw226_0 := hx226_0; cases e226; replace hx226_0 := hC HB.out hx226_0; replace hx226_1 := hC HB.out hx226_1; replace hx226_2 := hC HB.out hx226_2; replace hx226_3 := hC HB.out hx226_3; replace p226 := eq_true p226; replace q226 := eq_true q226; (refine start_ (n := 35) (S := fun w' => w'.cell? (ad226.add ((a2).toNat * 4)) = some (.int .i64 ((rd_T67 l0 a2).f0)) ∧ w'.cell? ⟨(ad226.add ((a2).toNat * 4)).block, (ad226.add ((a2).toNat * 4)).off + 1, none⟩ = some (.int .i64 ((rd_T67 l0 a2).f1)) ∧ w'.cell? ⟨(ad226.add ((a2).toNat * 4)).block, (ad226.add ((a2).toNat * 4)).off + 2, none⟩ = some (.int .i64 ((rd_T67 l0 a2).f2)) ∧ w'.cell? ⟨(ad226.add ((a2).toNat * 4)).block, (ad226.add ((a2).toNat * 4)).off + 3, none⟩ = some (.int .i64 ((rd_T67 l0 a2).f3))) (ds := []) m52x45 (by kernel_rfl) rfl rfl ⟨(hC HB.out hw226_0).trans rfl, (hC HB.out hw226_1).trans rfl, (hC HB.out hw226_2).trans rfl, (hC HB.out hw226_3).trans rfl⟩ (fun hHeld => ?_); refine with_tabW spec_IsThere.tab3 spec_IsThere.bits3 (fun HT_ HW_ => ?_)); generalize (w.drewN nd).drew = w9 at HB hx226_0 hx226_1 hx226_2 hx226_3 hHeld ⊢; (refine pure_ (i := 0) (N := some 13) (v := ?_) (a' := ?_) m52x44 rfl rfl (any_of HT_.out (by kernel_rfl)) (fun _ _ _ h => h) (Or.inl ⟨by rfl, ?_⟩) ?_ ?_); rotate_left); (· intro w'; go_simp; (with_reducible rfl)); rotate_left; (· simp only [Act.put, sT, sZ, sS, i64_w, i32_w]; rfl); refine pV 1 14 m52x43 ?_; refine pV 2 15 m52x42 ?_; refine pV 3 16 m52x41 ?_; refine tV 4 17 m52x40 ?_; refine pV 5 18 m52x39 ?_; refine pV 6 19 m52x38 ?_; refine pU 7 20 m52x37 ?_; refine pU 8 21 m52x36 ?_; refine pU 9 22 m52x35 ?_; refine pU 10 23 m52x34 ?_; refine pU 11 24 m52x33 ?_; refine pU 12 25 m52x31 ?_; refine pU 13 26 m52x29 ?_; refine pU 14 27 m52x27 ?_; refine pU 15 28 m52x26 ?_; refine pU 16 29 m52x25 ?_; refine pU 17 30 m52x24 ?_; refine pU 18 31 m52x23 ?_; refine pU 19 32 m52x22 ?_; refine pU 20 33 m52x21 ?_; refine pU 21 34 m52x20 ?_; refine pU 22 35 m52x19 ?_; refine pU 23 36 m52x17 ?_; refine pU 24 37 m52x15 ?_; refine pU 25 38 m52x13 ?_; refine pU 26 39 m52x11 ?_; refine pU 27 40 m52x9 ?_; refine pU 28 41 m52x7 ?_; refine pU 29 42 m52x5 ?_; refine pU 30 43 m52x4 ?_; refine pU 31 44 m52x3 ?_; refine pU 32 45 m52x2 ?_; refine pV 33 46 m52x1 ?_; refine pV 34 6 m52x0 ?_; ((refine done_ (done_of HT_.out (by kernel_rfl)) ?_); (try go_wp2); go_ret; (exact ⟨by first | rfl | (simp [errW_none, errW_some] <;> rfl) | (simp [*, errW_none, errW_some] <;> rfl), by repeat (first | (with_reducible first | exact HB.out | apply below_alloc | apply pw_below_drewN | apply below_drew1) | exact HB.out)⟩))
        · rw [if_neg c8] at H
          have c8b0 : (((rd_T67 l0 a2).f2) == (-1)) = false := beq_eq_false_iff_ne.mpr c8; have c8b1 : (((rd_T67 l0 a2).f2) != (-1)) = true := bne_iff_ne.mpr c8; replace H := Option.bind_eq_some_iff.mp H; obtain ⟨t228, A100, H⟩ := H; replace H : (if t228 = true then (if 0 ≤ ((rd_T67 l0 a2).f2) then (if ((rd_T67 l0 a2).f2) < (l1.length : Int) then (some (((rd_T63 l1 ((rd_T67 l0 a2).f2)).f0) == ((rd_T67 l0 a2).f3))) else (none)) else (none)) else (some false)) = some r := H; have A10 := Aside0.mk A100; clear A100; by_cases c11 : t228 = true
          · subst c11
            (have H1 : (if 0 ≤ ((rd_T67 l0 a2).f2) then (if ((rd_T67 l0 a2).f2) < (l1.length : Int) then (some (((rd_T63 l1 ((rd_T67 l0 a2).f2)).f0) == ((rd_T67 l0 a2).f3))) else (none)) else (none)) = some r := by rw [if_pos rfl] at H; exact H); clear H; have H := H1; clear H1; by_cases c12 : 0 ≤ ((rd_T67 l0 a2).f2)
            · rw [if_pos c12] at H
              have c12b0 : decide (0 ≤ ((rd_T67 l0 a2).f2)) = true := decide_eq_true c12; clear c12; by_cases c13 : ((rd_T67 l0 a2).f2) < (l1.length : Int)
              · rw [if_pos c13] at H
                (have c13b0 : decide (((rd_T67 l0 a2).f2) < (l1.length : Int)) = true := decide_eq_true c13; clear c13; obtain rfl := Option.some.inj H; go_enter Try.func52, Try.ntmps52; (try go_wp2_with (first | ((with_reducible refine gate_callee (f := 59) rfl ?_); refine gL 11 Try.func59 #[.int .i64 a2, .int .i64 0, .int .i64 (wrap64 ((l0.length : Int) - 1))] ?_; (with_reducible refine (spec_l1In.calls a2 0 (wrap64 ((l0.length : Int) - 1)) true _ A4.out).mono ?_); rintro e w' ⟨rfl, ⟨nd, rfl⟩⟩; refine ⟨_, rfl, ?_⟩))); have n0_ := Aside0.mk (below_drew1 (pw_below_drewN HB.out nd)); clear HB; have HB := n0_; clear n0_; (have p226 : 0 ≤ (a2 : Int) := of_decide_eq_true (by assumption)); (have q226 : a2 < (l0.length : Int) := of_decide_eq_true (by assumption)); obtain ⟨ad226, e226, hx226_0, hx226_1, hx226_2, hx226_3⟩ := at_T67 HR0.out a2 p226 q226; have hw226_3 := hx226_3; have hw226_2 := hx226_2; have hw226_1 := hx226_1; have hw226_0 := hx226_0; cases e226; replace hx226_0 := hC HB.out hx226_0; replace hx226_1 := hC HB.out hx226_1; replace hx226_2 := hC HB.out hx226_2; replace hx226_3 := hC HB.out hx226_3; replace p226 := eq_true p226; replace q226 := eq_true q226; (have p227 : 0 ≤ (a2 : Int) := of_decide_eq_true (by assumption)); (have q227 : a2 < (l0.length : Int) := of_decide_eq_true (by assumption)); obtain ⟨ad227, e227, hx227_0, hx227_1, hx227_2, hx227_3⟩ := at_T67 HR0.out a2 p227 q227; have hw227_3 := hx227_3; have hw227_2 := hx227_2; have hw227_1 := hx227_1; have hw227_0 := hx227_0; (obtain rfl : ad226 = ad227 := (by injection e227)); replace hx227_0 := hC HB.out hx227_0; replace hx227_1 := hC HB.out hx227_1; replace hx227_2 := hC HB.out hx227_2; replace hx227_3 := hC HB.out hx227_3; replace p227 := eq_true p227; replace q227 := eq_true q227; (have p229 : 0 ≤ (a2 : Int) := of_decide_eq_true (by assumption)); (have q229 : a2 < (l0.length : Int) := of_decide_eq_true (by assumption)); obtain ⟨ad229, e229, hx229_0, hx229_1, hx229_2, hx229_3⟩ := at_T67 HR0.out a2 p229 q229; have hw229_3 := hx229_3; have hw229_2 := hx229_2; have hw229_1 := hx229_1; have hw229_0 := hx229_0; (obtain rfl : ad226 = ad229 := (by injection e229)); replace hx229_0 := hC HB.out hx229_0; replace hx229_1 := hC HB.out hx229_1; replace hx229_2 := hC HB.out hx229_2; replace hx229_3 := hC HB.out hx229_3; replace p229 := eq_true p229; replace q229 := eq_true q229; (have p230 : 0 ≤ (((rd_T67 l0 a2).f2) : Int) := of_decide_eq_true (by assumption)); (have q230 : ((rd_T67 l0 a2).f2) < (l1.length : Int) := of_decide_eq_true (by assumption)); obtain ⟨ad230, A230_1, c230_1, e230, hx230_0, hx230_1, hl230_1, hi230_1⟩ := at_T63 HR1.out ((rd_T67 l0 a2).f2) p230 q230; have hw230_1 := hx230_1; have hw230_0 := hx230_0; cases e230; replace hx230_0 := hC HB.out hx230_0; replace hx230_1 := hC HB.out hx230_1; have HR230_1 := Aside0.mk hi230_1; have HC230_1 := Aside0.mk hl230_1; clear hi230_1 hl230_1; replace p230 := eq_true p230; replace q230 := eq_true q230; (have p231 : 0 ≤ (a2 : Int) := of_decide_eq_true (by assumption)); (have q231 : a2 < (l0.length : Int) := of_decide_eq_true (by assumption)); obtain ⟨ad231, e231, hx231_0, hx231_1, hx231_2, hx231_3⟩ := at_T67 HR0.out a2 p231 q231; have hw231_3 := hx231_3; have hw231_2 := hx231_2; have hw231_1 := hx231_1; have hw231_0 := hx231_0; (obtain rfl : ad226 = ad231 := (by injection e231)); replace hx231_0 := hC HB.out hx231_0; replace hx231_1 := hC HB.out hx231_1; replace hx231_2 := hC HB.out hx231_2; replace hx231_3 := hC HB.out hx231_3; replace p231 := eq_true p231; replace q231 := eq_true q231; (refine start_ (n := 35) (S := fun w' => w'.cell? (ad226.add ((a2).toNat * 4)) = some (.int .i64 ((rd_T67 l0 a2).f0)) ∧ w'.cell? ⟨(ad226.add ((a2).toNat * 4)).block, (ad226.add ((a2).toNat * 4)).off + 1, none⟩ = some (.int .i64 ((rd_T67 l0 a2).f1)) ∧ w'.cell? ⟨(ad226.add ((a2).toNat * 4)).block, (ad226.add ((a2).toNat * 4)).off + 2, none⟩ = some (.int .i64 ((rd_T67 l0 a2).f2)) ∧ w'.cell? ⟨(ad226.add ((a2).toNat * 4)).block, (ad226.add ((a2).toNat * 4)).off + 3, none⟩ = some (.int .i64 ((rd_T67 l0 a2).f3)) ∧ w'.cell? (ad226.add ((a2).toNat * 4)) = some (.int .i64 ((rd_T67 l0 a2).f0)) ∧ w'.cell? ⟨(ad226.add ((a2).toNat * 4)).block, (ad226.add ((a2).toNat * 4)).off + 1, none⟩ = some (.int .i64 ((rd_T67 l0 a2).f1)) ∧ w'.cell? ⟨(ad226.add ((a2).toNat * 4)).block, (ad226.add ((a2).toNat * 4)).off + 2, none⟩ = some (.int .i64 ((rd_T67 l0 a2).f2)) ∧ w'.cell? ⟨(ad226.add ((a2).toNat * 4)).block, (ad226.add ((a2).toNat * 4)).off + 3, none⟩ = some (.int .i64 ((rd_T67 l0 a2).f3)) ∧ w'.cell? (ad226.add ((a2).toNat * 4)) = some (.int .i64 ((rd_T67 l0 a2).f0)) ∧ w'.cell? ⟨(ad226.add ((a2).toNat * 4)).block, (ad226.add ((a2).toNat * 4)).off + 1, none⟩ = some (.int .i64 ((rd_T67 l0 a2).f1)) ∧ w'.cell? ⟨(ad226.add ((a2).toNat * 4)).block, (ad226.add ((a2).toNat * 4)).off + 2, none⟩ = some (.int .i64 ((rd_T67 l0 a2).f2)) ∧ w'.cell? ⟨(ad226.add ((a2).toNat * 4)).block, (ad226.add ((a2).toNat * 4)).off + 3, none⟩ = some (.int .i64 ((rd_T67 l0 a2).f3)) ∧ w'.cell? (ad230.add ((((rd_T67 l0 a2).f2)).toNat * 2)) = some (.int .i64 ((rd_T63 l1 ((rd_T67 l0 a2).f2)).f0)) ∧ w'.cell? ⟨(ad230.add ((((rd_T67 l0 a2).f2)).toNat * 2)).block, (ad230.add ((((rd_T67 l0 a2).f2)).toNat * 2)).off + 1, none⟩ = some (.slice A230_1 ((rd_T63 l1 ((rd_T67 l0 a2).f2)).f1).length c230_1) ∧ w'.cell? (ad226.add ((a2).toNat * 4)) = some (.int .i64 ((rd_T67 l0 a2).f0)) ∧ w'.cell? ⟨(ad226.add ((a2).toNat * 4)).block, (ad226.add ((a2).toNat * 4)).off + 1, none⟩ = some (.int .i64 ((rd_T67 l0 a2).f1)) ∧ w'.cell? ⟨(ad226.add ((a2).toNat * 4)).block, (ad226.add ((a2).toNat * 4)).off + 2, none⟩ = some (.int .i64 ((rd_T67 l0 a2).f2)) ∧ w'.cell? ⟨(ad226.add ((a2).toNat * 4)).block, (ad226.add ((a2).toNat * 4)).off + 3, none⟩ = some (.int .i64 ((rd_T67 l0 a2).f3))) (ds := []) m52x45 (by kernel_rfl) rfl rfl ⟨(hC HB.out hw226_0).trans rfl, (hC HB.out hw226_1).trans rfl, (hC HB.out hw226_2).trans rfl, (hC HB.out hw226_3).trans rfl, (hC HB.out hw227_0).trans rfl, (hC HB.out hw227_1).trans rfl, (hC HB.out hw227_2).trans rfl, (hC HB.out hw227_3).trans rfl, (hC HB.out hw229_0).trans rfl, (hC HB.out hw229_1).trans rfl, (hC HB.out hw229_2).trans rfl, (hC HB.out hw229_3).trans rfl, (hC HB.out hw230_0).trans rfl, (hC HB.out hw230_1).trans rfl, (hC HB.out hw231_0).trans rfl, (hC HB.out hw231_1).trans rfl, (hC HB.out hw231_2).trans rfl, (hC HB.out hw231_3).trans rfl⟩ (fun hHeld => ?_); refine with_tabW spec_IsThere.tab3 spec_IsThere.bits3 (fun HT_ HW_ => ?_)); generalize (w.drewN nd).drew = w14 at HB HR230_1 hx226_0 hx226_1 hx226_2 hx226_3 hx227_0 hx227_1 hx227_2 hx227_3 hx229_0 hx229_1 hx229_2 hx229_3 hx230_0 hx230_1 hx231_0 hx231_1 hx231_2 hx231_3 hHeld ⊢; (refine pure_ (i := 0) (N := some 13) (v := ?_) (a' := ?_) m52x44 rfl rfl (any_of HT_.out (by kernel_rfl)) (fun _ _ _ h => h) (Or.inl ⟨by rfl, ?_⟩) ?_ ?_); rotate_left); (· intro w'; go_simp; (with_reducible rfl)); rotate_left; (· simp only [Act.put, sT, sZ, sS, i64_w, i32_w]; rfl); refine pV 1 14 m52x43 ?_; refine pV 2 15 m52x42 ?_; refine pV 3 16 m52x41 ?_; refine tV 4 17 m52x40 ?_; refine pV 5 18 m52x39 ?_; refine pV 6 19 m52x38 ?_; refine pV 7 20 m52x37 ?_; refine pV 8 21 m52x36 ?_; refine pV 9 22 m52x35 ?_; refine pV 10 23 m52x34 ?_; refine pV 12 25 m52x32 ?_; refine pV 13 26 m52x30 ?_; refine pV 14 27 m52x28 ?_; refine tV 11 24 m52x27 ?_; ((refine oN 15 28 m52x26 (fun K hK => ?_)); (refine goes_ Try.func59 (by kernel_rfl) rfl #[.int .i64 ((rd_T67 l0 a2).f2), .int .i64 0, .int .i64 (wrap64 ((l1.length : Int) - 1))] (by rfl) rfl rfl (by (try simp only [List.map_toArray, List.map_cons, List.map_nil]); first | done | rfl | (simp only [List.length_drop, List.length_take]; rfl)) ?_); (with_reducible refine (spec_l1In.calls ((rd_T67 l0 a2).f2) 0 (wrap64 ((l1.length : Int) - 1)) true _ A10.out).mono ?_); rintro e w' ⟨rfl, ⟨nd, rfl⟩⟩; refine ⟨_, rfl, ?_⟩; refine hK.out _ _ ⟨(hC HB.out hw226_0).trans rfl, (hC HB.out hw226_1).trans rfl, (hC HB.out hw226_2).trans rfl, (hC HB.out hw226_3).trans rfl, (hC HB.out hw227_0).trans rfl, (hC HB.out hw227_1).trans rfl, (hC HB.out hw227_2).trans rfl, (hC HB.out hw227_3).trans rfl, (hC HB.out hw229_0).trans rfl, (hC HB.out hw229_1).trans rfl, (hC HB.out hw229_2).trans rfl, (hC HB.out hw229_3).trans rfl, (hC HB.out hw230_0).trans rfl, (hC HB.out hw230_1).trans rfl, (hC HB.out hw231_0).trans rfl, (hC HB.out hw231_1).trans rfl, (hC HB.out hw231_2).trans rfl, (hC HB.out hw231_3).trans rfl⟩ (fun hHeld => ?_); clear hK K; refine norm_ (a' := ?_) ?_ ?_; rotate_left); (· show Act.put _ (some 28) _ = _; simp only [Act.put, sT, sZ, sS, i64_w, i32_w]; rfl); refine pV 16 29 m52x25 ?_; refine pV 17 30 m52x24 ?_; refine pV 18 31 m52x23 ?_; refine pV 19 32 m52x22 ?_; refine pV 20 33 m52x21 ?_; refine pV 21 34 m52x20 ?_; refine pV 26 39 m52x18 ?_; refine pV 27 40 m52x16 ?_; refine pV 28 41 m52x14 ?_; refine pV 29 42 m52x12 ?_; refine tV 22 35 m52x10 ?_; refine pV 23 36 m52x8 ?_; refine pV 24 37 m52x6 ?_; refine tV 25 38 m52x5 ?_; refine tV 30 43 m52x4 ?_; refine pV 31 44 m52x3 ?_; refine pV 32 45 m52x2 ?_; refine pV 33 46 m52x1 ?_; refine pV 34 6 m52x0 ?_; ((refine done_ (done_of HT_.out (by kernel_rfl)) ?_); (try go_wp2); go_ret; (exact ⟨by first | rfl | (simp [errW_none, errW_some] <;> rfl) | (simp [*, errW_none, errW_some] <;> rfl), by repeat (first | (with_reducible first | exact HB.out | apply below_alloc | apply pw_below_drewN | apply below_drew1) | exact HB.out)⟩))
              · rw [if_neg c13] at H; (exact absurd H (by simp))
            · rw [if_neg c12] at H; (exact absurd H (by simp))
          · replace c11 := Bool.eq_false_iff.mpr c11
            (subst c11; (have H1 : (some false) = some r := by rw [if_neg (show ¬ (false = true) by decide)] at H; exact H); clear H; have H := H1; clear H1; obtain rfl := Option.some.inj H; go_enter Try.func52, Try.ntmps52; (try go_wp2_with (first | ((with_reducible refine gate_callee (f := 59) rfl ?_); refine gL 11 Try.func59 #[.int .i64 a2, .int .i64 0, .int .i64 (wrap64 ((l0.length : Int) - 1))] ?_; (with_reducible refine (spec_l1In.calls a2 0 (wrap64 ((l0.length : Int) - 1)) true _ A4.out).mono ?_); rintro e w' ⟨rfl, ⟨nd, rfl⟩⟩; refine ⟨_, rfl, ?_⟩))); have n0_ := Aside0.mk (below_drew1 (pw_below_drewN HB.out nd)); clear HB; have HB := n0_; clear n0_; (have p226 : 0 ≤ (a2 : Int) := of_decide_eq_true (by assumption)); (have q226 : a2 < (l0.length : Int) := of_decide_eq_true (by assumption)); obtain ⟨ad226, e226, hx226_0, hx226_1, hx226_2, hx226_3⟩ := at_T67 HR0.out a2 p226 q226; have hw226_3 := hx226_3; have hw226_2 := hx226_2; have hw226_1 := hx226_1; have hw226_0 := hx226_0; cases e226; replace hx226_0 := hC HB.out hx226_0; replace hx226_1 := hC HB.out hx226_1; replace hx226_2 := hC HB.out hx226_2; replace hx226_3 := hC HB.out hx226_3; replace p226 := eq_true p226; replace q226 := eq_true q226; (have p227 : 0 ≤ (a2 : Int) := of_decide_eq_true (by assumption)); (have q227 : a2 < (l0.length : Int) := of_decide_eq_true (by assumption)); obtain ⟨ad227, e227, hx227_0, hx227_1, hx227_2, hx227_3⟩ := at_T67 HR0.out a2 p227 q227; have hw227_3 := hx227_3; have hw227_2 := hx227_2; have hw227_1 := hx227_1; have hw227_0 := hx227_0; (obtain rfl : ad226 = ad227 := (by injection e227)); replace hx227_0 := hC HB.out hx227_0; replace hx227_1 := hC HB.out hx227_1; replace hx227_2 := hC HB.out hx227_2; replace hx227_3 := hC HB.out hx227_3; replace p227 := eq_true p227; replace q227 := eq_true q227; (refine start_ (n := 35) (S := fun w' => w'.cell? (ad226.add ((a2).toNat * 4)) = some (.int .i64 ((rd_T67 l0 a2).f0)) ∧ w'.cell? ⟨(ad226.add ((a2).toNat * 4)).block, (ad226.add ((a2).toNat * 4)).off + 1, none⟩ = some (.int .i64 ((rd_T67 l0 a2).f1)) ∧ w'.cell? ⟨(ad226.add ((a2).toNat * 4)).block, (ad226.add ((a2).toNat * 4)).off + 2, none⟩ = some (.int .i64 ((rd_T67 l0 a2).f2)) ∧ w'.cell? ⟨(ad226.add ((a2).toNat * 4)).block, (ad226.add ((a2).toNat * 4)).off + 3, none⟩ = some (.int .i64 ((rd_T67 l0 a2).f3)) ∧ w'.cell? (ad226.add ((a2).toNat * 4)) = some (.int .i64 ((rd_T67 l0 a2).f0)) ∧ w'.cell? ⟨(ad226.add ((a2).toNat * 4)).block, (ad226.add ((a2).toNat * 4)).off + 1, none⟩ = some (.int .i64 ((rd_T67 l0 a2).f1)) ∧ w'.cell? ⟨(ad226.add ((a2).toNat * 4)).block, (ad226.add ((a2).toNat * 4)).off + 2, none⟩ = some (.int .i64 ((rd_T67 l0 a2).f2)) ∧ w'.cell? ⟨(ad226.add ((a2).toNat * 4)).block, (ad226.add ((a2).toNat * 4)).off + 3, none⟩ = some (.int .i64 ((rd_T67 l0 a2).f3))) (ds := []) m52x45 (by kernel_rfl) rfl rfl ⟨(hC HB.out hw226_0).trans rfl, (hC HB.out hw226_1).trans rfl, (hC HB.out hw226_2).trans rfl, (hC HB.out hw226_3).trans rfl, (hC HB.out hw227_0).trans rfl, (hC HB.out hw227_1).trans rfl, (hC HB.out hw227_2).trans rfl, (hC HB.out hw227_3).trans rfl⟩ (fun hHeld => ?_); refine with_tabW spec_IsThere.tab3 spec_IsThere.bits3 (fun HT_ HW_ => ?_)); generalize (w.drewN nd).drew = w15 at HB hx226_0 hx226_1 hx226_2 hx226_3 hx227_0 hx227_1 hx227_2 hx227_3 hHeld ⊢; (refine pure_ (i := 0) (N := some 13) (v := ?_) (a' := ?_) m52x44 rfl rfl (any_of HT_.out (by kernel_rfl)) (fun _ _ _ h => h) (Or.inl ⟨by rfl, ?_⟩) ?_ ?_); rotate_left); (· intro w'; go_simp; (with_reducible rfl)); rotate_left; (· simp only [Act.put, sT, sZ, sS, i64_w, i32_w]; rfl); refine pV 1 14 m52x43 ?_; refine pV 2 15 m52x42 ?_; refine pV 3 16 m52x41 ?_; refine tV 4 17 m52x40 ?_; refine pV 5 18 m52x39 ?_; refine pV 6 19 m52x38 ?_; refine pV 7 20 m52x37 ?_; refine pV 8 21 m52x36 ?_; refine pV 9 22 m52x35 ?_; refine pV 10 23 m52x34 ?_; refine pV 12 25 m52x32 ?_; refine pV 13 26 m52x30 ?_; refine pV 14 27 m52x28 ?_; refine tV 11 24 m52x27 ?_; ((refine oN 15 28 m52x26 (fun K hK => ?_)); (refine goes_ Try.func59 (by kernel_rfl) rfl #[.int .i64 ((rd_T67 l0 a2).f2), .int .i64 0, .int .i64 (wrap64 ((l1.length : Int) - 1))] (by rfl) rfl rfl (by (try simp only [List.map_toArray, List.map_cons, List.map_nil]); first | done | rfl | (simp only [List.length_drop, List.length_take]; rfl)) ?_); (with_reducible refine (spec_l1In.calls ((rd_T67 l0 a2).f2) 0 (wrap64 ((l1.length : Int) - 1)) false _ A10.out).mono ?_); rintro e w' ⟨rfl, ⟨nd, rfl⟩⟩; refine ⟨_, rfl, ?_⟩; refine hK.out _ _ ⟨(hC HB.out hw226_0).trans rfl, (hC HB.out hw226_1).trans rfl, (hC HB.out hw226_2).trans rfl, (hC HB.out hw226_3).trans rfl, (hC HB.out hw227_0).trans rfl, (hC HB.out hw227_1).trans rfl, (hC HB.out hw227_2).trans rfl, (hC HB.out hw227_3).trans rfl⟩ (fun hHeld => ?_); clear hK K; refine norm_ (a' := ?_) ?_ ?_; rotate_left); (· show Act.put _ (some 28) _ = _; simp only [Act.put, sT, sZ, sS, i64_w, i32_w]; rfl); refine pV 16 29 m52x25 ?_; refine pU 17 30 m52x24 ?_; refine pU 18 31 m52x23 ?_; refine pU 19 32 m52x22 ?_; refine pU 20 33 m52x21 ?_; refine pU 21 34 m52x20 ?_; refine pU 22 35 m52x19 ?_; refine pU 23 36 m52x17 ?_; refine pU 24 37 m52x15 ?_; refine pU 25 38 m52x13 ?_; refine pU 26 39 m52x11 ?_; refine pU 27 40 m52x9 ?_; refine pU 28 41 m52x7 ?_; refine pU 29 42 m52x5 ?_; refine pU 30 43 m52x4 ?_; refine pU 31 44 m52x3 ?_; refine pV 32 45 m52x2 ?_; refine pV 33 46 m52x1 ?_; refine pV 34 6 m52x0 ?_; ((refine done_ (done_of HT_.out (by kernel_rfl)) ?_); (try go_wp2); go_ret; (exact ⟨by first | rfl | (simp [errW_none, errW_some] <;> rfl) | (simp [*, errW_none, errW_some] <;> rfl), by repeat (first | (with_reducible first | exact HB.out | apply below_alloc | apply pw_below_drewN | apply below_drew1) | exact HB.out)⟩))
      · rw [if_neg c7] at H
        exact absurd H (by simp)
    · rw [if_neg c6] at H
      exact absurd H (by simp)
  · replace c5 := Bool.eq_false_iff.mpr c5
    subst c5
    have H1 : (some false) = some r := by rw [if_neg (show ¬ (false = true) by decide)] at H; exact H
    clear H
    have H := H1
    clear H1
    obtain rfl := Option.some.inj H
    go_enter Try.func52, Try.ntmps52
    go_wp2_with (first | ((with_reducible refine gate_callee (f := 59) rfl ?_); refine gL 11 Try.func59 #[.int .i64 a2, .int .i64 0, .int .i64 (wrap64 ((l0.length : Int) - 1))] ?_; (with_reducible refine (spec_l1In.calls a2 0 (wrap64 ((l0.length : Int) - 1)) false _ A4.out).mono ?_); rintro e w' ⟨rfl, ⟨nd, rfl⟩⟩; refine ⟨_, rfl, ?_⟩))
    go_ret
    exact ⟨by first | rfl | (simp [errW_none, errW_some] <;> rfl) | (simp [*, errW_none, errW_some] <;> rfl), by repeat (first | (with_reducible first | exact HB.out | apply below_alloc | apply pw_below_drewN | apply below_drew1) | exact HB.out)⟩

/-! ### spec_FitsField: function 77 -/
mutual
def spec_FitsField.j0 : Nat → Int → Int → Int → Int → Int → Int → List Int → Option (Bool)
  | 0, _, _, _, _, _, _, _ => none
  | k + 1, x5, x233000, x233001, x233002, x233003, x234000, x234001 => spec_FitsField.l0 k x5 0 x233000 x233001 x233002 x233003 x234000 x234001
def spec_FitsField.l0 : Nat → Int → Int → Int → Int → Int → Int → Int → List Int → Option (Bool)
  | 0, _, _, _, _, _, _, _, _ => none
  | k + 1, x5, x6, x233000, x233001, x233002, x233003, x234000, x234001 => if x6 < (x234001.length : Int) then (if 0 ≤ x6 then ((spec_l1In.f (rd x234001 x6) 0 x5).bind fun t236 => (if t236 = true then (spec_FitsField.l0 k x5 (wrap64 (x6 + 1)) x233000 x233001 x233002 x233003 x234000 x234001) else (some false))) else (none)) else (if x234000 = 0 then (some (decide ((x234001.length : Int) ≤ x233001))) else (some false))
end
def spec_FitsField.f (k : Nat) (a0_0 : Int) (a0_1 : Int) (a0_2 : Int) (a0_3 : Int) (a1_0 : Int) (l1_1 : List Int) : Option (Bool) := if a0_0 = 1 then ((spec_l1In.f a1_0 0 a0_1).bind fun t234 => (if t234 = true then (some ((l1_1.length : Int) == 0)) else (some false))) else (if a0_0 = 3 then (spec_FitsField.j0 k 99 a0_0 a0_1 a0_2 a0_3 a1_0 l1_1) else (if a0_0 = 2 then (spec_FitsField.j0 k 255 a0_0 a0_1 a0_2 a0_3 a1_0 l1_1) else (some false)))
theorem spec_FitsField.mono_l : ∀ k, (∀ y0 y1 y2 y3 y4 y5 y6, LeO (spec_FitsField.j0 k y0 y1 y2 y3 y4 y5 y6) (spec_FitsField.j0 (k + 1) y0 y1 y2 y3 y4 y5 y6)) ∧ (∀ y0 y1 y2 y3 y4 y5 y6 y7, LeO (spec_FitsField.l0 k y0 y1 y2 y3 y4 y5 y6 y7) (spec_FitsField.l0 (k + 1) y0 y1 y2 y3 y4 y5 y6 y7))
  | 0 => ⟨fun _ _ _ _ _ _ _ r h => by simp [spec_FitsField.j0] at h, fun _ _ _ _ _ _ _ _ r h => by simp [spec_FitsField.l0] at h⟩
  | k + 1 => by
    obtain ⟨ih0, ih1⟩ := spec_FitsField.mono_l k
    refine ⟨?_, ?_⟩
    · intro y0 y1 y2 y3 y4 y5 y6
      unfold spec_FitsField.j0
      repeat' first
      | (with_reducible exact ih0 _ _ _ _ _ _ _)
      | (with_reducible exact ih1 _ _ _ _ _ _ _ _)
      | (with_reducible exact LeO.refl _)
      | (with_reducible exact LeO.none _)
      | (with_reducible refine LeO.ite ?_ ?_)
      | (with_reducible refine LeO.bind ?_ (fun _ => ?_))
      | exact ih0 _ _ _ _ _ _ _
      | exact ih1 _ _ _ _ _ _ _ _
      | exact LeO.none _
      | refine LeO.ite ?_ ?_
      | refine LeO.bind ?_ (fun _ => ?_)
    · intro y0 y1 y2 y3 y4 y5 y6 y7
      unfold spec_FitsField.l0
      repeat' first
      | (with_reducible exact ih0 _ _ _ _ _ _ _)
      | (with_reducible exact ih1 _ _ _ _ _ _ _ _)
      | (with_reducible exact LeO.refl _)
      | (with_reducible exact LeO.none _)
      | (with_reducible refine LeO.ite ?_ ?_)
      | (with_reducible refine LeO.bind ?_ (fun _ => ?_))
      | exact ih0 _ _ _ _ _ _ _
      | exact ih1 _ _ _ _ _ _ _ _
      | exact LeO.none _
      | refine LeO.ite ?_ ?_
      | refine LeO.bind ?_ (fun _ => ?_)
theorem spec_FitsField.mono : ∀ a0 a1 a2 a3 a4 a5 k, LeO (spec_FitsField.f k a0 a1 a2 a3 a4 a5) (spec_FitsField.f (k + 1) a0 a1 a2 a3 a4 a5) := by
  intro a0 a1 a2 a3 a4 a5 k
  obtain ⟨ih0, ih1⟩ := spec_FitsField.mono_l k
  unfold spec_FitsField.f
  repeat' first
      | (with_reducible exact ih0 _ _ _ _ _ _ _)
      | (with_reducible exact ih1 _ _ _ _ _ _ _ _)
      | (with_reducible exact LeO.refl _)
      | (with_reducible exact LeO.none _)
      | (with_reducible refine LeO.ite ?_ ?_)
      | (with_reducible refine LeO.bind ?_ (fun _ => ?_))
      | exact ih0 _ _ _ _ _ _ _
      | exact ih1 _ _ _ _ _ _ _ _
      | exact LeO.none _
      | refine LeO.ite ?_ ?_
      | refine LeO.bind ?_ (fun _ => ?_)
set_option maxHeartbeats 8000000 in
set_option maxRecDepth 100000 in
theorem spec_FitsField.calls (k : Nat) (a0_0 : Int) (a0_1 : Int) (a0_2 : Int) (a0_3 : Int) (a1_0 : Int) (A1_1 : Option Addr) (c1_1 : Nat) (l1_1 : List Int) (r : Bool) (w : World) (hr1_1 : Kd.C (Kd.int .i64) w A1_1 l1_1.length l1_1) (hc1_1 : l1_1.length ≤ c1_1) (h : spec_FitsField.f k a0_0 a0_1 a0_2 a0_3 a1_0 l1_1 = some r) :
    Calls Try.prog 77 #[.agg #[.int .i64 a0_0, .int .i64 a0_1, .int .i64 a0_2, .int .i64 a0_3], .agg #[.int .i64 a1_0, .slice A1_1 l1_1.length c1_1]] w fun e w' => e = .returned (.bool r) ∧ Below w.heap.size w w' := by
  have hu67 := Try.underlying67
  have hu63 := Try.underlying63
  have HR1_1 := Aside0.mk hr1_1
  have HC1_1 := Aside0.mk hc1_1
  clear hr1_1 hc1_1
  have HB := Aside0.mk (Below.refl w.heap.size w)
  have H : (if a0_0 = 1 then ((spec_l1In.f a1_0 0 a0_1).bind fun t234 => (if t234 = true then (some ((l1_1.length : Int) == 0)) else (some false))) else (if a0_0 = 3 then (spec_FitsField.j0 k 99 a0_0 a0_1 a0_2 a0_3 a1_0 l1_1) else (if a0_0 = 2 then (spec_FitsField.j0 k 255 a0_0 a0_1 a0_2 a0_3 a1_0 l1_1) else (some false)))) = some r := h
  clear h
  have HC3 := Aside0.mk H
  clear H
  go_enter Try.func77, Try.ntmps77
  go_upto_block 0 with (first | ((with_reducible refine gate_dst (N := 2) rfl ?_); (try (refine gate_guard (by rfl) ?_; dsimp only)); refine box_event ?hg (N := 2) ?hd (cs := #[.int .i64 a0_0, .int .i64 a0_1, .int .i64 a0_2, .int .i64 a0_3]) (t := 67) ?hr ?_; (case hd => rfl); (case hg => rfl); (case hr => first | (go_simp; done) | (go_simp; rfl)); intro gb232 hg w4 hbox hb; have n0_ := bS hb; have n1_ := Aside0.mk (hbox); have n2_ : Aside0 (w.heap.size ≤ gb232) := bZ hg; have n3_ : Aside0 (w.heap.size ≤ gb232) := bZ hg; clear HB; have HB := n0_; have BK232 := n1_; have GW232 := n2_; have GE232 := n3_; clear n0_ n1_ n2_ n3_; clear hb hbox hg) | ((with_reducible refine gate_dst (N := 3) rfl ?_); (try (refine gate_guard (by rfl) ?_; dsimp only)); refine box_event ?hg (N := 3) ?hd (cs := #[.int .i64 a1_0, .slice A1_1 l1_1.length c1_1]) (t := 63) ?hr ?_; (case hd => rfl); (case hg => rfl); (case hr => first | (go_simp; done) | (go_simp; rfl)); intro gb233 hg w5 hbox hb; have n0_ := Aside0.mk (blk_below (g := gb232) (o := .cells #[.int .i64 a0_0, .int .i64 a0_1, .int .i64 a0_2, .int .i64 a0_3] 67 (0, 0)) (by (with_reducible repeat (first | refine blk_drewN ?_ _ | refine blk_drew ?_ | refine blk_alloc ?_ _)); exact BK232.out) hb); have n1_ := bS hb; have n2_ := Aside0.mk (hbox); have n3_ : Aside0 (w.heap.size ≤ gb233) := bZ hg; have n4_ : Aside0 (w.heap.size ≤ gb233) := bZ hg; have n5_ := Aside0.mk ((by rw [hg]; exact Nat.ne_of_lt (blk_lt (g := gb232) (o := .cells #[.int .i64 a0_0, .int .i64 a0_1, .int .i64 a0_2, .int .i64 a0_3] 67 (0, 0)) (by (with_reducible repeat (first | refine blk_drewN ?_ _ | refine blk_drew ?_ | refine blk_alloc ?_ _)); exact BK232.out)) : gb232 ≠ gb233)); have n6_ := Aside0.mk ((by rw [hg]; exact Nat.ne_of_gt (blk_lt (g := gb232) (o := .cells #[.int .i64 a0_0, .int .i64 a0_1, .int .i64 a0_2, .int .i64 a0_3] 67 (0, 0)) (by (with_reducible repeat (first | refine blk_drewN ?_ _ | refine blk_drew ?_ | refine blk_alloc ?_ _)); exact BK232.out)) : gb233 ≠ gb232)); clear BK232; clear HB; have BK232 := n0_; have HB := n1_; have BK233 := n2_; have GW233 := n3_; have GE233 := n4_; have NB232_233 := n5_; have NB233_232 := n6_; clear n0_ n1_ n2_ n3_ n4_ n5_ n6_; clear hb hbox hg; have hnb6 := NB232_233.out; have hnc6 := NB233_232.out; obtain ⟨hcz7_0, hcz7_1, hcz7_2, hcz7_3, hfz7_0, hfz7_1, hfz7_2, hfz7_3⟩ := zc4 BK232.out))
  (try simp only [Act.put, sT, sZ, sS])
  go_cut [5] (fun v5 wc => ∃ (kq : Nat) (x5_2 : Int), v5 = .int .i64 x5_2 ∧ Aside0 (spec_FitsField.j0 kq x5_2 a0_0 a0_1 a0_2 a0_3 a1_0 l1_1 = some r) ∧ Aside0 (kq ≤ k) ∧ Aside0 (wc.heap[gb232]? = some (.cells #[.int .i64 a0_0, .int .i64 a0_1, .int .i64 a0_2, .int .i64 a0_3] 67 (0, 0))) ∧ Aside0 (wc.heap[gb233]? = some (.cells #[.int .i64 a1_0, (.slice A1_1 l1_1.length c1_1)] 63 (0, 0))) ∧ Aside0 (Below w.heap.size w wc))
  case first =>
    have H := HC3.out
    clear HC3
    by_cases c8 : a0_0 = 1
    · rw [if_pos c8] at H
      have c8b0 : (a0_0 == 1) = true := beq_iff_eq.mpr c8
      have c8b1 : (a0_0 != 1) = false := bne_eq_false_iff_eq.mpr c8
      clear c8
      (first | rw [c8b0] | (simp only [i64_w, i32_w]; rw [c8b0]) | skip)
      replace H := Option.bind_eq_some_iff.mp H
      obtain ⟨t234, A90, H⟩ := H
      replace H : (if t234 = true then (some ((l1_1.length : Int) == 0)) else (some false)) = some r := H
      have A9 := Aside0.mk A90
      clear A90
      by_cases c10 : t234 = true
      · subst c10
        have H1 : (some ((l1_1.length : Int) == 0)) = some r := by rw [if_pos rfl] at H; exact H
        clear H
        have H := H1
        clear H1
        obtain rfl := Option.some.inj H
        have hnb11 := NB233_232.out
        have hnc11 := NB232_233.out
        have hcz12_0 : w5.cell? ⟨gb233, 0, none⟩ = some (.int .i64 a1_0) := (blk_cell BK233.out 0).trans rfl
        have hcz12_1 : w5.cell? ⟨gb233, 1, none⟩ = some (.slice A1_1 l1_1.length c1_1) := (blk_cell BK233.out 1).trans rfl
        have hfz12_0 := blk_frozen BK233.out 0
        have hfz12_1 := blk_frozen BK233.out 1
        have hcz13_0 : w5.cell? ⟨gb232, 0, none⟩ = some (.int .i64 a0_0) := (blk_cell BK232.out 0).trans rfl
        have hcz13_1 : w5.cell? ⟨gb232, 1, none⟩ = some (.int .i64 a0_1) := (blk_cell BK232.out 1).trans rfl
        have hcz13_2 : w5.cell? ⟨gb232, 2, none⟩ = some (.int .i64 a0_2) := (blk_cell BK232.out 2).trans rfl
        have hcz13_3 : w5.cell? ⟨gb232, 3, none⟩ = some (.int .i64 a0_3) := (blk_cell BK232.out 3).trans rfl
        have hfz13_0 := blk_frozen BK232.out 0
        have hfz13_1 := blk_frozen BK232.out 1
        have hfz13_2 := blk_frozen BK232.out 2
        have hfz13_3 := blk_frozen BK232.out 3
        go_wp2_with (first | ((with_reducible refine gate_callee (f := 59) rfl ?_); refine gL 15 Try.func59 #[.int .i64 a1_0, .int .i64 0, .int .i64 a0_1] ?_; (with_reducible refine (spec_l1In.calls a1_0 0 a0_1 true _ A9.out).mono ?_); rintro e w' ⟨rfl, ⟨nd, rfl⟩⟩; refine ⟨_, rfl, ?_⟩))
        go_ret
        exact ⟨by first | rfl | (simp [errW_none, errW_some] <;> rfl) | (simp [*, errW_none, errW_some] <;> rfl), by repeat (first | (with_reducible first | exact HB.out | apply below_alloc | apply pw_below_drewN | apply below_drew1 | refine below_set ?_ GE232.out | refine below_set ?_ GE233.out) | exact HB.out)⟩
      · replace c10 := Bool.eq_false_iff.mpr c10
        subst c10
        have H1 : (some false) = some r := by rw [if_neg (show ¬ (false = true) by decide)] at H; exact H
        clear H
        have H := H1
        clear H1
        obtain rfl := Option.some.inj H
        have hnb14 := NB233_232.out
        have hnc14 := NB232_233.out
        have hcz15_0 : w5.cell? ⟨gb233, 0, none⟩ = some (.int .i64 a1_0) := (blk_cell BK233.out 0).trans rfl
        have hcz15_1 : w5.cell? ⟨gb233, 1, none⟩ = some (.slice A1_1 l1_1.length c1_1) := (blk_cell BK233.out 1).trans rfl
        have hfz15_0 := blk_frozen BK233.out 0
        have hfz15_1 := blk_frozen BK233.out 1
        have hcz16_0 : w5.cell? ⟨gb232, 0, none⟩ = some (.int .i64 a0_0) := (blk_cell BK232.out 0).trans rfl
        have hcz16_1 : w5.cell? ⟨gb232, 1, none⟩ = some (.int .i64 a0_1) := (blk_cell BK232.out 1).trans rfl
        have hcz16_2 : w5.cell? ⟨gb232, 2, none⟩ = some (.int .i64 a0_2) := (blk_cell BK232.out 2).trans rfl
        have hcz16_3 : w5.cell? ⟨gb232, 3, none⟩ = some (.int .i64 a0_3) := (blk_cell BK232.out 3).trans rfl
        have hfz16_0 := blk_frozen BK232.out 0
        have hfz16_1 := blk_frozen BK232.out 1
        have hfz16_2 := blk_frozen BK232.out 2
        have hfz16_3 := blk_frozen BK232.out 3
        go_wp2_with (first | ((with_reducible refine gate_callee (f := 59) rfl ?_); refine gL 15 Try.func59 #[.int .i64 a1_0, .int .i64 0, .int .i64 a0_1] ?_; (with_reducible refine (spec_l1In.calls a1_0 0 a0_1 false _ A9.out).mono ?_); rintro e w' ⟨rfl, ⟨nd, rfl⟩⟩; refine ⟨_, rfl, ?_⟩))
        go_ret
        exact ⟨by first | rfl | (simp [errW_none, errW_some] <;> rfl) | (simp [*, errW_none, errW_some] <;> rfl), by repeat (first | (with_reducible first | exact HB.out | apply below_alloc | apply pw_below_drewN | apply below_drew1 | refine below_set ?_ GE232.out | refine below_set ?_ GE233.out) | exact HB.out)⟩
    · rw [if_neg c8] at H
      have c8b0 : (a0_0 == 1) = false := beq_eq_false_iff_ne.mpr c8
      have c8b1 : (a0_0 != 1) = true := bne_iff_ne.mpr c8
      (first | rw [c8b0] | (simp only [i64_w, i32_w]; rw [c8b0]) | skip)
      by_cases c17 : a0_0 = 3
      · rw [if_pos c17] at H
        have c17b0 : (a0_0 == 3) = true := beq_iff_eq.mpr c17
        have c17b1 : (a0_0 != 3) = false := bne_eq_false_iff_eq.mpr c17
        clear c17
        have H' := Aside0.mk H
        clear H
        go_wp2
        go_meet
        case rel => exact ⟨_, (99), (by first | rfl | (simp; done) | (simp [*]; done)), H', ⟨by first | omega | exact Nat.le_refl _⟩, ⟨by (with_reducible repeat (first | refine blk_drewN ?_ _ | refine blk_drew ?_ | refine blk_alloc ?_ _)); exact BK232.out⟩, ⟨by (with_reducible repeat (first | refine blk_drewN ?_ _ | refine blk_drew ?_ | refine blk_alloc ?_ _)); exact BK233.out⟩, ⟨by repeat (first | (with_reducible first | exact HB.out | apply below_alloc | apply pw_below_drewN | apply below_drew1 | refine below_set ?_ GE232.out | refine below_set ?_ GE233.out) | exact HB.out)⟩⟩
      · rw [if_neg c17] at H
        have c17b0 : (a0_0 == 3) = false := beq_eq_false_iff_ne.mpr c17
        have c17b1 : (a0_0 != 3) = true := bne_iff_ne.mpr c17
        by_cases c18 : a0_0 = 2
        · rw [if_pos c18] at H
          have c18b0 : (a0_0 == 2) = true := beq_iff_eq.mpr c18; have c18b1 : (a0_0 != 2) = false := bne_eq_false_iff_eq.mpr c18; clear c18; have H' := Aside0.mk H; clear H; go_wp2; go_meet
          case rel => exact ⟨_, (255), (by first | rfl | (simp; done) | (simp [*]; done)), H', ⟨by first | omega | exact Nat.le_refl _⟩, ⟨by (with_reducible repeat (first | refine blk_drewN ?_ _ | refine blk_drew ?_ | refine blk_alloc ?_ _)); exact BK232.out⟩, ⟨by (with_reducible repeat (first | refine blk_drewN ?_ _ | refine blk_drew ?_ | refine blk_alloc ?_ _)); exact BK233.out⟩, ⟨by repeat (first | (with_reducible first | exact HB.out | apply below_alloc | apply pw_below_drewN | apply below_drew1 | refine below_set ?_ GE232.out | refine below_set ?_ GE233.out) | exact HB.out)⟩⟩
        · rw [if_neg c18] at H
          have c18b0 : (a0_0 == 2) = false := beq_eq_false_iff_ne.mpr c18; have c18b1 : (a0_0 != 2) = true := bne_iff_ne.mpr c18; obtain rfl := Option.some.inj H; go_wp2; go_ret; (exact ⟨by first | rfl | (simp [errW_none, errW_some] <;> rfl) | (simp [*, errW_none, errW_some] <;> rfl), by repeat (first | (with_reducible first | exact HB.out | apply below_alloc | apply pw_below_drewN | apply below_drew1 | refine below_set ?_ GE232.out | refine below_set ?_ GE233.out) | exact HB.out)⟩)
  case rest =>
    clear HC3
    try clear c1
    try clear p2
    try clear c5
    try clear c6
    try clear c7
    try clear c8
    try clear c8b0
    try clear c8b1
    try clear c10
    try clear c11
    try clear c14
    try clear c17
    try clear c17b0
    try clear c17b1
    try clear c18
    try clear c18b0
    try clear c18b1
    try clear hcz12_0
    try clear hcz12_1
    try clear hcz13_0
    try clear hcz13_1
    try clear hcz13_2
    try clear hcz13_3
    try clear hcz15_0
    try clear hcz15_1
    try clear hcz16_0
    try clear hcz16_1
    try clear hcz16_2
    try clear hcz16_3
    try clear hcz7_0
    try clear hcz7_1
    try clear hcz7_2
    try clear hcz7_3
    try clear hfz12_0
    try clear hfz12_1
    try clear hfz13_0
    try clear hfz13_1
    try clear hfz13_2
    try clear hfz13_3
    try clear hfz15_0
    try clear hfz15_1
    try clear hfz16_0
    try clear hfz16_1
    try clear hfz16_2
    try clear hfz16_3
    try clear hfz7_0
    try clear hfz7_1
    try clear hfz7_2
    try clear hfz7_3
    obtain ⟨kq, x5_2, rfl, HA, HJ2, BK232, BK233, HB⟩ := hcut
    cases kq with
    | zero => exact absurd HA.out (by simp [spec_FitsField.j0])
    | succ kj2 =>
      have H := HA.out
      clear HA
      simp only [spec_FitsField.j0] at H
      have H' := Aside0.mk H
      clear H
      go_wp2
      go_loopg [6] kj2 (fun kq v6 w' => ∃ (x6_2 : Int), v6 = .int .i64 x6_2 ∧ Aside0 (spec_FitsField.l0 kq x5_2 x6_2 a0_0 a0_1 a0_2 a0_3 a1_0 l1_1 = some r) ∧ Aside0 (kq ≤ kj2) ∧ Aside0 (w'.heap[gb232]? = some (.cells #[.int .i64 a0_0, .int .i64 a0_1, .int .i64 a0_2, .int .i64 a0_3] 67 (0, 0))) ∧ Aside0 (w'.heap[gb233]? = some (.cells #[.int .i64 a1_0, (.slice A1_1 l1_1.length c1_1)] 63 (0, 0))) ∧ Aside0 (Below w.heap.size w w'))
      case atStart => exact ⟨(0), (by first | rfl | (simp; done) | (simp [*]; done)), H', ⟨Nat.le_refl _⟩, ⟨by (with_reducible repeat (first | refine blk_drewN ?_ _ | refine blk_drew ?_ | refine blk_alloc ?_ _)); exact BK232.out⟩, ⟨by (with_reducible repeat (first | refine blk_drewN ?_ _ | refine blk_drew ?_ | refine blk_alloc ?_ _)); exact BK233.out⟩, ⟨by repeat (first | (with_reducible first | exact HB.out | apply below_alloc | apply pw_below_drewN | apply below_drew1 | refine below_set ?_ GE232.out | refine below_set ?_ GE233.out) | exact HB.out)⟩⟩
      case round =>
        clear H'
        try clear c1
        try clear p2
        try clear c5
        try clear c6
        try clear c7
        try clear c8
        try clear c8b0
        try clear c8b1
        try clear c10
        try clear c11
        try clear c14
        try clear c17
        try clear c17b0
        try clear c17b1
        try clear c18
        try clear c18b0
        try clear c18b1
        try clear hcz12_0
        try clear hcz12_1
        try clear hcz13_0
        try clear hcz13_1
        try clear hcz13_2
        try clear hcz13_3
        try clear hcz15_0
        try clear hcz15_1
        try clear hcz16_0
        try clear hcz16_1
        try clear hcz16_2
        try clear hcz16_3
        try clear hcz7_0
        try clear hcz7_1
        try clear hcz7_2
        try clear hcz7_3
        try clear hfz12_0
        try clear hfz12_1
        try clear hfz13_0
        try clear hfz13_1
        try clear hfz13_2
        try clear hfz13_3
        try clear hfz15_0
        try clear hfz15_1
        try clear hfz16_0
        try clear hfz16_1
        try clear hfz16_2
        try clear hfz16_3
        try clear hfz7_0
        try clear hfz7_1
        try clear hfz7_2
        try clear hfz7_3
        try clear p2
        obtain ⟨x6_2, rfl, HA, HK2, BK232, BK233, HB⟩ := hrel
        cases gk with
        | zero => exact absurd HA.out (by simp [spec_FitsField.l0])
        | succ k2 =>
          have H := HA.out; clear HA; simp only [spec_FitsField.l0] at H; by_cases c19 : x6_2 < (l1_1.length : Int)
          · rw [if_pos c19] at H
            have c19b0 : decide (x6_2 < (l1_1.length : Int)) = true := decide_eq_true c19; clear c19; by_cases c20 : 0 ≤ x6_2
            · rw [if_pos c20] at H
              have c20b0 : decide (0 ≤ x6_2) = true := decide_eq_true c20; clear c20; replace H := Option.bind_eq_some_iff.mp H; obtain ⟨t236, A210, H⟩ := H; replace H : (if t236 = true then (spec_FitsField.l0 k2 x5_2 (wrap64 (x6_2 + 1)) a0_0 a0_1 a0_2 a0_3 a1_0 l1_1) else (some false)) = some r := H; have A21 := Aside0.mk A210; clear A210; by_cases c22 : t236 = true
              · subst c22
                (have H1 : (spec_FitsField.l0 k2 x5_2 (wrap64 (x6_2 + 1)) a0_0 a0_1 a0_2 a0_3 a1_0 l1_1) = some r := by rw [if_pos rfl] at H; exact H); clear H; have H := H1; clear H1; have H' := Aside0.mk H; clear H; have hnb23 := NB233_232.out; have hnc23 := NB232_233.out; obtain ⟨hcz24_0, hcz24_1, hfz24_0, hfz24_1⟩ := zc2 BK233.out; (have p235 : 0 ≤ (x6_2 : Int) := of_decide_eq_true (by assumption)); (have q235 : x6_2 < (l1_1.length : Int) := of_decide_eq_true (by assumption)); obtain ⟨ad235, e235, hx235_0⟩ := Kd.at_int HR1_1.out x6_2 p235 q235; cases e235; replace hx235_0 := hC HB.out hx235_0; replace p235 := eq_true p235; replace q235 := eq_true q235; (go_wp2_with (first | ((with_reducible refine gate_callee (f := 59) rfl ?_); refine gL 39 Try.func59 #[.int .i64 (rd l1_1 x6_2), .int .i64 0, .int .i64 x5_2] ?_; (with_reducible refine (spec_l1In.calls (rd l1_1 x6_2) 0 x5_2 true _ A21.out).mono ?_); rintro e w' ⟨rfl, ⟨nd, rfl⟩⟩; refine ⟨_, rfl, ?_⟩))); go_roundg k2
                case measure => have := HJ2.out; have := HK2.out; omega
                case rel => exact ⟨(wrap64 (x6_2 + 1)), (by first | rfl | (simp; done) | (simp [*]; done)), H', ⟨by have := HJ2.out; have := HK2.out; omega⟩, ⟨by (with_reducible repeat (first | refine blk_drewN ?_ _ | refine blk_drew ?_ | refine blk_alloc ?_ _)); exact BK232.out⟩, ⟨by (with_reducible repeat (first | refine blk_drewN ?_ _ | refine blk_drew ?_ | refine blk_alloc ?_ _)); exact BK233.out⟩, ⟨by repeat (first | (with_reducible first | exact HB.out | apply below_alloc | apply pw_below_drewN | apply below_drew1 | refine below_set ?_ GE232.out | refine below_set ?_ GE233.out) | exact HB.out)⟩⟩
              · replace c22 := Bool.eq_false_iff.mpr c22; subst c22; (have H1 : (some false) = some r := by rw [if_neg (show ¬ (false = true) by decide)] at H; exact H); clear H; have H := H1; clear H1; obtain rfl := Option.some.inj H; have hnb25 := NB233_232.out; have hnc25 := NB232_233.out; obtain ⟨hcz26_0, hcz26_1, hfz26_0, hfz26_1⟩ := zc2 BK233.out; (have p235 : 0 ≤ (x6_2 : Int) := of_decide_eq_true (by assumption)); (have q235 : x6_2 < (l1_1.length : Int) := of_decide_eq_true (by assumption)); obtain ⟨ad235, e235, hx235_0⟩ := Kd.at_int HR1_1.out x6_2 p235 q235; cases e235; replace hx235_0 := hC HB.out hx235_0; replace p235 := eq_true p235; replace q235 := eq_true q235; (go_wp2_with (first | ((with_reducible refine gate_callee (f := 59) rfl ?_); refine gL 39 Try.func59 #[.int .i64 (rd l1_1 x6_2), .int .i64 0, .int .i64 x5_2] ?_; (with_reducible refine (spec_l1In.calls (rd l1_1 x6_2) 0 x5_2 false _ A21.out).mono ?_); rintro e w' ⟨rfl, ⟨nd, rfl⟩⟩; refine ⟨_, rfl, ?_⟩))); go_ret; (exact ⟨by first | rfl | (simp [errW_none, errW_some] <;> rfl) | (simp [*, errW_none, errW_some] <;> rfl), by repeat (first | (with_reducible first | exact HB.out | apply below_alloc | apply pw_below_drewN | apply below_drew1 | refine below_set ?_ GE232.out | refine below_set ?_ GE233.out) | exact HB.out)⟩)
            · rw [if_neg c20] at H; (exact absurd H (by simp))
          · rw [if_neg c19] at H
            have c19b0 : decide (x6_2 < (l1_1.length : Int)) = false := decide_eq_false c19; clear c19; by_cases c27 : a1_0 = 0; (· rw [if_pos c27] at H; have c27b0 : (a1_0 == 0) = true := beq_iff_eq.mpr c27; have c27b1 : (a1_0 != 0) = false := bne_eq_false_iff_eq.mpr c27; clear c27; obtain rfl := Option.some.inj H; have hnb28 := NB233_232.out; have hnc28 := NB232_233.out; obtain ⟨hcz29_0, hcz29_1, hfz29_0, hfz29_1⟩ := zc2 BK233.out; obtain ⟨hcz30_0, hcz30_1, hcz30_2, hcz30_3, hfz30_0, hfz30_1, hfz30_2, hfz30_3⟩ := zc4 BK232.out; go_wp2; go_ret; (exact ⟨by first | rfl | (simp [errW_none, errW_some] <;> rfl) | (simp [*, errW_none, errW_some] <;> rfl), by repeat (first | (with_reducible first | exact HB.out | apply below_alloc | apply pw_below_drewN | apply below_drew1 | refine below_set ?_ GE232.out | refine below_set ?_ GE233.out) | exact HB.out)⟩)); (· rw [if_neg c27] at H; have c27b0 : (a1_0 == 0) = false := beq_eq_false_iff_ne.mpr c27; have c27b1 : (a1_0 != 0) = true := bne_iff_ne.mpr c27; obtain rfl := Option.some.inj H; have hnb31 := NB233_232.out; have hnc31 := NB232_233.out; obtain ⟨hcz32_0, hcz32_1, hfz32_0, hfz32_1⟩ := zc2 BK233.out; go_wp2; go_ret; (exact ⟨by first | rfl | (simp [errW_none, errW_some] <;> rfl) | (simp [*, errW_none, errW_some] <;> rfl), by repeat (first | (with_reducible first | exact HB.out | apply below_alloc | apply pw_below_drewN | apply below_drew1 | refine below_set ?_ GE232.out | refine below_set ?_ GE233.out) | exact HB.out)⟩))

end Go.Proofs.Ythgikmgdgibimaa.QFnExactEncodeMessage
