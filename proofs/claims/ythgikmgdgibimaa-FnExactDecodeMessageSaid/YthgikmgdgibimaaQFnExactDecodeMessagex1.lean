/- Each Go function that the law reaches, told as a plain Lean function, and the proof that the machine's call answers just that. No condition beyond those that each theorem names. -/
import Derived.Test.YthgikmgdgibimaaQFnExactDecodeMessagex0
namespace Go.Proofs.Ythgikmgdgibimaa.QFnExactDecodeMessage
open Go.RowKit Go.Proofs.YthgikmgdgibimaaW.PrintWords Go.Proofs.YthgikmgdgibimaaW.PrintLast Go.Proofs.YthgikmgdgibimaaW.PrintMore
attribute [local go_sem] max2_int min2_int max_two min_two max_three min_three max_four min_four   -- for this text's walks alone
set_option linter.unusedVariables false
set_option linter.unusedSimpArgs false

/-! ### impl_InRange: function 60 -/
def impl_InRange.f (a0 : Int) (a1 : Int) (a2 : Int) : Option (Bool) := if a1 ≤ a0 then (some (decide (a0 ≤ a2))) else (some false)
set_option maxHeartbeats 8000000 in
set_option maxRecDepth 100000 in
theorem impl_InRange.calls (a0 : Int) (a1 : Int) (a2 : Int) (r : Bool) (w : World) (h : impl_InRange.f a0 a1 a2 = some r) :
    Calls Try.prog 60 #[.int .i64 a0, .int .i64 a1, .int .i64 a2] w fun e w' => e = .returned (.bool r) ∧ Drawn0 w w' := by
  have H : (if a1 ≤ a0 then (some (decide (a0 ≤ a2))) else (some false)) = some r := h
  clear h
  by_cases c4 : a1 ≤ a0
  · rw [if_pos c4] at H
    have c4b0 : decide (a1 ≤ a0) = true := decide_eq_true c4
    clear c4
    obtain rfl := Option.some.inj H
    go_enter Try.func60, Try.ntmps60
    go_wp2
    go_ret
    exact ⟨by first | rfl | (simp; done) | (simp [*]; done), by repeat (first | exact Drawn0.refl _ | apply Drawn0.step)⟩
  · rw [if_neg c4] at H
    have c4b0 : decide (a1 ≤ a0) = false := decide_eq_false c4
    clear c4
    obtain rfl := Option.some.inj H
    go_enter Try.func60, Try.ntmps60
    go_wp2
    go_ret
    exact ⟨by first | rfl | (simp; done) | (simp [*]; done), by repeat (first | exact Drawn0.refl _ | apply Drawn0.step)⟩

/-! ### impl_isField: function 71 -/
mutual
def impl_isField.j0 : Nat → List (S67) → Int → Int → Int → Int → Int → Option (Bool)
  | 0, _, _, _, _, _, _ => none
  | k + 1, x1, x5, x102000, x102001, x102002, x102003 => (impl_InRange.f x102000 1 3).bind fun t102 => (if t102 = true then ((impl_InRange.f x102001 1 x5).bind fun t103 => (impl_isField.j1 k x1 (!t103) x102000 x102001 x102002 x102003)) else (impl_isField.j1 k x1 true x102000 x102001 x102002 x102003))
def impl_isField.j1 : Nat → List (S67) → Bool → Int → Int → Int → Int → Option (Bool)
  | 0, _, _, _, _, _, _ => none
  | k + 1, x1, x20, x102000, x102001, x102002, x102003 => if x20 = true then (some false) else (if x102002 = (-1) then (some (x102003 == 0)) else ((impl_InRange.f x102002 0 (wrap64 ((x1.length : Int) - 1))).bind fun t104 => (if t104 = true then (if 0 ≤ x102002 then (if x102002 < (x1.length : Int) then (if ((rd_T67 x1 x102002).f0) = 1 then (if ((rd_T67 x1 x102002).f2) = (-1) then ((impl_InRange.f x102003 0 ((rd_T67 x1 x102002).f1)).bind fun t107 => (some t107)) else (some false)) else (some false)) else (none)) else (none)) else (some false))))
end
def impl_isField.f (k : Nat) (a0_0 : Int) (a0_1 : Int) (a0_2 : Int) (a0_3 : Int) (l1 : List (S67)) : Option (Bool) := if a0_0 = 1 then (impl_isField.j0 k l1 99 a0_0 a0_1 a0_2 a0_3) else (impl_isField.j0 k l1 5 a0_0 a0_1 a0_2 a0_3)
theorem impl_isField.mono_l : ∀ k, (∀ y0 y1 y2 y3 y4 y5, LeO (impl_isField.j0 k y0 y1 y2 y3 y4 y5) (impl_isField.j0 (k + 1) y0 y1 y2 y3 y4 y5)) ∧ (∀ y0 y1 y2 y3 y4 y5, LeO (impl_isField.j1 k y0 y1 y2 y3 y4 y5) (impl_isField.j1 (k + 1) y0 y1 y2 y3 y4 y5))
  | 0 => ⟨fun _ _ _ _ _ _ r h => by simp [impl_isField.j0] at h, fun _ _ _ _ _ _ r h => by simp [impl_isField.j1] at h⟩
  | k + 1 => by
    obtain ⟨ih0, ih1⟩ := impl_isField.mono_l k
    refine ⟨?_, ?_⟩
    · intro y0 y1 y2 y3 y4 y5
      unfold impl_isField.j0
      repeat' first
      | (with_reducible exact ih0 _ _ _ _ _ _)
      | (with_reducible exact ih1 _ _ _ _ _ _)
      | (with_reducible exact LeO.refl _)
      | (with_reducible exact LeO.none _)
      | (with_reducible refine LeO.ite ?_ ?_)
      | (with_reducible refine LeO.bind ?_ (fun _ => ?_))
      | exact ih0 _ _ _ _ _ _
      | exact ih1 _ _ _ _ _ _
      | exact LeO.none _
      | refine LeO.ite ?_ ?_
      | refine LeO.bind ?_ (fun _ => ?_)
    · intro y0 y1 y2 y3 y4 y5
      unfold impl_isField.j1
      repeat' first
      | (with_reducible exact ih0 _ _ _ _ _ _)
      | (with_reducible exact ih1 _ _ _ _ _ _)
      | (with_reducible exact LeO.refl _)
      | (with_reducible exact LeO.none _)
      | (with_reducible refine LeO.ite ?_ ?_)
      | (with_reducible refine LeO.bind ?_ (fun _ => ?_))
      | exact ih0 _ _ _ _ _ _
      | exact ih1 _ _ _ _ _ _
      | exact LeO.none _
      | refine LeO.ite ?_ ?_
      | refine LeO.bind ?_ (fun _ => ?_)
theorem impl_isField.mono : ∀ a0 a1 a2 a3 a4 k, LeO (impl_isField.f k a0 a1 a2 a3 a4) (impl_isField.f (k + 1) a0 a1 a2 a3 a4) := by
  intro a0 a1 a2 a3 a4 k
  obtain ⟨ih0, ih1⟩ := impl_isField.mono_l k
  unfold impl_isField.f
  repeat' first
      | (with_reducible exact ih0 _ _ _ _ _ _)
      | (with_reducible exact ih1 _ _ _ _ _ _)
      | (with_reducible exact LeO.refl _)
      | (with_reducible exact LeO.none _)
      | (with_reducible refine LeO.ite ?_ ?_)
      | (with_reducible refine LeO.bind ?_ (fun _ => ?_))
      | exact ih0 _ _ _ _ _ _
      | exact ih1 _ _ _ _ _ _
      | exact LeO.none _
      | refine LeO.ite ?_ ?_
      | refine LeO.bind ?_ (fun _ => ?_)
set_option maxHeartbeats 8000000 in
set_option maxRecDepth 100000 in
theorem impl_isField.calls (k : Nat) (a0_0 : Int) (a0_1 : Int) (a0_2 : Int) (a0_3 : Int) (A1 : Option Addr) (c1 : Nat) (l1 : List (S67)) (r : Bool) (w : World) (hr1 : Kd.C k67 w A1 l1.length l1) (hc1 : l1.length ≤ c1) (h : impl_isField.f k a0_0 a0_1 a0_2 a0_3 l1 = some r) :
    Calls Try.prog 71 #[.agg #[.int .i64 a0_0, .int .i64 a0_1, .int .i64 a0_2, .int .i64 a0_3], .slice A1 l1.length c1] w fun e w' => e = .returned (.bool r) ∧ Below w.heap.size w w' := by
  have hu67 := Try.underlying67
  have HR1 := Aside0.mk hr1
  have HC1 := Aside0.mk hc1
  clear hr1 hc1
  have HB := Aside0.mk (Below.refl w.heap.size w)
  have H : (if a0_0 = 1 then (impl_isField.j0 k l1 99 a0_0 a0_1 a0_2 a0_3) else (impl_isField.j0 k l1 5 a0_0 a0_1 a0_2 a0_3)) = some r := h
  clear h
  have HC3 := Aside0.mk H
  clear H
  go_enter Try.func71, Try.ntmps71
  go_upto_if 9 with (first | ((with_reducible refine gate_dst (N := 2) rfl ?_); refine box_event ?hg (N := 2) ?hd (cs := #[.int .i64 a0_0, .int .i64 a0_1, .int .i64 a0_2, .int .i64 a0_3]) (t := 67) ?hr ?_; (case hd => rfl); (case hg => rfl); (case hr => first | (go_simp; done) | (go_simp; rfl)); intro gb101 hg w4 hbox hb; have n0_ := bS hb; have n1_ := Aside0.mk (hbox); have n2_ : Aside0 (w.heap.size ≤ gb101) := bZ hg; have n3_ : Aside0 (w.heap.size ≤ gb101) := bZ hg; clear HB; have HB := n0_; have BK101 := n1_; have GW101 := n2_; have GE101 := n3_; clear n0_ n1_ n2_ n3_; clear hb hbox hg; obtain ⟨hcz5_0, hcz5_1, hcz5_2, hcz5_3, hfz5_0, hfz5_1, hfz5_2, hfz5_3⟩ := zc4 BK101.out))
  (try simp only [Act.put, sT, sZ, sS])
  go_cut [5] (fun v5 wc => ∃ (kq : Nat) (x5_2 : Int), v5 = .int .i64 x5_2 ∧ Aside0 (impl_isField.j0 kq l1 x5_2 a0_0 a0_1 a0_2 a0_3 = some r) ∧ Aside0 (kq ≤ k) ∧ Aside0 (wc.heap[gb101]? = some (.cells #[.int .i64 a0_0, .int .i64 a0_1, .int .i64 a0_2, .int .i64 a0_3] 67 (0, 0))) ∧ Aside0 (Below w.heap.size w wc))
  case first =>
    have H := HC3.out
    clear HC3
    by_cases c6 : a0_0 = 1
    · rw [if_pos c6] at H
      have c6b0 : (a0_0 == 1) = true := beq_iff_eq.mpr c6
      have c6b1 : (a0_0 != 1) = false := bne_eq_false_iff_eq.mpr c6
      clear c6
      (first | rw [c6b0] | (simp only [i64_w, i32_w]; rw [c6b0]) | skip)
      have H' := Aside0.mk H
      clear H
      go_wp2
      go_meet
      case rel => exact ⟨_, (99), (by first | rfl | (simp; done) | (simp [*]; done)), H', ⟨by first | omega | exact Nat.le_refl _⟩, ⟨by (with_reducible repeat (first | refine blk_drewN ?_ _ | refine blk_drew ?_ | refine blk_alloc ?_ _)); exact BK101.out⟩, ⟨by repeat (first | (with_reducible first | exact HB.out | apply below_alloc | apply pw_below_drewN | apply below_drew1 | refine below_set ?_ GE101.out) | exact HB.out)⟩⟩
    · rw [if_neg c6] at H
      have c6b0 : (a0_0 == 1) = false := beq_eq_false_iff_ne.mpr c6
      have c6b1 : (a0_0 != 1) = true := bne_iff_ne.mpr c6
      (first | rw [c6b0] | (simp only [i64_w, i32_w]; rw [c6b0]) | skip)
      have H' := Aside0.mk H
      clear H
      go_wp2
      go_meet
      case rel => exact ⟨_, (5), (by first | rfl | (simp; done) | (simp [*]; done)), H', ⟨by first | omega | exact Nat.le_refl _⟩, ⟨by (with_reducible repeat (first | refine blk_drewN ?_ _ | refine blk_drew ?_ | refine blk_alloc ?_ _)); exact BK101.out⟩, ⟨by repeat (first | (with_reducible first | exact HB.out | apply below_alloc | apply pw_below_drewN | apply below_drew1 | refine below_set ?_ GE101.out) | exact HB.out)⟩⟩
  case rest =>
    clear HC3
    try clear c1
    try clear p2
    try clear c6
    try clear c6b0
    try clear c6b1
    try clear hcz5_0
    try clear hcz5_1
    try clear hcz5_2
    try clear hcz5_3
    try clear hfz5_0
    try clear hfz5_1
    try clear hfz5_2
    try clear hfz5_3
    obtain ⟨kq, x5_2, rfl, HA, HJ2, BK101, HB⟩ := hcut
    cases kq with
    | zero => exact absurd HA.out (by simp [impl_isField.j0])
    | succ kj2 =>
      have H := HA.out
      clear HA
      simp only [impl_isField.j0] at H
      have HC7 := Aside0.mk H
      clear H
      go_upto_region 4 with (fail)
      go_cut [20] (fun v20 wc => ∃ (kq : Nat) (x20_6 : Bool), v20 = .bool x20_6 ∧ Aside0 (impl_isField.j1 kq l1 x20_6 a0_0 a0_1 a0_2 a0_3 = some r) ∧ Aside0 (kq ≤ kj2) ∧ Aside0 (wc.heap[gb101]? = some (.cells #[.int .i64 a0_0, .int .i64 a0_1, .int .i64 a0_2, .int .i64 a0_3] 67 (0, 0))) ∧ Aside0 (Below w.heap.size w wc))
      case first =>
        have H := HC7.out
        clear HC7
        replace H := Option.bind_eq_some_iff.mp H
        obtain ⟨t102, A80, H⟩ := H
        replace H : (if t102 = true then ((impl_InRange.f a0_1 1 x5_2).bind fun t103 => (impl_isField.j1 kj2 l1 (!t103) a0_0 a0_1 a0_2 a0_3)) else (impl_isField.j1 kj2 l1 true a0_0 a0_1 a0_2 a0_3)) = some r := H
        have A8 := Aside0.mk A80
        clear A80
        by_cases c9 : t102 = true
        · subst c9
          (have H1 : ((impl_InRange.f a0_1 1 x5_2).bind fun t103 => (impl_isField.j1 kj2 l1 (!t103) a0_0 a0_1 a0_2 a0_3)) = some r := by rw [if_pos rfl] at H; exact H); clear H; have H := H1; clear H1; replace H := Option.bind_eq_some_iff.mp H; obtain ⟨t103, A100, H⟩ := H; replace H : (impl_isField.j1 kj2 l1 (!t103) a0_0 a0_1 a0_2 a0_3) = some r := H; have A10 := Aside0.mk A100; clear A100; have H' := Aside0.mk H; clear H; obtain ⟨hcz11_0, hcz11_1, hcz11_2, hcz11_3, hfz11_0, hfz11_1, hfz11_2, hfz11_3⟩ := zc4 BK101.out; (go_wp2_with (first | ((with_reducible refine gate_callee (f := 60) rfl ?_); refine gL 12 Try.func60 #[.int .i64 a0_0, .int .i64 1, .int .i64 3] ?_; (with_reducible refine (impl_InRange.calls a0_0 1 3 true _ A8.out).mono ?_); rintro e w' ⟨rfl, ⟨nd, rfl⟩⟩; refine ⟨_, rfl, ?_⟩) | (go_at_call 60; (with_reducible refine (impl_InRange.calls a0_1 1 x5_2 t103 _ A10.out).mono ?_); rintro e w' ⟨rfl, ⟨nd, rfl⟩⟩))); go_meet
          case rel => exact ⟨_, (!t103), (by first | rfl | (simp; done) | (simp [*]; done)), H', ⟨by have := HJ2.out; first | omega | exact Nat.le_refl _⟩, ⟨by (with_reducible repeat (first | refine blk_drewN ?_ _ | refine blk_drew ?_ | refine blk_alloc ?_ _)); exact BK101.out⟩, ⟨by repeat (first | (with_reducible first | exact HB.out | apply below_alloc | apply pw_below_drewN | apply below_drew1 | refine below_set ?_ GE101.out) | exact HB.out)⟩⟩
        · replace c9 := Bool.eq_false_iff.mpr c9
          subst c9; (have H1 : (impl_isField.j1 kj2 l1 true a0_0 a0_1 a0_2 a0_3) = some r := by rw [if_neg (show ¬ (false = true) by decide)] at H; exact H); clear H; have H := H1; clear H1; have H' := Aside0.mk H; clear H; obtain ⟨hcz12_0, hcz12_1, hcz12_2, hcz12_3, hfz12_0, hfz12_1, hfz12_2, hfz12_3⟩ := zc4 BK101.out; (go_wp2_with (first | ((with_reducible refine gate_callee (f := 60) rfl ?_); refine gL 12 Try.func60 #[.int .i64 a0_0, .int .i64 1, .int .i64 3] ?_; (with_reducible refine (impl_InRange.calls a0_0 1 3 false _ A8.out).mono ?_); rintro e w' ⟨rfl, ⟨nd, rfl⟩⟩; refine ⟨_, rfl, ?_⟩))); go_meet
          case rel => exact ⟨_, (true), (by first | rfl | (simp; done) | (simp [*]; done)), H', ⟨by have := HJ2.out; first | omega | exact Nat.le_refl _⟩, ⟨by (with_reducible repeat (first | refine blk_drewN ?_ _ | refine blk_drew ?_ | refine blk_alloc ?_ _)); exact BK101.out⟩, ⟨by repeat (first | (with_reducible first | exact HB.out | apply below_alloc | apply pw_below_drewN | apply below_drew1 | refine below_set ?_ GE101.out) | exact HB.out)⟩⟩
      case rest =>
        clear HC7
        try clear c1
        try clear p2
        try clear c6
        try clear c6b0
        try clear c6b1
        try clear c7
        try clear c9
        try clear hcz11_0
        try clear hcz11_1
        try clear hcz11_2
        try clear hcz11_3
        try clear hcz12_0
        try clear hcz12_1
        try clear hcz12_2
        try clear hcz12_3
        try clear hcz5_0
        try clear hcz5_1
        try clear hcz5_2
        try clear hcz5_3
        try clear hfz11_0
        try clear hfz11_1
        try clear hfz11_2
        try clear hfz11_3
        try clear hfz12_0
        try clear hfz12_1
        try clear hfz12_2
        try clear hfz12_3
        try clear hfz5_0
        try clear hfz5_1
        try clear hfz5_2
        try clear hfz5_3
        try clear p2
        obtain ⟨kq, x20_6, rfl, HA, HJ6, BK101, HB⟩ := hcut
        cases kq with
        | zero => exact absurd HA.out (by simp [impl_isField.j1])
        | succ kj6 =>
          have H := HA.out; clear HA; simp only [impl_isField.j1] at H; by_cases c13 : x20_6 = true; (· subst c13; (have H1 : (some false) = some r := by rw [if_pos rfl] at H; exact H); clear H; have H := H1; clear H1; obtain rfl := Option.some.inj H; go_wp2; go_ret; (exact ⟨by first | rfl | (simp [errW_none, errW_some] <;> rfl) | (simp [*, errW_none, errW_some] <;> rfl), by repeat (first | (with_reducible first | exact HB.out | apply below_alloc | apply pw_below_drewN | apply below_drew1 | refine below_set ?_ GE101.out) | exact HB.out)⟩))
          · replace c13 := Bool.eq_false_iff.mpr c13
            (subst c13; (have H1 : (if a0_2 = (-1) then (some (a0_3 == 0)) else ((impl_InRange.f a0_2 0 (wrap64 ((l1.length : Int) - 1))).bind fun t104 => (if t104 = true then (if 0 ≤ a0_2 then (if a0_2 < (l1.length : Int) then (if ((rd_T67 l1 a0_2).f0) = 1 then (if ((rd_T67 l1 a0_2).f2) = (-1) then ((impl_InRange.f a0_3 0 ((rd_T67 l1 a0_2).f1)).bind fun t107 => (some t107)) else (some false)) else (some false)) else (none)) else (none)) else (some false)))) = some r := by rw [if_neg (show ¬ (false = true) by decide)] at H; exact H); clear H; have H := H1; clear H1; by_cases c14 : a0_2 = (-1)); (· rw [if_pos c14] at H; have c14b0 : (a0_2 == (-1)) = true := beq_iff_eq.mpr c14; have c14b1 : (a0_2 != (-1)) = false := bne_eq_false_iff_eq.mpr c14; clear c14; obtain rfl := Option.some.inj H; obtain ⟨hcz15_0, hcz15_1, hcz15_2, hcz15_3, hfz15_0, hfz15_1, hfz15_2, hfz15_3⟩ := zc4 BK101.out; go_wp2; go_ret; (exact ⟨by first | rfl | (simp [errW_none, errW_some] <;> rfl) | (simp [*, errW_none, errW_some] <;> rfl), by repeat (first | (with_reducible first | exact HB.out | apply below_alloc | apply pw_below_drewN | apply below_drew1 | refine below_set ?_ GE101.out) | exact HB.out)⟩))
            · rw [if_neg c14] at H
              have c14b0 : (a0_2 == (-1)) = false := beq_eq_false_iff_ne.mpr c14; have c14b1 : (a0_2 != (-1)) = true := bne_iff_ne.mpr c14; replace H := Option.bind_eq_some_iff.mp H; obtain ⟨t104, A160, H⟩ := H; replace H : (if t104 = true then (if 0 ≤ a0_2 then (if a0_2 < (l1.length : Int) then (if ((rd_T67 l1 a0_2).f0) = 1 then (if ((rd_T67 l1 a0_2).f2) = (-1) then ((impl_InRange.f a0_3 0 ((rd_T67 l1 a0_2).f1)).bind fun t107 => (some t107)) else (some false)) else (some false)) else (none)) else (none)) else (some false)) = some r := H; have A16 := Aside0.mk A160; clear A160; by_cases c17 : t104 = true
              · subst c17
                (have H1 : (if 0 ≤ a0_2 then (if a0_2 < (l1.length : Int) then (if ((rd_T67 l1 a0_2).f0) = 1 then (if ((rd_T67 l1 a0_2).f2) = (-1) then ((impl_InRange.f a0_3 0 ((rd_T67 l1 a0_2).f1)).bind fun t107 => (some t107)) else (some false)) else (some false)) else (none)) else (none)) = some r := by rw [if_pos rfl] at H; exact H); clear H; have H := H1; clear H1; by_cases c18 : 0 ≤ a0_2
                · rw [if_pos c18] at H
                  have c18b0 : decide (0 ≤ a0_2) = true := decide_eq_true c18; clear c18; by_cases c19 : a0_2 < (l1.length : Int)
                  · rw [if_pos c19] at H
                    have c19b0 : decide (a0_2 < (l1.length : Int)) = true := decide_eq_true c19; clear c19; by_cases c20 : ((rd_T67 l1 a0_2).f0) = 1
                    · rw [if_pos c20] at H
                      have c20b0 : (((rd_T67 l1 a0_2).f0) == 1) = true := beq_iff_eq.mpr c20; have c20b1 : (((rd_T67 l1 a0_2).f0) != 1) = false := bne_eq_false_iff_eq.mpr c20; clear c20; by_cases c21 : ((rd_T67 l1 a0_2).f2) = (-1); (· rw [if_pos c21] at H; have c21b0 : (((rd_T67 l1 a0_2).f2) == (-1)) = true := beq_iff_eq.mpr c21; have c21b1 : (((rd_T67 l1 a0_2).f2) != (-1)) = false := bne_eq_false_iff_eq.mpr c21; clear c21; replace H := Option.bind_eq_some_iff.mp H; obtain ⟨t107, A220, H⟩ := H; replace H : (some t107) = some r := H; have A22 := Aside0.mk A220; clear A220; obtain rfl := Option.some.inj H; obtain ⟨hcz23_0, hcz23_1, hcz23_2, hcz23_3, hfz23_0, hfz23_1, hfz23_2, hfz23_3⟩ := zc4 BK101.out; (go_wp2_with (first | ((with_reducible refine gate_callee (f := 60) rfl ?_); refine gL 32 Try.func60 #[.int .i64 a0_2, .int .i64 0, .int .i64 (wrap64 ((l1.length : Int) - 1))] ?_; (with_reducible refine (impl_InRange.calls a0_2 0 (wrap64 ((l1.length : Int) - 1)) true _ A16.out).mono ?_); rintro e w' ⟨rfl, ⟨nd, rfl⟩⟩; refine ⟨_, rfl, ?_⟩; (try (rw [drewN_self wc]; generalize hq_ : World.drewN wc _ = wc; have n0_ : Aside0 (wc.heap[gb101]? = some (.cells #[.int .i64 a0_0, .int .i64 a0_1, .int .i64 a0_2, .int .i64 a0_3] 67 (0, 0))) := ⟨by rw [← hq_]; exact (by (with_reducible repeat (first | refine blk_drewN ?_ _ | refine blk_drew ?_ | refine blk_alloc ?_ _)); exact BK101.out)⟩; have n1_ : Aside0 (Below w.heap.size w wc) := ⟨by rw [← hq_]; exact (by repeat (first | (with_reducible first | exact HB.out | apply below_alloc | apply pw_below_drewN | apply below_drew1 | refine below_set ?_ GE101.out) | exact HB.out))⟩; clear BK101 HB hq_; have BK101 := n0_; have HB := n1_; clear n0_ n1_)); have hcy0_0 : wc.cell? ⟨gb101, 0, none⟩ = some (.int .i64 a0_0) := (blk_cell BK101.out 0).trans rfl; have hfy0_0 := blk_frozen BK101.out 0; have hcy0_1 : wc.cell? ⟨gb101, 1, none⟩ = some (.int .i64 a0_1) := (blk_cell BK101.out 1).trans rfl; have hfy0_1 := blk_frozen BK101.out 1; have hcy0_2 : wc.cell? ⟨gb101, 2, none⟩ = some (.int .i64 a0_2) := (blk_cell BK101.out 2).trans rfl; have hfy0_2 := blk_frozen BK101.out 2; have hcy0_3 : wc.cell? ⟨gb101, 3, none⟩ = some (.int .i64 a0_3) := (blk_cell BK101.out 3).trans rfl; have hfy0_3 := blk_frozen BK101.out 3; have p105 : 0 ≤ (a0_2 : Int) := of_decide_eq_true (by assumption); have q105 : a0_2 < (l1.length : Int) := of_decide_eq_true (by assumption); obtain ⟨ad105, e105, hx105_0, hx105_1, hx105_2, hx105_3⟩ := at_T67 HR1.out a0_2 p105 q105; cases e105; replace hx105_0 := hC HB.out hx105_0; replace hx105_1 := hC HB.out hx105_1; replace hx105_2 := hC HB.out hx105_2; replace hx105_3 := hC HB.out hx105_3; replace p105 := eq_true p105; replace q105 := eq_true q105) | ((with_reducible refine gate_dst (N := 6) rfl ?_); refine box_event ?hg (N := 6) ?hd (cs := #[.int .i64 0, .int .i64 0, .int .i64 0, .int .i64 0]) (t := 67) ?hr ?_; (case hd => rfl); (case hg => rfl); (case hr => first | (go_simp; done) | (go_simp; rfl)); intro gb106 hg w24 hbox hb; have n0_ := Aside0.mk (blk_below (g := gb101) (o := .cells #[.int .i64 a0_0, .int .i64 a0_1, .int .i64 a0_2, .int .i64 a0_3] 67 (0, 0)) (by (with_reducible repeat (first | refine blk_drewN ?_ _ | refine blk_drew ?_ | refine blk_alloc ?_ _)); exact BK101.out) hb); have n1_ := bS hb; have n2_ := Aside0.mk (hbox); have n3_ : Aside0 (w.heap.size ≤ gb106) := bZ hg; have n4_ : Aside0 (w.heap.size ≤ gb106) := bZ hg; have n5_ := Aside0.mk ((by rw [hg]; exact Nat.ne_of_lt (blk_lt (g := gb101) (o := .cells #[.int .i64 a0_0, .int .i64 a0_1, .int .i64 a0_2, .int .i64 a0_3] 67 (0, 0)) (by (with_reducible repeat (first | refine blk_drewN ?_ _ | refine blk_drew ?_ | refine blk_alloc ?_ _)); exact BK101.out)) : gb101 ≠ gb106)); have n6_ := Aside0.mk ((by rw [hg]; exact Nat.ne_of_gt (blk_lt (g := gb101) (o := .cells #[.int .i64 a0_0, .int .i64 a0_1, .int .i64 a0_2, .int .i64 a0_3] 67 (0, 0)) (by (with_reducible repeat (first | refine blk_drewN ?_ _ | refine blk_drew ?_ | refine blk_alloc ?_ _)); exact BK101.out)) : gb106 ≠ gb101)); clear BK101; clear HB; have BK101 := n0_; have HB := n1_; have BK106 := n2_; have GW106 := n3_; have GE106 := n4_; have NB101_106 := n5_; have NB106_101 := n6_; clear n0_ n1_ n2_ n3_ n4_ n5_ n6_; clear hb hbox hg; have hnb25 := NB106_101.out; have hnc25 := NB101_106.out; obtain ⟨hcz26_0, hcz26_1, hcz26_2, hcz26_3, hfz26_0, hfz26_1, hfz26_2, hfz26_3⟩ := zc4 BK106.out; obtain ⟨hcz27_0, hcz27_1, hcz27_2, hcz27_3, hfz27_0, hfz27_1, hfz27_2, hfz27_3⟩ := zc4 BK101.out) | (go_at_call 60; (with_reducible refine (impl_InRange.calls a0_3 0 ((rd_T67 l1 a0_2).f1) t107 _ A22.out).mono ?_); rintro e w' ⟨rfl, ⟨nd, rfl⟩⟩))); go_ret; (exact ⟨by first | rfl | (simp [errW_none, errW_some] <;> rfl) | (simp [*, errW_none, errW_some] <;> rfl), by repeat (first | (with_reducible first | exact HB.out | apply below_alloc | apply pw_below_drewN | apply below_drew1 | refine below_set ?_ GE101.out | refine below_set ?_ GE106.out) | exact HB.out)⟩)); (· rw [if_neg c21] at H; have c21b0 : (((rd_T67 l1 a0_2).f2) == (-1)) = false := beq_eq_false_iff_ne.mpr c21; have c21b1 : (((rd_T67 l1 a0_2).f2) != (-1)) = true := bne_iff_ne.mpr c21; obtain rfl := Option.some.inj H; obtain ⟨hcz28_0, hcz28_1, hcz28_2, hcz28_3, hfz28_0, hfz28_1, hfz28_2, hfz28_3⟩ := zc4 BK101.out; (go_wp2_with (first | ((with_reducible refine gate_callee (f := 60) rfl ?_); refine gL 32 Try.func60 #[.int .i64 a0_2, .int .i64 0, .int .i64 (wrap64 ((l1.length : Int) - 1))] ?_; (with_reducible refine (impl_InRange.calls a0_2 0 (wrap64 ((l1.length : Int) - 1)) true _ A16.out).mono ?_); rintro e w' ⟨rfl, ⟨nd, rfl⟩⟩; refine ⟨_, rfl, ?_⟩; (try (rw [drewN_self wc]; generalize hq_ : World.drewN wc _ = wc; have n0_ : Aside0 (wc.heap[gb101]? = some (.cells #[.int .i64 a0_0, .int .i64 a0_1, .int .i64 a0_2, .int .i64 a0_3] 67 (0, 0))) := ⟨by rw [← hq_]; exact (by (with_reducible repeat (first | refine blk_drewN ?_ _ | refine blk_drew ?_ | refine blk_alloc ?_ _)); exact BK101.out)⟩; have n1_ : Aside0 (Below w.heap.size w wc) := ⟨by rw [← hq_]; exact (by repeat (first | (with_reducible first | exact HB.out | apply below_alloc | apply pw_below_drewN | apply below_drew1 | refine below_set ?_ GE101.out) | exact HB.out))⟩; clear BK101 HB hq_; have BK101 := n0_; have HB := n1_; clear n0_ n1_)); have hcy0_0 : wc.cell? ⟨gb101, 0, none⟩ = some (.int .i64 a0_0) := (blk_cell BK101.out 0).trans rfl; have hfy0_0 := blk_frozen BK101.out 0; have hcy0_1 : wc.cell? ⟨gb101, 1, none⟩ = some (.int .i64 a0_1) := (blk_cell BK101.out 1).trans rfl; have hfy0_1 := blk_frozen BK101.out 1; have hcy0_2 : wc.cell? ⟨gb101, 2, none⟩ = some (.int .i64 a0_2) := (blk_cell BK101.out 2).trans rfl; have hfy0_2 := blk_frozen BK101.out 2; have hcy0_3 : wc.cell? ⟨gb101, 3, none⟩ = some (.int .i64 a0_3) := (blk_cell BK101.out 3).trans rfl; have hfy0_3 := blk_frozen BK101.out 3; have p105 : 0 ≤ (a0_2 : Int) := of_decide_eq_true (by assumption); have q105 : a0_2 < (l1.length : Int) := of_decide_eq_true (by assumption); obtain ⟨ad105, e105, hx105_0, hx105_1, hx105_2, hx105_3⟩ := at_T67 HR1.out a0_2 p105 q105; cases e105; replace hx105_0 := hC HB.out hx105_0; replace hx105_1 := hC HB.out hx105_1; replace hx105_2 := hC HB.out hx105_2; replace hx105_3 := hC HB.out hx105_3; replace p105 := eq_true p105; replace q105 := eq_true q105) | ((with_reducible refine gate_dst (N := 6) rfl ?_); refine box_event ?hg (N := 6) ?hd (cs := #[.int .i64 0, .int .i64 0, .int .i64 0, .int .i64 0]) (t := 67) ?hr ?_; (case hd => rfl); (case hg => rfl); (case hr => first | (go_simp; done) | (go_simp; rfl)); intro gb106 hg w29 hbox hb; have n0_ := Aside0.mk (blk_below (g := gb101) (o := .cells #[.int .i64 a0_0, .int .i64 a0_1, .int .i64 a0_2, .int .i64 a0_3] 67 (0, 0)) (by (with_reducible repeat (first | refine blk_drewN ?_ _ | refine blk_drew ?_ | refine blk_alloc ?_ _)); exact BK101.out) hb); have n1_ := bS hb; have n2_ := Aside0.mk (hbox); have n3_ : Aside0 (w.heap.size ≤ gb106) := bZ hg; have n4_ : Aside0 (w.heap.size ≤ gb106) := bZ hg; have n5_ := Aside0.mk ((by rw [hg]; exact Nat.ne_of_lt (blk_lt (g := gb101) (o := .cells #[.int .i64 a0_0, .int .i64 a0_1, .int .i64 a0_2, .int .i64 a0_3] 67 (0, 0)) (by (with_reducible repeat (first | refine blk_drewN ?_ _ | refine blk_drew ?_ | refine blk_alloc ?_ _)); exact BK101.out)) : gb101 ≠ gb106)); have n6_ := Aside0.mk ((by rw [hg]; exact Nat.ne_of_gt (blk_lt (g := gb101) (o := .cells #[.int .i64 a0_0, .int .i64 a0_1, .int .i64 a0_2, .int .i64 a0_3] 67 (0, 0)) (by (with_reducible repeat (first | refine blk_drewN ?_ _ | refine blk_drew ?_ | refine blk_alloc ?_ _)); exact BK101.out)) : gb106 ≠ gb101)); clear BK101; clear HB; have BK101 := n0_; have HB := n1_; have BK106 := n2_; have GW106 := n3_; have GE106 := n4_; have NB101_106 := n5_; have NB106_101 := n6_; clear n0_ n1_ n2_ n3_ n4_ n5_ n6_; clear hb hbox hg; have hnb30 := NB106_101.out; have hnc30 := NB101_106.out; obtain ⟨hcz31_0, hcz31_1, hcz31_2, hcz31_3, hfz31_0, hfz31_1, hfz31_2, hfz31_3⟩ := zc4 BK106.out))); go_ret; (exact ⟨by first | rfl | (simp [errW_none, errW_some] <;> rfl) | (simp [*, errW_none, errW_some] <;> rfl), by repeat (first | (with_reducible first | exact HB.out | apply below_alloc | apply pw_below_drewN | apply below_drew1 | refine below_set ?_ GE101.out | refine below_set ?_ GE106.out) | exact HB.out)⟩))
                    · rw [if_neg c20] at H; have c20b0 : (((rd_T67 l1 a0_2).f0) == 1) = false := beq_eq_false_iff_ne.mpr c20; have c20b1 : (((rd_T67 l1 a0_2).f0) != 1) = true := bne_iff_ne.mpr c20; obtain rfl := Option.some.inj H; obtain ⟨hcz32_0, hcz32_1, hcz32_2, hcz32_3, hfz32_0, hfz32_1, hfz32_2, hfz32_3⟩ := zc4 BK101.out; (go_wp2_with (first | ((with_reducible refine gate_callee (f := 60) rfl ?_); refine gL 32 Try.func60 #[.int .i64 a0_2, .int .i64 0, .int .i64 (wrap64 ((l1.length : Int) - 1))] ?_; (with_reducible refine (impl_InRange.calls a0_2 0 (wrap64 ((l1.length : Int) - 1)) true _ A16.out).mono ?_); rintro e w' ⟨rfl, ⟨nd, rfl⟩⟩; refine ⟨_, rfl, ?_⟩; (try (rw [drewN_self wc]; generalize hq_ : World.drewN wc _ = wc; have n0_ : Aside0 (wc.heap[gb101]? = some (.cells #[.int .i64 a0_0, .int .i64 a0_1, .int .i64 a0_2, .int .i64 a0_3] 67 (0, 0))) := ⟨by rw [← hq_]; exact (by (with_reducible repeat (first | refine blk_drewN ?_ _ | refine blk_drew ?_ | refine blk_alloc ?_ _)); exact BK101.out)⟩; have n1_ : Aside0 (Below w.heap.size w wc) := ⟨by rw [← hq_]; exact (by repeat (first | (with_reducible first | exact HB.out | apply below_alloc | apply pw_below_drewN | apply below_drew1 | refine below_set ?_ GE101.out) | exact HB.out))⟩; clear BK101 HB hq_; have BK101 := n0_; have HB := n1_; clear n0_ n1_)); have hcy0_0 : wc.cell? ⟨gb101, 0, none⟩ = some (.int .i64 a0_0) := (blk_cell BK101.out 0).trans rfl; have hfy0_0 := blk_frozen BK101.out 0; have hcy0_1 : wc.cell? ⟨gb101, 1, none⟩ = some (.int .i64 a0_1) := (blk_cell BK101.out 1).trans rfl; have hfy0_1 := blk_frozen BK101.out 1; have hcy0_2 : wc.cell? ⟨gb101, 2, none⟩ = some (.int .i64 a0_2) := (blk_cell BK101.out 2).trans rfl; have hfy0_2 := blk_frozen BK101.out 2; have hcy0_3 : wc.cell? ⟨gb101, 3, none⟩ = some (.int .i64 a0_3) := (blk_cell BK101.out 3).trans rfl; have hfy0_3 := blk_frozen BK101.out 3; have p105 : 0 ≤ (a0_2 : Int) := of_decide_eq_true (by assumption); have q105 : a0_2 < (l1.length : Int) := of_decide_eq_true (by assumption); obtain ⟨ad105, e105, hx105_0, hx105_1, hx105_2, hx105_3⟩ := at_T67 HR1.out a0_2 p105 q105; cases e105; replace hx105_0 := hC HB.out hx105_0; replace hx105_1 := hC HB.out hx105_1; replace hx105_2 := hC HB.out hx105_2; replace hx105_3 := hC HB.out hx105_3; replace p105 := eq_true p105; replace q105 := eq_true q105) | ((with_reducible refine gate_dst (N := 6) rfl ?_); refine box_event ?hg (N := 6) ?hd (cs := #[.int .i64 0, .int .i64 0, .int .i64 0, .int .i64 0]) (t := 67) ?hr ?_; (case hd => rfl); (case hg => rfl); (case hr => first | (go_simp; done) | (go_simp; rfl)); intro gb106 hg w33 hbox hb; have n0_ := Aside0.mk (blk_below (g := gb101) (o := .cells #[.int .i64 a0_0, .int .i64 a0_1, .int .i64 a0_2, .int .i64 a0_3] 67 (0, 0)) (by (with_reducible repeat (first | refine blk_drewN ?_ _ | refine blk_drew ?_ | refine blk_alloc ?_ _)); exact BK101.out) hb); have n1_ := bS hb; have n2_ := Aside0.mk (hbox); have n3_ : Aside0 (w.heap.size ≤ gb106) := bZ hg; have n4_ : Aside0 (w.heap.size ≤ gb106) := bZ hg; have n5_ := Aside0.mk ((by rw [hg]; exact Nat.ne_of_lt (blk_lt (g := gb101) (o := .cells #[.int .i64 a0_0, .int .i64 a0_1, .int .i64 a0_2, .int .i64 a0_3] 67 (0, 0)) (by (with_reducible repeat (first | refine blk_drewN ?_ _ | refine blk_drew ?_ | refine blk_alloc ?_ _)); exact BK101.out)) : gb101 ≠ gb106)); have n6_ := Aside0.mk ((by rw [hg]; exact Nat.ne_of_gt (blk_lt (g := gb101) (o := .cells #[.int .i64 a0_0, .int .i64 a0_1, .int .i64 a0_2, .int .i64 a0_3] 67 (0, 0)) (by (with_reducible repeat (first | refine blk_drewN ?_ _ | refine blk_drew ?_ | refine blk_alloc ?_ _)); exact BK101.out)) : gb106 ≠ gb101)); clear BK101; clear HB; have BK101 := n0_; have HB := n1_; have BK106 := n2_; have GW106 := n3_; have GE106 := n4_; have NB101_106 := n5_; have NB106_101 := n6_; clear n0_ n1_ n2_ n3_ n4_ n5_ n6_; clear hb hbox hg; have hnb34 := NB106_101.out; have hnc34 := NB101_106.out; obtain ⟨hcz35_0, hcz35_1, hcz35_2, hcz35_3, hfz35_0, hfz35_1, hfz35_2, hfz35_3⟩ := zc4 BK106.out))); go_ret; (exact ⟨by first | rfl | (simp [errW_none, errW_some] <;> rfl) | (simp [*, errW_none, errW_some] <;> rfl), by repeat (first | (with_reducible first | exact HB.out | apply below_alloc | apply pw_below_drewN | apply below_drew1 | refine below_set ?_ GE101.out | refine below_set ?_ GE106.out) | exact HB.out)⟩)
                  · rw [if_neg c19] at H; (exact absurd H (by simp))
                · rw [if_neg c18] at H; (exact absurd H (by simp))
              · replace c17 := Bool.eq_false_iff.mpr c17; subst c17; (have H1 : (some false) = some r := by rw [if_neg (show ¬ (false = true) by decide)] at H; exact H); clear H; have H := H1; clear H1; obtain rfl := Option.some.inj H; obtain ⟨hcz36_0, hcz36_1, hcz36_2, hcz36_3, hfz36_0, hfz36_1, hfz36_2, hfz36_3⟩ := zc4 BK101.out; (go_wp2_with (first | ((with_reducible refine gate_callee (f := 60) rfl ?_); refine gL 32 Try.func60 #[.int .i64 a0_2, .int .i64 0, .int .i64 (wrap64 ((l1.length : Int) - 1))] ?_; (with_reducible refine (impl_InRange.calls a0_2 0 (wrap64 ((l1.length : Int) - 1)) false _ A16.out).mono ?_); rintro e w' ⟨rfl, ⟨nd, rfl⟩⟩; refine ⟨_, rfl, ?_⟩))); go_ret; (exact ⟨by first | rfl | (simp [errW_none, errW_some] <;> rfl) | (simp [*, errW_none, errW_some] <;> rfl), by repeat (first | (with_reducible first | exact HB.out | apply below_alloc | apply pw_below_drewN | apply below_drew1 | refine below_set ?_ GE101.out) | exact HB.out)⟩)

/-! ### impl_IsFormat: function 38 -/
abbrev m38x0 : Array Bool := #[true, true, true, true, true, true]
abbrev m38x1 : Array Bool := #[true, true, true, true, true, false]
abbrev m38x2 : Array Bool := #[true, true, true, true, false, false]
abbrev m38x3 : Array Bool := #[false, true, true, true, false, false]
abbrev m38x4 : Array Bool := #[false, true, true, false, false, false]
abbrev m38x5 : Array Bool := #[false, true, false, false, false, false]
abbrev m38x6 : Array Bool := #[false, false, false, false, false, false]
def impl_IsFormat.l0 : Nat → List (S67) → List (S67) → Int → Int → Option (Bool)
  | 0, _, _, _, _ => none
  | k + 1, x0, x5, x6, x7 => if x7 < x6 then (if 0 ≤ x7 then (if x7 < (x5.length : Int) then (if x7 ≤ (x0.length : Int) then ((impl_isField.f k ((rd_T67 x5 x7).f0) ((rd_T67 x5 x7).f1) ((rd_T67 x5 x7).f2) ((rd_T67 x5 x7).f3) (x0.take (x7 : Int).toNat)).bind fun t114 => (if t114 = true then (impl_IsFormat.l0 k x0 x5 x6 (wrap64 (x7 + 1))) else (some false))) else (none)) else (none)) else (none)) else ((impl_InRange.f (x0.length : Int) 1 6).bind fun t115 => (some t115))
def impl_IsFormat.f (k : Nat) (l0 : List (S67)) : Option (Bool) := impl_IsFormat.l0 k l0 l0 (l0.length : Int) 0
theorem impl_IsFormat.mono_l : ∀ k, (∀ y0 y1 y2 y3, LeO (impl_IsFormat.l0 k y0 y1 y2 y3) (impl_IsFormat.l0 (k + 1) y0 y1 y2 y3))
  | 0 => fun _ _ _ _ r h => by simp [impl_IsFormat.l0] at h
  | k + 1 => by
    have ih0 := impl_IsFormat.mono_l k
    · intro y0 y1 y2 y3
      unfold impl_IsFormat.l0
      repeat' first
      | (with_reducible exact ih0 _ _ _ _)
      | (with_reducible exact impl_isField.mono _ _ _ _ _ _)
      | (with_reducible exact LeO.refl _)
      | (with_reducible exact LeO.none _)
      | (with_reducible refine LeO.ite ?_ ?_)
      | (with_reducible refine LeO.bind ?_ (fun _ => ?_))
      | exact ih0 _ _ _ _
      | exact impl_isField.mono _ _ _ _ _ _
      | exact LeO.none _
      | refine LeO.ite ?_ ?_
      | refine LeO.bind ?_ (fun _ => ?_)
theorem impl_IsFormat.mono : ∀ a0 k, LeO (impl_IsFormat.f k a0) (impl_IsFormat.f (k + 1) a0) := by
  intro a0 k
  have ih0 := impl_IsFormat.mono_l k
  unfold impl_IsFormat.f
  repeat' first
      | (with_reducible exact ih0 _ _ _ _)
      | (with_reducible exact impl_isField.mono _ _ _ _ _ _)
      | (with_reducible exact LeO.refl _)
      | (with_reducible exact LeO.none _)
      | (with_reducible refine LeO.ite ?_ ?_)
      | (with_reducible refine LeO.bind ?_ (fun _ => ?_))
      | exact ih0 _ _ _ _
      | exact impl_isField.mono _ _ _ _ _ _
      | exact LeO.none _
      | refine LeO.ite ?_ ?_
      | refine LeO.bind ?_ (fun _ => ?_)
set_option maxHeartbeats 8000000 in
set_option maxRecDepth 100000 in
theorem impl_IsFormat.calls (k : Nat) (A0 : Option Addr) (c0 : Nat) (l0 : List (S67)) (r : Bool) (w : World) (hr0 : Kd.C k67 w A0 l0.length l0) (hc0 : l0.length ≤ c0) (h : impl_IsFormat.f k l0 = some r) :
    Calls Try.prog 38 #[.slice A0 l0.length c0] w fun e w' => e = .returned (.bool r) ∧ Below w.heap.size w w' := by
  have hu67 := Try.underlying67
  have HR0 := Aside0.mk hr0
  have HC0 := Aside0.mk hc0
  clear hr0 hc0
  have HB := Aside0.mk (Below.refl w.heap.size w)
  have H : (impl_IsFormat.l0 k l0 l0 (l0.length : Int) 0) = some r := h
  clear h
  have H' := Aside0.mk H
  clear H
  go_enter Try.func38, Try.ntmps38
  go_wp2
  go_loopg [7] k (fun kq v7 w' => ∃ (x7_1 : Int), v7 = .int .i64 x7_1 ∧ Aside0 (impl_IsFormat.l0 kq l0 l0 (l0.length : Int) x7_1 = some r) ∧ Aside0 (kq ≤ k) ∧ Aside0 (Below w.heap.size w w'))
  case atStart => exact ⟨(0), (by first | rfl | (simp; done) | (simp [*]; done)), H', ⟨Nat.le_refl _⟩, ⟨by repeat (first | (with_reducible first | exact HB.out | apply below_alloc | apply pw_below_drewN | apply below_drew1) | exact HB.out)⟩⟩
  case round =>
    clear H'
    obtain ⟨x7_1, rfl, HA, HK1, HB⟩ := hrel
    cases gk with
    | zero => exact absurd HA.out (by simp [impl_IsFormat.l0])
    | succ k1 =>
      have H := HA.out
      clear HA
      simp only [impl_IsFormat.l0] at H
      by_cases c2 : x7_1 < (l0.length : Int)
      · rw [if_pos c2] at H
        have c2b0 : decide (x7_1 < (l0.length : Int)) = true := decide_eq_true c2
        clear c2
        by_cases c3 : 0 ≤ x7_1
        · rw [if_pos c3] at H
          have c3b0 : decide (0 ≤ x7_1) = true := decide_eq_true c3; clear c3; by_cases c4 : x7_1 < (l0.length : Int)
          · rw [if_pos c4] at H
            have c4b0 : decide (x7_1 < (l0.length : Int)) = true := decide_eq_true c4; clear c4; (have c5b0 := eq_true (of_decide_eq_true (by assumption) : 0 ≤ x7_1)); by_cases c6 : x7_1 ≤ (l0.length : Int)
            · rw [if_pos c6] at H
              have c6b0 := eq_true c6; have c6b1 : decide (x7_1 ≤ (l0.length : Int)) = true := decide_eq_true c6; clear c6; obtain ⟨y110, hy110⟩ : ∃ y_ : List (S67), y_ = (l0.take (x7_1 : Int).toNat) := ⟨_, rfl⟩; (replace H : ((impl_isField.f k1 ((rd_T67 l0 x7_1).f0) ((rd_T67 l0 x7_1).f1) ((rd_T67 l0 x7_1).f2) ((rd_T67 l0 x7_1).f3) y110).bind fun t114 => (if t114 = true then (impl_IsFormat.l0 k1 l0 l0 (l0.length : Int) (wrap64 (x7_1 + 1))) else (some false))) = some r := by first | (rw [hy110]; with_reducible exact H) | (have H2_ := (Option.bind_some _ _).symm.trans H; rw [hy110]; with_reducible exact H2_) | (have H2_ := (Option.bind_some _ _).symm.trans H; with_reducible exact H2_) | with_reducible exact H | (rw [hy110]; exact H) | exact H); have Ny110 := Aside0.mk hy110; clear hy110; replace H := Option.bind_eq_some_iff.mp H; obtain ⟨t114, A70, H⟩ := H; replace H : (if t114 = true then (impl_IsFormat.l0 k1 l0 l0 (l0.length : Int) (wrap64 (x7_1 + 1))) else (some false)) = some r := H; have A7 := Aside0.mk A70; clear A70; by_cases c8 : t114 = true
              · subst c8
                ((have H1 : (impl_IsFormat.l0 k1 l0 l0 (l0.length : Int) (wrap64 (x7_1 + 1))) = some r := by rw [if_pos rfl] at H; exact H); clear H; have H := H1; clear H1; have H' := Aside0.mk H; clear H; (have p108 : 0 ≤ (x7_1 : Int) := of_decide_eq_true (by assumption)); (have q108 : x7_1 < (l0.length : Int) := of_decide_eq_true (by assumption)); obtain ⟨ad108, e108, hx108_0, hx108_1, hx108_2, hx108_3⟩ := at_T67 HR0.out x7_1 p108 q108; cases e108; replace hx108_0 := hC HB.out hx108_0; replace hx108_1 := hC HB.out hx108_1; replace hx108_2 := hC HB.out hx108_2; replace hx108_3 := hC HB.out hx108_3; replace p108 := eq_true p108; replace q108 := eq_true q108; (try go_wp2_with (first | ((with_reducible refine gate_dst (N := 4) rfl ?_); refine box_event ?hg (N := 4) ?hd (cs := #[.int .i64 0, .int .i64 0, .int .i64 0, .int .i64 0]) (t := 67) ?hr ?_; (case hd => rfl); (case hg => rfl); (case hr => first | (go_simp; done) | (go_simp; rfl)); intro gb109 hg w9 hbox hb; have n0_ := bS hb; have n1_ := Aside0.mk (hbox); have n2_ : Aside0 (w.heap.size ≤ gb109) := bZ hg; have n3_ : Aside0 (w.heap.size ≤ gb109) := bZ hg; clear HB; have HB := n0_; have BK109 := n1_; have GW109 := n2_; have GE109 := n3_; clear n0_ n1_ n2_ n3_; clear hb hbox hg; obtain ⟨hcz10_0, hcz10_1, hcz10_2, hcz10_3, hfz10_0, hfz10_1, hfz10_2, hfz10_3⟩ := zc4 BK109.out))); (have n0_ : Aside0 (((((w9.setCell ⟨gb109, 0, none⟩ (.int .i64 ((rd_T67 l0 x7_1).f0))).setCell ⟨gb109, 1, none⟩ (.int .i64 ((rd_T67 l0 x7_1).f1))).setCell ⟨gb109, 2, none⟩ (.int .i64 ((rd_T67 l0 x7_1).f2))).setCell ⟨gb109, 3, none⟩ (.int .i64 ((rd_T67 l0 x7_1).f3))).heap[gb109]? = some (.cells #[.int .i64 ((rd_T67 l0 x7_1).f0), .int .i64 ((rd_T67 l0 x7_1).f1), .int .i64 ((rd_T67 l0 x7_1).f2), .int .i64 ((rd_T67 l0 x7_1).f3)] 67 (0, 0))) := ⟨by (with_reducible repeat (first | refine blk_drewN ?_ _ | refine blk_drew ?_ | refine blk_alloc ?_ _)); refine blk_put (cs := #[.int .i64 ((rd_T67 l0 x7_1).f0), .int .i64 ((rd_T67 l0 x7_1).f1), .int .i64 ((rd_T67 l0 x7_1).f2), .int .i64 0]) ?_ 3 _ rfl; (with_reducible repeat (first | refine blk_drewN ?_ _ | refine blk_drew ?_ | refine blk_alloc ?_ _)); refine blk_put (cs := #[.int .i64 ((rd_T67 l0 x7_1).f0), .int .i64 ((rd_T67 l0 x7_1).f1), .int .i64 0, .int .i64 0]) ?_ 2 _ rfl; (with_reducible repeat (first | refine blk_drewN ?_ _ | refine blk_drew ?_ | refine blk_alloc ?_ _)); refine blk_put (cs := #[.int .i64 ((rd_T67 l0 x7_1).f0), .int .i64 0, .int .i64 0, .int .i64 0]) ?_ 1 _ rfl; (with_reducible repeat (first | refine blk_drewN ?_ _ | refine blk_drew ?_ | refine blk_alloc ?_ _)); refine blk_put (cs := #[.int .i64 0, .int .i64 0, .int .i64 0, .int .i64 0]) ?_ 0 _ rfl; (with_reducible repeat (first | refine blk_drewN ?_ _ | refine blk_drew ?_ | refine blk_alloc ?_ _)); exact BK109.out⟩); (have n1_ : Aside0 (Below w.heap.size w ((((w9.setCell ⟨gb109, 0, none⟩ (.int .i64 ((rd_T67 l0 x7_1).f0))).setCell ⟨gb109, 1, none⟩ (.int .i64 ((rd_T67 l0 x7_1).f1))).setCell ⟨gb109, 2, none⟩ (.int .i64 ((rd_T67 l0 x7_1).f2))).setCell ⟨gb109, 3, none⟩ (.int .i64 ((rd_T67 l0 x7_1).f3)))) := ⟨by repeat (first | (with_reducible first | exact HB.out | apply below_alloc | apply pw_below_drewN | apply below_drew1 | refine below_set ?_ GE109.out) | exact HB.out)⟩); ((try clear BK109)); ((try clear HB)); generalize ((((w9.setCell ⟨gb109, 0, none⟩ (.int .i64 ((rd_T67 l0 x7_1).f0))).setCell ⟨gb109, 1, none⟩ (.int .i64 ((rd_T67 l0 x7_1).f1))).setCell ⟨gb109, 2, none⟩ (.int .i64 ((rd_T67 l0 x7_1).f2))).setCell ⟨gb109, 3, none⟩ (.int .i64 ((rd_T67 l0 x7_1).f3))) = w11 at n0_ n1_ ⊢; have BK109 := n0_; have HB := n1_; clear n0_ n1_; have n0_ := Aside0.mk (blk_drew BK109.out); have n1_ := Aside0.mk (below_drew1 HB.out); clear BK109; clear HB; have BK109 := n0_; have HB := n1_; clear n0_ n1_; (have q13 : (x7_1 : Int) ≤ ((l0.length : Int) : Int) := of_decide_eq_true (by assumption)); obtain ⟨i013, hi013, _, hsz13, _⟩ := info_parts info67; have hroom13 : l0.length ≤ c0 := HC0.out; have hC13 : Kd.C k67 _ (some ad108) l0.length l0 := HR0.out; (have hcut13 := cut_to (P := Try.prog) 26 67 .i64 Try.underlying26 hi013 (some ad108) l0.length c0 x7_1 (of_decide_eq_true (by assumption)) q13 hroom13); (have hr13 := Kd.C_take (m := (x7_1 : Int).toNat) hC13 (by omega)); (have hy13 : y110.length = (x7_1 : Int).toNat := (by rw [Ny110.out, List.length_take]; omega)); rw [← Ny110.out] at hr13; rw [← hy13] at hcut13; have HR113 := Aside0.mk hr13; (have HC113 := Aside0.mk (show y110.length ≤ c0 from by omega)); clear hr13 hC13 hroom13 hi013 hsz13; have KY13 := Aside0.mk hy13; clear hy13; replace q13 := eq_true q13; (refine start_ (n := 6) (S := fun w' => w'.cell? ⟨gb109, 0, none⟩ = some (.int .i64 ((rd_T67 l0 x7_1).f0)) ∧ w'.cell? ⟨gb109, 1, none⟩ = some (.int .i64 ((rd_T67 l0 x7_1).f1)) ∧ w'.cell? ⟨gb109, 2, none⟩ = some (.int .i64 ((rd_T67 l0 x7_1).f2)) ∧ w'.cell? ⟨gb109, 3, none⟩ = some (.int .i64 ((rd_T67 l0 x7_1).f3))) (ds := []) m38x6 (by kernel_rfl) rfl rfl ⟨(blk_cell BK109.out 0).trans rfl, (blk_cell BK109.out 1).trans rfl, (blk_cell BK109.out 2).trans rfl, (blk_cell BK109.out 3).trans rfl⟩ (fun hHeld => ?_)); generalize w11.drew = w12 at BK109 HB HR113 hHeld ⊢; (refine pure_ (i := 1) (N := some 13) (v := ?_) (a' := ?_) m38x5 rfl rfl (by kernel_rfl) (fun _ _ _ h => h) (Or.inl ⟨by rfl, ?_⟩) ?_ ?_); rotate_left); (· intro w'; go_simp; (with_reducible rfl)); rotate_left; (· simp only [Act.put, sT, sZ, sS, i64_w, i32_w]; rfl); ((refine pure_ (i := 2) (N := some 14) (v := ?_) (a' := ?_) m38x4 rfl rfl (by kernel_rfl) (fun _ _ _ h => h) (Or.inl ⟨by rfl, ?_⟩) ?_ ?_); rotate_left); (· intro w'; go_simp; (with_reducible rfl)); rotate_left; (· simp only [Act.put, sT, sZ, sS, i64_w, i32_w]; rfl); ((refine pure_ (i := 3) (N := some 15) (v := ?_) (a' := ?_) m38x3 rfl rfl (by kernel_rfl) (fun _ _ _ h => h) (Or.inl ⟨by rfl, ?_⟩) ?_ ?_); rotate_left); (· intro w'; go_simp; (with_reducible rfl)); rotate_left; (· simp only [Act.put, sT, sZ, sS, i64_w, i32_w]; rfl); ((refine take_ (i := 0) (N := some 12) (v := ?_) (a' := ?_) m38x2 rfl rfl (by kernel_rfl) (fun _ _ _ h => h) (Or.inl ⟨by rfl, ?_⟩) hHeld ?_ ?_); rotate_left); (· rintro w' ⟨s0, s1, s2, s3⟩; go_simp; (with_reducible rfl)); rotate_left; (· simp only [Act.put, sT, sZ, sS, i64_w, i32_w]; rfl); ((refine one_ (i := 4) (N := some 16) m38x1 rfl rfl (by kernel_rfl) (by decide) (fun K hK => ?_)); (refine goes_ Try.func71 (by kernel_rfl) rfl #[.agg #[.int .i64 ((rd_T67 l0 x7_1).f0), .int .i64 ((rd_T67 l0 x7_1).f1), .int .i64 ((rd_T67 l0 x7_1).f2), .int .i64 ((rd_T67 l0 x7_1).f3)], .slice (some ad108) y110.length c0] (by rfl) rfl rfl (by (try simp only [List.map_toArray, List.map_cons, List.map_nil]); first | done | rfl | (simp only [List.length_drop, List.length_take]; rfl)) ?_); (with_reducible refine (impl_isField.calls k1 ((rd_T67 l0 x7_1).f0) ((rd_T67 l0 x7_1).f1) ((rd_T67 l0 x7_1).f2) ((rd_T67 l0 x7_1).f3) _ _ y110 true _ ?side1 ?side2 A7.out).mono ?_); ((case side1 => exact kC HR113.out)); (case side2 => exact HC113.out); rintro e w14 ⟨rfl, hb⟩; refine ⟨_, rfl, ?_⟩; (have n0_ := Aside0.mk (blk_below (g := gb109) (o := .cells #[.int .i64 ((rd_T67 l0 x7_1).f0), .int .i64 ((rd_T67 l0 x7_1).f1), .int .i64 ((rd_T67 l0 x7_1).f2), .int .i64 ((rd_T67 l0 x7_1).f3)] 67 (0, 0)) (by (with_reducible repeat (first | refine blk_drewN ?_ _ | refine blk_drew ?_ | refine blk_alloc ?_ _)); exact BK109.out) hb)); (have n1_ := bS hb); clear BK109; clear HB; have BK109 := n0_; have HB := n1_; clear n0_ n1_; ((try clear hb)); ((try clear hb2)); ((try clear hk)); ((try clear hi)); refine hK.out _ _ ⟨(blk_cell BK109.out 0).trans rfl, (blk_cell BK109.out 1).trans rfl, (blk_cell BK109.out 2).trans rfl, (blk_cell BK109.out 3).trans rfl⟩ (fun hHeld => ?_); clear hK K; refine norm_ (a' := ?_) ?_ ?_; rotate_left); (· show Act.put _ (some 16) _ = _; simp only [Act.put, sT, sZ, sS, i64_w, i32_w]; rfl); ((refine pure_ (i := 5) (N := some 17) (v := ?_) (a' := ?_) m38x0 rfl rfl (by kernel_rfl) (fun _ _ _ h => h) (Or.inl ⟨by rfl, ?_⟩) ?_ ?_); rotate_left); (· intro w'; go_simp; (with_reducible rfl)); rotate_left; (· simp only [Act.put, sT, sZ, sS, i64_w, i32_w]; rfl); ((refine done_ (by kernel_rfl) ?_); (try go_wp2); go_roundg k1)
                case measure => have := HK1.out; omega
                case rel => exact ⟨(wrap64 (x7_1 + 1)), (by first | rfl | (simp; done) | (simp [*]; done)), H', ⟨by have := HK1.out; omega⟩, ⟨by repeat (first | (with_reducible first | exact HB.out | apply below_alloc | apply pw_below_drewN | apply below_drew1 | refine below_set ?_ GE109.out) | exact HB.out)⟩⟩
              · replace c8 := Bool.eq_false_iff.mpr c8
                (subst c8; (have H1 : (some false) = some r := by rw [if_neg (show ¬ (false = true) by decide)] at H; exact H); clear H; have H := H1; clear H1; obtain rfl := Option.some.inj H; (have p108 : 0 ≤ (x7_1 : Int) := of_decide_eq_true (by assumption)); (have q108 : x7_1 < (l0.length : Int) := of_decide_eq_true (by assumption)); obtain ⟨ad108, e108, hx108_0, hx108_1, hx108_2, hx108_3⟩ := at_T67 HR0.out x7_1 p108 q108; cases e108; replace hx108_0 := hC HB.out hx108_0; replace hx108_1 := hC HB.out hx108_1; replace hx108_2 := hC HB.out hx108_2; replace hx108_3 := hC HB.out hx108_3; replace p108 := eq_true p108; replace q108 := eq_true q108; (try go_wp2_with (first | ((with_reducible refine gate_dst (N := 4) rfl ?_); refine box_event ?hg (N := 4) ?hd (cs := #[.int .i64 0, .int .i64 0, .int .i64 0, .int .i64 0]) (t := 67) ?hr ?_; (case hd => rfl); (case hg => rfl); (case hr => first | (go_simp; done) | (go_simp; rfl)); intro gb109 hg w15 hbox hb; have n0_ := bS hb; have n1_ := Aside0.mk (hbox); have n2_ : Aside0 (w.heap.size ≤ gb109) := bZ hg; have n3_ : Aside0 (w.heap.size ≤ gb109) := bZ hg; clear HB; have HB := n0_; have BK109 := n1_; have GW109 := n2_; have GE109 := n3_; clear n0_ n1_ n2_ n3_; clear hb hbox hg; obtain ⟨hcz16_0, hcz16_1, hcz16_2, hcz16_3, hfz16_0, hfz16_1, hfz16_2, hfz16_3⟩ := zc4 BK109.out))); (have n0_ : Aside0 (((((w15.setCell ⟨gb109, 0, none⟩ (.int .i64 ((rd_T67 l0 x7_1).f0))).setCell ⟨gb109, 1, none⟩ (.int .i64 ((rd_T67 l0 x7_1).f1))).setCell ⟨gb109, 2, none⟩ (.int .i64 ((rd_T67 l0 x7_1).f2))).setCell ⟨gb109, 3, none⟩ (.int .i64 ((rd_T67 l0 x7_1).f3))).heap[gb109]? = some (.cells #[.int .i64 ((rd_T67 l0 x7_1).f0), .int .i64 ((rd_T67 l0 x7_1).f1), .int .i64 ((rd_T67 l0 x7_1).f2), .int .i64 ((rd_T67 l0 x7_1).f3)] 67 (0, 0))) := ⟨by (with_reducible repeat (first | refine blk_drewN ?_ _ | refine blk_drew ?_ | refine blk_alloc ?_ _)); refine blk_put (cs := #[.int .i64 ((rd_T67 l0 x7_1).f0), .int .i64 ((rd_T67 l0 x7_1).f1), .int .i64 ((rd_T67 l0 x7_1).f2), .int .i64 0]) ?_ 3 _ rfl; (with_reducible repeat (first | refine blk_drewN ?_ _ | refine blk_drew ?_ | refine blk_alloc ?_ _)); refine blk_put (cs := #[.int .i64 ((rd_T67 l0 x7_1).f0), .int .i64 ((rd_T67 l0 x7_1).f1), .int .i64 0, .int .i64 0]) ?_ 2 _ rfl; (with_reducible repeat (first | refine blk_drewN ?_ _ | refine blk_drew ?_ | refine blk_alloc ?_ _)); refine blk_put (cs := #[.int .i64 ((rd_T67 l0 x7_1).f0), .int .i64 0, .int .i64 0, .int .i64 0]) ?_ 1 _ rfl; (with_reducible repeat (first | refine blk_drewN ?_ _ | refine blk_drew ?_ | refine blk_alloc ?_ _)); refine blk_put (cs := #[.int .i64 0, .int .i64 0, .int .i64 0, .int .i64 0]) ?_ 0 _ rfl; (with_reducible repeat (first | refine blk_drewN ?_ _ | refine blk_drew ?_ | refine blk_alloc ?_ _)); exact BK109.out⟩); (have n1_ : Aside0 (Below w.heap.size w ((((w15.setCell ⟨gb109, 0, none⟩ (.int .i64 ((rd_T67 l0 x7_1).f0))).setCell ⟨gb109, 1, none⟩ (.int .i64 ((rd_T67 l0 x7_1).f1))).setCell ⟨gb109, 2, none⟩ (.int .i64 ((rd_T67 l0 x7_1).f2))).setCell ⟨gb109, 3, none⟩ (.int .i64 ((rd_T67 l0 x7_1).f3)))) := ⟨by repeat (first | (with_reducible first | exact HB.out | apply below_alloc | apply pw_below_drewN | apply below_drew1 | refine below_set ?_ GE109.out) | exact HB.out)⟩); ((try clear BK109)); ((try clear HB)); generalize ((((w15.setCell ⟨gb109, 0, none⟩ (.int .i64 ((rd_T67 l0 x7_1).f0))).setCell ⟨gb109, 1, none⟩ (.int .i64 ((rd_T67 l0 x7_1).f1))).setCell ⟨gb109, 2, none⟩ (.int .i64 ((rd_T67 l0 x7_1).f2))).setCell ⟨gb109, 3, none⟩ (.int .i64 ((rd_T67 l0 x7_1).f3))) = w17 at n0_ n1_ ⊢; have BK109 := n0_; have HB := n1_; clear n0_ n1_; have n0_ := Aside0.mk (blk_drew BK109.out); have n1_ := Aside0.mk (below_drew1 HB.out); clear BK109; clear HB; have BK109 := n0_; have HB := n1_; clear n0_ n1_; (have q19 : (x7_1 : Int) ≤ ((l0.length : Int) : Int) := of_decide_eq_true (by assumption)); obtain ⟨i019, hi019, _, hsz19, _⟩ := info_parts info67; have hroom19 : l0.length ≤ c0 := HC0.out; have hC19 : Kd.C k67 _ (some ad108) l0.length l0 := HR0.out; (have hcut19 := cut_to (P := Try.prog) 26 67 .i64 Try.underlying26 hi019 (some ad108) l0.length c0 x7_1 (of_decide_eq_true (by assumption)) q19 hroom19); (have hr19 := Kd.C_take (m := (x7_1 : Int).toNat) hC19 (by omega)); (have hy19 : y110.length = (x7_1 : Int).toNat := (by rw [Ny110.out, List.length_take]; omega)); rw [← Ny110.out] at hr19; rw [← hy19] at hcut19; have HR113 := Aside0.mk hr19; (have HC113 := Aside0.mk (show y110.length ≤ c0 from by omega)); clear hr19 hC19 hroom19 hi019 hsz19; have KY19 := Aside0.mk hy19; clear hy19; replace q19 := eq_true q19; (refine start_ (n := 6) (S := fun w' => w'.cell? ⟨gb109, 0, none⟩ = some (.int .i64 ((rd_T67 l0 x7_1).f0)) ∧ w'.cell? ⟨gb109, 1, none⟩ = some (.int .i64 ((rd_T67 l0 x7_1).f1)) ∧ w'.cell? ⟨gb109, 2, none⟩ = some (.int .i64 ((rd_T67 l0 x7_1).f2)) ∧ w'.cell? ⟨gb109, 3, none⟩ = some (.int .i64 ((rd_T67 l0 x7_1).f3))) (ds := []) m38x6 (by kernel_rfl) rfl rfl ⟨(blk_cell BK109.out 0).trans rfl, (blk_cell BK109.out 1).trans rfl, (blk_cell BK109.out 2).trans rfl, (blk_cell BK109.out 3).trans rfl⟩ (fun hHeld => ?_)); generalize w17.drew = w18 at BK109 HB HR113 hHeld ⊢; (refine pure_ (i := 1) (N := some 13) (v := ?_) (a' := ?_) m38x5 rfl rfl (by kernel_rfl) (fun _ _ _ h => h) (Or.inl ⟨by rfl, ?_⟩) ?_ ?_); rotate_left); (· intro w'; go_simp; (with_reducible rfl)); rotate_left; (· simp only [Act.put, sT, sZ, sS, i64_w, i32_w]; rfl); ((refine pure_ (i := 2) (N := some 14) (v := ?_) (a' := ?_) m38x4 rfl rfl (by kernel_rfl) (fun _ _ _ h => h) (Or.inl ⟨by rfl, ?_⟩) ?_ ?_); rotate_left); (· intro w'; go_simp; (with_reducible rfl)); rotate_left; (· simp only [Act.put, sT, sZ, sS, i64_w, i32_w]; rfl); ((refine pure_ (i := 3) (N := some 15) (v := ?_) (a' := ?_) m38x3 rfl rfl (by kernel_rfl) (fun _ _ _ h => h) (Or.inl ⟨by rfl, ?_⟩) ?_ ?_); rotate_left); (· intro w'; go_simp; (with_reducible rfl)); rotate_left; (· simp only [Act.put, sT, sZ, sS, i64_w, i32_w]; rfl); ((refine take_ (i := 0) (N := some 12) (v := ?_) (a' := ?_) m38x2 rfl rfl (by kernel_rfl) (fun _ _ _ h => h) (Or.inl ⟨by rfl, ?_⟩) hHeld ?_ ?_); rotate_left); (· rintro w' ⟨s0, s1, s2, s3⟩; go_simp; (with_reducible rfl)); rotate_left; (· simp only [Act.put, sT, sZ, sS, i64_w, i32_w]; rfl); ((refine one_ (i := 4) (N := some 16) m38x1 rfl rfl (by kernel_rfl) (by decide) (fun K hK => ?_)); (refine goes_ Try.func71 (by kernel_rfl) rfl #[.agg #[.int .i64 ((rd_T67 l0 x7_1).f0), .int .i64 ((rd_T67 l0 x7_1).f1), .int .i64 ((rd_T67 l0 x7_1).f2), .int .i64 ((rd_T67 l0 x7_1).f3)], .slice (some ad108) y110.length c0] (by rfl) rfl rfl (by (try simp only [List.map_toArray, List.map_cons, List.map_nil]); first | done | rfl | (simp only [List.length_drop, List.length_take]; rfl)) ?_); (with_reducible refine (impl_isField.calls k1 ((rd_T67 l0 x7_1).f0) ((rd_T67 l0 x7_1).f1) ((rd_T67 l0 x7_1).f2) ((rd_T67 l0 x7_1).f3) _ _ y110 false _ ?side1 ?side2 A7.out).mono ?_); ((case side1 => exact kC HR113.out)); (case side2 => exact HC113.out); rintro e w20 ⟨rfl, hb⟩; refine ⟨_, rfl, ?_⟩; (have n0_ := Aside0.mk (blk_below (g := gb109) (o := .cells #[.int .i64 ((rd_T67 l0 x7_1).f0), .int .i64 ((rd_T67 l0 x7_1).f1), .int .i64 ((rd_T67 l0 x7_1).f2), .int .i64 ((rd_T67 l0 x7_1).f3)] 67 (0, 0)) (by (with_reducible repeat (first | refine blk_drewN ?_ _ | refine blk_drew ?_ | refine blk_alloc ?_ _)); exact BK109.out) hb)); (have n1_ := bS hb); clear BK109; clear HB; have BK109 := n0_; have HB := n1_; clear n0_ n1_; ((try clear hb)); ((try clear hb2)); ((try clear hk)); ((try clear hi)); refine hK.out _ _ ⟨(blk_cell BK109.out 0).trans rfl, (blk_cell BK109.out 1).trans rfl, (blk_cell BK109.out 2).trans rfl, (blk_cell BK109.out 3).trans rfl⟩ (fun hHeld => ?_); clear hK K; refine norm_ (a' := ?_) ?_ ?_; rotate_left); (· show Act.put _ (some 16) _ = _; simp only [Act.put, sT, sZ, sS, i64_w, i32_w]; rfl); ((refine pure_ (i := 5) (N := some 17) (v := ?_) (a' := ?_) m38x0 rfl rfl (by kernel_rfl) (fun _ _ _ h => h) (Or.inl ⟨by rfl, ?_⟩) ?_ ?_); rotate_left); (· intro w'; go_simp; (with_reducible rfl)); rotate_left; (· simp only [Act.put, sT, sZ, sS, i64_w, i32_w]; rfl); ((refine done_ (by kernel_rfl) ?_); (try go_wp2); go_ret; (exact ⟨by first | rfl | (simp [errW_none, errW_some] <;> rfl) | (simp [*, errW_none, errW_some] <;> rfl), by repeat (first | (with_reducible first | exact HB.out | apply below_alloc | apply pw_below_drewN | apply below_drew1 | refine below_set ?_ GE109.out) | exact HB.out)⟩))
            · rw [if_neg c6] at H; (exact absurd H (by simp))
          · rw [if_neg c4] at H; (exact absurd H (by simp))
        · rw [if_neg c3] at H
          exact absurd H (by simp)
      · rw [if_neg c2] at H
        have c2b0 : decide (x7_1 < (l0.length : Int)) = false := decide_eq_false c2
        clear c2
        replace H := Option.bind_eq_some_iff.mp H
        obtain ⟨t115, A210, H⟩ := H
        replace H : (some t115) = some r := H
        have A21 := Aside0.mk A210
        clear A210
        obtain rfl := Option.some.inj H
        go_wp2_with (first | ((with_reducible refine gate_callee (f := 60) rfl ?_); refine gL 21 Try.func60 #[.int .i64 (l0.length : Int), .int .i64 1, .int .i64 6] ?_; (with_reducible refine (impl_InRange.calls (l0.length : Int) 1 6 t115 _ A21.out).mono ?_); rintro e w' ⟨rfl, ⟨nd, rfl⟩⟩; refine ⟨_, rfl, ?_⟩))
        go_ret
        exact ⟨by first | rfl | (simp [errW_none, errW_some] <;> rfl) | (simp [*, errW_none, errW_some] <;> rfl), by repeat (first | (with_reducible first | exact HB.out | apply below_alloc | apply pw_below_drewN | apply below_drew1) | exact HB.out)⟩

/-! ### impl_IsThere: function 56 -/
def impl_IsThere.f (l0 : List (S67)) (l1 : List (S63)) (a2 : Int) : Option (Bool) := (impl_InRange.f a2 0 (wrap64 ((l0.length : Int) - 1))).bind fun t116 => (if t116 = true then (if 0 ≤ a2 then (if a2 < (l0.length : Int) then (if ((rd_T67 l0 a2).f2) = (-1) then (some true) else ((impl_InRange.f ((rd_T67 l0 a2).f2) 0 (wrap64 ((l1.length : Int) - 1))).bind fun t119 => (if t119 = true then (if 0 ≤ ((rd_T67 l0 a2).f2) then (if ((rd_T67 l0 a2).f2) < (l1.length : Int) then (some (((rd_T63 l1 ((rd_T67 l0 a2).f2)).f0) == ((rd_T67 l0 a2).f3))) else (none)) else (none)) else (some false)))) else (none)) else (none)) else (some false))
set_option maxHeartbeats 8000000 in
set_option maxRecDepth 100000 in
theorem impl_IsThere.calls (A0 : Option Addr) (c0 : Nat) (l0 : List (S67)) (A1 : Option Addr) (c1 : Nat) (l1 : List (S63)) (a2 : Int) (r : Bool) (w : World) (hr0 : Kd.C k67 w A0 l0.length l0) (hc0 : l0.length ≤ c0) (hr1 : Kd.C k63 w A1 l1.length l1) (hc1 : l1.length ≤ c1) (h : impl_IsThere.f l0 l1 a2 = some r) :
    Calls Try.prog 56 #[.slice A0 l0.length c0, .slice A1 l1.length c1, .int .i64 a2] w fun e w' => e = .returned (.bool r) ∧ Below w.heap.size w w' := by
  have hu67 := Try.underlying67
  have HR0 := Aside0.mk hr0
  have HC0 := Aside0.mk hc0
  clear hr0 hc0
  have HR1 := Aside0.mk hr1
  have HC1 := Aside0.mk hc1
  clear hr1 hc1
  have HB := Aside0.mk (Below.refl w.heap.size w)
  have H : ((impl_InRange.f a2 0 (wrap64 ((l0.length : Int) - 1))).bind fun t116 => (if t116 = true then (if 0 ≤ a2 then (if a2 < (l0.length : Int) then (if ((rd_T67 l0 a2).f2) = (-1) then (some true) else ((impl_InRange.f ((rd_T67 l0 a2).f2) 0 (wrap64 ((l1.length : Int) - 1))).bind fun t119 => (if t119 = true then (if 0 ≤ ((rd_T67 l0 a2).f2) then (if ((rd_T67 l0 a2).f2) < (l1.length : Int) then (some (((rd_T63 l1 ((rd_T67 l0 a2).f2)).f0) == ((rd_T67 l0 a2).f3))) else (none)) else (none)) else (some false)))) else (none)) else (none)) else (some false))) = some r := h
  clear h
  replace H := Option.bind_eq_some_iff.mp H
  obtain ⟨t116, A40, H⟩ := H
  replace H : (if t116 = true then (if 0 ≤ a2 then (if a2 < (l0.length : Int) then (if ((rd_T67 l0 a2).f2) = (-1) then (some true) else ((impl_InRange.f ((rd_T67 l0 a2).f2) 0 (wrap64 ((l1.length : Int) - 1))).bind fun t119 => (if t119 = true then (if 0 ≤ ((rd_T67 l0 a2).f2) then (if ((rd_T67 l0 a2).f2) < (l1.length : Int) then (some (((rd_T63 l1 ((rd_T67 l0 a2).f2)).f0) == ((rd_T67 l0 a2).f3))) else (none)) else (none)) else (some false)))) else (none)) else (none)) else (some false)) = some r := H
  have A4 := Aside0.mk A40
  clear A40
  by_cases c5 : t116 = true
  · subst c5
    have H1 : (if 0 ≤ a2 then (if a2 < (l0.length : Int) then (if ((rd_T67 l0 a2).f2) = (-1) then (some true) else ((impl_InRange.f ((rd_T67 l0 a2).f2) 0 (wrap64 ((l1.length : Int) - 1))).bind fun t119 => (if t119 = true then (if 0 ≤ ((rd_T67 l0 a2).f2) then (if ((rd_T67 l0 a2).f2) < (l1.length : Int) then (some (((rd_T63 l1 ((rd_T67 l0 a2).f2)).f0) == ((rd_T67 l0 a2).f3))) else (none)) else (none)) else (some false)))) else (none)) else (none)) = some r := by rw [if_pos rfl] at H; exact H
    clear H
    have H := H1
    clear H1
    by_cases c6 : 0 ≤ a2
    · rw [if_pos c6] at H
      have c6b0 : decide (0 ≤ a2) = true := decide_eq_true c6
      clear c6
      by_cases c7 : a2 < (l0.length : Int)
      · rw [if_pos c7] at H
        have c7b0 : decide (a2 < (l0.length : Int)) = true := decide_eq_true c7
        clear c7
        by_cases c8 : ((rd_T67 l0 a2).f2) = (-1)
        · rw [if_pos c8] at H
          have c8b0 : (((rd_T67 l0 a2).f2) == (-1)) = true := beq_iff_eq.mpr c8; have c8b1 : (((rd_T67 l0 a2).f2) != (-1)) = false := bne_eq_false_iff_eq.mpr c8; clear c8; obtain rfl := Option.some.inj H; go_enter Try.func56, Try.ntmps56; (go_wp2_with (first | (go_at_call 60; (try simp only [i64_w]); (with_reducible refine (impl_InRange.calls a2 0 (wrap64 ((l0.length : Int) - 1)) true _ A4.out).mono ?_); rintro e w' ⟨rfl, ⟨nd, rfl⟩⟩; (try first | exact ⟨rfl, _, World.drewN_drewN _ _ _⟩ | exact ⟨rfl, _, Eq.trans (World.drewN_drewN _ _ _) (congrArg (World.drewN _) (Nat.add_assoc _ _ _))⟩); have p117 : 0 ≤ (a2 : Int) := of_decide_eq_true (by assumption); have q117 : a2 < (l0.length : Int) := of_decide_eq_true (by assumption); obtain ⟨ad117, e117, hx117_0, hx117_1, hx117_2, hx117_3⟩ := at_T67 HR0.out a2 p117 q117; cases e117; replace p117 := eq_true p117; replace q117 := eq_true q117) | ((with_reducible refine gate_dst (N := 7) rfl ?_); (try (refine gate_guard (by rfl) ?_; dsimp only)); refine box_event ?hg (N := 7) ?hd (cs := #[.int .i64 0, .int .i64 0, .int .i64 0, .int .i64 0]) (t := 67) ?hr ?_; (case hd => rfl); (case hg => rfl); (case hr => first | (go_simp; done) | (go_simp; rfl)); intro gb118 hg w9 hbox hb; have n0_ := bS hb; have n1_ := Aside0.mk (hbox); have n2_ : Aside0 (w.heap.size ≤ gb118) := bZ hg; have n3_ : Aside0 (w.heap.size ≤ gb118) := bZ hg; clear HB; have HB := n0_; have BK118 := n1_; have GW118 := n2_; have GE118 := n3_; clear n0_ n1_ n2_ n3_; clear hb hbox hg; obtain ⟨hcz10_0, hcz10_1, hcz10_2, hcz10_3, hfz10_0, hfz10_1, hfz10_2, hfz10_3⟩ := zc4 BK118.out))); (repeat (go_quiet (first | (go_at_call 60; (try simp only [i64_w]); (with_reducible refine (impl_InRange.calls a2 0 (wrap64 ((l0.length : Int) - 1)) true _ A4.out).mono ?_); rintro e w' ⟨rfl, ⟨nd, rfl⟩⟩; (try first | exact ⟨rfl, _, World.drewN_drewN _ _ _⟩ | exact ⟨rfl, _, Eq.trans (World.drewN_drewN _ _ _) (congrArg (World.drewN _) (Nat.add_assoc _ _ _))⟩); have p117 : 0 ≤ (a2 : Int) := of_decide_eq_true (by assumption); have q117 : a2 < (l0.length : Int) := of_decide_eq_true (by assumption); obtain ⟨ad117, e117, hx117_0, hx117_1, hx117_2, hx117_3⟩ := at_T67 HR0.out a2 p117 q117; cases e117; replace p117 := eq_true p117; replace q117 := eq_true q117) | ((with_reducible refine gate_dst (N := 7) rfl ?_); (try (refine gate_guard (by rfl) ?_; dsimp only)); refine box_event ?hg (N := 7) ?hd (cs := #[.int .i64 0, .int .i64 0, .int .i64 0, .int .i64 0]) (t := 67) ?hr ?_; (case hd => rfl); (case hg => rfl); (case hr => first | (go_simp; done) | (go_simp; rfl)); intro gb118 hg w9 hbox hb; have n0_ := bS hb; have n1_ := Aside0.mk (hbox); have n2_ : Aside0 (w.heap.size ≤ gb118) := bZ hg; have n3_ : Aside0 (w.heap.size ≤ gb118) := bZ hg; clear HB; have HB := n0_; have BK118 := n1_; have GW118 := n2_; have GE118 := n3_; clear n0_ n1_ n2_ n3_; clear hb hbox hg; obtain ⟨hcz10_0, hcz10_1, hcz10_2, hcz10_3, hfz10_0, hfz10_1, hfz10_2, hfz10_3⟩ := zc4 BK118.out)); try go_wp2_with (first | (go_at_call 60; (try simp only [i64_w]); (with_reducible refine (impl_InRange.calls a2 0 (wrap64 ((l0.length : Int) - 1)) true _ A4.out).mono ?_); rintro e w' ⟨rfl, ⟨nd, rfl⟩⟩; (try first | exact ⟨rfl, _, World.drewN_drewN _ _ _⟩ | exact ⟨rfl, _, Eq.trans (World.drewN_drewN _ _ _) (congrArg (World.drewN _) (Nat.add_assoc _ _ _))⟩); have p117 : 0 ≤ (a2 : Int) := of_decide_eq_true (by assumption); have q117 : a2 < (l0.length : Int) := of_decide_eq_true (by assumption); obtain ⟨ad117, e117, hx117_0, hx117_1, hx117_2, hx117_3⟩ := at_T67 HR0.out a2 p117 q117; cases e117; replace p117 := eq_true p117; replace q117 := eq_true q117) | ((with_reducible refine gate_dst (N := 7) rfl ?_); (try (refine gate_guard (by rfl) ?_; dsimp only)); refine box_event ?hg (N := 7) ?hd (cs := #[.int .i64 0, .int .i64 0, .int .i64 0, .int .i64 0]) (t := 67) ?hr ?_; (case hd => rfl); (case hg => rfl); (case hr => first | (go_simp; done) | (go_simp; rfl)); intro gb118 hg w9 hbox hb; have n0_ := bS hb; have n1_ := Aside0.mk (hbox); have n2_ : Aside0 (w.heap.size ≤ gb118) := bZ hg; have n3_ : Aside0 (w.heap.size ≤ gb118) := bZ hg; clear HB; have HB := n0_; have BK118 := n1_; have GW118 := n2_; have GE118 := n3_; clear n0_ n1_ n2_ n3_; clear hb hbox hg; obtain ⟨hcz10_0, hcz10_1, hcz10_2, hcz10_3, hfz10_0, hfz10_1, hfz10_2, hfz10_3⟩ := zc4 BK118.out)))); go_ret; (exact ⟨by first | rfl | (simp [errW_none, errW_some] <;> rfl) | (simp [*, errW_none, errW_some] <;> rfl), by repeat (first | (with_reducible first | exact HB.out | apply below_alloc | apply pw_below_drewN | apply below_drew1 | refine below_set ?_ GE118.out) | exact HB.out)⟩)
        · rw [if_neg c8] at H
          have c8b0 : (((rd_T67 l0 a2).f2) == (-1)) = false := beq_eq_false_iff_ne.mpr c8; have c8b1 : (((rd_T67 l0 a2).f2) != (-1)) = true := bne_iff_ne.mpr c8; replace H := Option.bind_eq_some_iff.mp H; obtain ⟨t119, A110, H⟩ := H; replace H : (if t119 = true then (if 0 ≤ ((rd_T67 l0 a2).f2) then (if ((rd_T67 l0 a2).f2) < (l1.length : Int) then (some (((rd_T63 l1 ((rd_T67 l0 a2).f2)).f0) == ((rd_T67 l0 a2).f3))) else (none)) else (none)) else (some false)) = some r := H; have A11 := Aside0.mk A110; clear A110; by_cases c12 : t119 = true
          · subst c12
            (have H1 : (if 0 ≤ ((rd_T67 l0 a2).f2) then (if ((rd_T67 l0 a2).f2) < (l1.length : Int) then (some (((rd_T63 l1 ((rd_T67 l0 a2).f2)).f0) == ((rd_T67 l0 a2).f3))) else (none)) else (none)) = some r := by rw [if_pos rfl] at H; exact H); clear H; have H := H1; clear H1; by_cases c13 : 0 ≤ ((rd_T67 l0 a2).f2)
            · rw [if_pos c13] at H
              have c13b0 : decide (0 ≤ ((rd_T67 l0 a2).f2)) = true := decide_eq_true c13; clear c13; by_cases c14 : ((rd_T67 l0 a2).f2) < (l1.length : Int); (· rw [if_pos c14] at H; have c14b0 : decide (((rd_T67 l0 a2).f2) < (l1.length : Int)) = true := decide_eq_true c14; clear c14; obtain rfl := Option.some.inj H; go_enter Try.func56, Try.ntmps56; (go_wp2_with (first | (go_at_call 60; (try simp only [i64_w]); (with_reducible refine (impl_InRange.calls a2 0 (wrap64 ((l0.length : Int) - 1)) true _ A4.out).mono ?_); rintro e w' ⟨rfl, ⟨nd, rfl⟩⟩; (try first | exact ⟨rfl, _, World.drewN_drewN _ _ _⟩ | exact ⟨rfl, _, Eq.trans (World.drewN_drewN _ _ _) (congrArg (World.drewN _) (Nat.add_assoc _ _ _))⟩); have p117 : 0 ≤ (a2 : Int) := of_decide_eq_true (by assumption); have q117 : a2 < (l0.length : Int) := of_decide_eq_true (by assumption); obtain ⟨ad117, e117, hx117_0, hx117_1, hx117_2, hx117_3⟩ := at_T67 HR0.out a2 p117 q117; cases e117; replace p117 := eq_true p117; replace q117 := eq_true q117) | ((with_reducible refine gate_dst (N := 7) rfl ?_); (try (refine gate_guard (by rfl) ?_; dsimp only)); refine box_event ?hg (N := 7) ?hd (cs := #[.int .i64 0, .int .i64 0, .int .i64 0, .int .i64 0]) (t := 67) ?hr ?_; (case hd => rfl); (case hg => rfl); (case hr => first | (go_simp; done) | (go_simp; rfl)); intro gb118 hg w15 hbox hb; have n0_ := bS hb; have n1_ := Aside0.mk (hbox); have n2_ : Aside0 (w.heap.size ≤ gb118) := bZ hg; have n3_ : Aside0 (w.heap.size ≤ gb118) := bZ hg; clear HB; have HB := n0_; have BK118 := n1_; have GW118 := n2_; have GE118 := n3_; clear n0_ n1_ n2_ n3_; clear hb hbox hg; obtain ⟨hcz16_0, hcz16_1, hcz16_2, hcz16_3, hfz16_0, hfz16_1, hfz16_2, hfz16_3⟩ := zc4 BK118.out) | (go_at_call 60; (try simp only [i64_w]); (with_reducible refine (impl_InRange.calls ((rd_T67 l0 a2).f2) 0 (wrap64 ((l1.length : Int) - 1)) true _ A11.out).mono ?_); rintro e w' ⟨rfl, ⟨nd, rfl⟩⟩; (try first | exact ⟨rfl, _, World.drewN_drewN _ _ _⟩ | exact ⟨rfl, _, Eq.trans (World.drewN_drewN _ _ _) (congrArg (World.drewN _) (Nat.add_assoc _ _ _))⟩); have p120 : 0 ≤ (((rd_T67 l0 a2).f2) : Int) := of_decide_eq_true (by assumption); have q120 : ((rd_T67 l0 a2).f2) < (l1.length : Int) := of_decide_eq_true (by assumption); obtain ⟨ad120, A120_1, c120_1, e120, hx120_0, hx120_1, hl120_1, hi120_1⟩ := at_T63 HR1.out ((rd_T67 l0 a2).f2) p120 q120; cases e120; have hn120_0 : ad120.block ≠ gb118 := Nat.ne_of_lt (Nat.lt_of_lt_of_le (by have := World.block_lt_of_cell? _ _ hx120_0; first | rwa [add_block] at this | exact this) GW118.out); have hn120_1 : ad120.block ≠ gb118 := Nat.ne_of_lt (Nat.lt_of_lt_of_le (by have := World.block_lt_of_cell? _ _ hx120_0; first | rwa [add_block] at this | exact this) GW118.out); have hn120_2 : ad120.block ≠ gb118 := Nat.ne_of_lt (Nat.lt_of_lt_of_le (by have := World.block_lt_of_cell? _ _ hx120_0; first | rwa [add_block] at this | exact this) GW118.out); have hn120_3 : ad120.block ≠ gb118 := Nat.ne_of_lt (Nat.lt_of_lt_of_le (by have := World.block_lt_of_cell? _ _ hx120_0; first | rwa [add_block] at this | exact this) GW118.out); replace hx120_0 := hC HB.out hx120_0; replace hx120_1 := hC HB.out hx120_1; have HR120_1 := Aside0.mk hi120_1; have HC120_1 := Aside0.mk hl120_1; clear hi120_1 hl120_1; replace hx120_0 := (cell_far (p := ⟨gb118, 0, none⟩) (by first | (rw [add_block]; exact hn120_0) | (show (Addr.add _ _).block ≠ _; rw [add_block]; exact hn120_0) | exact hn120_0) (.int .i64 ((rd_T67 l0 a2).f0))).trans hx120_0; replace hx120_1 := (cell_far (p := ⟨gb118, 0, none⟩) (by first | (rw [add_block]; exact hn120_0) | (show (Addr.add _ _).block ≠ _; rw [add_block]; exact hn120_0) | exact hn120_0) (.int .i64 ((rd_T67 l0 a2).f0))).trans hx120_1; replace hx120_0 := (cell_far (p := ⟨gb118, 1, none⟩) (by first | (rw [add_block]; exact hn120_1) | (show (Addr.add _ _).block ≠ _; rw [add_block]; exact hn120_1) | exact hn120_1) (.int .i64 ((rd_T67 l0 a2).f1))).trans hx120_0; replace hx120_1 := (cell_far (p := ⟨gb118, 1, none⟩) (by first | (rw [add_block]; exact hn120_1) | (show (Addr.add _ _).block ≠ _; rw [add_block]; exact hn120_1) | exact hn120_1) (.int .i64 ((rd_T67 l0 a2).f1))).trans hx120_1; replace hx120_0 := (cell_far (p := ⟨gb118, 2, none⟩) (by first | (rw [add_block]; exact hn120_2) | (show (Addr.add _ _).block ≠ _; rw [add_block]; exact hn120_2) | exact hn120_2) (.int .i64 ((rd_T67 l0 a2).f2))).trans hx120_0; replace hx120_1 := (cell_far (p := ⟨gb118, 2, none⟩) (by first | (rw [add_block]; exact hn120_2) | (show (Addr.add _ _).block ≠ _; rw [add_block]; exact hn120_2) | exact hn120_2) (.int .i64 ((rd_T67 l0 a2).f2))).trans hx120_1; replace hx120_0 := (cell_far (p := ⟨gb118, 3, none⟩) (by first | (rw [add_block]; exact hn120_3) | (show (Addr.add _ _).block ≠ _; rw [add_block]; exact hn120_3) | exact hn120_3) (.int .i64 ((rd_T67 l0 a2).f3))).trans hx120_0; replace hx120_1 := (cell_far (p := ⟨gb118, 3, none⟩) (by first | (rw [add_block]; exact hn120_3) | (show (Addr.add _ _).block ≠ _; rw [add_block]; exact hn120_3) | exact hn120_3) (.int .i64 ((rd_T67 l0 a2).f3))).trans hx120_1; (try have hy120_0 := fun (n_ : Nat) => (show ((((((w15.drewN n_).setCell ⟨gb118, 0, none⟩ (.int .i64 ((rd_T67 l0 a2).f0))).setCell ⟨gb118, 1, none⟩ (.int .i64 ((rd_T67 l0 a2).f1))).setCell ⟨gb118, 2, none⟩ (.int .i64 ((rd_T67 l0 a2).f2))).setCell ⟨gb118, 3, none⟩ (.int .i64 ((rd_T67 l0 a2).f3)))).cell? _ = some _ from hx120_0)); (try have hy120_1 := fun (n_ : Nat) => (show ((((((w15.drewN n_).setCell ⟨gb118, 0, none⟩ (.int .i64 ((rd_T67 l0 a2).f0))).setCell ⟨gb118, 1, none⟩ (.int .i64 ((rd_T67 l0 a2).f1))).setCell ⟨gb118, 2, none⟩ (.int .i64 ((rd_T67 l0 a2).f2))).setCell ⟨gb118, 3, none⟩ (.int .i64 ((rd_T67 l0 a2).f3)))).cell? _ = some _ from hx120_1)); clear hn120_0; clear hn120_1; clear hn120_2; clear hn120_3; replace p120 := eq_true p120; replace q120 := eq_true q120))); (repeat (go_quiet (first | (go_at_call 60; (try simp only [i64_w]); (with_reducible refine (impl_InRange.calls a2 0 (wrap64 ((l0.length : Int) - 1)) true _ A4.out).mono ?_); rintro e w' ⟨rfl, ⟨nd, rfl⟩⟩; (try first | exact ⟨rfl, _, World.drewN_drewN _ _ _⟩ | exact ⟨rfl, _, Eq.trans (World.drewN_drewN _ _ _) (congrArg (World.drewN _) (Nat.add_assoc _ _ _))⟩); have p117 : 0 ≤ (a2 : Int) := of_decide_eq_true (by assumption); have q117 : a2 < (l0.length : Int) := of_decide_eq_true (by assumption); obtain ⟨ad117, e117, hx117_0, hx117_1, hx117_2, hx117_3⟩ := at_T67 HR0.out a2 p117 q117; cases e117; replace p117 := eq_true p117; replace q117 := eq_true q117) | ((with_reducible refine gate_dst (N := 7) rfl ?_); (try (refine gate_guard (by rfl) ?_; dsimp only)); refine box_event ?hg (N := 7) ?hd (cs := #[.int .i64 0, .int .i64 0, .int .i64 0, .int .i64 0]) (t := 67) ?hr ?_; (case hd => rfl); (case hg => rfl); (case hr => first | (go_simp; done) | (go_simp; rfl)); intro gb118 hg w15 hbox hb; have n0_ := bS hb; have n1_ := Aside0.mk (hbox); have n2_ : Aside0 (w.heap.size ≤ gb118) := bZ hg; have n3_ : Aside0 (w.heap.size ≤ gb118) := bZ hg; clear HB; have HB := n0_; have BK118 := n1_; have GW118 := n2_; have GE118 := n3_; clear n0_ n1_ n2_ n3_; clear hb hbox hg; obtain ⟨hcz16_0, hcz16_1, hcz16_2, hcz16_3, hfz16_0, hfz16_1, hfz16_2, hfz16_3⟩ := zc4 BK118.out) | (go_at_call 60; (try simp only [i64_w]); (with_reducible refine (impl_InRange.calls ((rd_T67 l0 a2).f2) 0 (wrap64 ((l1.length : Int) - 1)) true _ A11.out).mono ?_); rintro e w' ⟨rfl, ⟨nd, rfl⟩⟩; (try first | exact ⟨rfl, _, World.drewN_drewN _ _ _⟩ | exact ⟨rfl, _, Eq.trans (World.drewN_drewN _ _ _) (congrArg (World.drewN _) (Nat.add_assoc _ _ _))⟩); have p120 : 0 ≤ (((rd_T67 l0 a2).f2) : Int) := of_decide_eq_true (by assumption); have q120 : ((rd_T67 l0 a2).f2) < (l1.length : Int) := of_decide_eq_true (by assumption); obtain ⟨ad120, A120_1, c120_1, e120, hx120_0, hx120_1, hl120_1, hi120_1⟩ := at_T63 HR1.out ((rd_T67 l0 a2).f2) p120 q120; cases e120; have hn120_0 : ad120.block ≠ gb118 := Nat.ne_of_lt (Nat.lt_of_lt_of_le (by have := World.block_lt_of_cell? _ _ hx120_0; first | rwa [add_block] at this | exact this) GW118.out); have hn120_1 : ad120.block ≠ gb118 := Nat.ne_of_lt (Nat.lt_of_lt_of_le (by have := World.block_lt_of_cell? _ _ hx120_0; first | rwa [add_block] at this | exact this) GW118.out); have hn120_2 : ad120.block ≠ gb118 := Nat.ne_of_lt (Nat.lt_of_lt_of_le (by have := World.block_lt_of_cell? _ _ hx120_0; first | rwa [add_block] at this | exact this) GW118.out); have hn120_3 : ad120.block ≠ gb118 := Nat.ne_of_lt (Nat.lt_of_lt_of_le (by have := World.block_lt_of_cell? _ _ hx120_0; first | rwa [add_block] at this | exact this) GW118.out); replace hx120_0 := hC HB.out hx120_0; replace hx120_1 := hC HB.out hx120_1; have HR120_1 := Aside0.mk hi120_1; have HC120_1 := Aside0.mk hl120_1; clear hi120_1 hl120_1; replace hx120_0 := (cell_far (p := ⟨gb118, 0, none⟩) (by first | (rw [add_block]; exact hn120_0) | (show (Addr.add _ _).block ≠ _; rw [add_block]; exact hn120_0) | exact hn120_0) (.int .i64 ((rd_T67 l0 a2).f0))).trans hx120_0; replace hx120_1 := (cell_far (p := ⟨gb118, 0, none⟩) (by first | (rw [add_block]; exact hn120_0) | (show (Addr.add _ _).block ≠ _; rw [add_block]; exact hn120_0) | exact hn120_0) (.int .i64 ((rd_T67 l0 a2).f0))).trans hx120_1; replace hx120_0 := (cell_far (p := ⟨gb118, 1, none⟩) (by first | (rw [add_block]; exact hn120_1) | (show (Addr.add _ _).block ≠ _; rw [add_block]; exact hn120_1) | exact hn120_1) (.int .i64 ((rd_T67 l0 a2).f1))).trans hx120_0; replace hx120_1 := (cell_far (p := ⟨gb118, 1, none⟩) (by first | (rw [add_block]; exact hn120_1) | (show (Addr.add _ _).block ≠ _; rw [add_block]; exact hn120_1) | exact hn120_1) (.int .i64 ((rd_T67 l0 a2).f1))).trans hx120_1; replace hx120_0 := (cell_far (p := ⟨gb118, 2, none⟩) (by first | (rw [add_block]; exact hn120_2) | (show (Addr.add _ _).block ≠ _; rw [add_block]; exact hn120_2) | exact hn120_2) (.int .i64 ((rd_T67 l0 a2).f2))).trans hx120_0; replace hx120_1 := (cell_far (p := ⟨gb118, 2, none⟩) (by first | (rw [add_block]; exact hn120_2) | (show (Addr.add _ _).block ≠ _; rw [add_block]; exact hn120_2) | exact hn120_2) (.int .i64 ((rd_T67 l0 a2).f2))).trans hx120_1; replace hx120_0 := (cell_far (p := ⟨gb118, 3, none⟩) (by first | (rw [add_block]; exact hn120_3) | (show (Addr.add _ _).block ≠ _; rw [add_block]; exact hn120_3) | exact hn120_3) (.int .i64 ((rd_T67 l0 a2).f3))).trans hx120_0; replace hx120_1 := (cell_far (p := ⟨gb118, 3, none⟩) (by first | (rw [add_block]; exact hn120_3) | (show (Addr.add _ _).block ≠ _; rw [add_block]; exact hn120_3) | exact hn120_3) (.int .i64 ((rd_T67 l0 a2).f3))).trans hx120_1; (try have hy120_0 := fun (n_ : Nat) => (show ((((((w15.drewN n_).setCell ⟨gb118, 0, none⟩ (.int .i64 ((rd_T67 l0 a2).f0))).setCell ⟨gb118, 1, none⟩ (.int .i64 ((rd_T67 l0 a2).f1))).setCell ⟨gb118, 2, none⟩ (.int .i64 ((rd_T67 l0 a2).f2))).setCell ⟨gb118, 3, none⟩ (.int .i64 ((rd_T67 l0 a2).f3)))).cell? _ = some _ from hx120_0)); (try have hy120_1 := fun (n_ : Nat) => (show ((((((w15.drewN n_).setCell ⟨gb118, 0, none⟩ (.int .i64 ((rd_T67 l0 a2).f0))).setCell ⟨gb118, 1, none⟩ (.int .i64 ((rd_T67 l0 a2).f1))).setCell ⟨gb118, 2, none⟩ (.int .i64 ((rd_T67 l0 a2).f2))).setCell ⟨gb118, 3, none⟩ (.int .i64 ((rd_T67 l0 a2).f3)))).cell? _ = some _ from hx120_1)); clear hn120_0; clear hn120_1; clear hn120_2; clear hn120_3; replace p120 := eq_true p120; replace q120 := eq_true q120)); try go_wp2_with (first | (go_at_call 60; (try simp only [i64_w]); (with_reducible refine (impl_InRange.calls a2 0 (wrap64 ((l0.length : Int) - 1)) true _ A4.out).mono ?_); rintro e w' ⟨rfl, ⟨nd, rfl⟩⟩; (try first | exact ⟨rfl, _, World.drewN_drewN _ _ _⟩ | exact ⟨rfl, _, Eq.trans (World.drewN_drewN _ _ _) (congrArg (World.drewN _) (Nat.add_assoc _ _ _))⟩); have p117 : 0 ≤ (a2 : Int) := of_decide_eq_true (by assumption); have q117 : a2 < (l0.length : Int) := of_decide_eq_true (by assumption); obtain ⟨ad117, e117, hx117_0, hx117_1, hx117_2, hx117_3⟩ := at_T67 HR0.out a2 p117 q117; cases e117; replace p117 := eq_true p117; replace q117 := eq_true q117) | ((with_reducible refine gate_dst (N := 7) rfl ?_); (try (refine gate_guard (by rfl) ?_; dsimp only)); refine box_event ?hg (N := 7) ?hd (cs := #[.int .i64 0, .int .i64 0, .int .i64 0, .int .i64 0]) (t := 67) ?hr ?_; (case hd => rfl); (case hg => rfl); (case hr => first | (go_simp; done) | (go_simp; rfl)); intro gb118 hg w15 hbox hb; have n0_ := bS hb; have n1_ := Aside0.mk (hbox); have n2_ : Aside0 (w.heap.size ≤ gb118) := bZ hg; have n3_ : Aside0 (w.heap.size ≤ gb118) := bZ hg; clear HB; have HB := n0_; have BK118 := n1_; have GW118 := n2_; have GE118 := n3_; clear n0_ n1_ n2_ n3_; clear hb hbox hg; obtain ⟨hcz16_0, hcz16_1, hcz16_2, hcz16_3, hfz16_0, hfz16_1, hfz16_2, hfz16_3⟩ := zc4 BK118.out) | (go_at_call 60; (try simp only [i64_w]); (with_reducible refine (impl_InRange.calls ((rd_T67 l0 a2).f2) 0 (wrap64 ((l1.length : Int) - 1)) true _ A11.out).mono ?_); rintro e w' ⟨rfl, ⟨nd, rfl⟩⟩; (try first | exact ⟨rfl, _, World.drewN_drewN _ _ _⟩ | exact ⟨rfl, _, Eq.trans (World.drewN_drewN _ _ _) (congrArg (World.drewN _) (Nat.add_assoc _ _ _))⟩); have p120 : 0 ≤ (((rd_T67 l0 a2).f2) : Int) := of_decide_eq_true (by assumption); have q120 : ((rd_T67 l0 a2).f2) < (l1.length : Int) := of_decide_eq_true (by assumption); obtain ⟨ad120, A120_1, c120_1, e120, hx120_0, hx120_1, hl120_1, hi120_1⟩ := at_T63 HR1.out ((rd_T67 l0 a2).f2) p120 q120; cases e120; have hn120_0 : ad120.block ≠ gb118 := Nat.ne_of_lt (Nat.lt_of_lt_of_le (by have := World.block_lt_of_cell? _ _ hx120_0; first | rwa [add_block] at this | exact this) GW118.out); have hn120_1 : ad120.block ≠ gb118 := Nat.ne_of_lt (Nat.lt_of_lt_of_le (by have := World.block_lt_of_cell? _ _ hx120_0; first | rwa [add_block] at this | exact this) GW118.out); have hn120_2 : ad120.block ≠ gb118 := Nat.ne_of_lt (Nat.lt_of_lt_of_le (by have := World.block_lt_of_cell? _ _ hx120_0; first | rwa [add_block] at this | exact this) GW118.out); have hn120_3 : ad120.block ≠ gb118 := Nat.ne_of_lt (Nat.lt_of_lt_of_le (by have := World.block_lt_of_cell? _ _ hx120_0; first | rwa [add_block] at this | exact this) GW118.out); replace hx120_0 := hC HB.out hx120_0; replace hx120_1 := hC HB.out hx120_1; have HR120_1 := Aside0.mk hi120_1; have HC120_1 := Aside0.mk hl120_1; clear hi120_1 hl120_1; replace hx120_0 := (cell_far (p := ⟨gb118, 0, none⟩) (by first | (rw [add_block]; exact hn120_0) | (show (Addr.add _ _).block ≠ _; rw [add_block]; exact hn120_0) | exact hn120_0) (.int .i64 ((rd_T67 l0 a2).f0))).trans hx120_0; replace hx120_1 := (cell_far (p := ⟨gb118, 0, none⟩) (by first | (rw [add_block]; exact hn120_0) | (show (Addr.add _ _).block ≠ _; rw [add_block]; exact hn120_0) | exact hn120_0) (.int .i64 ((rd_T67 l0 a2).f0))).trans hx120_1; replace hx120_0 := (cell_far (p := ⟨gb118, 1, none⟩) (by first | (rw [add_block]; exact hn120_1) | (show (Addr.add _ _).block ≠ _; rw [add_block]; exact hn120_1) | exact hn120_1) (.int .i64 ((rd_T67 l0 a2).f1))).trans hx120_0; replace hx120_1 := (cell_far (p := ⟨gb118, 1, none⟩) (by first | (rw [add_block]; exact hn120_1) | (show (Addr.add _ _).block ≠ _; rw [add_block]; exact hn120_1) | exact hn120_1) (.int .i64 ((rd_T67 l0 a2).f1))).trans hx120_1; replace hx120_0 := (cell_far (p := ⟨gb118, 2, none⟩) (by first | (rw [add_block]; exact hn120_2) | (show (Addr.add _ _).block ≠ _; rw [add_block]; exact hn120_2) | exact hn120_2) (.int .i64 ((rd_T67 l0 a2).f2))).trans hx120_0; replace hx120_1 := (cell_far (p := ⟨gb118, 2, none⟩) (by first | (rw [add_block]; exact hn120_2) | (show (Addr.add _ _).block ≠ _; rw [add_block]; exact hn120_2) | exact hn120_2) (.int .i64 ((rd_T67 l0 a2).f2))).trans hx120_1; replace hx120_0 := (cell_far (p := ⟨gb118, 3, none⟩) (by first | (rw [add_block]; exact hn120_3) | (show (Addr.add _ _).block ≠ _; rw [add_block]; exact hn120_3) | exact hn120_3) (.int .i64 ((rd_T67 l0 a2).f3))).trans hx120_0; replace hx120_1 := (cell_far (p := ⟨gb118, 3, none⟩) (by first | (rw [add_block]; exact hn120_3) | (show (Addr.add _ _).block ≠ _; rw [add_block]; exact hn120_3) | exact hn120_3) (.int .i64 ((rd_T67 l0 a2).f3))).trans hx120_1; (try have hy120_0 := fun (n_ : Nat) => (show ((((((w15.drewN n_).setCell ⟨gb118, 0, none⟩ (.int .i64 ((rd_T67 l0 a2).f0))).setCell ⟨gb118, 1, none⟩ (.int .i64 ((rd_T67 l0 a2).f1))).setCell ⟨gb118, 2, none⟩ (.int .i64 ((rd_T67 l0 a2).f2))).setCell ⟨gb118, 3, none⟩ (.int .i64 ((rd_T67 l0 a2).f3)))).cell? _ = some _ from hx120_0)); (try have hy120_1 := fun (n_ : Nat) => (show ((((((w15.drewN n_).setCell ⟨gb118, 0, none⟩ (.int .i64 ((rd_T67 l0 a2).f0))).setCell ⟨gb118, 1, none⟩ (.int .i64 ((rd_T67 l0 a2).f1))).setCell ⟨gb118, 2, none⟩ (.int .i64 ((rd_T67 l0 a2).f2))).setCell ⟨gb118, 3, none⟩ (.int .i64 ((rd_T67 l0 a2).f3)))).cell? _ = some _ from hx120_1)); clear hn120_0; clear hn120_1; clear hn120_2; clear hn120_3; replace p120 := eq_true p120; replace q120 := eq_true q120)))); go_ret; (exact ⟨by first | rfl | (simp [errW_none, errW_some] <;> rfl) | (simp [*, errW_none, errW_some] <;> rfl), by repeat (first | (with_reducible first | exact HB.out | apply below_alloc | apply pw_below_drewN | apply below_drew1 | refine below_set ?_ GE118.out) | exact HB.out)⟩)); (· rw [if_neg c14] at H; (exact absurd H (by simp)))
            · rw [if_neg c13] at H; (exact absurd H (by simp))
          · replace c12 := Bool.eq_false_iff.mpr c12; subst c12; (have H1 : (some false) = some r := by rw [if_neg (show ¬ (false = true) by decide)] at H; exact H); clear H; have H := H1; clear H1; obtain rfl := Option.some.inj H; go_enter Try.func56, Try.ntmps56; (go_wp2_with (first | (go_at_call 60; (try simp only [i64_w]); (with_reducible refine (impl_InRange.calls a2 0 (wrap64 ((l0.length : Int) - 1)) true _ A4.out).mono ?_); rintro e w' ⟨rfl, ⟨nd, rfl⟩⟩; (try first | exact ⟨rfl, _, World.drewN_drewN _ _ _⟩ | exact ⟨rfl, _, Eq.trans (World.drewN_drewN _ _ _) (congrArg (World.drewN _) (Nat.add_assoc _ _ _))⟩); have p117 : 0 ≤ (a2 : Int) := of_decide_eq_true (by assumption); have q117 : a2 < (l0.length : Int) := of_decide_eq_true (by assumption); obtain ⟨ad117, e117, hx117_0, hx117_1, hx117_2, hx117_3⟩ := at_T67 HR0.out a2 p117 q117; cases e117; replace p117 := eq_true p117; replace q117 := eq_true q117) | ((with_reducible refine gate_dst (N := 7) rfl ?_); (try (refine gate_guard (by rfl) ?_; dsimp only)); refine box_event ?hg (N := 7) ?hd (cs := #[.int .i64 0, .int .i64 0, .int .i64 0, .int .i64 0]) (t := 67) ?hr ?_; (case hd => rfl); (case hg => rfl); (case hr => first | (go_simp; done) | (go_simp; rfl)); intro gb118 hg w17 hbox hb; have n0_ := bS hb; have n1_ := Aside0.mk (hbox); have n2_ : Aside0 (w.heap.size ≤ gb118) := bZ hg; have n3_ : Aside0 (w.heap.size ≤ gb118) := bZ hg; clear HB; have HB := n0_; have BK118 := n1_; have GW118 := n2_; have GE118 := n3_; clear n0_ n1_ n2_ n3_; clear hb hbox hg; obtain ⟨hcz18_0, hcz18_1, hcz18_2, hcz18_3, hfz18_0, hfz18_1, hfz18_2, hfz18_3⟩ := zc4 BK118.out) | (go_at_call 60; (try simp only [i64_w]); (with_reducible refine (impl_InRange.calls ((rd_T67 l0 a2).f2) 0 (wrap64 ((l1.length : Int) - 1)) false _ A11.out).mono ?_); rintro e w' ⟨rfl, ⟨nd, rfl⟩⟩; (try first | exact ⟨rfl, _, World.drewN_drewN _ _ _⟩ | exact ⟨rfl, _, Eq.trans (World.drewN_drewN _ _ _) (congrArg (World.drewN _) (Nat.add_assoc _ _ _))⟩)))); (repeat (go_quiet (first | (go_at_call 60; (try simp only [i64_w]); (with_reducible refine (impl_InRange.calls a2 0 (wrap64 ((l0.length : Int) - 1)) true _ A4.out).mono ?_); rintro e w' ⟨rfl, ⟨nd, rfl⟩⟩; (try first | exact ⟨rfl, _, World.drewN_drewN _ _ _⟩ | exact ⟨rfl, _, Eq.trans (World.drewN_drewN _ _ _) (congrArg (World.drewN _) (Nat.add_assoc _ _ _))⟩); have p117 : 0 ≤ (a2 : Int) := of_decide_eq_true (by assumption); have q117 : a2 < (l0.length : Int) := of_decide_eq_true (by assumption); obtain ⟨ad117, e117, hx117_0, hx117_1, hx117_2, hx117_3⟩ := at_T67 HR0.out a2 p117 q117; cases e117; replace p117 := eq_true p117; replace q117 := eq_true q117) | ((with_reducible refine gate_dst (N := 7) rfl ?_); (try (refine gate_guard (by rfl) ?_; dsimp only)); refine box_event ?hg (N := 7) ?hd (cs := #[.int .i64 0, .int .i64 0, .int .i64 0, .int .i64 0]) (t := 67) ?hr ?_; (case hd => rfl); (case hg => rfl); (case hr => first | (go_simp; done) | (go_simp; rfl)); intro gb118 hg w17 hbox hb; have n0_ := bS hb; have n1_ := Aside0.mk (hbox); have n2_ : Aside0 (w.heap.size ≤ gb118) := bZ hg; have n3_ : Aside0 (w.heap.size ≤ gb118) := bZ hg; clear HB; have HB := n0_; have BK118 := n1_; have GW118 := n2_; have GE118 := n3_; clear n0_ n1_ n2_ n3_; clear hb hbox hg; obtain ⟨hcz18_0, hcz18_1, hcz18_2, hcz18_3, hfz18_0, hfz18_1, hfz18_2, hfz18_3⟩ := zc4 BK118.out) | (go_at_call 60; (try simp only [i64_w]); (with_reducible refine (impl_InRange.calls ((rd_T67 l0 a2).f2) 0 (wrap64 ((l1.length : Int) - 1)) false _ A11.out).mono ?_); rintro e w' ⟨rfl, ⟨nd, rfl⟩⟩; (try first | exact ⟨rfl, _, World.drewN_drewN _ _ _⟩ | exact ⟨rfl, _, Eq.trans (World.drewN_drewN _ _ _) (congrArg (World.drewN _) (Nat.add_assoc _ _ _))⟩))); try go_wp2_with (first | (go_at_call 60; (try simp only [i64_w]); (with_reducible refine (impl_InRange.calls a2 0 (wrap64 ((l0.length : Int) - 1)) true _ A4.out).mono ?_); rintro e w' ⟨rfl, ⟨nd, rfl⟩⟩; (try first | exact ⟨rfl, _, World.drewN_drewN _ _ _⟩ | exact ⟨rfl, _, Eq.trans (World.drewN_drewN _ _ _) (congrArg (World.drewN _) (Nat.add_assoc _ _ _))⟩); have p117 : 0 ≤ (a2 : Int) := of_decide_eq_true (by assumption); have q117 : a2 < (l0.length : Int) := of_decide_eq_true (by assumption); obtain ⟨ad117, e117, hx117_0, hx117_1, hx117_2, hx117_3⟩ := at_T67 HR0.out a2 p117 q117; cases e117; replace p117 := eq_true p117; replace q117 := eq_true q117) | ((with_reducible refine gate_dst (N := 7) rfl ?_); (try (refine gate_guard (by rfl) ?_; dsimp only)); refine box_event ?hg (N := 7) ?hd (cs := #[.int .i64 0, .int .i64 0, .int .i64 0, .int .i64 0]) (t := 67) ?hr ?_; (case hd => rfl); (case hg => rfl); (case hr => first | (go_simp; done) | (go_simp; rfl)); intro gb118 hg w17 hbox hb; have n0_ := bS hb; have n1_ := Aside0.mk (hbox); have n2_ : Aside0 (w.heap.size ≤ gb118) := bZ hg; have n3_ : Aside0 (w.heap.size ≤ gb118) := bZ hg; clear HB; have HB := n0_; have BK118 := n1_; have GW118 := n2_; have GE118 := n3_; clear n0_ n1_ n2_ n3_; clear hb hbox hg; obtain ⟨hcz18_0, hcz18_1, hcz18_2, hcz18_3, hfz18_0, hfz18_1, hfz18_2, hfz18_3⟩ := zc4 BK118.out) | (go_at_call 60; (try simp only [i64_w]); (with_reducible refine (impl_InRange.calls ((rd_T67 l0 a2).f2) 0 (wrap64 ((l1.length : Int) - 1)) false _ A11.out).mono ?_); rintro e w' ⟨rfl, ⟨nd, rfl⟩⟩; (try first | exact ⟨rfl, _, World.drewN_drewN _ _ _⟩ | exact ⟨rfl, _, Eq.trans (World.drewN_drewN _ _ _) (congrArg (World.drewN _) (Nat.add_assoc _ _ _))⟩))))); go_ret; (exact ⟨by first | rfl | (simp [errW_none, errW_some] <;> rfl) | (simp [*, errW_none, errW_some] <;> rfl), by repeat (first | (with_reducible first | exact HB.out | apply below_alloc | apply pw_below_drewN | apply below_drew1 | refine below_set ?_ GE118.out) | exact HB.out)⟩)
      · rw [if_neg c7] at H
        exact absurd H (by simp)
    · rw [if_neg c6] at H
      exact absurd H (by simp)
  · replace c5 := Bool.eq_false_iff.mpr c5
    subst c5
    have H1 : (some false) = some r := by rw [if_neg (show ¬ (false = true) by decide)] at H; exact H
    clear H
    have H := H1
    clear H1
    obtain rfl := Option.some.inj H
    go_enter Try.func56, Try.ntmps56
    go_wp2_with (first | (go_at_call 60; (try simp only [i64_w]); (with_reducible refine (impl_InRange.calls a2 0 (wrap64 ((l0.length : Int) - 1)) false _ A4.out).mono ?_); rintro e w' ⟨rfl, ⟨nd, rfl⟩⟩; (try first | exact ⟨rfl, _, World.drewN_drewN _ _ _⟩ | exact ⟨rfl, _, Eq.trans (World.drewN_drewN _ _ _) (congrArg (World.drewN _) (Nat.add_assoc _ _ _))⟩)))
    repeat (go_quiet (first | (go_at_call 60; (try simp only [i64_w]); (with_reducible refine (impl_InRange.calls a2 0 (wrap64 ((l0.length : Int) - 1)) false _ A4.out).mono ?_); rintro e w' ⟨rfl, ⟨nd, rfl⟩⟩; (try first | exact ⟨rfl, _, World.drewN_drewN _ _ _⟩ | exact ⟨rfl, _, Eq.trans (World.drewN_drewN _ _ _) (congrArg (World.drewN _) (Nat.add_assoc _ _ _))⟩))); try go_wp2_with (first | (go_at_call 60; (try simp only [i64_w]); (with_reducible refine (impl_InRange.calls a2 0 (wrap64 ((l0.length : Int) - 1)) false _ A4.out).mono ?_); rintro e w' ⟨rfl, ⟨nd, rfl⟩⟩; (try first | exact ⟨rfl, _, World.drewN_drewN _ _ _⟩ | exact ⟨rfl, _, Eq.trans (World.drewN_drewN _ _ _) (congrArg (World.drewN _) (Nat.add_assoc _ _ _))⟩))))
    go_ret
    exact ⟨by first | rfl | (simp [errW_none, errW_some] <;> rfl) | (simp [*, errW_none, errW_some] <;> rfl), by repeat (first | (with_reducible first | exact HB.out | apply below_alloc | apply pw_below_drewN | apply below_drew1) | exact HB.out)⟩

/-! ### impl_areNumbers_1: function 92 -/
def impl_areNumbers_1.f (a0 : Int) (a1 : Int) (a2 : Int) : Option (Bool) := (impl_InRange.f a0 a1 a2).bind fun t101 => (some (!t101))
set_option maxHeartbeats 8000000 in
set_option maxRecDepth 100000 in
theorem impl_areNumbers_1.calls (a0 : Int) (a1 : Int) (a2 : Int) (r : Bool) (w : World) (g1 g2 : Nat) (hg1 : w.heap[g1]? = some (.cells #[.int .i64 a1] 3 (0, 0))) (hg2 : w.heap[g2]? = some (.cells #[.int .i64 a2] 3 (0, 0))) (h : impl_areNumbers_1.f a0 a1 a2 = some r) :
    Calls Try.prog 92 #[.int .i64 a0, .pointer (some ⟨g1, 0, none⟩), .pointer (some ⟨g2, 0, none⟩)] w fun e w' => e = .returned (.bool r) ∧ Drawn0 w w' := by
  unfold impl_areNumbers_1.f at h
  replace h := Option.bind_eq_some_iff.mp h
  obtain ⟨t101, A20, H⟩ := h
  obtain rfl := Option.some.inj H
  have A2 := Aside0.mk A20
  clear A20 H
  have hc1 : w.cell? ⟨g1, 0, none⟩ = some (.int .i64 a1) := (blk_cell hg1 0).trans rfl
  have hc2 : w.cell? ⟨g2, 0, none⟩ = some (.int .i64 a2) := (blk_cell hg2 0).trans rfl
  clear hg1 hg2
  go_enter Try.func92, Try.ntmps92
  go_wp2_with (first | ((with_reducible refine gate_callee (f := 60) rfl ?_); refine goesL_ (some 8) rfl rfl Try.func60 (by kernel_rfl) rfl #[.int .i64 a0, .int .i64 a1, .int .i64 a2] rfl (by (try simp only [List.map_toArray, List.map_cons, List.map_nil]); first | done | rfl | (simp only [List.length_drop, List.length_take]; rfl)) ?_; (with_reducible refine (impl_InRange.calls a0 a1 a2 t101 _ A2.out).mono ?_); rintro e w' ⟨rfl, ⟨nd, rfl⟩⟩; refine ⟨_, rfl, ?_⟩))
  go_ret
  exact ⟨by first | rfl | (simp; done) | (simp [*]; done), by repeat (first | exact Drawn0.refl _ | apply Drawn0.step)⟩

/-! ### slices_IndexFunc_int_int: function 94 -/
def slices_IndexFunc_int_int.l0 : Nat → List Int → Int → Int → Int → Int → Option (Int)
  | 0, _, _, _, _, _ => none
  | k + 1, x0, x1, x2, x7, x8 => if x8 < x7 then (if 0 ≤ x8 then (if x8 < (x0.length : Int) then ((impl_areNumbers_1.f (rd x0 x8) x1 x2).bind fun t122 => (if t122 = true then (some x8) else (slices_IndexFunc_int_int.l0 k x0 x1 x2 x7 (wrap64 (x8 + 1))))) else (none)) else (none)) else (some (-1))
def slices_IndexFunc_int_int.f (k : Nat) (l0 : List Int) (a1 : Int) (a2 : Int) : Option (Int) := slices_IndexFunc_int_int.l0 k l0 a1 a2 (l0.length : Int) 0
theorem slices_IndexFunc_int_int.mono_l : ∀ k, (∀ y0 y1 y2 y3 y4, LeO (slices_IndexFunc_int_int.l0 k y0 y1 y2 y3 y4) (slices_IndexFunc_int_int.l0 (k + 1) y0 y1 y2 y3 y4))
  | 0 => fun _ _ _ _ _ r h => by simp [slices_IndexFunc_int_int.l0] at h
  | k + 1 => by
    have ih0 := slices_IndexFunc_int_int.mono_l k
    · intro y0 y1 y2 y3 y4
      unfold slices_IndexFunc_int_int.l0
      repeat' first
      | (with_reducible exact ih0 _ _ _ _ _)
      | (with_reducible exact LeO.refl _)
      | (with_reducible exact LeO.none _)
      | (with_reducible refine LeO.ite ?_ ?_)
      | (with_reducible refine LeO.bind ?_ (fun _ => ?_))
      | exact ih0 _ _ _ _ _
      | exact LeO.none _
      | refine LeO.ite ?_ ?_
      | refine LeO.bind ?_ (fun _ => ?_)
theorem slices_IndexFunc_int_int.mono : ∀ a0 a1 a2 k, LeO (slices_IndexFunc_int_int.f k a0 a1 a2) (slices_IndexFunc_int_int.f (k + 1) a0 a1 a2) := by
  intro a0 a1 a2 k
  have ih0 := slices_IndexFunc_int_int.mono_l k
  unfold slices_IndexFunc_int_int.f
  repeat' first
      | (with_reducible exact ih0 _ _ _ _ _)
      | (with_reducible exact LeO.refl _)
      | (with_reducible exact LeO.none _)
      | (with_reducible refine LeO.ite ?_ ?_)
      | (with_reducible refine LeO.bind ?_ (fun _ => ?_))
      | exact ih0 _ _ _ _ _
      | exact LeO.none _
      | refine LeO.ite ?_ ?_
      | refine LeO.bind ?_ (fun _ => ?_)
set_option maxHeartbeats 8000000 in
set_option maxRecDepth 100000 in
theorem slices_IndexFunc_int_int.calls (k : Nat) (A0 : Option Addr) (c0 : Nat) (l0 : List Int) (a1 : Int) (a2 : Int) (r : Int) (w : World) (g1 g2 : Nat) (hg1 : w.heap[g1]? = some (.cells #[.int .i64 a1] 3 (0, 0))) (hg2 : w.heap[g2]? = some (.cells #[.int .i64 a2] 3 (0, 0))) (hr0 : Kd.C (Kd.int .i64) w A0 l0.length l0) (hc0 : l0.length ≤ c0) (h : slices_IndexFunc_int_int.f k l0 a1 a2 = some r) :
    Calls Try.prog 94 #[.slice A0 l0.length c0, .func (.func 92) #[] #[.pointer (some ⟨g1, 0, none⟩), .pointer (some ⟨g2, 0, none⟩)]] w fun e w' => e = .returned (.int .i64 r) ∧ Drawn0 w w' := by
  have HG1 := Aside0.mk hg1
  have HG2 := Aside0.mk hg2
  clear hg1 hg2
  have HR0 := Aside0.mk hr0
  have HC0 := Aside0.mk hc0
  clear hr0 hc0
  have H : (slices_IndexFunc_int_int.l0 k l0 a1 a2 (l0.length : Int) 0) = some r := h
  clear h
  have H' := Aside0.mk H
  clear H
  go_enter Try.func94, Try.ntmps94
  go_wp2
  go_loopg [8] k (fun kq v8 w' => ∃ (x8_1 : Int), v8 = .int .i64 x8_1 ∧ Aside0 (slices_IndexFunc_int_int.l0 kq l0 a1 a2 (l0.length : Int) x8_1 = some r) ∧ Aside0 (kq ≤ k) ∧ Drawn0 w w')
  case atStart => exact ⟨(0), (by first | rfl | (simp; done) | (simp [*]; done)), H', ⟨Nat.le_refl _⟩, by repeat (first | exact Drawn0.refl _ | apply Drawn0.step)⟩
  case round =>
    clear H'
    try clear p2
    obtain ⟨x8_1, rfl, HA, HK1, ⟨m1, rfl⟩⟩ := hrel
    cases gk with
    | zero => exact absurd HA.out (by simp [slices_IndexFunc_int_int.l0])
    | succ k1 =>
      have H := HA.out
      clear HA
      simp only [slices_IndexFunc_int_int.l0] at H
      by_cases c4 : x8_1 < (l0.length : Int)
      · rw [if_pos c4] at H
        have c4b0 : decide (x8_1 < (l0.length : Int)) = true := decide_eq_true c4
        clear c4
        by_cases c5 : 0 ≤ x8_1
        · rw [if_pos c5] at H
          have c5b0 : decide (0 ≤ x8_1) = true := decide_eq_true c5; clear c5; by_cases c6 : x8_1 < (l0.length : Int)
          · rw [if_pos c6] at H
            have c6b0 : decide (x8_1 < (l0.length : Int)) = true := decide_eq_true c6; clear c6; replace H := Option.bind_eq_some_iff.mp H; obtain ⟨t122, A70, H⟩ := H; replace H : (if t122 = true then (some x8_1) else (slices_IndexFunc_int_int.l0 k1 l0 a1 a2 (l0.length : Int) (wrap64 (x8_1 + 1)))) = some r := H; have A7 := Aside0.mk A70; clear A70; by_cases c8 : t122 = true; (· subst c8; (have H1 : (some x8_1) = some r := by rw [if_pos rfl] at H; exact H); clear H; have H := H1; clear H1; obtain rfl := Option.some.inj H; (have p121 : 0 ≤ (x8_1 : Int) := of_decide_eq_true (by assumption)); (have q121 : x8_1 < (l0.length : Int) := of_decide_eq_true (by assumption)); obtain ⟨ad121, e121, hx121_0⟩ := Kd.at_int HR0.out x8_1 p121 q121; cases e121; replace p121 := eq_true p121; replace q121 := eq_true q121; (go_wp2_with (first | (go_at_call 92; (with_reducible refine (impl_areNumbers_1.calls (rd l0 x8_1) a1 a2 true _ g1 g2 (blk_drewN HG1.out _) (blk_drewN HG2.out _) A7.out).mono ?_); rintro e w' ⟨rfl, ⟨nd, rfl⟩⟩))); go_ret; (exact ⟨by first | rfl | (simp; done) | (simp [*]; done), by repeat (first | exact Drawn0.refl _ | apply Drawn0.step)⟩))
            · replace c8 := Bool.eq_false_iff.mpr c8
              subst c8; (have H1 : (slices_IndexFunc_int_int.l0 k1 l0 a1 a2 (l0.length : Int) (wrap64 (x8_1 + 1))) = some r := by rw [if_neg (show ¬ (false = true) by decide)] at H; exact H); clear H; have H := H1; clear H1; have H' := Aside0.mk H; clear H; (have p121 : 0 ≤ (x8_1 : Int) := of_decide_eq_true (by assumption)); (have q121 : x8_1 < (l0.length : Int) := of_decide_eq_true (by assumption)); obtain ⟨ad121, e121, hx121_0⟩ := Kd.at_int HR0.out x8_1 p121 q121; cases e121; replace p121 := eq_true p121; replace q121 := eq_true q121; (go_wp2_with (first | (go_at_call 92; (with_reducible refine (impl_areNumbers_1.calls (rd l0 x8_1) a1 a2 false _ g1 g2 (blk_drewN HG1.out _) (blk_drewN HG2.out _) A7.out).mono ?_); rintro e w' ⟨rfl, ⟨nd, rfl⟩⟩))); go_roundg k1
              case measure => have := HK1.out; omega
              case rel => exact ⟨(wrap64 (x8_1 + 1)), (by first | rfl | (simp; done) | (simp [*]; done)), H', ⟨by have := HK1.out; omega⟩, by repeat (first | exact Drawn0.refl _ | apply Drawn0.step)⟩
          · rw [if_neg c6] at H; (exact absurd H (by simp))
        · rw [if_neg c5] at H
          exact absurd H (by simp)
      · rw [if_neg c4] at H
        have c4b0 : decide (x8_1 < (l0.length : Int)) = false := decide_eq_false c4
        clear c4
        obtain rfl := Option.some.inj H
        go_wp2
        go_ret
        exact ⟨by first | rfl | (simp; done) | (simp [*]; done), by repeat (first | exact Drawn0.refl _ | apply Drawn0.step)⟩

/-! ### slices_ContainsFunc_int_int: function 91 -/
def slices_ContainsFunc_int_int.f (k : Nat) (l0 : List Int) (a1 : Int) (a2 : Int) : Option (Bool) := (slices_IndexFunc_int_int.f k l0 a1 a2).bind fun t123 => (some (decide (t123 ≥ 0)))
theorem slices_ContainsFunc_int_int.mono : ∀ a0 a1 a2 k, LeO (slices_ContainsFunc_int_int.f k a0 a1 a2) (slices_ContainsFunc_int_int.f (k + 1) a0 a1 a2) := by
  intro a0 a1 a2 k
  unfold slices_ContainsFunc_int_int.f
  repeat' first
      | (with_reducible exact slices_IndexFunc_int_int.mono _ _ _ _)
      | (with_reducible exact LeO.refl _)
      | (with_reducible exact LeO.none _)
      | (with_reducible refine LeO.ite ?_ ?_)
      | (with_reducible refine LeO.bind ?_ (fun _ => ?_))
      | exact slices_IndexFunc_int_int.mono _ _ _ _
      | exact LeO.none _
      | refine LeO.ite ?_ ?_
      | refine LeO.bind ?_ (fun _ => ?_)
set_option maxHeartbeats 8000000 in
set_option maxRecDepth 100000 in
theorem slices_ContainsFunc_int_int.calls (k : Nat) (A0 : Option Addr) (c0 : Nat) (l0 : List Int) (a1 : Int) (a2 : Int) (r : Bool) (w : World) (g1 g2 : Nat) (hg1 : w.heap[g1]? = some (.cells #[.int .i64 a1] 3 (0, 0))) (hg2 : w.heap[g2]? = some (.cells #[.int .i64 a2] 3 (0, 0))) (hr0 : Kd.C (Kd.int .i64) w A0 l0.length l0) (hc0 : l0.length ≤ c0) (h : slices_ContainsFunc_int_int.f k l0 a1 a2 = some r) :
    Calls Try.prog 91 #[.slice A0 l0.length c0, .func (.func 92) #[] #[.pointer (some ⟨g1, 0, none⟩), .pointer (some ⟨g2, 0, none⟩)]] w fun e w' => e = .returned (.bool r) ∧ Drawn0 w w' := by
  have HG1 := Aside0.mk hg1
  have HG2 := Aside0.mk hg2
  clear hg1 hg2
  have HR0 := Aside0.mk hr0
  have HC0 := Aside0.mk hc0
  clear hr0 hc0
  have H : ((slices_IndexFunc_int_int.f k l0 a1 a2).bind fun t123 => (some (decide (t123 ≥ 0)))) = some r := h
  clear h
  replace H := Option.bind_eq_some_iff.mp H
  obtain ⟨t123, A40, H⟩ := H
  replace H : (some (decide (t123 ≥ 0))) = some r := H
  have A4 := Aside0.mk A40
  clear A40
  obtain rfl := Option.some.inj H
  go_enter Try.func91, Try.ntmps91
  go_wp2_with (first | ((with_reducible refine gate_callee (f := 94) rfl ?_); refine goesL_ (some 7) rfl rfl Try.func94 (by kernel_rfl) rfl #[.slice A0 l0.length c0, .func (.func 92) #[] #[.pointer (some ⟨g1, 0, none⟩), .pointer (some ⟨g2, 0, none⟩)]] rfl (by (try simp only [List.map_toArray, List.map_cons, List.map_nil]); first | done | rfl | (simp only [List.length_drop, List.length_take]; rfl)) ?_; (with_reducible refine (slices_IndexFunc_int_int.calls k _ _ l0 a1 a2 t123 _ g1 g2 HG1.out HG2.out ?side1 ?side2 A4.out).mono ?_); (case side1 => repeat (first | exact HR0.out | (with_reducible refine Kd.C_alloc ?_ _) | (with_reducible refine Kd.C_drewN ?_ _) | (with_reducible refine Kd.C_drew ?_))); (case side2 => exact HC0.out); rintro e w' ⟨rfl, ⟨nd, rfl⟩⟩; refine ⟨_, rfl, ?_⟩))
  go_ret
  exact ⟨by first | rfl | (simp; done) | (simp [*]; done), by repeat (first | exact Drawn0.refl _ | apply Drawn0.step)⟩

/-! ### impl_areNumbers: function 87 -/
def impl_areNumbers.f (k : Nat) (l0 : List Int) (a1 : Int) (a2 : Int) : Option (Bool) := (slices_ContainsFunc_int_int.f k l0 a1 a2).bind fun t101 => (some (!t101))
theorem impl_areNumbers.mono : ∀ a0 a1 a2 k, LeO (impl_areNumbers.f k a0 a1 a2) (impl_areNumbers.f (k + 1) a0 a1 a2) := by
  intro a0 a1 a2 k
  unfold impl_areNumbers.f
  exact LeO.bind (slices_ContainsFunc_int_int.mono _ _ _ _) (fun _ => LeO.refl _)
set_option maxHeartbeats 8000000 in
set_option maxRecDepth 100000 in
theorem impl_areNumbers.calls (k : Nat) (A0 : Option Addr) (c0 : Nat) (l0 : List Int) (a1 : Int) (a2 : Int) (r : Bool) (w : World) (hr0 : Kd.C (Kd.int .i64) w A0 l0.length l0) (hc0 : l0.length ≤ c0) (h : impl_areNumbers.f k l0 a1 a2 = some r) :
    Calls Try.prog 87 #[.slice A0 l0.length c0, .int .i64 a1, .int .i64 a2] w fun e w' => e = .returned (.bool r) ∧ Below w.heap.size w w' := by
  unfold impl_areNumbers.f at h
  replace h := Option.bind_eq_some_iff.mp h
  obtain ⟨t101, A20, H⟩ := h
  obtain rfl := Option.some.inj H
  have A2 := Aside0.mk A20
  clear A20 H
  have HR0 := Aside0.mk hr0
  have HC0 := Aside0.mk hc0
  clear hr0 hc0
  have hmf : ∀ (fn : Fn) (first cap : Array Value) (w : World), (Instr.makeFunc fn first cap).run Try.prog w = .ok (.func fn first cap) w := fun _ _ _ _ => rfl
  have hz : (w.alloc (.cells #[.int .i64 a1] 3 (0, 0))).heap.size = w.heap.size + 1 := by simp
  have HG1 : Aside0 (((w.alloc (.cells #[.int .i64 a1] 3 (0, 0))).alloc (.cells #[.int .i64 a2] 3 (0, 0))).heap[w.heap.size]? = some (.cells #[.int .i64 a1] 3 (0, 0))) := ⟨blk_alloc (blk_new _ _) _⟩
  have HG2 : Aside0 (((w.alloc (.cells #[.int .i64 a1] 3 (0, 0))).alloc (.cells #[.int .i64 a2] 3 (0, 0))).heap[w.heap.size + 1]? = some (.cells #[.int .i64 a2] 3 (0, 0))) := ⟨by have hn := blk_new (w.alloc (.cells #[.int .i64 a1] 3 (0, 0))) (.cells #[.int .i64 a2] 3 (0, 0)); rw [hz] at hn; exact hn⟩
  clear hz
  go_enter Try.func87, Try.ntmps87
  go_wp2_with (first | ((with_reducible refine gate_callee (f := 91) rfl ?_); refine goesL_ (some 9) rfl rfl Try.func91 (by kernel_rfl) rfl #[.slice A0 l0.length c0, .func (.func 92) #[] #[.pointer (some ⟨w.heap.size, 0, none⟩), .pointer (some ⟨w.heap.size + 1, 0, none⟩)]] rfl (by (try simp only [List.map_toArray, List.map_cons, List.map_nil]); first | done | rfl | (simp only [List.length_drop, List.length_take]; rfl)) ?_; (with_reducible refine (slices_ContainsFunc_int_int.calls k _ _ l0 a1 a2 t101 _ w.heap.size (w.heap.size + 1) HG1.out HG2.out (Kd.C_alloc (Kd.C_alloc HR0.out _) _) HC0.out A2.out).mono ?_); rintro e w' ⟨rfl, ⟨nd, rfl⟩⟩; refine ⟨_, rfl, ?_⟩))
  go_ret
  exact ⟨rfl, by repeat (first | (with_reducible first | apply below_alloc | apply pw_below_drewN | apply below_drew1) | exact Below.refl _ _)⟩

/-! ### impl_FitsField: function 72 -/
def impl_FitsField.f (k : Nat) (a0_0 : Int) (a0_1 : Int) (a0_2 : Int) (a0_3 : Int) (a1_0 : Int) (l1_1 : List Int) : Option (Bool) := if a0_0 = 1 then ((impl_InRange.f a1_0 0 a0_1).bind fun t126 => (if t126 = true then (some ((l1_1.length : Int) == 0)) else (some false))) else (if a0_0 = 2 then (if a1_0 = 0 then (if (l1_1.length : Int) ≤ a0_1 then ((impl_areNumbers.f k l1_1 0 255).bind fun t127 => (some t127)) else (some false)) else (some false)) else (if a0_0 = 3 then (if a1_0 = 0 then (if (l1_1.length : Int) ≤ a0_1 then ((impl_areNumbers.f k l1_1 0 99).bind fun t128 => (some t128)) else (some false)) else (some false)) else (some false)))
theorem impl_FitsField.mono : ∀ a0 a1 a2 a3 a4 a5 k, LeO (impl_FitsField.f k a0 a1 a2 a3 a4 a5) (impl_FitsField.f (k + 1) a0 a1 a2 a3 a4 a5) := by
  intro a0 a1 a2 a3 a4 a5 k
  unfold impl_FitsField.f
  repeat' first
      | (with_reducible exact impl_areNumbers.mono _ _ _ _)
      | (with_reducible exact LeO.refl _)
      | (with_reducible exact LeO.none _)
      | (with_reducible refine LeO.ite ?_ ?_)
      | (with_reducible refine LeO.bind ?_ (fun _ => ?_))
      | exact impl_areNumbers.mono _ _ _ _
      | exact LeO.none _
      | refine LeO.ite ?_ ?_
      | refine LeO.bind ?_ (fun _ => ?_)
set_option maxHeartbeats 8000000 in
set_option maxRecDepth 100000 in
theorem impl_FitsField.calls (k : Nat) (a0_0 : Int) (a0_1 : Int) (a0_2 : Int) (a0_3 : Int) (a1_0 : Int) (A1_1 : Option Addr) (c1_1 : Nat) (l1_1 : List Int) (r : Bool) (w : World) (hr1_1 : Kd.C (Kd.int .i64) w A1_1 l1_1.length l1_1) (hc1_1 : l1_1.length ≤ c1_1) (h : impl_FitsField.f k a0_0 a0_1 a0_2 a0_3 a1_0 l1_1 = some r) :
    Calls Try.prog 72 #[.agg #[.int .i64 a0_0, .int .i64 a0_1, .int .i64 a0_2, .int .i64 a0_3], .agg #[.int .i64 a1_0, .slice A1_1 l1_1.length c1_1]] w fun e w' => e = .returned (.bool r) ∧ Below w.heap.size w w' := by
  have hu67 := Try.underlying67
  have hu63 := Try.underlying63
  have HR1_1 := Aside0.mk hr1_1
  have HC1_1 := Aside0.mk hc1_1
  clear hr1_1 hc1_1
  have HB := Aside0.mk (Below.refl w.heap.size w)
  have H : (if a0_0 = 1 then ((impl_InRange.f a1_0 0 a0_1).bind fun t126 => (if t126 = true then (some ((l1_1.length : Int) == 0)) else (some false))) else (if a0_0 = 2 then (if a1_0 = 0 then (if (l1_1.length : Int) ≤ a0_1 then ((impl_areNumbers.f k l1_1 0 255).bind fun t127 => (some t127)) else (some false)) else (some false)) else (if a0_0 = 3 then (if a1_0 = 0 then (if (l1_1.length : Int) ≤ a0_1 then ((impl_areNumbers.f k l1_1 0 99).bind fun t128 => (some t128)) else (some false)) else (some false)) else (some false)))) = some r := h
  clear h
  by_cases c3 : a0_0 = 1
  · rw [if_pos c3] at H
    have c3b0 : (a0_0 == 1) = true := beq_iff_eq.mpr c3
    have c3b1 : (a0_0 != 1) = false := bne_eq_false_iff_eq.mpr c3
    clear c3
    replace H := Option.bind_eq_some_iff.mp H
    obtain ⟨t126, A40, H⟩ := H
    replace H : (if t126 = true then (some ((l1_1.length : Int) == 0)) else (some false)) = some r := H
    have A4 := Aside0.mk A40
    clear A40
    by_cases c5 : t126 = true
    · subst c5
      have H1 : (some ((l1_1.length : Int) == 0)) = some r := by rw [if_pos rfl] at H; exact H
      clear H
      have H := H1
      clear H1
      obtain rfl := Option.some.inj H
      go_enter Try.func72, Try.ntmps72
      go_wp2_with (first | ((with_reducible refine gate_dst (N := 2) rfl ?_); (try (refine gate_guard (by rfl) ?_; dsimp only)); refine box_event ?hg (N := 2) ?hd (cs := #[.int .i64 a0_0, .int .i64 a0_1, .int .i64 a0_2, .int .i64 a0_3]) (t := 67) ?hr ?_; (case hd => rfl); (case hg => rfl); (case hr => first | (go_simp; done) | (go_simp; rfl)); intro gb124 hg w6 hbox hb; have n0_ := bS hb; have n1_ := Aside0.mk (hbox); have n2_ : Aside0 (w.heap.size ≤ gb124) := bZ hg; have n3_ : Aside0 (w.heap.size ≤ gb124) := bZ hg; clear HB; have HB := n0_; have BK124 := n1_; have GW124 := n2_; have GE124 := n3_; clear n0_ n1_ n2_ n3_; clear hb hbox hg) | ((with_reducible refine gate_dst (N := 3) rfl ?_); (try (refine gate_guard (by rfl) ?_; dsimp only)); refine box_event ?hg (N := 3) ?hd (cs := #[.int .i64 a1_0, .slice A1_1 l1_1.length c1_1]) (t := 63) ?hr ?_; (case hd => rfl); (case hg => rfl); (case hr => first | (go_simp; done) | (go_simp; rfl)); intro gb125 hg w7 hbox hb; have n0_ := Aside0.mk (blk_below (g := gb124) (o := .cells #[.int .i64 a0_0, .int .i64 a0_1, .int .i64 a0_2, .int .i64 a0_3] 67 (0, 0)) (by (with_reducible repeat (first | refine blk_drewN ?_ _ | refine blk_drew ?_ | refine blk_alloc ?_ _)); exact BK124.out) hb); have n1_ := bS hb; have n2_ := Aside0.mk (hbox); have n3_ : Aside0 (w.heap.size ≤ gb125) := bZ hg; have n4_ : Aside0 (w.heap.size ≤ gb125) := bZ hg; have n5_ := Aside0.mk ((by rw [hg]; exact Nat.ne_of_lt (blk_lt (g := gb124) (o := .cells #[.int .i64 a0_0, .int .i64 a0_1, .int .i64 a0_2, .int .i64 a0_3] 67 (0, 0)) (by (with_reducible repeat (first | refine blk_drewN ?_ _ | refine blk_drew ?_ | refine blk_alloc ?_ _)); exact BK124.out)) : gb124 ≠ gb125)); have n6_ := Aside0.mk ((by rw [hg]; exact Nat.ne_of_gt (blk_lt (g := gb124) (o := .cells #[.int .i64 a0_0, .int .i64 a0_1, .int .i64 a0_2, .int .i64 a0_3] 67 (0, 0)) (by (with_reducible repeat (first | refine blk_drewN ?_ _ | refine blk_drew ?_ | refine blk_alloc ?_ _)); exact BK124.out)) : gb125 ≠ gb124)); clear BK124; clear HB; have BK124 := n0_; have HB := n1_; have BK125 := n2_; have GW125 := n3_; have GE125 := n4_; have NB124_125 := n5_; have NB125_124 := n6_; clear n0_ n1_ n2_ n3_ n4_ n5_ n6_; clear hb hbox hg; have hnb8 := NB124_125.out; have hnc8 := NB125_124.out; obtain ⟨hcz9_0, hcz9_1, hcz9_2, hcz9_3, hfz9_0, hfz9_1, hfz9_2, hfz9_3⟩ := zc4 BK124.out; obtain ⟨hcz10_0, hcz10_1, hfz10_0, hfz10_1⟩ := zc2 BK125.out) | ((with_reducible refine gate_callee (f := 60) rfl ?_); refine gL 13 Try.func60 #[.int .i64 a1_0, .int .i64 0, .int .i64 a0_1] ?_; (with_reducible refine (impl_InRange.calls a1_0 0 a0_1 true _ A4.out).mono ?_); rintro e w' ⟨rfl, ⟨nd, rfl⟩⟩; refine ⟨_, rfl, ?_⟩))
      go_ret
      exact ⟨by first | rfl | (simp [errW_none, errW_some] <;> rfl) | (simp [*, errW_none, errW_some] <;> rfl), by repeat (first | (with_reducible first | exact HB.out | apply below_alloc | apply pw_below_drewN | apply below_drew1 | refine below_set ?_ GE124.out | refine below_set ?_ GE125.out) | exact HB.out)⟩
    · replace c5 := Bool.eq_false_iff.mpr c5
      subst c5
      have H1 : (some false) = some r := by rw [if_neg (show ¬ (false = true) by decide)] at H; exact H
      clear H
      have H := H1
      clear H1
      obtain rfl := Option.some.inj H
      go_enter Try.func72, Try.ntmps72
      go_wp2_with (first | ((with_reducible refine gate_dst (N := 2) rfl ?_); (try (refine gate_guard (by rfl) ?_; dsimp only)); refine box_event ?hg (N := 2) ?hd (cs := #[.int .i64 a0_0, .int .i64 a0_1, .int .i64 a0_2, .int .i64 a0_3]) (t := 67) ?hr ?_; (case hd => rfl); (case hg => rfl); (case hr => first | (go_simp; done) | (go_simp; rfl)); intro gb124 hg w11 hbox hb; have n0_ := bS hb; have n1_ := Aside0.mk (hbox); have n2_ : Aside0 (w.heap.size ≤ gb124) := bZ hg; have n3_ : Aside0 (w.heap.size ≤ gb124) := bZ hg; clear HB; have HB := n0_; have BK124 := n1_; have GW124 := n2_; have GE124 := n3_; clear n0_ n1_ n2_ n3_; clear hb hbox hg) | ((with_reducible refine gate_dst (N := 3) rfl ?_); (try (refine gate_guard (by rfl) ?_; dsimp only)); refine box_event ?hg (N := 3) ?hd (cs := #[.int .i64 a1_0, .slice A1_1 l1_1.length c1_1]) (t := 63) ?hr ?_; (case hd => rfl); (case hg => rfl); (case hr => first | (go_simp; done) | (go_simp; rfl)); intro gb125 hg w12 hbox hb; have n0_ := Aside0.mk (blk_below (g := gb124) (o := .cells #[.int .i64 a0_0, .int .i64 a0_1, .int .i64 a0_2, .int .i64 a0_3] 67 (0, 0)) (by (with_reducible repeat (first | refine blk_drewN ?_ _ | refine blk_drew ?_ | refine blk_alloc ?_ _)); exact BK124.out) hb); have n1_ := bS hb; have n2_ := Aside0.mk (hbox); have n3_ : Aside0 (w.heap.size ≤ gb125) := bZ hg; have n4_ : Aside0 (w.heap.size ≤ gb125) := bZ hg; have n5_ := Aside0.mk ((by rw [hg]; exact Nat.ne_of_lt (blk_lt (g := gb124) (o := .cells #[.int .i64 a0_0, .int .i64 a0_1, .int .i64 a0_2, .int .i64 a0_3] 67 (0, 0)) (by (with_reducible repeat (first | refine blk_drewN ?_ _ | refine blk_drew ?_ | refine blk_alloc ?_ _)); exact BK124.out)) : gb124 ≠ gb125)); have n6_ := Aside0.mk ((by rw [hg]; exact Nat.ne_of_gt (blk_lt (g := gb124) (o := .cells #[.int .i64 a0_0, .int .i64 a0_1, .int .i64 a0_2, .int .i64 a0_3] 67 (0, 0)) (by (with_reducible repeat (first | refine blk_drewN ?_ _ | refine blk_drew ?_ | refine blk_alloc ?_ _)); exact BK124.out)) : gb125 ≠ gb124)); clear BK124; clear HB; have BK124 := n0_; have HB := n1_; have BK125 := n2_; have GW125 := n3_; have GE125 := n4_; have NB124_125 := n5_; have NB125_124 := n6_; clear n0_ n1_ n2_ n3_ n4_ n5_ n6_; clear hb hbox hg; have hnb13 := NB124_125.out; have hnc13 := NB125_124.out; obtain ⟨hcz14_0, hcz14_1, hcz14_2, hcz14_3, hfz14_0, hfz14_1, hfz14_2, hfz14_3⟩ := zc4 BK124.out; obtain ⟨hcz15_0, hcz15_1, hfz15_0, hfz15_1⟩ := zc2 BK125.out) | ((with_reducible refine gate_callee (f := 60) rfl ?_); refine gL 13 Try.func60 #[.int .i64 a1_0, .int .i64 0, .int .i64 a0_1] ?_; (with_reducible refine (impl_InRange.calls a1_0 0 a0_1 false _ A4.out).mono ?_); rintro e w' ⟨rfl, ⟨nd, rfl⟩⟩; refine ⟨_, rfl, ?_⟩))
      go_ret
      exact ⟨by first | rfl | (simp [errW_none, errW_some] <;> rfl) | (simp [*, errW_none, errW_some] <;> rfl), by repeat (first | (with_reducible first | exact HB.out | apply below_alloc | apply pw_below_drewN | apply below_drew1 | refine below_set ?_ GE124.out | refine below_set ?_ GE125.out) | exact HB.out)⟩
  · rw [if_neg c3] at H
    have c3b0 : (a0_0 == 1) = false := beq_eq_false_iff_ne.mpr c3
    have c3b1 : (a0_0 != 1) = true := bne_iff_ne.mpr c3
    by_cases c16 : a0_0 = 2
    · rw [if_pos c16] at H
      have c16b0 : (a0_0 == 2) = true := beq_iff_eq.mpr c16
      have c16b1 : (a0_0 != 2) = false := bne_eq_false_iff_eq.mpr c16
      clear c16
      by_cases c17 : a1_0 = 0
      · rw [if_pos c17] at H
        have c17b0 : (a1_0 == 0) = true := beq_iff_eq.mpr c17
        have c17b1 : (a1_0 != 0) = false := bne_eq_false_iff_eq.mpr c17
        clear c17
        by_cases c18 : (l1_1.length : Int) ≤ a0_1
        · rw [if_pos c18] at H
          have c18b0 : decide ((l1_1.length : Int) ≤ a0_1) = true := decide_eq_true c18; clear c18; replace H := Option.bind_eq_some_iff.mp H; obtain ⟨t127, A190, H⟩ := H; replace H : (some t127) = some r := H; have A19 := Aside0.mk A190; clear A190; obtain rfl := Option.some.inj H; go_enter Try.func72, Try.ntmps72; (go_wp2_with (first | ((with_reducible refine gate_dst (N := 2) rfl ?_); (try (refine gate_guard (by rfl) ?_; dsimp only)); refine box_event ?hg (N := 2) ?hd (cs := #[.int .i64 a0_0, .int .i64 a0_1, .int .i64 a0_2, .int .i64 a0_3]) (t := 67) ?hr ?_; (case hd => rfl); (case hg => rfl); (case hr => first | (go_simp; done) | (go_simp; rfl)); intro gb124 hg w20 hbox hb; have n0_ := bS hb; have n1_ := Aside0.mk (hbox); have n2_ : Aside0 (w.heap.size ≤ gb124) := bZ hg; have n3_ : Aside0 (w.heap.size ≤ gb124) := bZ hg; clear HB; have HB := n0_; have BK124 := n1_; have GW124 := n2_; have GE124 := n3_; clear n0_ n1_ n2_ n3_; clear hb hbox hg) | ((with_reducible refine gate_dst (N := 3) rfl ?_); (try (refine gate_guard (by rfl) ?_; dsimp only)); refine box_event ?hg (N := 3) ?hd (cs := #[.int .i64 a1_0, .slice A1_1 l1_1.length c1_1]) (t := 63) ?hr ?_; (case hd => rfl); (case hg => rfl); (case hr => first | (go_simp; done) | (go_simp; rfl)); intro gb125 hg w21 hbox hb; have n0_ := Aside0.mk (blk_below (g := gb124) (o := .cells #[.int .i64 a0_0, .int .i64 a0_1, .int .i64 a0_2, .int .i64 a0_3] 67 (0, 0)) (by (with_reducible repeat (first | refine blk_drewN ?_ _ | refine blk_drew ?_ | refine blk_alloc ?_ _)); exact BK124.out) hb); have n1_ := bS hb; have n2_ := Aside0.mk (hbox); have n3_ : Aside0 (w.heap.size ≤ gb125) := bZ hg; have n4_ : Aside0 (w.heap.size ≤ gb125) := bZ hg; have n5_ := Aside0.mk ((by rw [hg]; exact Nat.ne_of_lt (blk_lt (g := gb124) (o := .cells #[.int .i64 a0_0, .int .i64 a0_1, .int .i64 a0_2, .int .i64 a0_3] 67 (0, 0)) (by (with_reducible repeat (first | refine blk_drewN ?_ _ | refine blk_drew ?_ | refine blk_alloc ?_ _)); exact BK124.out)) : gb124 ≠ gb125)); have n6_ := Aside0.mk ((by rw [hg]; exact Nat.ne_of_gt (blk_lt (g := gb124) (o := .cells #[.int .i64 a0_0, .int .i64 a0_1, .int .i64 a0_2, .int .i64 a0_3] 67 (0, 0)) (by (with_reducible repeat (first | refine blk_drewN ?_ _ | refine blk_drew ?_ | refine blk_alloc ?_ _)); exact BK124.out)) : gb125 ≠ gb124)); clear BK124; clear HB; have BK124 := n0_; have HB := n1_; have BK125 := n2_; have GW125 := n3_; have GE125 := n4_; have NB124_125 := n5_; have NB125_124 := n6_; clear n0_ n1_ n2_ n3_ n4_ n5_ n6_; clear hb hbox hg; have hnb22 := NB124_125.out; have hnc22 := NB125_124.out; obtain ⟨hcz23_0, hcz23_1, hcz23_2, hcz23_3, hfz23_0, hfz23_1, hfz23_2, hfz23_3⟩ := zc4 BK124.out; obtain ⟨hcz24_0, hcz24_1, hfz24_0, hfz24_1⟩ := zc2 BK125.out) | (go_at_call 87; (with_reducible refine (impl_areNumbers.calls k _ _ l1_1 0 255 t127 _ ?side1 ?side2 A19.out).mono ?_); (case side1 => exact kC HR1_1.out); (case side2 => exact HC1_1.out); rintro e w25 ⟨rfl, hb⟩; have n0_ := Aside0.mk (blk_below (g := gb124) (o := .cells #[.int .i64 a0_0, .int .i64 a0_1, .int .i64 a0_2, .int .i64 a0_3] 67 (0, 0)) (by (with_reducible repeat (first | refine blk_drewN ?_ _ | refine blk_drew ?_ | refine blk_alloc ?_ _)); exact BK124.out) hb); have n1_ := Aside0.mk (blk_below (g := gb125) (o := .cells #[.int .i64 a1_0, .slice A1_1 l1_1.length c1_1] 63 (0, 0)) (by (with_reducible repeat (first | refine blk_drewN ?_ _ | refine blk_drew ?_ | refine blk_alloc ?_ _)); exact BK125.out) hb); have n2_ := Aside0.mk (below_step (by repeat (first | (with_reducible first | exact HB.out | apply below_alloc | apply pw_below_drewN | apply below_drew1 | refine below_set ?_ GE124.out | refine below_set ?_ GE125.out) | exact HB.out)) hb); clear BK124; clear BK125; clear HB; have BK124 := n0_; have BK125 := n1_; have HB := n2_; clear n0_ n1_ n2_; (try clear hb); (try clear hb2); (try clear hk); (try clear hi)))); go_ret; (exact ⟨by first | rfl | (simp [errW_none, errW_some] <;> rfl) | (simp [*, errW_none, errW_some] <;> rfl), by repeat (first | (with_reducible first | exact HB.out | apply below_alloc | apply pw_below_drewN | apply below_drew1 | refine below_set ?_ GE124.out | refine below_set ?_ GE125.out) | exact HB.out)⟩)
        · rw [if_neg c18] at H
          have c18b0 : decide ((l1_1.length : Int) ≤ a0_1) = false := decide_eq_false c18; clear c18; obtain rfl := Option.some.inj H; go_enter Try.func72, Try.ntmps72; (go_wp2_with (first | ((with_reducible refine gate_dst (N := 2) rfl ?_); (try (refine gate_guard (by rfl) ?_; dsimp only)); refine box_event ?hg (N := 2) ?hd (cs := #[.int .i64 a0_0, .int .i64 a0_1, .int .i64 a0_2, .int .i64 a0_3]) (t := 67) ?hr ?_; (case hd => rfl); (case hg => rfl); (case hr => first | (go_simp; done) | (go_simp; rfl)); intro gb124 hg w26 hbox hb; have n0_ := bS hb; have n1_ := Aside0.mk (hbox); have n2_ : Aside0 (w.heap.size ≤ gb124) := bZ hg; have n3_ : Aside0 (w.heap.size ≤ gb124) := bZ hg; clear HB; have HB := n0_; have BK124 := n1_; have GW124 := n2_; have GE124 := n3_; clear n0_ n1_ n2_ n3_; clear hb hbox hg) | ((with_reducible refine gate_dst (N := 3) rfl ?_); (try (refine gate_guard (by rfl) ?_; dsimp only)); refine box_event ?hg (N := 3) ?hd (cs := #[.int .i64 a1_0, .slice A1_1 l1_1.length c1_1]) (t := 63) ?hr ?_; (case hd => rfl); (case hg => rfl); (case hr => first | (go_simp; done) | (go_simp; rfl)); intro gb125 hg w27 hbox hb; have n0_ := Aside0.mk (blk_below (g := gb124) (o := .cells #[.int .i64 a0_0, .int .i64 a0_1, .int .i64 a0_2, .int .i64 a0_3] 67 (0, 0)) (by (with_reducible repeat (first | refine blk_drewN ?_ _ | refine blk_drew ?_ | refine blk_alloc ?_ _)); exact BK124.out) hb); have n1_ := bS hb; have n2_ := Aside0.mk (hbox); have n3_ : Aside0 (w.heap.size ≤ gb125) := bZ hg; have n4_ : Aside0 (w.heap.size ≤ gb125) := bZ hg; have n5_ := Aside0.mk ((by rw [hg]; exact Nat.ne_of_lt (blk_lt (g := gb124) (o := .cells #[.int .i64 a0_0, .int .i64 a0_1, .int .i64 a0_2, .int .i64 a0_3] 67 (0, 0)) (by (with_reducible repeat (first | refine blk_drewN ?_ _ | refine blk_drew ?_ | refine blk_alloc ?_ _)); exact BK124.out)) : gb124 ≠ gb125)); have n6_ := Aside0.mk ((by rw [hg]; exact Nat.ne_of_gt (blk_lt (g := gb124) (o := .cells #[.int .i64 a0_0, .int .i64 a0_1, .int .i64 a0_2, .int .i64 a0_3] 67 (0, 0)) (by (with_reducible repeat (first | refine blk_drewN ?_ _ | refine blk_drew ?_ | refine blk_alloc ?_ _)); exact BK124.out)) : gb125 ≠ gb124)); clear BK124; clear HB; have BK124 := n0_; have HB := n1_; have BK125 := n2_; have GW125 := n3_; have GE125 := n4_; have NB124_125 := n5_; have NB125_124 := n6_; clear n0_ n1_ n2_ n3_ n4_ n5_ n6_; clear hb hbox hg; have hnb28 := NB124_125.out; have hnc28 := NB125_124.out; obtain ⟨hcz29_0, hcz29_1, hcz29_2, hcz29_3, hfz29_0, hfz29_1, hfz29_2, hfz29_3⟩ := zc4 BK124.out; obtain ⟨hcz30_0, hcz30_1, hfz30_0, hfz30_1⟩ := zc2 BK125.out))); go_ret; (exact ⟨by first | rfl | (simp [errW_none, errW_some] <;> rfl) | (simp [*, errW_none, errW_some] <;> rfl), by repeat (first | (with_reducible first | exact HB.out | apply below_alloc | apply pw_below_drewN | apply below_drew1 | refine below_set ?_ GE124.out | refine below_set ?_ GE125.out) | exact HB.out)⟩)
      · rw [if_neg c17] at H
        have c17b0 : (a1_0 == 0) = false := beq_eq_false_iff_ne.mpr c17
        have c17b1 : (a1_0 != 0) = true := bne_iff_ne.mpr c17
        obtain rfl := Option.some.inj H
        go_enter Try.func72, Try.ntmps72
        go_wp2_with (first | ((with_reducible refine gate_dst (N := 2) rfl ?_); (try (refine gate_guard (by rfl) ?_; dsimp only)); refine box_event ?hg (N := 2) ?hd (cs := #[.int .i64 a0_0, .int .i64 a0_1, .int .i64 a0_2, .int .i64 a0_3]) (t := 67) ?hr ?_; (case hd => rfl); (case hg => rfl); (case hr => first | (go_simp; done) | (go_simp; rfl)); intro gb124 hg w31 hbox hb; have n0_ := bS hb; have n1_ := Aside0.mk (hbox); have n2_ : Aside0 (w.heap.size ≤ gb124) := bZ hg; have n3_ : Aside0 (w.heap.size ≤ gb124) := bZ hg; clear HB; have HB := n0_; have BK124 := n1_; have GW124 := n2_; have GE124 := n3_; clear n0_ n1_ n2_ n3_; clear hb hbox hg) | ((with_reducible refine gate_dst (N := 3) rfl ?_); (try (refine gate_guard (by rfl) ?_; dsimp only)); refine box_event ?hg (N := 3) ?hd (cs := #[.int .i64 a1_0, .slice A1_1 l1_1.length c1_1]) (t := 63) ?hr ?_; (case hd => rfl); (case hg => rfl); (case hr => first | (go_simp; done) | (go_simp; rfl)); intro gb125 hg w32 hbox hb; have n0_ := Aside0.mk (blk_below (g := gb124) (o := .cells #[.int .i64 a0_0, .int .i64 a0_1, .int .i64 a0_2, .int .i64 a0_3] 67 (0, 0)) (by (with_reducible repeat (first | refine blk_drewN ?_ _ | refine blk_drew ?_ | refine blk_alloc ?_ _)); exact BK124.out) hb); have n1_ := bS hb; have n2_ := Aside0.mk (hbox); have n3_ : Aside0 (w.heap.size ≤ gb125) := bZ hg; have n4_ : Aside0 (w.heap.size ≤ gb125) := bZ hg; have n5_ := Aside0.mk ((by rw [hg]; exact Nat.ne_of_lt (blk_lt (g := gb124) (o := .cells #[.int .i64 a0_0, .int .i64 a0_1, .int .i64 a0_2, .int .i64 a0_3] 67 (0, 0)) (by (with_reducible repeat (first | refine blk_drewN ?_ _ | refine blk_drew ?_ | refine blk_alloc ?_ _)); exact BK124.out)) : gb124 ≠ gb125)); have n6_ := Aside0.mk ((by rw [hg]; exact Nat.ne_of_gt (blk_lt (g := gb124) (o := .cells #[.int .i64 a0_0, .int .i64 a0_1, .int .i64 a0_2, .int .i64 a0_3] 67 (0, 0)) (by (with_reducible repeat (first | refine blk_drewN ?_ _ | refine blk_drew ?_ | refine blk_alloc ?_ _)); exact BK124.out)) : gb125 ≠ gb124)); clear BK124; clear HB; have BK124 := n0_; have HB := n1_; have BK125 := n2_; have GW125 := n3_; have GE125 := n4_; have NB124_125 := n5_; have NB125_124 := n6_; clear n0_ n1_ n2_ n3_ n4_ n5_ n6_; clear hb hbox hg; have hnb33 := NB124_125.out; have hnc33 := NB125_124.out; obtain ⟨hcz34_0, hcz34_1, hcz34_2, hcz34_3, hfz34_0, hfz34_1, hfz34_2, hfz34_3⟩ := zc4 BK124.out; obtain ⟨hcz35_0, hcz35_1, hfz35_0, hfz35_1⟩ := zc2 BK125.out))
        go_ret
        exact ⟨by first | rfl | (simp [errW_none, errW_some] <;> rfl) | (simp [*, errW_none, errW_some] <;> rfl), by repeat (first | (with_reducible first | exact HB.out | apply below_alloc | apply pw_below_drewN | apply below_drew1 | refine below_set ?_ GE124.out | refine below_set ?_ GE125.out) | exact HB.out)⟩
    · rw [if_neg c16] at H
      have c16b0 : (a0_0 == 2) = false := beq_eq_false_iff_ne.mpr c16
      have c16b1 : (a0_0 != 2) = true := bne_iff_ne.mpr c16
      by_cases c36 : a0_0 = 3
      · rw [if_pos c36] at H
        have c36b0 : (a0_0 == 3) = true := beq_iff_eq.mpr c36
        have c36b1 : (a0_0 != 3) = false := bne_eq_false_iff_eq.mpr c36
        clear c36
        by_cases c37 : a1_0 = 0
        · rw [if_pos c37] at H
          have c37b0 : (a1_0 == 0) = true := beq_iff_eq.mpr c37; have c37b1 : (a1_0 != 0) = false := bne_eq_false_iff_eq.mpr c37; clear c37; by_cases c38 : (l1_1.length : Int) ≤ a0_1; (· rw [if_pos c38] at H; have c38b0 : decide ((l1_1.length : Int) ≤ a0_1) = true := decide_eq_true c38; clear c38; replace H := Option.bind_eq_some_iff.mp H; obtain ⟨t128, A390, H⟩ := H; replace H : (some t128) = some r := H; have A39 := Aside0.mk A390; clear A390; obtain rfl := Option.some.inj H; go_enter Try.func72, Try.ntmps72; (go_wp2_with (first | ((with_reducible refine gate_dst (N := 2) rfl ?_); (try (refine gate_guard (by rfl) ?_; dsimp only)); refine box_event ?hg (N := 2) ?hd (cs := #[.int .i64 a0_0, .int .i64 a0_1, .int .i64 a0_2, .int .i64 a0_3]) (t := 67) ?hr ?_; (case hd => rfl); (case hg => rfl); (case hr => first | (go_simp; done) | (go_simp; rfl)); intro gb124 hg w40 hbox hb; have n0_ := bS hb; have n1_ := Aside0.mk (hbox); have n2_ : Aside0 (w.heap.size ≤ gb124) := bZ hg; have n3_ : Aside0 (w.heap.size ≤ gb124) := bZ hg; clear HB; have HB := n0_; have BK124 := n1_; have GW124 := n2_; have GE124 := n3_; clear n0_ n1_ n2_ n3_; clear hb hbox hg) | ((with_reducible refine gate_dst (N := 3) rfl ?_); (try (refine gate_guard (by rfl) ?_; dsimp only)); refine box_event ?hg (N := 3) ?hd (cs := #[.int .i64 a1_0, .slice A1_1 l1_1.length c1_1]) (t := 63) ?hr ?_; (case hd => rfl); (case hg => rfl); (case hr => first | (go_simp; done) | (go_simp; rfl)); intro gb125 hg w41 hbox hb; have n0_ := Aside0.mk (blk_below (g := gb124) (o := .cells #[.int .i64 a0_0, .int .i64 a0_1, .int .i64 a0_2, .int .i64 a0_3] 67 (0, 0)) (by (with_reducible repeat (first | refine blk_drewN ?_ _ | refine blk_drew ?_ | refine blk_alloc ?_ _)); exact BK124.out) hb); have n1_ := bS hb; have n2_ := Aside0.mk (hbox); have n3_ : Aside0 (w.heap.size ≤ gb125) := bZ hg; have n4_ : Aside0 (w.heap.size ≤ gb125) := bZ hg; have n5_ := Aside0.mk ((by rw [hg]; exact Nat.ne_of_lt (blk_lt (g := gb124) (o := .cells #[.int .i64 a0_0, .int .i64 a0_1, .int .i64 a0_2, .int .i64 a0_3] 67 (0, 0)) (by (with_reducible repeat (first | refine blk_drewN ?_ _ | refine blk_drew ?_ | refine blk_alloc ?_ _)); exact BK124.out)) : gb124 ≠ gb125)); have n6_ := Aside0.mk ((by rw [hg]; exact Nat.ne_of_gt (blk_lt (g := gb124) (o := .cells #[.int .i64 a0_0, .int .i64 a0_1, .int .i64 a0_2, .int .i64 a0_3] 67 (0, 0)) (by (with_reducible repeat (first | refine blk_drewN ?_ _ | refine blk_drew ?_ | refine blk_alloc ?_ _)); exact BK124.out)) : gb125 ≠ gb124)); clear BK124; clear HB; have BK124 := n0_; have HB := n1_; have BK125 := n2_; have GW125 := n3_; have GE125 := n4_; have NB124_125 := n5_; have NB125_124 := n6_; clear n0_ n1_ n2_ n3_ n4_ n5_ n6_; clear hb hbox hg; have hnb42 := NB124_125.out; have hnc42 := NB125_124.out; obtain ⟨hcz43_0, hcz43_1, hcz43_2, hcz43_3, hfz43_0, hfz43_1, hfz43_2, hfz43_3⟩ := zc4 BK124.out; obtain ⟨hcz44_0, hcz44_1, hfz44_0, hfz44_1⟩ := zc2 BK125.out) | (go_at_call 87; (with_reducible refine (impl_areNumbers.calls k _ _ l1_1 0 99 t128 _ ?side1 ?side2 A39.out).mono ?_); (case side1 => exact kC HR1_1.out); (case side2 => exact HC1_1.out); rintro e w45 ⟨rfl, hb⟩; have n0_ := Aside0.mk (blk_below (g := gb124) (o := .cells #[.int .i64 a0_0, .int .i64 a0_1, .int .i64 a0_2, .int .i64 a0_3] 67 (0, 0)) (by (with_reducible repeat (first | refine blk_drewN ?_ _ | refine blk_drew ?_ | refine blk_alloc ?_ _)); exact BK124.out) hb); have n1_ := Aside0.mk (blk_below (g := gb125) (o := .cells #[.int .i64 a1_0, .slice A1_1 l1_1.length c1_1] 63 (0, 0)) (by (with_reducible repeat (first | refine blk_drewN ?_ _ | refine blk_drew ?_ | refine blk_alloc ?_ _)); exact BK125.out) hb); have n2_ := Aside0.mk (below_step (by repeat (first | (with_reducible first | exact HB.out | apply below_alloc | apply pw_below_drewN | apply below_drew1 | refine below_set ?_ GE124.out | refine below_set ?_ GE125.out) | exact HB.out)) hb); clear BK124; clear BK125; clear HB; have BK124 := n0_; have BK125 := n1_; have HB := n2_; clear n0_ n1_ n2_; (try clear hb); (try clear hb2); (try clear hk); (try clear hi)))); go_ret; (exact ⟨by first | rfl | (simp [errW_none, errW_some] <;> rfl) | (simp [*, errW_none, errW_some] <;> rfl), by repeat (first | (with_reducible first | exact HB.out | apply below_alloc | apply pw_below_drewN | apply below_drew1 | refine below_set ?_ GE124.out | refine below_set ?_ GE125.out) | exact HB.out)⟩)); (· rw [if_neg c38] at H; have c38b0 : decide ((l1_1.length : Int) ≤ a0_1) = false := decide_eq_false c38; clear c38; obtain rfl := Option.some.inj H; go_enter Try.func72, Try.ntmps72; (go_wp2_with (first | ((with_reducible refine gate_dst (N := 2) rfl ?_); (try (refine gate_guard (by rfl) ?_; dsimp only)); refine box_event ?hg (N := 2) ?hd (cs := #[.int .i64 a0_0, .int .i64 a0_1, .int .i64 a0_2, .int .i64 a0_3]) (t := 67) ?hr ?_; (case hd => rfl); (case hg => rfl); (case hr => first | (go_simp; done) | (go_simp; rfl)); intro gb124 hg w46 hbox hb; have n0_ := bS hb; have n1_ := Aside0.mk (hbox); have n2_ : Aside0 (w.heap.size ≤ gb124) := bZ hg; have n3_ : Aside0 (w.heap.size ≤ gb124) := bZ hg; clear HB; have HB := n0_; have BK124 := n1_; have GW124 := n2_; have GE124 := n3_; clear n0_ n1_ n2_ n3_; clear hb hbox hg) | ((with_reducible refine gate_dst (N := 3) rfl ?_); (try (refine gate_guard (by rfl) ?_; dsimp only)); refine box_event ?hg (N := 3) ?hd (cs := #[.int .i64 a1_0, .slice A1_1 l1_1.length c1_1]) (t := 63) ?hr ?_; (case hd => rfl); (case hg => rfl); (case hr => first | (go_simp; done) | (go_simp; rfl)); intro gb125 hg w47 hbox hb; have n0_ := Aside0.mk (blk_below (g := gb124) (o := .cells #[.int .i64 a0_0, .int .i64 a0_1, .int .i64 a0_2, .int .i64 a0_3] 67 (0, 0)) (by (with_reducible repeat (first | refine blk_drewN ?_ _ | refine blk_drew ?_ | refine blk_alloc ?_ _)); exact BK124.out) hb); have n1_ := bS hb; have n2_ := Aside0.mk (hbox); have n3_ : Aside0 (w.heap.size ≤ gb125) := bZ hg; have n4_ : Aside0 (w.heap.size ≤ gb125) := bZ hg; have n5_ := Aside0.mk ((by rw [hg]; exact Nat.ne_of_lt (blk_lt (g := gb124) (o := .cells #[.int .i64 a0_0, .int .i64 a0_1, .int .i64 a0_2, .int .i64 a0_3] 67 (0, 0)) (by (with_reducible repeat (first | refine blk_drewN ?_ _ | refine blk_drew ?_ | refine blk_alloc ?_ _)); exact BK124.out)) : gb124 ≠ gb125)); have n6_ := Aside0.mk ((by rw [hg]; exact Nat.ne_of_gt (blk_lt (g := gb124) (o := .cells #[.int .i64 a0_0, .int .i64 a0_1, .int .i64 a0_2, .int .i64 a0_3] 67 (0, 0)) (by (with_reducible repeat (first | refine blk_drewN ?_ _ | refine blk_drew ?_ | refine blk_alloc ?_ _)); exact BK124.out)) : gb125 ≠ gb124)); clear BK124; clear HB; have BK124 := n0_; have HB := n1_; have BK125 := n2_; have GW125 := n3_; have GE125 := n4_; have NB124_125 := n5_; have NB125_124 := n6_; clear n0_ n1_ n2_ n3_ n4_ n5_ n6_; clear hb hbox hg; have hnb48 := NB124_125.out; have hnc48 := NB125_124.out; obtain ⟨hcz49_0, hcz49_1, hcz49_2, hcz49_3, hfz49_0, hfz49_1, hfz49_2, hfz49_3⟩ := zc4 BK124.out; obtain ⟨hcz50_0, hcz50_1, hfz50_0, hfz50_1⟩ := zc2 BK125.out))); go_ret; (exact ⟨by first | rfl | (simp [errW_none, errW_some] <;> rfl) | (simp [*, errW_none, errW_some] <;> rfl), by repeat (first | (with_reducible first | exact HB.out | apply below_alloc | apply pw_below_drewN | apply below_drew1 | refine below_set ?_ GE124.out | refine below_set ?_ GE125.out) | exact HB.out)⟩))
        · rw [if_neg c37] at H
          have c37b0 : (a1_0 == 0) = false := beq_eq_false_iff_ne.mpr c37; have c37b1 : (a1_0 != 0) = true := bne_iff_ne.mpr c37; obtain rfl := Option.some.inj H; go_enter Try.func72, Try.ntmps72; (go_wp2_with (first | ((with_reducible refine gate_dst (N := 2) rfl ?_); (try (refine gate_guard (by rfl) ?_; dsimp only)); refine box_event ?hg (N := 2) ?hd (cs := #[.int .i64 a0_0, .int .i64 a0_1, .int .i64 a0_2, .int .i64 a0_3]) (t := 67) ?hr ?_; (case hd => rfl); (case hg => rfl); (case hr => first | (go_simp; done) | (go_simp; rfl)); intro gb124 hg w51 hbox hb; have n0_ := bS hb; have n1_ := Aside0.mk (hbox); have n2_ : Aside0 (w.heap.size ≤ gb124) := bZ hg; have n3_ : Aside0 (w.heap.size ≤ gb124) := bZ hg; clear HB; have HB := n0_; have BK124 := n1_; have GW124 := n2_; have GE124 := n3_; clear n0_ n1_ n2_ n3_; clear hb hbox hg) | ((with_reducible refine gate_dst (N := 3) rfl ?_); (try (refine gate_guard (by rfl) ?_; dsimp only)); refine box_event ?hg (N := 3) ?hd (cs := #[.int .i64 a1_0, .slice A1_1 l1_1.length c1_1]) (t := 63) ?hr ?_; (case hd => rfl); (case hg => rfl); (case hr => first | (go_simp; done) | (go_simp; rfl)); intro gb125 hg w52 hbox hb; have n0_ := Aside0.mk (blk_below (g := gb124) (o := .cells #[.int .i64 a0_0, .int .i64 a0_1, .int .i64 a0_2, .int .i64 a0_3] 67 (0, 0)) (by (with_reducible repeat (first | refine blk_drewN ?_ _ | refine blk_drew ?_ | refine blk_alloc ?_ _)); exact BK124.out) hb); have n1_ := bS hb; have n2_ := Aside0.mk (hbox); have n3_ : Aside0 (w.heap.size ≤ gb125) := bZ hg; have n4_ : Aside0 (w.heap.size ≤ gb125) := bZ hg; have n5_ := Aside0.mk ((by rw [hg]; exact Nat.ne_of_lt (blk_lt (g := gb124) (o := .cells #[.int .i64 a0_0, .int .i64 a0_1, .int .i64 a0_2, .int .i64 a0_3] 67 (0, 0)) (by (with_reducible repeat (first | refine blk_drewN ?_ _ | refine blk_drew ?_ | refine blk_alloc ?_ _)); exact BK124.out)) : gb124 ≠ gb125)); have n6_ := Aside0.mk ((by rw [hg]; exact Nat.ne_of_gt (blk_lt (g := gb124) (o := .cells #[.int .i64 a0_0, .int .i64 a0_1, .int .i64 a0_2, .int .i64 a0_3] 67 (0, 0)) (by (with_reducible repeat (first | refine blk_drewN ?_ _ | refine blk_drew ?_ | refine blk_alloc ?_ _)); exact BK124.out)) : gb125 ≠ gb124)); clear BK124; clear HB; have BK124 := n0_; have HB := n1_; have BK125 := n2_; have GW125 := n3_; have GE125 := n4_; have NB124_125 := n5_; have NB125_124 := n6_; clear n0_ n1_ n2_ n3_ n4_ n5_ n6_; clear hb hbox hg; have hnb53 := NB124_125.out; have hnc53 := NB125_124.out; obtain ⟨hcz54_0, hcz54_1, hcz54_2, hcz54_3, hfz54_0, hfz54_1, hfz54_2, hfz54_3⟩ := zc4 BK124.out; obtain ⟨hcz55_0, hcz55_1, hfz55_0, hfz55_1⟩ := zc2 BK125.out))); go_ret; (exact ⟨by first | rfl | (simp [errW_none, errW_some] <;> rfl) | (simp [*, errW_none, errW_some] <;> rfl), by repeat (first | (with_reducible first | exact HB.out | apply below_alloc | apply pw_below_drewN | apply below_drew1 | refine below_set ?_ GE124.out | refine below_set ?_ GE125.out) | exact HB.out)⟩)
      · rw [if_neg c36] at H
        have c36b0 : (a0_0 == 3) = false := beq_eq_false_iff_ne.mpr c36
        have c36b1 : (a0_0 != 3) = true := bne_iff_ne.mpr c36
        obtain rfl := Option.some.inj H
        go_enter Try.func72, Try.ntmps72
        go_wp2_with (first | ((with_reducible refine gate_dst (N := 2) rfl ?_); (try (refine gate_guard (by rfl) ?_; dsimp only)); refine box_event ?hg (N := 2) ?hd (cs := #[.int .i64 a0_0, .int .i64 a0_1, .int .i64 a0_2, .int .i64 a0_3]) (t := 67) ?hr ?_; (case hd => rfl); (case hg => rfl); (case hr => first | (go_simp; done) | (go_simp; rfl)); intro gb124 hg w56 hbox hb; have n0_ := bS hb; have n1_ := Aside0.mk (hbox); have n2_ : Aside0 (w.heap.size ≤ gb124) := bZ hg; have n3_ : Aside0 (w.heap.size ≤ gb124) := bZ hg; clear HB; have HB := n0_; have BK124 := n1_; have GW124 := n2_; have GE124 := n3_; clear n0_ n1_ n2_ n3_; clear hb hbox hg) | ((with_reducible refine gate_dst (N := 3) rfl ?_); (try (refine gate_guard (by rfl) ?_; dsimp only)); refine box_event ?hg (N := 3) ?hd (cs := #[.int .i64 a1_0, .slice A1_1 l1_1.length c1_1]) (t := 63) ?hr ?_; (case hd => rfl); (case hg => rfl); (case hr => first | (go_simp; done) | (go_simp; rfl)); intro gb125 hg w57 hbox hb; have n0_ := Aside0.mk (blk_below (g := gb124) (o := .cells #[.int .i64 a0_0, .int .i64 a0_1, .int .i64 a0_2, .int .i64 a0_3] 67 (0, 0)) (by (with_reducible repeat (first | refine blk_drewN ?_ _ | refine blk_drew ?_ | refine blk_alloc ?_ _)); exact BK124.out) hb); have n1_ := bS hb; have n2_ := Aside0.mk (hbox); have n3_ : Aside0 (w.heap.size ≤ gb125) := bZ hg; have n4_ : Aside0 (w.heap.size ≤ gb125) := bZ hg; have n5_ := Aside0.mk ((by rw [hg]; exact Nat.ne_of_lt (blk_lt (g := gb124) (o := .cells #[.int .i64 a0_0, .int .i64 a0_1, .int .i64 a0_2, .int .i64 a0_3] 67 (0, 0)) (by (with_reducible repeat (first | refine blk_drewN ?_ _ | refine blk_drew ?_ | refine blk_alloc ?_ _)); exact BK124.out)) : gb124 ≠ gb125)); have n6_ := Aside0.mk ((by rw [hg]; exact Nat.ne_of_gt (blk_lt (g := gb124) (o := .cells #[.int .i64 a0_0, .int .i64 a0_1, .int .i64 a0_2, .int .i64 a0_3] 67 (0, 0)) (by (with_reducible repeat (first | refine blk_drewN ?_ _ | refine blk_drew ?_ | refine blk_alloc ?_ _)); exact BK124.out)) : gb125 ≠ gb124)); clear BK124; clear HB; have BK124 := n0_; have HB := n1_; have BK125 := n2_; have GW125 := n3_; have GE125 := n4_; have NB124_125 := n5_; have NB125_124 := n6_; clear n0_ n1_ n2_ n3_ n4_ n5_ n6_; clear hb hbox hg; have hnb58 := NB124_125.out; have hnc58 := NB125_124.out; obtain ⟨hcz59_0, hcz59_1, hcz59_2, hcz59_3, hfz59_0, hfz59_1, hfz59_2, hfz59_3⟩ := zc4 BK124.out))
        go_ret
        exact ⟨by first | rfl | (simp [errW_none, errW_some] <;> rfl) | (simp [*, errW_none, errW_some] <;> rfl), by repeat (first | (with_reducible first | exact HB.out | apply below_alloc | apply pw_below_drewN | apply below_drew1 | refine below_set ?_ GE124.out | refine below_set ?_ GE125.out) | exact HB.out)⟩

/-! ### slices_Clone_int_int: function 84 -/
def slices_Clone_int_int.f (l0 : List Int) : Option (List Int) := (some (([] : List Int) : List Int)).bind fun y129 => (if y129.length + l0.length < 17592186044416 then (some (y129 ++ l0)) else (none))
set_option maxHeartbeats 8000000 in
set_option maxRecDepth 100000 in
theorem slices_Clone_int_int.calls (A0 : Option Addr) (c0 : Nat) (l0 : List Int) (r : List Int) (w : World) (hr0 : Kd.C (Kd.int .i64) w A0 l0.length l0) (hc0 : l0.length ≤ c0) (h : slices_Clone_int_int.f l0 = some r) :
    Calls Try.prog 84 #[.slice A0 l0.length c0] w fun e w' => ∃ v0_ : Value, e = .returned (v0_) ∧ Kd.R (Kd.int .i64) 3 w' w.heap.size (fun _ => True) v0_ r ∧ Below w.heap.size w w' := by
  have HR0 := Aside0.mk hr0
  have HC0 := Aside0.mk hc0
  clear hr0 hc0
  have HB := Aside0.mk (Below.refl w.heap.size w)
  have H : ((some (([] : List Int) : List Int)).bind fun y129 => (if y129.length + l0.length < 17592186044416 then (some (y129 ++ l0)) else (none))) = some r := h
  clear h
  obtain ⟨y129, hy129⟩ : ∃ y_ : List Int, y_ = (([] : List Int)) := ⟨_, rfl⟩
  replace H : (if y129.length + l0.length < 17592186044416 then (some (y129 ++ l0)) else (none)) = some r := by first | (rw [hy129]; with_reducible exact H) | (have H2_ := (Option.bind_some _ _).symm.trans H; rw [hy129]; with_reducible exact H2_) | (have H2_ := (Option.bind_some _ _).symm.trans H; with_reducible exact H2_) | with_reducible exact H | (rw [hy129]; exact H) | exact H
  have Ny129 := Aside0.mk hy129
  clear hy129
  by_cases c2 : y129.length + l0.length < 17592186044416
  · rw [if_pos c2] at H
    have LMc2 := Aside0.mk c2
    clear c2
    obtain ⟨y132, hy132⟩ : ∃ y_ : List Int, y_ = (y129 ++ l0) := ⟨_, rfl⟩
    replace H : (some y132) = some r := by first | (rw [hy132]; with_reducible exact H) | (have H2_ := (Option.bind_some _ _).symm.trans H; rw [hy132]; with_reducible exact H2_) | (have H2_ := (Option.bind_some _ _).symm.trans H; with_reducible exact H2_) | with_reducible exact H | (rw [hy132]; exact H) | exact H
    have Ny132 := Aside0.mk hy132
    clear hy132
    obtain rfl := Option.some.inj H
    have qe : ∀ (w : World) (a : Option Addr) (l c : Nat), (binOp .eql 38 (.slice a l c) (.slice none 0 0)).run Try.prog w = .ok (.bool a.isNone) w := fun w a l c => Go.Lib.run_eql_slice_nil w _ _ a l c 0 0 Try.underlying38
    rcases A0 with _ | ad0
    · have hl0 : l0.length = 0 := by
        rcases Nat.eq_zero_or_pos l0.length with h0 | h0
        · exact h0
        · obtain ⟨ad, h1, _⟩ := HR0.out.2.2 h0
          cases h1
      have hl1 : l0 = [] := List.eq_nil_of_length_eq_zero hl0
      have hy : y132 = [] := by rw [Ny132.out, Ny129.out, hl1]; rfl
      rw [hl0, hy]
      clear HR0 HC0 HB LMc2 hl0 hl1 hy Ny129 Ny132
      go_enter Try.func84, Try.ntmps84
      go_wp2
      go_ret
      exact ⟨_, rfl, Kd.R_nil _ _ _ _ _, Below.refl _ _⟩
    · go_enter Try.func84, Try.ntmps84
      go_wp2_with (first | ((with_reducible refine gate_dst (N := 5) rfl ?_); refine Kd.R_lit (Kd.int .i64) _ 3 ?hg (N := 5) ?hd (xs := ([] : List Int)) (inner := []) (ok := fun _ => True) (okp := fun _ => True) ?hr ?hp (fun _ hk => hk) trivial (Below.refl _ _) (Nat.le_refl _) (by simp) ?_; (case hd => rfl); (case hg => rfl); (case hr => first | (go_simp; done) | (go_simp; rfl)); (case hp => exact (Reps.none _ _)); intro v130 w3 ho4 hb hg_ hnew_; clear hg_ hnew_; (first | rw [← Ny129.out] at ho4 | (simp only [Int.reduceToNat] at ho4; rw [← Ny129.out] at ho4)); have n0_ := Aside0.mk (Kd.R_lower ho4 (below_size (by repeat (first | (with_reducible first | exact HB.out | apply below_alloc | apply pw_below_drewN | apply below_drew1) | exact HB.out)))); have n1_ := bS hb; clear HB; have HO131 := n0_; have HB := n1_; clear n0_ n1_; clear hb ho4) | ((with_reducible refine gate_builtin (b := .append) (xs := #[.tmp 5, .tmp 6]) rfl ?_); at_builtin; refine Kd.R_append_rows (Kd.int .i64) (w0 := w) w.heap.size rfl (.tmp 5) (.tmp 6) 38 3 (.int .i64 0) 8 rfl Try.underlying38 info3 rfl (by decide) (by omega) v130 y129 l0 _ _ _ (fun _ => True) (fun _ => False) rfl rfl ?aO ?aR (fun _ _ h => h) (fun _ h => h.elim) ?aF ?aB ?aS ?aL ?_; (case aR => exact kC HR0.out); (case aB => exact (by repeat (first | (with_reducible first | exact HB.out | apply below_alloc | apply pw_below_drewN | apply below_drew1) | exact HB.out))); (case aF => exact (fun _ _ => trivial)); (case aO => exact (by (with_reducible repeat (first | apply Kd.R_alloc | apply Kd.R_drewN | apply Kd.R_drew)); exact HO131.out)); (case aS => exact (below_size (by repeat (first | (with_reducible first | exact HB.out | apply below_alloc | apply pw_below_drewN | apply below_drew1) | exact HB.out)))); (case aL => have := LMc2.out; omega); intro v133 w5 ho hb hg hat; rw [← Ny132.out] at ho; have n0_ := Aside0.mk (hb); have n1_ := Aside0.mk (ho); clear HB; clear HO131; have HB := n0_; have HO134 := n1_; clear n0_ n1_; clear ho hb hg hat))
      go_ret
      exact ⟨_, by first | rfl | (simp [errW_none, errW_some] <;> rfl) | (simp [*, errW_none, errW_some] <;> rfl), by (with_reducible repeat (first | apply Kd.R_alloc | apply Kd.R_drewN | apply Kd.R_drew)); exact HO134.out, by repeat (first | (with_reducible first | exact HB.out | apply below_alloc | apply pw_below_drewN | apply below_drew1) | exact HB.out)⟩
  · rw [if_neg c2] at H
    exact absurd H (by simp)

end Go.Proofs.Ythgikmgdgibimaa.QFnExactDecodeMessage
