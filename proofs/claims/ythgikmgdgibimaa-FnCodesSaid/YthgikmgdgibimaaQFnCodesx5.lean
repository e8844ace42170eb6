/- Each Go function that the law reaches, told as a plain Lean function, and the proof that the machine's call answers just that. No condition beyond those that each theorem names. -/
import Derived.Test.YthgikmgdgibimaaQFnCodesx0
import Derived.Test.YthgikmgdgibimaaQFnCodesx1
import Derived.Test.YthgikmgdgibimaaQFnCodesx3
import Derived.Test.YthgikmgdgibimaaQFnCodesx4
namespace Go.Proofs.Ythgikmgdgibimaa.QFnCodes
open Go.RowKit Go.Proofs.YthgikmgdgibimaaW.PrintWords Go.Proofs.YthgikmgdgibimaaW.PrintLast Go.Proofs.YthgikmgdgibimaaW.PrintMore
attribute [local go_sem] max2_int min2_int max_two min_two max_three min_three max_four min_four   -- for this text's walks alone
set_option linter.unusedVariables false
set_option linter.unusedSimpArgs false

/-! ### spec_FitsField: function 77 -/
mutual
def spec_FitsField.j0 : Nat → Int → Int → Int → Int → Int → Int → List Int → Option (Bool)
  | 0, _, _, _, _, _, _, _ => none
  | k + 1, x5, x430000, x430001, x430002, x430003, x431000, x431001 => spec_FitsField.l0 k x5 0 x430000 x430001 x430002 x430003 x431000 x431001
def spec_FitsField.l0 : Nat → Int → Int → Int → Int → Int → Int → Int → List Int → Option (Bool)
  | 0, _, _, _, _, _, _, _, _ => none
  | k + 1, x5, x6, x430000, x430001, x430002, x430003, x431000, x431001 => if x6 < (x431001.length : Int) then (if 0 ≤ x6 then ((spec_l1In.f (rd x431001 x6) 0 x5).bind fun t433 => (if t433 = true then (spec_FitsField.l0 k x5 (wrap64 (x6 + 1)) x430000 x430001 x430002 x430003 x431000 x431001) else (some false))) else (none)) else (if x431000 = 0 then (some (decide ((x431001.length : Int) ≤ x430001))) else (some false))
end
def spec_FitsField.f (k : Nat) (a0_0 : Int) (a0_1 : Int) (a0_2 : Int) (a0_3 : Int) (a1_0 : Int) (l1_1 : List Int) : Option (Bool) := if a0_0 = 1 then ((spec_l1In.f a1_0 0 a0_1).bind fun t431 => (if t431 = true then (some ((l1_1.length : Int) == 0)) else (some false))) else (if a0_0 = 3 then (spec_FitsField.j0 k 99 a0_0 a0_1 a0_2 a0_3 a1_0 l1_1) else (if a0_0 = 2 then (spec_FitsField.j0 k 255 a0_0 a0_1 a0_2 a0_3 a1_0 l1_1) else (some false)))
theorem spec_FitsField.mono_l : ∀ k, (∀ y0 y1 y2 y3 y4 y5 y6, LeO (spec_FitsField.j0 k y0 y1 y2 y3 y4 y5 y6) (spec_FitsField.j0 (k + 1) y0 y1 y2 y3 y4 y5 y6)) ∧ (∀ y0 y1 y2 y3 y4 y5 y6 y7, LeO (spec_FitsField.l0 k y0 y1 y2 y3 y4 y5 y6 y7) (spec_FitsField.l0 (k + 1) y0 y1 y2 y3 y4 y5 y6 y7))
  | 0 => ⟨fun _ _ _ _ _ _ _ r h => by simp [spec_FitsField.j0] at h, fun _ _ _ _ _ _ _ _ r h => by simp [spec_FitsField.l0] at h⟩
  | k + 1 => by
    obtain ⟨ih0, ih1⟩ := spec_FitsField.mono_l k
    refine ⟨?_, ?_⟩
    · intro y0 y1 y2 y3 y4 y5 y6
      unfold spec_FitsField.j0
      repeat' first
      | (with_reducible exact ih0 _ _ _ _ _ _ _)
      | (with_reducible exact ih1 _ _ _ _ _ _ _ _)
      | (with_reducible exact LeO.refl _)
      | (with_reducible exact LeO.none _)
      | (with_reducible refine LeO.ite ?_ ?_)
      | (with_reducible refine LeO.bind ?_ (fun _ => ?_))
      | exact ih0 _ _ _ _ _ _ _
      | exact ih1 _ _ _ _ _ _ _ _
      | exact LeO.none _
      | refine LeO.ite ?_ ?_
      | refine LeO.bind ?_ (fun _ => ?_)
    · intro y0 y1 y2 y3 y4 y5 y6 y7
      unfold spec_FitsField.l0
      repeat' first
      | (with_reducible exact ih0 _ _ _ _ _ _ _)
      | (with_reducible exact ih1 _ _ _ _ _ _ _ _)
      | (with_reducible exact LeO.refl _)
      | (with_reducible exact LeO.none _)
      | (with_reducible refine LeO.ite ?_ ?_)
      | (with_reducible refine LeO.bind ?_ (fun _ => ?_))
      | exact ih0 _ _ _ _ _ _ _
      | exact ih1 _ _ _ _ _ _ _ _
      | exact LeO.none _
      | refine LeO.ite ?_ ?_
      | refine LeO.bind ?_ (fun _ => ?_)
theorem spec_FitsField.mono : ∀ a0 a1 a2 a3 a4 a5 k, LeO (spec_FitsField.f k a0 a1 a2 a3 a4 a5) (spec_FitsField.f (k + 1) a0 a1 a2 a3 a4 a5) := by
  intro a0 a1 a2 a3 a4 a5 k
  obtain ⟨ih0, ih1⟩ := spec_FitsField.mono_l k
  unfold spec_FitsField.f
  repeat' first
      | (with_reducible exact ih0 _ _ _ _ _ _ _)
      | (with_reducible exact ih1 _ _ _ _ _ _ _ _)
      | (with_reducible exact LeO.refl _)
      | (with_reducible exact LeO.none _)
      | (with_reducible refine LeO.ite ?_ ?_)
      | (with_reducible refine LeO.bind ?_ (fun _ => ?_))
      | exact ih0 _ _ _ _ _ _ _
      | exact ih1 _ _ _ _ _ _ _ _
      | exact LeO.none _
      | refine LeO.ite ?_ ?_
      | refine LeO.bind ?_ (fun _ => ?_)
set_option maxHeartbeats 8000000 in
set_option maxRecDepth 100000 in
theorem spec_FitsField.calls (k : Nat) (a0_0 : Int) (a0_1 : Int) (a0_2 : Int) (a0_3 : Int) (a1_0 : Int) (A1_1 : Option Addr) (c1_1 : Nat) (l1_1 : List Int) (r : Bool) (w : World) (hr1_1 : Kd.C (Kd.int .i64) w A1_1 l1_1.length l1_1) (hc1_1 : l1_1.length ≤ c1_1) (h : spec_FitsField.f k a0_0 a0_1 a0_2 a0_3 a1_0 l1_1 = some r) :
    Calls Try.prog 77 #[.agg #[.int .i64 a0_0, .int .i64 a0_1, .int .i64 a0_2, .int .i64 a0_3], .agg #[.int .i64 a1_0, .slice A1_1 l1_1.length c1_1]] w fun e w' => e = .returned (.bool r) ∧ Below w.heap.size w w' := by
  have hu67 := Try.underlying67
  have hu63 := Try.underlying63
  have HR1_1 := Aside0.mk hr1_1
  have HC1_1 := Aside0.mk hc1_1
  clear hr1_1 hc1_1
  have HB := Aside0.mk (Below.refl w.heap.size w)
  have H : (if a0_0 = 1 then ((spec_l1In.f a1_0 0 a0_1).bind fun t431 => (if t431 = true then (some ((l1_1.length : Int) == 0)) else (some false))) else (if a0_0 = 3 then (spec_FitsField.j0 k 99 a0_0 a0_1 a0_2 a0_3 a1_0 l1_1) else (if a0_0 = 2 then (spec_FitsField.j0 k 255 a0_0 a0_1 a0_2 a0_3 a1_0 l1_1) else (some false)))) = some r := h
  clear h
  have HC3 := Aside0.mk H
  clear H
  go_enter Try.func77, Try.ntmps77
  go_upto_block 0 with (first | ((with_reducible refine gate_dst (N := 2) rfl ?_); (try (refine gate_guard (by rfl) ?_; dsimp only)); refine box_event ?hg (N := 2) ?hd (cs := #[.int .i64 a0_0, .int .i64 a0_1, .int .i64 a0_2, .int .i64 a0_3]) (t := 67) ?hr ?_; (case hd => rfl); (case hg => rfl); (case hr => first | (go_simp; done) | (go_simp; rfl)); intro gb429 hg w4 hbox hb; have n0_ := bS hb; have n1_ := Aside0.mk (hbox); have n2_ : Aside0 (w.heap.size ≤ gb429) := bZ hg; have n3_ : Aside0 (w.heap.size ≤ gb429) := bZ hg; clear HB; have HB := n0_; have BK429 := n1_; have GW429 := n2_; have GE429 := n3_; clear n0_ n1_ n2_ n3_; clear hb hbox hg) | ((with_reducible refine gate_dst (N := 3) rfl ?_); (try (refine gate_guard (by rfl) ?_; dsimp only)); refine box_event ?hg (N := 3) ?hd (cs := #[.int .i64 a1_0, .slice A1_1 l1_1.length c1_1]) (t := 63) ?hr ?_; (case hd => rfl); (case hg => rfl); (case hr => first | (go_simp; done) | (go_simp; rfl)); intro gb430 hg w5 hbox hb; have n0_ := Aside0.mk (blk_below (g := gb429) (o := .cells #[.int .i64 a0_0, .int .i64 a0_1, .int .i64 a0_2, .int .i64 a0_3] 67 (0, 0)) (qK BK429.out) hb); have n1_ := bS hb; have n2_ := Aside0.mk (hbox); have n3_ : Aside0 (w.heap.size ≤ gb430) := bZ hg; have n4_ : Aside0 (w.heap.size ≤ gb430) := bZ hg; have n5_ := Aside0.mk ((by rw [hg]; exact Nat.ne_of_lt (blk_lt (g := gb429) (o := .cells #[.int .i64 a0_0, .int .i64 a0_1, .int .i64 a0_2, .int .i64 a0_3] 67 (0, 0)) (qK BK429.out)) : gb429 ≠ gb430)); have n6_ := Aside0.mk ((by rw [hg]; exact Nat.ne_of_gt (blk_lt (g := gb429) (o := .cells #[.int .i64 a0_0, .int .i64 a0_1, .int .i64 a0_2, .int .i64 a0_3] 67 (0, 0)) (qK BK429.out)) : gb430 ≠ gb429)); clear BK429; clear HB; have BK429 := n0_; have HB := n1_; have BK430 := n2_; have GW430 := n3_; have GE430 := n4_; have NB429_430 := n5_; have NB430_429 := n6_; clear n0_ n1_ n2_ n3_ n4_ n5_ n6_; clear hb hbox hg; have hnb6 := NB429_430.out; have hnc6 := NB430_429.out; obtain ⟨hcz7_0, hcz7_1, hcz7_2, hcz7_3, hfz7_0, hfz7_1, hfz7_2, hfz7_3⟩ := zc4 BK429.out))
  (try simp only [Act.put, sT, sZ, sS])
  go_cut [5] (fun v5 wc => ∃ (kq : Nat) (x5_2 : Int), v5 = .int .i64 x5_2 ∧ Aside0 (spec_FitsField.j0 kq x5_2 a0_0 a0_1 a0_2 a0_3 a1_0 l1_1 = some r) ∧ Aside0 (kq ≤ k) ∧ Aside0 (wc.heap[gb429]? = some (.cells #[.int .i64 a0_0, .int .i64 a0_1, .int .i64 a0_2, .int .i64 a0_3] 67 (0, 0))) ∧ Aside0 (wc.heap[gb430]? = some (.cells #[.int .i64 a1_0, (.slice A1_1 l1_1.length c1_1)] 63 (0, 0))) ∧ Aside0 (Below w.heap.size w wc))
  case first =>
    have H := HC3.out
    clear HC3
    by_cases c8 : a0_0 = 1
    · rw [if_pos c8] at H
      have c8b0 : (a0_0 == 1) = true := beq_iff_eq.mpr c8
      have c8b1 : (a0_0 != 1) = false := bne_eq_false_iff_eq.mpr c8
      clear c8
      (first | rw [c8b0] | (simp only [i64_w, i32_w]; rw [c8b0]) | skip)
      replace H := bE H; obtain ⟨t431, A9, H⟩ := H
      by_cases c10 : t431 = true
      · subst c10
        replace H := iT H
        obtain rfl := Option.some.inj H
        have hnb11 := NB430_429.out
        have hnc11 := NB429_430.out
        have hcz12_0 : w5.cell? ⟨gb430, 0, none⟩ = some (.int .i64 a1_0) := (blk_cell BK430.out 0).trans rfl
        have hcz12_1 : w5.cell? ⟨gb430, 1, none⟩ = some (.slice A1_1 l1_1.length c1_1) := (blk_cell BK430.out 1).trans rfl
        have hfz12_0 := blk_frozen BK430.out 0
        have hfz12_1 := blk_frozen BK430.out 1
        have hcz13_0 : w5.cell? ⟨gb429, 0, none⟩ = some (.int .i64 a0_0) := (blk_cell BK429.out 0).trans rfl
        have hcz13_1 : w5.cell? ⟨gb429, 1, none⟩ = some (.int .i64 a0_1) := (blk_cell BK429.out 1).trans rfl
        have hcz13_2 : w5.cell? ⟨gb429, 2, none⟩ = some (.int .i64 a0_2) := (blk_cell BK429.out 2).trans rfl
        have hcz13_3 : w5.cell? ⟨gb429, 3, none⟩ = some (.int .i64 a0_3) := (blk_cell BK429.out 3).trans rfl
        have hfz13_0 := blk_frozen BK429.out 0
        have hfz13_1 := blk_frozen BK429.out 1
        have hfz13_2 := blk_frozen BK429.out 2
        have hfz13_3 := blk_frozen BK429.out 3
        go_wp2_with (first | ((with_reducible refine gate_callee (f := 59) rfl ?_); refine gL 15 Try.func59 #[.int .i64 a1_0, .int .i64 0, .int .i64 a0_1] ?_; (with_reducible refine (spec_l1In.calls a1_0 0 a0_1 true _ A9.out).mono ?_); rintro e w' ⟨rfl, ⟨nd, rfl⟩⟩; refine ⟨_, rfl, ?_⟩))
        go_ret
        exact ⟨by first | rfl | (simp [errW_none, errW_some] <;> rfl) | (simp [*, errW_none, errW_some] <;> rfl), z36⟩
      · replace c10 := Bool.eq_false_iff.mpr c10
        subst c10
        replace H := iF H
        obtain rfl := Option.some.inj H
        have hnb14 := NB430_429.out
        have hnc14 := NB429_430.out
        have hcz15_0 : w5.cell? ⟨gb430, 0, none⟩ = some (.int .i64 a1_0) := (blk_cell BK430.out 0).trans rfl
        have hcz15_1 : w5.cell? ⟨gb430, 1, none⟩ = some (.slice A1_1 l1_1.length c1_1) := (blk_cell BK430.out 1).trans rfl
        have hfz15_0 := blk_frozen BK430.out 0
        have hfz15_1 := blk_frozen BK430.out 1
        have hcz16_0 : w5.cell? ⟨gb429, 0, none⟩ = some (.int .i64 a0_0) := (blk_cell BK429.out 0).trans rfl
        have hcz16_1 : w5.cell? ⟨gb429, 1, none⟩ = some (.int .i64 a0_1) := (blk_cell BK429.out 1).trans rfl
        have hcz16_2 : w5.cell? ⟨gb429, 2, none⟩ = some (.int .i64 a0_2) := (blk_cell BK429.out 2).trans rfl
        have hcz16_3 : w5.cell? ⟨gb429, 3, none⟩ = some (.int .i64 a0_3) := (blk_cell BK429.out 3).trans rfl
        have hfz16_0 := blk_frozen BK429.out 0
        have hfz16_1 := blk_frozen BK429.out 1
        have hfz16_2 := blk_frozen BK429.out 2
        have hfz16_3 := blk_frozen BK429.out 3
        go_wp2_with (first | ((with_reducible refine gate_callee (f := 59) rfl ?_); refine gL 15 Try.func59 #[.int .i64 a1_0, .int .i64 0, .int .i64 a0_1] ?_; (with_reducible refine (spec_l1In.calls a1_0 0 a0_1 false _ A9.out).mono ?_); rintro e w' ⟨rfl, ⟨nd, rfl⟩⟩; refine ⟨_, rfl, ?_⟩))
        go_ret
        exact ⟨by first | rfl | (simp [errW_none, errW_some] <;> rfl) | (simp [*, errW_none, errW_some] <;> rfl), z36⟩
    · rw [if_neg c8] at H
      have c8b0 : (a0_0 == 1) = false := beq_eq_false_iff_ne.mpr c8
      have c8b1 : (a0_0 != 1) = true := bne_iff_ne.mpr c8
      (first | rw [c8b0] | (simp only [i64_w, i32_w]; rw [c8b0]) | skip)
      by_cases c17 : a0_0 = 3
      · rw [if_pos c17] at H
        have c17b0 : (a0_0 == 3) = true := beq_iff_eq.mpr c17
        have c17b1 : (a0_0 != 3) = false := bne_eq_false_iff_eq.mpr c17
        clear c17
        have H' := Aside0.mk H
        clear H
        go_wp2
        go_meet
        case rel => exact ⟨_, (99), (by first | rfl | (simp; done) | (simp [*]; done)), H', ⟨by first | omega | exact Nat.le_refl _⟩, ⟨qK BK429.out⟩, ⟨qK BK430.out⟩, ⟨z36⟩⟩
      · rw [if_neg c17] at H
        have c17b0 : (a0_0 == 3) = false := beq_eq_false_iff_ne.mpr c17
        have c17b1 : (a0_0 != 3) = true := bne_iff_ne.mpr c17
        by_cases c18 : a0_0 = 2
        · rw [if_pos c18] at H
          have c18b0 : (a0_0 == 2) = true := beq_iff_eq.mpr c18; have c18b1 : (a0_0 != 2) = false := bne_eq_false_iff_eq.mpr c18; clear c18; have H' := Aside0.mk H; clear H; go_wp2; go_meet
          case rel => exact ⟨_, (255), (by first | rfl | (simp; done) | (simp [*]; done)), H', ⟨by first | omega | exact Nat.le_refl _⟩, ⟨qK BK429.out⟩, ⟨qK BK430.out⟩, ⟨z36⟩⟩
        · rw [if_neg c18] at H
          have c18b0 : (a0_0 == 2) = false := beq_eq_false_iff_ne.mpr c18; have c18b1 : (a0_0 != 2) = true := bne_iff_ne.mpr c18; obtain rfl := Option.some.inj H; go_wp2; go_ret; (exact ⟨by first | rfl | (simp [errW_none, errW_some] <;> rfl) | (simp [*, errW_none, errW_some] <;> rfl), z36⟩)
  case rest =>
    clear HC3
    try clear c1
    try clear p2
    try clear c5
    try clear c6
    try clear c7
    try clear c8
    try clear c8b0
    try clear c8b1
    try clear c10
    try clear c11
    try clear c14
    try clear c17
    try clear c17b0
    try clear c17b1
    try clear c18
    try clear c18b0
    try clear c18b1
    try clear hcz12_0
    try clear hcz12_1
    try clear hcz13_0
    try clear hcz13_1
    try clear hcz13_2
    try clear hcz13_3
    try clear hcz15_0
    try clear hcz15_1
    try clear hcz16_0
    try clear hcz16_1
    try clear hcz16_2
    try clear hcz16_3
    try clear hcz7_0
    try clear hcz7_1
    try clear hcz7_2
    try clear hcz7_3
    try clear hfz12_0
    try clear hfz12_1
    try clear hfz13_0
    try clear hfz13_1
    try clear hfz13_2
    try clear hfz13_3
    try clear hfz15_0
    try clear hfz15_1
    try clear hfz16_0
    try clear hfz16_1
    try clear hfz16_2
    try clear hfz16_3
    try clear hfz7_0
    try clear hfz7_1
    try clear hfz7_2
    try clear hfz7_3
    obtain ⟨kq, x5_2, rfl, HA, HJ2, BK429, BK430, HB⟩ := hcut
    cases kq with
    | zero => exact absurd HA.out (by simp [spec_FitsField.j0])
    | succ kj2 =>
      have H := HA.out
      clear HA
      simp only [spec_FitsField.j0] at H
      have H' := Aside0.mk H
      clear H
      go_wp2
      go_loopg [6] kj2 (fun kq v6 w' => ∃ (x6_2 : Int), v6 = .int .i64 x6_2 ∧ Aside0 (spec_FitsField.l0 kq x5_2 x6_2 a0_0 a0_1 a0_2 a0_3 a1_0 l1_1 = some r) ∧ Aside0 (kq ≤ kj2) ∧ Aside0 (w'.heap[gb429]? = some (.cells #[.int .i64 a0_0, .int .i64 a0_1, .int .i64 a0_2, .int .i64 a0_3] 67 (0, 0))) ∧ Aside0 (w'.heap[gb430]? = some (.cells #[.int .i64 a1_0, (.slice A1_1 l1_1.length c1_1)] 63 (0, 0))) ∧ Aside0 (Below w.heap.size w w'))
      case atStart => exact ⟨(0), (by first | rfl | (simp; done) | (simp [*]; done)), H', ⟨Nat.le_refl _⟩, ⟨qK BK429.out⟩, ⟨qK BK430.out⟩, ⟨z36⟩⟩
      case round =>
        clear H'
        try clear c1
        try clear p2
        try clear c5
        try clear c6
        try clear c7
        try clear c8
        try clear c8b0
        try clear c8b1
        try clear c10
        try clear c11
        try clear c14
        try clear c17
        try clear c17b0
        try clear c17b1
        try clear c18
        try clear c18b0
        try clear c18b1
        try clear hcz12_0
        try clear hcz12_1
        try clear hcz13_0
        try clear hcz13_1
        try clear hcz13_2
        try clear hcz13_3
        try clear hcz15_0
        try clear hcz15_1
        try clear hcz16_0
        try clear hcz16_1
        try clear hcz16_2
        try clear hcz16_3
        try clear hcz7_0
        try clear hcz7_1
        try clear hcz7_2
        try clear hcz7_3
        try clear hfz12_0
        try clear hfz12_1
        try clear hfz13_0
        try clear hfz13_1
        try clear hfz13_2
        try clear hfz13_3
        try clear hfz15_0
        try clear hfz15_1
        try clear hfz16_0
        try clear hfz16_1
        try clear hfz16_2
        try clear hfz16_3
        try clear hfz7_0
        try clear hfz7_1
        try clear hfz7_2
        try clear hfz7_3
        try clear p2
        obtain ⟨x6_2, rfl, HA, HK2, BK429, BK430, HB⟩ := hrel
        cases gk with
        | zero => exact absurd HA.out (by simp [spec_FitsField.l0])
        | succ k2 =>
          have H := HA.out; clear HA; simp only [spec_FitsField.l0] at H; by_cases c19 : x6_2 < (l1_1.length : Int)
          · rw [if_pos c19] at H
            have c19b0 : decide (x6_2 < (l1_1.length : Int)) = true := decide_eq_true c19; clear c19; by_cases c20 : 0 ≤ x6_2
            · rw [if_pos c20] at H
              have c20b0 : decide (0 ≤ x6_2) = true := decide_eq_true c20; clear c20; replace H := bE H; obtain ⟨t433, A21, H⟩ := H; by_cases c22 : t433 = true
              · subst c22
                replace H := iT H; have H' := Aside0.mk H; clear H; have hnb23 := NB430_429.out; have hnc23 := NB429_430.out; obtain ⟨hcz24_0, hcz24_1, hfz24_0, hfz24_1⟩ := zc2 BK430.out; (have p432 : 0 ≤ (x6_2 : Int) := of_decide_eq_true (by assumption)); (have q432 : x6_2 < (l1_1.length : Int) := of_decide_eq_true (by assumption)); obtain ⟨ad432, e432, hx432_0⟩ := Kd.at_int HR1_1.out x6_2 p432 q432; cases e432; replace hx432_0 := hC HB.out hx432_0; replace p432 := eq_true p432; replace q432 := eq_true q432; (go_wp2_with (first | ((with_reducible refine gate_callee (f := 59) rfl ?_); refine gL 39 Try.func59 #[.int .i64 (rd l1_1 x6_2), .int .i64 0, .int .i64 x5_2] ?_; (with_reducible refine (spec_l1In.calls (rd l1_1 x6_2) 0 x5_2 true _ A21.out).mono ?_); rintro e w' ⟨rfl, ⟨nd, rfl⟩⟩; refine ⟨_, rfl, ?_⟩))); go_roundg k2
                case measure => have := HJ2.out; have := HK2.out; omega
                case rel => exact ⟨(wrap64 (x6_2 + 1)), (by first | rfl | (simp; done) | (simp [*]; done)), H', ⟨by have := HJ2.out; have := HK2.out; omega⟩, ⟨qK BK429.out⟩, ⟨qK BK430.out⟩, ⟨z36⟩⟩
              · replace c22 := Bool.eq_false_iff.mpr c22; subst c22; replace H := iF H; obtain rfl := Option.some.inj H; have hnb25 := NB430_429.out; have hnc25 := NB429_430.out; obtain ⟨hcz26_0, hcz26_1, hfz26_0, hfz26_1⟩ := zc2 BK430.out; (have p432 : 0 ≤ (x6_2 : Int) := of_decide_eq_true (by assumption)); (have q432 : x6_2 < (l1_1.length : Int) := of_decide_eq_true (by assumption)); obtain ⟨ad432, e432, hx432_0⟩ := Kd.at_int HR1_1.out x6_2 p432 q432; cases e432; replace hx432_0 := hC HB.out hx432_0; replace p432 := eq_true p432; replace q432 := eq_true q432; (go_wp2_with (first | ((with_reducible refine gate_callee (f := 59) rfl ?_); refine gL 39 Try.func59 #[.int .i64 (rd l1_1 x6_2), .int .i64 0, .int .i64 x5_2] ?_; (with_reducible refine (spec_l1In.calls (rd l1_1 x6_2) 0 x5_2 false _ A21.out).mono ?_); rintro e w' ⟨rfl, ⟨nd, rfl⟩⟩; refine ⟨_, rfl, ?_⟩))); go_ret; (exact ⟨by first | rfl | (simp [errW_none, errW_some] <;> rfl) | (simp [*, errW_none, errW_some] <;> rfl), z36⟩)
            · rw [if_neg c20] at H; (exact absurd H (by simp))
          · rw [if_neg c19] at H
            have c19b0 : decide (x6_2 < (l1_1.length : Int)) = false := decide_eq_false c19; clear c19; by_cases c27 : a1_0 = 0; (· rw [if_pos c27] at H; have c27b0 : (a1_0 == 0) = true := beq_iff_eq.mpr c27; have c27b1 : (a1_0 != 0) = false := bne_eq_false_iff_eq.mpr c27; clear c27; obtain rfl := Option.some.inj H; have hnb28 := NB430_429.out; have hnc28 := NB429_430.out; obtain ⟨hcz29_0, hcz29_1, hfz29_0, hfz29_1⟩ := zc2 BK430.out; obtain ⟨hcz30_0, hcz30_1, hcz30_2, hcz30_3, hfz30_0, hfz30_1, hfz30_2, hfz30_3⟩ := zc4 BK429.out; go_wp2; go_ret; (exact ⟨by first | rfl | (simp [errW_none, errW_some] <;> rfl) | (simp [*, errW_none, errW_some] <;> rfl), z36⟩)); (· rw [if_neg c27] at H; have c27b0 : (a1_0 == 0) = false := beq_eq_false_iff_ne.mpr c27; have c27b1 : (a1_0 != 0) = true := bne_iff_ne.mpr c27; obtain rfl := Option.some.inj H; have hnb31 := NB430_429.out; have hnc31 := NB429_430.out; obtain ⟨hcz32_0, hcz32_1, hfz32_0, hfz32_1⟩ := zc2 BK430.out; go_wp2; go_ret; (exact ⟨by first | rfl | (simp [errW_none, errW_some] <;> rfl) | (simp [*, errW_none, errW_some] <;> rfl), z36⟩))

/-! ### spec_FitsFormat: function 48 -/
mutual
abbrev m48x0 : Array Bool := #[true, true, true, true, true, true, true, true, true, true, true, true, true, true, true, true, true, true, true, true, true, true, true, true, true, true, true, true, true, true, true, true, true, true, true, true, true, true, true, true]
abbrev m48x1 : Array Bool := #[true, true, true, true, true, true, true, true, true, true, true, true, true, true, true, true, true, true, true, true, true, true, true, true, true, true, true, true, true, true, true, true, true, true, true, true, true, true, true, false]
abbrev m48x2 : Array Bool := #[true, true, true, true, true, true, true, true, true, true, true, true, true, true, true, true, true, true, true, true, true, true, true, true, true, true, true, true, true, true, true, true, true, true, true, true, true, true, false, false]
abbrev m48x3 : Array Bool := #[true, true, true, true, true, true, true, true, true, true, true, true, true, true, true, true, true, true, true, true, true, true, true, true, true, true, true, true, true, true, true, true, true, true, true, true, true, false, false, false]
abbrev m48x4 : Array Bool := #[true, true, true, true, true, true, true, true, true, true, true, true, true, true, true, true, true, true, true, true, true, true, true, true, true, true, true, true, true, true, true, true, true, true, true, true, false, false, false, false]
abbrev m48x5 : Array Bool := #[true, true, true, true, true, true, true, true, true, true, true, true, true, true, true, true, true, true, true, true, true, true, true, true, true, true, true, true, true, true, true, true, true, true, true, false, false, false, false, false]
abbrev m48x6 : Array Bool := #[true, true, true, true, true, true, true, true, true, true, true, true, true, true, true, true, true, true, true, true, true, true, true, true, true, true, true, true, true, true, true, true, true, true, false, false, false, false, false, false]
abbrev m48x7 : Array Bool := #[true, true, true, true, true, true, true, true, true, true, true, true, true, true, true, true, true, true, true, true, true, true, true, true, true, true, true, true, true, true, true, true, true, false, false, false, false, false, false, false]
abbrev m48x8 : Array Bool := #[true, true, true, true, true, true, true, true, true, true, true, true, true, true, true, true, true, true, true, true, true, true, true, true, true, true, true, true, true, true, true, true, false, false, false, false, false, false, false, false]
abbrev m48x9 : Array Bool := #[true, true, true, true, true, true, true, true, true, true, true, true, true, true, true, true, true, true, true, true, true, true, true, true, true, true, true, true, true, true, true, false, false, false, false, false, false, false, false, false]
abbrev m48x10 : Array Bool := #[true, true, true, true, true, true, true, true, true, true, true, true, true, true, true, true, true, true, true, true, true, true, true, true, true, true, true, true, true, true, false, false, false, false, false, false, false, false, false, false]
abbrev m48x11 : Array Bool := #[true, true, true, true, true, true, true, true, true, true, true, true, true, true, true, true, true, true, true, true, true, true, true, true, true, true, true, true, true, false, false, false, false, false, false, false, false, false, false, false]
abbrev m48x12 : Array Bool := #[true, true, true, true, true, true, true, true, true, true, true, true, true, true, true, true, true, true, true, true, true, true, true, true, true, true, true, true, false, false, false, false, false, false, false, false, false, false, false, false]
abbrev m48x13 : Array Bool := #[true, true, true, true, true, true, true, true, true, true, true, true, true, true, true, true, true, true, true, true, true, true, true, true, true, true, true, false, false, false, false, false, false, false, false, false, false, false, false, false]
abbrev m48x14 : Array Bool := #[true, true, true, true, true, true, true, true, true, true, true, true, true, true, true, true, true, true, true, true, true, true, true, true, true, true, false, false, false, false, false, false, false, false, false, false, false, false, false, false]
abbrev m48x15 : Array Bool := #[true, true, true, true, true, true, true, true, true, true, true, true, true, true, true, true, true, true, true, true, true, true, true, true, true, false, false, false, false, false, false, false, false, false, false, false, false, false, false, false]
abbrev m48x16 : Array Bool := #[true, true, true, true, true, true, true, true, true, true, true, true, true, true, true, true, true, true, true, true, true, true, true, true, false, false, false, false, false, false, false, false, false, false, false, false, false, false, false, false]
abbrev m48x17 : Array Bool := #[true, true, true, true, true, true, true, true, true, true, true, true, true, true, true, true, true, true, true, true, true, true, true, false, false, false, false, false, false, false, false, false, false, false, false, false, false, false, false, false]
abbrev m48x18 : Array Bool := #[true, true, true, true, true, true, true, true, true, true, true, true, true, true, true, true, true, true, true, true, true, true, false, false, false, false, false, false, false, false, false, false, false, false, false, false, false, false, false, false]
abbrev m48x19 : Array Bool := #[true, true, true, true, true, true, true, true, true, true, true, true, true, true, true, true, true, true, true, true, true, false, false, false, false, false, false, false, false, false, false, false, false, false, false, false, false, false, false, false]
abbrev m48x20 : Array Bool := #[true, true, true, true, true, true, true, true, true, true, true, true, true, true, true, true, true, true, true, true, false, false, false, false, false, false, false, false, false, false, false, false, false, false, false, false, false, false, false, false]
abbrev m48x21 : Array Bool := #[true, true, true, true, true, true, true, true, true, true, true, true, true, true, true, true, true, true, true, false, false, false, false, false, false, false, false, false, false, false, false, false, false, false, false, false, false, false, false, false]
abbrev m48x22 : Array Bool := #[true, true, true, true, true, true, true, true, true, true, true, true, true, true, true, true, true, true, false, false, false, false, false, false, false, false, false, false, false, false, false, false, false, false, false, false, false, false, false, false]
abbrev m48x23 : Array Bool := #[true, true, true, true, true, true, true, true, true, true, true, true, true, true, true, true, true, false, false, false, false, false, false, false, false, false, false, false, false, false, false, false, false, false, false, false, false, false, false, false]
abbrev m48x24 : Array Bool := #[true, true, true, true, true, true, true, true, true, true, true, true, true, true, true, true, false, false, false, false, false, false, false, false, false, false, false, false, false, false, false, false, false, false, false, false, false, false, false, false]
abbrev m48x25 : Array Bool := #[true, true, true, true, true, true, true, true, true, true, true, true, true, true, true, false, false, false, false, false, false, false, false, false, false, false, false, false, false, false, false, false, false, false, false, false, false, false, false, false]
abbrev m48x26 : Array Bool := #[true, true, true, true, true, true, true, true, true, true, true, true, true, true, false, false, false, false, false, false, false, false, false, false, false, false, false, false, false, false, false, false, false, false, false, false, false, false, false, false]
abbrev m48x27 : Array Bool := #[true, true, true, true, true, true, true, true, true, true, true, true, true, false, false, false, false, false, false, false, false, false, false, false, false, false, false, false, false, false, false, false, false, false, false, false, false, false, false, false]
abbrev m48x28 : Array Bool := #[true, true, true, true, true, true, true, true, true, true, true, true, false, false, false, false, false, false, false, false, false, false, false, false, false, false, false, false, false, false, false, false, false, false, false, false, false, false, false, false]
abbrev m48x29 : Array Bool := #[true, true, true, true, true, true, true, true, false, true, true, true, false, false, false, false, false, false, false, false, false, false, false, false, false, false, false, false, false, false, false, false, false, false, false, false, false, false, false, false]
abbrev m48x30 : Array Bool := #[true, true, true, true, true, true, true, true, true, true, true, false, false, false, false, false, false, false, false, false, false, false, false, false, false, false, false, false, false, false, false, false, false, false, false, false, false, false, false, false]
abbrev m48x31 : Array Bool := #[true, true, true, true, true, true, true, true, false, true, true, false, false, false, false, false, false, false, false, false, false, false, false, false, false, false, false, false, false, false, false, false, false, false, false, false, false, false, false, false]
abbrev m48x32 : Array Bool := #[true, true, true, true, true, true, true, true, true, true, false, false, false, false, false, false, false, false, false, false, false, false, false, false, false, false, false, false, false, false, false, false, false, false, false, false, false, false, false, false]
abbrev m48x33 : Array Bool := #[true, true, true, true, true, true, true, true, false, true, false, false, false, false, false, false, false, false, false, false, false, false, false, false, false, false, false, false, false, false, false, false, false, false, false, false, false, false, false, false]
abbrev m48x34 : Array Bool := #[true, true, true, true, true, true, true, true, true, false, false, false, false, false, false, false, false, false, false, false, false, false, false, false, false, false, false, false, false, false, false, false, false, false, false, false, false, false, false, false]
abbrev m48x35 : Array Bool := #[true, true, true, true, true, true, true, true, false, false, false, false, false, false, false, false, false, false, false, false, false, false, false, false, false, false, false, false, false, false, false, false, false, false, false, false, false, false, false, false]
abbrev m48x36 : Array Bool := #[true, true, true, true, true, true, true, false, false, false, false, false, false, false, false, false, false, false, false, false, false, false, false, false, false, false, false, false, false, false, false, false, false, false, false, false, false, false, false, false]
abbrev m48x37 : Array Bool := #[true, true, true, true, true, true, false, false, false, false, false, false, false, false, false, false, false, false, false, false, false, false, false, false, false, false, false, false, false, false, false, false, false, false, false, false, false, false, false, false]
abbrev m48x38 : Array Bool := #[true, true, true, true, true, false, false, false, false, false, false, false, false, false, false, false, false, false, false, false, false, false, false, false, false, false, false, false, false, false, false, false, false, false, false, false, false, false, false, false]
abbrev m48x39 : Array Bool := #[true, true, true, true, false, false, false, false, false, false, false, false, false, false, false, false, false, false, false, false, false, false, false, false, false, false, false, false, false, false, false, false, false, false, false, false, false, false, false, false]
abbrev m48x40 : Array Bool := #[true, true, true, false, false, false, false, false, false, false, false, false, false, false, false, false, false, false, false, false, false, false, false, false, false, false, false, false, false, false, false, false, false, false, false, false, false, false, false, false]
abbrev m48x41 : Array Bool := #[true, true, false, false, false, false, false, false, false, false, false, false, false, false, false, false, false, false, false, false, false, false, false, false, false, false, false, false, false, false, false, false, false, false, false, false, false, false, false, false]
abbrev m48x42 : Array Bool := #[true, false, false, false, false, false, false, false, false, false, false, false, false, false, false, false, false, false, false, false, false, false, false, false, false, false, false, false, false, false, false, false, false, false, false, false, false, false, false, false]
abbrev m48x43 : Array Bool := #[false, false, false, false, false, false, false, false, false, false, false, false, false, false, false, false, false, false, false, false, false, false, false, false, false, false, false, false, false, false, false, false, false, false, false, false, false, false, false, false]
def spec_FitsFormat.j0 : Nat → List (S67) → List (S63) → Bool → Option (Bool)
  | 0, _, _, _ => none
  | k + 1, x0, x1, x15 => if x15 = true then (some false) else (spec_FitsFormat.l0 k x0 x1 0)
def spec_FitsFormat.l0 : Nat → List (S67) → List (S63) → Int → Option (Bool)
  | 0, _, _, _ => none
  | k + 1, x0, x1, x5 => if x5 < (x0.length : Int) then ((spec_IsThere.f x0 x1 x5).bind fun t435 => (if t435 = true then (if 0 ≤ x5 then (if x5 < (x1.length : Int) then ((spec_FitsField.f k ((rd_T67 x0 x5).f0) ((rd_T67 x0 x5).f1) ((rd_T67 x0 x5).f2) ((rd_T67 x0 x5).f3) ((rd_T63 x1 x5).f0) ((rd_T63 x1 x5).f1)).bind fun t438 => (if t438 = true then ((spec_IsThere.f x0 x1 x5).bind fun t439 => (if t439 = true then (spec_FitsFormat.l0 k x0 x1 (wrap64 (x5 + 1))) else (if ((rd_T63 x1 x5).f0) = 0 then (if (((rd_T63 x1 x5).f1).length : Int) > 0 then (some false) else (spec_FitsFormat.l0 k x0 x1 (wrap64 (x5 + 1)))) else (some false)))) else (some false))) else (none)) else (none)) else ((spec_IsThere.f x0 x1 x5).bind fun t442 => (if t442 = true then (spec_FitsFormat.l0 k x0 x1 (wrap64 (x5 + 1))) else (if 0 ≤ x5 then (if x5 < (x1.length : Int) then (if ((rd_T63 x1 x5).f0) = 0 then (if (((rd_T63 x1 x5).f1).length : Int) > 0 then (some false) else (spec_FitsFormat.l0 k x0 x1 (wrap64 (x5 + 1)))) else (some false)) else (none)) else (none)))))) else (some true)
end
def spec_FitsFormat.f (k : Nat) (l0 : List (S67)) (l1 : List (S63)) : Option (Bool) := (spec_IsFormat.f k l0).bind fun t434 => (if t434 = true then (spec_FitsFormat.j0 k l0 l1 ((l1.length : Int) != (l0.length : Int))) else (spec_FitsFormat.j0 k l0 l1 true))
theorem spec_FitsFormat.mono_l : ∀ k, (∀ y0 y1 y2, LeO (spec_FitsFormat.j0 k y0 y1 y2) (spec_FitsFormat.j0 (k + 1) y0 y1 y2)) ∧ (∀ y0 y1 y2, LeO (spec_FitsFormat.l0 k y0 y1 y2) (spec_FitsFormat.l0 (k + 1) y0 y1 y2))
  | 0 => ⟨fun _ _ _ r h => by simp [spec_FitsFormat.j0] at h, fun _ _ _ r h => by simp [spec_FitsFormat.l0] at h⟩
  | k + 1 => by
    obtain ⟨ih0, ih1⟩ := spec_FitsFormat.mono_l k
    refine ⟨?_, ?_⟩
    · intro y0 y1 y2
      unfold spec_FitsFormat.j0
      repeat' first
      | (with_reducible exact ih0 _ _ _)
      | (with_reducible exact ih1 _ _ _)
      | (with_reducible exact spec_FitsField.mono _ _ _ _ _ _ _)
      | (with_reducible exact spec_IsFormat.mono _ _)
      | (with_reducible exact LeO.refl _)
      | (with_reducible exact LeO.none _)
      | (with_reducible refine LeO.ite ?_ ?_)
      | (with_reducible refine LeO.bind ?_ (fun _ => ?_))
      | exact ih0 _ _ _
      | exact ih1 _ _ _
      | exact spec_FitsField.mono _ _ _ _ _ _ _
      | exact spec_IsFormat.mono _ _
      | exact LeO.none _
      | refine LeO.ite ?_ ?_
      | refine LeO.bind ?_ (fun _ => ?_)
    · intro y0 y1 y2
      unfold spec_FitsFormat.l0
      repeat' first
      | (with_reducible exact ih0 _ _ _)
      | (with_reducible exact ih1 _ _ _)
      | (with_reducible exact spec_FitsField.mono _ _ _ _ _ _ _)
      | (with_reducible exact spec_IsFormat.mono _ _)
      | (with_reducible exact LeO.refl _)
      | (with_reducible exact LeO.none _)
      | (with_reducible refine LeO.ite ?_ ?_)
      | (with_reducible refine LeO.bind ?_ (fun _ => ?_))
      | exact ih0 _ _ _
      | exact ih1 _ _ _
      | exact spec_FitsField.mono _ _ _ _ _ _ _
      | exact spec_IsFormat.mono _ _
      | exact LeO.none _
      | refine LeO.ite ?_ ?_
      | refine LeO.bind ?_ (fun _ => ?_)
theorem spec_FitsFormat.mono : ∀ a0 a1 k, LeO (spec_FitsFormat.f k a0 a1) (spec_FitsFormat.f (k + 1) a0 a1) := by
  intro a0 a1 k
  obtain ⟨ih0, ih1⟩ := spec_FitsFormat.mono_l k
  unfold spec_FitsFormat.f
  repeat' first
      | (with_reducible exact ih0 _ _ _)
      | (with_reducible exact ih1 _ _ _)
      | (with_reducible exact spec_FitsField.mono _ _ _ _ _ _ _)
      | (with_reducible exact spec_IsFormat.mono _ _)
      | (with_reducible exact LeO.refl _)
      | (with_reducible exact LeO.none _)
      | (with_reducible refine LeO.ite ?_ ?_)
      | (with_reducible refine LeO.bind ?_ (fun _ => ?_))
      | exact ih0 _ _ _
      | exact ih1 _ _ _
      | exact spec_FitsField.mono _ _ _ _ _ _ _
      | exact spec_IsFormat.mono _ _
      | exact LeO.none _
      | refine LeO.ite ?_ ?_
      | refine LeO.bind ?_ (fun _ => ?_)
def spec_FitsFormat.T6 : Bool × List (List Nat × List Nat) := (true, [([], []), ([], []), ([], []), ([0, 1, 2], [0, 1, 2]), ([3, 3], [3]), ([4], [4]), ([4], [4]), ([5, 6, 4], [4, 5, 6]), ([7, 4], [4, 7]), ([4], [4]), ([4], [4]), ([9, 10, 4], [4, 9, 10]), ([11, 4], [4, 11]), ([8, 12, 4, 4], [4, 8, 12]), ([13, 4], [4, 13]), ([4, 14], [4, 14]), ([15, 13], [15]), ([16], [16]), ([16], [16]), ([16], [16]), ([17, 18, 19, 16, 16], [16, 17, 18, 19]), ([20, 16], [16, 20]), ([21, 20, 16], [16, 21]), ([22], [22]), ([22], [22]), ([23, 24, 22], [22, 23, 24]), ([25, 22], [22, 25]), ([26, 22], [22, 26]), ([27, 22], [22, 27]), ([28, 22, 22], [22, 28]), ([29], [29]), ([29], [29]), ([30, 31, 29], [29, 30, 31]), ([32, 29], [29, 32]), ([33, 29], [29, 33]), ([34, 29], [29, 34]), ([35, 29], [29, 35]), ([29, 36, 22], [22, 29, 36]), ([22, 37, 16], [16, 22, 37]), ([16, 38], [16, 38])])
def spec_FitsFormat.B6 : List Nat := [0, 0, 0, 7, 15, 31, 31, 127, 255, 31, 31, 1567, 3615, 8191, 16383, 32767, 65535, 131071, 131071, 131071, 1048575, 2097151, 4194303, 8388607, 8388607, 33554431, 67108863, 134217727, 268435455, 536870911, 1073741823, 1073741823, 4294967295, 8589934591, 17179869183, 34359738367, 68719476735, 137438953471, 274877906943, 549755813887]
theorem spec_FitsFormat.tab6 : rtab .any (opsOf Try.f48 6) = spec_FitsFormat.T6 := by kernel_rfl
theorem spec_FitsFormat.bits6 : waitsOk spec_FitsFormat.T6.2 spec_FitsFormat.B6 = true := by kernel_rfl
set_option maxHeartbeats 8000000 in
set_option maxRecDepth 100000 in
theorem spec_FitsFormat.calls (k : Nat) (A0 : Option Addr) (c0 : Nat) (l0 : List (S67)) (A1 : Option Addr) (c1 : Nat) (l1 : List (S63)) (r : Bool) (w : World) (hr0 : Kd.C k67 w A0 l0.length l0) (hc0 : l0.length ≤ c0) (hr1 : Kd.C k63 w A1 l1.length l1) (hc1 : l1.length ≤ c1) (h : spec_FitsFormat.f k l0 l1 = some r) :
    Calls Try.prog 48 #[.slice A0 l0.length c0, .slice A1 l1.length c1] w fun e w' => e = .returned (.bool r) ∧ Below w.heap.size w w' := by
  have hu67 := Try.underlying67
  have hu63 := Try.underlying63
  have HR0 := Aside0.mk hr0
  have HC0 := Aside0.mk hc0
  clear hr0 hc0
  have HR1 := Aside0.mk hr1
  have HC1 := Aside0.mk hc1
  clear hr1 hc1
  have HB := Aside0.mk (Below.refl w.heap.size w)
  have H : ((spec_IsFormat.f k l0).bind fun t434 => (if t434 = true then (spec_FitsFormat.j0 k l0 l1 ((l1.length : Int) != (l0.length : Int))) else (spec_FitsFormat.j0 k l0 l1 true))) = some r := h
  clear h
  have HC3 := Aside0.mk H
  clear H
  go_enter Try.func48, Try.ntmps48
  go_upto_region 1 with (fail)
  go_cut [15] (fun v15 wc => ∃ (kq : Nat) (x15_2 : Bool), v15 = .bool x15_2 ∧ Aside0 (spec_FitsFormat.j0 kq l0 l1 x15_2 = some r) ∧ Aside0 (kq ≤ k) ∧ Aside0 (Below w.heap.size w wc))
  case first =>
    have H := HC3.out
    clear HC3
    replace H := bE H; obtain ⟨t434, A4, H⟩ := H
    by_cases c5 : t434 = true
    · subst c5
      replace H := iT H
      have H' := Aside0.mk H
      clear H
      go_wp2_with (first | ((with_reducible refine gate_callee (f := 39) rfl ?_); refine gL 7 Try.func39 #[.slice A0 l0.length c0] ?_; (with_reducible refine (spec_IsFormat.calls k _ _ l0 true _ ?side1 ?side2 A4.out).mono ?_); (case side1 => exact kC HR0.out); (case side2 => exact HC0.out); rintro e w6 ⟨rfl, hb⟩; refine ⟨_, rfl, ?_⟩; have n0_ := bS hb; clear HB; have HB := n0_; clear n0_; (try clear hb); (try clear hb2); (try clear hk); (try clear hi)))
      go_meet
      case rel => exact ⟨_, (((l1.length : Int) != (l0.length : Int))), (by first | rfl | (simp; done) | (simp [*]; done)), H', ⟨by first | omega | exact Nat.le_refl _⟩, ⟨z2⟩⟩
    · replace c5 := Bool.eq_false_iff.mpr c5
      subst c5
      replace H := iF H
      have H' := Aside0.mk H
      clear H
      go_wp2_with (first | ((with_reducible refine gate_callee (f := 39) rfl ?_); refine gL 7 Try.func39 #[.slice A0 l0.length c0] ?_; (with_reducible refine (spec_IsFormat.calls k _ _ l0 false _ ?side1 ?side2 A4.out).mono ?_); (case side1 => exact kC HR0.out); (case side2 => exact HC0.out); rintro e w7 ⟨rfl, hb⟩; refine ⟨_, rfl, ?_⟩; have n0_ := bS hb; clear HB; have HB := n0_; clear n0_; (try clear hb); (try clear hb2); (try clear hk); (try clear hi)))
      go_meet
      case rel => exact ⟨_, (true), (by first | rfl | (simp; done) | (simp [*]; done)), H', ⟨by first | omega | exact Nat.le_refl _⟩, ⟨z2⟩⟩
  case rest =>
    clear HC3
    try clear c1
    try clear p2
    try clear c3
    try clear c4
    try clear c5
    obtain ⟨kq, x15_2, rfl, HA, HJ2, HB⟩ := hcut
    cases kq with
    | zero => exact absurd HA.out (by simp [spec_FitsFormat.j0])
    | succ kj2 =>
      have H := HA.out
      clear HA
      simp only [spec_FitsFormat.j0] at H
      by_cases c8 : x15_2 = true
      · subst c8
        replace H := iT H
        obtain rfl := Option.some.inj H
        go_wp2
        go_ret
        exact ⟨by first | rfl | (simp [errW_none, errW_some] <;> rfl) | (simp [*, errW_none, errW_some] <;> rfl), z2⟩
      · replace c8 := Bool.eq_false_iff.mpr c8
        subst c8
        replace H := iF H
        have H' := Aside0.mk H
        clear H
        go_wp2
        go_loopg [5] kj2 (fun kq v5 w' => ∃ (x5_2 : Int), v5 = .int .i64 x5_2 ∧ Aside0 (spec_FitsFormat.l0 kq l0 l1 x5_2 = some r) ∧ Aside0 (kq ≤ kj2) ∧ Aside0 (Below w.heap.size w w'))
        case atStart => exact ⟨(0), (by first | rfl | (simp; done) | (simp [*]; done)), H', ⟨Nat.le_refl _⟩, ⟨z2⟩⟩
        case round =>
          clear H'; (try clear c1); (try clear p2); (try clear c3); (try clear c4); (try clear c5); (try clear c8); (try clear p2); obtain ⟨x5_2, rfl, HA, HK2, HB⟩ := hrel; cases gk with
          | zero => exact absurd HA.out (by simp [spec_FitsFormat.l0])
          | succ k2 =>
            have H := HA.out; clear HA; simp only [spec_FitsFormat.l0] at H; by_cases c9 : x5_2 < (l0.length : Int)
            · rw [if_pos c9] at H
              have c9b0 : decide (x5_2 < (l0.length : Int)) = true := decide_eq_true c9; clear c9; replace H := bE H; obtain ⟨t435, A10, H⟩ := H; by_cases c11 : t435 = true
              · subst c11
                replace H := iT H; by_cases c12 : 0 ≤ x5_2
                · rw [if_pos c12] at H
                  have c12b0 : decide (0 ≤ x5_2) = true := decide_eq_true c12; clear c12; by_cases c13 : x5_2 < (l1.length : Int)
                  · rw [if_pos c13] at H
                    have c13b0 : decide (x5_2 < (l1.length : Int)) = true := decide_eq_true c13; clear c13; replace H := bE H; obtain ⟨t438, A14, H⟩ := H; by_cases c15 : t438 = true
                    · subst c15
                      replace H := iT H; replace H := bE H; obtain ⟨t439, A16, H⟩ := H; by_cases c17 : t439 = true
                      · subst c17
                        (replace H := iT H; have H' := Aside0.mk H; clear H; (try go_wp2); have n0_ := Aside0.mk (below_drew1 HB.out); clear HB; have HB := n0_; clear n0_; (have p436 : 0 ≤ (x5_2 : Int) := of_decide_eq_true (by assumption)); (have q436 : x5_2 < (l0.length : Int) := of_decide_eq_true (by assumption)); obtain ⟨ad436, e436, hx436_0, hx436_1, hx436_2, hx436_3⟩ := at_T67 HR0.out x5_2 p436 q436; have hw436_3 := hx436_3; have hw436_2 := hx436_2; have hw436_1 := hx436_1; have hw436_0 := hx436_0; cases e436; replace hx436_0 := hC HB.out hx436_0; replace hx436_1 := hC HB.out hx436_1; replace hx436_2 := hC HB.out hx436_2; replace hx436_3 := hC HB.out hx436_3; replace p436 := eq_true p436; replace q436 := eq_true q436; (have p437 : 0 ≤ (x5_2 : Int) := of_decide_eq_true (by assumption)); (have q437 : x5_2 < (l1.length : Int) := of_decide_eq_true (by assumption)); obtain ⟨ad437, A437_1, c437_1, e437, hx437_0, hx437_1, hl437_1, hi437_1⟩ := at_T63 HR1.out x5_2 p437 q437; have hw437_1 := hx437_1; have hw437_0 := hx437_0; cases e437; replace hx437_0 := hC HB.out hx437_0; replace hx437_1 := hC HB.out hx437_1; have HR437_1 := Aside0.mk hi437_1; have HC437_1 := Aside0.mk hl437_1; clear hi437_1 hl437_1; replace p437 := eq_true p437; replace q437 := eq_true q437; (refine start_ (n := 40) (S := fun w' => w'.cell? (ad436.add ((x5_2).toNat * 4)) = some (.int .i64 ((rd_T67 l0 x5_2).f0)) ∧ w'.cell? ⟨(ad436.add ((x5_2).toNat * 4)).block, (ad436.add ((x5_2).toNat * 4)).off + 1, none⟩ = some (.int .i64 ((rd_T67 l0 x5_2).f1)) ∧ w'.cell? ⟨(ad436.add ((x5_2).toNat * 4)).block, (ad436.add ((x5_2).toNat * 4)).off + 2, none⟩ = some (.int .i64 ((rd_T67 l0 x5_2).f2)) ∧ w'.cell? ⟨(ad436.add ((x5_2).toNat * 4)).block, (ad436.add ((x5_2).toNat * 4)).off + 3, none⟩ = some (.int .i64 ((rd_T67 l0 x5_2).f3)) ∧ w'.cell? (ad437.add ((x5_2).toNat * 2)) = some (.int .i64 ((rd_T63 l1 x5_2).f0)) ∧ w'.cell? ⟨(ad437.add ((x5_2).toNat * 2)).block, (ad437.add ((x5_2).toNat * 2)).off + 1, none⟩ = some (.slice A437_1 ((rd_T63 l1 x5_2).f1).length c437_1)) (ds := []) m48x43 (by kernel_rfl) rfl rfl ⟨(hC HB.out hw436_0).trans rfl, (hC HB.out hw436_1).trans rfl, (hC HB.out hw436_2).trans rfl, (hC HB.out hw436_3).trans rfl, (hC HB.out hw437_0).trans rfl, (hC HB.out hw437_1).trans rfl⟩ (fun hHeld => ?_); refine with_tabW spec_FitsFormat.tab6 spec_FitsFormat.bits6 (fun HT_ HW_ => ?_)); generalize wr.drew = w18 at HB HR437_1 hx436_0 hx436_1 hx436_2 hx436_3 hx437_0 hx437_1 hHeld ⊢; (refine pure_ (i := 0) (N := some 22) (v := ?_) (a' := ?_) m48x42 rfl rfl (any_of HT_.out (by kernel_rfl)) (fun _ _ _ h => h) (Or.inl ⟨by rfl, ?_⟩) ?_ ?_); rotate_left); (· intro w'; go_simp; (with_reducible rfl)); rotate_left; (· simp only [Act.put, sT, sZ, sS, i64_w, i32_w]; rfl); refine pV 1 23 m48x41 ?_; refine pV 2 24 m48x40 ?_; ((refine oN 3 25 m48x39 (fun K hK => ?_)); (refine goes_ Try.func52 (by kernel_rfl) rfl #[.slice (some ad436) l0.length c0, .slice (some ad437) l1.length c1, .int .i64 x5_2] (by rfl) rfl rfl (by (try simp only [List.map_toArray, List.map_cons, List.map_nil]); first | done | rfl | (simp only [List.length_drop, List.length_take]; rfl)) ?_); (with_reducible refine (spec_IsThere.calls _ _ l0 _ _ l1 x5_2 true _ ?side1 ?side2 ?side3 ?side4 A10.out).mono ?_); ((case side1 => exact kC HR0.out)); (case side2 => exact HC0.out); ((case side3 => exact kC HR1.out)); (case side4 => exact HC1.out); rintro e w19 ⟨rfl, hb⟩; refine ⟨_, rfl, ?_⟩; (have n0_ := bS hb); clear HB; have HB := n0_; clear n0_; ((try clear hb)); ((try clear hb2)); ((try clear hk)); ((try clear hi)); refine hK.out _ _ ⟨(hC HB.out hw436_0).trans rfl, (hC HB.out hw436_1).trans rfl, (hC HB.out hw436_2).trans rfl, (hC HB.out hw436_3).trans rfl, (hC HB.out hw437_0).trans rfl, (hC HB.out hw437_1).trans rfl⟩ (fun hHeld => ?_); clear hK K; refine norm_ (a' := ?_) ?_ ?_; rotate_left); (· show Act.put _ (some 25) _ = _; simp only [Act.put, sT, sZ, sS, i64_w, i32_w]; rfl); refine pV 4 26 m48x38 ?_; refine pV 5 27 m48x37 ?_; refine pV 6 28 m48x36 ?_; refine pV 7 29 m48x35 ?_; refine pV 9 31 m48x33 ?_; refine pV 10 32 m48x31 ?_; refine pV 11 33 m48x29 ?_; refine tV 8 30 m48x28 ?_; refine tV 12 34 m48x27 ?_; ((refine oN 13 35 m48x26 (fun K hK => ?_)); (refine goes_ Try.func77 (by kernel_rfl) rfl #[.agg #[.int .i64 ((rd_T67 l0 x5_2).f0), .int .i64 ((rd_T67 l0 x5_2).f1), .int .i64 ((rd_T67 l0 x5_2).f2), .int .i64 ((rd_T67 l0 x5_2).f3)], .agg #[.int .i64 ((rd_T63 l1 x5_2).f0), .slice A437_1 ((rd_T63 l1 x5_2).f1).length c437_1]] (by rfl) rfl rfl (by (try simp only [List.map_toArray, List.map_cons, List.map_nil]); first | done | rfl | (simp only [List.length_drop, List.length_take]; rfl)) ?_); (with_reducible refine (spec_FitsField.calls k2 ((rd_T67 l0 x5_2).f0) ((rd_T67 l0 x5_2).f1) ((rd_T67 l0 x5_2).f2) ((rd_T67 l0 x5_2).f3) ((rd_T63 l1 x5_2).f0) _ _ ((rd_T63 l1 x5_2).f1) true _ ?side1 ?side2 A14.out).mono ?_); ((case side1 => exact kC HR437_1.out)); (case side2 => exact HC437_1.out); rintro e w20 ⟨rfl, hb⟩; refine ⟨_, rfl, ?_⟩; (have n0_ := bS hb); clear HB; have HB := n0_; clear n0_; ((try clear hb)); ((try clear hb2)); ((try clear hk)); ((try clear hi)); refine hK.out _ _ ⟨(hC HB.out hw436_0).trans rfl, (hC HB.out hw436_1).trans rfl, (hC HB.out hw436_2).trans rfl, (hC HB.out hw436_3).trans rfl, (hC HB.out hw437_0).trans rfl, (hC HB.out hw437_1).trans rfl⟩ (fun hHeld => ?_); clear hK K; refine norm_ (a' := ?_) ?_ ?_; rotate_left); (· show Act.put _ (some 35) _ = _; simp only [Act.put, sT, sZ, sS, i64_w, i32_w]; rfl); refine pV 14 36 m48x25 ?_; refine pV 15 37 m48x24 ?_; refine pV 16 38 m48x23 ?_; refine pV 17 39 m48x22 ?_; refine pV 18 40 m48x21 ?_; refine pV 19 41 m48x20 ?_; ((refine oN 20 42 m48x19 (fun K hK => ?_)); (refine goes_ Try.func52 (by kernel_rfl) rfl #[.slice (some ad436) l0.length c0, .slice (some ad437) l1.length c1, .int .i64 x5_2] (by rfl) rfl rfl (by (try simp only [List.map_toArray, List.map_cons, List.map_nil]); first | done | rfl | (simp only [List.length_drop, List.length_take]; rfl)) ?_); (with_reducible refine (spec_IsThere.calls _ _ l0 _ _ l1 x5_2 true _ ?side1 ?side2 ?side3 ?side4 A16.out).mono ?_); ((case side1 => exact kC HR0.out)); (case side2 => exact HC0.out); ((case side3 => exact kC HR1.out)); (case side4 => exact HC1.out); rintro e w21 ⟨rfl, hb⟩; refine ⟨_, rfl, ?_⟩; (have n0_ := bS hb); clear HB; have HB := n0_; clear n0_; ((try clear hb)); ((try clear hb2)); ((try clear hk)); ((try clear hi)); refine hK.out _ _ ⟨(hC HB.out hw436_0).trans rfl, (hC HB.out hw436_1).trans rfl, (hC HB.out hw436_2).trans rfl, (hC HB.out hw436_3).trans rfl, (hC HB.out hw437_0).trans rfl, (hC HB.out hw437_1).trans rfl⟩ (fun hHeld => ?_); clear hK K; refine norm_ (a' := ?_) ?_ ?_; rotate_left); (· show Act.put _ (some 42) _ = _; simp only [Act.put, sT, sZ, sS, i64_w, i32_w]; rfl); refine pV 21 43 m48x18 ?_; refine pV 22 44 m48x17 ?_; refine pU 23 45 m48x16 ?_; refine pU 24 46 m48x15 ?_; refine pU 25 47 m48x14 ?_; refine pU 26 48 m48x13 ?_; refine pU 27 49 m48x12 ?_; refine pU 28 50 m48x11 ?_; refine pU 29 51 m48x10 ?_; refine pU 30 52 m48x9 ?_; refine pU 31 53 m48x8 ?_; refine pU 32 54 m48x7 ?_; refine pU 33 55 m48x6 ?_; refine pU 34 56 m48x5 ?_; refine pU 35 57 m48x4 ?_; refine pU 36 58 m48x3 ?_; refine pU 37 59 m48x2 ?_; refine pV 38 60 m48x1 ?_; refine pV 39 61 m48x0 ?_; ((refine done_ (done_of HT_.out (by kernel_rfl)) ?_); (try go_wp2); go_roundg k2)
                        case measure => have := HJ2.out; have := HK2.out; omega
                        case rel => exact ⟨(wrap64 (x5_2 + 1)), (by first | rfl | (simp; done) | (simp [*]; done)), H', ⟨by have := HJ2.out; have := HK2.out; omega⟩, ⟨z2⟩⟩
                      · replace c17 := Bool.eq_false_iff.mpr c17
                        subst c17; replace H := iF H; by_cases c22 : ((rd_T63 l1 x5_2).f0) = 0
                        · rw [if_pos c22] at H
                          have c22b0 : (((rd_T63 l1 x5_2).f0) == 0) = true := beq_iff_eq.mpr c22; have c22b1 : (((rd_T63 l1 x5_2).f0) != 0) = false := bne_eq_false_iff_eq.mpr c22; clear c22; by_cases c23 : (((rd_T63 l1 x5_2).f1).length : Int) > 0
                          · rw [if_pos c23] at H
                            (have c23b0 : decide (0 < (((rd_T63 l1 x5_2).f1).length : Int)) = true := decide_eq_true c23; (have c23b1 : decide (0 < ((rd_T63 l1 x5_2).f1).length) = true := decide_eq_true (by omega)); clear c23; obtain rfl := Option.some.inj H; (try go_wp2); have n0_ := Aside0.mk (below_drew1 HB.out); clear HB; have HB := n0_; clear n0_; (have p436 : 0 ≤ (x5_2 : Int) := of_decide_eq_true (by assumption)); (have q436 : x5_2 < (l0.length : Int) := of_decide_eq_true (by assumption)); obtain ⟨ad436, e436, hx436_0, hx436_1, hx436_2, hx436_3⟩ := at_T67 HR0.out x5_2 p436 q436; have hw436_3 := hx436_3; have hw436_2 := hx436_2; have hw436_1 := hx436_1; have hw436_0 := hx436_0; cases e436; replace hx436_0 := hC HB.out hx436_0; replace hx436_1 := hC HB.out hx436_1; replace hx436_2 := hC HB.out hx436_2; replace hx436_3 := hC HB.out hx436_3; replace p436 := eq_true p436; replace q436 := eq_true q436; (have p437 : 0 ≤ (x5_2 : Int) := of_decide_eq_true (by assumption)); (have q437 : x5_2 < (l1.length : Int) := of_decide_eq_true (by assumption)); obtain ⟨ad437, A437_1, c437_1, e437, hx437_0, hx437_1, hl437_1, hi437_1⟩ := at_T63 HR1.out x5_2 p437 q437; have hw437_1 := hx437_1; have hw437_0 := hx437_0; cases e437; replace hx437_0 := hC HB.out hx437_0; replace hx437_1 := hC HB.out hx437_1; have HR437_1 := Aside0.mk hi437_1; have HC437_1 := Aside0.mk hl437_1; clear hi437_1 hl437_1; replace p437 := eq_true p437; replace q437 := eq_true q437; (have p440 : 0 ≤ (x5_2 : Int) := of_decide_eq_true (by assumption)); (have q440 : x5_2 < (l1.length : Int) := of_decide_eq_true (by assumption)); obtain ⟨ad440, A440_1, c440_1, e440, hx440_0, hx440_1, hl440_1, hi440_1⟩ := at_T63 HR1.out x5_2 p440 q440; have hw440_1 := hx440_1; have hw440_0 := hx440_0; (obtain rfl : ad437 = ad440 := (by injection e440)); replace hx440_0 := hC HB.out hx440_0; replace hx440_1 := hC HB.out hx440_1; have HR440_1 := Aside0.mk hi440_1; have HC440_1 := Aside0.mk hl440_1; clear hi440_1 hl440_1; replace p440 := eq_true p440; replace q440 := eq_true q440; (have p441 : 0 ≤ (x5_2 : Int) := of_decide_eq_true (by assumption)); (have q441 : x5_2 < (l1.length : Int) := of_decide_eq_true (by assumption)); obtain ⟨ad441, A441_1, c441_1, e441, hx441_0, hx441_1, hl441_1, hi441_1⟩ := at_T63 HR1.out x5_2 p441 q441; have hw441_1 := hx441_1; have hw441_0 := hx441_0; (obtain rfl : ad437 = ad441 := (by injection e441)); replace hx441_0 := hC HB.out hx441_0; replace hx441_1 := hC HB.out hx441_1; have HR441_1 := Aside0.mk hi441_1; have HC441_1 := Aside0.mk hl441_1; clear hi441_1 hl441_1; replace p441 := eq_true p441; replace q441 := eq_true q441; have ea_ := Option.some.inj (hx440_1.symm.trans hx441_1); injection ea_ with ea_ en_ ec_; subst ea_; subst ec_; clear en_; (refine start_ (n := 40) (S := fun w' => w'.cell? (ad436.add ((x5_2).toNat * 4)) = some (.int .i64 ((rd_T67 l0 x5_2).f0)) ∧ w'.cell? ⟨(ad436.add ((x5_2).toNat * 4)).block, (ad436.add ((x5_2).toNat * 4)).off + 1, none⟩ = some (.int .i64 ((rd_T67 l0 x5_2).f1)) ∧ w'.cell? ⟨(ad436.add ((x5_2).toNat * 4)).block, (ad436.add ((x5_2).toNat * 4)).off + 2, none⟩ = some (.int .i64 ((rd_T67 l0 x5_2).f2)) ∧ w'.cell? ⟨(ad436.add ((x5_2).toNat * 4)).block, (ad436.add ((x5_2).toNat * 4)).off + 3, none⟩ = some (.int .i64 ((rd_T67 l0 x5_2).f3)) ∧ w'.cell? (ad437.add ((x5_2).toNat * 2)) = some (.int .i64 ((rd_T63 l1 x5_2).f0)) ∧ w'.cell? ⟨(ad437.add ((x5_2).toNat * 2)).block, (ad437.add ((x5_2).toNat * 2)).off + 1, none⟩ = some (.slice A437_1 ((rd_T63 l1 x5_2).f1).length c437_1) ∧ w'.cell? (ad437.add ((x5_2).toNat * 2)) = some (.int .i64 ((rd_T63 l1 x5_2).f0)) ∧ w'.cell? ⟨(ad437.add ((x5_2).toNat * 2)).block, (ad437.add ((x5_2).toNat * 2)).off + 1, none⟩ = some (.slice A440_1 ((rd_T63 l1 x5_2).f1).length c440_1) ∧ w'.cell? (ad437.add ((x5_2).toNat * 2)) = some (.int .i64 ((rd_T63 l1 x5_2).f0)) ∧ w'.cell? ⟨(ad437.add ((x5_2).toNat * 2)).block, (ad437.add ((x5_2).toNat * 2)).off + 1, none⟩ = some (.slice A440_1 ((rd_T63 l1 x5_2).f1).length c440_1)) (ds := []) m48x43 (by kernel_rfl) rfl rfl ⟨(hC HB.out hw436_0).trans rfl, (hC HB.out hw436_1).trans rfl, (hC HB.out hw436_2).trans rfl, (hC HB.out hw436_3).trans rfl, (hC HB.out hw437_0).trans rfl, (hC HB.out hw437_1).trans rfl, (hC HB.out hw440_0).trans rfl, (hC HB.out hw440_1).trans rfl, (hC HB.out hw441_0).trans rfl, (hC HB.out hw441_1).trans rfl⟩ (fun hHeld => ?_); refine with_tabW spec_FitsFormat.tab6 spec_FitsFormat.bits6 (fun HT_ HW_ => ?_)); generalize wr.drew = w24 at HB HR437_1 HR440_1 HR441_1 hx436_0 hx436_1 hx436_2 hx436_3 hx437_0 hx437_1 hx440_0 hx440_1 hx441_0 hx441_1 hHeld ⊢; (refine pure_ (i := 0) (N := some 22) (v := ?_) (a' := ?_) m48x42 rfl rfl (any_of HT_.out (by kernel_rfl)) (fun _ _ _ h => h) (Or.inl ⟨by rfl, ?_⟩) ?_ ?_); rotate_left); (· intro w'; go_simp; (with_reducible rfl)); rotate_left; (· simp only [Act.put, sT, sZ, sS, i64_w, i32_w]; rfl); refine pV 1 23 m48x41 ?_; refine pV 2 24 m48x40 ?_; ((refine oN 3 25 m48x39 (fun K hK => ?_)); (refine goes_ Try.func52 (by kernel_rfl) rfl #[.slice (some ad436) l0.length c0, .slice (some ad437) l1.length c1, .int .i64 x5_2] (by rfl) rfl rfl (by (try simp only [List.map_toArray, List.map_cons, List.map_nil]); first | done | rfl | (simp only [List.length_drop, List.length_take]; rfl)) ?_); (with_reducible refine (spec_IsThere.calls _ _ l0 _ _ l1 x5_2 true _ ?side1 ?side2 ?side3 ?side4 A10.out).mono ?_); ((case side1 => exact kC HR0.out)); (case side2 => exact HC0.out); ((case side3 => exact kC HR1.out)); (case side4 => exact HC1.out); rintro e w25 ⟨rfl, hb⟩; refine ⟨_, rfl, ?_⟩; (have n0_ := bS hb); clear HB; have HB := n0_; clear n0_; ((try clear hb)); ((try clear hb2)); ((try clear hk)); ((try clear hi)); refine hK.out _ _ ⟨(hC HB.out hw436_0).trans rfl, (hC HB.out hw436_1).trans rfl, (hC HB.out hw436_2).trans rfl, (hC HB.out hw436_3).trans rfl, (hC HB.out hw437_0).trans rfl, (hC HB.out hw437_1).trans rfl, (hC HB.out hw440_0).trans rfl, (hC HB.out hw440_1).trans rfl, (hC HB.out hw441_0).trans rfl, (hC HB.out hw441_1).trans rfl⟩ (fun hHeld => ?_); clear hK K; refine norm_ (a' := ?_) ?_ ?_; rotate_left); (· show Act.put _ (some 25) _ = _; simp only [Act.put, sT, sZ, sS, i64_w, i32_w]; rfl); refine pV 4 26 m48x38 ?_; refine pV 5 27 m48x37 ?_; refine pV 6 28 m48x36 ?_; refine pV 7 29 m48x35 ?_; refine pV 9 31 m48x33 ?_; refine pV 10 32 m48x31 ?_; refine pV 11 33 m48x29 ?_; refine tV 8 30 m48x28 ?_; refine tV 12 34 m48x27 ?_; ((refine oN 13 35 m48x26 (fun K hK => ?_)); (refine goes_ Try.func77 (by kernel_rfl) rfl #[.agg #[.int .i64 ((rd_T67 l0 x5_2).f0), .int .i64 ((rd_T67 l0 x5_2).f1), .int .i64 ((rd_T67 l0 x5_2).f2), .int .i64 ((rd_T67 l0 x5_2).f3)], .agg #[.int .i64 ((rd_T63 l1 x5_2).f0), .slice A437_1 ((rd_T63 l1 x5_2).f1).length c437_1]] (by rfl) rfl rfl (by (try simp only [List.map_toArray, List.map_cons, List.map_nil]); first | done | rfl | (simp only [List.length_drop, List.length_take]; rfl)) ?_); (with_reducible refine (spec_FitsField.calls k2 ((rd_T67 l0 x5_2).f0) ((rd_T67 l0 x5_2).f1) ((rd_T67 l0 x5_2).f2) ((rd_T67 l0 x5_2).f3) ((rd_T63 l1 x5_2).f0) _ _ ((rd_T63 l1 x5_2).f1) true _ ?side1 ?side2 A14.out).mono ?_); ((case side1 => exact kC HR437_1.out)); (case side2 => exact HC437_1.out); rintro e w26 ⟨rfl, hb⟩; refine ⟨_, rfl, ?_⟩; (have n0_ := bS hb); clear HB; have HB := n0_; clear n0_; ((try clear hb)); ((try clear hb2)); ((try clear hk)); ((try clear hi)); refine hK.out _ _ ⟨(hC HB.out hw436_0).trans rfl, (hC HB.out hw436_1).trans rfl, (hC HB.out hw436_2).trans rfl, (hC HB.out hw436_3).trans rfl, (hC HB.out hw437_0).trans rfl, (hC HB.out hw437_1).trans rfl, (hC HB.out hw440_0).trans rfl, (hC HB.out hw440_1).trans rfl, (hC HB.out hw441_0).trans rfl, (hC HB.out hw441_1).trans rfl⟩ (fun hHeld => ?_); clear hK K; refine norm_ (a' := ?_) ?_ ?_; rotate_left); (· show Act.put _ (some 35) _ = _; simp only [Act.put, sT, sZ, sS, i64_w, i32_w]; rfl); refine pV 14 36 m48x25 ?_; refine pV 15 37 m48x24 ?_; refine pV 16 38 m48x23 ?_; refine pV 17 39 m48x22 ?_; refine pV 18 40 m48x21 ?_; refine pV 19 41 m48x20 ?_; ((refine oN 20 42 m48x19 (fun K hK => ?_)); (refine goes_ Try.func52 (by kernel_rfl) rfl #[.slice (some ad436) l0.length c0, .slice (some ad437) l1.length c1, .int .i64 x5_2] (by rfl) rfl rfl (by (try simp only [List.map_toArray, List.map_cons, List.map_nil]); first | done | rfl | (simp only [List.length_drop, List.length_take]; rfl)) ?_); (with_reducible refine (spec_IsThere.calls _ _ l0 _ _ l1 x5_2 false _ ?side1 ?side2 ?side3 ?side4 A16.out).mono ?_); ((case side1 => exact kC HR0.out)); (case side2 => exact HC0.out); ((case side3 => exact kC HR1.out)); (case side4 => exact HC1.out); rintro e w27 ⟨rfl, hb⟩; refine ⟨_, rfl, ?_⟩; (have n0_ := bS hb); clear HB; have HB := n0_; clear n0_; ((try clear hb)); ((try clear hb2)); ((try clear hk)); ((try clear hi)); refine hK.out _ _ ⟨(hC HB.out hw436_0).trans rfl, (hC HB.out hw436_1).trans rfl, (hC HB.out hw436_2).trans rfl, (hC HB.out hw436_3).trans rfl, (hC HB.out hw437_0).trans rfl, (hC HB.out hw437_1).trans rfl, (hC HB.out hw440_0).trans rfl, (hC HB.out hw440_1).trans rfl, (hC HB.out hw441_0).trans rfl, (hC HB.out hw441_1).trans rfl⟩ (fun hHeld => ?_); clear hK K; refine norm_ (a' := ?_) ?_ ?_; rotate_left); (· show Act.put _ (some 42) _ = _; simp only [Act.put, sT, sZ, sS, i64_w, i32_w]; rfl); refine pV 21 43 m48x18 ?_; refine pV 22 44 m48x17 ?_; refine pV 23 45 m48x16 ?_; refine pV 24 46 m48x15 ?_; refine pV 25 47 m48x14 ?_; refine pV 26 48 m48x13 ?_; refine tV 27 49 m48x12 ?_; refine pV 28 50 m48x11 ?_; refine pV 29 51 m48x10 ?_; refine pV 30 52 m48x9 ?_; refine pV 31 53 m48x8 ?_; refine pV 32 54 m48x7 ?_; refine pV 33 55 m48x6 ?_; refine tV 34 56 m48x5 ?_; refine pV 35 57 m48x4 ?_; refine pV 36 58 m48x3 ?_; refine pV 37 59 m48x2 ?_; refine pV 38 60 m48x1 ?_; refine pV 39 61 m48x0 ?_; ((refine done_ (done_of HT_.out (by kernel_rfl)) ?_); (try go_wp2); go_ret; (exact ⟨by first | rfl | (simp [errW_none, errW_some] <;> rfl) | (simp [*, errW_none, errW_some] <;> rfl), z2⟩))
                          · rw [if_neg c23] at H
                            (have c23b0 : decide (0 < (((rd_T63 l1 x5_2).f1).length : Int)) = false := decide_eq_false c23; (have c23b1 : decide (0 < ((rd_T63 l1 x5_2).f1).length) = false := decide_eq_false (by omega)); clear c23; have H' := Aside0.mk H; clear H; (try go_wp2); have n0_ := Aside0.mk (below_drew1 HB.out); clear HB; have HB := n0_; clear n0_; (have p436 : 0 ≤ (x5_2 : Int) := of_decide_eq_true (by assumption)); (have q436 : x5_2 < (l0.length : Int) := of_decide_eq_true (by assumption)); obtain ⟨ad436, e436, hx436_0, hx436_1, hx436_2, hx436_3⟩ := at_T67 HR0.out x5_2 p436 q436; have hw436_3 := hx436_3; have hw436_2 := hx436_2; have hw436_1 := hx436_1; have hw436_0 := hx436_0; cases e436; replace hx436_0 := hC HB.out hx436_0; replace hx436_1 := hC HB.out hx436_1; replace hx436_2 := hC HB.out hx436_2; replace hx436_3 := hC HB.out hx436_3; replace p436 := eq_true p436; replace q436 := eq_true q436; (have p437 : 0 ≤ (x5_2 : Int) := of_decide_eq_true (by assumption)); (have q437 : x5_2 < (l1.length : Int) := of_decide_eq_true (by assumption)); obtain ⟨ad437, A437_1, c437_1, e437, hx437_0, hx437_1, hl437_1, hi437_1⟩ := at_T63 HR1.out x5_2 p437 q437; have hw437_1 := hx437_1; have hw437_0 := hx437_0; cases e437; replace hx437_0 := hC HB.out hx437_0; replace hx437_1 := hC HB.out hx437_1; have HR437_1 := Aside0.mk hi437_1; have HC437_1 := Aside0.mk hl437_1; clear hi437_1 hl437_1; replace p437 := eq_true p437; replace q437 := eq_true q437; (have p440 : 0 ≤ (x5_2 : Int) := of_decide_eq_true (by assumption)); (have q440 : x5_2 < (l1.length : Int) := of_decide_eq_true (by assumption)); obtain ⟨ad440, A440_1, c440_1, e440, hx440_0, hx440_1, hl440_1, hi440_1⟩ := at_T63 HR1.out x5_2 p440 q440; have hw440_1 := hx440_1; have hw440_0 := hx440_0; (obtain rfl : ad437 = ad440 := (by injection e440)); replace hx440_0 := hC HB.out hx440_0; replace hx440_1 := hC HB.out hx440_1; have HR440_1 := Aside0.mk hi440_1; have HC440_1 := Aside0.mk hl440_1; clear hi440_1 hl440_1; replace p440 := eq_true p440; replace q440 := eq_true q440; (have p441 : 0 ≤ (x5_2 : Int) := of_decide_eq_true (by assumption)); (have q441 : x5_2 < (l1.length : Int) := of_decide_eq_true (by assumption)); obtain ⟨ad441, A441_1, c441_1, e441, hx441_0, hx441_1, hl441_1, hi441_1⟩ := at_T63 HR1.out x5_2 p441 q441; have hw441_1 := hx441_1; have hw441_0 := hx441_0; (obtain rfl : ad437 = ad441 := (by injection e441)); replace hx441_0 := hC HB.out hx441_0; replace hx441_1 := hC HB.out hx441_1; have HR441_1 := Aside0.mk hi441_1; have HC441_1 := Aside0.mk hl441_1; clear hi441_1 hl441_1; replace p441 := eq_true p441; replace q441 := eq_true q441; have ea_ := Option.some.inj (hx440_1.symm.trans hx441_1); injection ea_ with ea_ en_ ec_; subst ea_; subst ec_; clear en_; (refine start_ (n := 40) (S := fun w' => w'.cell? (ad436.add ((x5_2).toNat * 4)) = some (.int .i64 ((rd_T67 l0 x5_2).f0)) ∧ w'.cell? ⟨(ad436.add ((x5_2).toNat * 4)).block, (ad436.add ((x5_2).toNat * 4)).off + 1, none⟩ = some (.int .i64 ((rd_T67 l0 x5_2).f1)) ∧ w'.cell? ⟨(ad436.add ((x5_2).toNat * 4)).block, (ad436.add ((x5_2).toNat * 4)).off + 2, none⟩ = some (.int .i64 ((rd_T67 l0 x5_2).f2)) ∧ w'.cell? ⟨(ad436.add ((x5_2).toNat * 4)).block, (ad436.add ((x5_2).toNat * 4)).off + 3, none⟩ = some (.int .i64 ((rd_T67 l0 x5_2).f3)) ∧ w'.cell? (ad437.add ((x5_2).toNat * 2)) = some (.int .i64 ((rd_T63 l1 x5_2).f0)) ∧ w'.cell? ⟨(ad437.add ((x5_2).toNat * 2)).block, (ad437.add ((x5_2).toNat * 2)).off + 1, none⟩ = some (.slice A437_1 ((rd_T63 l1 x5_2).f1).length c437_1) ∧ w'.cell? (ad437.add ((x5_2).toNat * 2)) = some (.int .i64 ((rd_T63 l1 x5_2).f0)) ∧ w'.cell? ⟨(ad437.add ((x5_2).toNat * 2)).block, (ad437.add ((x5_2).toNat * 2)).off + 1, none⟩ = some (.slice A440_1 ((rd_T63 l1 x5_2).f1).length c440_1) ∧ w'.cell? (ad437.add ((x5_2).toNat * 2)) = some (.int .i64 ((rd_T63 l1 x5_2).f0)) ∧ w'.cell? ⟨(ad437.add ((x5_2).toNat * 2)).block, (ad437.add ((x5_2).toNat * 2)).off + 1, none⟩ = some (.slice A440_1 ((rd_T63 l1 x5_2).f1).length c440_1)) (ds := []) m48x43 (by kernel_rfl) rfl rfl ⟨(hC HB.out hw436_0).trans rfl, (hC HB.out hw436_1).trans rfl, (hC HB.out hw436_2).trans rfl, (hC HB.out hw436_3).trans rfl, (hC HB.out hw437_0).trans rfl, (hC HB.out hw437_1).trans rfl, (hC HB.out hw440_0).trans rfl, (hC HB.out hw440_1).trans rfl, (hC HB.out hw441_0).trans rfl, (hC HB.out hw441_1).trans rfl⟩ (fun hHeld => ?_); refine with_tabW spec_FitsFormat.tab6 spec_FitsFormat.bits6 (fun HT_ HW_ => ?_)); generalize wr.drew = w28 at HB HR437_1 HR440_1 HR441_1 hx436_0 hx436_1 hx436_2 hx436_3 hx437_0 hx437_1 hx440_0 hx440_1 hx441_0 hx441_1 hHeld ⊢; (refine pure_ (i := 0) (N := some 22) (v := ?_) (a' := ?_) m48x42 rfl rfl (any_of HT_.out (by kernel_rfl)) (fun _ _ _ h => h) (Or.inl ⟨by rfl, ?_⟩) ?_ ?_); rotate_left); (· intro w'; go_simp; (with_reducible rfl)); rotate_left; (· simp only [Act.put, sT, sZ, sS, i64_w, i32_w]; rfl); refine pV 1 23 m48x41 ?_; refine pV 2 24 m48x40 ?_; ((refine oN 3 25 m48x39 (fun K hK => ?_)); (refine goes_ Try.func52 (by kernel_rfl) rfl #[.slice (some ad436) l0.length c0, .slice (some ad437) l1.length c1, .int .i64 x5_2] (by rfl) rfl rfl (by (try simp only [List.map_toArray, List.map_cons, List.map_nil]); first | done | rfl | (simp only [List.length_drop, List.length_take]; rfl)) ?_); (with_reducible refine (spec_IsThere.calls _ _ l0 _ _ l1 x5_2 true _ ?side1 ?side2 ?side3 ?side4 A10.out).mono ?_); ((case side1 => exact kC HR0.out)); (case side2 => exact HC0.out); ((case side3 => exact kC HR1.out)); (case side4 => exact HC1.out); rintro e w29 ⟨rfl, hb⟩; refine ⟨_, rfl, ?_⟩; (have n0_ := bS hb); clear HB; have HB := n0_; clear n0_; ((try clear hb)); ((try clear hb2)); ((try clear hk)); ((try clear hi)); refine hK.out _ _ ⟨(hC HB.out hw436_0).trans rfl, (hC HB.out hw436_1).trans rfl, (hC HB.out hw436_2).trans rfl, (hC HB.out hw436_3).trans rfl, (hC HB.out hw437_0).trans rfl, (hC HB.out hw437_1).trans rfl, (hC HB.out hw440_0).trans rfl, (hC HB.out hw440_1).trans rfl, (hC HB.out hw441_0).trans rfl, (hC HB.out hw441_1).trans rfl⟩ (fun hHeld => ?_); clear hK K; refine norm_ (a' := ?_) ?_ ?_; rotate_left); (· show Act.put _ (some 25) _ = _; simp only [Act.put, sT, sZ, sS, i64_w, i32_w]; rfl); refine pV 4 26 m48x38 ?_; refine pV 5 27 m48x37 ?_; refine pV 6 28 m48x36 ?_; refine pV 7 29 m48x35 ?_; refine pV 9 31 m48x33 ?_; refine pV 10 32 m48x31 ?_; refine pV 11 33 m48x29 ?_; refine tV 8 30 m48x28 ?_; refine tV 12 34 m48x27 ?_; ((refine oN 13 35 m48x26 (fun K hK => ?_)); (refine goes_ Try.func77 (by kernel_rfl) rfl #[.agg #[.int .i64 ((rd_T67 l0 x5_2).f0), .int .i64 ((rd_T67 l0 x5_2).f1), .int .i64 ((rd_T67 l0 x5_2).f2), .int .i64 ((rd_T67 l0 x5_2).f3)], .agg #[.int .i64 ((rd_T63 l1 x5_2).f0), .slice A437_1 ((rd_T63 l1 x5_2).f1).length c437_1]] (by rfl) rfl rfl (by (try simp only [List.map_toArray, List.map_cons, List.map_nil]); first | done | rfl | (simp only [List.length_drop, List.length_take]; rfl)) ?_); (with_reducible refine (spec_FitsField.calls k2 ((rd_T67 l0 x5_2).f0) ((rd_T67 l0 x5_2).f1) ((rd_T67 l0 x5_2).f2) ((rd_T67 l0 x5_2).f3) ((rd_T63 l1 x5_2).f0) _ _ ((rd_T63 l1 x5_2).f1) true _ ?side1 ?side2 A14.out).mono ?_); ((case side1 => exact kC HR437_1.out)); (case side2 => exact HC437_1.out); rintro e w30 ⟨rfl, hb⟩; refine ⟨_, rfl, ?_⟩; (have n0_ := bS hb); clear HB; have HB := n0_; clear n0_; ((try clear hb)); ((try clear hb2)); ((try clear hk)); ((try clear hi)); refine hK.out _ _ ⟨(hC HB.out hw436_0).trans rfl, (hC HB.out hw436_1).trans rfl, (hC HB.out hw436_2).trans rfl, (hC HB.out hw436_3).trans rfl, (hC HB.out hw437_0).trans rfl, (hC HB.out hw437_1).trans rfl, (hC HB.out hw440_0).trans rfl, (hC HB.out hw440_1).trans rfl, (hC HB.out hw441_0).trans rfl, (hC HB.out hw441_1).trans rfl⟩ (fun hHeld => ?_); clear hK K; refine norm_ (a' := ?_) ?_ ?_; rotate_left); (· show Act.put _ (some 35) _ = _; simp only [Act.put, sT, sZ, sS, i64_w, i32_w]; rfl); refine pV 14 36 m48x25 ?_; refine pV 15 37 m48x24 ?_; refine pV 16 38 m48x23 ?_; refine pV 17 39 m48x22 ?_; refine pV 18 40 m48x21 ?_; refine pV 19 41 m48x20 ?_; ((refine oN 20 42 m48x19 (fun K hK => ?_)); (refine goes_ Try.func52 (by kernel_rfl) rfl #[.slice (some ad436) l0.length c0, .slice (some ad437) l1.length c1, .int .i64 x5_2] (by rfl) rfl rfl (by (try simp only [List.map_toArray, List.map_cons, List.map_nil]); first | done | rfl | (simp only [List.length_drop, List.length_take]; rfl)) ?_); (with_reducible refine (spec_IsThere.calls _ _ l0 _ _ l1 x5_2 false _ ?side1 ?side2 ?side3 ?side4 A16.out).mono ?_); ((case side1 => exact kC HR0.out)); (case side2 => exact HC0.out); ((case side3 => exact kC HR1.out)); (case side4 => exact HC1.out); rintro e w31 ⟨rfl, hb⟩; refine ⟨_, rfl, ?_⟩; (have n0_ := bS hb); clear HB; have HB := n0_; clear n0_; ((try clear hb)); ((try clear hb2)); ((try clear hk)); ((try clear hi)); refine hK.out _ _ ⟨(hC HB.out hw436_0).trans rfl, (hC HB.out hw436_1).trans rfl, (hC HB.out hw436_2).trans rfl, (hC HB.out hw436_3).trans rfl, (hC HB.out hw437_0).trans rfl, (hC HB.out hw437_1).trans rfl, (hC HB.out hw440_0).trans rfl, (hC HB.out hw440_1).trans rfl, (hC HB.out hw441_0).trans rfl, (hC HB.out hw441_1).trans rfl⟩ (fun hHeld => ?_); clear hK K; refine norm_ (a' := ?_) ?_ ?_; rotate_left); (· show Act.put _ (some 42) _ = _; simp only [Act.put, sT, sZ, sS, i64_w, i32_w]; rfl); refine pV 21 43 m48x18 ?_; refine pV 22 44 m48x17 ?_; refine pV 23 45 m48x16 ?_; refine pV 24 46 m48x15 ?_; refine pV 25 47 m48x14 ?_; refine pV 26 48 m48x13 ?_; refine tV 27 49 m48x12 ?_; refine pV 28 50 m48x11 ?_; refine pV 29 51 m48x10 ?_; refine pV 30 52 m48x9 ?_; refine pV 31 53 m48x8 ?_; refine pV 32 54 m48x7 ?_; refine pV 33 55 m48x6 ?_; refine tV 34 56 m48x5 ?_; refine pV 35 57 m48x4 ?_; refine pV 36 58 m48x3 ?_; refine pV 37 59 m48x2 ?_; refine pV 38 60 m48x1 ?_; refine pV 39 61 m48x0 ?_; ((refine done_ (done_of HT_.out (by kernel_rfl)) ?_); (try go_wp2); go_roundg k2)
                            case measure => have := HJ2.out; have := HK2.out; omega
                            case rel => exact ⟨(wrap64 (x5_2 + 1)), (by first | rfl | (simp; done) | (simp [*]; done)), H', ⟨by have := HJ2.out; have := HK2.out; omega⟩, ⟨z2⟩⟩
                        · rw [if_neg c22] at H
                          (have c22b0 : (((rd_T63 l1 x5_2).f0) == 0) = false := beq_eq_false_iff_ne.mpr c22; have c22b1 : (((rd_T63 l1 x5_2).f0) != 0) = true := bne_iff_ne.mpr c22; obtain rfl := Option.some.inj H; (try go_wp2); have n0_ := Aside0.mk (below_drew1 HB.out); clear HB; have HB := n0_; clear n0_; (have p436 : 0 ≤ (x5_2 : Int) := of_decide_eq_true (by assumption)); (have q436 : x5_2 < (l0.length : Int) := of_decide_eq_true (by assumption)); obtain ⟨ad436, e436, hx436_0, hx436_1, hx436_2, hx436_3⟩ := at_T67 HR0.out x5_2 p436 q436; have hw436_3 := hx436_3; have hw436_2 := hx436_2; have hw436_1 := hx436_1; have hw436_0 := hx436_0; cases e436; replace hx436_0 := hC HB.out hx436_0; replace hx436_1 := hC HB.out hx436_1; replace hx436_2 := hC HB.out hx436_2; replace hx436_3 := hC HB.out hx436_3; replace p436 := eq_true p436; replace q436 := eq_true q436; (have p437 : 0 ≤ (x5_2 : Int) := of_decide_eq_true (by assumption)); (have q437 : x5_2 < (l1.length : Int) := of_decide_eq_true (by assumption)); obtain ⟨ad437, A437_1, c437_1, e437, hx437_0, hx437_1, hl437_1, hi437_1⟩ := at_T63 HR1.out x5_2 p437 q437; have hw437_1 := hx437_1; have hw437_0 := hx437_0; cases e437; replace hx437_0 := hC HB.out hx437_0; replace hx437_1 := hC HB.out hx437_1; have HR437_1 := Aside0.mk hi437_1; have HC437_1 := Aside0.mk hl437_1; clear hi437_1 hl437_1; replace p437 := eq_true p437; replace q437 := eq_true q437; (have p440 : 0 ≤ (x5_2 : Int) := of_decide_eq_true (by assumption)); (have q440 : x5_2 < (l1.length : Int) := of_decide_eq_true (by assumption)); obtain ⟨ad440, A440_1, c440_1, e440, hx440_0, hx440_1, hl440_1, hi440_1⟩ := at_T63 HR1.out x5_2 p440 q440; have hw440_1 := hx440_1; have hw440_0 := hx440_0; (obtain rfl : ad437 = ad440 := (by injection e440)); replace hx440_0 := hC HB.out hx440_0; replace hx440_1 := hC HB.out hx440_1; have HR440_1 := Aside0.mk hi440_1; have HC440_1 := Aside0.mk hl440_1; clear hi440_1 hl440_1; replace p440 := eq_true p440; replace q440 := eq_true q440; (refine start_ (n := 40) (S := fun w' => w'.cell? (ad436.add ((x5_2).toNat * 4)) = some (.int .i64 ((rd_T67 l0 x5_2).f0)) ∧ w'.cell? ⟨(ad436.add ((x5_2).toNat * 4)).block, (ad436.add ((x5_2).toNat * 4)).off + 1, none⟩ = some (.int .i64 ((rd_T67 l0 x5_2).f1)) ∧ w'.cell? ⟨(ad436.add ((x5_2).toNat * 4)).block, (ad436.add ((x5_2).toNat * 4)).off + 2, none⟩ = some (.int .i64 ((rd_T67 l0 x5_2).f2)) ∧ w'.cell? ⟨(ad436.add ((x5_2).toNat * 4)).block, (ad436.add ((x5_2).toNat * 4)).off + 3, none⟩ = some (.int .i64 ((rd_T67 l0 x5_2).f3)) ∧ w'.cell? (ad437.add ((x5_2).toNat * 2)) = some (.int .i64 ((rd_T63 l1 x5_2).f0)) ∧ w'.cell? ⟨(ad437.add ((x5_2).toNat * 2)).block, (ad437.add ((x5_2).toNat * 2)).off + 1, none⟩ = some (.slice A437_1 ((rd_T63 l1 x5_2).f1).length c437_1) ∧ w'.cell? (ad437.add ((x5_2).toNat * 2)) = some (.int .i64 ((rd_T63 l1 x5_2).f0)) ∧ w'.cell? ⟨(ad437.add ((x5_2).toNat * 2)).block, (ad437.add ((x5_2).toNat * 2)).off + 1, none⟩ = some (.slice A440_1 ((rd_T63 l1 x5_2).f1).length c440_1)) (ds := []) m48x43 (by kernel_rfl) rfl rfl ⟨(hC HB.out hw436_0).trans rfl, (hC HB.out hw436_1).trans rfl, (hC HB.out hw436_2).trans rfl, (hC HB.out hw436_3).trans rfl, (hC HB.out hw437_0).trans rfl, (hC HB.out hw437_1).trans rfl, (hC HB.out hw440_0).trans rfl, (hC HB.out hw440_1).trans rfl⟩ (fun hHeld => ?_); refine with_tabW spec_FitsFormat.tab6 spec_FitsFormat.bits6 (fun HT_ HW_ => ?_)); generalize wr.drew = w32 at HB HR437_1 HR440_1 hx436_0 hx436_1 hx436_2 hx436_3 hx437_0 hx437_1 hx440_0 hx440_1 hHeld ⊢; (refine pure_ (i := 0) (N := some 22) (v := ?_) (a' := ?_) m48x42 rfl rfl (any_of HT_.out (by kernel_rfl)) (fun _ _ _ h => h) (Or.inl ⟨by rfl, ?_⟩) ?_ ?_); rotate_left); (· intro w'; go_simp; (with_reducible rfl)); rotate_left; (· simp only [Act.put, sT, sZ, sS, i64_w, i32_w]; rfl); refine pV 1 23 m48x41 ?_; refine pV 2 24 m48x40 ?_; ((refine oN 3 25 m48x39 (fun K hK => ?_)); (refine goes_ Try.func52 (by kernel_rfl) rfl #[.slice (some ad436) l0.length c0, .slice (some ad437) l1.length c1, .int .i64 x5_2] (by rfl) rfl rfl (by (try simp only [List.map_toArray, List.map_cons, List.map_nil]); first | done | rfl | (simp only [List.length_drop, List.length_take]; rfl)) ?_); (with_reducible refine (spec_IsThere.calls _ _ l0 _ _ l1 x5_2 true _ ?side1 ?side2 ?side3 ?side4 A10.out).mono ?_); ((case side1 => exact kC HR0.out)); (case side2 => exact HC0.out); ((case side3 => exact kC HR1.out)); (case side4 => exact HC1.out); rintro e w33 ⟨rfl, hb⟩; refine ⟨_, rfl, ?_⟩; (have n0_ := bS hb); clear HB; have HB := n0_; clear n0_; ((try clear hb)); ((try clear hb2)); ((try clear hk)); ((try clear hi)); refine hK.out _ _ ⟨(hC HB.out hw436_0).trans rfl, (hC HB.out hw436_1).trans rfl, (hC HB.out hw436_2).trans rfl, (hC HB.out hw436_3).trans rfl, (hC HB.out hw437_0).trans rfl, (hC HB.out hw437_1).trans rfl, (hC HB.out hw440_0).trans rfl, (hC HB.out hw440_1).trans rfl⟩ (fun hHeld => ?_); clear hK K; refine norm_ (a' := ?_) ?_ ?_; rotate_left); (· show Act.put _ (some 25) _ = _; simp only [Act.put, sT, sZ, sS, i64_w, i32_w]; rfl); refine pV 4 26 m48x38 ?_; refine pV 5 27 m48x37 ?_; refine pV 6 28 m48x36 ?_; refine pV 7 29 m48x35 ?_; refine pV 9 31 m48x33 ?_; refine pV 10 32 m48x31 ?_; refine pV 11 33 m48x29 ?_; refine tV 8 30 m48x28 ?_; refine tV 12 34 m48x27 ?_; ((refine oN 13 35 m48x26 (fun K hK => ?_)); (refine goes_ Try.func77 (by kernel_rfl) rfl #[.agg #[.int .i64 ((rd_T67 l0 x5_2).f0), .int .i64 ((rd_T67 l0 x5_2).f1), .int .i64 ((rd_T67 l0 x5_2).f2), .int .i64 ((rd_T67 l0 x5_2).f3)], .agg #[.int .i64 ((rd_T63 l1 x5_2).f0), .slice A437_1 ((rd_T63 l1 x5_2).f1).length c437_1]] (by rfl) rfl rfl (by (try simp only [List.map_toArray, List.map_cons, List.map_nil]); first | done | rfl | (simp only [List.length_drop, List.length_take]; rfl)) ?_); (with_reducible refine (spec_FitsField.calls k2 ((rd_T67 l0 x5_2).f0) ((rd_T67 l0 x5_2).f1) ((rd_T67 l0 x5_2).f2) ((rd_T67 l0 x5_2).f3) ((rd_T63 l1 x5_2).f0) _ _ ((rd_T63 l1 x5_2).f1) true _ ?side1 ?side2 A14.out).mono ?_); ((case side1 => exact kC HR437_1.out)); (case side2 => exact HC437_1.out); rintro e w34 ⟨rfl, hb⟩; refine ⟨_, rfl, ?_⟩; (have n0_ := bS hb); clear HB; have HB := n0_; clear n0_; ((try clear hb)); ((try clear hb2)); ((try clear hk)); ((try clear hi)); refine hK.out _ _ ⟨(hC HB.out hw436_0).trans rfl, (hC HB.out hw436_1).trans rfl, (hC HB.out hw436_2).trans rfl, (hC HB.out hw436_3).trans rfl, (hC HB.out hw437_0).trans rfl, (hC HB.out hw437_1).trans rfl, (hC HB.out hw440_0).trans rfl, (hC HB.out hw440_1).trans rfl⟩ (fun hHeld => ?_); clear hK K; refine norm_ (a' := ?_) ?_ ?_; rotate_left); (· show Act.put _ (some 35) _ = _; simp only [Act.put, sT, sZ, sS, i64_w, i32_w]; rfl); refine pV 14 36 m48x25 ?_; refine pV 15 37 m48x24 ?_; refine pV 16 38 m48x23 ?_; refine pV 17 39 m48x22 ?_; refine pV 18 40 m48x21 ?_; refine pV 19 41 m48x20 ?_; ((refine oN 20 42 m48x19 (fun K hK => ?_)); (refine goes_ Try.func52 (by kernel_rfl) rfl #[.slice (some ad436) l0.length c0, .slice (some ad437) l1.length c1, .int .i64 x5_2] (by rfl) rfl rfl (by (try simp only [List.map_toArray, List.map_cons, List.map_nil]); first | done | rfl | (simp only [List.length_drop, List.length_take]; rfl)) ?_); (with_reducible refine (spec_IsThere.calls _ _ l0 _ _ l1 x5_2 false _ ?side1 ?side2 ?side3 ?side4 A16.out).mono ?_); ((case side1 => exact kC HR0.out)); (case side2 => exact HC0.out); ((case side3 => exact kC HR1.out)); (case side4 => exact HC1.out); rintro e w35 ⟨rfl, hb⟩; refine ⟨_, rfl, ?_⟩; (have n0_ := bS hb); clear HB; have HB := n0_; clear n0_; ((try clear hb)); ((try clear hb2)); ((try clear hk)); ((try clear hi)); refine hK.out _ _ ⟨(hC HB.out hw436_0).trans rfl, (hC HB.out hw436_1).trans rfl, (hC HB.out hw436_2).trans rfl, (hC HB.out hw436_3).trans rfl, (hC HB.out hw437_0).trans rfl, (hC HB.out hw437_1).trans rfl, (hC HB.out hw440_0).trans rfl, (hC HB.out hw440_1).trans rfl⟩ (fun hHeld => ?_); clear hK K; refine norm_ (a' := ?_) ?_ ?_; rotate_left); (· show Act.put _ (some 42) _ = _; simp only [Act.put, sT, sZ, sS, i64_w, i32_w]; rfl); refine pV 21 43 m48x18 ?_; refine pV 22 44 m48x17 ?_; refine pV 23 45 m48x16 ?_; refine pV 24 46 m48x15 ?_; refine pV 25 47 m48x14 ?_; refine pV 26 48 m48x13 ?_; refine tV 27 49 m48x12 ?_; refine pV 28 50 m48x11 ?_; refine pV 29 51 m48x10 ?_; refine pU 30 52 m48x9 ?_; refine pU 31 53 m48x8 ?_; refine pU 32 54 m48x7 ?_; refine pU 33 55 m48x6 ?_; refine pU 34 56 m48x5 ?_; refine pU 35 57 m48x4 ?_; refine pU 36 58 m48x3 ?_; refine pV 37 59 m48x2 ?_; refine pV 38 60 m48x1 ?_; refine pV 39 61 m48x0 ?_; ((refine done_ (done_of HT_.out (by kernel_rfl)) ?_); (try go_wp2); go_ret; (exact ⟨by first | rfl | (simp [errW_none, errW_some] <;> rfl) | (simp [*, errW_none, errW_some] <;> rfl), z2⟩))
                    · replace c15 := Bool.eq_false_iff.mpr c15
                      (subst c15; replace H := iF H; obtain rfl := Option.some.inj H; (try go_wp2); have n0_ := Aside0.mk (below_drew1 HB.out); clear HB; have HB := n0_; clear n0_; (have p436 : 0 ≤ (x5_2 : Int) := of_decide_eq_true (by assumption)); (have q436 : x5_2 < (l0.length : Int) := of_decide_eq_true (by assumption)); obtain ⟨ad436, e436, hx436_0, hx436_1, hx436_2, hx436_3⟩ := at_T67 HR0.out x5_2 p436 q436; have hw436_3 := hx436_3; have hw436_2 := hx436_2; have hw436_1 := hx436_1; have hw436_0 := hx436_0; cases e436; replace hx436_0 := hC HB.out hx436_0; replace hx436_1 := hC HB.out hx436_1; replace hx436_2 := hC HB.out hx436_2; replace hx436_3 := hC HB.out hx436_3; replace p436 := eq_true p436; replace q436 := eq_true q436; (have p437 : 0 ≤ (x5_2 : Int) := of_decide_eq_true (by assumption)); (have q437 : x5_2 < (l1.length : Int) := of_decide_eq_true (by assumption)); obtain ⟨ad437, A437_1, c437_1, e437, hx437_0, hx437_1, hl437_1, hi437_1⟩ := at_T63 HR1.out x5_2 p437 q437; have hw437_1 := hx437_1; have hw437_0 := hx437_0; cases e437; replace hx437_0 := hC HB.out hx437_0; replace hx437_1 := hC HB.out hx437_1; have HR437_1 := Aside0.mk hi437_1; have HC437_1 := Aside0.mk hl437_1; clear hi437_1 hl437_1; replace p437 := eq_true p437; replace q437 := eq_true q437; (refine start_ (n := 40) (S := fun w' => w'.cell? (ad436.add ((x5_2).toNat * 4)) = some (.int .i64 ((rd_T67 l0 x5_2).f0)) ∧ w'.cell? ⟨(ad436.add ((x5_2).toNat * 4)).block, (ad436.add ((x5_2).toNat * 4)).off + 1, none⟩ = some (.int .i64 ((rd_T67 l0 x5_2).f1)) ∧ w'.cell? ⟨(ad436.add ((x5_2).toNat * 4)).block, (ad436.add ((x5_2).toNat * 4)).off + 2, none⟩ = some (.int .i64 ((rd_T67 l0 x5_2).f2)) ∧ w'.cell? ⟨(ad436.add ((x5_2).toNat * 4)).block, (ad436.add ((x5_2).toNat * 4)).off + 3, none⟩ = some (.int .i64 ((rd_T67 l0 x5_2).f3)) ∧ w'.cell? (ad437.add ((x5_2).toNat * 2)) = some (.int .i64 ((rd_T63 l1 x5_2).f0)) ∧ w'.cell? ⟨(ad437.add ((x5_2).toNat * 2)).block, (ad437.add ((x5_2).toNat * 2)).off + 1, none⟩ = some (.slice A437_1 ((rd_T63 l1 x5_2).f1).length c437_1)) (ds := []) m48x43 (by kernel_rfl) rfl rfl ⟨(hC HB.out hw436_0).trans rfl, (hC HB.out hw436_1).trans rfl, (hC HB.out hw436_2).trans rfl, (hC HB.out hw436_3).trans rfl, (hC HB.out hw437_0).trans rfl, (hC HB.out hw437_1).trans rfl⟩ (fun hHeld => ?_); refine with_tabW spec_FitsFormat.tab6 spec_FitsFormat.bits6 (fun HT_ HW_ => ?_)); generalize wr.drew = w36 at HB HR437_1 hx436_0 hx436_1 hx436_2 hx436_3 hx437_0 hx437_1 hHeld ⊢; (refine pure_ (i := 0) (N := some 22) (v := ?_) (a' := ?_) m48x42 rfl rfl (any_of HT_.out (by kernel_rfl)) (fun _ _ _ h => h) (Or.inl ⟨by rfl, ?_⟩) ?_ ?_); rotate_left); (· intro w'; go_simp; (with_reducible rfl)); rotate_left; (· simp only [Act.put, sT, sZ, sS, i64_w, i32_w]; rfl); refine pV 1 23 m48x41 ?_; refine pV 2 24 m48x40 ?_; ((refine oN 3 25 m48x39 (fun K hK => ?_)); (refine goes_ Try.func52 (by kernel_rfl) rfl #[.slice (some ad436) l0.length c0, .slice (some ad437) l1.length c1, .int .i64 x5_2] (by rfl) rfl rfl (by (try simp only [List.map_toArray, List.map_cons, List.map_nil]); first | done | rfl | (simp only [List.length_drop, List.length_take]; rfl)) ?_); (with_reducible refine (spec_IsThere.calls _ _ l0 _ _ l1 x5_2 true _ ?side1 ?side2 ?side3 ?side4 A10.out).mono ?_); ((case side1 => exact kC HR0.out)); (case side2 => exact HC0.out); ((case side3 => exact kC HR1.out)); (case side4 => exact HC1.out); rintro e w37 ⟨rfl, hb⟩; refine ⟨_, rfl, ?_⟩; (have n0_ := bS hb); clear HB; have HB := n0_; clear n0_; ((try clear hb)); ((try clear hb2)); ((try clear hk)); ((try clear hi)); refine hK.out _ _ ⟨(hC HB.out hw436_0).trans rfl, (hC HB.out hw436_1).trans rfl, (hC HB.out hw436_2).trans rfl, (hC HB.out hw436_3).trans rfl, (hC HB.out hw437_0).trans rfl, (hC HB.out hw437_1).trans rfl⟩ (fun hHeld => ?_); clear hK K; refine norm_ (a' := ?_) ?_ ?_; rotate_left); (· show Act.put _ (some 25) _ = _; simp only [Act.put, sT, sZ, sS, i64_w, i32_w]; rfl); refine pV 4 26 m48x38 ?_; refine pV 5 27 m48x37 ?_; refine pV 6 28 m48x36 ?_; refine pV 7 29 m48x35 ?_; refine pV 9 31 m48x33 ?_; refine pV 10 32 m48x31 ?_; refine pV 11 33 m48x29 ?_; refine tV 8 30 m48x28 ?_; refine tV 12 34 m48x27 ?_; ((refine oN 13 35 m48x26 (fun K hK => ?_)); (refine goes_ Try.func77 (by kernel_rfl) rfl #[.agg #[.int .i64 ((rd_T67 l0 x5_2).f0), .int .i64 ((rd_T67 l0 x5_2).f1), .int .i64 ((rd_T67 l0 x5_2).f2), .int .i64 ((rd_T67 l0 x5_2).f3)], .agg #[.int .i64 ((rd_T63 l1 x5_2).f0), .slice A437_1 ((rd_T63 l1 x5_2).f1).length c437_1]] (by rfl) rfl rfl (by (try simp only [List.map_toArray, List.map_cons, List.map_nil]); first | done | rfl | (simp only [List.length_drop, List.length_take]; rfl)) ?_); (with_reducible refine (spec_FitsField.calls k2 ((rd_T67 l0 x5_2).f0) ((rd_T67 l0 x5_2).f1) ((rd_T67 l0 x5_2).f2) ((rd_T67 l0 x5_2).f3) ((rd_T63 l1 x5_2).f0) _ _ ((rd_T63 l1 x5_2).f1) false _ ?side1 ?side2 A14.out).mono ?_); ((case side1 => exact kC HR437_1.out)); (case side2 => exact HC437_1.out); rintro e w38 ⟨rfl, hb⟩; refine ⟨_, rfl, ?_⟩; (have n0_ := bS hb); clear HB; have HB := n0_; clear n0_; ((try clear hb)); ((try clear hb2)); ((try clear hk)); ((try clear hi)); refine hK.out _ _ ⟨(hC HB.out hw436_0).trans rfl, (hC HB.out hw436_1).trans rfl, (hC HB.out hw436_2).trans rfl, (hC HB.out hw436_3).trans rfl, (hC HB.out hw437_0).trans rfl, (hC HB.out hw437_1).trans rfl⟩ (fun hHeld => ?_); clear hK K; refine norm_ (a' := ?_) ?_ ?_; rotate_left); (· show Act.put _ (some 35) _ = _; simp only [Act.put, sT, sZ, sS, i64_w, i32_w]; rfl); refine pV 14 36 m48x25 ?_; refine pV 15 37 m48x24 ?_; refine pV 16 38 m48x23 ?_; refine pU 17 39 m48x22 ?_; refine pU 18 40 m48x21 ?_; refine pU 19 41 m48x20 ?_; refine pU 20 42 m48x19 ?_; refine pU 21 43 m48x18 ?_; refine pU 22 44 m48x17 ?_; refine pU 23 45 m48x16 ?_; refine pU 24 46 m48x15 ?_; refine pU 25 47 m48x14 ?_; refine pU 26 48 m48x13 ?_; refine pU 27 49 m48x12 ?_; refine pU 28 50 m48x11 ?_; refine pU 29 51 m48x10 ?_; refine pU 30 52 m48x9 ?_; refine pU 31 53 m48x8 ?_; refine pU 32 54 m48x7 ?_; refine pU 33 55 m48x6 ?_; refine pU 34 56 m48x5 ?_; refine pU 35 57 m48x4 ?_; refine pU 36 58 m48x3 ?_; refine pU 37 59 m48x2 ?_; refine pU 38 60 m48x1 ?_; refine pV 39 61 m48x0 ?_; ((refine done_ (done_of HT_.out (by kernel_rfl)) ?_); (try go_wp2); go_ret; (exact ⟨by first | rfl | (simp [errW_none, errW_some] <;> rfl) | (simp [*, errW_none, errW_some] <;> rfl), z2⟩))
                  · rw [if_neg c13] at H; (exact absurd H (by simp))
                · rw [if_neg c12] at H; (exact absurd H (by simp))
              · replace c11 := Bool.eq_false_iff.mpr c11
                subst c11; replace H := iF H; replace H := bE H; obtain ⟨t442, A39, H⟩ := H; by_cases c40 : t442 = true
                · subst c40
                  (replace H := iT H; have H' := Aside0.mk H; clear H; (try go_wp2); have n0_ := Aside0.mk (below_drew1 HB.out); clear HB; have HB := n0_; clear n0_; (refine start_ (n := 40) (S := fun w' => True) (ds := []) m48x43 (by kernel_rfl) rfl rfl trivial (fun hHeld => ?_); refine with_tabW spec_FitsFormat.tab6 spec_FitsFormat.bits6 (fun HT_ HW_ => ?_)); generalize wr.drew = w41 at HB hHeld ⊢; (refine pure_ (i := 0) (N := some 22) (v := ?_) (a' := ?_) m48x42 rfl rfl (any_of HT_.out (by kernel_rfl)) (fun _ _ _ h => h) (Or.inl ⟨by rfl, ?_⟩) ?_ ?_); rotate_left); (· intro w'; go_simp; (with_reducible rfl)); rotate_left; (· simp only [Act.put, sT, sZ, sS, i64_w, i32_w]; rfl); refine pV 1 23 m48x41 ?_; refine pV 2 24 m48x40 ?_; ((refine oN 3 25 m48x39 (fun K hK => ?_)); (refine goes_ Try.func52 (by kernel_rfl) rfl #[.slice A0 l0.length c0, .slice A1 l1.length c1, .int .i64 x5_2] (by rfl) rfl rfl (by (try simp only [List.map_toArray, List.map_cons, List.map_nil]); first | done | rfl | (simp only [List.length_drop, List.length_take]; rfl)) ?_); (with_reducible refine (spec_IsThere.calls _ _ l0 _ _ l1 x5_2 false _ ?side1 ?side2 ?side3 ?side4 A10.out).mono ?_); ((case side1 => exact kC HR0.out)); (case side2 => exact HC0.out); ((case side3 => exact kC HR1.out)); (case side4 => exact HC1.out); rintro e w42 ⟨rfl, hb⟩; refine ⟨_, rfl, ?_⟩; (have n0_ := bS hb); clear HB; have HB := n0_; clear n0_; ((try clear hb)); ((try clear hb2)); ((try clear hk)); ((try clear hi)); refine hK.out _ _ trivial (fun hHeld => ?_); clear hK K; refine norm_ (a' := ?_) ?_ ?_; rotate_left); (· show Act.put _ (some 25) _ = _; simp only [Act.put, sT, sZ, sS, i64_w, i32_w]; rfl); refine pV 4 26 m48x38 ?_; refine pU 5 27 m48x37 ?_; refine pU 6 28 m48x36 ?_; refine pU 7 29 m48x35 ?_; refine pU 8 30 m48x34 ?_; refine pU 9 31 m48x32 ?_; refine pU 10 32 m48x30 ?_; refine pU 11 33 m48x28 ?_; refine pU 12 34 m48x27 ?_; refine pU 13 35 m48x26 ?_; refine pU 14 36 m48x25 ?_; refine pV 15 37 m48x24 ?_; refine pV 16 38 m48x23 ?_; refine pV 17 39 m48x22 ?_; refine pV 18 40 m48x21 ?_; refine pV 19 41 m48x20 ?_; ((refine oN 20 42 m48x19 (fun K hK => ?_)); (refine goes_ Try.func52 (by kernel_rfl) rfl #[.slice A0 l0.length c0, .slice A1 l1.length c1, .int .i64 x5_2] (by rfl) rfl rfl (by (try simp only [List.map_toArray, List.map_cons, List.map_nil]); first | done | rfl | (simp only [List.length_drop, List.length_take]; rfl)) ?_); (with_reducible refine (spec_IsThere.calls _ _ l0 _ _ l1 x5_2 true _ ?side1 ?side2 ?side3 ?side4 A39.out).mono ?_); ((case side1 => exact kC HR0.out)); (case side2 => exact HC0.out); ((case side3 => exact kC HR1.out)); (case side4 => exact HC1.out); rintro e w43 ⟨rfl, hb⟩; refine ⟨_, rfl, ?_⟩; (have n0_ := bS hb); clear HB; have HB := n0_; clear n0_; ((try clear hb)); ((try clear hb2)); ((try clear hk)); ((try clear hi)); refine hK.out _ _ trivial (fun hHeld => ?_); clear hK K; refine norm_ (a' := ?_) ?_ ?_; rotate_left); (· show Act.put _ (some 42) _ = _; simp only [Act.put, sT, sZ, sS, i64_w, i32_w]; rfl); refine pV 21 43 m48x18 ?_; refine pV 22 44 m48x17 ?_; refine pU 23 45 m48x16 ?_; refine pU 24 46 m48x15 ?_; refine pU 25 47 m48x14 ?_; refine pU 26 48 m48x13 ?_; refine pU 27 49 m48x12 ?_; refine pU 28 50 m48x11 ?_; refine pU 29 51 m48x10 ?_; refine pU 30 52 m48x9 ?_; refine pU 31 53 m48x8 ?_; refine pU 32 54 m48x7 ?_; refine pU 33 55 m48x6 ?_; refine pU 34 56 m48x5 ?_; refine pU 35 57 m48x4 ?_; refine pU 36 58 m48x3 ?_; refine pU 37 59 m48x2 ?_; refine pV 38 60 m48x1 ?_; refine pV 39 61 m48x0 ?_; ((refine done_ (done_of HT_.out (by kernel_rfl)) ?_); (try go_wp2); go_roundg k2)
                  case measure => have := HJ2.out; have := HK2.out; omega
                  case rel => exact ⟨(wrap64 (x5_2 + 1)), (by first | rfl | (simp; done) | (simp [*]; done)), H', ⟨by have := HJ2.out; have := HK2.out; omega⟩, ⟨z2⟩⟩
                · replace c40 := Bool.eq_false_iff.mpr c40
                  subst c40; replace H := iF H; by_cases c44 : 0 ≤ x5_2
                  · rw [if_pos c44] at H
                    have c44b0 : decide (0 ≤ x5_2) = true := decide_eq_true c44; clear c44; by_cases c45 : x5_2 < (l1.length : Int)
                    · rw [if_pos c45] at H
                      have c45b0 : decide (x5_2 < (l1.length : Int)) = true := decide_eq_true c45; clear c45; by_cases c46 : ((rd_T63 l1 x5_2).f0) = 0
                      · rw [if_pos c46] at H
                        have c46b0 : (((rd_T63 l1 x5_2).f0) == 0) = true := beq_iff_eq.mpr c46; have c46b1 : (((rd_T63 l1 x5_2).f0) != 0) = false := bne_eq_false_iff_eq.mpr c46; clear c46; by_cases c47 : (((rd_T63 l1 x5_2).f1).length : Int) > 0
                        · rw [if_pos c47] at H
                          (have c47b0 : decide (0 < (((rd_T63 l1 x5_2).f1).length : Int)) = true := decide_eq_true c47; (have c47b1 : decide (0 < ((rd_T63 l1 x5_2).f1).length) = true := decide_eq_true (by omega)); clear c47; obtain rfl := Option.some.inj H; (try go_wp2); have n0_ := Aside0.mk (below_drew1 HB.out); clear HB; have HB := n0_; clear n0_; (have p443 : 0 ≤ (x5_2 : Int) := of_decide_eq_true (by assumption)); (have q443 : x5_2 < (l1.length : Int) := of_decide_eq_true (by assumption)); obtain ⟨ad443, A443_1, c443_1, e443, hx443_0, hx443_1, hl443_1, hi443_1⟩ := at_T63 HR1.out x5_2 p443 q443; have hw443_1 := hx443_1; have hw443_0 := hx443_0; cases e443; replace hx443_0 := hC HB.out hx443_0; replace hx443_1 := hC HB.out hx443_1; have HR443_1 := Aside0.mk hi443_1; have HC443_1 := Aside0.mk hl443_1; clear hi443_1 hl443_1; replace p443 := eq_true p443; replace q443 := eq_true q443; (have p444 : 0 ≤ (x5_2 : Int) := of_decide_eq_true (by assumption)); (have q444 : x5_2 < (l1.length : Int) := of_decide_eq_true (by assumption)); obtain ⟨ad444, A444_1, c444_1, e444, hx444_0, hx444_1, hl444_1, hi444_1⟩ := at_T63 HR1.out x5_2 p444 q444; have hw444_1 := hx444_1; have hw444_0 := hx444_0; (obtain rfl : ad443 = ad444 := (by injection e444)); replace hx444_0 := hC HB.out hx444_0; replace hx444_1 := hC HB.out hx444_1; have HR444_1 := Aside0.mk hi444_1; have HC444_1 := Aside0.mk hl444_1; clear hi444_1 hl444_1; replace p444 := eq_true p444; replace q444 := eq_true q444; have ea_ := Option.some.inj (hx443_1.symm.trans hx444_1); injection ea_ with ea_ en_ ec_; subst ea_; subst ec_; clear en_; (refine start_ (n := 40) (S := fun w' => w'.cell? (ad443.add ((x5_2).toNat * 2)) = some (.int .i64 ((rd_T63 l1 x5_2).f0)) ∧ w'.cell? ⟨(ad443.add ((x5_2).toNat * 2)).block, (ad443.add ((x5_2).toNat * 2)).off + 1, none⟩ = some (.slice A443_1 ((rd_T63 l1 x5_2).f1).length c443_1) ∧ w'.cell? (ad443.add ((x5_2).toNat * 2)) = some (.int .i64 ((rd_T63 l1 x5_2).f0)) ∧ w'.cell? ⟨(ad443.add ((x5_2).toNat * 2)).block, (ad443.add ((x5_2).toNat * 2)).off + 1, none⟩ = some (.slice A443_1 ((rd_T63 l1 x5_2).f1).length c443_1)) (ds := []) m48x43 (by kernel_rfl) rfl rfl ⟨(hC HB.out hw443_0).trans rfl, (hC HB.out hw443_1).trans rfl, (hC HB.out hw444_0).trans rfl, (hC HB.out hw444_1).trans rfl⟩ (fun hHeld => ?_); refine with_tabW spec_FitsFormat.tab6 spec_FitsFormat.bits6 (fun HT_ HW_ => ?_)); generalize wr.drew = w48 at HB HR443_1 HR444_1 hx443_0 hx443_1 hx444_0 hx444_1 hHeld ⊢; (refine pure_ (i := 0) (N := some 22) (v := ?_) (a' := ?_) m48x42 rfl rfl (any_of HT_.out (by kernel_rfl)) (fun _ _ _ h => h) (Or.inl ⟨by rfl, ?_⟩) ?_ ?_); rotate_left); (· intro w'; go_simp; (with_reducible rfl)); rotate_left; (· simp only [Act.put, sT, sZ, sS, i64_w, i32_w]; rfl); refine pV 1 23 m48x41 ?_; refine pV 2 24 m48x40 ?_; ((refine oN 3 25 m48x39 (fun K hK => ?_)); (refine goes_ Try.func52 (by kernel_rfl) rfl #[.slice A0 l0.length c0, .slice (some ad443) l1.length c1, .int .i64 x5_2] (by rfl) rfl rfl (by (try simp only [List.map_toArray, List.map_cons, List.map_nil]); first | done | rfl | (simp only [List.length_drop, List.length_take]; rfl)) ?_); (with_reducible refine (spec_IsThere.calls _ _ l0 _ _ l1 x5_2 false _ ?side1 ?side2 ?side3 ?side4 A10.out).mono ?_); ((case side1 => exact kC HR0.out)); (case side2 => exact HC0.out); ((case side3 => exact kC HR1.out)); (case side4 => exact HC1.out); rintro e w49 ⟨rfl, hb⟩; refine ⟨_, rfl, ?_⟩; (have n0_ := bS hb); clear HB; have HB := n0_; clear n0_; ((try clear hb)); ((try clear hb2)); ((try clear hk)); ((try clear hi)); refine hK.out _ _ ⟨(hC HB.out hw443_0).trans rfl, (hC HB.out hw443_1).trans rfl, (hC HB.out hw444_0).trans rfl, (hC HB.out hw444_1).trans rfl⟩ (fun hHeld => ?_); clear hK K; refine norm_ (a' := ?_) ?_ ?_; rotate_left); (· show Act.put _ (some 25) _ = _; simp only [Act.put, sT, sZ, sS, i64_w, i32_w]; rfl); refine pV 4 26 m48x38 ?_; refine pU 5 27 m48x37 ?_; refine pU 6 28 m48x36 ?_; refine pU 7 29 m48x35 ?_; refine pU 8 30 m48x34 ?_; refine pU 9 31 m48x32 ?_; refine pU 10 32 m48x30 ?_; refine pU 11 33 m48x28 ?_; refine pU 12 34 m48x27 ?_; refine pU 13 35 m48x26 ?_; refine pU 14 36 m48x25 ?_; refine pV 15 37 m48x24 ?_; refine pV 16 38 m48x23 ?_; refine pV 17 39 m48x22 ?_; refine pV 18 40 m48x21 ?_; refine pV 19 41 m48x20 ?_; ((refine oN 20 42 m48x19 (fun K hK => ?_)); (refine goes_ Try.func52 (by kernel_rfl) rfl #[.slice A0 l0.length c0, .slice (some ad443) l1.length c1, .int .i64 x5_2] (by rfl) rfl rfl (by (try simp only [List.map_toArray, List.map_cons, List.map_nil]); first | done | rfl | (simp only [List.length_drop, List.length_take]; rfl)) ?_); (with_reducible refine (spec_IsThere.calls _ _ l0 _ _ l1 x5_2 false _ ?side1 ?side2 ?side3 ?side4 A39.out).mono ?_); ((case side1 => exact kC HR0.out)); (case side2 => exact HC0.out); ((case side3 => exact kC HR1.out)); (case side4 => exact HC1.out); rintro e w50 ⟨rfl, hb⟩; refine ⟨_, rfl, ?_⟩; (have n0_ := bS hb); clear HB; have HB := n0_; clear n0_; ((try clear hb)); ((try clear hb2)); ((try clear hk)); ((try clear hi)); refine hK.out _ _ ⟨(hC HB.out hw443_0).trans rfl, (hC HB.out hw443_1).trans rfl, (hC HB.out hw444_0).trans rfl, (hC HB.out hw444_1).trans rfl⟩ (fun hHeld => ?_); clear hK K; refine norm_ (a' := ?_) ?_ ?_; rotate_left); (· show Act.put _ (some 42) _ = _; simp only [Act.put, sT, sZ, sS, i64_w, i32_w]; rfl); refine pV 21 43 m48x18 ?_; refine pV 22 44 m48x17 ?_; refine pV 23 45 m48x16 ?_; refine pV 24 46 m48x15 ?_; refine pV 25 47 m48x14 ?_; refine pV 26 48 m48x13 ?_; refine tV 27 49 m48x12 ?_; refine pV 28 50 m48x11 ?_; refine pV 29 51 m48x10 ?_; refine pV 30 52 m48x9 ?_; refine pV 31 53 m48x8 ?_; refine pV 32 54 m48x7 ?_; refine pV 33 55 m48x6 ?_; refine tV 34 56 m48x5 ?_; refine pV 35 57 m48x4 ?_; refine pV 36 58 m48x3 ?_; refine pV 37 59 m48x2 ?_; refine pV 38 60 m48x1 ?_; refine pV 39 61 m48x0 ?_; ((refine done_ (done_of HT_.out (by kernel_rfl)) ?_); (try go_wp2); go_ret; (exact ⟨by first | rfl | (simp [errW_none, errW_some] <;> rfl) | (simp [*, errW_none, errW_some] <;> rfl), z2⟩))
                        · rw [if_neg c47] at H
                          (have c47b0 : decide (0 < (((rd_T63 l1 x5_2).f1).length : Int)) = false := decide_eq_false c47; (have c47b1 : decide (0 < ((rd_T63 l1 x5_2).f1).length) = false := decide_eq_false (by omega)); clear c47; have H' := Aside0.mk H; clear H; (try go_wp2); have n0_ := Aside0.mk (below_drew1 HB.out); clear HB; have HB := n0_; clear n0_; (have p443 : 0 ≤ (x5_2 : Int) := of_decide_eq_true (by assumption)); (have q443 : x5_2 < (l1.length : Int) := of_decide_eq_true (by assumption)); obtain ⟨ad443, A443_1, c443_1, e443, hx443_0, hx443_1, hl443_1, hi443_1⟩ := at_T63 HR1.out x5_2 p443 q443; have hw443_1 := hx443_1; have hw443_0 := hx443_0; cases e443; replace hx443_0 := hC HB.out hx443_0; replace hx443_1 := hC HB.out hx443_1; have HR443_1 := Aside0.mk hi443_1; have HC443_1 := Aside0.mk hl443_1; clear hi443_1 hl443_1; replace p443 := eq_true p443; replace q443 := eq_true q443; (have p444 : 0 ≤ (x5_2 : Int) := of_decide_eq_true (by assumption)); (have q444 : x5_2 < (l1.length : Int) := of_decide_eq_true (by assumption)); obtain ⟨ad444, A444_1, c444_1, e444, hx444_0, hx444_1, hl444_1, hi444_1⟩ := at_T63 HR1.out x5_2 p444 q444; have hw444_1 := hx444_1; have hw444_0 := hx444_0; (obtain rfl : ad443 = ad444 := (by injection e444)); replace hx444_0 := hC HB.out hx444_0; replace hx444_1 := hC HB.out hx444_1; have HR444_1 := Aside0.mk hi444_1; have HC444_1 := Aside0.mk hl444_1; clear hi444_1 hl444_1; replace p444 := eq_true p444; replace q444 := eq_true q444; have ea_ := Option.some.inj (hx443_1.symm.trans hx444_1); injection ea_ with ea_ en_ ec_; subst ea_; subst ec_; clear en_; (refine start_ (n := 40) (S := fun w' => w'.cell? (ad443.add ((x5_2).toNat * 2)) = some (.int .i64 ((rd_T63 l1 x5_2).f0)) ∧ w'.cell? ⟨(ad443.add ((x5_2).toNat * 2)).block, (ad443.add ((x5_2).toNat * 2)).off + 1, none⟩ = some (.slice A443_1 ((rd_T63 l1 x5_2).f1).length c443_1) ∧ w'.cell? (ad443.add ((x5_2).toNat * 2)) = some (.int .i64 ((rd_T63 l1 x5_2).f0)) ∧ w'.cell? ⟨(ad443.add ((x5_2).toNat * 2)).block, (ad443.add ((x5_2).toNat * 2)).off + 1, none⟩ = some (.slice A443_1 ((rd_T63 l1 x5_2).f1).length c443_1)) (ds := []) m48x43 (by kernel_rfl) rfl rfl ⟨(hC HB.out hw443_0).trans rfl, (hC HB.out hw443_1).trans rfl, (hC HB.out hw444_0).trans rfl, (hC HB.out hw444_1).trans rfl⟩ (fun hHeld => ?_); refine with_tabW spec_FitsFormat.tab6 spec_FitsFormat.bits6 (fun HT_ HW_ => ?_)); generalize wr.drew = w51 at HB HR443_1 HR444_1 hx443_0 hx443_1 hx444_0 hx444_1 hHeld ⊢; (refine pure_ (i := 0) (N := some 22) (v := ?_) (a' := ?_) m48x42 rfl rfl (any_of HT_.out (by kernel_rfl)) (fun _ _ _ h => h) (Or.inl ⟨by rfl, ?_⟩) ?_ ?_); rotate_left); (· intro w'; go_simp; (with_reducible rfl)); rotate_left; (· simp only [Act.put, sT, sZ, sS, i64_w, i32_w]; rfl); refine pV 1 23 m48x41 ?_; refine pV 2 24 m48x40 ?_; ((refine oN 3 25 m48x39 (fun K hK => ?_)); (refine goes_ Try.func52 (by kernel_rfl) rfl #[.slice A0 l0.length c0, .slice (some ad443) l1.length c1, .int .i64 x5_2] (by rfl) rfl rfl (by (try simp only [List.map_toArray, List.map_cons, List.map_nil]); first | done | rfl | (simp only [List.length_drop, List.length_take]; rfl)) ?_); (with_reducible refine (spec_IsThere.calls _ _ l0 _ _ l1 x5_2 false _ ?side1 ?side2 ?side3 ?side4 A10.out).mono ?_); ((case side1 => exact kC HR0.out)); (case side2 => exact HC0.out); ((case side3 => exact kC HR1.out)); (case side4 => exact HC1.out); rintro e w52 ⟨rfl, hb⟩; refine ⟨_, rfl, ?_⟩; (have n0_ := bS hb); clear HB; have HB := n0_; clear n0_; ((try clear hb)); ((try clear hb2)); ((try clear hk)); ((try clear hi)); refine hK.out _ _ ⟨(hC HB.out hw443_0).trans rfl, (hC HB.out hw443_1).trans rfl, (hC HB.out hw444_0).trans rfl, (hC HB.out hw444_1).trans rfl⟩ (fun hHeld => ?_); clear hK K; refine norm_ (a' := ?_) ?_ ?_; rotate_left); (· show Act.put _ (some 25) _ = _; simp only [Act.put, sT, sZ, sS, i64_w, i32_w]; rfl); refine pV 4 26 m48x38 ?_; refine pU 5 27 m48x37 ?_; refine pU 6 28 m48x36 ?_; refine pU 7 29 m48x35 ?_; refine pU 8 30 m48x34 ?_; refine pU 9 31 m48x32 ?_; refine pU 10 32 m48x30 ?_; refine pU 11 33 m48x28 ?_; refine pU 12 34 m48x27 ?_; refine pU 13 35 m48x26 ?_; refine pU 14 36 m48x25 ?_; refine pV 15 37 m48x24 ?_; refine pV 16 38 m48x23 ?_; refine pV 17 39 m48x22 ?_; refine pV 18 40 m48x21 ?_; refine pV 19 41 m48x20 ?_; ((refine oN 20 42 m48x19 (fun K hK => ?_)); (refine goes_ Try.func52 (by kernel_rfl) rfl #[.slice A0 l0.length c0, .slice (some ad443) l1.length c1, .int .i64 x5_2] (by rfl) rfl rfl (by (try simp only [List.map_toArray, List.map_cons, List.map_nil]); first | done | rfl | (simp only [List.length_drop, List.length_take]; rfl)) ?_); (with_reducible refine (spec_IsThere.calls _ _ l0 _ _ l1 x5_2 false _ ?side1 ?side2 ?side3 ?side4 A39.out).mono ?_); ((case side1 => exact kC HR0.out)); (case side2 => exact HC0.out); ((case side3 => exact kC HR1.out)); (case side4 => exact HC1.out); rintro e w53 ⟨rfl, hb⟩; refine ⟨_, rfl, ?_⟩; (have n0_ := bS hb); clear HB; have HB := n0_; clear n0_; ((try clear hb)); ((try clear hb2)); ((try clear hk)); ((try clear hi)); refine hK.out _ _ ⟨(hC HB.out hw443_0).trans rfl, (hC HB.out hw443_1).trans rfl, (hC HB.out hw444_0).trans rfl, (hC HB.out hw444_1).trans rfl⟩ (fun hHeld => ?_); clear hK K; refine norm_ (a' := ?_) ?_ ?_; rotate_left); (· show Act.put _ (some 42) _ = _; simp only [Act.put, sT, sZ, sS, i64_w, i32_w]; rfl); refine pV 21 43 m48x18 ?_; refine pV 22 44 m48x17 ?_; refine pV 23 45 m48x16 ?_; refine pV 24 46 m48x15 ?_; refine pV 25 47 m48x14 ?_; refine pV 26 48 m48x13 ?_; refine tV 27 49 m48x12 ?_; refine pV 28 50 m48x11 ?_; refine pV 29 51 m48x10 ?_; refine pV 30 52 m48x9 ?_; refine pV 31 53 m48x8 ?_; refine pV 32 54 m48x7 ?_; refine pV 33 55 m48x6 ?_; refine tV 34 56 m48x5 ?_; refine pV 35 57 m48x4 ?_; refine pV 36 58 m48x3 ?_; refine pV 37 59 m48x2 ?_; refine pV 38 60 m48x1 ?_; refine pV 39 61 m48x0 ?_; ((refine done_ (done_of HT_.out (by kernel_rfl)) ?_); (try go_wp2); go_roundg k2)
                          case measure => have := HJ2.out; have := HK2.out; omega
                          case rel => exact ⟨(wrap64 (x5_2 + 1)), (by first | rfl | (simp; done) | (simp [*]; done)), H', ⟨by have := HJ2.out; have := HK2.out; omega⟩, ⟨z2⟩⟩
                      · rw [if_neg c46] at H
                        (have c46b0 : (((rd_T63 l1 x5_2).f0) == 0) = false := beq_eq_false_iff_ne.mpr c46; have c46b1 : (((rd_T63 l1 x5_2).f0) != 0) = true := bne_iff_ne.mpr c46; obtain rfl := Option.some.inj H; (try go_wp2); have n0_ := Aside0.mk (below_drew1 HB.out); clear HB; have HB := n0_; clear n0_; (have p443 : 0 ≤ (x5_2 : Int) := of_decide_eq_true (by assumption)); (have q443 : x5_2 < (l1.length : Int) := of_decide_eq_true (by assumption)); obtain ⟨ad443, A443_1, c443_1, e443, hx443_0, hx443_1, hl443_1, hi443_1⟩ := at_T63 HR1.out x5_2 p443 q443; have hw443_1 := hx443_1; have hw443_0 := hx443_0; cases e443; replace hx443_0 := hC HB.out hx443_0; replace hx443_1 := hC HB.out hx443_1; have HR443_1 := Aside0.mk hi443_1; have HC443_1 := Aside0.mk hl443_1; clear hi443_1 hl443_1; replace p443 := eq_true p443; replace q443 := eq_true q443; (refine start_ (n := 40) (S := fun w' => w'.cell? (ad443.add ((x5_2).toNat * 2)) = some (.int .i64 ((rd_T63 l1 x5_2).f0)) ∧ w'.cell? ⟨(ad443.add ((x5_2).toNat * 2)).block, (ad443.add ((x5_2).toNat * 2)).off + 1, none⟩ = some (.slice A443_1 ((rd_T63 l1 x5_2).f1).length c443_1)) (ds := []) m48x43 (by kernel_rfl) rfl rfl ⟨(hC HB.out hw443_0).trans rfl, (hC HB.out hw443_1).trans rfl⟩ (fun hHeld => ?_); refine with_tabW spec_FitsFormat.tab6 spec_FitsFormat.bits6 (fun HT_ HW_ => ?_)); generalize wr.drew = w54 at HB HR443_1 hx443_0 hx443_1 hHeld ⊢; (refine pure_ (i := 0) (N := some 22) (v := ?_) (a' := ?_) m48x42 rfl rfl (any_of HT_.out (by kernel_rfl)) (fun _ _ _ h => h) (Or.inl ⟨by rfl, ?_⟩) ?_ ?_); rotate_left); (· intro w'; go_simp; (with_reducible rfl)); rotate_left; (· simp only [Act.put, sT, sZ, sS, i64_w, i32_w]; rfl); refine pV 1 23 m48x41 ?_; refine pV 2 24 m48x40 ?_; ((refine oN 3 25 m48x39 (fun K hK => ?_)); (refine goes_ Try.func52 (by kernel_rfl) rfl #[.slice A0 l0.length c0, .slice (some ad443) l1.length c1, .int .i64 x5_2] (by rfl) rfl rfl (by (try simp only [List.map_toArray, List.map_cons, List.map_nil]); first | done | rfl | (simp only [List.length_drop, List.length_take]; rfl)) ?_); (with_reducible refine (spec_IsThere.calls _ _ l0 _ _ l1 x5_2 false _ ?side1 ?side2 ?side3 ?side4 A10.out).mono ?_); ((case side1 => exact kC HR0.out)); (case side2 => exact HC0.out); ((case side3 => exact kC HR1.out)); (case side4 => exact HC1.out); rintro e w55 ⟨rfl, hb⟩; refine ⟨_, rfl, ?_⟩; (have n0_ := bS hb); clear HB; have HB := n0_; clear n0_; ((try clear hb)); ((try clear hb2)); ((try clear hk)); ((try clear hi)); refine hK.out _ _ ⟨(hC HB.out hw443_0).trans rfl, (hC HB.out hw443_1).trans rfl⟩ (fun hHeld => ?_); clear hK K; refine norm_ (a' := ?_) ?_ ?_; rotate_left); (· show Act.put _ (some 25) _ = _; simp only [Act.put, sT, sZ, sS, i64_w, i32_w]; rfl); refine pV 4 26 m48x38 ?_; refine pU 5 27 m48x37 ?_; refine pU 6 28 m48x36 ?_; refine pU 7 29 m48x35 ?_; refine pU 8 30 m48x34 ?_; refine pU 9 31 m48x32 ?_; refine pU 10 32 m48x30 ?_; refine pU 11 33 m48x28 ?_; refine pU 12 34 m48x27 ?_; refine pU 13 35 m48x26 ?_; refine pU 14 36 m48x25 ?_; refine pV 15 37 m48x24 ?_; refine pV 16 38 m48x23 ?_; refine pV 17 39 m48x22 ?_; refine pV 18 40 m48x21 ?_; refine pV 19 41 m48x20 ?_; ((refine oN 20 42 m48x19 (fun K hK => ?_)); (refine goes_ Try.func52 (by kernel_rfl) rfl #[.slice A0 l0.length c0, .slice (some ad443) l1.length c1, .int .i64 x5_2] (by rfl) rfl rfl (by (try simp only [List.map_toArray, List.map_cons, List.map_nil]); first | done | rfl | (simp only [List.length_drop, List.length_take]; rfl)) ?_); (with_reducible refine (spec_IsThere.calls _ _ l0 _ _ l1 x5_2 false _ ?side1 ?side2 ?side3 ?side4 A39.out).mono ?_); ((case side1 => exact kC HR0.out)); (case side2 => exact HC0.out); ((case side3 => exact kC HR1.out)); (case side4 => exact HC1.out); rintro e w56 ⟨rfl, hb⟩; refine ⟨_, rfl, ?_⟩; (have n0_ := bS hb); clear HB; have HB := n0_; clear n0_; ((try clear hb)); ((try clear hb2)); ((try clear hk)); ((try clear hi)); refine hK.out _ _ ⟨(hC HB.out hw443_0).trans rfl, (hC HB.out hw443_1).trans rfl⟩ (fun hHeld => ?_); clear hK K; refine norm_ (a' := ?_) ?_ ?_; rotate_left); (· show Act.put _ (some 42) _ = _; simp only [Act.put, sT, sZ, sS, i64_w, i32_w]; rfl); refine pV 21 43 m48x18 ?_; refine pV 22 44 m48x17 ?_; refine pV 23 45 m48x16 ?_; refine pV 24 46 m48x15 ?_; refine pV 25 47 m48x14 ?_; refine pV 26 48 m48x13 ?_; refine tV 27 49 m48x12 ?_; refine pV 28 50 m48x11 ?_; refine pV 29 51 m48x10 ?_; refine pU 30 52 m48x9 ?_; refine pU 31 53 m48x8 ?_; refine pU 32 54 m48x7 ?_; refine pU 33 55 m48x6 ?_; refine pU 34 56 m48x5 ?_; refine pU 35 57 m48x4 ?_; refine pU 36 58 m48x3 ?_; refine pV 37 59 m48x2 ?_; refine pV 38 60 m48x1 ?_; refine pV 39 61 m48x0 ?_; ((refine done_ (done_of HT_.out (by kernel_rfl)) ?_); (try go_wp2); go_ret; (exact ⟨by first | rfl | (simp [errW_none, errW_some] <;> rfl) | (simp [*, errW_none, errW_some] <;> rfl), z2⟩))
                    · rw [if_neg c45] at H; (exact absurd H (by simp))
                  · rw [if_neg c44] at H; (exact absurd H (by simp))
            · rw [if_neg c9] at H; have c9b0 : decide (x5_2 < (l0.length : Int)) = false := decide_eq_false c9; clear c9; obtain rfl := Option.some.inj H; go_wp2; go_ret; (exact ⟨by first | rfl | (simp [errW_none, errW_some] <;> rfl) | (simp [*, errW_none, errW_some] <;> rfl), z2⟩)

/-! ### impl_LongestOf: function 49 -/
def impl_LongestOf.l0 : Nat → Int → List (S67) → Int → Int → Option (Int)
  | 0, _, _, _, _ => none
  | k + 1, x3, x11, x12, x13 => if x13 < x12 then (if 0 ≤ x13 then (if x13 < (x11.length : Int) then (if ((rd_T67 x11 x13).f0) = 1 then (impl_LongestOf.l0 k x3 x11 x12 (wrap64 (x13 + 1))) else (impl_LongestOf.l0 k (wrap64 (x3 + ((rd_T67 x11 x13).f1))) x11 x12 (wrap64 (x13 + 1)))) else (none)) else (none)) else (some x3)
def impl_LongestOf.f (k : Nat) (l0 : List (S67)) : Option (Int) := (impl_IsFormat.f k l0).bind fun t445 => (if t445 = true then (impl_LongestOf.l0 k (l0.length : Int) l0 (l0.length : Int) 0) else (some 0))
theorem impl_LongestOf.mono_l : ∀ k, (∀ y0 y1 y2 y3, LeO (impl_LongestOf.l0 k y0 y1 y2 y3) (impl_LongestOf.l0 (k + 1) y0 y1 y2 y3))
  | 0 => fun _ _ _ _ r h => by simp [impl_LongestOf.l0] at h
  | k + 1 => by
    have ih0 := impl_LongestOf.mono_l k
    · intro y0 y1 y2 y3
      unfold impl_LongestOf.l0
      repeat' first
      | (with_reducible exact ih0 _ _ _ _)
      | (with_reducible exact impl_IsFormat.mono _ _)
      | (with_reducible exact LeO.refl _)
      | (with_reducible exact LeO.none _)
      | (with_reducible refine LeO.ite ?_ ?_)
      | (with_reducible refine LeO.bind ?_ (fun _ => ?_))
      | exact ih0 _ _ _ _
      | exact impl_IsFormat.mono _ _
      | exact LeO.none _
      | refine LeO.ite ?_ ?_
      | refine LeO.bind ?_ (fun _ => ?_)
theorem impl_LongestOf.mono : ∀ a0 k, LeO (impl_LongestOf.f k a0) (impl_LongestOf.f (k + 1) a0) := by
  intro a0 k
  have ih0 := impl_LongestOf.mono_l k
  unfold impl_LongestOf.f
  repeat' first
      | (with_reducible exact ih0 _ _ _ _)
      | (with_reducible exact impl_IsFormat.mono _ _)
      | (with_reducible exact LeO.refl _)
      | (with_reducible exact LeO.none _)
      | (with_reducible refine LeO.ite ?_ ?_)
      | (with_reducible refine LeO.bind ?_ (fun _ => ?_))
      | exact ih0 _ _ _ _
      | exact impl_IsFormat.mono _ _
      | exact LeO.none _
      | refine LeO.ite ?_ ?_
      | refine LeO.bind ?_ (fun _ => ?_)
set_option maxHeartbeats 8000000 in
set_option maxRecDepth 100000 in
theorem impl_LongestOf.calls (k : Nat) (A0 : Option Addr) (c0 : Nat) (l0 : List (S67)) (r : Int) (w : World) (hr0 : Kd.C k67 w A0 l0.length l0) (hc0 : l0.length ≤ c0) (h : impl_LongestOf.f k l0 = some r) :
    Calls Try.prog 49 #[.slice A0 l0.length c0] w fun e w' => e = .returned (.int .i64 r) ∧ Below w.heap.size w w' := by
  have hu67 := Try.underlying67
  have HR0 := Aside0.mk hr0
  have HC0 := Aside0.mk hc0
  clear hr0 hc0
  have HB := Aside0.mk (Below.refl w.heap.size w)
  have H : ((impl_IsFormat.f k l0).bind fun t445 => (if t445 = true then (impl_LongestOf.l0 k (l0.length : Int) l0 (l0.length : Int) 0) else (some 0))) = some r := h
  clear h
  replace H := bE H; obtain ⟨t445, A2, H⟩ := H
  by_cases c3 : t445 = true
  · subst c3
    replace H := iT H
    have H' := Aside0.mk H
    clear H
    go_enter Try.func49, Try.ntmps49
    go_wp2_with (first | ((with_reducible refine gate_callee (f := 38) rfl ?_); refine gL 7 Try.func38 #[.slice A0 l0.length c0] ?_; (with_reducible refine (impl_IsFormat.calls k _ _ l0 true _ ?side1 ?side2 A2.out).mono ?_); (case side1 => exact qC HR0.out); (case side2 => exact HC0.out); rintro e w4 ⟨rfl, hb⟩; refine ⟨_, rfl, ?_⟩; have n0_ := bS hb; clear HB; have HB := n0_; clear n0_; (try clear hb); (try clear hb2); (try clear hk); (try clear hi)))
    go_loopg [3, 13] k (fun kq v3 v13 w' => ∃ (x3_1 : Int) (x13_1 : Int), v3 = .int .i64 x3_1 ∧ v13 = .int .i64 x13_1 ∧ Aside0 (impl_LongestOf.l0 kq x3_1 l0 (l0.length : Int) x13_1 = some r) ∧ Aside0 (kq ≤ k) ∧ Aside0 (Below w.heap.size w w'))
    case atStart => exact ⟨((l0.length : Int)), (0), (by first | rfl | (simp; done) | (simp [*]; done)), (by first | rfl | (simp; done) | (simp [*]; done)), H', ⟨Nat.le_refl _⟩, ⟨z2⟩⟩
    case round =>
      clear H'
      try clear p2
      try clear c3
      try clear c4
      obtain ⟨x3_1, x13_1, rfl, rfl, HA, HK1, HB⟩ := hrel
      cases gk with
      | zero => exact absurd HA.out (by simp [impl_LongestOf.l0])
      | succ k1 =>
        have H := HA.out
        clear HA
        simp only [impl_LongestOf.l0] at H
        by_cases c5 : x13_1 < (l0.length : Int)
        · rw [if_pos c5] at H
          have c5b0 : decide (x13_1 < (l0.length : Int)) = true := decide_eq_true c5; clear c5; by_cases c6 : 0 ≤ x13_1
          · rw [if_pos c6] at H
            have c6b0 : decide (0 ≤ x13_1) = true := decide_eq_true c6; clear c6; by_cases c7 : x13_1 < (l0.length : Int)
            · rw [if_pos c7] at H
              have c7b0 : decide (x13_1 < (l0.length : Int)) = true := decide_eq_true c7; clear c7; by_cases c8 : ((rd_T67 l0 x13_1).f0) = 1
              · rw [if_pos c8] at H
                have c8b0 : (((rd_T67 l0 x13_1).f0) == 1) = true := beq_iff_eq.mpr c8; have c8b1 : (((rd_T67 l0 x13_1).f0) != 1) = false := bne_eq_false_iff_eq.mpr c8; clear c8; have H' := Aside0.mk H; clear H; (have p446 : 0 ≤ (x13_1 : Int) := of_decide_eq_true (by assumption)); (have q446 : x13_1 < (l0.length : Int) := of_decide_eq_true (by assumption)); obtain ⟨ad446, e446, hx446_0, hx446_1, hx446_2, hx446_3⟩ := at_T67 HR0.out x13_1 p446 q446; cases e446; replace hx446_0 := hC HB.out hx446_0; replace hx446_1 := hC HB.out hx446_1; replace hx446_2 := hC HB.out hx446_2; replace hx446_3 := hC HB.out hx446_3; replace p446 := eq_true p446; replace q446 := eq_true q446; (go_wp2_with (first | ((with_reducible refine gate_dst (N := 5) rfl ?_); refine box_event ?hg (N := 5) ?hd (cs := #[.int .i64 0, .int .i64 0, .int .i64 0, .int .i64 0]) (t := 67) ?hr ?_; (case hd => rfl); (case hg => rfl); (case hr => first | (go_simp; done) | (go_simp; rfl)); intro gb447 hg w9 hbox hb; have n0_ := bS hb; have n1_ := Aside0.mk (hbox); have n2_ : Aside0 (w.heap.size ≤ gb447) := bZ hg; have n3_ : Aside0 (w.heap.size ≤ gb447) := bZ hg; clear HB; have HB := n0_; have BK447 := n1_; have GW447 := n2_; have GE447 := n3_; clear n0_ n1_ n2_ n3_; clear hb hbox hg; obtain ⟨hcz10_0, hcz10_1, hcz10_2, hcz10_3, hfz10_0, hfz10_1, hfz10_2, hfz10_3⟩ := zc4 BK447.out))); go_roundg k1
                case measure => have := HK1.out; omega
                case rel => exact ⟨(x3_1), (wrap64 (x13_1 + 1)), (by first | rfl | (simp; done) | (simp [*]; done)), (by first | rfl | (simp; done) | (simp [*]; done)), H', ⟨by have := HK1.out; omega⟩, ⟨z37⟩⟩
              · rw [if_neg c8] at H
                have c8b0 : (((rd_T67 l0 x13_1).f0) == 1) = false := beq_eq_false_iff_ne.mpr c8; have c8b1 : (((rd_T67 l0 x13_1).f0) != 1) = true := bne_iff_ne.mpr c8; have H' := Aside0.mk H; clear H; (have p446 : 0 ≤ (x13_1 : Int) := of_decide_eq_true (by assumption)); (have q446 : x13_1 < (l0.length : Int) := of_decide_eq_true (by assumption)); obtain ⟨ad446, e446, hx446_0, hx446_1, hx446_2, hx446_3⟩ := at_T67 HR0.out x13_1 p446 q446; cases e446; replace hx446_0 := hC HB.out hx446_0; replace hx446_1 := hC HB.out hx446_1; replace hx446_2 := hC HB.out hx446_2; replace hx446_3 := hC HB.out hx446_3; replace p446 := eq_true p446; replace q446 := eq_true q446; (go_wp2_with (first | ((with_reducible refine gate_dst (N := 5) rfl ?_); refine box_event ?hg (N := 5) ?hd (cs := #[.int .i64 0, .int .i64 0, .int .i64 0, .int .i64 0]) (t := 67) ?hr ?_; (case hd => rfl); (case hg => rfl); (case hr => first | (go_simp; done) | (go_simp; rfl)); intro gb447 hg w11 hbox hb; have n0_ := bS hb; have n1_ := Aside0.mk (hbox); have n2_ : Aside0 (w.heap.size ≤ gb447) := bZ hg; have n3_ : Aside0 (w.heap.size ≤ gb447) := bZ hg; clear HB; have HB := n0_; have BK447 := n1_; have GW447 := n2_; have GE447 := n3_; clear n0_ n1_ n2_ n3_; clear hb hbox hg; obtain ⟨hcz12_0, hcz12_1, hcz12_2, hcz12_3, hfz12_0, hfz12_1, hfz12_2, hfz12_3⟩ := zc4 BK447.out))); go_roundg k1
                case measure => have := HK1.out; omega
                case rel => exact ⟨(wrap64 (x3_1 + ((rd_T67 l0 x13_1).f1))), (wrap64 (x13_1 + 1)), (by first | rfl | (simp; done) | (simp [*]; done)), (by first | rfl | (simp; done) | (simp [*]; done)), H', ⟨by have := HK1.out; omega⟩, ⟨z37⟩⟩
            · rw [if_neg c7] at H; (exact absurd H (by simp))
          · rw [if_neg c6] at H; (exact absurd H (by simp))
        · rw [if_neg c5] at H
          have c5b0 : decide (x13_1 < (l0.length : Int)) = false := decide_eq_false c5; clear c5; obtain rfl := Option.some.inj H; go_wp2; go_ret; (exact ⟨by first | rfl | (simp [errW_none, errW_some] <;> rfl) | (simp [*, errW_none, errW_some] <;> rfl), z2⟩)
  · replace c3 := Bool.eq_false_iff.mpr c3
    subst c3
    replace H := iF H
    obtain rfl := Option.some.inj H
    go_enter Try.func49, Try.ntmps49
    go_wp2_with (first | ((with_reducible refine gate_callee (f := 38) rfl ?_); refine gL 7 Try.func38 #[.slice A0 l0.length c0] ?_; (with_reducible refine (impl_IsFormat.calls k _ _ l0 false _ ?side1 ?side2 A2.out).mono ?_); (case side1 => exact qC HR0.out); (case side2 => exact HC0.out); rintro e w13 ⟨rfl, hb⟩; refine ⟨_, rfl, ?_⟩; have n0_ := bS hb; clear HB; have HB := n0_; clear n0_; (try clear hb); (try clear hb2); (try clear hk); (try clear hi)))
    go_ret
    exact ⟨by first | rfl | (simp [errW_none, errW_some] <;> rfl) | (simp [*, errW_none, errW_some] <;> rfl), z2⟩

/-! ### spec_EncodeMessage: function 32 -/
def spec_EncodeMessage.l0 : Nat → List (S67) → List (S63) → List Int → Int → Option (List Int × Bool)
  | 0, _, _, _, _ => none
  | k + 1, x0, x1, x6, x7 => if x7 < (x0.length : Int) then ((spec_IsThere.f x0 x1 x7).bind fun t452 => (if t452 = true then (if 0 ≤ x7 then (if ((rd_T67 x0 x7).f0) = 1 then (if x7 < (x1.length : Int) then (if x6.length < 17592186044416 then (spec_EncodeMessage.l0 k x0 x1 (x6 ++ [(rd_T63 x1 x7).f0]) (wrap64 (x7 + 1))) else (none)) else (none)) else (if x7 < (x1.length : Int) then (if x6.length < 17592186044416 then ((some (x6 ++ [(((rd_T63 x1 x7).f1).length : Int)] : List Int)).bind fun y459 => (if y459.length + ((rd_T63 x1 x7).f1).length < 17592186044416 then (spec_EncodeMessage.l0 k x0 x1 (y459 ++ ((rd_T63 x1 x7).f1)) (wrap64 (x7 + 1))) else (none))) else (none)) else (none))) else (none)) else (spec_EncodeMessage.l0 k x0 x1 x6 (wrap64 (x7 + 1))))) else (some (x6, true))
def spec_EncodeMessage.f (k : Nat) (l0 : List (S67)) (l1 : List (S63)) : Option (List Int × Bool) := (some (([] : List Int) : List Int)).bind fun y448 => ((spec_FitsFormat.f k l0 l1).bind fun t451 => (if t451 = true then (spec_EncodeMessage.l0 k l0 l1 y448 0) else (some (y448, false))))
theorem spec_EncodeMessage.mono_l : ∀ k, (∀ y0 y1 y2 y3, LeO (spec_EncodeMessage.l0 k y0 y1 y2 y3) (spec_EncodeMessage.l0 (k + 1) y0 y1 y2 y3))
  | 0 => fun _ _ _ _ r h => by simp [spec_EncodeMessage.l0] at h
  | k + 1 => by
    have ih0 := spec_EncodeMessage.mono_l k
    · intro y0 y1 y2 y3
      unfold spec_EncodeMessage.l0
      repeat' first
      | (with_reducible exact ih0 _ _ _ _)
      | (with_reducible exact spec_FitsFormat.mono _ _ _)
      | (with_reducible exact LeO.refl _)
      | (with_reducible exact LeO.none _)
      | (with_reducible refine LeO.ite ?_ ?_)
      | (with_reducible refine LeO.bind ?_ (fun _ => ?_))
      | exact ih0 _ _ _ _
      | exact spec_FitsFormat.mono _ _ _
      | exact LeO.none _
      | refine LeO.ite ?_ ?_
      | refine LeO.bind ?_ (fun _ => ?_)
theorem spec_EncodeMessage.mono : ∀ a0 a1 k, LeO (spec_EncodeMessage.f k a0 a1) (spec_EncodeMessage.f (k + 1) a0 a1) := by
  intro a0 a1 k
  have ih0 := spec_EncodeMessage.mono_l k
  unfold spec_EncodeMessage.f
  repeat' first
      | (with_reducible exact ih0 _ _ _ _)
      | (with_reducible exact spec_FitsFormat.mono _ _ _)
      | (with_reducible exact LeO.refl _)
      | (with_reducible exact LeO.none _)
      | (with_reducible refine LeO.ite ?_ ?_)
      | (with_reducible refine LeO.bind ?_ (fun _ => ?_))
      | exact ih0 _ _ _ _
      | exact spec_FitsFormat.mono _ _ _
      | exact LeO.none _
      | refine LeO.ite ?_ ?_
      | refine LeO.bind ?_ (fun _ => ?_)
set_option maxHeartbeats 8000000 in
set_option maxRecDepth 100000 in
theorem spec_EncodeMessage.calls (k : Nat) (A0 : Option Addr) (c0 : Nat) (l0 : List (S67)) (A1 : Option Addr) (c1 : Nat) (l1 : List (S63)) (r1 : List Int) (r2 : Bool) (w : World) (hr0 : Kd.C k67 w A0 l0.length l0) (hc0 : l0.length ≤ c0) (hr1 : Kd.C k63 w A1 l1.length l1) (hc1 : l1.length ≤ c1) (h : spec_EncodeMessage.f k l0 l1 = some (r1, r2)) :
    Calls Try.prog 32 #[.slice A0 l0.length c0, .slice A1 l1.length c1] w fun e w' => ∃ v0_ : Value, e = .returned (.tuple #[v0_, .bool r2]) ∧ Kd.R (Kd.int .i64) 3 w' w.heap.size (fun _ => True) v0_ r1 ∧ Below w.heap.size w w' := by
  have HR0 := Aside0.mk hr0
  have HC0 := Aside0.mk hc0
  clear hr0 hc0
  have HR1 := Aside0.mk hr1
  have HC1 := Aside0.mk hc1
  clear hr1 hc1
  have HB := Aside0.mk (Below.refl w.heap.size w)
  have H : ((some (([] : List Int) : List Int)).bind fun y448 => ((spec_FitsFormat.f k l0 l1).bind fun t451 => (if t451 = true then (spec_EncodeMessage.l0 k l0 l1 y448 0) else (some (y448, false))))) = some (r1, r2) := h
  clear h
  obtain ⟨y448, hy448⟩ : ∃ y_ : List Int, y_ = (([] : List Int)) := ⟨_, rfl⟩
  replace H : ((spec_FitsFormat.f k l0 l1).bind fun t451 => (if t451 = true then (spec_EncodeMessage.l0 k l0 l1 y448 0) else (some (y448, false)))) = some (r1, r2) := by first | (rw [hy448]; with_reducible exact H) | (have H2_ := (Option.bind_some _ _).symm.trans H; rw [hy448]; with_reducible exact H2_) | (have H2_ := (Option.bind_some _ _).symm.trans H; with_reducible exact H2_) | with_reducible exact H | (rw [hy448]; exact H) | exact H
  have Ny448 := Aside0.mk hy448
  clear hy448
  replace H := bE H; obtain ⟨t451, A3, H⟩ := H
  by_cases c4 : t451 = true
  · subst c4
    replace H := iT H
    have H' := Aside0.mk H
    clear H
    go_enter Try.func32, Try.ntmps32
    go_wp2_with (first | ((with_reducible refine gate_dst (N := 8) rfl ?_); refine Kd.R_lit (Kd.int .i64) _ 3 ?hg (N := 8) ?hd (xs := ([] : List Int)) (inner := []) (ok := fun _ => True) (okp := fun _ => True) ?hr ?hp (fun _ hk => hk) trivial (Below.refl _ _) (Nat.le_refl _) (by simp) ?_; (case hd => rfl); (case hg => rfl); (case hr => first | (go_simp; done) | (go_simp; rfl)); (case hp => exact (Reps.none _ _)); intro v449 w5 ho6 hb hg_ hnew_; clear hg_ hnew_; (first | rw [← Ny448.out] at ho6 | (simp only [Int.reduceToNat] at ho6; rw [← Ny448.out] at ho6)); have n0_ := Aside0.mk (Kd.R_lower ho6 (below_size z2)); have n1_ := bS hb; clear HB; have HO450 := n0_; have HB := n1_; clear n0_ n1_; clear hb ho6) | ((with_reducible refine gate_callee (f := 48) rfl ?_); refine gL 11 Try.func48 #[.slice A0 l0.length c0, .slice A1 l1.length c1] ?_; (with_reducible refine (spec_FitsFormat.calls k _ _ l0 _ _ l1 true _ ?side1 ?side2 ?side3 ?side4 A3.out).mono ?_); (case side1 => exact kC HR0.out); (case side2 => exact HC0.out); (case side3 => exact kC HR1.out); (case side4 => exact HC1.out); rintro e w7 ⟨rfl, hb⟩; refine ⟨_, rfl, ?_⟩; have n0_ := rB HO450.out hb; have n1_ := bS hb; clear HO450; clear HB; have HO450 := n0_; have HB := n1_; clear n0_ n1_; (try clear hb); (try clear hb2); (try clear hk); (try clear hi)))
    go_loopg [6, 7] k (fun kq v6 v7 w' => ∃ (x6_1 : List Int) (x7_1 : Int), v7 = .int .i64 x7_1 ∧ Aside0 (spec_EncodeMessage.l0 kq l0 l1 x6_1 x7_1 = some (r1, r2)) ∧ Aside0 (kq ≤ k) ∧ Aside0 (Kd.R (Kd.int .i64) 3 w' w.heap.size (fun _ => True) v6 x6_1) ∧ Aside0 (Below w.heap.size w w'))
    case atStart => exact ⟨(y448), (0), (by first | rfl | (simp; done) | (simp [*]; done)), H', ⟨Nat.le_refl _⟩, ⟨qR HO450.out⟩, ⟨z2⟩⟩
    case round =>
      clear H'
      try clear c1
      try clear p2
      try clear c3
      try clear c4
      obtain ⟨x6_1, x7_1, rfl, HA, HK1, HO_6, HB⟩ := hrel
      cases gk with
      | zero => exact absurd HA.out (by simp [spec_EncodeMessage.l0])
      | succ k1 =>
        have H := HA.out
        clear HA
        simp only [spec_EncodeMessage.l0] at H
        by_cases c8 : x7_1 < (l0.length : Int)
        · rw [if_pos c8] at H
          have c8b0 : decide (x7_1 < (l0.length : Int)) = true := decide_eq_true c8; clear c8; replace H := bE H; obtain ⟨t452, A9, H⟩ := H; by_cases c10 : t452 = true
          · subst c10
            replace H := iT H; by_cases c11 : 0 ≤ x7_1
            · rw [if_pos c11] at H
              have c11b0 : decide (0 ≤ x7_1) = true := decide_eq_true c11; clear c11; by_cases c12 : ((rd_T67 l0 x7_1).f0) = 1
              · rw [if_pos c12] at H
                have c12b0 : (((rd_T67 l0 x7_1).f0) == 1) = true := beq_iff_eq.mpr c12; have c12b1 : (((rd_T67 l0 x7_1).f0) != 1) = false := bne_eq_false_iff_eq.mpr c12; clear c12; by_cases c13 : x7_1 < (l1.length : Int)
                · rw [if_pos c13] at H
                  have c13b0 : decide (x7_1 < (l1.length : Int)) = true := decide_eq_true c13; clear c13; by_cases c14 : x6_1.length < 17592186044416
                  · rw [if_pos c14] at H
                    have LMc14 := Aside0.mk c14; clear c14; obtain ⟨y455, hy455⟩ : ∃ y_ : List Int, y_ = (x6_1 ++ [(rd_T63 l1 x7_1).f0]) := ⟨_, rfl⟩; (replace H : (spec_EncodeMessage.l0 k1 l0 l1 y455 (wrap64 (x7_1 + 1))) = some (r1, r2) := by first | (rw [hy455]; with_reducible exact H) | (have H2_ := (Option.bind_some _ _).symm.trans H; rw [hy455]; with_reducible exact H2_) | (have H2_ := (Option.bind_some _ _).symm.trans H; with_reducible exact H2_) | with_reducible exact H | (rw [hy455]; exact H) | exact H); have Ny455 := Aside0.mk hy455; clear hy455; have H' := Aside0.mk H; clear H; (go_wp2_with (first | ((with_reducible refine gate_callee (f := 52) rfl ?_); refine gL 40 Try.func52 #[.slice A0 l0.length c0, .slice A1 l1.length c1, .int .i64 x7_1] ?_; (with_reducible refine (spec_IsThere.calls _ _ l0 _ _ l1 x7_1 true _ ?side1 ?side2 ?side3 ?side4 A9.out).mono ?_); (case side1 => exact kC HR0.out); (case side2 => exact HC0.out); (case side3 => exact kC HR1.out); (case side4 => exact HC1.out); rintro e w15 ⟨rfl, hb⟩; refine ⟨_, rfl, ?_⟩; have n0_ := rB HO_6.out hb; have n1_ := bS hb; clear HO_6; clear HB; have HO_6 := n0_; have HB := n1_; clear n0_ n1_; (try clear hb); (try clear hb2); (try clear hk); (try clear hi); have p453 : 0 ≤ (x7_1 : Int) := of_decide_eq_true (by assumption); have q453 : x7_1 < (l0.length : Int) := of_decide_eq_true (by assumption); obtain ⟨ad453, e453, hx453_0, hx453_1, hx453_2, hx453_3⟩ := at_T67 HR0.out x7_1 p453 q453; cases e453; replace hx453_0 := hC HB.out hx453_0; replace hx453_1 := hC HB.out hx453_1; replace hx453_2 := hC HB.out hx453_2; replace hx453_3 := hC HB.out hx453_3; replace p453 := eq_true p453; replace q453 := eq_true q453; have p454 : 0 ≤ (x7_1 : Int) := of_decide_eq_true (by assumption); have q454 : x7_1 < (l1.length : Int) := of_decide_eq_true (by assumption); obtain ⟨ad454, A454_1, c454_1, e454, hx454_0, hx454_1, hl454_1, hi454_1⟩ := at_T63 HR1.out x7_1 p454 q454; cases e454; replace hx454_0 := hC HB.out hx454_0; replace hx454_1 := hC HB.out hx454_1; have HR454_1 := Aside0.mk hi454_1; have HC454_1 := Aside0.mk hl454_1; clear hi454_1 hl454_1; replace p454 := eq_true p454; replace q454 := eq_true q454) | ((with_reducible refine gate_builtin (b := .append) (xs := #[.tmp 49, .tmp 55]) rfl ?_); at_builtin; refine Kd.R_append (Kd.int .i64) (w0 := w) w.heap.size rfl (.tmp 49) (.tmp 55) 38 3 (.int .i64 0) 8 rfl Try.underlying38 info3 rfl (by decide) (by omega) u6 x6_1 ((rd_T63 l1 x7_1).f0) [.int .i64 ((rd_T63 l1 x7_1).f0)] (fun _ => True) (fun _ => False) rfl rfl ?aP (fun _ hk => hk.elim) ?aF ?aO ?aB ?aS ?aL ?_; (case aP => exact rfl); (case aB => exact z2); (case aF => exact (fun _ _ => trivial)); (case aO => exact (qR HO_6.out)); (case aS => exact (below_size z2)); (case aL => have := LMc14.out; omega); intro v456 w16 ho hb hg hat; rw [← Ny455.out] at ho; have n0_ := Aside0.mk (hb); have n1_ := Aside0.mk (ho); clear HB; clear HO_6; have HB := n0_; have HO457 := n1_; clear n0_ n1_; clear ho hb hg hat))); go_roundg k1
                    case measure => have := HK1.out; omega
                    case rel => exact ⟨(y455), (wrap64 (x7_1 + 1)), (by first | rfl | (simp; done) | (simp [*]; done)), H', ⟨by have := HK1.out; omega⟩, ⟨qR HO457.out⟩, ⟨z2⟩⟩
                  · rw [if_neg c14] at H; (exact absurd H (by simp))
                · rw [if_neg c13] at H; (exact absurd H (by simp))
              · rw [if_neg c12] at H
                have c12b0 : (((rd_T67 l0 x7_1).f0) == 1) = false := beq_eq_false_iff_ne.mpr c12; have c12b1 : (((rd_T67 l0 x7_1).f0) != 1) = true := bne_iff_ne.mpr c12; by_cases c17 : x7_1 < (l1.length : Int)
                · rw [if_pos c17] at H
                  have c17b0 : decide (x7_1 < (l1.length : Int)) = true := decide_eq_true c17; clear c17; by_cases c18 : x6_1.length < 17592186044416
                  · rw [if_pos c18] at H
                    have LMc18 := Aside0.mk c18; clear c18; obtain ⟨y459, hy459⟩ : ∃ y_ : List Int, y_ = (x6_1 ++ [(((rd_T63 l1 x7_1).f1).length : Int)]) := ⟨_, rfl⟩; (replace H : (if y459.length + ((rd_T63 l1 x7_1).f1).length < 17592186044416 then (spec_EncodeMessage.l0 k1 l0 l1 (y459 ++ ((rd_T63 l1 x7_1).f1)) (wrap64 (x7_1 + 1))) else (none)) = some (r1, r2) := by first | (rw [hy459]; with_reducible exact H) | (have H2_ := (Option.bind_some _ _).symm.trans H; rw [hy459]; with_reducible exact H2_) | (have H2_ := (Option.bind_some _ _).symm.trans H; with_reducible exact H2_) | with_reducible exact H | (rw [hy459]; exact H) | exact H); have Ny459 := Aside0.mk hy459; clear hy459; by_cases c19 : y459.length + ((rd_T63 l1 x7_1).f1).length < 17592186044416
                    · rw [if_pos c19] at H
                      have LMc19 := Aside0.mk c19; clear c19; obtain ⟨y463, hy463⟩ : ∃ y_ : List Int, y_ = (y459 ++ ((rd_T63 l1 x7_1).f1)) := ⟨_, rfl⟩; (replace H : (spec_EncodeMessage.l0 k1 l0 l1 y463 (wrap64 (x7_1 + 1))) = some (r1, r2) := by first | (rw [hy463]; with_reducible exact H) | (have H2_ := (Option.bind_some _ _).symm.trans H; rw [hy463]; with_reducible exact H2_) | (have H2_ := (Option.bind_some _ _).symm.trans H; with_reducible exact H2_) | with_reducible exact H | (rw [hy463]; exact H) | exact H); have Ny463 := Aside0.mk hy463; clear hy463; have H' := Aside0.mk H; clear H; (go_wp2_with (first | ((with_reducible refine gate_callee (f := 52) rfl ?_); refine gL 40 Try.func52 #[.slice A0 l0.length c0, .slice A1 l1.length c1, .int .i64 x7_1] ?_; (with_reducible refine (spec_IsThere.calls _ _ l0 _ _ l1 x7_1 true _ ?side1 ?side2 ?side3 ?side4 A9.out).mono ?_); (case side1 => exact kC HR0.out); (case side2 => exact HC0.out); (case side3 => exact kC HR1.out); (case side4 => exact HC1.out); rintro e w20 ⟨rfl, hb⟩; refine ⟨_, rfl, ?_⟩; have n0_ := rB HO_6.out hb; have n1_ := bS hb; clear HO_6; clear HB; have HO_6 := n0_; have HB := n1_; clear n0_ n1_; (try clear hb); (try clear hb2); (try clear hk); (try clear hi); have p453 : 0 ≤ (x7_1 : Int) := of_decide_eq_true (by assumption); have q453 : x7_1 < (l0.length : Int) := of_decide_eq_true (by assumption); obtain ⟨ad453, e453, hx453_0, hx453_1, hx453_2, hx453_3⟩ := at_T67 HR0.out x7_1 p453 q453; cases e453; replace hx453_0 := hC HB.out hx453_0; replace hx453_1 := hC HB.out hx453_1; replace hx453_2 := hC HB.out hx453_2; replace hx453_3 := hC HB.out hx453_3; replace p453 := eq_true p453; replace q453 := eq_true q453; have p458 : 0 ≤ (x7_1 : Int) := of_decide_eq_true (by assumption); have q458 : x7_1 < (l1.length : Int) := of_decide_eq_true (by assumption); obtain ⟨ad458, A458_1, c458_1, e458, hx458_0, hx458_1, hl458_1, hi458_1⟩ := at_T63 HR1.out x7_1 p458 q458; cases e458; replace hx458_0 := hC HB.out hx458_0; replace hx458_1 := hC HB.out hx458_1; have HR458_1 := Aside0.mk hi458_1; have HC458_1 := Aside0.mk hl458_1; clear hi458_1 hl458_1; replace p458 := eq_true p458; replace q458 := eq_true q458) | ((with_reducible refine gate_builtin (b := .append) (xs := #[.tmp 20, .tmp 27]) rfl ?_); at_builtin; refine Kd.R_append (Kd.int .i64) (w0 := w) w.heap.size rfl (.tmp 20) (.tmp 27) 38 3 (.int .i64 0) 8 rfl Try.underlying38 info3 rfl (by decide) (by omega) u6 x6_1 (((rd_T63 l1 x7_1).f1).length : Int) [.int .i64 (((rd_T63 l1 x7_1).f1).length : Int)] (fun _ => True) (fun _ => False) rfl rfl ?aP (fun _ hk => hk.elim) ?aF ?aO ?aB ?aS ?aL ?_; (case aP => exact rfl); (case aB => exact z2); (case aF => exact (fun _ _ => trivial)); (case aO => exact (qR HO_6.out)); (case aS => exact (below_size z2)); (case aL => have := LMc18.out; omega); intro v460 w21 ho hb hg hat; rw [← Ny459.out] at ho; have n0_ := Aside0.mk (hb); have n1_ := Aside0.mk (ho); clear HB; clear HO_6; have HB := n0_; have HO461 := n1_; clear n0_ n1_; clear ho hb hg hat; have p462 : 0 ≤ (x7_1 : Int) := of_decide_eq_true (by assumption); have q462 : x7_1 < (l1.length : Int) := of_decide_eq_true (by assumption); obtain ⟨ad462, A462_1, c462_1, e462, hx462_0, hx462_1, hl462_1, hi462_1⟩ := at_T63 HR1.out x7_1 p462 q462; obtain rfl : ad458 = ad462 := (by injection e462); replace hx462_0 := hC HB.out hx462_0; replace hx462_1 := hC HB.out hx462_1; have HR462_1 := Aside0.mk hi462_1; have HC462_1 := Aside0.mk hl462_1; clear hi462_1 hl462_1; replace p462 := eq_true p462; replace q462 := eq_true q462) | ((with_reducible refine gate_builtin (b := .append) (xs := #[.tmp 29, .tmp 34]) rfl ?_); at_builtin; refine Kd.R_append_rows (Kd.int .i64) (w0 := w) w.heap.size rfl (.tmp 29) (.tmp 34) 38 3 (.int .i64 0) 8 rfl Try.underlying38 info3 rfl (by decide) (by omega) v460 y459 ((rd_T63 l1 x7_1).f1) _ _ _ (fun _ => True) (fun _ => False) rfl rfl ?aO ?aR (fun _ _ h => h) (fun _ h => h.elim) ?aF ?aB ?aS ?aL ?_; (case aR => exact kC HR462_1.out); (case aB => exact z2); (case aF => exact (fun _ _ => trivial)); (case aO => exact (qR HO461.out)); (case aS => exact (below_size z2)); (case aL => have := LMc19.out; omega); intro v464 w22 ho hb hg hat; rw [← Ny463.out] at ho; have n0_ := Aside0.mk (hb); have n1_ := Aside0.mk (ho); clear HB; clear HO461; have HB := n0_; have HO465 := n1_; clear n0_ n1_; clear ho hb hg hat))); go_roundg k1
                      case measure => have := HK1.out; omega
                      case rel => exact ⟨(y463), (wrap64 (x7_1 + 1)), (by first | rfl | (simp; done) | (simp [*]; done)), H', ⟨by have := HK1.out; omega⟩, ⟨qR HO465.out⟩, ⟨z2⟩⟩
                    · rw [if_neg c19] at H; (exact absurd H (by simp))
                  · rw [if_neg c18] at H; (exact absurd H (by simp))
                · rw [if_neg c17] at H; (exact absurd H (by simp))
            · rw [if_neg c11] at H; (exact absurd H (by simp))
          · replace c10 := Bool.eq_false_iff.mpr c10
            subst c10; replace H := iF H; have H' := Aside0.mk H; clear H; (go_wp2_with (first | ((with_reducible refine gate_callee (f := 52) rfl ?_); refine gL 40 Try.func52 #[.slice A0 l0.length c0, .slice A1 l1.length c1, .int .i64 x7_1] ?_; (with_reducible refine (spec_IsThere.calls _ _ l0 _ _ l1 x7_1 false _ ?side1 ?side2 ?side3 ?side4 A9.out).mono ?_); (case side1 => exact kC HR0.out); (case side2 => exact HC0.out); (case side3 => exact kC HR1.out); (case side4 => exact HC1.out); rintro e w23 ⟨rfl, hb⟩; refine ⟨_, rfl, ?_⟩; have n0_ := rB HO_6.out hb; have n1_ := bS hb; clear HO_6; clear HB; have HO_6 := n0_; have HB := n1_; clear n0_ n1_; (try clear hb); (try clear hb2); (try clear hk); (try clear hi)))); go_roundg k1
            case measure => have := HK1.out; omega
            case rel => exact ⟨(x6_1), (wrap64 (x7_1 + 1)), (by first | rfl | (simp; done) | (simp [*]; done)), H', ⟨by have := HK1.out; omega⟩, ⟨qR HO_6.out⟩, ⟨z2⟩⟩
        · rw [if_neg c8] at H
          have c8b0 : decide (x7_1 < (l0.length : Int)) = false := decide_eq_false c8; clear c8; simp only [Option.some.injEq, Prod.mk.injEq] at H; obtain ⟨rfl, rfl⟩ := H; go_wp2; go_ret2; (exact ⟨_, by first | rfl | (simp [errW_none, errW_some] <;> rfl) | (simp [*, errW_none, errW_some] <;> rfl), qR HO_6.out, z2⟩)
  · replace c4 := Bool.eq_false_iff.mpr c4
    subst c4
    replace H := iF H
    simp only [Option.some.injEq, Prod.mk.injEq] at H
    obtain ⟨rfl, rfl⟩ := H
    go_enter Try.func32, Try.ntmps32
    go_wp2_with (first | ((with_reducible refine gate_dst (N := 8) rfl ?_); refine Kd.R_lit (Kd.int .i64) _ 3 ?hg (N := 8) ?hd (xs := ([] : List Int)) (inner := []) (ok := fun _ => True) (okp := fun _ => True) ?hr ?hp (fun _ hk => hk) trivial (Below.refl _ _) (Nat.le_refl _) (by simp) ?_; (case hd => rfl); (case hg => rfl); (case hr => first | (go_simp; done) | (go_simp; rfl)); (case hp => exact (Reps.none _ _)); intro v449 w24 ho25 hb hg_ hnew_; clear hg_ hnew_; (first | rw [← Ny448.out] at ho25 | (simp only [Int.reduceToNat] at ho25; rw [← Ny448.out] at ho25)); have n0_ := Aside0.mk (Kd.R_lower ho25 (below_size z2)); have n1_ := bS hb; clear HB; have HO450 := n0_; have HB := n1_; clear n0_ n1_; clear hb ho25) | ((with_reducible refine gate_callee (f := 48) rfl ?_); refine gL 11 Try.func48 #[.slice A0 l0.length c0, .slice A1 l1.length c1] ?_; (with_reducible refine (spec_FitsFormat.calls k _ _ l0 _ _ l1 false _ ?side1 ?side2 ?side3 ?side4 A3.out).mono ?_); (case side1 => exact kC HR0.out); (case side2 => exact HC0.out); (case side3 => exact kC HR1.out); (case side4 => exact HC1.out); rintro e w26 ⟨rfl, hb⟩; refine ⟨_, rfl, ?_⟩; have n0_ := rB HO450.out hb; have n1_ := bS hb; clear HO450; clear HB; have HO450 := n0_; have HB := n1_; clear n0_ n1_; (try clear hb); (try clear hb2); (try clear hk); (try clear hi)))
    go_ret2
    exact ⟨_, by first | rfl | (simp [errW_none, errW_some] <;> rfl) | (simp [*, errW_none, errW_some] <;> rfl), qR HO450.out, z2⟩

/-! ### spec_l6Ints: function 90 -/
def spec_l6Ints.l0 : Nat → List Int → Int → List Int → Int → Int → Option (List Int × Int × Int)
  | 0, _, _, _, _, _ => none
  | k + 1, x3, x4, x1000, x1001, x1002 => if x4 > 0 then ((spec_l1Below.f x1000 x1001 x1002 6).bind fun bt472 => (if x3.length < 17592186044416 then (spec_l6Ints.l0 k (x3 ++ [bt472.1]) (wrap64 (x4 - 1)) x1000 bt472.2.1 bt472.2.2) else (none))) else (some (x3, x1001, x1002))
def spec_l6Ints.f (k : Nat) (s0_0 : List Int) (s0_1 : Int) (s0_2 : Int) : Option (List Int × Int × Int) := (spec_l1Below.f s0_0 s0_1 s0_2 9).bind fun bt469 => (spec_l6Ints.l0 k (([] : List Int)) bt469.1 s0_0 bt469.2.1 bt469.2.2)
theorem spec_l6Ints.mono_l : ∀ k, (∀ y0 y1 y2 y3 y4, LeO (spec_l6Ints.l0 k y0 y1 y2 y3 y4) (spec_l6Ints.l0 (k + 1) y0 y1 y2 y3 y4))
  | 0 => fun _ _ _ _ _ r h => by simp [spec_l6Ints.l0] at h
  | k + 1 => by
    have ih0 := spec_l6Ints.mono_l k
    · intro y0 y1 y2 y3 y4
      unfold spec_l6Ints.l0
      repeat' first
      | (with_reducible exact ih0 _ _ _ _ _)
      | (with_reducible exact LeO.refl _)
      | (with_reducible exact LeO.none _)
      | (with_reducible refine LeO.ite ?_ ?_)
      | (with_reducible refine LeO.bind ?_ (fun _ => ?_))
      | exact ih0 _ _ _ _ _
      | exact LeO.none _
      | refine LeO.ite ?_ ?_
      | refine LeO.bind ?_ (fun _ => ?_)
theorem spec_l6Ints.mono : ∀ a0 a1 a2 k, LeO (spec_l6Ints.f k a0 a1 a2) (spec_l6Ints.f (k + 1) a0 a1 a2) := by
  intro a0 a1 a2 k
  have ih0 := spec_l6Ints.mono_l k
  unfold spec_l6Ints.f
  repeat' first
      | (with_reducible exact ih0 _ _ _ _ _)
      | (with_reducible exact LeO.refl _)
      | (with_reducible exact LeO.none _)
      | (with_reducible refine LeO.ite ?_ ?_)
      | (with_reducible refine LeO.bind ?_ (fun _ => ?_))
      | exact ih0 _ _ _ _ _
      | exact LeO.none _
      | refine LeO.ite ?_ ?_
      | refine LeO.bind ?_ (fun _ => ?_)
set_option maxHeartbeats 8000000 in
set_option maxRecDepth 100000 in
theorem spec_l6Ints.calls (k : Nat) (g : Nat) (s0_0 : List Int) (s0_1 : Int) (s0_2 : Int) (r1 : List Int) (r2 : Int) (r3 : Int) (w0 w : World) (hI : IsS94 w0 w g s0_0 s0_1 s0_2) (hB : Below w0.heap.size w0 w) (h : spec_l6Ints.f k s0_0 s0_1 s0_2 = some (r1, r2, r3)) :
    Calls Try.prog 90 #[.pointer (some ⟨g, 0, none⟩)] w fun e w' => ∃ v0_ : Value, e = .returned (v0_) ∧ Kd.R (Kd.int .i64) 3 w' w.heap.size (fun _ => True) v0_ r1 ∧ IsS94 w0 w' g s0_0 r2 r3 ∧ Below w0.heap.size w0 w' ∧ KeepBut w w' g none := by
  have HI0 := Aside0.mk hI
  have HK := Aside0.mk (KeepBut.refl w g none)
  have HL := Aside0.mk hB.size
  clear hI
  have HW0 := Aside0.mk hB.size
  have HB := Aside0.mk hB
  clear hB
  have H : ((spec_l1Below.f s0_0 s0_1 s0_2 9).bind fun bt469 => (spec_l6Ints.l0 k (([] : List Int)) bt469.1 s0_0 bt469.2.1 bt469.2.2)) = some (r1, r2, r3) := h
  clear h
  obtain ⟨y466, hy466⟩ : ∃ y_ : List Int, y_ = (([] : List Int)) := ⟨_, rfl⟩
  replace H : ((spec_l1Below.f s0_0 s0_1 s0_2 9).bind fun bt469 => (spec_l6Ints.l0 k y466 bt469.1 s0_0 bt469.2.1 bt469.2.2)) = some (r1, r2, r3) := by first | (rw [hy466]; with_reducible exact H) | (have H2_ := (Option.bind_some _ _).symm.trans H; rw [hy466]; with_reducible exact H2_) | (have H2_ := (Option.bind_some _ _).symm.trans H; with_reducible exact H2_) | with_reducible exact H | (rw [hy466]; exact H) | exact H
  have Ny466 := Aside0.mk hy466
  clear hy466
  replace H := bE H; obtain ⟨⟨t469, t470, t471⟩, A2, H⟩ := H; replace H : (spec_l6Ints.l0 k y466 t469 s0_0 t470 t471) = some (r1, r2, r3) := H
  have H' := Aside0.mk H
  clear H
  go_enter Try.func90, Try.ntmps90
  go_wp2_with (first | ((with_reducible refine gate_dst (N := 5) rfl ?_); refine Kd.R_lit (Kd.int .i64) _ 3 ?hg (N := 5) ?hd (xs := ([] : List Int)) (inner := []) (ok := fun _ => True) (okp := fun _ => True) ?hr ?hp (fun _ hk => hk) trivial (Below.refl _ _) (Nat.le_refl _) (by simp) ?_; (case hd => rfl); (case hg => rfl); (case hr => first | (go_simp; done) | (go_simp; rfl)); (case hp => exact (Reps.none _ _)); intro v467 w3 ho4 hb hg_ hnew_; clear hg_ hnew_; (first | rw [← Ny466.out] at ho4 | (simp only [Int.reduceToNat] at ho4; rw [← Ny466.out] at ho4)); have n0_ := Aside0.mk (Kd.R_lower ho4 (keep_size (w := w) (g := g) (row := none) z22)); have n1_ := Aside0.mk (IsS94.below z20 hb); have n2_ := Aside0.mk (KeepBut.trans z22 (KeepBut.of_below hb g none) (.inl rfl)); have n3_ := Aside0.mk (below_step z21 hb); clear HI0; clear HK; clear HB; have HO468 := n0_; have HI0 := n1_; have HK := n2_; have HB := n3_; clear n0_ n1_ n2_ n3_; clear hb ho4) | ((with_reducible refine gate_callee (f := 70) rfl ?_); refine gL 7 Try.func70 #[.pointer (some ⟨g, 0, none⟩), .int .i64 9] ?_; (with_reducible refine (spec_l1Below.calls g s0_0 s0_1 s0_2 9 t469 t470 t471 w0 _ ?side1 ?side2 A2.out).mono ?_); (case side1 => exact z20); (case side2 => exact z21); rintro e w5 ⟨rfl, hi, hb, hk⟩; refine ⟨_, rfl, ?_⟩; have n0_ := Aside0.mk (Kd.R_mono (Kd.R_keep (IsS94.apart (show IsS94 w0 _ g s0_0 s0_1 s0_2 from z20) (qR HO468.out) (by decide)) hk (fun _ h => h.2)) (fun _ h => h.1)); have n1_ := Aside0.mk (KeepBut.trans z22 hk (.inl rfl)); have n2_ := Aside0.mk (hb); have n3_ := Aside0.mk (hi); clear HO468; clear HK; clear HB; clear HI0; have HO468 := n0_; have HK := n1_; have HB := n2_; have HI0 := n3_; clear n0_ n1_ n2_ n3_; (try clear hb); (try clear hb2); (try clear hk); (try clear hi)))
  go_loopg [3, 4] k (fun kq v3 v4 w' => ∃ (x3_1 : List Int) (x4_1 : Int) (x1001_1 : Int) (x1002_1 : Int), v4 = .int .i64 x4_1 ∧ Aside0 (spec_l6Ints.l0 kq x3_1 x4_1 s0_0 x1001_1 x1002_1 = some (r1, r2, r3)) ∧ Aside0 (kq ≤ k) ∧ Aside0 (Kd.R (Kd.int .i64) 3 w' w.heap.size (fun _ => True) v3 x3_1) ∧ Aside0 (IsS94 w0 w' g s0_0 x1001_1 x1002_1) ∧ Aside0 (KeepBut w w' g none) ∧ Aside0 (Below w0.heap.size w0 w'))
  case atStart => exact ⟨(y466), (t469), (t470), (t471), (by first | rfl | (simp; done) | (simp [*]; done)), H', ⟨Nat.le_refl _⟩, ⟨qR HO468.out⟩, ⟨z20⟩, ⟨z22⟩, ⟨z21⟩⟩
  case round =>
    clear H'
    try clear p2
    obtain ⟨x3_1, x4_1, x1001_1, x1002_1, rfl, HA, HK1, HO_3, HI0, HK, HB⟩ := hrel
    cases gk with
    | zero => exact absurd HA.out (by simp [spec_l6Ints.l0])
    | succ k1 =>
      have H := HA.out
      clear HA
      simp only [spec_l6Ints.l0] at H
      by_cases c6 : x4_1 > 0
      · rw [if_pos c6] at H
        have c6b0 : decide (0 < x4_1) = true := decide_eq_true c6
        clear c6
        replace H := bE H; obtain ⟨⟨t472, t473, t474⟩, A7, H⟩ := H; replace H : (if x3_1.length < 17592186044416 then (spec_l6Ints.l0 k1 (x3_1 ++ [t472]) (wrap64 (x4_1 - 1)) s0_0 t473 t474) else (none)) = some (r1, r2, r3) := H
        by_cases c8 : x3_1.length < 17592186044416
        · rw [if_pos c8] at H
          have LMc8 := Aside0.mk c8; clear c8; obtain ⟨y475, hy475⟩ : ∃ y_ : List Int, y_ = (x3_1 ++ [t472]) := ⟨_, rfl⟩; (replace H : (spec_l6Ints.l0 k1 y475 (wrap64 (x4_1 - 1)) s0_0 t473 t474) = some (r1, r2, r3) := by first | (rw [hy475]; with_reducible exact H) | (have H2_ := (Option.bind_some _ _).symm.trans H; rw [hy475]; with_reducible exact H2_) | (have H2_ := (Option.bind_some _ _).symm.trans H; with_reducible exact H2_) | with_reducible exact H | (rw [hy475]; exact H) | exact H); have Ny475 := Aside0.mk hy475; clear hy475; have H' := Aside0.mk H; clear H; (go_wp2_with (first | ((with_reducible refine gate_callee (f := 70) rfl ?_); refine gL 14 Try.func70 #[.pointer (some ⟨g, 0, none⟩), .int .i64 6] ?_; (with_reducible refine (spec_l1Below.calls g s0_0 x1001_1 x1002_1 6 t472 t473 t474 w0 _ ?side1 ?side2 A7.out).mono ?_); (case side1 => exact z20); (case side2 => exact z21); rintro e w9 ⟨rfl, hi, hb, hk⟩; refine ⟨_, rfl, ?_⟩; have n0_ := Aside0.mk (Kd.R_mono (Kd.R_keep (IsS94.apart (show IsS94 w0 _ g s0_0 x1001_1 x1002_1 from z20) (qR HO_3.out) (by decide)) hk (fun _ h => h.2)) (fun _ h => h.1)); have n1_ := Aside0.mk (KeepBut.trans z22 hk (.inl rfl)); have n2_ := Aside0.mk (hb); have n3_ := Aside0.mk (hi); clear HO_3; clear HK; clear HB; clear HI0; have HO_3 := n0_; have HK := n1_; have HB := n2_; have HI0 := n3_; clear n0_ n1_ n2_ n3_; (try clear hb); (try clear hb2); (try clear hk); (try clear hi)) | ((with_reducible refine gate_builtin (b := .append) (xs := #[.tmp 12, .tmp 15]) rfl ?_); at_builtin; refine Kd.R_append (Kd.int .i64) w.heap.size rfl (.tmp 12) (.tmp 15) 38 3 (.int .i64 0) 8 rfl Try.underlying38 info3 rfl (by decide) (by omega) u3 x3_1 t472 [.int .i64 t472] (fun _ => True) (fun _ => False) rfl rfl ?aP (fun _ hk => hk.elim) ?aF ?aO (Below.refl _ _) ?aS ?aL ?_; (case aP => exact rfl); (case aF => exact (fun _ _ => trivial)); (case aO => exact (qR HO_3.out)); (case aS => exact (keep_size (w := w) (g := g) (row := none) z22)); (case aL => have := LMc8.out; omega); intro v476 w10 ho hb hg hat; rw [← Ny475.out] at ho; have n0_ := Aside0.mk (IsS94.grown z20 hg (IsS94.own_ne HI0.out HO_3.out (by decide))); have n1_ := Aside0.mk (below_weaken z21 HL.out hb); have n2_ := Aside0.mk (KeepBut.trans z22 (KeepBut.of_grown hg g) (Kd.R_base2 HO_3.out)); have n3_ := Aside0.mk (ho); clear HI0; clear HB; clear HK; clear HO_3; have HI0 := n0_; have HB := n1_; have HK := n2_; have HO477 := n3_; clear n0_ n1_ n2_ n3_; clear ho hb hg hat))); go_roundg k1
          case measure => have := HK1.out; omega
          case rel => exact ⟨(y475), (wrap64 (x4_1 - 1)), (t473), (t474), (by first | rfl | (simp; done) | (simp [*]; done)), H', ⟨by have := HK1.out; omega⟩, ⟨qR HO477.out⟩, ⟨z20⟩, ⟨z22⟩, ⟨z21⟩⟩
        · rw [if_neg c8] at H
          exact absurd H (by simp)
      · rw [if_neg c6] at H
        have c6b0 : decide (0 < x4_1) = false := decide_eq_false c6
        clear c6
        simp only [Option.some.injEq, Prod.mk.injEq] at H
        obtain ⟨rfl, rfl, rfl⟩ := H
        go_wp2
        go_ret
        exact ⟨_, by first | rfl | (simp [errW_none, errW_some] <;> rfl) | (simp [*, errW_none, errW_some] <;> rfl), qR HO_3.out, z20, z21, z22⟩

end Go.Proofs.Ythgikmgdgibimaa.QFnCodes
