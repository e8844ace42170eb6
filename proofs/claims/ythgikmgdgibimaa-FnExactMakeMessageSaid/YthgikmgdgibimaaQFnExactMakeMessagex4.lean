/- Each Go function that the law reaches, told as a plain Lean function, and the proof that the machine's call answers just that. No condition beyond those that each theorem names. -/
import Derived.Test.YthgikmgdgibimaaQFnExactMakeMessagex0
import Derived.Test.YthgikmgdgibimaaQFnExactMakeMessagex1
import Derived.Test.YthgikmgdgibimaaQFnExactMakeMessagex2
import Derived.Test.YthgikmgdgibimaaQFnExactMakeMessagex3
namespace Go.Proofs.Ythgikmgdgibimaa.QFnExactMakeMessage
open Go.RowKit Go.Proofs.YthgikmgdgibimaaW.PrintWords Go.Proofs.YthgikmgdgibimaaW.PrintLast Go.Proofs.YthgikmgdgibimaaW.PrintMore
attribute [local go_sem] max2_int min2_int max_two min_two max_three min_three max_four min_four   -- for this text's walks alone
set_option linter.unusedVariables false
set_option linter.unusedSimpArgs false

/-! ### spec_MakeMessage: function 13 -/
mutual
abbrev m13x0 : Array Bool := #[true, true, true, true, true, true, true, true, true, true, true, true, true]
abbrev m13x1 : Array Bool := #[true, true, true, true, true, true, true, true, true, true, true, true, false]
abbrev m13x2 : Array Bool := #[true, true, true, true, true, true, true, true, true, true, true, false, false]
abbrev m13x3 : Array Bool := #[true, true, true, true, true, true, true, true, true, true, false, false, false]
abbrev m13x4 : Array Bool := #[true, true, true, true, true, true, true, true, true, false, false, false, false]
abbrev m13x5 : Array Bool := #[true, true, true, true, true, true, true, true, false, false, false, false, false]
abbrev m13x6 : Array Bool := #[true, false, true, true, true, true, true, true, false, false, false, false, false]
abbrev m13x7 : Array Bool := #[true, false, true, true, true, true, true, false, false, false, false, false, false]
abbrev m13x8 : Array Bool := #[true, false, true, true, true, true, false, false, false, false, false, false, false]
abbrev m13x9 : Array Bool := #[true, false, true, true, true, false, false, false, false, false, false, false, false]
abbrev m13x10 : Array Bool := #[true, false, true, true, false, false, false, false, false, false, false, false, false]
abbrev m13x11 : Array Bool := #[true, false, true, false, false, false, false, false, false, false, false, false, false]
abbrev m13x12 : Array Bool := #[true, false, false, false, false, false, false, false, false, false, false, false, false]
abbrev m13x13 : Array Bool := #[false, false, false, false, false, false, false, false, false, false, false, false, false]
def spec_MakeMessage.l0 : Nat → List (S67) → Int → List (S63) → Int → Option ((List (S63)))
  | 0, _, _, _, _ => none
  | k + 1, x0, x1, x5, x6 => if x6 < (x0.length : Int) then ((spec_IsFormat.f k x0).bind fun t213 => (spec_MakeMessage.j1 k x0 x1 x5 x6 t213)) else (spec_MakeMessage.j1 k x0 x1 x5 x6 false)
def spec_MakeMessage.j1 : Nat → List (S67) → Int → List (S63) → Int → Bool → Option ((List (S63)))
  | 0, _, _, _, _, _ => none
  | k + 1, x0, x1, x5, x6, x18 => if x18 = true then ((spec_IsThere.f x0 x5 x6).bind fun t215 => (if t215 = true then (if 0 ≤ x6 then (if x6 < (x0.length : Int) then ((spec_PickOf.f k x1 (wrap64 (16 * x6)) (wrap64 (((rd_T67 x0 x6).f1) + 1))).bind fun t217 => (if ((rd_T67 x0 x6).f0) = 1 then (spec_MakeMessage.j2 k x0 x1 x5 x6 t217 t217) else (spec_MakeMessage.j2 k x0 x1 x5 x6 t217 0))) else (none)) else (none)) else (if x5.length < 4398046511104 then (spec_MakeMessage.l0 k x0 x1 (x5 ++ [(⟨0, ([] : List Int)⟩ : S63)]) (wrap64 (x6 + 1))) else (none)))) else (some x5)
def spec_MakeMessage.j2 : Nat → List (S67) → Int → List (S63) → Int → Int → Int → Option ((List (S63)))
  | 0, _, _, _, _, _, _ => none
  | k + 1, x0, x1, x5, x6, x8, x215000 => spec_MakeMessage.l1 k x0 x1 x5 x6 x8 0 x215000 ([] : List Int)
def spec_MakeMessage.l1 : Nat → List (S67) → Int → List (S63) → Int → Int → Int → Int → List Int → Option ((List (S63)))
  | 0, _, _, _, _, _, _, _, _ => none
  | k + 1, x0, x1, x5, x6, x8, x9, x215000, x215001 => if x9 < x8 then (if 0 ≤ x6 then (if x6 < (x0.length : Int) then (if ((rd_T67 x0 x6).f0) = 1 then (if x5.length < 4398046511104 then (spec_MakeMessage.l0 k x0 x1 (x5 ++ [(⟨x215000, x215001⟩ : S63)]) (wrap64 (x6 + 1))) else (none)) else ((spec_PickOf.f k x1 (wrap64 ((wrap64 ((wrap64 (16 * x6)) + x9)) + 1)) 100).bind fun t223 => (if x215001.length < 17592186044416 then (spec_MakeMessage.l1 k x0 x1 x5 x6 x8 (wrap64 (x9 + 1)) x215000 (x215001 ++ [t223])) else (none)))) else (none)) else (none)) else (if x5.length < 4398046511104 then (spec_MakeMessage.l0 k x0 x1 (x5 ++ [(⟨x215000, x215001⟩ : S63)]) (wrap64 (x6 + 1))) else (none))
end
def spec_MakeMessage.f (k : Nat) (l0 : List (S67)) (a1 : Int) : Option ((List (S63))) := spec_MakeMessage.l0 k l0 a1 (([] : List (S63))) 0
theorem spec_MakeMessage.mono_l : ∀ k, (∀ y0 y1 y2 y3, LeO (spec_MakeMessage.l0 k y0 y1 y2 y3) (spec_MakeMessage.l0 (k + 1) y0 y1 y2 y3)) ∧ (∀ y0 y1 y2 y3 y4, LeO (spec_MakeMessage.j1 k y0 y1 y2 y3 y4) (spec_MakeMessage.j1 (k + 1) y0 y1 y2 y3 y4)) ∧ (∀ y0 y1 y2 y3 y4 y5, LeO (spec_MakeMessage.j2 k y0 y1 y2 y3 y4 y5) (spec_MakeMessage.j2 (k + 1) y0 y1 y2 y3 y4 y5)) ∧ (∀ y0 y1 y2 y3 y4 y5 y6 y7, LeO (spec_MakeMessage.l1 k y0 y1 y2 y3 y4 y5 y6 y7) (spec_MakeMessage.l1 (k + 1) y0 y1 y2 y3 y4 y5 y6 y7))
  | 0 => ⟨fun _ _ _ _ r h => by simp [spec_MakeMessage.l0] at h, fun _ _ _ _ _ r h => by simp [spec_MakeMessage.j1] at h, fun _ _ _ _ _ _ r h => by simp [spec_MakeMessage.j2] at h, fun _ _ _ _ _ _ _ _ r h => by simp [spec_MakeMessage.l1] at h⟩
  | k + 1 => by
    obtain ⟨ih0, ih1, ih2, ih3⟩ := spec_MakeMessage.mono_l k
    refine ⟨?_, ?_, ?_, ?_⟩
    · intro y0 y1 y2 y3
      unfold spec_MakeMessage.l0
      repeat' first
      | (with_reducible exact ih0 _ _ _ _)
      | (with_reducible exact ih1 _ _ _ _ _)
      | (with_reducible exact ih2 _ _ _ _ _ _)
      | (with_reducible exact ih3 _ _ _ _ _ _ _ _)
      | (with_reducible exact spec_IsFormat.mono _ _)
      | (with_reducible exact spec_PickOf.mono _ _ _ _)
      | (with_reducible exact LeO.refl _)
      | (with_reducible exact LeO.none _)
      | (with_reducible refine LeO.ite ?_ ?_)
      | (with_reducible refine LeO.bind ?_ (fun _ => ?_))
      | exact ih0 _ _ _ _
      | exact ih1 _ _ _ _ _
      | exact ih2 _ _ _ _ _ _
      | exact ih3 _ _ _ _ _ _ _ _
      | exact spec_IsFormat.mono _ _
      | exact spec_PickOf.mono _ _ _ _
      | exact LeO.none _
      | refine LeO.ite ?_ ?_
      | refine LeO.bind ?_ (fun _ => ?_)
    · intro y0 y1 y2 y3 y4
      unfold spec_MakeMessage.j1
      repeat' first
      | (with_reducible exact ih0 _ _ _ _)
      | (with_reducible exact ih1 _ _ _ _ _)
      | (with_reducible exact ih2 _ _ _ _ _ _)
      | (with_reducible exact ih3 _ _ _ _ _ _ _ _)
      | (with_reducible exact spec_IsFormat.mono _ _)
      | (with_reducible exact spec_PickOf.mono _ _ _ _)
      | (with_reducible exact LeO.refl _)
      | (with_reducible exact LeO.none _)
      | (with_reducible refine LeO.ite ?_ ?_)
      | (with_reducible refine LeO.bind ?_ (fun _ => ?_))
      | exact ih0 _ _ _ _
      | exact ih1 _ _ _ _ _
      | exact ih2 _ _ _ _ _ _
      | exact ih3 _ _ _ _ _ _ _ _
      | exact spec_IsFormat.mono _ _
      | exact spec_PickOf.mono _ _ _ _
      | exact LeO.none _
      | refine LeO.ite ?_ ?_
      | refine LeO.bind ?_ (fun _ => ?_)
    · intro y0 y1 y2 y3 y4 y5
      unfold spec_MakeMessage.j2
      repeat' first
      | (with_reducible exact ih0 _ _ _ _)
      | (with_reducible exact ih1 _ _ _ _ _)
      | (with_reducible exact ih2 _ _ _ _ _ _)
      | (with_reducible exact ih3 _ _ _ _ _ _ _ _)
      | (with_reducible exact spec_IsFormat.mono _ _)
      | (with_reducible exact spec_PickOf.mono _ _ _ _)
      | (with_reducible exact LeO.refl _)
      | (with_reducible exact LeO.none _)
      | (with_reducible refine LeO.ite ?_ ?_)
      | (with_reducible refine LeO.bind ?_ (fun _ => ?_))
      | exact ih0 _ _ _ _
      | exact ih1 _ _ _ _ _
      | exact ih2 _ _ _ _ _ _
      | exact ih3 _ _ _ _ _ _ _ _
      | exact spec_IsFormat.mono _ _
      | exact spec_PickOf.mono _ _ _ _
      | exact LeO.none _
      | refine LeO.ite ?_ ?_
      | refine LeO.bind ?_ (fun _ => ?_)
    · intro y0 y1 y2 y3 y4 y5 y6 y7
      unfold spec_MakeMessage.l1
      repeat' first
      | (with_reducible exact ih0 _ _ _ _)
      | (with_reducible exact ih1 _ _ _ _ _)
      | (with_reducible exact ih2 _ _ _ _ _ _)
      | (with_reducible exact ih3 _ _ _ _ _ _ _ _)
      | (with_reducible exact spec_IsFormat.mono _ _)
      | (with_reducible exact spec_PickOf.mono _ _ _ _)
      | (with_reducible exact LeO.refl _)
      | (with_reducible exact LeO.none _)
      | (with_reducible refine LeO.ite ?_ ?_)
      | (with_reducible refine LeO.bind ?_ (fun _ => ?_))
      | exact ih0 _ _ _ _
      | exact ih1 _ _ _ _ _
      | exact ih2 _ _ _ _ _ _
      | exact ih3 _ _ _ _ _ _ _ _
      | exact spec_IsFormat.mono _ _
      | exact spec_PickOf.mono _ _ _ _
      | exact LeO.none _
      | refine LeO.ite ?_ ?_
      | refine LeO.bind ?_ (fun _ => ?_)
theorem spec_MakeMessage.mono : ∀ a0 a1 k, LeO (spec_MakeMessage.f k a0 a1) (spec_MakeMessage.f (k + 1) a0 a1) := by
  intro a0 a1 k
  obtain ⟨ih0, ih1, ih2, ih3⟩ := spec_MakeMessage.mono_l k
  unfold spec_MakeMessage.f
  repeat' first
      | (with_reducible exact ih0 _ _ _ _)
      | (with_reducible exact ih1 _ _ _ _ _)
      | (with_reducible exact ih2 _ _ _ _ _ _)
      | (with_reducible exact ih3 _ _ _ _ _ _ _ _)
      | (with_reducible exact spec_IsFormat.mono _ _)
      | (with_reducible exact spec_PickOf.mono _ _ _ _)
      | (with_reducible exact LeO.refl _)
      | (with_reducible exact LeO.none _)
      | (with_reducible refine LeO.ite ?_ ?_)
      | (with_reducible refine LeO.bind ?_ (fun _ => ?_))
      | exact ih0 _ _ _ _
      | exact ih1 _ _ _ _ _
      | exact ih2 _ _ _ _ _ _
      | exact ih3 _ _ _ _ _ _ _ _
      | exact spec_IsFormat.mono _ _
      | exact spec_PickOf.mono _ _ _ _
      | exact LeO.none _
      | refine LeO.ite ?_ ?_
      | refine LeO.bind ?_ (fun _ => ?_)
def spec_MakeMessage.T13 : Bool × List (List Nat × List Nat) := (true, [([], []), ([0], [0]), ([], []), ([], []), ([3], [3]), ([], []), ([4, 5], [4, 5]), ([6], [6]), ([2, 7], [2, 7]), ([8], [8]), ([1, 9, 8], [1, 9]), ([0, 1, 2, 3, 4, 5, 6, 7, 8, 9, 10], []), ([11, 10, 10, 0, 1, 2, 3, 4, 5, 6, 7, 8, 9, 10], [10, 11])])
def spec_MakeMessage.B13 : List Nat := [0, 1, 0, 0, 8, 0, 56, 120, 252, 508, 1023, 2047, 4095]
theorem spec_MakeMessage.tab13 : rtab .any (opsOf Try.f13 13) = spec_MakeMessage.T13 := by kernel_rfl
theorem spec_MakeMessage.bits13 : waitsOk spec_MakeMessage.T13.2 spec_MakeMessage.B13 = true := by kernel_rfl
set_option maxHeartbeats 8000000 in
set_option maxRecDepth 100000 in
theorem spec_MakeMessage.calls (k : Nat) (A0 : Option Addr) (c0 : Nat) (l0 : List (S67)) (a1 : Int) (r : List (S63)) (w : World) (hr0 : Kd.C k67 w A0 l0.length l0) (hc0 : l0.length ≤ c0) (h : spec_MakeMessage.f k l0 a1 = some r) :
    Calls Try.prog 13 #[.slice A0 l0.length c0, .int .i64 a1] w fun e w' => ∃ v0_ : Value, e = .returned (v0_) ∧ Kd.S k63 63 w' w.heap.size (fun _ => True) v0_ r ∧ Below w.heap.size w w' := by
  have hu63 := Try.underlying63
  have HR0 := Aside0.mk hr0
  have HC0 := Aside0.mk hc0
  clear hr0 hc0
  have HB := Aside0.mk (Below.refl w.heap.size w)
  have H : (spec_MakeMessage.l0 k l0 a1 (([] : List (S63))) 0) = some r := h
  clear h
  obtain ⟨y210, hy210⟩ : ∃ y_ : List (S63), y_ = (([] : List (S63))) := ⟨_, rfl⟩
  replace H : (spec_MakeMessage.l0 k l0 a1 y210 0) = some r := by first | (rw [hy210]; with_reducible exact H) | (have H2_ := (Option.bind_some _ _).symm.trans H; rw [hy210]; with_reducible exact H2_) | (have H2_ := (Option.bind_some _ _).symm.trans H; with_reducible exact H2_) | with_reducible exact H | (rw [hy210]; exact H) | exact H
  have Ny210 := Aside0.mk hy210
  clear hy210
  have H' := Aside0.mk H
  clear H
  go_enter Try.func13, Try.ntmps13
  go_wp2_with (first | ((with_reducible refine gate_dst (N := 10) rfl ?_); refine Kd.S_lit k63 _ 63 ?hg (N := 10) ?hd (xs := ([] : List (S63))) (inner := []) (ok := fun _ => True) (okp := fun _ => True) ?hr ?hp (fun _ hk => hk) trivial (Below.refl _ _) (Nat.le_refl _) (by simp) ?_; (case hd => rfl); (case hg => rfl); (case hr => first | (go_simp; done) | (go_simp; rfl)); (case hp => exact (Reps.none _ _)); intro v211 w3 ho4 hb hg_ hnew_; clear hg_ hnew_; (first | rw [← Ny210.out] at ho4 | (simp only [Int.reduceToNat] at ho4; rw [← Ny210.out] at ho4)); have n0_ := Aside0.mk (Kd.S_lower ho4 (below_size (by repeat (first | (with_reducible first | exact HB.out | apply below_alloc | apply pw_below_drewN | apply below_drew1) | exact HB.out)))); have n1_ := bS hb; clear HB; have HO212 := n0_; have HB := n1_; clear n0_ n1_; clear hb ho4))
  go_loopg [5, 6] k (fun kq v5 v6 w' => ∃ (x5_1 : List (S63)) (x6_1 : Int), v6 = .int .i64 x6_1 ∧ Aside0 (spec_MakeMessage.l0 kq l0 a1 x5_1 x6_1 = some r) ∧ Aside0 (kq ≤ k) ∧ Aside0 (Kd.S k63 63 w' w.heap.size (fun _ => True) v5 x5_1) ∧ Aside0 (Below w.heap.size w w'))
  case atStart => exact ⟨(y210), (0), (by first | rfl | (simp; done) | (simp [*]; done)), H', ⟨Nat.le_refl _⟩, ⟨by (with_reducible repeat (first | apply Kd.S_alloc | apply Kd.S_drewN | apply Kd.S_drew)); exact HO212.out⟩, ⟨by repeat (first | (with_reducible first | exact HB.out | apply below_alloc | apply pw_below_drewN | apply below_drew1) | exact HB.out)⟩⟩
  case round =>
    clear H'
    try clear c1
    try clear p2
    obtain ⟨x5_1, x6_1, rfl, HA, HK1, HO_5, HB⟩ := hrel
    cases gk with
    | zero => exact absurd HA.out (by simp [spec_MakeMessage.l0])
    | succ k1 =>
      have H := HA.out
      clear HA
      simp only [spec_MakeMessage.l0] at H
      have HC5 := Aside0.mk H
      clear H
      go_upto_region 3 with (fail)
      go_cut [18] (fun v18 wc => ∃ (kq : Nat) (x18_4 : Bool), v18 = .bool x18_4 ∧ Aside0 (spec_MakeMessage.j1 kq l0 a1 x5_1 x6_1 x18_4 = some r) ∧ Aside0 (kq ≤ k1) ∧ Aside0 (Kd.S k63 63 wc w.heap.size (fun _ => True) u5 x5_1) ∧ Aside0 (Below w.heap.size w wc))
      case first =>
        have H := HC5.out
        clear HC5
        by_cases c6 : x6_1 < (l0.length : Int)
        · rw [if_pos c6] at H
          have c6b0 : decide (x6_1 < (l0.length : Int)) = true := decide_eq_true c6; clear c6; ((first | rw [c6b0] | (simp only [i64_w, i32_w]; rw [c6b0]) | skip)); replace H := Option.bind_eq_some_iff.mp H; obtain ⟨t213, A70, H⟩ := H; replace H : (spec_MakeMessage.j1 k1 l0 a1 x5_1 x6_1 t213) = some r := H; have A7 := Aside0.mk A70; clear A70; have H' := Aside0.mk H; clear H; (go_wp2_with (first | (go_at_call 39; (with_reducible refine (spec_IsFormat.calls k1 _ _ l0 t213 _ ?side1 ?side2 A7.out).mono ?_); (case side1 => exact kC HR0.out); (case side2 => exact HC0.out); rintro e w8 ⟨rfl, hb⟩; have n0_ := sB HO_5.out hb; have n1_ := bS hb; clear HO_5; clear HB; have HO_5 := n0_; have HB := n1_; clear n0_ n1_; (try clear hb); (try clear hb2); (try clear hk); (try clear hi)))); go_meet
          case rel => exact ⟨_, (t213), (by first | rfl | (simp; done) | (simp [*]; done)), H', ⟨by have := HK1.out; first | omega | exact Nat.le_refl _⟩, ⟨by (with_reducible repeat (first | apply Kd.S_alloc | apply Kd.S_drewN | apply Kd.S_drew)); exact HO_5.out⟩, ⟨by repeat (first | (with_reducible first | exact HB.out | apply below_alloc | apply pw_below_drewN | apply below_drew1) | exact HB.out)⟩⟩
        · rw [if_neg c6] at H
          have c6b0 : decide (x6_1 < (l0.length : Int)) = false := decide_eq_false c6; clear c6; ((first | rw [c6b0] | (simp only [i64_w, i32_w]; rw [c6b0]) | skip)); have H' := Aside0.mk H; clear H; go_wp2; go_meet
          case rel => exact ⟨_, (false), (by first | rfl | (simp; done) | (simp [*]; done)), H', ⟨by have := HK1.out; first | omega | exact Nat.le_refl _⟩, ⟨by (with_reducible repeat (first | apply Kd.S_alloc | apply Kd.S_drewN | apply Kd.S_drew)); exact HO_5.out⟩, ⟨by repeat (first | (with_reducible first | exact HB.out | apply below_alloc | apply pw_below_drewN | apply below_drew1) | exact HB.out)⟩⟩
      case rest =>
        clear HC5
        try clear c1
        try clear p2
        try clear c6
        try clear c6b0
        try clear p2
        obtain ⟨kq, x18_4, rfl, HA, HJ4, HO_5, HB⟩ := hcut
        cases kq with
        | zero => exact absurd HA.out (by simp [spec_MakeMessage.j1])
        | succ kj4 =>
          have H := HA.out; clear HA; simp only [spec_MakeMessage.j1] at H; by_cases c9 : x18_4 = true
          · subst c9
            (have H1 : ((spec_IsThere.f l0 x5_1 x6_1).bind fun t215 => (if t215 = true then (if 0 ≤ x6_1 then (if x6_1 < (l0.length : Int) then ((spec_PickOf.f kj4 a1 (wrap64 (16 * x6_1)) (wrap64 (((rd_T67 l0 x6_1).f1) + 1))).bind fun t217 => (if ((rd_T67 l0 x6_1).f0) = 1 then (spec_MakeMessage.j2 kj4 l0 a1 x5_1 x6_1 t217 t217) else (spec_MakeMessage.j2 kj4 l0 a1 x5_1 x6_1 t217 0))) else (none)) else (none)) else (if x5_1.length < 4398046511104 then (spec_MakeMessage.l0 kj4 l0 a1 (x5_1 ++ [(⟨0, ([] : List Int)⟩ : S63)]) (wrap64 (x6_1 + 1))) else (none)))) = some r := by rw [if_pos rfl] at H; exact H); clear H; have H := H1; clear H1; replace H := Option.bind_eq_some_iff.mp H; obtain ⟨t215, A100, H⟩ := H; replace H : (if t215 = true then (if 0 ≤ x6_1 then (if x6_1 < (l0.length : Int) then ((spec_PickOf.f kj4 a1 (wrap64 (16 * x6_1)) (wrap64 (((rd_T67 l0 x6_1).f1) + 1))).bind fun t217 => (if ((rd_T67 l0 x6_1).f0) = 1 then (spec_MakeMessage.j2 kj4 l0 a1 x5_1 x6_1 t217 t217) else (spec_MakeMessage.j2 kj4 l0 a1 x5_1 x6_1 t217 0))) else (none)) else (none)) else (if x5_1.length < 4398046511104 then (spec_MakeMessage.l0 kj4 l0 a1 (x5_1 ++ [(⟨0, ([] : List Int)⟩ : S63)]) (wrap64 (x6_1 + 1))) else (none))) = some r := H; have A10 := Aside0.mk A100; clear A100; by_cases c11 : t215 = true
            · subst c11
              (have H1 : (if 0 ≤ x6_1 then (if x6_1 < (l0.length : Int) then ((spec_PickOf.f kj4 a1 (wrap64 (16 * x6_1)) (wrap64 (((rd_T67 l0 x6_1).f1) + 1))).bind fun t217 => (if ((rd_T67 l0 x6_1).f0) = 1 then (spec_MakeMessage.j2 kj4 l0 a1 x5_1 x6_1 t217 t217) else (spec_MakeMessage.j2 kj4 l0 a1 x5_1 x6_1 t217 0))) else (none)) else (none)) = some r := by rw [if_pos rfl] at H; exact H); clear H; have H := H1; clear H1; by_cases c12 : 0 ≤ x6_1
              · rw [if_pos c12] at H
                have c12b0 : decide (0 ≤ x6_1) = true := decide_eq_true c12; clear c12; by_cases c13 : x6_1 < (l0.length : Int)
                · rw [if_pos c13] at H
                  have c13b0 : decide (x6_1 < (l0.length : Int)) = true := decide_eq_true c13; clear c13; replace H := Option.bind_eq_some_iff.mp H; obtain ⟨t217, A140, H⟩ := H; replace H : (if ((rd_T67 l0 x6_1).f0) = 1 then (spec_MakeMessage.j2 kj4 l0 a1 x5_1 x6_1 t217 t217) else (spec_MakeMessage.j2 kj4 l0 a1 x5_1 x6_1 t217 0)) = some r := H; have A14 := Aside0.mk A140; clear A140; have HC15 := Aside0.mk H; clear H; (go_upto_if 41 with (first | ((with_reducible refine gate_dst (N := 7) rfl ?_); refine box_event ?hg (N := 7) ?hd (cs := #[.int .i64 0, .slice none 0 0]) (t := 63) ?hr ?_; (case hd => rfl); (case hg => rfl); (case hr => first | (go_simp; done) | (go_simp; rfl)); intro gb214 hg w16 hbox hb; have n0_ := Aside0.mk (Kd.S_below (Kd.S_elderB (by (with_reducible repeat (first | apply Kd.S_alloc | apply Kd.S_drewN | apply Kd.S_drew)); exact HO_5.out) gb214 (Nat.le_of_eq hg.symm)) hb); have n1_ := bS hb; have n2_ := Aside0.mk (hbox); have n3_ : Aside0 (w.heap.size ≤ gb214) := bZ hg; have n4_ : Aside0 (w.heap.size ≤ gb214) := bZ hg; clear HO_5; clear HB; have HO_5 := n0_; have HB := n1_; have BK214 := n2_; have GW214 := n3_; have GE214 := n4_; clear n0_ n1_ n2_ n3_ n4_; clear hb hbox hg; obtain ⟨hcz17_0, hcz17_1, hfz17_0, hfz17_1⟩ := zc2 BK214.out; obtain ⟨Ao18, co18, eo18⟩ := Kd.S_slice HO_5.out; subst eo18) | ((with_reducible refine gate_callee (f := 52) rfl ?_); refine gL 25 Try.func52 #[.slice A0 l0.length c0, .slice Ao18 x5_1.length co18, .int .i64 x6_1] ?_; (with_reducible refine (spec_IsThere.calls _ _ l0 _ _ x5_1 x6_1 true _ ?side1 ?side2 ?side3 ?side4 A10.out).mono ?_); (case side1 => exact kC HR0.out); (case side2 => exact HC0.out); (case side3 => refine (Kd.S_reads' (e := 63) (base := w.heap.size) (ok := fun k_ => (True ∧ k_ ≠ gb214)) (n := x5_1.length) (c := co18) ?_).2.2; exact (by (with_reducible repeat (first | apply Kd.S_alloc | apply Kd.S_drewN | apply Kd.S_drew)); exact (Kd.S_mono (Kd.S_far (p := ⟨gb214, 1, none⟩) (Kd.S_far (p := ⟨gb214, 0, none⟩) (Kd.S_mono HO_5.out (fun k_ hk => (⟨hk, hk.2⟩ : _ ∧ k_ ≠ gb214))) (fun _ hk => hk.2) (.int .i64 0)) (fun _ hk => hk.2) (.slice none 0 0)) (fun _ h_ => h_.1)))); (case side4 => exact (Kd.S_reads' HO_5.out).2.1); rintro e w19 ⟨rfl, hb⟩; refine ⟨_, rfl, ?_⟩; have n0_ := Aside0.mk (Kd.S_below (by (with_reducible repeat (first | apply Kd.S_alloc | apply Kd.S_drewN | apply Kd.S_drew)); exact (Kd.S_mono (Kd.S_far (p := ⟨gb214, 1, none⟩) (Kd.S_far (p := ⟨gb214, 0, none⟩) (Kd.S_mono HO_5.out (fun k_ hk => (⟨hk, hk.2⟩ : _ ∧ k_ ≠ gb214))) (fun _ hk => hk.2) (.int .i64 0)) (fun _ hk => hk.2) (.slice none 0 0)) (fun _ h_ => h_.1))) hb); have n1_ := Aside0.mk (blk_below (g := gb214) (o := .cells #[.int .i64 0, .slice none 0 0] 63 (0, 0)) (by (with_reducible repeat (first | refine blk_drewN ?_ _ | refine blk_drew ?_ | refine blk_alloc ?_ _)); refine blk_put (cs := #[.int .i64 0, .slice none 0 0]) ?_ 1 _ rfl; (with_reducible repeat (first | refine blk_drewN ?_ _ | refine blk_drew ?_ | refine blk_alloc ?_ _)); refine blk_put (cs := #[.int .i64 0, .slice none 0 0]) ?_ 0 _ rfl; (with_reducible repeat (first | refine blk_drewN ?_ _ | refine blk_drew ?_ | refine blk_alloc ?_ _)); exact BK214.out) hb); have n2_ := bS hb; clear HO_5; clear BK214; clear HB; have HO_5 := n0_; have BK214 := n1_; have HB := n2_; clear n0_ n1_ n2_; (try clear hb); (try clear hb2); (try clear hk); (try clear hi); have p216 : 0 ≤ (x6_1 : Int) := of_decide_eq_true (by assumption); have q216 : x6_1 < (l0.length : Int) := of_decide_eq_true (by assumption); obtain ⟨ad216, e216, hx216_0, hx216_1, hx216_2, hx216_3⟩ := at_T67 HR0.out x6_1 p216 q216; cases e216; replace hx216_0 := hC HB.out hx216_0; replace hx216_1 := hC HB.out hx216_1; replace hx216_2 := hC HB.out hx216_2; replace hx216_3 := hC HB.out hx216_3; replace p216 := eq_true p216; replace q216 := eq_true q216) | ((with_reducible refine gate_callee (f := 53) rfl ?_); refine gL 35 Try.func53 #[.int .i64 a1, .int .i64 (wrap64 (16 * x6_1)), .int .i64 (wrap64 (((rd_T67 l0 x6_1).f1) + 1))] ?_; (with_reducible refine (spec_PickOf.calls kj4 a1 (wrap64 (16 * x6_1)) (wrap64 (((rd_T67 l0 x6_1).f1) + 1)) t217 _ A14.out).mono ?_); rintro e w20 ⟨rfl, hb⟩; refine ⟨_, rfl, ?_⟩; have n0_ := sB HO_5.out hb; have n1_ := Aside0.mk (blk_below (g := gb214) (o := .cells #[.int .i64 0, .slice none 0 0] 63 (0, 0)) (by (with_reducible repeat (first | refine blk_drewN ?_ _ | refine blk_drew ?_ | refine blk_alloc ?_ _)); exact BK214.out) hb); have n2_ := bS hb; clear HO_5; clear BK214; clear HB; have HO_5 := n0_; have BK214 := n1_; have HB := n2_; clear n0_ n1_ n2_; (try clear hb); (try clear hb2); (try clear hk); (try clear hi); have p218 : 0 ≤ (x6_1 : Int) := of_decide_eq_true (by assumption); have q218 : x6_1 < (l0.length : Int) := of_decide_eq_true (by assumption); obtain ⟨ad218, e218, hx218_0, hx218_1, hx218_2, hx218_3⟩ := at_T67 HR0.out x6_1 p218 q218; obtain rfl : ad216 = ad218 := (by injection e218); replace hx218_0 := hC HB.out hx218_0; replace hx218_1 := hC HB.out hx218_1; replace hx218_2 := hC HB.out hx218_2; replace hx218_3 := hC HB.out hx218_3; replace p218 := eq_true p218; replace q218 := eq_true q218))); ((try simp only [Act.put, sT, sZ, sS])); go_cut [] (fun wc => ∃ (kq : Nat) (x215000_14 : Int), Aside0 (spec_MakeMessage.j2 kq l0 a1 x5_1 x6_1 t217 x215000_14 = some r) ∧ Aside0 (kq ≤ kj4) ∧ Aside0 (Kd.S k63 63 wc w.heap.size (fun k_ => k_ ≠ gb214) (.slice Ao18 x5_1.length co18) x5_1) ∧ Aside0 (wc.heap[gb214]? = some (.cells #[.int .i64 x215000_14, (.slice none 0 0)] 63 (0, 0))) ∧ Aside0 (Below w.heap.size w wc))
                  case first =>
                    have H := HC15.out; clear HC15; by_cases c21 : ((rd_T67 l0 x6_1).f0) = 1
                    · rw [if_pos c21] at H
                      have c21b0 : (((rd_T67 l0 x6_1).f0) == 1) = true := beq_iff_eq.mpr c21; have c21b1 : (((rd_T67 l0 x6_1).f0) != 1) = false := bne_eq_false_iff_eq.mpr c21; clear c21; ((first | rw [c21b0] | (simp only [i64_w, i32_w]; rw [c21b0]) | skip)); have H' := Aside0.mk H; clear H; obtain ⟨hcz22_0, hcz22_1, hfz22_0, hfz22_1⟩ := zc2 BK214.out; go_wp2; go_meet
                      case rel => exact ⟨_, (t217), H', ⟨by have := HK1.out; have := HJ4.out; first | omega | exact Nat.le_refl _⟩, ⟨by (with_reducible repeat (first | apply Kd.S_alloc | apply Kd.S_drewN | apply Kd.S_drew)); exact Kd.S_mono (Kd.S_far (p := ⟨gb214, 0, none⟩) (Kd.S_mono HO_5.out (fun k_ hk => (⟨hk, hk.2⟩ : _ ∧ k_ ≠ gb214))) (fun _ hk => hk.2) (.int .i64 t217)) (fun _ hk => hk.1.2)⟩, ⟨by (with_reducible repeat (first | refine blk_drewN ?_ _ | refine blk_drew ?_ | refine blk_alloc ?_ _)); refine blk_put (cs := #[.int .i64 0, .slice none 0 0]) ?_ 0 _ rfl; (with_reducible repeat (first | refine blk_drewN ?_ _ | refine blk_drew ?_ | refine blk_alloc ?_ _)); exact BK214.out⟩, ⟨by repeat (first | (with_reducible first | exact HB.out | apply below_alloc | apply pw_below_drewN | apply below_drew1 | refine below_set ?_ GE214.out) | exact HB.out)⟩⟩
                    · rw [if_neg c21] at H
                      have c21b0 : (((rd_T67 l0 x6_1).f0) == 1) = false := beq_eq_false_iff_ne.mpr c21; have c21b1 : (((rd_T67 l0 x6_1).f0) != 1) = true := bne_iff_ne.mpr c21; ((first | rw [c21b0] | (simp only [i64_w, i32_w]; rw [c21b0]) | skip)); have H' := Aside0.mk H; clear H; go_wp2; go_meet
                      case rel => exact ⟨_, (0), H', ⟨by have := HK1.out; have := HJ4.out; first | omega | exact Nat.le_refl _⟩, ⟨by (with_reducible repeat (first | apply Kd.S_alloc | apply Kd.S_drewN | apply Kd.S_drew)); exact Kd.S_mono HO_5.out (fun _ hk => hk.2)⟩, ⟨by (with_reducible repeat (first | refine blk_drewN ?_ _ | refine blk_drew ?_ | refine blk_alloc ?_ _)); exact BK214.out⟩, ⟨by repeat (first | (with_reducible first | exact HB.out | apply below_alloc | apply pw_below_drewN | apply below_drew1 | refine below_set ?_ GE214.out) | exact HB.out)⟩⟩
                  case rest =>
                    clear HC15; (try clear c1); (try clear c2); (try clear p2); (try clear q2); (try clear hx2); (try clear c5); (try clear c6); (try clear c6b0); (try clear p6); (try clear c9); (try clear c11); (try clear c12); (try clear c12b0); (try clear c13); (try clear c13b0); (try clear c21); (try clear c21b0); (try clear c21b1); (try clear p21); (try clear q21); (try clear hx21); (try clear hcz17_0); (try clear hcz17_1); (try clear hcz22_0); (try clear hcz22_1); (try clear hfz17_0); (try clear hfz17_1); (try clear hfz22_0); (try clear hfz22_1); (try clear hx216_0); (try clear hx216_1); (try clear hx216_2); (try clear hx216_3); (try clear hx218_0); (try clear hx218_1); (try clear hx218_2); (try clear hx218_3); (try clear p2); (try clear p216); (try clear p218); (try clear q216); (try clear q218); obtain ⟨kq, x215000_14, HA, HJ14, HO_5, BK214, HB⟩ := hcut; cases kq with
                    | zero => exact absurd HA.out (by simp [spec_MakeMessage.j2])
                    | succ kj14 =>
                      have H := HA.out; clear HA; simp only [spec_MakeMessage.j2] at H; have H' := Aside0.mk H; clear H; go_wp2; go_loopg [9] kj14 (fun kq v9 w' => ∃ (x9_4 : Int) (x215001_4 : List Int) (u215001 : Value), v9 = .int .i64 x9_4 ∧ Aside0 (spec_MakeMessage.l1 kq l0 a1 x5_1 x6_1 t217 x9_4 x215000_14 x215001_4 = some r) ∧ Aside0 (kq ≤ kj14) ∧ Aside0 (Kd.S k63 63 w' w.heap.size (fun k_ => some k_ ≠ (u215001 : Value).ownBlock ∧ k_ ≠ gb214) (.slice Ao18 x5_1.length co18) x5_1) ∧ Aside0 (Kd.R (Kd.int .i64) 3 w' w.heap.size (fun _ => True) u215001 x215001_4) ∧ Aside0 (w'.heap[gb214]? = some (.cells #[.int .i64 x215000_14, u215001] 63 (0, 0))) ∧ Aside0 (Below w.heap.size w w'))
                      case atStart => exact ⟨(0), (([] : List Int)), (.slice none 0 0), (by first | rfl | (simp; done) | (simp [*]; done)), H', ⟨Nat.le_refl _⟩, ⟨by (with_reducible repeat (first | apply Kd.S_alloc | apply Kd.S_drewN | apply Kd.S_drew)); exact Kd.S_mono HO_5.out (fun _ hk => ⟨(by simp [Value.ownBlock]), hk⟩)⟩, ⟨by first | exact Kd.R_nil _ _ _ _ _ | exact Kd.N_nil _ _ _ _ _ | exact Kd.V_nil _ _ _ _ _ | exact Kd.Q_nil _ _ _ _ _ | exact Kd.S_nil _ _ _ _ _⟩, ⟨by (with_reducible repeat (first | refine blk_drewN ?_ _ | refine blk_drew ?_ | refine blk_alloc ?_ _)); exact BK214.out⟩, ⟨by repeat (first | (with_reducible first | exact HB.out | apply below_alloc | apply pw_below_drewN | apply below_drew1 | refine below_set ?_ GE214.out) | exact HB.out)⟩⟩
                      case round =>
                        clear H'; (try clear c1); (try clear c2); (try clear p2); (try clear q2); (try clear hx2); (try clear c5); (try clear c6); (try clear c6b0); (try clear p6); (try clear c9); (try clear c11); (try clear c12); (try clear c12b0); (try clear c13); (try clear c13b0); (try clear c21); (try clear c21b0); (try clear c21b1); (try clear p21); (try clear q21); (try clear hx21); (try clear hcz17_0); (try clear hcz17_1); (try clear hcz22_0); (try clear hcz22_1); (try clear hfz17_0); (try clear hfz17_1); (try clear hfz22_0); (try clear hfz22_1); (try clear hx216_0); (try clear hx216_1); (try clear hx216_2); (try clear hx216_3); (try clear hx218_0); (try clear hx218_1); (try clear hx218_2); (try clear hx218_3); (try clear p2); (try clear p21); (try clear p216); (try clear p218); (try clear p6); (try clear q2); (try clear q21); (try clear q216); (try clear q218); obtain ⟨x9_4, x215001_4, u215001, rfl, HA, HK4, HO_5, HO_215001, BK214, HB⟩ := hrel; cases gk with
                        | zero => exact absurd HA.out (by simp [spec_MakeMessage.l1])
                        | succ k4 =>
                          have H := HA.out; clear HA; simp only [spec_MakeMessage.l1] at H; by_cases c23 : x9_4 < t217
                          · rw [if_pos c23] at H
                            have c23b0 : decide (x9_4 < t217) = true := decide_eq_true c23; clear c23; by_cases c24 : 0 ≤ x6_1
                            · rw [if_pos c24] at H
                              have c24b0 : decide (0 ≤ x6_1) = true := decide_eq_true c24; clear c24; by_cases c25 : x6_1 < (l0.length : Int)
                              · rw [if_pos c25] at H
                                have c25b0 : decide (x6_1 < (l0.length : Int)) = true := decide_eq_true c25; clear c25; by_cases c26 : ((rd_T67 l0 x6_1).f0) = 1
                                · rw [if_pos c26] at H
                                  have c26b0 : (((rd_T67 l0 x6_1).f0) == 1) = true := beq_iff_eq.mpr c26; have c26b1 : (((rd_T67 l0 x6_1).f0) != 1) = false := bne_eq_false_iff_eq.mpr c26; clear c26; by_cases c27 : x5_1.length < 4398046511104
                                  · rw [if_pos c27] at H
                                    have LMc27 := Aside0.mk c27; clear c27; obtain ⟨y220, hy220⟩ : ∃ y_ : List (S63), y_ = (x5_1 ++ [(⟨x215000_14, x215001_4⟩ : S63)]) := ⟨_, rfl⟩; (replace H : (spec_MakeMessage.l0 k4 l0 a1 y220 (wrap64 (x6_1 + 1))) = some r := by first | (rw [hy220]; with_reducible exact H) | (have H2_ := (Option.bind_some _ _).symm.trans H; rw [hy220]; with_reducible exact H2_) | (have H2_ := (Option.bind_some _ _).symm.trans H; with_reducible exact H2_) | with_reducible exact H | (rw [hy220]; exact H) | exact H); have Ny220 := Aside0.mk hy220; clear hy220; have H' := Aside0.mk H; clear H; (have p219 : 0 ≤ (x6_1 : Int) := of_decide_eq_true (by assumption)); (have q219 : x6_1 < (l0.length : Int) := of_decide_eq_true (by assumption)); obtain ⟨ad219, e219, hx219_0, hx219_1, hx219_2, hx219_3⟩ := at_T67 HR0.out x6_1 p219 q219; (obtain rfl : ad216 = ad219 := (by injection e219)); replace hx219_0 := hC HB.out hx219_0; replace hx219_1 := hC HB.out hx219_1; replace hx219_2 := hC HB.out hx219_2; replace hx219_3 := hC HB.out hx219_3; replace p219 := eq_true p219; replace q219 := eq_true q219; obtain ⟨hcz28_0, hcz28_1, hfz28_0, hfz28_1⟩ := zc2 BK214.out; obtain ⟨Ao30, co30, eo30⟩ := Kd.R_slice HO_215001.out; subst eo30; (go_wp2_with (first | ((with_reducible refine gate_builtin (b := .append) (xs := #[.tmp 69, .tmp 71]) rfl ?_); at_builtin; refine Kd.S_append k63 (w0 := w) w.heap.size rfl (.tmp 69) (.tmp 71) 24 63 (.agg #[(.int .i64 0), (.slice none 0 0)]) 32 rfl Try.underlying24 info63 rfl (by decide) (by omega) (.slice Ao18 x5_1.length co18) x5_1 (⟨x215000_14, x215001_4⟩ : S63) [.int .i64 x215000_14, .slice Ao30 x215001_4.length co30] (fun k_ => k_ ≠ gb214) (fun k_ => some k_ = (.slice Ao30 x215001_4.length co30 : Value).ownBlock) rfl rfl ?aP (fun k_ hk_ => ((Kd.R_mono (ok' := fun k_ => ((fun k_ => k_ ≠ gb214)) k_ ∧ some k_ ≠ (.slice Ao18 x5_1.length co18 : Value).ownBlock) (Kd.R_types (Kd.R_apart' (HO_215001.out) (Kd.S_typed HO_5.out) (by decide)) BK214.out (by decide)) (fun k_ hk => ⟨hk.2, hk.1.2⟩))).1 k_ hk_.symm) ?aF ?aO ?aB ?aS ?aL ?_; (case aP => exact k63_mkM _ _ _ (⟨x215000_14, x215001_4⟩ : S63) (Kd.R_mono (Kd.R_tight rfl (Kd.R_mono (ok' := fun k_ => ((fun k_ => k_ ≠ gb214)) k_ ∧ some k_ ≠ (.slice Ao18 x5_1.length co18 : Value).ownBlock) (Kd.R_types (Kd.R_apart' (HO_215001.out) (Kd.S_typed HO_5.out) (by decide)) BK214.out (by decide)) (fun k_ hk => ⟨hk.2, hk.1.2⟩))) (fun _ h_ => h_))); (case aB => exact (by repeat (first | (with_reducible first | exact HB.out | apply below_alloc | apply pw_below_drewN | apply below_drew1 | refine below_set ?_ GE214.out) | exact HB.out))); (case aF => exact (fun k_ hk => Kd.freshB (g := gb214) (o := .cells #[.int .i64 x215000_14, .slice Ao30 x215001_4.length co30] 63 (0, 0)) (by (with_reducible repeat (first | refine blk_drewN ?_ _ | refine blk_drew ?_ | refine blk_alloc ?_ _)); exact BK214.out) k_ hk)); (case aO => exact (by (with_reducible repeat (first | apply Kd.S_alloc | apply Kd.S_drewN | apply Kd.S_drew)); exact Kd.S_mono HO_5.out (fun k_ hk => ⟨hk.2, fun e_ => hk.1 e_⟩))); (case aS => exact (below_size (by repeat (first | (with_reducible first | exact HB.out | apply below_alloc | apply pw_below_drewN | apply below_drew1 | refine below_set ?_ GE214.out) | exact HB.out)))); (case aL => have := LMc27.out; omega); intro v221 w29 ho hb hg hat; rw [← Ny220.out] at ho; have n0_ := Aside0.mk (blk_grown (g := gb214) (o := .cells #[.int .i64 x215000_14, .slice Ao30 x215001_4.length co30] 63 (0, 0)) (by (with_reducible repeat (first | refine blk_drewN ?_ _ | refine blk_drew ?_ | refine blk_alloc ?_ _)); exact BK214.out) hg (Kd.S_away HO_5.out (fun _ hk => hk.2))); have n1_ := Aside0.mk (hb); have n2_ := Aside0.mk (ho); clear BK214; clear HB; clear HO_5; clear HO_215001; have BK214 := n0_; have HB := n1_; have HO222 := n2_; clear n0_ n1_ n2_; clear ho hb hg hat))); go_roundg k4
                                    case measure => have := HK1.out; have := HJ4.out; have := HJ14.out; have := HK4.out; omega
                                    case rel => exact ⟨(y220), (wrap64 (x6_1 + 1)), (by first | rfl | (simp; done) | (simp [*]; done)), H', ⟨by have := HK1.out; have := HJ4.out; have := HJ14.out; have := HK4.out; omega⟩, ⟨by (with_reducible repeat (first | apply Kd.S_alloc | apply Kd.S_drewN | apply Kd.S_drew)); exact Kd.S_mono HO222.out (fun _ hk => trivial)⟩, ⟨by repeat (first | (with_reducible first | exact HB.out | apply below_alloc | apply pw_below_drewN | apply below_drew1 | refine below_set ?_ GE214.out) | exact HB.out)⟩⟩
                                  · rw [if_neg c27] at H; (exact absurd H (by simp))
                                · rw [if_neg c26] at H
                                  have c26b0 : (((rd_T67 l0 x6_1).f0) == 1) = false := beq_eq_false_iff_ne.mpr c26; have c26b1 : (((rd_T67 l0 x6_1).f0) != 1) = true := bne_iff_ne.mpr c26; replace H := Option.bind_eq_some_iff.mp H; obtain ⟨t223, A310, H⟩ := H; replace H : (if x215001_4.length < 17592186044416 then (spec_MakeMessage.l1 k4 l0 a1 x5_1 x6_1 t217 (wrap64 (x9_4 + 1)) x215000_14 (x215001_4 ++ [t223])) else (none)) = some r := H; have A31 := Aside0.mk A310; clear A310; by_cases c32 : x215001_4.length < 17592186044416
                                  · rw [if_pos c32] at H
                                    (have LMc32 := Aside0.mk c32; clear c32; obtain ⟨y224, hy224⟩ : ∃ y_ : List Int, y_ = (x215001_4 ++ [t223]) := ⟨_, rfl⟩; (replace H : (spec_MakeMessage.l1 k4 l0 a1 x5_1 x6_1 t217 (wrap64 (x9_4 + 1)) x215000_14 y224) = some r := by first | (rw [hy224]; with_reducible exact H) | (have H2_ := (Option.bind_some _ _).symm.trans H; rw [hy224]; with_reducible exact H2_) | (have H2_ := (Option.bind_some _ _).symm.trans H; with_reducible exact H2_) | with_reducible exact H | (rw [hy224]; exact H) | exact H); have Ny224 := Aside0.mk hy224; clear hy224; have H' := Aside0.mk H; clear H; (have p219 : 0 ≤ (x6_1 : Int) := of_decide_eq_true (by assumption)); (have q219 : x6_1 < (l0.length : Int) := of_decide_eq_true (by assumption)); obtain ⟨ad219, e219, hx219_0, hx219_1, hx219_2, hx219_3⟩ := at_T67 HR0.out x6_1 p219 q219; (obtain rfl : ad216 = ad219 := (by injection e219)); replace hx219_0 := hC HB.out hx219_0; replace hx219_1 := hC HB.out hx219_1; replace hx219_2 := hC HB.out hx219_2; replace hx219_3 := hC HB.out hx219_3; replace p219 := eq_true p219; replace q219 := eq_true q219; (try go_wp2); have n0_ := Aside0.mk (Kd.S_drew HO_5.out); have n1_ := Aside0.mk (Kd.R_drew HO_215001.out); have n2_ := Aside0.mk (blk_drew BK214.out); have n3_ := Aside0.mk (below_drew1 HB.out); clear HO_5; clear HO_215001; clear BK214; clear HB; have HO_5 := n0_; have HO_215001 := n1_; have BK214 := n2_; have HB := n3_; clear n0_ n1_ n2_ n3_; (refine start_ (n := 13) (S := fun w' => w'.cell? ⟨gb214, 0, none⟩ = some (.int .i64 x215000_14) ∧ w'.cell? ⟨gb214, 1, none⟩ = some (u215001)) (ds := [12]) m13x13 (by kernel_rfl) rfl rfl ⟨(blk_cell BK214.out 0).trans rfl, (blk_cell BK214.out 1).trans rfl⟩ (fun hHeld => ?_); refine with_tabW spec_MakeMessage.tab13 spec_MakeMessage.bits13 (fun HT_ HW_ => ?_)); generalize wr.drew = w33 at HO_5 HO_215001 BK214 HB hHeld ⊢; (refine pure_ (i := 0) (N := some 57) (v := ?_) (a' := ?_) m13x12 rfl rfl (any_of HT_.out (by kernel_rfl)) (fun _ _ _ h => h) (Or.inl ⟨by rfl, ?_⟩) ?_ ?_); rotate_left); (· intro w'; go_simp; (with_reducible rfl)); rotate_left; (· simp only [Act.put, sT, sZ, sS, i64_w, i32_w]; rfl); refine pV 2 59 m13x11 ?_; refine pV 3 60 m13x10 ?_; refine pV 4 61 m13x9 ?_; refine pV 5 62 m13x8 ?_; refine pV 6 63 m13x7 ?_; refine pV 7 64 m13x6 ?_; refine tV 1 58 m13x5 ?_; ((refine oN 8 65 m13x4 (fun K hK => ?_)); (refine goes_ Try.func53 (by kernel_rfl) rfl #[.int .i64 a1, .int .i64 (wrap64 ((wrap64 ((wrap64 (16 * x6_1)) + x9_4)) + 1)), .int .i64 100] (by rfl) rfl rfl (by (try simp only [List.map_toArray, List.map_cons, List.map_nil]); first | done | rfl | (simp only [List.length_drop, List.length_take]; rfl)) ?_); (with_reducible refine (spec_PickOf.calls k4 a1 (wrap64 ((wrap64 ((wrap64 (16 * x6_1)) + x9_4)) + 1)) 100 t223 _ A31.out).mono ?_); rintro e w34 ⟨rfl, hb⟩; refine ⟨_, rfl, ?_⟩; (have n0_ := sB HO_5.out hb); (have n1_ := rB HO_215001.out hb); (have n2_ := Aside0.mk (blk_below (g := gb214) (o := .cells #[.int .i64 x215000_14, u215001] 63 (0, 0)) (by (with_reducible repeat (first | refine blk_drewN ?_ _ | refine blk_drew ?_ | refine blk_alloc ?_ _)); exact BK214.out) hb)); (have n3_ := bS hb); clear HO_5; clear HO_215001; clear BK214; clear HB; have HO_5 := n0_; have HO_215001 := n1_; have BK214 := n2_; have HB := n3_; clear n0_ n1_ n2_ n3_; ((try clear hb)); ((try clear hb2)); ((try clear hk)); ((try clear hi)); refine hK.out _ _ ⟨(blk_cell BK214.out 0).trans rfl, (blk_cell BK214.out 1).trans rfl⟩ (fun hHeld => ?_); clear hK K; refine norm_ (a' := ?_) ?_ ?_; rotate_left); (· show Act.put _ (some 65) _ = _; simp only [Act.put, sT, sZ, sS, i64_w, i32_w]; rfl); ((refine oN 9 66 m13x3 (fun K hK => ?_)); (refine value_ (w1 := ?_) (v := ?_) (by rfl) rfl ?_ ?_); rotate_left 2)
                                    · go_simp
                                      constructor; (· rfl); (· rfl)
                                    refine hK.out _ _ ⟨(blk_cell (blk_alloc BK214.out _) 0).trans rfl, (blk_cell (blk_alloc BK214.out _) 1).trans rfl⟩ (fun hHeld => ?_); clear hK K; refine norm_ (a' := ?_) ?_ ?_; rotate_left; (· show Act.put _ (some 66) _ = _; simp only [Act.put, sT, sZ, sS, i64_w, i32_w]; rfl); ((refine oN 10 67 m13x2 (fun K hK => ?_)); (refine Kd.R_append_step (Kd.int .i64) (w0 := w) w.heap.size (by rfl) (.tmp 58) (.tmp 66) 38 3 (.int .i64 0) 8 rfl Try.underlying38 info3 rfl (by decide) (by omega) u215001 x215001_4 t223 [.int .i64 t223] (fun _ => True) (fun _ => False) rfl rfl ?aP (fun _ hk => hk.elim) ?aF ?aO ?aB ?aS ?aL ?_); (case aP => exact rfl); ((case aB => exact (by repeat (first | (with_reducible first | exact HB.out | apply below_alloc | apply pw_below_drewN | apply below_drew1 | refine below_set ?_ GE214.out) | exact HB.out)))); (case aF => exact (fun _ _ => trivial)); ((case aO => exact (by (with_reducible repeat (first | apply Kd.R_alloc | apply Kd.R_drewN | apply Kd.R_drew)); exact HO_215001.out))); ((case aS => exact (below_size (by repeat (first | (with_reducible first | exact HB.out | apply below_alloc | apply pw_below_drewN | apply below_drew1 | refine below_set ?_ GE214.out) | exact HB.out))))); (case aL => have := LMc32.out; omega); intro v225 w35 ho hb hg hat; rw [← Ny224.out] at ho; (have n0_ := Aside0.mk (Kd.S_after (ok := (fun k_ => k_ ≠ gb214)) (by (with_reducible repeat (first | apply Kd.S_alloc | apply Kd.S_drewN | apply Kd.S_drew)); exact Kd.S_mono HO_5.out (fun _ hk => ⟨hk.2, hk.1⟩)) hg hat)); (have n1_ := Aside0.mk (blk_grown (g := gb214) (o := .cells #[.int .i64 x215000_14, u215001] 63 (0, 0)) (by (with_reducible repeat (first | refine blk_drewN ?_ _ | refine blk_drew ?_ | refine blk_alloc ?_ _)); exact BK214.out) hg (Kd.R_ne HO_215001.out BK214.out (by decide)))); have n2_ := Aside0.mk (hb); have n3_ := Aside0.mk (ho); clear HO_5; clear BK214; clear HB; clear HO_215001; have HO_5 := n0_; have BK214 := n1_; have HB := n2_; have HO226 := n3_; clear n0_ n1_ n2_ n3_; clear ho hb hg hat; obtain ⟨Ao36, co36, eo36⟩ := Kd.R_slice HO226.out; ((first | subst eo36 | (injection eo36 with f1_ f2_ f3_; have f4_ := f1_.symm; have f5_ := f3_.symm; clear f1_ f2_ f3_; subst f4_; subst f5_))); refine hK.out _ _ ⟨(blk_cell BK214.out 0).trans rfl, (blk_cell BK214.out 1).trans rfl⟩ (fun hHeld => ?_); clear hK K; refine norm_ (a' := ?_) ?_ ?_; rotate_left); (· show Act.put _ (some 67) _ = _; simp only [Act.put, sT, sZ, sS, i64_w, i32_w]; rfl); refine pV 11 68 m13x1 ?_; ((refine last_ (i := 12) (N := none) m13x0 rfl rfl (one_of HT_.out (by kernel_rfl)) (by decide) (fun K hK => ?_)); have hs37 : w35.cell? ⟨gb214, 1, none⟩ = some (u215001) := (blk_cell BK214.out 1).trans rfl; have hfs37 := blk_frozen BK214.out 1; (refine skip_ (w1 := ?_) (by rfl) rfl ?_ ?_); rotate_left); (· go_simp; rfl); (refine hK.out _ _ ?_; clear hK K; (refine done_ (done_of HT_.out (by kernel_rfl)) ?_); (try go_wp2); go_roundg k4)
                                    case measure => have := HK1.out; have := HJ4.out; have := HJ14.out; have := HK4.out; omega
                                    case rel => exact ⟨(wrap64 (x9_4 + 1)), (y224), (.slice Ao36 y224.length co36), (by first | rfl | (simp; done) | (simp [*]; done)), H', ⟨by have := HK1.out; have := HJ4.out; have := HJ14.out; have := HK4.out; omega⟩, ⟨by (with_reducible repeat (first | apply Kd.S_alloc | apply Kd.S_drewN | apply Kd.S_drew)); exact Kd.S_mono (Kd.S_far (p := ⟨gb214, 1, none⟩) (Kd.S_mono HO_5.out (fun k_ hk => (⟨hk, hk.1⟩ : _ ∧ k_ ≠ gb214))) (fun _ hk => hk.2) (.slice Ao36 y224.length co36)) (fun _ hk => ⟨hk.1.2, hk.1.1⟩)⟩, ⟨by (with_reducible repeat (first | apply Kd.R_alloc | apply Kd.R_drewN | apply Kd.R_drew)); exact Kd.R_mono (Kd.R_far (p := ⟨gb214, 1, none⟩) (Kd.R_types HO226.out BK214.out (by decide)) (fun _ hk => hk.2) (.slice Ao36 y224.length co36)) (fun _ hk => trivial)⟩, ⟨by (with_reducible repeat (first | refine blk_drewN ?_ _ | refine blk_drew ?_ | refine blk_alloc ?_ _)); refine blk_put (cs := #[.int .i64 x215000_14, u215001]) ?_ 1 _ rfl; (with_reducible repeat (first | refine blk_drewN ?_ _ | refine blk_drew ?_ | refine blk_alloc ?_ _)); exact BK214.out⟩, ⟨by repeat (first | (with_reducible first | exact HB.out | apply below_alloc | apply pw_below_drewN | apply below_drew1 | refine below_set ?_ GE214.out) | exact HB.out)⟩⟩
                                  · rw [if_neg c32] at H; (exact absurd H (by simp))
                              · rw [if_neg c25] at H; (exact absurd H (by simp))
                            · rw [if_neg c24] at H; (exact absurd H (by simp))
                          · rw [if_neg c23] at H
                            have c23b0 : decide (x9_4 < t217) = false := decide_eq_false c23; clear c23; by_cases c38 : x5_1.length < 4398046511104
                            · rw [if_pos c38] at H
                              have LMc38 := Aside0.mk c38; clear c38; obtain ⟨y227, hy227⟩ : ∃ y_ : List (S63), y_ = (x5_1 ++ [(⟨x215000_14, x215001_4⟩ : S63)]) := ⟨_, rfl⟩; (replace H : (spec_MakeMessage.l0 k4 l0 a1 y227 (wrap64 (x6_1 + 1))) = some r := by first | (rw [hy227]; with_reducible exact H) | (have H2_ := (Option.bind_some _ _).symm.trans H; rw [hy227]; with_reducible exact H2_) | (have H2_ := (Option.bind_some _ _).symm.trans H; with_reducible exact H2_) | with_reducible exact H | (rw [hy227]; exact H) | exact H); have Ny227 := Aside0.mk hy227; clear hy227; have H' := Aside0.mk H; clear H; obtain ⟨hcz39_0, hcz39_1, hfz39_0, hfz39_1⟩ := zc2 BK214.out; obtain ⟨Ao41, co41, eo41⟩ := Kd.R_slice HO_215001.out; subst eo41; (go_wp2_with (first | ((with_reducible refine gate_builtin (b := .append) (xs := #[.tmp 69, .tmp 71]) rfl ?_); at_builtin; refine Kd.S_append k63 (w0 := w) w.heap.size rfl (.tmp 69) (.tmp 71) 24 63 (.agg #[(.int .i64 0), (.slice none 0 0)]) 32 rfl Try.underlying24 info63 rfl (by decide) (by omega) (.slice Ao18 x5_1.length co18) x5_1 (⟨x215000_14, x215001_4⟩ : S63) [.int .i64 x215000_14, .slice Ao41 x215001_4.length co41] (fun k_ => k_ ≠ gb214) (fun k_ => some k_ = (.slice Ao41 x215001_4.length co41 : Value).ownBlock) rfl rfl ?aP (fun k_ hk_ => ((Kd.R_mono (ok' := fun k_ => ((fun k_ => k_ ≠ gb214)) k_ ∧ some k_ ≠ (.slice Ao18 x5_1.length co18 : Value).ownBlock) (Kd.R_types (Kd.R_apart' (HO_215001.out) (Kd.S_typed HO_5.out) (by decide)) BK214.out (by decide)) (fun k_ hk => ⟨hk.2, hk.1.2⟩))).1 k_ hk_.symm) ?aF ?aO ?aB ?aS ?aL ?_; (case aP => exact k63_mkM _ _ _ (⟨x215000_14, x215001_4⟩ : S63) (Kd.R_mono (Kd.R_tight rfl (Kd.R_mono (ok' := fun k_ => ((fun k_ => k_ ≠ gb214)) k_ ∧ some k_ ≠ (.slice Ao18 x5_1.length co18 : Value).ownBlock) (Kd.R_types (Kd.R_apart' (HO_215001.out) (Kd.S_typed HO_5.out) (by decide)) BK214.out (by decide)) (fun k_ hk => ⟨hk.2, hk.1.2⟩))) (fun _ h_ => h_))); (case aB => exact (by repeat (first | (with_reducible first | exact HB.out | apply below_alloc | apply pw_below_drewN | apply below_drew1 | refine below_set ?_ GE214.out) | exact HB.out))); (case aF => exact (fun k_ hk => Kd.freshB (g := gb214) (o := .cells #[.int .i64 x215000_14, .slice Ao41 x215001_4.length co41] 63 (0, 0)) (by (with_reducible repeat (first | refine blk_drewN ?_ _ | refine blk_drew ?_ | refine blk_alloc ?_ _)); exact BK214.out) k_ hk)); (case aO => exact (by (with_reducible repeat (first | apply Kd.S_alloc | apply Kd.S_drewN | apply Kd.S_drew)); exact Kd.S_mono HO_5.out (fun k_ hk => ⟨hk.2, fun e_ => hk.1 e_⟩))); (case aS => exact (below_size (by repeat (first | (with_reducible first | exact HB.out | apply below_alloc | apply pw_below_drewN | apply below_drew1 | refine below_set ?_ GE214.out) | exact HB.out)))); (case aL => have := LMc38.out; omega); intro v228 w40 ho hb hg hat; rw [← Ny227.out] at ho; have n0_ := Aside0.mk (blk_grown (g := gb214) (o := .cells #[.int .i64 x215000_14, .slice Ao41 x215001_4.length co41] 63 (0, 0)) (by (with_reducible repeat (first | refine blk_drewN ?_ _ | refine blk_drew ?_ | refine blk_alloc ?_ _)); exact BK214.out) hg (Kd.S_away HO_5.out (fun _ hk => hk.2))); have n1_ := Aside0.mk (hb); have n2_ := Aside0.mk (ho); clear BK214; clear HB; clear HO_5; clear HO_215001; have BK214 := n0_; have HB := n1_; have HO229 := n2_; clear n0_ n1_ n2_; clear ho hb hg hat))); go_roundg k4
                              case measure => have := HK1.out; have := HJ4.out; have := HJ14.out; have := HK4.out; omega
                              case rel => exact ⟨(y227), (wrap64 (x6_1 + 1)), (by first | rfl | (simp; done) | (simp [*]; done)), H', ⟨by have := HK1.out; have := HJ4.out; have := HJ14.out; have := HK4.out; omega⟩, ⟨by (with_reducible repeat (first | apply Kd.S_alloc | apply Kd.S_drewN | apply Kd.S_drew)); exact Kd.S_mono HO229.out (fun _ hk => trivial)⟩, ⟨by repeat (first | (with_reducible first | exact HB.out | apply below_alloc | apply pw_below_drewN | apply below_drew1 | refine below_set ?_ GE214.out) | exact HB.out)⟩⟩
                            · rw [if_neg c38] at H; (exact absurd H (by simp))
                · rw [if_neg c13] at H; (exact absurd H (by simp))
              · rw [if_neg c12] at H; (exact absurd H (by simp))
            · replace c11 := Bool.eq_false_iff.mpr c11
              subst c11; (have H1 : (if x5_1.length < 4398046511104 then (spec_MakeMessage.l0 kj4 l0 a1 (x5_1 ++ [(⟨0, ([] : List Int)⟩ : S63)]) (wrap64 (x6_1 + 1))) else (none)) = some r := by rw [if_neg (show ¬ (false = true) by decide)] at H; exact H); clear H; have H := H1; clear H1; by_cases c42 : x5_1.length < 4398046511104
              · rw [if_pos c42] at H
                have LMc42 := Aside0.mk c42; clear c42; obtain ⟨y230, hy230⟩ : ∃ y_ : List (S63), y_ = (x5_1 ++ [(⟨0, ([] : List Int)⟩ : S63)]) := ⟨_, rfl⟩; (replace H : (spec_MakeMessage.l0 kj4 l0 a1 y230 (wrap64 (x6_1 + 1))) = some r := by first | (rw [hy230]; with_reducible exact H) | (have H2_ := (Option.bind_some _ _).symm.trans H; rw [hy230]; with_reducible exact H2_) | (have H2_ := (Option.bind_some _ _).symm.trans H; with_reducible exact H2_) | with_reducible exact H | (rw [hy230]; exact H) | exact H); have Ny230 := Aside0.mk hy230; clear hy230; have H' := Aside0.mk H; clear H; (go_wp2_with (first | ((with_reducible refine gate_dst (N := 7) rfl ?_); refine box_event ?hg (N := 7) ?hd (cs := #[.int .i64 0, .slice none 0 0]) (t := 63) ?hr ?_; (case hd => rfl); (case hg => rfl); (case hr => first | (go_simp; done) | (go_simp; rfl)); intro gb214 hg w43 hbox hb; have n0_ := Aside0.mk (Kd.S_below (Kd.S_elderB (by (with_reducible repeat (first | apply Kd.S_alloc | apply Kd.S_drewN | apply Kd.S_drew)); exact HO_5.out) gb214 (Nat.le_of_eq hg.symm)) hb); have n1_ := bS hb; have n2_ := Aside0.mk (hbox); have n3_ : Aside0 (w.heap.size ≤ gb214) := bZ hg; have n4_ : Aside0 (w.heap.size ≤ gb214) := bZ hg; clear HO_5; clear HB; have HO_5 := n0_; have HB := n1_; have BK214 := n2_; have GW214 := n3_; have GE214 := n4_; clear n0_ n1_ n2_ n3_ n4_; clear hb hbox hg; obtain ⟨hcz44_0, hcz44_1, hfz44_0, hfz44_1⟩ := zc2 BK214.out; obtain ⟨Ao45, co45, eo45⟩ := Kd.S_slice HO_5.out; subst eo45) | ((with_reducible refine gate_callee (f := 52) rfl ?_); refine gL 25 Try.func52 #[.slice A0 l0.length c0, .slice Ao45 x5_1.length co45, .int .i64 x6_1] ?_; (with_reducible refine (spec_IsThere.calls _ _ l0 _ _ x5_1 x6_1 false _ ?side1 ?side2 ?side3 ?side4 A10.out).mono ?_); (case side1 => exact kC HR0.out); (case side2 => exact HC0.out); (case side3 => refine (Kd.S_reads' (e := 63) (base := w.heap.size) (ok := fun k_ => (True ∧ k_ ≠ gb214)) (n := x5_1.length) (c := co45) ?_).2.2; exact (by (with_reducible repeat (first | apply Kd.S_alloc | apply Kd.S_drewN | apply Kd.S_drew)); exact (Kd.S_mono (Kd.S_far (p := ⟨gb214, 1, none⟩) (Kd.S_far (p := ⟨gb214, 0, none⟩) (Kd.S_mono HO_5.out (fun k_ hk => (⟨hk, hk.2⟩ : _ ∧ k_ ≠ gb214))) (fun _ hk => hk.2) (.int .i64 0)) (fun _ hk => hk.2) (.slice none 0 0)) (fun _ h_ => h_.1)))); (case side4 => exact (Kd.S_reads' HO_5.out).2.1); rintro e w46 ⟨rfl, hb⟩; refine ⟨_, rfl, ?_⟩; have n0_ := Aside0.mk (Kd.S_below (by (with_reducible repeat (first | apply Kd.S_alloc | apply Kd.S_drewN | apply Kd.S_drew)); exact (Kd.S_mono (Kd.S_far (p := ⟨gb214, 1, none⟩) (Kd.S_far (p := ⟨gb214, 0, none⟩) (Kd.S_mono HO_5.out (fun k_ hk => (⟨hk, hk.2⟩ : _ ∧ k_ ≠ gb214))) (fun _ hk => hk.2) (.int .i64 0)) (fun _ hk => hk.2) (.slice none 0 0)) (fun _ h_ => h_.1))) hb); have n1_ := Aside0.mk (blk_below (g := gb214) (o := .cells #[.int .i64 0, .slice none 0 0] 63 (0, 0)) (by (with_reducible repeat (first | refine blk_drewN ?_ _ | refine blk_drew ?_ | refine blk_alloc ?_ _)); refine blk_put (cs := #[.int .i64 0, .slice none 0 0]) ?_ 1 _ rfl; (with_reducible repeat (first | refine blk_drewN ?_ _ | refine blk_drew ?_ | refine blk_alloc ?_ _)); refine blk_put (cs := #[.int .i64 0, .slice none 0 0]) ?_ 0 _ rfl; (with_reducible repeat (first | refine blk_drewN ?_ _ | refine blk_drew ?_ | refine blk_alloc ?_ _)); exact BK214.out) hb); have n2_ := bS hb; clear HO_5; clear BK214; clear HB; have HO_5 := n0_; have BK214 := n1_; have HB := n2_; clear n0_ n1_ n2_; (try clear hb); (try clear hb2); (try clear hk); (try clear hi); obtain ⟨hcz47_0, hcz47_1, hfz47_0, hfz47_1⟩ := zc2 BK214.out) | ((with_reducible refine gate_builtin (b := .append) (xs := #[.tmp 69, .tmp 71]) rfl ?_); at_builtin; refine Kd.S_append k63 (w0 := w) w.heap.size rfl (.tmp 69) (.tmp 71) 24 63 (.agg #[(.int .i64 0), (.slice none 0 0)]) 32 rfl Try.underlying24 info63 rfl (by decide) (by omega) (.slice Ao45 x5_1.length co45) x5_1 (⟨0, ([] : List Int)⟩ : S63) [.int .i64 0, .slice none 0 0] (fun k_ => k_ ≠ gb214) (fun _ => False) rfl rfl ?aP (fun k_ hk_ => hk_.elim) ?aF ?aO ?aB ?aS ?aL ?_; (case aP => exact k63_mkM _ _ _ (⟨0, ([] : List Int)⟩ : S63) (Kd.R_nil _ _ _ _ _)); (case aB => exact (by repeat (first | (with_reducible first | exact HB.out | apply below_alloc | apply pw_below_drewN | apply below_drew1 | refine below_set ?_ GE214.out) | exact HB.out))); (case aF => exact (fun k_ hk => Kd.freshB (g := gb214) (o := .cells #[.int .i64 0, .slice none 0 0] 63 (0, 0)) (by (with_reducible repeat (first | refine blk_drewN ?_ _ | refine blk_drew ?_ | refine blk_alloc ?_ _)); exact BK214.out) k_ hk)); (case aO => exact (by (with_reducible repeat (first | apply Kd.S_alloc | apply Kd.S_drewN | apply Kd.S_drew)); exact Kd.S_mono HO_5.out (fun k_ hk => ⟨hk.2, fun e_ => e_⟩))); (case aS => exact (below_size (by repeat (first | (with_reducible first | exact HB.out | apply below_alloc | apply pw_below_drewN | apply below_drew1 | refine below_set ?_ GE214.out) | exact HB.out)))); (case aL => have := LMc42.out; omega); intro v231 w48 ho hb hg hat; rw [← Ny230.out] at ho; have n0_ := Aside0.mk (blk_grown (g := gb214) (o := .cells #[.int .i64 0, .slice none 0 0] 63 (0, 0)) (by (with_reducible repeat (first | refine blk_drewN ?_ _ | refine blk_drew ?_ | refine blk_alloc ?_ _)); exact BK214.out) hg (Kd.S_away HO_5.out (fun _ hk => hk.2))); have n1_ := Aside0.mk (hb); have n2_ := Aside0.mk (ho); clear BK214; clear HB; clear HO_5; have BK214 := n0_; have HB := n1_; have HO232 := n2_; clear n0_ n1_ n2_; clear ho hb hg hat))); go_roundg kj4
                case measure => have := HK1.out; have := HJ4.out; omega
                case rel => exact ⟨(y230), (wrap64 (x6_1 + 1)), (by first | rfl | (simp; done) | (simp [*]; done)), H', ⟨by have := HK1.out; have := HJ4.out; omega⟩, ⟨by (with_reducible repeat (first | apply Kd.S_alloc | apply Kd.S_drewN | apply Kd.S_drew)); exact Kd.S_mono HO232.out (fun _ hk => trivial)⟩, ⟨by repeat (first | (with_reducible first | exact HB.out | apply below_alloc | apply pw_below_drewN | apply below_drew1 | refine below_set ?_ GE214.out) | exact HB.out)⟩⟩
              · rw [if_neg c42] at H; (exact absurd H (by simp))
          · replace c9 := Bool.eq_false_iff.mpr c9; subst c9; (have H1 : (some x5_1) = some r := by rw [if_neg (show ¬ (false = true) by decide)] at H; exact H); clear H; have H := H1; clear H1; obtain rfl := Option.some.inj H; go_wp2; go_ret; (exact ⟨_, by first | rfl | (simp [errW_none, errW_some] <;> rfl) | (simp [*, errW_none, errW_some] <;> rfl), by (with_reducible repeat (first | apply Kd.S_alloc | apply Kd.S_drewN | apply Kd.S_drew)); exact HO_5.out, by repeat (first | (with_reducible first | exact HB.out | apply below_alloc | apply pw_below_drewN | apply below_drew1) | exact HB.out)⟩)

/-! ### laws_FnExactMakeMessage: function 3 -/
theorem lawIfT {p : Prop} [Decidable p] {x : Option Bool} (h : (if p then x else some false) = some true) : p ∧ x = some true := by
  by_cases hp : p
  · rw [if_pos hp] at h; exact ⟨hp, h⟩
  · rw [if_neg hp] at h; exact absurd h (by simp)
theorem lawIfF {p : Prop} [Decidable p] {x : Option Bool} (h : (if p then some false else x) = some true) : ¬ p ∧ x = some true := by
  by_cases hp : p
  · rw [if_pos hp] at h; exact absurd h (by simp)
  · rw [if_neg hp] at h; exact ⟨hp, h⟩
section
variable {α : Type} {d : Kd α} {e b n : Nat} {w w0 W w1 : World} {base cc : Nat} {ok P : Nat → Prop} {v : Value} {xs : List α} {A : Option Addr}
theorem lawBB (h : Below w.heap.size w W := by repeat (first | (with_reducible first | exact HB.out | apply below_alloc | apply pw_below_drewN | apply below_drew1) | exact HB.out)) : Below w.heap.size w W := h
theorem lawRm (ho : d.R e w1 b (fun _ => True) v xs) (hl : w.heap.size ≤ b) : Aside0 (d.R e w1 w.heap.size (fun k => b ≤ k ∧ k < w1.heap.size) v xs) := ⟨Kd.R_lower (Kd.R_mono (Kd.R_bound ho) (fun k hk => ⟨hk.2.1, hk.2.2.1⟩)) hl⟩
theorem lawSm (ho : Kd.S d e w1 b (fun _ => True) v xs) (hl : w.heap.size ≤ b) : Aside0 (Kd.S d e w1 w.heap.size (fun k => b ≤ k ∧ k < w1.heap.size) v xs) := ⟨Kd.S_lower (Kd.S_mono (Kd.S_bound ho) (fun k hk => ⟨hk.2.1, hk.2.2.1⟩)) hl⟩
theorem lawRw (hr : d.R e w base ok v xs) (h : Below w.heap.size w W := by with_reducible repeat (first | exact Below.refl _ _ | apply below_alloc | apply pw_below_drewN | apply below_drew1)) : d.R e W base ok v xs := Kd.R_below hr h
theorem lawSw (hr : Kd.S d e w base ok v xs) (h : Below w.heap.size w W := by with_reducible repeat (first | exact Below.refl _ _ | apply below_alloc | apply pw_below_drewN | apply below_drew1)) : Kd.S d e W base ok v xs := Kd.S_below hr h
theorem lawRk (hr : d.R e w base ok v xs) (hk : Kept W w1 P) (hd : ∀ k, ok k → ¬ P k) (h : Below w.heap.size w W := by with_reducible repeat (first | exact Below.refl _ _ | apply below_alloc | apply pw_below_drewN | apply below_drew1)) : Aside0 (d.R e w1 base ok v xs) := ⟨Kd.R_step (Kd.R_below hr h) (fun k ho hlt => hk.2 k hlt (hd k ho))⟩
theorem lawSk (hr : Kd.S d e w base ok v xs) (hk : Kept W w1 P) (hd : ∀ k, ok k → ¬ P k) (h : Below w.heap.size w W := by with_reducible repeat (first | exact Below.refl _ _ | apply below_alloc | apply pw_below_drewN | apply below_drew1)) : Aside0 (Kd.S d e w1 base ok v xs) := ⟨Kd.S_step (Kd.S_below hr h) (fun k ho hlt => hk.2 k hlt (hd k ho))⟩
theorem lawRc (hr : d.R e w base ok (.slice A n cc) xs) (h : Below w.heap.size w W := by with_reducible repeat (first | exact Below.refl _ _ | apply below_alloc | apply pw_below_drewN | apply below_drew1)) : d.C W A xs.length xs := (Kd.R_reads' (Kd.R_below hr h)).2.2
theorem lawSc (hr : Kd.S d e w base ok (.slice A n cc) xs) (h : Below w.heap.size w W := by with_reducible repeat (first | exact Below.refl _ _ | apply below_alloc | apply pw_below_drewN | apply below_drew1)) : d.C W A xs.length xs := (Kd.S_reads' (Kd.S_below hr h)).2.2
end
def laws_FnExactMakeMessage.f (k : Nat) (l0 : List (S69)) (a1 : Int) : Option (Bool) := ((laws_szFieldS.f l0 1048576).bind fun sz => (if sz < 0 then (some true) else ((laws_toFieldS.f k l0).bind fun fa => ((spec_MakeMessage.f k fa a1).bind fun ma => ((laws_toFieldS.f k l0).bind fun xa => ((impl_MakeMessage.f k xa a1).bind fun ga => ((laws_eqValueS.f k ga ma).bind fun q5 => (if q5 = true then ((laws_toFieldS.f k l0).bind fun fb => ((laws_eqFieldS.f k xa fb).bind fun q7 => (if q7 = true then ((laws_markFieldS.f k xa 1).bind fun bka => (if bka.1 < 0 then (some false) else ((laws_eqValueS.f k ga ma).bind fun q10 => (if q10 = true then ((laws_markValueS.f k ga 1).bind fun bmv => ((laws_heldValueS.f k bmv.2 1).bind fun hv => (if hv < 0 then (some false) else (if hv = bmv.1 then ((laws_toFieldS.f k l0).bind fun fc => ((impl_MakeMessage.f k fc a1).bind fun gz => ((laws_eqValueS.f k gz ma).bind fun q16 => (if q16 = true then ((laws_heldValueS.f k bmv.2 1).bind fun hz => (if hz < 0 then (some false) else (if hz = bmv.1 then (some true) else (some false)))) else (some false))))) else (some false))))) else (some false))))) else (some false)))) else (some false)))))))))
set_option maxHeartbeats 8000000 in
set_option maxRecDepth 100000 in
theorem laws_FnExactMakeMessage.calls (k : Nat) (A0 : Option Addr) (c0 : Nat) (l0 : List (S69)) (a1 : Int) (r : Bool) (w : World) (hr0 : Kd.C k69 w A0 l0.length l0) (hc0 : l0.length ≤ c0) (h : laws_FnExactMakeMessage.f k l0 a1 = some r) (hT : r = true := by rfl) :
    Calls Try.prog 3 #[.slice A0 l0.length c0, .int .i64 a1] w fun e w' => e = .returned (.bool r) ∧ Below w.heap.size w w' := by
  subst hT
  have HR0 := Aside0.mk hr0
  have HC0 := Aside0.mk hc0
  clear hr0 hc0
  have HB := Aside0.mk (Below.refl w.heap.size w)
  unfold laws_FnExactMakeMessage.f at h
  obtain ⟨sz, A0_0, h⟩ := Option.bind_eq_some_iff.mp h
  have A0_ := Aside0.mk A0_0
  clear A0_0
  by_cases c0_ : sz < 0
  · have c0_b0 : decide (sz < 0) = true := decide_eq_true c0_
    go_enter Try.func3, Try.ntmps3
    go_wp2_with (first | ((with_reducible refine gate_callee (f := 12) rfl ?_); refine gL 15 Try.func12 #[.slice A0 l0.length c0, .int .i64 1048576] ?_; (with_reducible refine (laws_szFieldS.calls _ _ l0 1048576 sz _ ?side1 ?side2 A0_.out).mono ?_); (case side1 => exact kC HR0.out); (case side2 => exact HC0.out); rintro e w' ⟨rfl, ⟨nd, rfl⟩⟩; refine ⟨_, rfl, ?_⟩))
    go_ret
    exact ⟨by first | rfl | (simp [errW_none, errW_some] <;> rfl) | (simp [*, errW_none, errW_some] <;> rfl), by repeat (first | (with_reducible first | exact HB.out | apply below_alloc | apply pw_below_drewN | apply below_drew1) | exact HB.out)⟩
  rw [if_neg c0_] at h
  have c0_b0 : decide (sz < 0) = false := decide_eq_false c0_
  clear c0_
  obtain ⟨fa, A1_0, h⟩ := Option.bind_eq_some_iff.mp h
  have A1_ := Aside0.mk A1_0
  clear A1_0
  obtain ⟨ma, A2_0, h⟩ := Option.bind_eq_some_iff.mp h
  have A2_ := Aside0.mk A2_0
  clear A2_0
  obtain ⟨xa, A3_0, h⟩ := Option.bind_eq_some_iff.mp h
  have A3_ := Aside0.mk A3_0
  clear A3_0
  obtain ⟨ga, A4_0, h⟩ := Option.bind_eq_some_iff.mp h
  have A4_ := Aside0.mk A4_0
  clear A4_0
  obtain ⟨q5, A5_0, h⟩ := Option.bind_eq_some_iff.mp h
  have A5_ := Aside0.mk A5_0
  clear A5_0
  obtain ⟨cq_, h⟩ := lawIfT h
  subst cq_
  obtain ⟨fb, A6_0, h⟩ := Option.bind_eq_some_iff.mp h
  have A6_ := Aside0.mk A6_0
  clear A6_0
  obtain ⟨q7, A7_0, h⟩ := Option.bind_eq_some_iff.mp h
  have A7_ := Aside0.mk A7_0
  clear A7_0
  obtain ⟨cq_, h⟩ := lawIfT h
  subst cq_
  obtain ⟨⟨ka, kar⟩, A8_0, h⟩ := Option.bind_eq_some_iff.mp h
  have A8_ := Aside0.mk A8_0
  clear A8_0
  dsimp only at h
  obtain ⟨cp9_, h⟩ := lawIfF h
  have cp9_b0 : decide (ka < 0) = false := decide_eq_false cp9_
  clear cp9_
  obtain ⟨q10, A10_0, h⟩ := Option.bind_eq_some_iff.mp h
  have A10_ := Aside0.mk A10_0
  clear A10_0
  obtain ⟨cq_, h⟩ := lawIfT h
  subst cq_
  obtain ⟨⟨mv, mvr⟩, A11_0, h⟩ := Option.bind_eq_some_iff.mp h
  have A11_ := Aside0.mk A11_0
  clear A11_0
  dsimp only at h
  obtain ⟨hv, A12_0, h⟩ := Option.bind_eq_some_iff.mp h
  have A12_ := Aside0.mk A12_0
  clear A12_0
  obtain ⟨cp12_, h⟩ := lawIfF h
  have cp12_b0 : decide (hv < 0) = false := decide_eq_false cp12_
  clear cp12_
  obtain ⟨cs13_, h⟩ := lawIfT h
  have cs13_b0 : (hv == mv) = true := beq_iff_eq.mpr cs13_
  have cs13_b1 : (hv != mv) = false := bne_eq_false_iff_eq.mpr cs13_
  clear cs13_
  obtain ⟨fc, A14_0, h⟩ := Option.bind_eq_some_iff.mp h
  have A14_ := Aside0.mk A14_0
  clear A14_0
  obtain ⟨gz, A15_0, h⟩ := Option.bind_eq_some_iff.mp h
  have A15_ := Aside0.mk A15_0
  clear A15_0
  obtain ⟨q16, A16_0, h⟩ := Option.bind_eq_some_iff.mp h
  have A16_ := Aside0.mk A16_0
  clear A16_0
  obtain ⟨cq_, h⟩ := lawIfT h
  subst cq_
  obtain ⟨hz, A17_0, h⟩ := Option.bind_eq_some_iff.mp h
  have A17_ := Aside0.mk A17_0
  clear A17_0
  obtain ⟨cp17_, h⟩ := lawIfF h
  have cp17_b0 : decide (hz < 0) = false := decide_eq_false cp17_
  clear cp17_
  obtain ⟨cs18_, h⟩ := lawIfT h
  have cs18_b0 : (hz == mv) = true := beq_iff_eq.mpr cs18_
  have cs18_b1 : (hz != mv) = false := bne_eq_false_iff_eq.mpr cs18_
  clear cs18_
  clear h
  go_enter Try.func3, Try.ntmps3
  go_wp2_with (first | ((with_reducible refine gate_callee (f := 12) rfl ?_); refine gL 15 Try.func12 #[.slice A0 l0.length c0, .int .i64 1048576] ?_; (with_reducible refine (laws_szFieldS.calls _ _ l0 1048576 sz _ ?side1 ?side2 A0_.out).mono ?_); (case side1 => exact kC HR0.out); (case side2 => exact HC0.out); rintro e w' ⟨rfl, ⟨nd, rfl⟩⟩; refine ⟨_, rfl, ?_⟩) | ((with_reducible refine gate_callee (f := 14) rfl ?_); refine gL 19 Try.func14 #[.slice A0 l0.length c0] ?_; (with_reducible refine (laws_toFieldS.calls k _ _ l0 fa _ ?side1 ?side2 A1_.out).mono ?_); (case side1 => exact kC HR0.out); (case side2 => exact HC0.out); rintro e w1 ⟨v0_, rfl, ho0, hb⟩; refine ⟨_, rfl, ?_⟩; have Zw1 : Aside0 (w.heap.size ≤ w1.heap.size) := ⟨hb.size⟩; obtain ⟨Afa, cfa, eo_⟩ := Kd.R_slice ho0; subst eo_; have Ofa : Aside0 (Kd.R k67 67 w1 w.heap.size (fun k => w.heap.size ≤ k ∧ k < w1.heap.size) (.slice Afa fa.length cfa) fa) := lawRm ho0 HB.out.size; replace HB := bS hb; clear hb ho0) | ((with_reducible refine gate_callee (f := 13) rfl ?_); refine gL 21 Try.func13 #[.slice Afa fa.length cfa, .int .i64 a1] ?_; (with_reducible refine (spec_MakeMessage.calls k _ _ fa a1 ma _ ?side1 ?side2 A2_.out).mono ?_); (case side1 => exact lawRc Ofa.out); (case side2 => exact (by have h_ := Kd.R_reads' Ofa.out; omega)); rintro e w2 ⟨v0_, rfl, ho0, hb⟩; refine ⟨_, rfl, ?_⟩; clear Ofa; have Zw2 : Aside0 (w1.heap.size ≤ w2.heap.size) := ⟨hb.size⟩; obtain ⟨Ama, cma, eo_⟩ := Kd.S_slice ho0; subst eo_; have Oma : Aside0 (Kd.S k63 63 w2 w.heap.size (fun k => w1.heap.size ≤ k ∧ k < w2.heap.size) (.slice Ama ma.length cma) ma) := lawSm ho0 HB.out.size; replace HB := bS hb; clear hb ho0) | ((with_reducible refine gate_callee (f := 14) rfl ?_); refine gL 23 Try.func14 #[.slice A0 l0.length c0] ?_; (with_reducible refine (laws_toFieldS.calls k _ _ l0 xa _ ?side1 ?side2 A3_.out).mono ?_); (case side1 => exact kC HR0.out); (case side2 => exact HC0.out); rintro e w3 ⟨v0_, rfl, ho0, hb⟩; refine ⟨_, rfl, ?_⟩; replace Oma := sB Oma.out hb; have Zw3 : Aside0 (w2.heap.size ≤ w3.heap.size) := ⟨hb.size⟩; obtain ⟨Axa, cxa, eo_⟩ := Kd.R_slice ho0; subst eo_; have Oxa : Aside0 (Kd.R k67 67 w3 w.heap.size (fun k => w2.heap.size ≤ k ∧ k < w3.heap.size) (.slice Axa xa.length cxa) xa) := lawRm ho0 HB.out.size; replace HB := bS hb; clear hb ho0) | ((with_reducible refine gate_callee (f := 15) rfl ?_); refine gL 26 Try.func15 #[.slice Axa xa.length cxa, .int .i64 a1] ?_; (with_reducible refine (impl_MakeMessage.calls k _ _ xa a1 ga _ ?side1 ?side2 A4_.out).mono ?_); (case side1 => exact lawRc Oxa.out); (case side2 => exact (by have h_ := Kd.R_reads' Oxa.out; omega)); rintro e w4 ⟨v0_, rfl, ho0, hb⟩; refine ⟨_, rfl, ?_⟩; replace Oma := sB Oma.out hb; replace Oxa := rB Oxa.out hb; have Zw4 : Aside0 (w3.heap.size ≤ w4.heap.size) := ⟨hb.size⟩; obtain ⟨Aga, cga, eo_⟩ := Kd.S_slice ho0; subst eo_; have Oga : Aside0 (Kd.S k63 63 w4 w.heap.size (fun k => w3.heap.size ≤ k ∧ k < w4.heap.size) (.slice Aga ga.length cga) ga) := lawSm ho0 HB.out.size; replace HB := bS hb; clear hb ho0) | ((with_reducible refine gate_callee (f := 16) rfl ?_); refine gL 29 Try.func16 #[.slice Aga ga.length cga, .slice Ama ma.length cma] ?_; (with_reducible refine (laws_eqValueS.calls k _ _ ga _ _ ma true _ ?side1 ?side2 ?side3 ?side4 A5_.out).mono ?_); (case side1 => exact lawSc Oga.out); (case side2 => exact (by have h_ := Kd.S_reads' Oga.out; omega)); (case side3 => exact lawSc Oma.out); (case side4 => exact (by have h_ := Kd.S_reads' Oma.out; omega)); rintro e w5 ⟨rfl, hb⟩; refine ⟨_, rfl, ?_⟩; replace Oma := sB Oma.out hb; replace Oxa := rB Oxa.out hb; replace Oga := sB Oga.out hb; have Zw5 : Aside0 (w4.heap.size ≤ w5.heap.size) := ⟨hb.size⟩; replace HB := bS hb; clear hb) | ((with_reducible refine gate_callee (f := 14) rfl ?_); refine gL 33 Try.func14 #[.slice A0 l0.length c0] ?_; (with_reducible refine (laws_toFieldS.calls k _ _ l0 fb _ ?side1 ?side2 A6_.out).mono ?_); (case side1 => exact kC HR0.out); (case side2 => exact HC0.out); rintro e w6 ⟨v0_, rfl, ho0, hb⟩; refine ⟨_, rfl, ?_⟩; replace Oma := sB Oma.out hb; replace Oxa := rB Oxa.out hb; replace Oga := sB Oga.out hb; have Zw6 : Aside0 (w5.heap.size ≤ w6.heap.size) := ⟨hb.size⟩; obtain ⟨Afb, cfb, eo_⟩ := Kd.R_slice ho0; subst eo_; have Ofb : Aside0 (Kd.R k67 67 w6 w.heap.size (fun k => w5.heap.size ≤ k ∧ k < w6.heap.size) (.slice Afb fb.length cfb) fb) := lawRm ho0 HB.out.size; replace HB := bS hb; clear hb ho0) | ((with_reducible refine gate_callee (f := 17) rfl ?_); refine gL 34 Try.func17 #[.slice Axa xa.length cxa, .slice Afb fb.length cfb] ?_; (with_reducible refine (laws_eqFieldS.calls k _ _ xa _ _ fb true _ ?side1 ?side2 ?side3 ?side4 A7_.out).mono ?_); (case side1 => exact lawRc Oxa.out); (case side2 => exact (by have h_ := Kd.R_reads' Oxa.out; omega)); (case side3 => exact lawRc Ofb.out); (case side4 => exact (by have h_ := Kd.R_reads' Ofb.out; omega)); rintro e w7 ⟨rfl, hb⟩; refine ⟨_, rfl, ?_⟩; clear Ofb; replace Oma := sB Oma.out hb; replace Oxa := rB Oxa.out hb; replace Oga := sB Oga.out hb; have Zw7 : Aside0 (w6.heap.size ≤ w7.heap.size) := ⟨hb.size⟩; replace HB := bS hb; clear hb) | ((with_reducible refine gate_callee (f := 18) rfl ?_); refine gL 38 Try.func18 #[.slice Axa xa.length cxa, .int .i64 1] ?_; (with_reducible refine (laws_markFieldS.calls k (fun k => w2.heap.size ≤ k ∧ k < w3.heap.size) (.slice Axa xa.length cxa) xa 1 ka kar w _ ?side1 ?side2 A8_.out).mono ?_); (case side1 => exact lawBB); (case side2 => exact lawRw Oxa.out); rintro e w8 ⟨rfl, hy, hb, hkp⟩; refine ⟨_, rfl, ?_⟩; replace Oma := lawSk Oma.out hkp (fun k (h1_ : w1.heap.size ≤ k ∧ k < w2.heap.size) (h2_ : w2.heap.size ≤ k ∧ k < w3.heap.size) => by have := Zw1.out; have := Zw2.out; have := Zw3.out; have := Zw4.out; have := Zw5.out; have := Zw6.out; have := Zw7.out; omega); replace Oga := lawSk Oga.out hkp (fun k (h1_ : w3.heap.size ≤ k ∧ k < w4.heap.size) (h2_ : w2.heap.size ≤ k ∧ k < w3.heap.size) => by have := Zw1.out; have := Zw2.out; have := Zw3.out; have := Zw4.out; have := Zw5.out; have := Zw6.out; have := Zw7.out; omega); clear Oxa; have Zw8 : Aside0 (w7.heap.size ≤ w8.heap.size) := ⟨hkp.1⟩; replace HB := Aside0.mk hb; clear hb hkp hy) | (go_at_call 16; (with_reducible refine (laws_eqValueS.calls k _ _ ga _ _ ma true _ ?side1 ?side2 ?side3 ?side4 A10_.out).mono ?_); (case side1 => exact lawSc Oga.out); (case side2 => exact (by have h_ := Kd.S_reads' Oga.out; omega)); (case side3 => exact lawSc Oma.out); (case side4 => exact (by have h_ := Kd.S_reads' Oma.out; omega)); rintro e w9 ⟨rfl, hb⟩; replace Oma := sB Oma.out hb; replace Oga := sB Oga.out hb; have Zw9 : Aside0 (w8.heap.size ≤ w9.heap.size) := ⟨hb.size⟩; replace HB := bS hb; clear hb) | ((with_reducible refine gate_callee (f := 19) rfl ?_); refine gL 49 Try.func19 #[.slice Aga ga.length cga, .int .i64 1] ?_; (with_reducible refine (laws_markValueS.calls k (fun k => w3.heap.size ≤ k ∧ k < w4.heap.size) (.slice Aga ga.length cga) ga 1 mv mvr w _ ?side1 ?side2 A11_.out).mono ?_); (case side1 => exact lawBB); (case side2 => exact lawSw Oga.out); rintro e w10 ⟨rfl, hy, hb, hkp⟩; refine ⟨_, rfl, ?_⟩; replace Oma := lawSk Oma.out hkp (fun k (h1_ : w1.heap.size ≤ k ∧ k < w2.heap.size) (h2_ : w3.heap.size ≤ k ∧ k < w4.heap.size) => by have := Zw1.out; have := Zw2.out; have := Zw3.out; have := Zw4.out; have := Zw5.out; have := Zw6.out; have := Zw7.out; have := Zw8.out; have := Zw9.out; omega); have n_ : Aside0 (Kd.S k63 63 w10 w.heap.size (fun k => w3.heap.size ≤ k ∧ k < w4.heap.size) (.slice Aga ga.length cga) mvr) := ⟨hy⟩; clear Oga; have Oga := n_; clear n_; have NOga := Aside0.mk (Kd.S_reads' Oga.out).1; have Zw10 : Aside0 (w9.heap.size ≤ w10.heap.size) := ⟨hkp.1⟩; replace HB := Aside0.mk hb; clear hb hkp hy) | ((with_reducible refine gate_callee (f := 20) rfl ?_); refine gL 52 Try.func20 #[.slice Aga ga.length cga, .int .i64 1] ?_; refine calls_of_args (args' := #[.slice Aga mvr.length cga, .int .i64 1]) (by rw [NOga.out]) ?_; (with_reducible refine (laws_heldValueS.calls k _ _ mvr 1 hv _ ?side1 ?side2 A12_.out).mono ?_); (case side1 => exact lawSc Oga.out); (case side2 => exact (by have h_ := Kd.S_reads' Oga.out; omega)); rintro e w' ⟨rfl, ⟨nd, rfl⟩⟩; refine ⟨_, rfl, ?_⟩) | ((with_reducible refine gate_callee (f := 14) rfl ?_); refine gL 59 Try.func14 #[.slice A0 l0.length c0] ?_; (with_reducible refine (laws_toFieldS.calls k _ _ l0 fc _ ?side1 ?side2 A14_.out).mono ?_); (case side1 => exact kC HR0.out); (case side2 => exact HC0.out); rintro e w11 ⟨v0_, rfl, ho0, hb⟩; refine ⟨_, rfl, ?_⟩; replace Oma := sB Oma.out hb; replace Oga := sB Oga.out hb; have Zw11 : Aside0 (w10.heap.size ≤ w11.heap.size) := ⟨hb.size⟩; obtain ⟨Afc, cfc, eo_⟩ := Kd.R_slice ho0; subst eo_; have Ofc : Aside0 (Kd.R k67 67 w11 w.heap.size (fun k => w10.heap.size ≤ k ∧ k < w11.heap.size) (.slice Afc fc.length cfc) fc) := lawRm ho0 HB.out.size; replace HB := bS hb; clear hb ho0) | ((with_reducible refine gate_callee (f := 15) rfl ?_); refine gL 61 Try.func15 #[.slice Afc fc.length cfc, .int .i64 a1] ?_; (with_reducible refine (impl_MakeMessage.calls k _ _ fc a1 gz _ ?side1 ?side2 A15_.out).mono ?_); (case side1 => exact lawRc Ofc.out); (case side2 => exact (by have h_ := Kd.R_reads' Ofc.out; omega)); rintro e w12 ⟨v0_, rfl, ho0, hb⟩; refine ⟨_, rfl, ?_⟩; clear Ofc; replace Oma := sB Oma.out hb; replace Oga := sB Oga.out hb; have Zw12 : Aside0 (w11.heap.size ≤ w12.heap.size) := ⟨hb.size⟩; obtain ⟨Agz, cgz, eo_⟩ := Kd.S_slice ho0; subst eo_; have Ogz : Aside0 (Kd.S k63 63 w12 w.heap.size (fun k => w11.heap.size ≤ k ∧ k < w12.heap.size) (.slice Agz gz.length cgz) gz) := lawSm ho0 HB.out.size; replace HB := bS hb; clear hb ho0) | ((with_reducible refine gate_callee (f := 16) rfl ?_); refine gL 64 Try.func16 #[.slice Agz gz.length cgz, .slice Ama ma.length cma] ?_; (with_reducible refine (laws_eqValueS.calls k _ _ gz _ _ ma true _ ?side1 ?side2 ?side3 ?side4 A16_.out).mono ?_); (case side1 => exact lawSc Ogz.out); (case side2 => exact (by have h_ := Kd.S_reads' Ogz.out; omega)); (case side3 => exact lawSc Oma.out); (case side4 => exact (by have h_ := Kd.S_reads' Oma.out; omega)); rintro e w13 ⟨rfl, hb⟩; refine ⟨_, rfl, ?_⟩; clear Oma; clear Ogz; replace Oga := sB Oga.out hb; have Zw13 : Aside0 (w12.heap.size ≤ w13.heap.size) := ⟨hb.size⟩; replace HB := bS hb; clear hb) | ((with_reducible refine gate_callee (f := 20) rfl ?_); refine gL 68 Try.func20 #[.slice Aga ga.length cga, .int .i64 1] ?_; refine calls_of_args (args' := #[.slice Aga mvr.length cga, .int .i64 1]) (by rw [NOga.out]) ?_; (with_reducible refine (laws_heldValueS.calls k _ _ mvr 1 hz _ ?side1 ?side2 A17_.out).mono ?_); (case side1 => exact lawSc Oga.out); (case side2 => exact (by have h_ := Kd.S_reads' Oga.out; omega)); rintro e w' ⟨rfl, ⟨nd, rfl⟩⟩; refine ⟨_, rfl, ?_⟩))
  go_ret
  exact ⟨by first | rfl | (simp [errW_none, errW_some] <;> rfl) | (simp [*, errW_none, errW_some] <;> rfl), by repeat (first | (with_reducible first | exact HB.out | apply below_alloc | apply pw_below_drewN | apply below_drew1) | exact HB.out)⟩

/-- THE ONE PURE STATEMENT of laws_FnExactMakeMessage. -/
def laws_FnExactMakeMessage.Pure : Prop := ∀ (l0 : List (S69)) (a1 : Int), (l0.length ≤ maxLen ∧ ∀ y ∈ l0, ((Lit.int .i64 y.f0).wf = true ∧ (Lit.int .i64 y.f1).wf = true ∧ (Lit.int .i64 y.f2).wf = true ∧ (Lit.int .i64 y.f3).wf = true)) → (Lit.int .i64 a1).wf = true → ∃ k, laws_FnExactMakeMessage.f k l0 a1 = some true

end Go.Proofs.Ythgikmgdgibimaa.QFnExactMakeMessage
