/- Each Go function that the law reaches, told as a plain Lean function, and the proof that the machine's call answers just that. No condition beyond those that each theorem names. -/
import Derived.Test.YthgikmgdgibimaaQFnExactMakeBytesx0
import Derived.Test.YthgikmgdgibimaaQFnExactMakeBytesx3
namespace Go.Proofs.Ythgikmgdgibimaa.QFnExactMakeBytes
open Go.RowKit Go.Proofs.YthgikmgdgibimaaW.PrintWords Go.Proofs.YthgikmgdgibimaaW.PrintLast Go.Proofs.YthgikmgdgibimaaW.PrintMore
attribute [local go_sem] max2_int min2_int max_two min_two max_three min_three max_four min_four   -- for this text's walks alone
set_option linter.unusedVariables false
set_option linter.unusedSimpArgs false

/-! ### spec_Hash: function 80 -/
def spec_Hash.l0 : Nat → List Int → Int → Int → Option (Int)
  | 0, _, _, _ => none
  | k + 1, x0, x3, x4 => if x4 < (x0.length : Int) then (if 0 ≤ x4 then ((spec_Mod.f (rd x0 x4) 2147483647).bind fun t241 => (spec_Hash.l0 k x0 (Int.tmod (wrap64 ((wrap64 ((wrap64 (x3 * 1000003)) + t241)) + 13)) 2147483647) (wrap64 (x4 + 1)))) else (none)) else (some x3)
def spec_Hash.f (k : Nat) (l0 : List Int) : Option (Int) := spec_Hash.l0 k l0 11 0
theorem spec_Hash.mono_l : ∀ k, (∀ y0 y1 y2, LeO (spec_Hash.l0 k y0 y1 y2) (spec_Hash.l0 (k + 1) y0 y1 y2))
  | 0 => fun _ _ _ r h => by simp [spec_Hash.l0] at h
  | k + 1 => by
    have ih0 := spec_Hash.mono_l k
    · intro y0 y1 y2
      unfold spec_Hash.l0
      repeat' first
      | (with_reducible exact ih0 _ _ _)
      | (with_reducible exact LeO.refl _)
      | (with_reducible exact LeO.none _)
      | (with_reducible refine LeO.ite ?_ ?_)
      | (with_reducible refine LeO.bind ?_ (fun _ => ?_))
      | exact ih0 _ _ _
      | exact LeO.none _
      | refine LeO.ite ?_ ?_
      | refine LeO.bind ?_ (fun _ => ?_)
theorem spec_Hash.mono : ∀ a0 k, LeO (spec_Hash.f k a0) (spec_Hash.f (k + 1) a0) := by
  intro a0 k
  have ih0 := spec_Hash.mono_l k
  unfold spec_Hash.f
  repeat' first
      | (with_reducible exact ih0 _ _ _)
      | (with_reducible exact LeO.refl _)
      | (with_reducible exact LeO.none _)
      | (with_reducible refine LeO.ite ?_ ?_)
      | (with_reducible refine LeO.bind ?_ (fun _ => ?_))
      | exact ih0 _ _ _
      | exact LeO.none _
      | refine LeO.ite ?_ ?_
      | refine LeO.bind ?_ (fun _ => ?_)
set_option maxHeartbeats 8000000 in
set_option maxRecDepth 100000 in
theorem spec_Hash.calls (k : Nat) (A0 : Option Addr) (c0 : Nat) (l0 : List Int) (r : Int) (w : World) (hr0 : Kd.C (Kd.int .i64) w A0 l0.length l0) (hc0 : l0.length ≤ c0) (h : spec_Hash.f k l0 = some r) :
    Calls Try.prog 80 #[.slice A0 l0.length c0] w fun e w' => e = .returned (.int .i64 r) ∧ Drawn0 w w' := by
  have HR0 := Aside0.mk hr0
  have HC0 := Aside0.mk hc0
  clear hr0 hc0
  have H : (spec_Hash.l0 k l0 11 0) = some r := h
  clear h
  have H' := Aside0.mk H
  clear H
  go_enter Try.func80, Try.ntmps80
  go_wp2
  go_loopg [3, 4] k (fun kq v3 v4 w' => ∃ (x3_1 : Int) (x4_1 : Int), v3 = .int .i64 x3_1 ∧ v4 = .int .i64 x4_1 ∧ Aside0 (spec_Hash.l0 kq l0 x3_1 x4_1 = some r) ∧ Aside0 (kq ≤ k) ∧ Drawn0 w w')
  case atStart => exact ⟨(11), (0), (by first | rfl | (simp; done) | (simp [*]; done)), (by first | rfl | (simp; done) | (simp [*]; done)), H', ⟨Nat.le_refl _⟩, by repeat (first | exact Drawn0.refl _ | apply Drawn0.step)⟩
  case round =>
    clear H'
    obtain ⟨x3_1, x4_1, rfl, rfl, HA, HK1, ⟨m1, rfl⟩⟩ := hrel
    cases gk with
    | zero => exact absurd HA.out (by simp [spec_Hash.l0])
    | succ k1 =>
      have H := HA.out
      clear HA
      simp only [spec_Hash.l0] at H
      by_cases c2 : x4_1 < (l0.length : Int)
      · rw [if_pos c2] at H
        have c2b0 : decide (x4_1 < (l0.length : Int)) = true := decide_eq_true c2
        clear c2
        by_cases c3 : 0 ≤ x4_1
        · rw [if_pos c3] at H
          have c3b0 : decide (0 ≤ x4_1) = true := decide_eq_true c3; clear c3; replace H := Option.bind_eq_some_iff.mp H; obtain ⟨t241, A40, H⟩ := H; replace H : (spec_Hash.l0 k1 l0 (Int.tmod (wrap64 ((wrap64 ((wrap64 (x3_1 * 1000003)) + t241)) + 13)) 2147483647) (wrap64 (x4_1 + 1))) = some r := H; have A4 := Aside0.mk A40; clear A40; have H' := Aside0.mk H; clear H; (have p240 : 0 ≤ (x4_1 : Int) := of_decide_eq_true (by assumption)); (have q240 : x4_1 < (l0.length : Int) := of_decide_eq_true (by assumption)); obtain ⟨ad240, e240, hx240_0⟩ := Kd.at_int HR0.out x4_1 p240 q240; cases e240; replace p240 := eq_true p240; replace q240 := eq_true q240; (go_wp2_with (first | ((with_reducible refine gate_callee (f := 79) rfl ?_); refine gL 17 Try.func79 #[.int .i64 (rd l0 x4_1), .int .i64 2147483647] ?_; (with_reducible refine (spec_Mod.calls (rd l0 x4_1) 2147483647 t241 _ A4.out).mono ?_); rintro e w' ⟨rfl, ⟨nd, rfl⟩⟩; refine ⟨_, rfl, ?_⟩))); go_roundg k1
          case measure => have := HK1.out; omega
          case rel => exact ⟨(Int.tmod (wrap64 ((wrap64 ((wrap64 (x3_1 * 1000003)) + t241)) + 13)) 2147483647), (wrap64 (x4_1 + 1)), (by first | rfl | (simp; done) | (simp [*]; done)), (by first | rfl | (simp; done) | (simp [*]; done)), H', ⟨by have := HK1.out; omega⟩, by repeat (first | exact Drawn0.refl _ | apply Drawn0.step)⟩
        · rw [if_neg c3] at H
          exact absurd H (by simp)
      · rw [if_neg c2] at H
        have c2b0 : decide (x4_1 < (l0.length : Int)) = false := decide_eq_false c2
        clear c2
        obtain rfl := Option.some.inj H
        go_wp2
        go_ret
        exact ⟨by first | rfl | (simp; done) | (simp [*]; done), by repeat (first | exact Drawn0.refl _ | apply Drawn0.step)⟩

/-! ### spec_PickOf: function 53 -/
def spec_PickOf.f (k : Nat) (a0 : Int) (a1 : Int) (a2 : Int) : Option (Int) := if a2 < 1 then (some 0) else ((spec_Hash.f k (([a0, a1] : List Int))).bind fun t245 => ((spec_Mod.f t245 a2).bind fun t246 => (some t246)))
theorem spec_PickOf.mono : ∀ a0 a1 a2 k, LeO (spec_PickOf.f k a0 a1 a2) (spec_PickOf.f (k + 1) a0 a1 a2) := by
  intro a0 a1 a2 k
  unfold spec_PickOf.f
  repeat' first
      | (with_reducible exact spec_Hash.mono _ _)
      | (with_reducible exact LeO.refl _)
      | (with_reducible exact LeO.none _)
      | (with_reducible refine LeO.ite ?_ ?_)
      | (with_reducible refine LeO.bind ?_ (fun _ => ?_))
      | exact spec_Hash.mono _ _
      | exact LeO.none _
      | refine LeO.ite ?_ ?_
      | refine LeO.bind ?_ (fun _ => ?_)
set_option maxHeartbeats 8000000 in
set_option maxRecDepth 100000 in
theorem spec_PickOf.calls (k : Nat) (a0 : Int) (a1 : Int) (a2 : Int) (r : Int) (w : World) (h : spec_PickOf.f k a0 a1 a2 = some r) :
    Calls Try.prog 53 #[.int .i64 a0, .int .i64 a1, .int .i64 a2] w fun e w' => e = .returned (.int .i64 r) ∧ Below w.heap.size w w' := by
  have HB := Aside0.mk (Below.refl w.heap.size w)
  have H : (if a2 < 1 then (some 0) else ((spec_Hash.f k (([a0, a1] : List Int))).bind fun t245 => ((spec_Mod.f t245 a2).bind fun t246 => (some t246)))) = some r := h
  clear h
  by_cases c4 : a2 < 1
  · rw [if_pos c4] at H
    have c4b0 : decide (a2 < 1) = true := decide_eq_true c4
    clear c4
    obtain rfl := Option.some.inj H
    go_enter Try.func53, Try.ntmps53
    go_wp2
    go_ret
    exact ⟨by first | rfl | (simp [errW_none, errW_some] <;> rfl) | (simp [*, errW_none, errW_some] <;> rfl), by repeat (first | (with_reducible first | exact HB.out | apply below_alloc | apply pw_below_drewN | apply below_drew1) | exact HB.out)⟩
  · rw [if_neg c4] at H
    have c4b0 : decide (a2 < 1) = false := decide_eq_false c4
    clear c4
    obtain ⟨y242, hy242⟩ : ∃ y_ : List Int, y_ = (([a0, a1] : List Int)) := ⟨_, rfl⟩
    replace H : ((spec_Hash.f k y242).bind fun t245 => ((spec_Mod.f t245 a2).bind fun t246 => (some t246))) = some r := by first | (rw [hy242]; with_reducible exact H) | (have H2_ := (Option.bind_some _ _).symm.trans H; rw [hy242]; with_reducible exact H2_) | (have H2_ := (Option.bind_some _ _).symm.trans H; with_reducible exact H2_) | with_reducible exact H | (rw [hy242]; exact H) | exact H
    have Ny242 := Aside0.mk hy242
    clear hy242
    replace H := Option.bind_eq_some_iff.mp H
    obtain ⟨t245, A50, H⟩ := H
    replace H : ((spec_Mod.f t245 a2).bind fun t246 => (some t246)) = some r := H
    have A5 := Aside0.mk A50
    clear A50
    replace H := Option.bind_eq_some_iff.mp H
    obtain ⟨t246, A60, H⟩ := H
    replace H : (some t246) = some r := H
    have A6 := Aside0.mk A60
    clear A60
    obtain rfl := Option.some.inj H
    go_enter Try.func53, Try.ntmps53
    go_wp2_with (first | ((with_reducible refine gate_dst (N := 11) rfl ?_); refine Kd.R_lit (Kd.int .i64) _ 3 ?hg (N := 11) ?hd (xs := ([a0, a1] : List Int)) (inner := [.int .i64 a0, .int .i64 a1]) (ok := fun _ => True) (okp := fun _ => True) ?hr ?hp (fun _ hk => hk) trivial (Below.refl _ _) (Nat.le_refl _) (by simp) ?_; (case hd => rfl); (case hg => rfl); (case hr => first | (go_simp; done) | (go_simp; rfl)); (case hp => exact (Reps.one (show Kd.M (Kd.int .i64) _ _ _ a0 [.int .i64 a0] from rfl) (Reps.one (show Kd.M (Kd.int .i64) _ _ _ a1 [.int .i64 a1] from rfl) (Reps.none _ _)))); intro v243 w7 ho8 hb hg_ hnew_; clear hg_ hnew_; (first | rw [← Ny242.out] at ho8 | (simp only [Int.reduceToNat] at ho8; rw [← Ny242.out] at ho8)); have n0_ := Aside0.mk (Kd.R_lower ho8 (below_size (by repeat (first | (with_reducible first | exact HB.out | apply below_alloc | apply pw_below_drewN | apply below_drew1) | exact HB.out)))); have n1_ := bS hb; clear HB; have HO244 := n0_; have HB := n1_; clear n0_ n1_; clear hb ho8; obtain ⟨Ao9, co9, eo9⟩ := Kd.R_slice HO244.out; subst eo9) | ((with_reducible refine gate_callee (f := 80) rfl ?_); refine gL 12 Try.func80 #[.slice Ao9 y242.length co9] ?_; (with_reducible refine (spec_Hash.calls k _ _ y242 t245 _ ?side1 ?side2 A5.out).mono ?_); (case side1 => repeat (first | exact (Kd.R_reads' HO244.out).2.2 | (with_reducible refine Kd.C_alloc ?_ _) | (with_reducible refine Kd.C_drewN ?_ _) | (with_reducible refine Kd.C_drew ?_))); (case side2 => exact (Kd.R_reads' HO244.out).2.1); rintro e w' ⟨rfl, ⟨nd, rfl⟩⟩; refine ⟨_, rfl, ?_⟩) | ((with_reducible refine gate_callee (f := 79) rfl ?_); refine gL 14 Try.func79 #[.int .i64 t245, .int .i64 a2] ?_; (with_reducible refine (spec_Mod.calls t245 a2 t246 _ A6.out).mono ?_); rintro e w' ⟨rfl, ⟨nd, rfl⟩⟩; refine ⟨_, rfl, ?_⟩))
    go_ret
    exact ⟨by first | rfl | (simp [errW_none, errW_some] <;> rfl) | (simp [*, errW_none, errW_some] <;> rfl), by repeat (first | (with_reducible first | exact HB.out | apply below_alloc | apply pw_below_drewN | apply below_drew1) | exact HB.out)⟩

/-! ### spec_MakeMessage: function 13 -/
mutual
abbrev m13x0 : Array Bool := #[true, true, true, true, true, true, true, true, true, true, true, true, true]
abbrev m13x1 : Array Bool := #[true, true, true, true, true, true, true, true, true, true, true, true, false]
abbrev m13x2 : Array Bool := #[true, true, true, true, true, true, true, true, true, true, true, false, false]
abbrev m13x3 : Array Bool := #[true, true, true, true, true, true, true, true, true, true, false, false, false]
abbrev m13x4 : Array Bool := #[true, true, true, true, true, true, true, true, true, false, false, false, false]
abbrev m13x5 : Array Bool := #[true, true, true, true, true, true, true, true, false, false, false, false, false]
abbrev m13x6 : Array Bool := #[true, false, true, true, true, true, true, true, false, false, false, false, false]
abbrev m13x7 : Array Bool := #[true, false, true, true, true, true, true, false, false, false, false, false, false]
abbrev m13x8 : Array Bool := #[true, false, true, true, true, true, false, false, false, false, false, false, false]
abbrev m13x9 : Array Bool := #[true, false, true, true, true, false, false, false, false, false, false, false, false]
abbrev m13x10 : Array Bool := #[true, false, true, true, false, false, false, false, false, false, false, false, false]
abbrev m13x11 : Array Bool := #[true, false, true, false, false, false, false, false, false, false, false, false, false]
abbrev m13x12 : Array Bool := #[true, false, false, false, false, false, false, false, false, false, false, false, false]
abbrev m13x13 : Array Bool := #[false, false, false, false, false, false, false, false, false, false, false, false, false]
def spec_MakeMessage.l0 : Nat → List (S67) → Int → List (S63) → Int → Option ((List (S63)))
  | 0, _, _, _, _ => none
  | k + 1, x0, x1, x5, x6 => if x6 < (x0.length : Int) then ((spec_IsFormat.f k x0).bind fun t250 => (spec_MakeMessage.j1 k x0 x1 x5 x6 t250)) else (spec_MakeMessage.j1 k x0 x1 x5 x6 false)
def spec_MakeMessage.j1 : Nat → List (S67) → Int → List (S63) → Int → Bool → Option ((List (S63)))
  | 0, _, _, _, _, _ => none
  | k + 1, x0, x1, x5, x6, x18 => if x18 = true then ((spec_IsThere.f x0 x5 x6).bind fun t252 => (if t252 = true then (if 0 ≤ x6 then (if x6 < (x0.length : Int) then ((spec_PickOf.f k x1 (wrap64 (16 * x6)) (wrap64 (((rd_T67 x0 x6).f1) + 1))).bind fun t254 => (if ((rd_T67 x0 x6).f0) = 1 then (spec_MakeMessage.j2 k x0 x1 x5 x6 t254 t254) else (spec_MakeMessage.j2 k x0 x1 x5 x6 t254 0))) else (none)) else (none)) else (if x5.length < 4398046511104 then (spec_MakeMessage.l0 k x0 x1 (x5 ++ [(⟨0, ([] : List Int)⟩ : S63)]) (wrap64 (x6 + 1))) else (none)))) else (some x5)
def spec_MakeMessage.j2 : Nat → List (S67) → Int → List (S63) → Int → Int → Int → Option ((List (S63)))
  | 0, _, _, _, _, _, _ => none
  | k + 1, x0, x1, x5, x6, x8, x252000 => spec_MakeMessage.l1 k x0 x1 x5 x6 x8 0 x252000 ([] : List Int)
def spec_MakeMessage.l1 : Nat → List (S67) → Int → List (S63) → Int → Int → Int → Int → List Int → Option ((List (S63)))
  | 0, _, _, _, _, _, _, _, _ => none
  | k + 1, x0, x1, x5, x6, x8, x9, x252000, x252001 => if x9 < x8 then (if 0 ≤ x6 then (if x6 < (x0.length : Int) then (if ((rd_T67 x0 x6).f0) = 1 then (if x5.length < 4398046511104 then (spec_MakeMessage.l0 k x0 x1 (x5 ++ [(⟨x252000, x252001⟩ : S63)]) (wrap64 (x6 + 1))) else (none)) else ((spec_PickOf.f k x1 (wrap64 ((wrap64 ((wrap64 (16 * x6)) + x9)) + 1)) 100).bind fun t260 => (if x252001.length < 17592186044416 then (spec_MakeMessage.l1 k x0 x1 x5 x6 x8 (wrap64 (x9 + 1)) x252000 (x252001 ++ [t260])) else (none)))) else (none)) else (none)) else (if x5.length < 4398046511104 then (spec_MakeMessage.l0 k x0 x1 (x5 ++ [(⟨x252000, x252001⟩ : S63)]) (wrap64 (x6 + 1))) else (none))
end
def spec_MakeMessage.f (k : Nat) (l0 : List (S67)) (a1 : Int) : Option ((List (S63))) := spec_MakeMessage.l0 k l0 a1 (([] : List (S63))) 0
theorem spec_MakeMessage.mono_l : ∀ k, (∀ y0 y1 y2 y3, LeO (spec_MakeMessage.l0 k y0 y1 y2 y3) (spec_MakeMessage.l0 (k + 1) y0 y1 y2 y3)) ∧ (∀ y0 y1 y2 y3 y4, LeO (spec_MakeMessage.j1 k y0 y1 y2 y3 y4) (spec_MakeMessage.j1 (k + 1) y0 y1 y2 y3 y4)) ∧ (∀ y0 y1 y2 y3 y4 y5, LeO (spec_MakeMessage.j2 k y0 y1 y2 y3 y4 y5) (spec_MakeMessage.j2 (k + 1) y0 y1 y2 y3 y4 y5)) ∧ (∀ y0 y1 y2 y3 y4 y5 y6 y7, LeO (spec_MakeMessage.l1 k y0 y1 y2 y3 y4 y5 y6 y7) (spec_MakeMessage.l1 (k + 1) y0 y1 y2 y3 y4 y5 y6 y7))
  | 0 => ⟨fun _ _ _ _ r h => by simp [spec_MakeMessage.l0] at h, fun _ _ _ _ _ r h => by simp [spec_MakeMessage.j1] at h, fun _ _ _ _ _ _ r h => by simp [spec_MakeMessage.j2] at h, fun _ _ _ _ _ _ _ _ r h => by simp [spec_MakeMessage.l1] at h⟩
  | k + 1 => by
    obtain ⟨ih0, ih1, ih2, ih3⟩ := spec_MakeMessage.mono_l k
    refine ⟨?_, ?_, ?_, ?_⟩
    · intro y0 y1 y2 y3
      unfold spec_MakeMessage.l0
      repeat' first
      | (with_reducible exact ih0 _ _ _ _)
      | (with_reducible exact ih1 _ _ _ _ _)
      | (with_reducible exact ih2 _ _ _ _ _ _)
      | (with_reducible exact ih3 _ _ _ _ _ _ _ _)
      | (with_reducible exact spec_IsFormat.mono _ _)
      | (with_reducible exact spec_PickOf.mono _ _ _ _)
      | (with_reducible exact LeO.refl _)
      | (with_reducible exact LeO.none _)
      | (with_reducible refine LeO.ite ?_ ?_)
      | (with_reducible refine LeO.bind ?_ (fun _ => ?_))
      | exact ih0 _ _ _ _
      | exact ih1 _ _ _ _ _
      | exact ih2 _ _ _ _ _ _
      | exact ih3 _ _ _ _ _ _ _ _
      | exact spec_IsFormat.mono _ _
      | exact spec_PickOf.mono _ _ _ _
      | exact LeO.none _
      | refine LeO.ite ?_ ?_
      | refine LeO.bind ?_ (fun _ => ?_)
    · intro y0 y1 y2 y3 y4
      unfold spec_MakeMessage.j1
      repeat' first
      | (with_reducible exact ih0 _ _ _ _)
      | (with_reducible exact ih1 _ _ _ _ _)
      | (with_reducible exact ih2 _ _ _ _ _ _)
      | (with_reducible exact ih3 _ _ _ _ _ _ _ _)
      | (with_reducible exact spec_IsFormat.mono _ _)
      | (with_reducible exact spec_PickOf.mono _ _ _ _)
      | (with_reducible exact LeO.refl _)
      | (with_reducible exact LeO.none _)
      | (with_reducible refine LeO.ite ?_ ?_)
      | (with_reducible refine LeO.bind ?_ (fun _ => ?_))
      | exact ih0 _ _ _ _
      | exact ih1 _ _ _ _ _
      | exact ih2 _ _ _ _ _ _
      | exact ih3 _ _ _ _ _ _ _ _
      | exact spec_IsFormat.mono _ _
      | exact spec_PickOf.mono _ _ _ _
      | exact LeO.none _
      | refine LeO.ite ?_ ?_
      | refine LeO.bind ?_ (fun _ => ?_)
    · intro y0 y1 y2 y3 y4 y5
      unfold spec_MakeMessage.j2
      repeat' first
      | (with_reducible exact ih0 _ _ _ _)
      | (with_reducible exact ih1 _ _ _ _ _)
      | (with_reducible exact ih2 _ _ _ _ _ _)
      | (with_reducible exact ih3 _ _ _ _ _ _ _ _)
      | (with_reducible exact spec_IsFormat.mono _ _)
      | (with_reducible exact spec_PickOf.mono _ _ _ _)
      | (with_reducible exact LeO.refl _)
      | (with_reducible exact LeO.none _)
      | (with_reducible refine LeO.ite ?_ ?_)
      | (with_reducible refine LeO.bind ?_ (fun _ => ?_))
      | exact ih0 _ _ _ _
      | exact ih1 _ _ _ _ _
      | exact ih2 _ _ _ _ _ _
      | exact ih3 _ _ _ _ _ _ _ _
      | exact spec_IsFormat.mono _ _
      | exact spec_PickOf.mono _ _ _ _
      | exact LeO.none _
      | refine LeO.ite ?_ ?_
      | refine LeO.bind ?_ (fun _ => ?_)
    · intro y0 y1 y2 y3 y4 y5 y6 y7
      unfold spec_MakeMessage.l1
      repeat' first
      | (with_reducible exact ih0 _ _ _ _)
      | (with_reducible exact ih1 _ _ _ _ _)
      | (with_reducible exact ih2 _ _ _ _ _ _)
      | (with_reducible exact ih3 _ _ _ _ _ _ _ _)
      | (with_reducible exact spec_IsFormat.mono _ _)
      | (with_reducible exact spec_PickOf.mono _ _ _ _)
      | (with_reducible exact LeO.refl _)
      | (with_reducible exact LeO.none _)
      | (with_reducible refine LeO.ite ?_ ?_)
      | (with_reducible refine LeO.bind ?_ (fun _ => ?_))
      | exact ih0 _ _ _ _
      | exact ih1 _ _ _ _ _
      | exact ih2 _ _ _ _ _ _
      | exact ih3 _ _ _ _ _ _ _ _
      | exact spec_IsFormat.mono _ _
      | exact spec_PickOf.mono _ _ _ _
      | exact LeO.none _
      | refine LeO.ite ?_ ?_
      | refine LeO.bind ?_ (fun _ => ?_)
theorem spec_MakeMessage.mono : ∀ a0 a1 k, LeO (spec_MakeMessage.f k a0 a1) (spec_MakeMessage.f (k + 1) a0 a1) := by
  intro a0 a1 k
  obtain ⟨ih0, ih1, ih2, ih3⟩ := spec_MakeMessage.mono_l k
  unfold spec_MakeMessage.f
  repeat' first
      | (with_reducible exact ih0 _ _ _ _)
      | (with_reducible exact ih1 _ _ _ _ _)
      | (with_reducible exact ih2 _ _ _ _ _ _)
      | (with_reducible exact ih3 _ _ _ _ _ _ _ _)
      | (with_reducible exact spec_IsFormat.mono _ _)
      | (with_reducible exact spec_PickOf.mono _ _ _ _)
      | (with_reducible exact LeO.refl _)
      | (with_reducible exact LeO.none _)
      | (with_reducible refine LeO.ite ?_ ?_)
      | (with_reducible refine LeO.bind ?_ (fun _ => ?_))
      | exact ih0 _ _ _ _
      | exact ih1 _ _ _ _ _
      | exact ih2 _ _ _ _ _ _
      | exact ih3 _ _ _ _ _ _ _ _
      | exact spec_IsFormat.mono _ _
      | exact spec_PickOf.mono _ _ _ _
      | exact LeO.none _
      | refine LeO.ite ?_ ?_
      | refine LeO.bind ?_ (fun _ => ?_)
def spec_MakeMessage.T13 : Bool × List (List Nat × List Nat) := (true, [([], []), ([0], [0]), ([], []), ([], []), ([3], [3]), ([], []), ([4, 5], [4, 5]), ([6], [6]), ([2, 7], [2, 7]), ([8], [8]), ([1, 9, 8], [1, 9]), ([0, 1, 2, 3, 4, 5, 6, 7, 8, 9, 10], []), ([11, 10, 10, 0, 1, 2, 3, 4, 5, 6, 7, 8, 9, 10], [10, 11])])
def spec_MakeMessage.B13 : List Nat := [0, 1, 0, 0, 8, 0, 56, 120, 252, 508, 1023, 2047, 4095]
theorem spec_MakeMessage.tab13 : rtab .any (opsOf Try.f13 13) = spec_MakeMessage.T13 := by kernel_rfl
theorem spec_MakeMessage.bits13 : waitsOk spec_MakeMessage.T13.2 spec_MakeMessage.B13 = true := by kernel_rfl
set_option maxHeartbeats 8000000 in
set_option maxRecDepth 100000 in
theorem spec_MakeMessage.calls (k : Nat) (A0 : Option Addr) (c0 : Nat) (l0 : List (S67)) (a1 : Int) (r : List (S63)) (w : World) (hr0 : Kd.C k67 w A0 l0.length l0) (hc0 : l0.length ≤ c0) (h : spec_MakeMessage.f k l0 a1 = some r) :
    Calls Try.prog 13 #[.slice A0 l0.length c0, .int .i64 a1] w fun e w' => ∃ v0_ : Value, e = .returned (v0_) ∧ Kd.S k63 63 w' w.heap.size (fun _ => True) v0_ r ∧ Below w.heap.size w w' := by
  have hu63 := Try.underlying63
  have HR0 := Aside0.mk hr0
  have HC0 := Aside0.mk hc0
  clear hr0 hc0
  have HB := Aside0.mk (Below.refl w.heap.size w)
  have H : (spec_MakeMessage.l0 k l0 a1 (([] : List (S63))) 0) = some r := h
  clear h
  obtain ⟨y247, hy247⟩ : ∃ y_ : List (S63), y_ = (([] : List (S63))) := ⟨_, rfl⟩
  replace H : (spec_MakeMessage.l0 k l0 a1 y247 0) = some r := by first | (rw [hy247]; with_reducible exact H) | (have H2_ := (Option.bind_some _ _).symm.trans H; rw [hy247]; with_reducible exact H2_) | (have H2_ := (Option.bind_some _ _).symm.trans H; with_reducible exact H2_) | with_reducible exact H | (rw [hy247]; exact H) | exact H
  have Ny247 := Aside0.mk hy247
  clear hy247
  have H' := Aside0.mk H
  clear H
  go_enter Try.func13, Try.ntmps13
  go_wp2_with (first | ((with_reducible refine gate_dst (N := 10) rfl ?_); refine Kd.S_lit k63 _ 63 ?hg (N := 10) ?hd (xs := ([] : List (S63))) (inner := []) (ok := fun _ => True) (okp := fun _ => True) ?hr ?hp (fun _ hk => hk) trivial (Below.refl _ _) (Nat.le_refl _) (by simp) ?_; (case hd => rfl); (case hg => rfl); (case hr => first | (go_simp; done) | (go_simp; rfl)); (case hp => exact (Reps.none _ _)); intro v248 w3 ho4 hb hg_ hnew_; clear hg_ hnew_; (first | rw [← Ny247.out] at ho4 | (simp only [Int.reduceToNat] at ho4; rw [← Ny247.out] at ho4)); have n0_ := Aside0.mk (Kd.S_lower ho4 (below_size (by repeat (first | (with_reducible first | exact HB.out | apply below_alloc | apply pw_below_drewN | apply below_drew1) | exact HB.out)))); have n1_ := bS hb; clear HB; have HO249 := n0_; have HB := n1_; clear n0_ n1_; clear hb ho4))
  go_loopg [5, 6] k (fun kq v5 v6 w' => ∃ (x5_1 : List (S63)) (x6_1 : Int), v6 = .int .i64 x6_1 ∧ Aside0 (spec_MakeMessage.l0 kq l0 a1 x5_1 x6_1 = some r) ∧ Aside0 (kq ≤ k) ∧ Aside0 (Kd.S k63 63 w' w.heap.size (fun _ => True) v5 x5_1) ∧ Aside0 (Below w.heap.size w w'))
  case atStart => exact ⟨(y247), (0), (by first | rfl | (simp; done) | (simp [*]; done)), H', ⟨Nat.le_refl _⟩, ⟨by (with_reducible repeat (first | apply Kd.S_alloc | apply Kd.S_drewN | apply Kd.S_drew)); exact HO249.out⟩, ⟨by repeat (first | (with_reducible first | exact HB.out | apply below_alloc | apply pw_below_drewN | apply below_drew1) | exact HB.out)⟩⟩
  case round =>
    clear H'
    try clear c1
    try clear p2
    obtain ⟨x5_1, x6_1, rfl, HA, HK1, HO_5, HB⟩ := hrel
    cases gk with
    | zero => exact absurd HA.out (by simp [spec_MakeMessage.l0])
    | succ k1 =>
      have H := HA.out
      clear HA
      simp only [spec_MakeMessage.l0] at H
      have HC5 := Aside0.mk H
      clear H
      go_upto_region 3 with (fail)
      go_cut [18] (fun v18 wc => ∃ (kq : Nat) (x18_4 : Bool), v18 = .bool x18_4 ∧ Aside0 (spec_MakeMessage.j1 kq l0 a1 x5_1 x6_1 x18_4 = some r) ∧ Aside0 (kq ≤ k1) ∧ Aside0 (Kd.S k63 63 wc w.heap.size (fun _ => True) u5 x5_1) ∧ Aside0 (Below w.heap.size w wc))
      case first =>
        have H := HC5.out
        clear HC5
        by_cases c6 : x6_1 < (l0.length : Int)
        · rw [if_pos c6] at H
          have c6b0 : decide (x6_1 < (l0.length : Int)) = true := decide_eq_true c6; clear c6; ((first | rw [c6b0] | (simp only [i64_w, i32_w]; rw [c6b0]) | skip)); replace H := Option.bind_eq_some_iff.mp H; obtain ⟨t250, A70, H⟩ := H; replace H : (spec_MakeMessage.j1 k1 l0 a1 x5_1 x6_1 t250) = some r := H; have A7 := Aside0.mk A70; clear A70; have H' := Aside0.mk H; clear H; (go_wp2_with (first | (go_at_call 39; (with_reducible refine (spec_IsFormat.calls k1 _ _ l0 t250 _ ?side1 ?side2 A7.out).mono ?_); (case side1 => exact kC HR0.out); (case side2 => exact HC0.out); rintro e w8 ⟨rfl, hb⟩; have n0_ := sB HO_5.out hb; have n1_ := bS hb; clear HO_5; clear HB; have HO_5 := n0_; have HB := n1_; clear n0_ n1_; (try clear hb); (try clear hb2); (try clear hk); (try clear hi)))); go_meet
          case rel => exact ⟨_, (t250), (by first | rfl | (simp; done) | (simp [*]; done)), H', ⟨by have := HK1.out; first | omega | exact Nat.le_refl _⟩, ⟨by (with_reducible repeat (first | apply Kd.S_alloc | apply Kd.S_drewN | apply Kd.S_drew)); exact HO_5.out⟩, ⟨by repeat (first | (with_reducible first | exact HB.out | apply below_alloc | apply pw_below_drewN | apply below_drew1) | exact HB.out)⟩⟩
        · rw [if_neg c6] at H
          have c6b0 : decide (x6_1 < (l0.length : Int)) = false := decide_eq_false c6; clear c6; ((first | rw [c6b0] | (simp only [i64_w, i32_w]; rw [c6b0]) | skip)); have H' := Aside0.mk H; clear H; go_wp2; go_meet
          case rel => exact ⟨_, (false), (by first | rfl | (simp; done) | (simp [*]; done)), H', ⟨by have := HK1.out; first | omega | exact Nat.le_refl _⟩, ⟨by (with_reducible repeat (first | apply Kd.S_alloc | apply Kd.S_drewN | apply Kd.S_drew)); exact HO_5.out⟩, ⟨by repeat (first | (with_reducible first | exact HB.out | apply below_alloc | apply pw_below_drewN | apply below_drew1) | exact HB.out)⟩⟩
      case rest =>
        clear HC5
        try clear c1
        try clear p2
        try clear c6
        try clear c6b0
        try clear p2
        obtain ⟨kq, x18_4, rfl, HA, HJ4, HO_5, HB⟩ := hcut
        cases kq with
        | zero => exact absurd HA.out (by simp [spec_MakeMessage.j1])
        | succ kj4 =>
          have H := HA.out; clear HA; simp only [spec_MakeMessage.j1] at H; by_cases c9 : x18_4 = true
          · subst c9
            (have H1 : ((spec_IsThere.f l0 x5_1 x6_1).bind fun t252 => (if t252 = true then (if 0 ≤ x6_1 then (if x6_1 < (l0.length : Int) then ((spec_PickOf.f kj4 a1 (wrap64 (16 * x6_1)) (wrap64 (((rd_T67 l0 x6_1).f1) + 1))).bind fun t254 => (if ((rd_T67 l0 x6_1).f0) = 1 then (spec_MakeMessage.j2 kj4 l0 a1 x5_1 x6_1 t254 t254) else (spec_MakeMessage.j2 kj4 l0 a1 x5_1 x6_1 t254 0))) else (none)) else (none)) else (if x5_1.length < 4398046511104 then (spec_MakeMessage.l0 kj4 l0 a1 (x5_1 ++ [(⟨0, ([] : List Int)⟩ : S63)]) (wrap64 (x6_1 + 1))) else (none)))) = some r := by rw [if_pos rfl] at H; exact H); clear H; have H := H1; clear H1; replace H := Option.bind_eq_some_iff.mp H; obtain ⟨t252, A100, H⟩ := H; replace H : (if t252 = true then (if 0 ≤ x6_1 then (if x6_1 < (l0.length : Int) then ((spec_PickOf.f kj4 a1 (wrap64 (16 * x6_1)) (wrap64 (((rd_T67 l0 x6_1).f1) + 1))).bind fun t254 => (if ((rd_T67 l0 x6_1).f0) = 1 then (spec_MakeMessage.j2 kj4 l0 a1 x5_1 x6_1 t254 t254) else (spec_MakeMessage.j2 kj4 l0 a1 x5_1 x6_1 t254 0))) else (none)) else (none)) else (if x5_1.length < 4398046511104 then (spec_MakeMessage.l0 kj4 l0 a1 (x5_1 ++ [(⟨0, ([] : List Int)⟩ : S63)]) (wrap64 (x6_1 + 1))) else (none))) = some r := H; have A10 := Aside0.mk A100; clear A100; by_cases c11 : t252 = true
            · subst c11
              (have H1 : (if 0 ≤ x6_1 then (if x6_1 < (l0.length : Int) then ((spec_PickOf.f kj4 a1 (wrap64 (16 * x6_1)) (wrap64 (((rd_T67 l0 x6_1).f1) + 1))).bind fun t254 => (if ((rd_T67 l0 x6_1).f0) = 1 then (spec_MakeMessage.j2 kj4 l0 a1 x5_1 x6_1 t254 t254) else (spec_MakeMessage.j2 kj4 l0 a1 x5_1 x6_1 t254 0))) else (none)) else (none)) = some r := by rw [if_pos rfl] at H; exact H); clear H; have H := H1; clear H1; by_cases c12 : 0 ≤ x6_1
              · rw [if_pos c12] at H
                have c12b0 : decide (0 ≤ x6_1) = true := decide_eq_true c12; clear c12; by_cases c13 : x6_1 < (l0.length : Int)
                · rw [if_pos c13] at H
                  have c13b0 : decide (x6_1 < (l0.length : Int)) = true := decide_eq_true c13; clear c13; replace H := Option.bind_eq_some_iff.mp H; obtain ⟨t254, A140, H⟩ := H; replace H : (if ((rd_T67 l0 x6_1).f0) = 1 then (spec_MakeMessage.j2 kj4 l0 a1 x5_1 x6_1 t254 t254) else (spec_MakeMessage.j2 kj4 l0 a1 x5_1 x6_1 t254 0)) = some r := H; have A14 := Aside0.mk A140; clear A140; have HC15 := Aside0.mk H; clear H; (go_upto_if 41 with (first | ((with_reducible refine gate_dst (N := 7) rfl ?_); refine box_event ?hg (N := 7) ?hd (cs := #[.int .i64 0, .slice none 0 0]) (t := 63) ?hr ?_; (case hd => rfl); (case hg => rfl); (case hr => first | (go_simp; done) | (go_simp; rfl)); intro gb251 hg w16 hbox hb; have n0_ := Aside0.mk (Kd.S_below (Kd.S_elderB (by (with_reducible repeat (first | apply Kd.S_alloc | apply Kd.S_drewN | apply Kd.S_drew)); exact HO_5.out) gb251 (Nat.le_of_eq hg.symm)) hb); have n1_ := bS hb; have n2_ := Aside0.mk (hbox); have n3_ : Aside0 (w.heap.size ≤ gb251) := bZ hg; have n4_ : Aside0 (w.heap.size ≤ gb251) := bZ hg; clear HO_5; clear HB; have HO_5 := n0_; have HB := n1_; have BK251 := n2_; have GW251 := n3_; have GE251 := n4_; clear n0_ n1_ n2_ n3_ n4_; clear hb hbox hg; obtain ⟨hcz17_0, hcz17_1, hfz17_0, hfz17_1⟩ := zc2 BK251.out; obtain ⟨Ao18, co18, eo18⟩ := Kd.S_slice HO_5.out; subst eo18) | ((with_reducible refine gate_callee (f := 52) rfl ?_); refine gL 25 Try.func52 #[.slice A0 l0.length c0, .slice Ao18 x5_1.length co18, .int .i64 x6_1] ?_; (with_reducible refine (spec_IsThere.calls _ _ l0 _ _ x5_1 x6_1 true _ ?side1 ?side2 ?side3 ?side4 A10.out).mono ?_); (case side1 => exact kC HR0.out); (case side2 => exact HC0.out); (case side3 => refine (Kd.S_reads' (e := 63) (base := w.heap.size) (ok := fun k_ => (True ∧ k_ ≠ gb251)) (n := x5_1.length) (c := co18) ?_).2.2; exact (by (with_reducible repeat (first | apply Kd.S_alloc | apply Kd.S_drewN | apply Kd.S_drew)); exact (Kd.S_mono (Kd.S_far (p := ⟨gb251, 1, none⟩) (Kd.S_far (p := ⟨gb251, 0, none⟩) (Kd.S_mono HO_5.out (fun k_ hk => (⟨hk, hk.2⟩ : _ ∧ k_ ≠ gb251))) (fun _ hk => hk.2) (.int .i64 0)) (fun _ hk => hk.2) (.slice none 0 0)) (fun _ h_ => h_.1)))); (case side4 => exact (Kd.S_reads' HO_5.out).2.1); rintro e w19 ⟨rfl, hb⟩; refine ⟨_, rfl, ?_⟩; have n0_ := Aside0.mk (Kd.S_below (by (with_reducible repeat (first | apply Kd.S_alloc | apply Kd.S_drewN | apply Kd.S_drew)); exact (Kd.S_mono (Kd.S_far (p := ⟨gb251, 1, none⟩) (Kd.S_far (p := ⟨gb251, 0, none⟩) (Kd.S_mono HO_5.out (fun k_ hk => (⟨hk, hk.2⟩ : _ ∧ k_ ≠ gb251))) (fun _ hk => hk.2) (.int .i64 0)) (fun _ hk => hk.2) (.slice none 0 0)) (fun _ h_ => h_.1))) hb); have n1_ := Aside0.mk (blk_below (g := gb251) (o := .cells #[.int .i64 0, .slice none 0 0] 63 (0, 0)) (by (with_reducible repeat (first | refine blk_drewN ?_ _ | refine blk_drew ?_ | refine blk_alloc ?_ _)); refine blk_put (cs := #[.int .i64 0, .slice none 0 0]) ?_ 1 _ rfl; (with_reducible repeat (first | refine blk_drewN ?_ _ | refine blk_drew ?_ | refine blk_alloc ?_ _)); refine blk_put (cs := #[.int .i64 0, .slice none 0 0]) ?_ 0 _ rfl; (with_reducible repeat (first | refine blk_drewN ?_ _ | refine blk_drew ?_ | refine blk_alloc ?_ _)); exact BK251.out) hb); have n2_ := bS hb; clear HO_5; clear BK251; clear HB; have HO_5 := n0_; have BK251 := n1_; have HB := n2_; clear n0_ n1_ n2_; (try clear hb); (try clear hb2); (try clear hk); (try clear hi); have p253 : 0 ≤ (x6_1 : Int) := of_decide_eq_true (by assumption); have q253 : x6_1 < (l0.length : Int) := of_decide_eq_true (by assumption); obtain ⟨ad253, e253, hx253_0, hx253_1, hx253_2, hx253_3⟩ := at_T67 HR0.out x6_1 p253 q253; cases e253; replace hx253_0 := hC HB.out hx253_0; replace hx253_1 := hC HB.out hx253_1; replace hx253_2 := hC HB.out hx253_2; replace hx253_3 := hC HB.out hx253_3; replace p253 := eq_true p253; replace q253 := eq_true q253) | ((with_reducible refine gate_callee (f := 53) rfl ?_); refine gL 35 Try.func53 #[.int .i64 a1, .int .i64 (wrap64 (16 * x6_1)), .int .i64 (wrap64 (((rd_T67 l0 x6_1).f1) + 1))] ?_; (with_reducible refine (spec_PickOf.calls kj4 a1 (wrap64 (16 * x6_1)) (wrap64 (((rd_T67 l0 x6_1).f1) + 1)) t254 _ A14.out).mono ?_); rintro e w20 ⟨rfl, hb⟩; refine ⟨_, rfl, ?_⟩; have n0_ := sB HO_5.out hb; have n1_ := Aside0.mk (blk_below (g := gb251) (o := .cells #[.int .i64 0, .slice none 0 0] 63 (0, 0)) (by (with_reducible repeat (first | refine blk_drewN ?_ _ | refine blk_drew ?_ | refine blk_alloc ?_ _)); exact BK251.out) hb); have n2_ := bS hb; clear HO_5; clear BK251; clear HB; have HO_5 := n0_; have BK251 := n1_; have HB := n2_; clear n0_ n1_ n2_; (try clear hb); (try clear hb2); (try clear hk); (try clear hi); have p255 : 0 ≤ (x6_1 : Int) := of_decide_eq_true (by assumption); have q255 : x6_1 < (l0.length : Int) := of_decide_eq_true (by assumption); obtain ⟨ad255, e255, hx255_0, hx255_1, hx255_2, hx255_3⟩ := at_T67 HR0.out x6_1 p255 q255; obtain rfl : ad253 = ad255 := (by injection e255); replace hx255_0 := hC HB.out hx255_0; replace hx255_1 := hC HB.out hx255_1; replace hx255_2 := hC HB.out hx255_2; replace hx255_3 := hC HB.out hx255_3; replace p255 := eq_true p255; replace q255 := eq_true q255))); ((try simp only [Act.put, sT, sZ, sS])); go_cut [] (fun wc => ∃ (kq : Nat) (x252000_14 : Int), Aside0 (spec_MakeMessage.j2 kq l0 a1 x5_1 x6_1 t254 x252000_14 = some r) ∧ Aside0 (kq ≤ kj4) ∧ Aside0 (Kd.S k63 63 wc w.heap.size (fun k_ => k_ ≠ gb251) (.slice Ao18 x5_1.length co18) x5_1) ∧ Aside0 (wc.heap[gb251]? = some (.cells #[.int .i64 x252000_14, (.slice none 0 0)] 63 (0, 0))) ∧ Aside0 (Below w.heap.size w wc))
                  case first =>
                    have H := HC15.out; clear HC15; by_cases c21 : ((rd_T67 l0 x6_1).f0) = 1
                    · rw [if_pos c21] at H
                      have c21b0 : (((rd_T67 l0 x6_1).f0) == 1) = true := beq_iff_eq.mpr c21; have c21b1 : (((rd_T67 l0 x6_1).f0) != 1) = false := bne_eq_false_iff_eq.mpr c21; clear c21; ((first | rw [c21b0] | (simp only [i64_w, i32_w]; rw [c21b0]) | skip)); have H' := Aside0.mk H; clear H; obtain ⟨hcz22_0, hcz22_1, hfz22_0, hfz22_1⟩ := zc2 BK251.out; go_wp2; go_meet
                      case rel => exact ⟨_, (t254), H', ⟨by have := HK1.out; have := HJ4.out; first | omega | exact Nat.le_refl _⟩, ⟨by (with_reducible repeat (first | apply Kd.S_alloc | apply Kd.S_drewN | apply Kd.S_drew)); exact Kd.S_mono (Kd.S_far (p := ⟨gb251, 0, none⟩) (Kd.S_mono HO_5.out (fun k_ hk => (⟨hk, hk.2⟩ : _ ∧ k_ ≠ gb251))) (fun _ hk => hk.2) (.int .i64 t254)) (fun _ hk => hk.1.2)⟩, ⟨by (with_reducible repeat (first | refine blk_drewN ?_ _ | refine blk_drew ?_ | refine blk_alloc ?_ _)); refine blk_put (cs := #[.int .i64 0, .slice none 0 0]) ?_ 0 _ rfl; (with_reducible repeat (first | refine blk_drewN ?_ _ | refine blk_drew ?_ | refine blk_alloc ?_ _)); exact BK251.out⟩, ⟨by repeat (first | (with_reducible first | exact HB.out | apply below_alloc | apply pw_below_drewN | apply below_drew1 | refine below_set ?_ GE251.out) | exact HB.out)⟩⟩
                    · rw [if_neg c21] at H
                      have c21b0 : (((rd_T67 l0 x6_1).f0) == 1) = false := beq_eq_false_iff_ne.mpr c21; have c21b1 : (((rd_T67 l0 x6_1).f0) != 1) = true := bne_iff_ne.mpr c21; ((first | rw [c21b0] | (simp only [i64_w, i32_w]; rw [c21b0]) | skip)); have H' := Aside0.mk H; clear H; go_wp2; go_meet
                      case rel => exact ⟨_, (0), H', ⟨by have := HK1.out; have := HJ4.out; first | omega | exact Nat.le_refl _⟩, ⟨by (with_reducible repeat (first | apply Kd.S_alloc | apply Kd.S_drewN | apply Kd.S_drew)); exact Kd.S_mono HO_5.out (fun _ hk => hk.2)⟩, ⟨by (with_reducible repeat (first | refine blk_drewN ?_ _ | refine blk_drew ?_ | refine blk_alloc ?_ _)); exact BK251.out⟩, ⟨by repeat (first | (with_reducible first | exact HB.out | apply below_alloc | apply pw_below_drewN | apply below_drew1 | refine below_set ?_ GE251.out) | exact HB.out)⟩⟩
                  case rest =>
                    clear HC15; (try clear c1); (try clear c2); (try clear p2); (try clear q2); (try clear hx2); (try clear c5); (try clear c6); (try clear c6b0); (try clear p6); (try clear c9); (try clear c11); (try clear c12); (try clear c12b0); (try clear c13); (try clear c13b0); (try clear c21); (try clear c21b0); (try clear c21b1); (try clear hcz17_0); (try clear hcz17_1); (try clear hcz22_0); (try clear hcz22_1); (try clear hfz17_0); (try clear hfz17_1); (try clear hfz22_0); (try clear hfz22_1); (try clear hx253_0); (try clear hx253_1); (try clear hx253_2); (try clear hx253_3); (try clear hx255_0); (try clear hx255_1); (try clear hx255_2); (try clear hx255_3); (try clear p2); (try clear p253); (try clear p255); (try clear q253); (try clear q255); obtain ⟨kq, x252000_14, HA, HJ14, HO_5, BK251, HB⟩ := hcut; cases kq with
                    | zero => exact absurd HA.out (by simp [spec_MakeMessage.j2])
                    | succ kj14 =>
                      have H := HA.out; clear HA; simp only [spec_MakeMessage.j2] at H; have H' := Aside0.mk H; clear H; go_wp2; go_loopg [9] kj14 (fun kq v9 w' => ∃ (x9_4 : Int) (x252001_4 : List Int) (u252001 : Value), v9 = .int .i64 x9_4 ∧ Aside0 (spec_MakeMessage.l1 kq l0 a1 x5_1 x6_1 t254 x9_4 x252000_14 x252001_4 = some r) ∧ Aside0 (kq ≤ kj14) ∧ Aside0 (Kd.S k63 63 w' w.heap.size (fun k_ => some k_ ≠ (u252001 : Value).ownBlock ∧ k_ ≠ gb251) (.slice Ao18 x5_1.length co18) x5_1) ∧ Aside0 (Kd.R (Kd.int .i64) 3 w' w.heap.size (fun _ => True) u252001 x252001_4) ∧ Aside0 (w'.heap[gb251]? = some (.cells #[.int .i64 x252000_14, u252001] 63 (0, 0))) ∧ Aside0 (Below w.heap.size w w'))
                      case atStart => exact ⟨(0), (([] : List Int)), (.slice none 0 0), (by first | rfl | (simp; done) | (simp [*]; done)), H', ⟨Nat.le_refl _⟩, ⟨by (with_reducible repeat (first | apply Kd.S_alloc | apply Kd.S_drewN | apply Kd.S_drew)); exact Kd.S_mono HO_5.out (fun _ hk => ⟨(by simp [Value.ownBlock]), hk⟩)⟩, ⟨by first | exact Kd.R_nil _ _ _ _ _ | exact Kd.N_nil _ _ _ _ _ | exact Kd.V_nil _ _ _ _ _ | exact Kd.Q_nil _ _ _ _ _ | exact Kd.S_nil _ _ _ _ _⟩, ⟨by (with_reducible repeat (first | refine blk_drewN ?_ _ | refine blk_drew ?_ | refine blk_alloc ?_ _)); exact BK251.out⟩, ⟨by repeat (first | (with_reducible first | exact HB.out | apply below_alloc | apply pw_below_drewN | apply below_drew1 | refine below_set ?_ GE251.out) | exact HB.out)⟩⟩
                      case round =>
                        clear H'; (try clear c1); (try clear c2); (try clear p2); (try clear q2); (try clear hx2); (try clear c5); (try clear c6); (try clear c6b0); (try clear p6); (try clear c9); (try clear c11); (try clear c12); (try clear c12b0); (try clear c13); (try clear c13b0); (try clear c21); (try clear c21b0); (try clear c21b1); (try clear hcz17_0); (try clear hcz17_1); (try clear hcz22_0); (try clear hcz22_1); (try clear hfz17_0); (try clear hfz17_1); (try clear hfz22_0); (try clear hfz22_1); (try clear hx253_0); (try clear hx253_1); (try clear hx253_2); (try clear hx253_3); (try clear hx255_0); (try clear hx255_1); (try clear hx255_2); (try clear hx255_3); (try clear p2); (try clear p253); (try clear p255); (try clear p6); (try clear q2); (try clear q253); (try clear q255); obtain ⟨x9_4, x252001_4, u252001, rfl, HA, HK4, HO_5, HO_252001, BK251, HB⟩ := hrel; cases gk with
                        | zero => exact absurd HA.out (by simp [spec_MakeMessage.l1])
                        | succ k4 =>
                          have H := HA.out; clear HA; simp only [spec_MakeMessage.l1] at H; by_cases c23 : x9_4 < t254
                          · rw [if_pos c23] at H
                            have c23b0 : decide (x9_4 < t254) = true := decide_eq_true c23; clear c23; by_cases c24 : 0 ≤ x6_1
                            · rw [if_pos c24] at H
                              have c24b0 : decide (0 ≤ x6_1) = true := decide_eq_true c24; clear c24; by_cases c25 : x6_1 < (l0.length : Int)
                              · rw [if_pos c25] at H
                                have c25b0 : decide (x6_1 < (l0.length : Int)) = true := decide_eq_true c25; clear c25; by_cases c26 : ((rd_T67 l0 x6_1).f0) = 1
                                · rw [if_pos c26] at H
                                  have c26b0 : (((rd_T67 l0 x6_1).f0) == 1) = true := beq_iff_eq.mpr c26; have c26b1 : (((rd_T67 l0 x6_1).f0) != 1) = false := bne_eq_false_iff_eq.mpr c26; clear c26; by_cases c27 : x5_1.length < 4398046511104
                                  · rw [if_pos c27] at H
                                    have LMc27 := Aside0.mk c27; clear c27; obtain ⟨y257, hy257⟩ : ∃ y_ : List (S63), y_ = (x5_1 ++ [(⟨x252000_14, x252001_4⟩ : S63)]) := ⟨_, rfl⟩; (replace H : (spec_MakeMessage.l0 k4 l0 a1 y257 (wrap64 (x6_1 + 1))) = some r := by first | (rw [hy257]; with_reducible exact H) | (have H2_ := (Option.bind_some _ _).symm.trans H; rw [hy257]; with_reducible exact H2_) | (have H2_ := (Option.bind_some _ _).symm.trans H; with_reducible exact H2_) | with_reducible exact H | (rw [hy257]; exact H) | exact H); have Ny257 := Aside0.mk hy257; clear hy257; have H' := Aside0.mk H; clear H; (have p256 : 0 ≤ (x6_1 : Int) := of_decide_eq_true (by assumption)); (have q256 : x6_1 < (l0.length : Int) := of_decide_eq_true (by assumption)); obtain ⟨ad256, e256, hx256_0, hx256_1, hx256_2, hx256_3⟩ := at_T67 HR0.out x6_1 p256 q256; (obtain rfl : ad253 = ad256 := (by injection e256)); replace hx256_0 := hC HB.out hx256_0; replace hx256_1 := hC HB.out hx256_1; replace hx256_2 := hC HB.out hx256_2; replace hx256_3 := hC HB.out hx256_3; replace p256 := eq_true p256; replace q256 := eq_true q256; obtain ⟨hcz28_0, hcz28_1, hfz28_0, hfz28_1⟩ := zc2 BK251.out; obtain ⟨Ao30, co30, eo30⟩ := Kd.R_slice HO_252001.out; subst eo30; (go_wp2_with (first | ((with_reducible refine gate_builtin (b := .append) (xs := #[.tmp 69, .tmp 71]) rfl ?_); at_builtin; refine Kd.S_append k63 (w0 := w) w.heap.size rfl (.tmp 69) (.tmp 71) 24 63 (.agg #[(.int .i64 0), (.slice none 0 0)]) 32 rfl Try.underlying24 info63 rfl (by decide) (by omega) (.slice Ao18 x5_1.length co18) x5_1 (⟨x252000_14, x252001_4⟩ : S63) [.int .i64 x252000_14, .slice Ao30 x252001_4.length co30] (fun k_ => k_ ≠ gb251) (fun k_ => some k_ = (.slice Ao30 x252001_4.length co30 : Value).ownBlock) rfl rfl ?aP (fun k_ hk_ => ((Kd.R_mono (ok' := fun k_ => ((fun k_ => k_ ≠ gb251)) k_ ∧ some k_ ≠ (.slice Ao18 x5_1.length co18 : Value).ownBlock) (Kd.R_types (Kd.R_apart' (HO_252001.out) (Kd.S_typed HO_5.out) (by decide)) BK251.out (by decide)) (fun k_ hk => ⟨hk.2, hk.1.2⟩))).1 k_ hk_.symm) ?aF ?aO ?aB ?aS ?aL ?_; (case aP => exact k63_mkM _ _ _ (⟨x252000_14, x252001_4⟩ : S63) (Kd.R_mono (Kd.R_tight rfl (Kd.R_mono (ok' := fun k_ => ((fun k_ => k_ ≠ gb251)) k_ ∧ some k_ ≠ (.slice Ao18 x5_1.length co18 : Value).ownBlock) (Kd.R_types (Kd.R_apart' (HO_252001.out) (Kd.S_typed HO_5.out) (by decide)) BK251.out (by decide)) (fun k_ hk => ⟨hk.2, hk.1.2⟩))) (fun _ h_ => h_))); (case aB => exact (by repeat (first | (with_reducible first | exact HB.out | apply below_alloc | apply pw_below_drewN | apply below_drew1 | refine below_set ?_ GE251.out) | exact HB.out))); (case aF => exact (fun k_ hk => Kd.freshB (g := gb251) (o := .cells #[.int .i64 x252000_14, .slice Ao30 x252001_4.length co30] 63 (0, 0)) (by (with_reducible repeat (first | refine blk_drewN ?_ _ | refine blk_drew ?_ | refine blk_alloc ?_ _)); exact BK251.out) k_ hk)); (case aO => exact (by (with_reducible repeat (first | apply Kd.S_alloc | apply Kd.S_drewN | apply Kd.S_drew)); exact Kd.S_mono HO_5.out (fun k_ hk => ⟨hk.2, fun e_ => hk.1 e_⟩))); (case aS => exact (below_size (by repeat (first | (with_reducible first | exact HB.out | apply below_alloc | apply pw_below_drewN | apply below_drew1 | refine below_set ?_ GE251.out) | exact HB.out)))); (case aL => have := LMc27.out; omega); intro v258 w29 ho hb hg hat; rw [← Ny257.out] at ho; have n0_ := Aside0.mk (blk_grown (g := gb251) (o := .cells #[.int .i64 x252000_14, .slice Ao30 x252001_4.length co30] 63 (0, 0)) (by (with_reducible repeat (first | refine blk_drewN ?_ _ | refine blk_drew ?_ | refine blk_alloc ?_ _)); exact BK251.out) hg (Kd.S_away HO_5.out (fun _ hk => hk.2))); have n1_ := Aside0.mk (hb); have n2_ := Aside0.mk (ho); clear BK251; clear HB; clear HO_5; clear HO_252001; have BK251 := n0_; have HB := n1_; have HO259 := n2_; clear n0_ n1_ n2_; clear ho hb hg hat))); go_roundg k4
                                    case measure => have := HK1.out; have := HJ4.out; have := HJ14.out; have := HK4.out; omega
                                    case rel => exact ⟨(y257), (wrap64 (x6_1 + 1)), (by first | rfl | (simp; done) | (simp [*]; done)), H', ⟨by have := HK1.out; have := HJ4.out; have := HJ14.out; have := HK4.out; omega⟩, ⟨by (with_reducible repeat (first | apply Kd.S_alloc | apply Kd.S_drewN | apply Kd.S_drew)); exact Kd.S_mono HO259.out (fun _ hk => trivial)⟩, ⟨by repeat (first | (with_reducible first | exact HB.out | apply below_alloc | apply pw_below_drewN | apply below_drew1 | refine below_set ?_ GE251.out) | exact HB.out)⟩⟩
                                  · rw [if_neg c27] at H; (exact absurd H (by simp))
                                · rw [if_neg c26] at H
                                  have c26b0 : (((rd_T67 l0 x6_1).f0) == 1) = false := beq_eq_false_iff_ne.mpr c26; have c26b1 : (((rd_T67 l0 x6_1).f0) != 1) = true := bne_iff_ne.mpr c26; replace H := Option.bind_eq_some_iff.mp H; obtain ⟨t260, A310, H⟩ := H; replace H : (if x252001_4.length < 17592186044416 then (spec_MakeMessage.l1 k4 l0 a1 x5_1 x6_1 t254 (wrap64 (x9_4 + 1)) x252000_14 (x252001_4 ++ [t260])) else (none)) = some r := H; have A31 := Aside0.mk A310; clear A310; by_cases c32 : x252001_4.length < 17592186044416
                                  · rw [if_pos c32] at H
                                    (have LMc32 := Aside0.mk c32; clear c32; obtain ⟨y261, hy261⟩ : ∃ y_ : List Int, y_ = (x252001_4 ++ [t260]) := ⟨_, rfl⟩; (replace H : (spec_MakeMessage.l1 k4 l0 a1 x5_1 x6_1 t254 (wrap64 (x9_4 + 1)) x252000_14 y261) = some r := by first | (rw [hy261]; with_reducible exact H) | (have H2_ := (Option.bind_some _ _).symm.trans H; rw [hy261]; with_reducible exact H2_) | (have H2_ := (Option.bind_some _ _).symm.trans H; with_reducible exact H2_) | with_reducible exact H | (rw [hy261]; exact H) | exact H); have Ny261 := Aside0.mk hy261; clear hy261; have H' := Aside0.mk H; clear H; (have p256 : 0 ≤ (x6_1 : Int) := of_decide_eq_true (by assumption)); (have q256 : x6_1 < (l0.length : Int) := of_decide_eq_true (by assumption)); obtain ⟨ad256, e256, hx256_0, hx256_1, hx256_2, hx256_3⟩ := at_T67 HR0.out x6_1 p256 q256; (obtain rfl : ad253 = ad256 := (by injection e256)); replace hx256_0 := hC HB.out hx256_0; replace hx256_1 := hC HB.out hx256_1; replace hx256_2 := hC HB.out hx256_2; replace hx256_3 := hC HB.out hx256_3; replace p256 := eq_true p256; replace q256 := eq_true q256; (try go_wp2); have n0_ := Aside0.mk (Kd.S_drew HO_5.out); have n1_ := Aside0.mk (Kd.R_drew HO_252001.out); have n2_ := Aside0.mk (blk_drew BK251.out); have n3_ := Aside0.mk (below_drew1 HB.out); clear HO_5; clear HO_252001; clear BK251; clear HB; have HO_5 := n0_; have HO_252001 := n1_; have BK251 := n2_; have HB := n3_; clear n0_ n1_ n2_ n3_; (refine start_ (n := 13) (S := fun w' => w'.cell? ⟨gb251, 0, none⟩ = some (.int .i64 x252000_14) ∧ w'.cell? ⟨gb251, 1, none⟩ = some (u252001)) (ds := [12]) m13x13 (by kernel_rfl) rfl rfl ⟨(blk_cell BK251.out 0).trans rfl, (blk_cell BK251.out 1).trans rfl⟩ (fun hHeld => ?_); refine with_tabW spec_MakeMessage.tab13 spec_MakeMessage.bits13 (fun HT_ HW_ => ?_)); generalize wr.drew = w33 at HO_5 HO_252001 BK251 HB hHeld ⊢; (refine pure_ (i := 0) (N := some 57) (v := ?_) (a' := ?_) m13x12 rfl rfl (any_of HT_.out (by kernel_rfl)) (fun _ _ _ h => h) (Or.inl ⟨by rfl, ?_⟩) ?_ ?_); rotate_left); (· intro w'; go_simp; (with_reducible rfl)); rotate_left; (· simp only [Act.put, sT, sZ, sS, i64_w, i32_w]; rfl); refine pV 2 59 m13x11 ?_; refine pV 3 60 m13x10 ?_; refine pV 4 61 m13x9 ?_; refine pV 5 62 m13x8 ?_; refine pV 6 63 m13x7 ?_; refine pV 7 64 m13x6 ?_; refine tV 1 58 m13x5 ?_; ((refine oN 8 65 m13x4 (fun K hK => ?_)); (refine goes_ Try.func53 (by kernel_rfl) rfl #[.int .i64 a1, .int .i64 (wrap64 ((wrap64 ((wrap64 (16 * x6_1)) + x9_4)) + 1)), .int .i64 100] (by rfl) rfl rfl (by (try simp only [List.map_toArray, List.map_cons, List.map_nil]); first | done | rfl | (simp only [List.length_drop, List.length_take]; rfl)) ?_); (with_reducible refine (spec_PickOf.calls k4 a1 (wrap64 ((wrap64 ((wrap64 (16 * x6_1)) + x9_4)) + 1)) 100 t260 _ A31.out).mono ?_); rintro e w34 ⟨rfl, hb⟩; refine ⟨_, rfl, ?_⟩; (have n0_ := sB HO_5.out hb); (have n1_ := rB HO_252001.out hb); (have n2_ := Aside0.mk (blk_below (g := gb251) (o := .cells #[.int .i64 x252000_14, u252001] 63 (0, 0)) (by (with_reducible repeat (first | refine blk_drewN ?_ _ | refine blk_drew ?_ | refine blk_alloc ?_ _)); exact BK251.out) hb)); (have n3_ := bS hb); clear HO_5; clear HO_252001; clear BK251; clear HB; have HO_5 := n0_; have HO_252001 := n1_; have BK251 := n2_; have HB := n3_; clear n0_ n1_ n2_ n3_; ((try clear hb)); ((try clear hb2)); ((try clear hk)); ((try clear hi)); refine hK.out _ _ ⟨(blk_cell BK251.out 0).trans rfl, (blk_cell BK251.out 1).trans rfl⟩ (fun hHeld => ?_); clear hK K; refine norm_ (a' := ?_) ?_ ?_; rotate_left); (· show Act.put _ (some 65) _ = _; simp only [Act.put, sT, sZ, sS, i64_w, i32_w]; rfl); ((refine oN 9 66 m13x3 (fun K hK => ?_)); (refine value_ (w1 := ?_) (v := ?_) (by rfl) rfl ?_ ?_); rotate_left 2)
                                    · go_simp
                                      constructor; (· rfl); (· rfl)
                                    refine hK.out _ _ ⟨(blk_cell (blk_alloc BK251.out _) 0).trans rfl, (blk_cell (blk_alloc BK251.out _) 1).trans rfl⟩ (fun hHeld => ?_); clear hK K; refine norm_ (a' := ?_) ?_ ?_; rotate_left; (· show Act.put _ (some 66) _ = _; simp only [Act.put, sT, sZ, sS, i64_w, i32_w]; rfl); ((refine oN 10 67 m13x2 (fun K hK => ?_)); (refine Kd.R_append_step (Kd.int .i64) (w0 := w) w.heap.size (by rfl) (.tmp 58) (.tmp 66) 38 3 (.int .i64 0) 8 rfl Try.underlying38 info3 rfl (by decide) (by omega) u252001 x252001_4 t260 [.int .i64 t260] (fun _ => True) (fun _ => False) rfl rfl ?aP (fun _ hk => hk.elim) ?aF ?aO ?aB ?aS ?aL ?_); (case aP => exact rfl); ((case aB => exact (by repeat (first | (with_reducible first | exact HB.out | apply below_alloc | apply pw_below_drewN | apply below_drew1 | refine below_set ?_ GE251.out) | exact HB.out)))); (case aF => exact (fun _ _ => trivial)); ((case aO => exact (by (with_reducible repeat (first | apply Kd.R_alloc | apply Kd.R_drewN | apply Kd.R_drew)); exact HO_252001.out))); ((case aS => exact (below_size (by repeat (first | (with_reducible first | exact HB.out | apply below_alloc | apply pw_below_drewN | apply below_drew1 | refine below_set ?_ GE251.out) | exact HB.out))))); (case aL => have := LMc32.out; omega); intro v262 w35 ho hb hg hat; rw [← Ny261.out] at ho; (have n0_ := Aside0.mk (Kd.S_after (ok := (fun k_ => k_ ≠ gb251)) (by (with_reducible repeat (first | apply Kd.S_alloc | apply Kd.S_drewN | apply Kd.S_drew)); exact Kd.S_mono HO_5.out (fun _ hk => ⟨hk.2, hk.1⟩)) hg hat)); (have n1_ := Aside0.mk (blk_grown (g := gb251) (o := .cells #[.int .i64 x252000_14, u252001] 63 (0, 0)) (by (with_reducible repeat (first | refine blk_drewN ?_ _ | refine blk_drew ?_ | refine blk_alloc ?_ _)); exact BK251.out) hg (Kd.R_ne HO_252001.out BK251.out (by decide)))); have n2_ := Aside0.mk (hb); have n3_ := Aside0.mk (ho); clear HO_5; clear BK251; clear HB; clear HO_252001; have HO_5 := n0_; have BK251 := n1_; have HB := n2_; have HO263 := n3_; clear n0_ n1_ n2_ n3_; clear ho hb hg hat; obtain ⟨Ao36, co36, eo36⟩ := Kd.R_slice HO263.out; ((first | subst eo36 | (injection eo36 with f1_ f2_ f3_; have f4_ := f1_.symm; have f5_ := f3_.symm; clear f1_ f2_ f3_; subst f4_; subst f5_))); refine hK.out _ _ ⟨(blk_cell BK251.out 0).trans rfl, (blk_cell BK251.out 1).trans rfl⟩ (fun hHeld => ?_); clear hK K; refine norm_ (a' := ?_) ?_ ?_; rotate_left); (· show Act.put _ (some 67) _ = _; simp only [Act.put, sT, sZ, sS, i64_w, i32_w]; rfl); refine pV 11 68 m13x1 ?_; ((refine last_ (i := 12) (N := none) m13x0 rfl rfl (one_of HT_.out (by kernel_rfl)) (by decide) (fun K hK => ?_)); have hs37 : w35.cell? ⟨gb251, 1, none⟩ = some (u252001) := (blk_cell BK251.out 1).trans rfl; have hfs37 := blk_frozen BK251.out 1; (refine skip_ (w1 := ?_) (by rfl) rfl ?_ ?_); rotate_left); (· go_simp; rfl); (refine hK.out _ _ ?_; clear hK K; (refine done_ (done_of HT_.out (by kernel_rfl)) ?_); (try go_wp2); go_roundg k4)
                                    case measure => have := HK1.out; have := HJ4.out; have := HJ14.out; have := HK4.out; omega
                                    case rel => exact ⟨(wrap64 (x9_4 + 1)), (y261), (.slice Ao36 y261.length co36), (by first | rfl | (simp; done) | (simp [*]; done)), H', ⟨by have := HK1.out; have := HJ4.out; have := HJ14.out; have := HK4.out; omega⟩, ⟨by (with_reducible repeat (first | apply Kd.S_alloc | apply Kd.S_drewN | apply Kd.S_drew)); exact Kd.S_mono (Kd.S_far (p := ⟨gb251, 1, none⟩) (Kd.S_mono HO_5.out (fun k_ hk => (⟨hk, hk.1⟩ : _ ∧ k_ ≠ gb251))) (fun _ hk => hk.2) (.slice Ao36 y261.length co36)) (fun _ hk => ⟨hk.1.2, hk.1.1⟩)⟩, ⟨by (with_reducible repeat (first | apply Kd.R_alloc | apply Kd.R_drewN | apply Kd.R_drew)); exact Kd.R_mono (Kd.R_far (p := ⟨gb251, 1, none⟩) (Kd.R_types HO263.out BK251.out (by decide)) (fun _ hk => hk.2) (.slice Ao36 y261.length co36)) (fun _ hk => trivial)⟩, ⟨by (with_reducible repeat (first | refine blk_drewN ?_ _ | refine blk_drew ?_ | refine blk_alloc ?_ _)); refine blk_put (cs := #[.int .i64 x252000_14, u252001]) ?_ 1 _ rfl; (with_reducible repeat (first | refine blk_drewN ?_ _ | refine blk_drew ?_ | refine blk_alloc ?_ _)); exact BK251.out⟩, ⟨by repeat (first | (with_reducible first | exact HB.out | apply below_alloc | apply pw_below_drewN | apply below_drew1 | refine below_set ?_ GE251.out) | exact HB.out)⟩⟩
                                  · rw [if_neg c32] at H; (exact absurd H (by simp))
                              · rw [if_neg c25] at H; (exact absurd H (by simp))
                            · rw [if_neg c24] at H; (exact absurd H (by simp))
                          · rw [if_neg c23] at H
                            have c23b0 : decide (x9_4 < t254) = false := decide_eq_false c23; clear c23; by_cases c38 : x5_1.length < 4398046511104
                            · rw [if_pos c38] at H
                              have LMc38 := Aside0.mk c38; clear c38; obtain ⟨y264, hy264⟩ : ∃ y_ : List (S63), y_ = (x5_1 ++ [(⟨x252000_14, x252001_4⟩ : S63)]) := ⟨_, rfl⟩; (replace H : (spec_MakeMessage.l0 k4 l0 a1 y264 (wrap64 (x6_1 + 1))) = some r := by first | (rw [hy264]; with_reducible exact H) | (have H2_ := (Option.bind_some _ _).symm.trans H; rw [hy264]; with_reducible exact H2_) | (have H2_ := (Option.bind_some _ _).symm.trans H; with_reducible exact H2_) | with_reducible exact H | (rw [hy264]; exact H) | exact H); have Ny264 := Aside0.mk hy264; clear hy264; have H' := Aside0.mk H; clear H; obtain ⟨hcz39_0, hcz39_1, hfz39_0, hfz39_1⟩ := zc2 BK251.out; obtain ⟨Ao41, co41, eo41⟩ := Kd.R_slice HO_252001.out; subst eo41; (go_wp2_with (first | ((with_reducible refine gate_builtin (b := .append) (xs := #[.tmp 69, .tmp 71]) rfl ?_); at_builtin; refine Kd.S_append k63 (w0 := w) w.heap.size rfl (.tmp 69) (.tmp 71) 24 63 (.agg #[(.int .i64 0), (.slice none 0 0)]) 32 rfl Try.underlying24 info63 rfl (by decide) (by omega) (.slice Ao18 x5_1.length co18) x5_1 (⟨x252000_14, x252001_4⟩ : S63) [.int .i64 x252000_14, .slice Ao41 x252001_4.length co41] (fun k_ => k_ ≠ gb251) (fun k_ => some k_ = (.slice Ao41 x252001_4.length co41 : Value).ownBlock) rfl rfl ?aP (fun k_ hk_ => ((Kd.R_mono (ok' := fun k_ => ((fun k_ => k_ ≠ gb251)) k_ ∧ some k_ ≠ (.slice Ao18 x5_1.length co18 : Value).ownBlock) (Kd.R_types (Kd.R_apart' (HO_252001.out) (Kd.S_typed HO_5.out) (by decide)) BK251.out (by decide)) (fun k_ hk => ⟨hk.2, hk.1.2⟩))).1 k_ hk_.symm) ?aF ?aO ?aB ?aS ?aL ?_; (case aP => exact k63_mkM _ _ _ (⟨x252000_14, x252001_4⟩ : S63) (Kd.R_mono (Kd.R_tight rfl (Kd.R_mono (ok' := fun k_ => ((fun k_ => k_ ≠ gb251)) k_ ∧ some k_ ≠ (.slice Ao18 x5_1.length co18 : Value).ownBlock) (Kd.R_types (Kd.R_apart' (HO_252001.out) (Kd.S_typed HO_5.out) (by decide)) BK251.out (by decide)) (fun k_ hk => ⟨hk.2, hk.1.2⟩))) (fun _ h_ => h_))); (case aB => exact (by repeat (first | (with_reducible first | exact HB.out | apply below_alloc | apply pw_below_drewN | apply below_drew1 | refine below_set ?_ GE251.out) | exact HB.out))); (case aF => exact (fun k_ hk => Kd.freshB (g := gb251) (o := .cells #[.int .i64 x252000_14, .slice Ao41 x252001_4.length co41] 63 (0, 0)) (by (with_reducible repeat (first | refine blk_drewN ?_ _ | refine blk_drew ?_ | refine blk_alloc ?_ _)); exact BK251.out) k_ hk)); (case aO => exact (by (with_reducible repeat (first | apply Kd.S_alloc | apply Kd.S_drewN | apply Kd.S_drew)); exact Kd.S_mono HO_5.out (fun k_ hk => ⟨hk.2, fun e_ => hk.1 e_⟩))); (case aS => exact (below_size (by repeat (first | (with_reducible first | exact HB.out | apply below_alloc | apply pw_below_drewN | apply below_drew1 | refine below_set ?_ GE251.out) | exact HB.out)))); (case aL => have := LMc38.out; omega); intro v265 w40 ho hb hg hat; rw [← Ny264.out] at ho; have n0_ := Aside0.mk (blk_grown (g := gb251) (o := .cells #[.int .i64 x252000_14, .slice Ao41 x252001_4.length co41] 63 (0, 0)) (by (with_reducible repeat (first | refine blk_drewN ?_ _ | refine blk_drew ?_ | refine blk_alloc ?_ _)); exact BK251.out) hg (Kd.S_away HO_5.out (fun _ hk => hk.2))); have n1_ := Aside0.mk (hb); have n2_ := Aside0.mk (ho); clear BK251; clear HB; clear HO_5; clear HO_252001; have BK251 := n0_; have HB := n1_; have HO266 := n2_; clear n0_ n1_ n2_; clear ho hb hg hat))); go_roundg k4
                              case measure => have := HK1.out; have := HJ4.out; have := HJ14.out; have := HK4.out; omega
                              case rel => exact ⟨(y264), (wrap64 (x6_1 + 1)), (by first | rfl | (simp; done) | (simp [*]; done)), H', ⟨by have := HK1.out; have := HJ4.out; have := HJ14.out; have := HK4.out; omega⟩, ⟨by (with_reducible repeat (first | apply Kd.S_alloc | apply Kd.S_drewN | apply Kd.S_drew)); exact Kd.S_mono HO266.out (fun _ hk => trivial)⟩, ⟨by repeat (first | (with_reducible first | exact HB.out | apply below_alloc | apply pw_below_drewN | apply below_drew1 | refine below_set ?_ GE251.out) | exact HB.out)⟩⟩
                            · rw [if_neg c38] at H; (exact absurd H (by simp))
                · rw [if_neg c13] at H; (exact absurd H (by simp))
              · rw [if_neg c12] at H; (exact absurd H (by simp))
            · replace c11 := Bool.eq_false_iff.mpr c11
              subst c11; (have H1 : (if x5_1.length < 4398046511104 then (spec_MakeMessage.l0 kj4 l0 a1 (x5_1 ++ [(⟨0, ([] : List Int)⟩ : S63)]) (wrap64 (x6_1 + 1))) else (none)) = some r := by rw [if_neg (show ¬ (false = true) by decide)] at H; exact H); clear H; have H := H1; clear H1; by_cases c42 : x5_1.length < 4398046511104
              · rw [if_pos c42] at H
                have LMc42 := Aside0.mk c42; clear c42; obtain ⟨y267, hy267⟩ : ∃ y_ : List (S63), y_ = (x5_1 ++ [(⟨0, ([] : List Int)⟩ : S63)]) := ⟨_, rfl⟩; (replace H : (spec_MakeMessage.l0 kj4 l0 a1 y267 (wrap64 (x6_1 + 1))) = some r := by first | (rw [hy267]; with_reducible exact H) | (have H2_ := (Option.bind_some _ _).symm.trans H; rw [hy267]; with_reducible exact H2_) | (have H2_ := (Option.bind_some _ _).symm.trans H; with_reducible exact H2_) | with_reducible exact H | (rw [hy267]; exact H) | exact H); have Ny267 := Aside0.mk hy267; clear hy267; have H' := Aside0.mk H; clear H; (go_wp2_with (first | ((with_reducible refine gate_dst (N := 7) rfl ?_); refine box_event ?hg (N := 7) ?hd (cs := #[.int .i64 0, .slice none 0 0]) (t := 63) ?hr ?_; (case hd => rfl); (case hg => rfl); (case hr => first | (go_simp; done) | (go_simp; rfl)); intro gb251 hg w43 hbox hb; have n0_ := Aside0.mk (Kd.S_below (Kd.S_elderB (by (with_reducible repeat (first | apply Kd.S_alloc | apply Kd.S_drewN | apply Kd.S_drew)); exact HO_5.out) gb251 (Nat.le_of_eq hg.symm)) hb); have n1_ := bS hb; have n2_ := Aside0.mk (hbox); have n3_ : Aside0 (w.heap.size ≤ gb251) := bZ hg; have n4_ : Aside0 (w.heap.size ≤ gb251) := bZ hg; clear HO_5; clear HB; have HO_5 := n0_; have HB := n1_; have BK251 := n2_; have GW251 := n3_; have GE251 := n4_; clear n0_ n1_ n2_ n3_ n4_; clear hb hbox hg; obtain ⟨hcz44_0, hcz44_1, hfz44_0, hfz44_1⟩ := zc2 BK251.out; obtain ⟨Ao45, co45, eo45⟩ := Kd.S_slice HO_5.out; subst eo45) | ((with_reducible refine gate_callee (f := 52) rfl ?_); refine gL 25 Try.func52 #[.slice A0 l0.length c0, .slice Ao45 x5_1.length co45, .int .i64 x6_1] ?_; (with_reducible refine (spec_IsThere.calls _ _ l0 _ _ x5_1 x6_1 false _ ?side1 ?side2 ?side3 ?side4 A10.out).mono ?_); (case side1 => exact kC HR0.out); (case side2 => exact HC0.out); (case side3 => refine (Kd.S_reads' (e := 63) (base := w.heap.size) (ok := fun k_ => (True ∧ k_ ≠ gb251)) (n := x5_1.length) (c := co45) ?_).2.2; exact (by (with_reducible repeat (first | apply Kd.S_alloc | apply Kd.S_drewN | apply Kd.S_drew)); exact (Kd.S_mono (Kd.S_far (p := ⟨gb251, 1, none⟩) (Kd.S_far (p := ⟨gb251, 0, none⟩) (Kd.S_mono HO_5.out (fun k_ hk => (⟨hk, hk.2⟩ : _ ∧ k_ ≠ gb251))) (fun _ hk => hk.2) (.int .i64 0)) (fun _ hk => hk.2) (.slice none 0 0)) (fun _ h_ => h_.1)))); (case side4 => exact (Kd.S_reads' HO_5.out).2.1); rintro e w46 ⟨rfl, hb⟩; refine ⟨_, rfl, ?_⟩; have n0_ := Aside0.mk (Kd.S_below (by (with_reducible repeat (first | apply Kd.S_alloc | apply Kd.S_drewN | apply Kd.S_drew)); exact (Kd.S_mono (Kd.S_far (p := ⟨gb251, 1, none⟩) (Kd.S_far (p := ⟨gb251, 0, none⟩) (Kd.S_mono HO_5.out (fun k_ hk => (⟨hk, hk.2⟩ : _ ∧ k_ ≠ gb251))) (fun _ hk => hk.2) (.int .i64 0)) (fun _ hk => hk.2) (.slice none 0 0)) (fun _ h_ => h_.1))) hb); have n1_ := Aside0.mk (blk_below (g := gb251) (o := .cells #[.int .i64 0, .slice none 0 0] 63 (0, 0)) (by (with_reducible repeat (first | refine blk_drewN ?_ _ | refine blk_drew ?_ | refine blk_alloc ?_ _)); refine blk_put (cs := #[.int .i64 0, .slice none 0 0]) ?_ 1 _ rfl; (with_reducible repeat (first | refine blk_drewN ?_ _ | refine blk_drew ?_ | refine blk_alloc ?_ _)); refine blk_put (cs := #[.int .i64 0, .slice none 0 0]) ?_ 0 _ rfl; (with_reducible repeat (first | refine blk_drewN ?_ _ | refine blk_drew ?_ | refine blk_alloc ?_ _)); exact BK251.out) hb); have n2_ := bS hb; clear HO_5; clear BK251; clear HB; have HO_5 := n0_; have BK251 := n1_; have HB := n2_; clear n0_ n1_ n2_; (try clear hb); (try clear hb2); (try clear hk); (try clear hi); obtain ⟨hcz47_0, hcz47_1, hfz47_0, hfz47_1⟩ := zc2 BK251.out) | ((with_reducible refine gate_builtin (b := .append) (xs := #[.tmp 69, .tmp 71]) rfl ?_); at_builtin; refine Kd.S_append k63 (w0 := w) w.heap.size rfl (.tmp 69) (.tmp 71) 24 63 (.agg #[(.int .i64 0), (.slice none 0 0)]) 32 rfl Try.underlying24 info63 rfl (by decide) (by omega) (.slice Ao45 x5_1.length co45) x5_1 (⟨0, ([] : List Int)⟩ : S63) [.int .i64 0, .slice none 0 0] (fun k_ => k_ ≠ gb251) (fun _ => False) rfl rfl ?aP (fun k_ hk_ => hk_.elim) ?aF ?aO ?aB ?aS ?aL ?_; (case aP => exact k63_mkM _ _ _ (⟨0, ([] : List Int)⟩ : S63) (Kd.R_nil _ _ _ _ _)); (case aB => exact (by repeat (first | (with_reducible first | exact HB.out | apply below_alloc | apply pw_below_drewN | apply below_drew1 | refine below_set ?_ GE251.out) | exact HB.out))); (case aF => exact (fun k_ hk => Kd.freshB (g := gb251) (o := .cells #[.int .i64 0, .slice none 0 0] 63 (0, 0)) (by (with_reducible repeat (first | refine blk_drewN ?_ _ | refine blk_drew ?_ | refine blk_alloc ?_ _)); exact BK251.out) k_ hk)); (case aO => exact (by (with_reducible repeat (first | apply Kd.S_alloc | apply Kd.S_drewN | apply Kd.S_drew)); exact Kd.S_mono HO_5.out (fun k_ hk => ⟨hk.2, fun e_ => e_⟩))); (case aS => exact (below_size (by repeat (first | (with_reducible first | exact HB.out | apply below_alloc | apply pw_below_drewN | apply below_drew1 | refine below_set ?_ GE251.out) | exact HB.out)))); (case aL => have := LMc42.out; omega); intro v268 w48 ho hb hg hat; rw [← Ny267.out] at ho; have n0_ := Aside0.mk (blk_grown (g := gb251) (o := .cells #[.int .i64 0, .slice none 0 0] 63 (0, 0)) (by (with_reducible repeat (first | refine blk_drewN ?_ _ | refine blk_drew ?_ | refine blk_alloc ?_ _)); exact BK251.out) hg (Kd.S_away HO_5.out (fun _ hk => hk.2))); have n1_ := Aside0.mk (hb); have n2_ := Aside0.mk (ho); clear BK251; clear HB; clear HO_5; have BK251 := n0_; have HB := n1_; have HO269 := n2_; clear n0_ n1_ n2_; clear ho hb hg hat))); go_roundg kj4
                case measure => have := HK1.out; have := HJ4.out; omega
                case rel => exact ⟨(y267), (wrap64 (x6_1 + 1)), (by first | rfl | (simp; done) | (simp [*]; done)), H', ⟨by have := HK1.out; have := HJ4.out; omega⟩, ⟨by (with_reducible repeat (first | apply Kd.S_alloc | apply Kd.S_drewN | apply Kd.S_drew)); exact Kd.S_mono HO269.out (fun _ hk => trivial)⟩, ⟨by repeat (first | (with_reducible first | exact HB.out | apply below_alloc | apply pw_below_drewN | apply below_drew1 | refine below_set ?_ GE251.out) | exact HB.out)⟩⟩
              · rw [if_neg c42] at H; (exact absurd H (by simp))
          · replace c9 := Bool.eq_false_iff.mpr c9; subst c9; (have H1 : (some x5_1) = some r := by rw [if_neg (show ¬ (false = true) by decide)] at H; exact H); clear H; have H := H1; clear H1; obtain rfl := Option.some.inj H; go_wp2; go_ret; (exact ⟨_, by first | rfl | (simp [errW_none, errW_some] <;> rfl) | (simp [*, errW_none, errW_some] <;> rfl), by (with_reducible repeat (first | apply Kd.S_alloc | apply Kd.S_drewN | apply Kd.S_drew)); exact HO_5.out, by repeat (first | (with_reducible first | exact HB.out | apply below_alloc | apply pw_below_drewN | apply below_drew1) | exact HB.out)⟩)

/-! ### spec_FitsField: function 77 -/
mutual
def spec_FitsField.j0 : Nat → Int → Int → Int → Int → Int → Int → List Int → Option (Bool)
  | 0, _, _, _, _, _, _, _ => none
  | k + 1, x5, x271000, x271001, x271002, x271003, x272000, x272001 => spec_FitsField.l0 k x5 0 x271000 x271001 x271002 x271003 x272000 x272001
def spec_FitsField.l0 : Nat → Int → Int → Int → Int → Int → Int → Int → List Int → Option (Bool)
  | 0, _, _, _, _, _, _, _, _ => none
  | k + 1, x5, x6, x271000, x271001, x271002, x271003, x272000, x272001 => if x6 < (x272001.length : Int) then (if 0 ≤ x6 then ((spec_l1In.f (rd x272001 x6) 0 x5).bind fun t274 => (if t274 = true then (spec_FitsField.l0 k x5 (wrap64 (x6 + 1)) x271000 x271001 x271002 x271003 x272000 x272001) else (some false))) else (none)) else (if x272000 = 0 then (some (decide ((x272001.length : Int) ≤ x271001))) else (some false))
end
def spec_FitsField.f (k : Nat) (a0_0 : Int) (a0_1 : Int) (a0_2 : Int) (a0_3 : Int) (a1_0 : Int) (l1_1 : List Int) : Option (Bool) := if a0_0 = 1 then ((spec_l1In.f a1_0 0 a0_1).bind fun t272 => (if t272 = true then (some ((l1_1.length : Int) == 0)) else (some false))) else (if a0_0 = 3 then (spec_FitsField.j0 k 99 a0_0 a0_1 a0_2 a0_3 a1_0 l1_1) else (if a0_0 = 2 then (spec_FitsField.j0 k 255 a0_0 a0_1 a0_2 a0_3 a1_0 l1_1) else (some false)))
theorem spec_FitsField.mono_l : ∀ k, (∀ y0 y1 y2 y3 y4 y5 y6, LeO (spec_FitsField.j0 k y0 y1 y2 y3 y4 y5 y6) (spec_FitsField.j0 (k + 1) y0 y1 y2 y3 y4 y5 y6)) ∧ (∀ y0 y1 y2 y3 y4 y5 y6 y7, LeO (spec_FitsField.l0 k y0 y1 y2 y3 y4 y5 y6 y7) (spec_FitsField.l0 (k + 1) y0 y1 y2 y3 y4 y5 y6 y7))
  | 0 => ⟨fun _ _ _ _ _ _ _ r h => by simp [spec_FitsField.j0] at h, fun _ _ _ _ _ _ _ _ r h => by simp [spec_FitsField.l0] at h⟩
  | k + 1 => by
    obtain ⟨ih0, ih1⟩ := spec_FitsField.mono_l k
    refine ⟨?_, ?_⟩
    · intro y0 y1 y2 y3 y4 y5 y6
      unfold spec_FitsField.j0
      repeat' first
      | (with_reducible exact ih0 _ _ _ _ _ _ _)
      | (with_reducible exact ih1 _ _ _ _ _ _ _ _)
      | (with_reducible exact LeO.refl _)
      | (with_reducible exact LeO.none _)
      | (with_reducible refine LeO.ite ?_ ?_)
      | (with_reducible refine LeO.bind ?_ (fun _ => ?_))
      | exact ih0 _ _ _ _ _ _ _
      | exact ih1 _ _ _ _ _ _ _ _
      | exact LeO.none _
      | refine LeO.ite ?_ ?_
      | refine LeO.bind ?_ (fun _ => ?_)
    · intro y0 y1 y2 y3 y4 y5 y6 y7
      unfold spec_FitsField.l0
      repeat' first
      | (with_reducible exact ih0 _ _ _ _ _ _ _)
      | (with_reducible exact ih1 _ _ _ _ _ _ _ _)
      | (with_reducible exact LeO.refl _)
      | (with_reducible exact LeO.none _)
      | (with_reducible refine LeO.ite ?_ ?_)
      | (with_reducible refine LeO.bind ?_ (fun _ => ?_))
      | exact ih0 _ _ _ _ _ _ _
      | exact ih1 _ _ _ _ _ _ _ _
      | exact LeO.none _
      | refine LeO.ite ?_ ?_
      | refine LeO.bind ?_ (fun _ => ?_)
theorem spec_FitsField.mono : ∀ a0 a1 a2 a3 a4 a5 k, LeO (spec_FitsField.f k a0 a1 a2 a3 a4 a5) (spec_FitsField.f (k + 1) a0 a1 a2 a3 a4 a5) := by
  intro a0 a1 a2 a3 a4 a5 k
  obtain ⟨ih0, ih1⟩ := spec_FitsField.mono_l k
  unfold spec_FitsField.f
  repeat' first
      | (with_reducible exact ih0 _ _ _ _ _ _ _)
      | (with_reducible exact ih1 _ _ _ _ _ _ _ _)
      | (with_reducible exact LeO.refl _)
      | (with_reducible exact LeO.none _)
      | (with_reducible refine LeO.ite ?_ ?_)
      | (with_reducible refine LeO.bind ?_ (fun _ => ?_))
      | exact ih0 _ _ _ _ _ _ _
      | exact ih1 _ _ _ _ _ _ _ _
      | exact LeO.none _
      | refine LeO.ite ?_ ?_
      | refine LeO.bind ?_ (fun _ => ?_)
set_option maxHeartbeats 8000000 in
set_option maxRecDepth 100000 in
theorem spec_FitsField.calls (k : Nat) (a0_0 : Int) (a0_1 : Int) (a0_2 : Int) (a0_3 : Int) (a1_0 : Int) (A1_1 : Option Addr) (c1_1 : Nat) (l1_1 : List Int) (r : Bool) (w : World) (hr1_1 : Kd.C (Kd.int .i64) w A1_1 l1_1.length l1_1) (hc1_1 : l1_1.length ≤ c1_1) (h : spec_FitsField.f k a0_0 a0_1 a0_2 a0_3 a1_0 l1_1 = some r) :
    Calls Try.prog 77 #[.agg #[.int .i64 a0_0, .int .i64 a0_1, .int .i64 a0_2, .int .i64 a0_3], .agg #[.int .i64 a1_0, .slice A1_1 l1_1.length c1_1]] w fun e w' => e = .returned (.bool r) ∧ Below w.heap.size w w' := by
  have hu67 := Try.underlying67
  have hu63 := Try.underlying63
  have HR1_1 := Aside0.mk hr1_1
  have HC1_1 := Aside0.mk hc1_1
  clear hr1_1 hc1_1
  have HB := Aside0.mk (Below.refl w.heap.size w)
  have H : (if a0_0 = 1 then ((spec_l1In.f a1_0 0 a0_1).bind fun t272 => (if t272 = true then (some ((l1_1.length : Int) == 0)) else (some false))) else (if a0_0 = 3 then (spec_FitsField.j0 k 99 a0_0 a0_1 a0_2 a0_3 a1_0 l1_1) else (if a0_0 = 2 then (spec_FitsField.j0 k 255 a0_0 a0_1 a0_2 a0_3 a1_0 l1_1) else (some false)))) = some r := h
  clear h
  have HC3 := Aside0.mk H
  clear H
  go_enter Try.func77, Try.ntmps77
  go_upto_block 0 with (first | ((with_reducible refine gate_dst (N := 2) rfl ?_); (try (refine gate_guard (by rfl) ?_; dsimp only)); refine box_event ?hg (N := 2) ?hd (cs := #[.int .i64 a0_0, .int .i64 a0_1, .int .i64 a0_2, .int .i64 a0_3]) (t := 67) ?hr ?_; (case hd => rfl); (case hg => rfl); (case hr => first | (go_simp; done) | (go_simp; rfl)); intro gb270 hg w4 hbox hb; have n0_ := bS hb; have n1_ := Aside0.mk (hbox); have n2_ : Aside0 (w.heap.size ≤ gb270) := bZ hg; have n3_ : Aside0 (w.heap.size ≤ gb270) := bZ hg; clear HB; have HB := n0_; have BK270 := n1_; have GW270 := n2_; have GE270 := n3_; clear n0_ n1_ n2_ n3_; clear hb hbox hg) | ((with_reducible refine gate_dst (N := 3) rfl ?_); (try (refine gate_guard (by rfl) ?_; dsimp only)); refine box_event ?hg (N := 3) ?hd (cs := #[.int .i64 a1_0, .slice A1_1 l1_1.length c1_1]) (t := 63) ?hr ?_; (case hd => rfl); (case hg => rfl); (case hr => first | (go_simp; done) | (go_simp; rfl)); intro gb271 hg w5 hbox hb; have n0_ := Aside0.mk (blk_below (g := gb270) (o := .cells #[.int .i64 a0_0, .int .i64 a0_1, .int .i64 a0_2, .int .i64 a0_3] 67 (0, 0)) (by (with_reducible repeat (first | refine blk_drewN ?_ _ | refine blk_drew ?_ | refine blk_alloc ?_ _)); exact BK270.out) hb); have n1_ := bS hb; have n2_ := Aside0.mk (hbox); have n3_ : Aside0 (w.heap.size ≤ gb271) := bZ hg; have n4_ : Aside0 (w.heap.size ≤ gb271) := bZ hg; have n5_ := Aside0.mk ((by rw [hg]; exact Nat.ne_of_lt (blk_lt (g := gb270) (o := .cells #[.int .i64 a0_0, .int .i64 a0_1, .int .i64 a0_2, .int .i64 a0_3] 67 (0, 0)) (by (with_reducible repeat (first | refine blk_drewN ?_ _ | refine blk_drew ?_ | refine blk_alloc ?_ _)); exact BK270.out)) : gb270 ≠ gb271)); have n6_ := Aside0.mk ((by rw [hg]; exact Nat.ne_of_gt (blk_lt (g := gb270) (o := .cells #[.int .i64 a0_0, .int .i64 a0_1, .int .i64 a0_2, .int .i64 a0_3] 67 (0, 0)) (by (with_reducible repeat (first | refine blk_drewN ?_ _ | refine blk_drew ?_ | refine blk_alloc ?_ _)); exact BK270.out)) : gb271 ≠ gb270)); clear BK270; clear HB; have BK270 := n0_; have HB := n1_; have BK271 := n2_; have GW271 := n3_; have GE271 := n4_; have NB270_271 := n5_; have NB271_270 := n6_; clear n0_ n1_ n2_ n3_ n4_ n5_ n6_; clear hb hbox hg; have hnb6 := NB270_271.out; have hnc6 := NB271_270.out; obtain ⟨hcz7_0, hcz7_1, hcz7_2, hcz7_3, hfz7_0, hfz7_1, hfz7_2, hfz7_3⟩ := zc4 BK270.out))
  (try simp only [Act.put, sT, sZ, sS])
  go_cut [5] (fun v5 wc => ∃ (kq : Nat) (x5_2 : Int), v5 = .int .i64 x5_2 ∧ Aside0 (spec_FitsField.j0 kq x5_2 a0_0 a0_1 a0_2 a0_3 a1_0 l1_1 = some r) ∧ Aside0 (kq ≤ k) ∧ Aside0 (wc.heap[gb270]? = some (.cells #[.int .i64 a0_0, .int .i64 a0_1, .int .i64 a0_2, .int .i64 a0_3] 67 (0, 0))) ∧ Aside0 (wc.heap[gb271]? = some (.cells #[.int .i64 a1_0, (.slice A1_1 l1_1.length c1_1)] 63 (0, 0))) ∧ Aside0 (Below w.heap.size w wc))
  case first =>
    have H := HC3.out
    clear HC3
    by_cases c8 : a0_0 = 1
    · rw [if_pos c8] at H
      have c8b0 : (a0_0 == 1) = true := beq_iff_eq.mpr c8
      have c8b1 : (a0_0 != 1) = false := bne_eq_false_iff_eq.mpr c8
      clear c8
      (first | rw [c8b0] | (simp only [i64_w, i32_w]; rw [c8b0]) | skip)
      replace H := Option.bind_eq_some_iff.mp H
      obtain ⟨t272, A90, H⟩ := H
      replace H : (if t272 = true then (some ((l1_1.length : Int) == 0)) else (some false)) = some r := H
      have A9 := Aside0.mk A90
      clear A90
      by_cases c10 : t272 = true
      · subst c10
        have H1 : (some ((l1_1.length : Int) == 0)) = some r := by rw [if_pos rfl] at H; exact H
        clear H
        have H := H1
        clear H1
        obtain rfl := Option.some.inj H
        have hnb11 := NB271_270.out
        have hnc11 := NB270_271.out
        have hcz12_0 : w5.cell? ⟨gb271, 0, none⟩ = some (.int .i64 a1_0) := (blk_cell BK271.out 0).trans rfl
        have hcz12_1 : w5.cell? ⟨gb271, 1, none⟩ = some (.slice A1_1 l1_1.length c1_1) := (blk_cell BK271.out 1).trans rfl
        have hfz12_0 := blk_frozen BK271.out 0
        have hfz12_1 := blk_frozen BK271.out 1
        have hcz13_0 : w5.cell? ⟨gb270, 0, none⟩ = some (.int .i64 a0_0) := (blk_cell BK270.out 0).trans rfl
        have hcz13_1 : w5.cell? ⟨gb270, 1, none⟩ = some (.int .i64 a0_1) := (blk_cell BK270.out 1).trans rfl
        have hcz13_2 : w5.cell? ⟨gb270, 2, none⟩ = some (.int .i64 a0_2) := (blk_cell BK270.out 2).trans rfl
        have hcz13_3 : w5.cell? ⟨gb270, 3, none⟩ = some (.int .i64 a0_3) := (blk_cell BK270.out 3).trans rfl
        have hfz13_0 := blk_frozen BK270.out 0
        have hfz13_1 := blk_frozen BK270.out 1
        have hfz13_2 := blk_frozen BK270.out 2
        have hfz13_3 := blk_frozen BK270.out 3
        go_wp2_with (first | ((with_reducible refine gate_callee (f := 59) rfl ?_); refine gL 15 Try.func59 #[.int .i64 a1_0, .int .i64 0, .int .i64 a0_1] ?_; (with_reducible refine (spec_l1In.calls a1_0 0 a0_1 true _ A9.out).mono ?_); rintro e w' ⟨rfl, ⟨nd, rfl⟩⟩; refine ⟨_, rfl, ?_⟩))
        go_ret
        exact ⟨by first | rfl | (simp [errW_none, errW_some] <;> rfl) | (simp [*, errW_none, errW_some] <;> rfl), by repeat (first | (with_reducible first | exact HB.out | apply below_alloc | apply pw_below_drewN | apply below_drew1 | refine below_set ?_ GE270.out | refine below_set ?_ GE271.out) | exact HB.out)⟩
      · replace c10 := Bool.eq_false_iff.mpr c10
        subst c10
        have H1 : (some false) = some r := by rw [if_neg (show ¬ (false = true) by decide)] at H; exact H
        clear H
        have H := H1
        clear H1
        obtain rfl := Option.some.inj H
        have hnb14 := NB271_270.out
        have hnc14 := NB270_271.out
        have hcz15_0 : w5.cell? ⟨gb271, 0, none⟩ = some (.int .i64 a1_0) := (blk_cell BK271.out 0).trans rfl
        have hcz15_1 : w5.cell? ⟨gb271, 1, none⟩ = some (.slice A1_1 l1_1.length c1_1) := (blk_cell BK271.out 1).trans rfl
        have hfz15_0 := blk_frozen BK271.out 0
        have hfz15_1 := blk_frozen BK271.out 1
        have hcz16_0 : w5.cell? ⟨gb270, 0, none⟩ = some (.int .i64 a0_0) := (blk_cell BK270.out 0).trans rfl
        have hcz16_1 : w5.cell? ⟨gb270, 1, none⟩ = some (.int .i64 a0_1) := (blk_cell BK270.out 1).trans rfl
        have hcz16_2 : w5.cell? ⟨gb270, 2, none⟩ = some (.int .i64 a0_2) := (blk_cell BK270.out 2).trans rfl
        have hcz16_3 : w5.cell? ⟨gb270, 3, none⟩ = some (.int .i64 a0_3) := (blk_cell BK270.out 3).trans rfl
        have hfz16_0 := blk_frozen BK270.out 0
        have hfz16_1 := blk_frozen BK270.out 1
        have hfz16_2 := blk_frozen BK270.out 2
        have hfz16_3 := blk_frozen BK270.out 3
        go_wp2_with (first | ((with_reducible refine gate_callee (f := 59) rfl ?_); refine gL 15 Try.func59 #[.int .i64 a1_0, .int .i64 0, .int .i64 a0_1] ?_; (with_reducible refine (spec_l1In.calls a1_0 0 a0_1 false _ A9.out).mono ?_); rintro e w' ⟨rfl, ⟨nd, rfl⟩⟩; refine ⟨_, rfl, ?_⟩))
        go_ret
        exact ⟨by first | rfl | (simp [errW_none, errW_some] <;> rfl) | (simp [*, errW_none, errW_some] <;> rfl), by repeat (first | (with_reducible first | exact HB.out | apply below_alloc | apply pw_below_drewN | apply below_drew1 | refine below_set ?_ GE270.out | refine below_set ?_ GE271.out) | exact HB.out)⟩
    · rw [if_neg c8] at H
      have c8b0 : (a0_0 == 1) = false := beq_eq_false_iff_ne.mpr c8
      have c8b1 : (a0_0 != 1) = true := bne_iff_ne.mpr c8
      (first | rw [c8b0] | (simp only [i64_w, i32_w]; rw [c8b0]) | skip)
      by_cases c17 : a0_0 = 3
      · rw [if_pos c17] at H
        have c17b0 : (a0_0 == 3) = true := beq_iff_eq.mpr c17
        have c17b1 : (a0_0 != 3) = false := bne_eq_false_iff_eq.mpr c17
        clear c17
        have H' := Aside0.mk H
        clear H
        go_wp2
        go_meet
        case rel => exact ⟨_, (99), (by first | rfl | (simp; done) | (simp [*]; done)), H', ⟨by first | omega | exact Nat.le_refl _⟩, ⟨by (with_reducible repeat (first | refine blk_drewN ?_ _ | refine blk_drew ?_ | refine blk_alloc ?_ _)); exact BK270.out⟩, ⟨by (with_reducible repeat (first | refine blk_drewN ?_ _ | refine blk_drew ?_ | refine blk_alloc ?_ _)); exact BK271.out⟩, ⟨by repeat (first | (with_reducible first | exact HB.out | apply below_alloc | apply pw_below_drewN | apply below_drew1 | refine below_set ?_ GE270.out | refine below_set ?_ GE271.out) | exact HB.out)⟩⟩
      · rw [if_neg c17] at H
        have c17b0 : (a0_0 == 3) = false := beq_eq_false_iff_ne.mpr c17
        have c17b1 : (a0_0 != 3) = true := bne_iff_ne.mpr c17
        by_cases c18 : a0_0 = 2
        · rw [if_pos c18] at H
          have c18b0 : (a0_0 == 2) = true := beq_iff_eq.mpr c18; have c18b1 : (a0_0 != 2) = false := bne_eq_false_iff_eq.mpr c18; clear c18; have H' := Aside0.mk H; clear H; go_wp2; go_meet
          case rel => exact ⟨_, (255), (by first | rfl | (simp; done) | (simp [*]; done)), H', ⟨by first | omega | exact Nat.le_refl _⟩, ⟨by (with_reducible repeat (first | refine blk_drewN ?_ _ | refine blk_drew ?_ | refine blk_alloc ?_ _)); exact BK270.out⟩, ⟨by (with_reducible repeat (first | refine blk_drewN ?_ _ | refine blk_drew ?_ | refine blk_alloc ?_ _)); exact BK271.out⟩, ⟨by repeat (first | (with_reducible first | exact HB.out | apply below_alloc | apply pw_below_drewN | apply below_drew1 | refine below_set ?_ GE270.out | refine below_set ?_ GE271.out) | exact HB.out)⟩⟩
        · rw [if_neg c18] at H
          have c18b0 : (a0_0 == 2) = false := beq_eq_false_iff_ne.mpr c18; have c18b1 : (a0_0 != 2) = true := bne_iff_ne.mpr c18; obtain rfl := Option.some.inj H; go_wp2; go_ret; (exact ⟨by first | rfl | (simp [errW_none, errW_some] <;> rfl) | (simp [*, errW_none, errW_some] <;> rfl), by repeat (first | (with_reducible first | exact HB.out | apply below_alloc | apply pw_below_drewN | apply below_drew1 | refine below_set ?_ GE270.out | refine below_set ?_ GE271.out) | exact HB.out)⟩)
  case rest =>
    clear HC3
    try clear c1
    try clear p2
    try clear c5
    try clear c6
    try clear c7
    try clear c8
    try clear c8b0
    try clear c8b1
    try clear c10
    try clear c11
    try clear c14
    try clear c17
    try clear c17b0
    try clear c17b1
    try clear c18
    try clear c18b0
    try clear c18b1
    try clear hcz12_0
    try clear hcz12_1
    try clear hcz13_0
    try clear hcz13_1
    try clear hcz13_2
    try clear hcz13_3
    try clear hcz15_0
    try clear hcz15_1
    try clear hcz16_0
    try clear hcz16_1
    try clear hcz16_2
    try clear hcz16_3
    try clear hcz7_0
    try clear hcz7_1
    try clear hcz7_2
    try clear hcz7_3
    try clear hfz12_0
    try clear hfz12_1
    try clear hfz13_0
    try clear hfz13_1
    try clear hfz13_2
    try clear hfz13_3
    try clear hfz15_0
    try clear hfz15_1
    try clear hfz16_0
    try clear hfz16_1
    try clear hfz16_2
    try clear hfz16_3
    try clear hfz7_0
    try clear hfz7_1
    try clear hfz7_2
    try clear hfz7_3
    obtain ⟨kq, x5_2, rfl, HA, HJ2, BK270, BK271, HB⟩ := hcut
    cases kq with
    | zero => exact absurd HA.out (by simp [spec_FitsField.j0])
    | succ kj2 =>
      have H := HA.out
      clear HA
      simp only [spec_FitsField.j0] at H
      have H' := Aside0.mk H
      clear H
      go_wp2
      go_loopg [6] kj2 (fun kq v6 w' => ∃ (x6_2 : Int), v6 = .int .i64 x6_2 ∧ Aside0 (spec_FitsField.l0 kq x5_2 x6_2 a0_0 a0_1 a0_2 a0_3 a1_0 l1_1 = some r) ∧ Aside0 (kq ≤ kj2) ∧ Aside0 (w'.heap[gb270]? = some (.cells #[.int .i64 a0_0, .int .i64 a0_1, .int .i64 a0_2, .int .i64 a0_3] 67 (0, 0))) ∧ Aside0 (w'.heap[gb271]? = some (.cells #[.int .i64 a1_0, (.slice A1_1 l1_1.length c1_1)] 63 (0, 0))) ∧ Aside0 (Below w.heap.size w w'))
      case atStart => exact ⟨(0), (by first | rfl | (simp; done) | (simp [*]; done)), H', ⟨Nat.le_refl _⟩, ⟨by (with_reducible repeat (first | refine blk_drewN ?_ _ | refine blk_drew ?_ | refine blk_alloc ?_ _)); exact BK270.out⟩, ⟨by (with_reducible repeat (first | refine blk_drewN ?_ _ | refine blk_drew ?_ | refine blk_alloc ?_ _)); exact BK271.out⟩, ⟨by repeat (first | (with_reducible first | exact HB.out | apply below_alloc | apply pw_below_drewN | apply below_drew1 | refine below_set ?_ GE270.out | refine below_set ?_ GE271.out) | exact HB.out)⟩⟩
      case round =>
        clear H'
        try clear c1
        try clear p2
        try clear c5
        try clear c6
        try clear c7
        try clear c8
        try clear c8b0
        try clear c8b1
        try clear c10
        try clear c11
        try clear c14
        try clear c17
        try clear c17b0
        try clear c17b1
        try clear c18
        try clear c18b0
        try clear c18b1
        try clear hcz12_0
        try clear hcz12_1
        try clear hcz13_0
        try clear hcz13_1
        try clear hcz13_2
        try clear hcz13_3
        try clear hcz15_0
        try clear hcz15_1
        try clear hcz16_0
        try clear hcz16_1
        try clear hcz16_2
        try clear hcz16_3
        try clear hcz7_0
        try clear hcz7_1
        try clear hcz7_2
        try clear hcz7_3
        try clear hfz12_0
        try clear hfz12_1
        try clear hfz13_0
        try clear hfz13_1
        try clear hfz13_2
        try clear hfz13_3
        try clear hfz15_0
        try clear hfz15_1
        try clear hfz16_0
        try clear hfz16_1
        try clear hfz16_2
        try clear hfz16_3
        try clear hfz7_0
        try clear hfz7_1
        try clear hfz7_2
        try clear hfz7_3
        try clear p2
        obtain ⟨x6_2, rfl, HA, HK2, BK270, BK271, HB⟩ := hrel
        cases gk with
        | zero => exact absurd HA.out (by simp [spec_FitsField.l0])
        | succ k2 =>
          have H := HA.out; clear HA; simp only [spec_FitsField.l0] at H; by_cases c19 : x6_2 < (l1_1.length : Int)
          · rw [if_pos c19] at H
            have c19b0 : decide (x6_2 < (l1_1.length : Int)) = true := decide_eq_true c19; clear c19; by_cases c20 : 0 ≤ x6_2
            · rw [if_pos c20] at H
              have c20b0 : decide (0 ≤ x6_2) = true := decide_eq_true c20; clear c20; replace H := Option.bind_eq_some_iff.mp H; obtain ⟨t274, A210, H⟩ := H; replace H : (if t274 = true then (spec_FitsField.l0 k2 x5_2 (wrap64 (x6_2 + 1)) a0_0 a0_1 a0_2 a0_3 a1_0 l1_1) else (some false)) = some r := H; have A21 := Aside0.mk A210; clear A210; by_cases c22 : t274 = true
              · subst c22
                (have H1 : (spec_FitsField.l0 k2 x5_2 (wrap64 (x6_2 + 1)) a0_0 a0_1 a0_2 a0_3 a1_0 l1_1) = some r := by rw [if_pos rfl] at H; exact H); clear H; have H := H1; clear H1; have H' := Aside0.mk H; clear H; have hnb23 := NB271_270.out; have hnc23 := NB270_271.out; obtain ⟨hcz24_0, hcz24_1, hfz24_0, hfz24_1⟩ := zc2 BK271.out; (have p273 : 0 ≤ (x6_2 : Int) := of_decide_eq_true (by assumption)); (have q273 : x6_2 < (l1_1.length : Int) := of_decide_eq_true (by assumption)); obtain ⟨ad273, e273, hx273_0⟩ := Kd.at_int HR1_1.out x6_2 p273 q273; cases e273; replace hx273_0 := hC HB.out hx273_0; replace p273 := eq_true p273; replace q273 := eq_true q273; (go_wp2_with (first | ((with_reducible refine gate_callee (f := 59) rfl ?_); refine gL 39 Try.func59 #[.int .i64 (rd l1_1 x6_2), .int .i64 0, .int .i64 x5_2] ?_; (with_reducible refine (spec_l1In.calls (rd l1_1 x6_2) 0 x5_2 true _ A21.out).mono ?_); rintro e w' ⟨rfl, ⟨nd, rfl⟩⟩; refine ⟨_, rfl, ?_⟩))); go_roundg k2
                case measure => have := HJ2.out; have := HK2.out; omega
                case rel => exact ⟨(wrap64 (x6_2 + 1)), (by first | rfl | (simp; done) | (simp [*]; done)), H', ⟨by have := HJ2.out; have := HK2.out; omega⟩, ⟨by (with_reducible repeat (first | refine blk_drewN ?_ _ | refine blk_drew ?_ | refine blk_alloc ?_ _)); exact BK270.out⟩, ⟨by (with_reducible repeat (first | refine blk_drewN ?_ _ | refine blk_drew ?_ | refine blk_alloc ?_ _)); exact BK271.out⟩, ⟨by repeat (first | (with_reducible first | exact HB.out | apply below_alloc | apply pw_below_drewN | apply below_drew1 | refine below_set ?_ GE270.out | refine below_set ?_ GE271.out) | exact HB.out)⟩⟩
              · replace c22 := Bool.eq_false_iff.mpr c22; subst c22; (have H1 : (some false) = some r := by rw [if_neg (show ¬ (false = true) by decide)] at H; exact H); clear H; have H := H1; clear H1; obtain rfl := Option.some.inj H; have hnb25 := NB271_270.out; have hnc25 := NB270_271.out; obtain ⟨hcz26_0, hcz26_1, hfz26_0, hfz26_1⟩ := zc2 BK271.out; (have p273 : 0 ≤ (x6_2 : Int) := of_decide_eq_true (by assumption)); (have q273 : x6_2 < (l1_1.length : Int) := of_decide_eq_true (by assumption)); obtain ⟨ad273, e273, hx273_0⟩ := Kd.at_int HR1_1.out x6_2 p273 q273; cases e273; replace hx273_0 := hC HB.out hx273_0; replace p273 := eq_true p273; replace q273 := eq_true q273; (go_wp2_with (first | ((with_reducible refine gate_callee (f := 59) rfl ?_); refine gL 39 Try.func59 #[.int .i64 (rd l1_1 x6_2), .int .i64 0, .int .i64 x5_2] ?_; (with_reducible refine (spec_l1In.calls (rd l1_1 x6_2) 0 x5_2 false _ A21.out).mono ?_); rintro e w' ⟨rfl, ⟨nd, rfl⟩⟩; refine ⟨_, rfl, ?_⟩))); go_ret; (exact ⟨by first | rfl | (simp [errW_none, errW_some] <;> rfl) | (simp [*, errW_none, errW_some] <;> rfl), by repeat (first | (with_reducible first | exact HB.out | apply below_alloc | apply pw_below_drewN | apply below_drew1 | refine below_set ?_ GE270.out | refine below_set ?_ GE271.out) | exact HB.out)⟩)
            · rw [if_neg c20] at H; (exact absurd H (by simp))
          · rw [if_neg c19] at H
            have c19b0 : decide (x6_2 < (l1_1.length : Int)) = false := decide_eq_false c19; clear c19; by_cases c27 : a1_0 = 0; (· rw [if_pos c27] at H; have c27b0 : (a1_0 == 0) = true := beq_iff_eq.mpr c27; have c27b1 : (a1_0 != 0) = false := bne_eq_false_iff_eq.mpr c27; clear c27; obtain rfl := Option.some.inj H; have hnb28 := NB271_270.out; have hnc28 := NB270_271.out; obtain ⟨hcz29_0, hcz29_1, hfz29_0, hfz29_1⟩ := zc2 BK271.out; obtain ⟨hcz30_0, hcz30_1, hcz30_2, hcz30_3, hfz30_0, hfz30_1, hfz30_2, hfz30_3⟩ := zc4 BK270.out; go_wp2; go_ret; (exact ⟨by first | rfl | (simp [errW_none, errW_some] <;> rfl) | (simp [*, errW_none, errW_some] <;> rfl), by repeat (first | (with_reducible first | exact HB.out | apply below_alloc | apply pw_below_drewN | apply below_drew1 | refine below_set ?_ GE270.out | refine below_set ?_ GE271.out) | exact HB.out)⟩)); (· rw [if_neg c27] at H; have c27b0 : (a1_0 == 0) = false := beq_eq_false_iff_ne.mpr c27; have c27b1 : (a1_0 != 0) = true := bne_iff_ne.mpr c27; obtain rfl := Option.some.inj H; have hnb31 := NB271_270.out; have hnc31 := NB270_271.out; obtain ⟨hcz32_0, hcz32_1, hfz32_0, hfz32_1⟩ := zc2 BK271.out; go_wp2; go_ret; (exact ⟨by first | rfl | (simp [errW_none, errW_some] <;> rfl) | (simp [*, errW_none, errW_some] <;> rfl), by repeat (first | (with_reducible first | exact HB.out | apply below_alloc | apply pw_below_drewN | apply below_drew1 | refine below_set ?_ GE270.out | refine below_set ?_ GE271.out) | exact HB.out)⟩))

end Go.Proofs.Ythgikmgdgibimaa.QFnExactMakeBytes
