/- Each Go function that the law reaches, told as a plain Lean function, and the proof that the machine's call answers just that. No condition beyond those that each theorem names. -/
import Derived.Test.YtofgihojpggecaaDoorQFnMessagesx0
import Derived.Test.YtofgihojpggecaaDoorQFnMessagesx1
import Derived.Test.YtofgihojpggecaaDoorQFnMessagesx2
import Derived.Test.YtofgihojpggecaaDoorQFnMessagesx3
namespace Go.Proofs.YtofgihojpggecaaDoor.QFnMessages
open Go.RowKit Go.Proofs.YtofgihojpggecaaDoorW.PrintWords Go.Proofs.YtofgihojpggecaaDoorW.PrintLast Go.Proofs.YtofgihojpggecaaDoorW.PrintMore
attribute [local go_sem] max2_int min2_int max_two min_two max_three min_three max_four min_four   -- for this text's walks alone
set_option linter.unusedVariables false
set_option linter.unusedSimpArgs false

/-! ### impl_ThereCount: function 30 -/
def impl_ThereCount.l0 : Nat → List (S49) → List (S52) → Int → Int → Int → Option (Int)
  | 0, _, _, _, _, _ => none
  | k + 1, x0, x1, x5, x8, x9 => if x9 < x8 then ((impl_IsThere.f x0 x1 x9).bind fun t356 => (if t356 = true then (impl_ThereCount.l0 k x0 x1 (wrap64 (x5 + 1)) x8 (wrap64 (x9 + 1))) else (impl_ThereCount.l0 k x0 x1 x5 x8 (wrap64 (x9 + 1))))) else (some x5)
def impl_ThereCount.f (k : Nat) (l0 : List (S49)) (l1 : List (S52)) : Option (Int) := impl_ThereCount.l0 k l0 l1 0 (l0.length : Int) 0
theorem impl_ThereCount.mono_l : ∀ k, (∀ y0 y1 y2 y3 y4, LeO (impl_ThereCount.l0 k y0 y1 y2 y3 y4) (impl_ThereCount.l0 (k + 1) y0 y1 y2 y3 y4))
  | 0 => fun _ _ _ _ _ r h => by simp [impl_ThereCount.l0] at h
  | k + 1 => by
    have ih0 := impl_ThereCount.mono_l k
    · intro y0 y1 y2 y3 y4
      unfold impl_ThereCount.l0
      repeat' first
      | (with_reducible exact ih0 _ _ _ _ _)
      | (with_reducible exact LeO.refl _)
      | (with_reducible exact LeO.none _)
      | (with_reducible refine LeO.ite ?_ ?_)
      | (with_reducible refine LeO.bind ?_ (fun _ => ?_))
      | exact ih0 _ _ _ _ _
      | exact LeO.none _
      | refine LeO.ite ?_ ?_
      | refine LeO.bind ?_ (fun _ => ?_)
theorem impl_ThereCount.mono : ∀ a0 a1 k, LeO (impl_ThereCount.f k a0 a1) (impl_ThereCount.f (k + 1) a0 a1) := by
  intro a0 a1 k
  have ih0 := impl_ThereCount.mono_l k
  unfold impl_ThereCount.f
  repeat' first
      | (with_reducible exact ih0 _ _ _ _ _)
      | (with_reducible exact LeO.refl _)
      | (with_reducible exact LeO.none _)
      | (with_reducible refine LeO.ite ?_ ?_)
      | (with_reducible refine LeO.bind ?_ (fun _ => ?_))
      | exact ih0 _ _ _ _ _
      | exact LeO.none _
      | refine LeO.ite ?_ ?_
      | refine LeO.bind ?_ (fun _ => ?_)
set_option maxHeartbeats 8000000 in
set_option maxRecDepth 100000 in
theorem impl_ThereCount.calls (k : Nat) (A0 : Option Addr) (c0 : Nat) (l0 : List (S49)) (A1 : Option Addr) (c1 : Nat) (l1 : List (S52)) (r : Int) (w : World) (hr0 : Kd.C k49 w A0 l0.length l0) (hc0 : l0.length ≤ c0) (hr1 : Kd.C k52 w A1 l1.length l1) (hc1 : l1.length ≤ c1) (h : impl_ThereCount.f k l0 l1 = some r) :
    Calls Tryd.prog 30 #[.slice A0 l0.length c0, .slice A1 l1.length c1] w fun e w' => e = .returned (.int .i64 r) ∧ Below w.heap.size w w' := by
  have HR0 := Aside0.mk hr0
  have HC0 := Aside0.mk hc0
  clear hr0 hc0
  have HR1 := Aside0.mk hr1
  have HC1 := Aside0.mk hc1
  clear hr1 hc1
  have HB := Aside0.mk (Below.refl w.heap.size w)
  have H : (impl_ThereCount.l0 k l0 l1 0 (l0.length : Int) 0) = some r := h
  clear h
  have H' := Aside0.mk H
  clear H
  go_enter Tryd.func30, Tryd.ntmps30
  go_wp2
  go_loopg [5, 9] k (fun kq v5 v9 w' => ∃ (x5_1 : Int) (x9_1 : Int), v5 = .int .i64 x5_1 ∧ v9 = .int .i64 x9_1 ∧ Aside0 (impl_ThereCount.l0 kq l0 l1 x5_1 (l0.length : Int) x9_1 = some r) ∧ Aside0 (kq ≤ k) ∧ Aside0 (Below w.heap.size w w'))
  case atStart => exact ⟨(0), (0), (by first | rfl | (simp; done) | (simp [*]; done)), (by first | rfl | (simp; done) | (simp [*]; done)), H', ⟨Nat.le_refl _⟩, ⟨z0⟩⟩
  case round =>
    clear H'
    try clear c1
    try clear p2
    obtain ⟨x5_1, x9_1, rfl, rfl, HA, HK1, HB⟩ := hrel
    cases gk with
    | zero => exact absurd HA.out (by simp [impl_ThereCount.l0])
    | succ k1 =>
      have H := HA.out
      clear HA
      simp only [impl_ThereCount.l0] at H
      by_cases c3 : x9_1 < (l0.length : Int)
      · rw [if_pos c3] at H
        have c3b0 : decide (x9_1 < (l0.length : Int)) = true := decide_eq_true c3
        clear c3
        replace H := bE H; obtain ⟨t356, A4, H⟩ := H
        by_cases c5 : t356 = true
        · subst c5
          replace H := iT H; have H' := Aside0.mk H; clear H; (go_wp2_with (first | ((with_reducible refine gate_callee (f := 27) rfl ?_); refine gL 15 Tryd.func27 #[.slice A0 l0.length c0, .slice A1 l1.length c1, .int .i64 x9_1] ?_; (with_reducible refine (impl_IsThere.calls _ _ l0 _ _ l1 x9_1 true _ ?side1 ?side2 ?side3 ?side4 A4.out).mono ?_); (case side1 => exact kC HR0.out); (case side2 => exact HC0.out); (case side3 => exact kC HR1.out); (case side4 => exact HC1.out); rintro e w6 ⟨rfl, hb⟩; refine ⟨_, rfl, ?_⟩; have n0_ := bS hb; clear HB; have HB := n0_; clear n0_; (try clear hb); (try clear hb2); (try clear hk); (try clear hi)))); go_roundg k1
          case measure => have := HK1.out; omega
          case rel => exact ⟨(wrap64 (x5_1 + 1)), (wrap64 (x9_1 + 1)), (by first | rfl | (simp; done) | (simp [*]; done)), (by first | rfl | (simp; done) | (simp [*]; done)), H', ⟨by have := HK1.out; omega⟩, ⟨z0⟩⟩
        · replace c5 := Bool.eq_false_iff.mpr c5
          subst c5; replace H := iF H; have H' := Aside0.mk H; clear H; (go_wp2_with (first | ((with_reducible refine gate_callee (f := 27) rfl ?_); refine gL 15 Tryd.func27 #[.slice A0 l0.length c0, .slice A1 l1.length c1, .int .i64 x9_1] ?_; (with_reducible refine (impl_IsThere.calls _ _ l0 _ _ l1 x9_1 false _ ?side1 ?side2 ?side3 ?side4 A4.out).mono ?_); (case side1 => exact kC HR0.out); (case side2 => exact HC0.out); (case side3 => exact kC HR1.out); (case side4 => exact HC1.out); rintro e w7 ⟨rfl, hb⟩; refine ⟨_, rfl, ?_⟩; have n0_ := bS hb; clear HB; have HB := n0_; clear n0_; (try clear hb); (try clear hb2); (try clear hk); (try clear hi)))); go_roundg k1
          case measure => have := HK1.out; omega
          case rel => exact ⟨(x5_1), (wrap64 (x9_1 + 1)), (by first | rfl | (simp; done) | (simp [*]; done)), (by first | rfl | (simp; done) | (simp [*]; done)), H', ⟨by have := HK1.out; omega⟩, ⟨z0⟩⟩
      · rw [if_neg c3] at H
        have c3b0 : decide (x9_1 < (l0.length : Int)) = false := decide_eq_false c3
        clear c3
        obtain rfl := Option.some.inj H
        go_wp2
        go_ret
        exact ⟨by first | rfl | (simp [errW_none, errW_some] <;> rfl) | (simp [*, errW_none, errW_some] <;> rfl), z0⟩

/-! ### spec_DrawEqualMessages: function 31 -/
abbrev m31x0 : Array Bool := #[true, true, true, true, true, true, true, true, true, true, true, true, true, true, true, true, true]
abbrev m31x1 : Array Bool := #[true, true, true, true, true, true, true, true, true, true, true, true, true, true, true, true, false]
abbrev m31x2 : Array Bool := #[true, true, true, true, true, true, true, true, true, true, true, true, true, true, true, false, false]
abbrev m31x3 : Array Bool := #[true, true, true, true, true, true, true, true, true, true, true, true, true, true, false, false, false]
abbrev m31x4 : Array Bool := #[true, true, true, true, true, true, true, true, true, true, true, true, true, false, false, false, false]
abbrev m31x5 : Array Bool := #[true, true, true, true, true, true, true, true, true, true, true, true, false, false, false, false, false]
abbrev m31x6 : Array Bool := #[true, true, true, true, true, true, false, true, true, true, true, true, false, false, false, false, false]
abbrev m31x7 : Array Bool := #[true, true, true, true, true, true, false, true, true, true, true, false, false, false, false, false, false]
abbrev m31x8 : Array Bool := #[true, true, true, true, true, false, false, true, true, true, true, false, false, false, false, false, false]
abbrev m31x9 : Array Bool := #[true, true, true, true, true, false, false, true, true, true, false, false, false, false, false, false, false]
abbrev m31x10 : Array Bool := #[true, true, true, true, true, false, false, true, true, false, false, false, false, false, false, false, false]
abbrev m31x11 : Array Bool := #[true, true, true, true, true, false, false, true, false, false, false, false, false, false, false, false, false]
abbrev m31x12 : Array Bool := #[true, true, true, true, true, false, false, false, false, false, false, false, false, false, false, false, false]
abbrev m31x13 : Array Bool := #[true, true, true, true, false, false, false, false, false, false, false, false, false, false, false, false, false]
abbrev m31x14 : Array Bool := #[true, true, true, false, false, false, false, false, false, false, false, false, false, false, false, false, false]
abbrev m31x15 : Array Bool := #[true, true, false, false, false, false, false, false, false, false, false, false, false, false, false, false, false]
abbrev m31x16 : Array Bool := #[true, false, false, false, false, false, false, false, false, false, false, false, false, false, false, false, false]
abbrev m31x17 : Array Bool := #[false, false, false, false, false, false, false, false, false, false, false, false, false, false, false, false, false]
def spec_DrawEqualMessages.l0 : Nat → List (S52) → List (S52) → Int → Option ((List (S52)))
  | 0, _, _, _ => none
  | k + 1, x0, x7, x8 => if x8 < (x0.length : Int) then (if 0 ≤ x8 then ((some (([] : List Int) : List Int)).bind fun y361 => (if y361.length + ((rd_T52 x0 x8).f1).length < 17592186044416 then (if x7.length < 4398046511104 then (spec_DrawEqualMessages.l0 k x0 (x7 ++ [(⟨(rd_T52 x0 x8).f0, (y361 ++ ((rd_T52 x0 x8).f1))⟩ : S52)]) (wrap64 (x8 + 1))) else (none)) else (none))) else (none)) else (some x7)
def spec_DrawEqualMessages.f (k : Nat) (l0 : List Int) : Option ((List (S52)) × (List (S52))) := (spec_l1New.f k l0).bind fun bt357 => ((spec_l5Any.f k bt357.1 bt357.2.1 bt357.2.2).bind fun bt361 => ((spec_l1Once.f bt357.1 bt361.2.2.1 bt361.2.2.2 2).bind fun bt369 => (if bt369.1 = true then ((spec_l5Draw.f k bt357.1 bt369.2.1 bt369.2.2 bt361.1).bind fun bt372 => (some (bt361.2.1, bt372.1))) else ((spec_DrawEqualMessages.l0 k bt361.2.1 ([] : List (S52)) 0).bind fun y_ => (some (bt361.2.1, y_))))))
theorem spec_DrawEqualMessages.mono_l : ∀ k, (∀ y0 y1 y2, LeO (spec_DrawEqualMessages.l0 k y0 y1 y2) (spec_DrawEqualMessages.l0 (k + 1) y0 y1 y2))
  | 0 => fun _ _ _ r h => by simp [spec_DrawEqualMessages.l0] at h
  | k + 1 => by
    have ih0 := spec_DrawEqualMessages.mono_l k
    · intro y0 y1 y2
      unfold spec_DrawEqualMessages.l0
      repeat' first
      | (with_reducible exact ih0 _ _ _)
      | (with_reducible exact LeO.refl _)
      | (with_reducible exact LeO.none _)
      | (with_reducible refine LeO.ite ?_ ?_)
      | (with_reducible refine LeO.bind ?_ (fun _ => ?_))
      | exact ih0 _ _ _
      | exact LeO.none _
      | refine LeO.ite ?_ ?_
      | refine LeO.bind ?_ (fun _ => ?_)
theorem spec_DrawEqualMessages.mono : ∀ a0 k, LeO (spec_DrawEqualMessages.f k a0) (spec_DrawEqualMessages.f (k + 1) a0) := by
  intro a0 k
  unfold spec_DrawEqualMessages.f
  repeat' first
      | (with_reducible exact spec_DrawEqualMessages.mono_l _ _ _ _)
      | (with_reducible exact spec_l1New.mono _ _)
      | (with_reducible exact spec_l5Any.mono _ _ _ _)
      | (with_reducible exact spec_l5Draw.mono _ _ _ _ _)
      | (with_reducible exact LeO.refl _)
      | (with_reducible exact LeO.none _)
      | (with_reducible refine LeO.ite ?_ ?_)
      | (with_reducible refine LeO.bind ?_ (fun _ => ?_))
      | exact spec_l1New.mono _ _
      | exact spec_l5Any.mono _ _ _ _
      | exact spec_l5Draw.mono _ _ _ _ _
      | exact LeO.none _
      | refine LeO.ite ?_ ?_
      | refine LeO.bind ?_ (fun _ => ?_)
def spec_DrawEqualMessages.T9 : Bool × List (List Nat × List Nat) := (true, [([], []), ([], []), ([], []), ([1, 2], [1, 2]), ([3], [3]), ([4], [4]), ([], []), ([], []), ([], []), ([7, 8], [7, 8]), ([9], [9]), ([10], [10]), ([6, 11], [6, 11]), ([5, 12], [5, 12]), ([13], [13]), ([0, 14, 12], [0, 14]), ([15, 15, 0, 1, 2, 3, 4, 5, 6, 7, 8, 9, 10, 11, 12, 13, 14, 15], [0, 15])])
def spec_DrawEqualMessages.B9 : List Nat := [0, 0, 0, 6, 14, 30, 0, 0, 0, 384, 896, 1920, 4032, 8190, 16382, 32767, 65535]
theorem spec_DrawEqualMessages.tab9 : rtab .any (opsOf Tryd.f31 9) = spec_DrawEqualMessages.T9 := by kernel_rfl
theorem spec_DrawEqualMessages.bits9 : waitsOk spec_DrawEqualMessages.T9.2 spec_DrawEqualMessages.B9 = true := by kernel_rfl
set_option maxHeartbeats 8000000 in
set_option maxRecDepth 100000 in
theorem spec_DrawEqualMessages.calls (k : Nat) (A0 : Option Addr) (c0 : Nat) (l0 : List Int) (r1 : List (S52)) (r2 : List (S52)) (w : World) (hr0 : Kd.C (Kd.int .u8) w A0 l0.length l0) (hc0 : l0.length ≤ c0) (h : spec_DrawEqualMessages.f k l0 = some (r1, r2)) :
    Calls Tryd.prog 31 #[.slice A0 l0.length c0] w fun e w' => ∃ v0_ v1_ : Value, e = .returned (.tuple #[v0_, v1_]) ∧ Kd.S k52 52 w' w.heap.size (fun k_ => some k_ ≠ (v1_ : Value).ownBlock) v0_ r1 ∧ Kd.S k52 52 w' w.heap.size (fun k_ => some k_ ≠ (v0_ : Value).ownBlock) v1_ r2 ∧ Below w.heap.size w w' := by
  have HR0 := Aside0.mk hr0
  have HC0 := Aside0.mk hc0
  clear hr0 hc0
  have HB := Aside0.mk (Below.refl w.heap.size w)
  have H : ((spec_l1New.f k l0).bind fun bt357 => ((spec_l5Any.f k bt357.1 bt357.2.1 bt357.2.2).bind fun bt361 => ((spec_l1Once.f bt357.1 bt361.2.2.1 bt361.2.2.2 2).bind fun bt369 => (if bt369.1 = true then ((spec_l5Draw.f k bt357.1 bt369.2.1 bt369.2.2 bt361.1).bind fun bt372 => (some (bt361.2.1, bt372.1))) else ((spec_DrawEqualMessages.l0 k bt361.2.1 ([] : List (S52)) 0).bind fun y_ => (some (bt361.2.1, y_))))))) = some (r1, r2) := h
  clear h
  replace H := bE H; obtain ⟨⟨t357, t358, t359⟩, A2, H⟩ := H; replace H : ((spec_l5Any.f k t357 t358 t359).bind fun bt361 => ((spec_l1Once.f t357 bt361.2.2.1 bt361.2.2.2 2).bind fun bt369 => (if bt369.1 = true then ((spec_l5Draw.f k t357 bt369.2.1 bt369.2.2 bt361.1).bind fun bt372 => (some (bt361.2.1, bt372.1))) else ((spec_DrawEqualMessages.l0 k bt361.2.1 ([] : List (S52)) 0).bind fun y_ => (some (bt361.2.1, y_)))))) = some (r1, r2) := H
  replace H := bE H; obtain ⟨⟨t361, t364, t367, t368⟩, A3, H⟩ := H; replace H : ((spec_l1Once.f t357 t367 t368 2).bind fun bt369 => (if bt369.1 = true then ((spec_l5Draw.f k t357 bt369.2.1 bt369.2.2 t361).bind fun bt372 => (some (t364, bt372.1))) else ((spec_DrawEqualMessages.l0 k t364 ([] : List (S52)) 0).bind fun y_ => (some (t364, y_))))) = some (r1, r2) := H
  replace H := bE H; obtain ⟨⟨t369, t370, t371⟩, A4, H⟩ := H; replace H : (if t369 = true then ((spec_l5Draw.f k t357 t370 t371 t361).bind fun bt372 => (some (t364, bt372.1))) else ((spec_DrawEqualMessages.l0 k t364 ([] : List (S52)) 0).bind fun y_ => (some (t364, y_)))) = some (r1, r2) := H
  by_cases c5 : t369 = true
  · subst c5
    replace H := iT H
    replace H := bE H; obtain ⟨⟨t372, t375, t376⟩, A6, H⟩ := H; replace H : (some (t364, t372)) = some (r1, r2) := H
    simp only [Option.some.injEq, Prod.mk.injEq] at H
    obtain ⟨rfl, rfl⟩ := H
    go_enter Tryd.func31, Tryd.ntmps31
    go_wp2_with (first | ((with_reducible refine gate_callee (f := 56) rfl ?_); refine gL 10 Tryd.func56 #[.slice A0 l0.length c0] ?_; (with_reducible refine (spec_l1New.calls k _ _ l0 t357 t358 t359 w _ ?side1 ?side2 ?side3 A2.out).mono ?_); (case side1 => exact z0); (case side2 => exact HR0.out); (case side3 => exact HC0.out); rintro e w7 ⟨g360, rfl, hi, hb, hb2⟩; refine ⟨_, rfl, ?_⟩; have n0_ := Aside0.mk (hb); have n1_ := Aside0.mk (hi); clear HB; have HB := n0_; have HI360 := n1_; clear n0_ n1_; (try clear hb); (try clear hb2); (try clear hk); (try clear hi)) | ((with_reducible refine gate_callee (f := 57) rfl ?_); refine gL 13 Tryd.func57 #[.pointer (some ⟨g360, 0, none⟩)] ?_; (with_reducible refine (spec_l5Any.calls k g360 t357 t358 t359 t361 t364 t367 t368 w _ ?side1 ?side2 A3.out).mono ?_); (case side1 => exact z28); (case side2 => exact z29); rintro e w8 ⟨v362, v365, rfl, ho0, ho1, hi, hb, hk⟩; refine ⟨_, rfl, ?_⟩; have n0_ := Aside0.mk (Kd.R_lower ho0 (below_size z29)); have n1_ := Aside0.mk (Kd.S_lower ho1 (below_size z29)); have n2_ := Aside0.mk (hb); have n3_ := Aside0.mk (hi); clear HB; clear HI360; have HO363 := n0_; have HO366 := n1_; have HB := n2_; have HI360 := n3_; clear n0_ n1_ n2_ n3_; (try clear hb); (try clear hb2); (try clear hk); (try clear hi); (try clear ho0); (try clear ho1)) | ((with_reducible refine gate_callee (f := 60) rfl ?_); refine gL 17 Tryd.func60 #[.pointer (some ⟨g360, 0, none⟩), .int .i64 2] ?_; (with_reducible refine (spec_l1Once.calls g360 t357 t367 t368 2 true t370 t371 w _ ?side1 ?side2 A4.out).mono ?_); (case side1 => exact z28); (case side2 => exact z29); rintro e w9 ⟨rfl, hi, hb, hk⟩; refine ⟨_, rfl, ?_⟩; have n0_ := Aside0.mk (Kd.R_mono (Kd.R_keep (IsS104.apart (show IsS104 w _ g360 t357 t367 t368 from z28) (qR HO363.out) (by decide)) hk (fun _ h => h.2)) (fun _ h => h.1)); have n1_ := Aside0.mk (Kd.S_mono (Kd.S_keep (IsS104.apartS (show IsS104 w _ g360 t357 t367 t368 from z28) (qS HO366.out) (by decide)) hk (fun _ h => h.2)) (fun _ h => h.1)); have n2_ := Aside0.mk (hb); have n3_ := Aside0.mk (hi); clear HO363; clear HO366; clear HB; clear HI360; have HO363 := n0_; have HO366 := n1_; have HB := n2_; have HI360 := n3_; clear n0_ n1_ n2_ n3_; (try clear hb); (try clear hb2); (try clear hk); (try clear hi); obtain ⟨Ao10, co10, eo10⟩ := Kd.R_slice HO363.out; subst eo10) | ((with_reducible refine gate_callee (f := 61) rfl ?_); refine gL 21 Tryd.func61 #[.pointer (some ⟨g360, 0, none⟩), .slice Ao10 t361.length co10] ?_; (with_reducible refine (spec_l5Draw.calls k g360 t357 t370 t371 _ _ t361 t372 t375 t376 w _ ?side1 ?side2 ?side3 ?side4 A6.out).mono ?_); (case side1 => exact z28); (case side2 => exact z29); (case side3 => exact Kd.C_foot_own (IsS104.apart (show IsS104 w _ g360 t357 t370 t371 from z28) (qR HO363.out) (by decide)) (fun _ h_ => h_.2)); (case side4 => exact (Kd.R_reads' HO363.out).2.1); rintro e w11 ⟨v373, rfl, ho0, hi, hb, hk⟩; refine ⟨_, rfl, ?_⟩; have n0_ := Aside0.mk (Kd.R_mono (Kd.R_keep (IsS104.apart (show IsS104 w _ g360 t357 t370 t371 from z28) (qR HO363.out) (by decide)) hk (fun _ h => h.2)) (fun _ h => h.1)); have n1_ := Aside0.mk (Kd.S_mono (Kd.S_told (Kd.S_oldK (IsS104.apartS (show IsS104 w _ g360 t357 t370 t371 from z28) (qS HO366.out) (by decide)) hk) (Kd.S_base ho0)) (fun _ h_ => h_.1)); have n2_ := Aside0.mk (Kd.S_lower (Kd.S_new' ho0 (Kd.S_lt (qS HO366.out))) (below_size z29)); have n3_ := Aside0.mk (hb); have n4_ := Aside0.mk (hi); clear HO363; clear HO366; clear HB; clear HI360; have HO363 := n0_; have HO366 := n1_; have HO374 := n2_; have HB := n3_; have HI360 := n4_; clear n0_ n1_ n2_ n3_ n4_; (try clear hb); (try clear hb2); (try clear hk); (try clear hi); (try clear ho0)))
    go_ret2
    exact ⟨_, _, by first | rfl | (simp [errW_none, errW_some] <;> rfl) | (simp [*, errW_none, errW_some] <;> rfl), qS (Kd.S_mono HO366.out (fun _ hk => hk.2)), qS (Kd.S_mono HO374.out (fun _ hk => hk.2)), z29⟩
  · replace c5 := Bool.eq_false_iff.mpr c5
    subst c5
    replace H := iF H
    replace H := Option.bind_eq_some_iff.mp H
    obtain ⟨yb_, HL0, H⟩ := H
    replace H : some (t364, yb_) = some (r1, r2) := H
    simp only [Option.some.injEq, Prod.mk.injEq] at H
    obtain ⟨rfl, rfl⟩ := H
    obtain ⟨y357, hy357⟩ : ∃ y_ : List (S52), y_ = (([] : List (S52))) := ⟨_, rfl⟩
    have HL1 : spec_DrawEqualMessages.l0 k t364 y357 0 = some yb_ := by rw [hy357]; exact HL0
    have Ny357 := Aside0.mk hy357
    clear hy357 HL0
    have H' := Aside0.mk HL1
    clear HL1
    go_enter Tryd.func31, Tryd.ntmps31
    go_wp2_with (first | ((with_reducible refine gate_callee (f := 56) rfl ?_); refine gL 10 Tryd.func56 #[.slice A0 l0.length c0] ?_; (with_reducible refine (spec_l1New.calls k _ _ l0 t357 t358 t359 w _ ?side1 ?side2 ?side3 A2.out).mono ?_); (case side1 => exact z0); (case side2 => exact HR0.out); (case side3 => exact HC0.out); rintro e w12 ⟨g360, rfl, hi, hb, hb2⟩; refine ⟨_, rfl, ?_⟩; have n0_ := Aside0.mk (hb); have n1_ := Aside0.mk (hi); clear HB; have HB := n0_; have HI360 := n1_; clear n0_ n1_; (try clear hb); (try clear hb2); (try clear hk); (try clear hi)) | ((with_reducible refine gate_callee (f := 57) rfl ?_); refine gL 13 Tryd.func57 #[.pointer (some ⟨g360, 0, none⟩)] ?_; (with_reducible refine (spec_l5Any.calls k g360 t357 t358 t359 t361 t364 t367 t368 w _ ?side1 ?side2 A3.out).mono ?_); (case side1 => exact z28); (case side2 => exact z29); rintro e w13 ⟨v362, v365, rfl, ho0, ho1, hi, hb, hk⟩; refine ⟨_, rfl, ?_⟩; have n0_ := Aside0.mk (Kd.R_lower ho0 (below_size z29)); have n1_ := Aside0.mk (Kd.S_lower ho1 (below_size z29)); have n2_ := Aside0.mk (hb); have n3_ := Aside0.mk (hi); clear HB; clear HI360; have HO363 := n0_; have HO366 := n1_; have HB := n2_; have HI360 := n3_; clear n0_ n1_ n2_ n3_; (try clear hb); (try clear hb2); (try clear hk); (try clear hi); (try clear ho0); (try clear ho1)) | ((with_reducible refine gate_callee (f := 60) rfl ?_); refine gL 17 Tryd.func60 #[.pointer (some ⟨g360, 0, none⟩), .int .i64 2] ?_; (with_reducible refine (spec_l1Once.calls g360 t357 t367 t368 2 false t370 t371 w _ ?side1 ?side2 A4.out).mono ?_); (case side1 => exact z28); (case side2 => exact z29); rintro e wq ⟨rfl, hi, hb, hk⟩; refine ⟨_, rfl, ?_⟩; have n0_ := Aside0.mk (Kd.R_mono (Kd.R_keep (IsS104.apart (show IsS104 w _ g360 t357 t367 t368 from z28) (qR HO363.out) (by decide)) hk (fun _ h => h.2)) (fun _ h => h.1)); have n1_ := Aside0.mk (Kd.S_mono (Kd.S_keep (IsS104.apartS (show IsS104 w _ g360 t357 t367 t368 from z28) (qS HO366.out) (by decide)) hk (fun _ h => h.2)) (fun _ h => h.1)); have n2_ := Aside0.mk (hb); have n3_ := Aside0.mk (hi); clear HO363; clear HO366; clear HB; clear HI360; have HO363 := n0_; have HO366 := n1_; have HB := n2_; have HI360 := n3_; clear n0_ n1_ n2_ n3_; (try clear hb); (try clear hb2); (try clear hk); (try clear hi); obtain ⟨Aa, ca, ea⟩ := Kd.S_slice HO366.out; subst ea; have HRa := Aside0.mk (Kd.S_reads' HO366.out).2.2; have HCa := Aside0.mk (Kd.S_reads' HO366.out).2.1; have HOa := HO366; have HBw := HB; clear HB; have HB := Aside0.mk (Below.refl wq.heap.size wq); clear HO366 HO363 HI360) | ((with_reducible refine gate_dst (N := 22) rfl ?_); refine Kd.S_lit k52 _ 52 ?hg (N := 22) ?hd (xs := ([] : List (S52))) (inner := []) (ok := fun _ => True) (okp := fun _ => True) ?hr ?hp (fun _ hk => hk) trivial (Below.refl _ _) (Nat.le_refl _) (by simp) ?_; (case hd => rfl); (case hg => rfl); (case hr => first | (go_simp; done) | (go_simp; rfl)); (case hp => exact (Reps.none _ _)); intro v358 w2 ho3 hb hg_ hnew_; clear hg_ hnew_; (first | rw [← Ny357.out] at ho3 | (simp only [Int.reduceToNat] at ho3; rw [← Ny357.out] at ho3)); have n0_ := Aside0.mk (Kd.S_lower ho3 (below_size z0)); have n1_ := bS hb; clear HB; have HO359 := n0_; have HB := n1_; clear n0_ n1_; clear hb ho3))
    go_loopg [7, 8] k (fun kq v7 v8 w' => ∃ (x7_1 : List (S52)) (x8_1 : Int), v8 = .int .i64 x8_1 ∧ Aside0 (spec_DrawEqualMessages.l0 kq t364 x7_1 x8_1 = some yb_) ∧ Aside0 (kq ≤ k) ∧ Aside0 (Kd.S k52 52 w' wq.heap.size (fun _ => True) v7 x7_1) ∧ Aside0 (Below wq.heap.size wq w'))
    case atStart => exact ⟨(y357), (0), (by first | rfl | (simp; done) | (simp [*]; done)), H', ⟨Nat.le_refl _⟩, ⟨qS HO359.out⟩, ⟨z0⟩⟩
    case round =>
      clear H'
      try clear p2
      try clear c3
      obtain ⟨x7_1, x8_1, rfl, HA, HK1, HO_7, HB⟩ := hrel
      cases gk with
      | zero => exact absurd HA.out (by simp [spec_DrawEqualMessages.l0])
      | succ k1 =>
        have H := HA.out
        clear HA
        simp only [spec_DrawEqualMessages.l0] at H
        by_cases c4 : x8_1 < (t364.length : Int)
        · rw [if_pos c4] at H
          have c4b0 : decide (x8_1 < (t364.length : Int)) = true := decide_eq_true c4; clear c4; by_cases c5 : 0 ≤ x8_1
          · rw [if_pos c5] at H
            have c5b0 : decide (0 ≤ x8_1) = true := decide_eq_true c5; clear c5; obtain ⟨y361, hy361⟩ : ∃ y_ : List Int, y_ = (([] : List Int)) := ⟨_, rfl⟩; (replace H : (if y361.length + ((rd_T52 t364 x8_1).f1).length < 17592186044416 then (if x7_1.length < 4398046511104 then (spec_DrawEqualMessages.l0 k1 t364 (x7_1 ++ [(⟨(rd_T52 t364 x8_1).f0, (y361 ++ ((rd_T52 t364 x8_1).f1))⟩ : S52)]) (wrap64 (x8_1 + 1))) else (none)) else (none)) = some yb_ := by first | (rw [hy361]; with_reducible exact H) | (have H2_ := (Option.bind_some _ _).symm.trans H; rw [hy361]; with_reducible exact H2_) | (have H2_ := (Option.bind_some _ _).symm.trans H; with_reducible exact H2_) | with_reducible exact H | (rw [hy361]; exact H) | exact H); have Ny361 := Aside0.mk hy361; clear hy361; by_cases c6 : y361.length + ((rd_T52 t364 x8_1).f1).length < 17592186044416
            · rw [if_pos c6] at H
              have LMc6 := Aside0.mk c6; clear c6; obtain ⟨y365, hy365⟩ : ∃ y_ : List Int, y_ = (y361 ++ ((rd_T52 t364 x8_1).f1)) := ⟨_, rfl⟩; (replace H : (if x7_1.length < 4398046511104 then (spec_DrawEqualMessages.l0 k1 t364 (x7_1 ++ [(⟨(rd_T52 t364 x8_1).f0, y365⟩ : S52)]) (wrap64 (x8_1 + 1))) else (none)) = some yb_ := by first | (rw [hy365]; with_reducible exact H) | (have H2_ := (Option.bind_some _ _).symm.trans H; rw [hy365]; with_reducible exact H2_) | (have H2_ := (Option.bind_some _ _).symm.trans H; with_reducible exact H2_) | with_reducible exact H | (rw [hy365]; exact H) | exact H); have Ny365 := Aside0.mk hy365; clear hy365; by_cases c7 : x7_1.length < 4398046511104
              · rw [if_pos c7] at H
                (have LMc7 := Aside0.mk c7; clear c7; obtain ⟨y368, hy368⟩ : ∃ y_ : List (S52), y_ = (x7_1 ++ [(⟨(rd_T52 t364 x8_1).f0, y365⟩ : S52)]) := ⟨_, rfl⟩; (replace H : (spec_DrawEqualMessages.l0 k1 t364 y368 (wrap64 (x8_1 + 1))) = some yb_ := by first | (rw [hy368]; with_reducible exact H) | (have H2_ := (Option.bind_some _ _).symm.trans H; rw [hy368]; with_reducible exact H2_) | (have H2_ := (Option.bind_some _ _).symm.trans H; with_reducible exact H2_) | with_reducible exact H | (rw [hy368]; exact H) | exact H); have Ny368 := Aside0.mk hy368; clear hy368; have H' := Aside0.mk H; clear H; (try go_wp2); have n0_ := Aside0.mk (Kd.S_drew HO_7.out); have n1_ := Aside0.mk (below_drew1 HB.out); clear HO_7; clear HB; have HO_7 := n0_; have HB := n1_; clear n0_ n1_; (have p360 : 0 ≤ (x8_1 : Int) := of_decide_eq_true (by assumption)); (have q360 : x8_1 < (t364.length : Int) := of_decide_eq_true (by assumption)); obtain ⟨ad360, A360_1, c360_1, e360, hx360_0, hx360_1, hl360_1, hi360_1⟩ := at_T52 HRa.out x8_1 p360 q360; have hw360_1 := hx360_1; have hw360_0 := hx360_0; cases e360; replace hx360_0 := (HB.out.cell (World.block_lt_of_cell? wq _ hx360_0)).trans hx360_0; replace hx360_1 := (HB.out.cell (World.block_lt_of_cell? wq _ hx360_1)).trans hx360_1; have HR360_1 := Aside0.mk hi360_1; have HC360_1 := Aside0.mk hl360_1; clear hi360_1 hl360_1; replace p360 := eq_true p360; replace q360 := eq_true q360; (have p364 : 0 ≤ (x8_1 : Int) := of_decide_eq_true (by assumption)); (have q364 : x8_1 < (t364.length : Int) := of_decide_eq_true (by assumption)); obtain ⟨ad364, A364_1, c364_1, e364, hx364_0, hx364_1, hl364_1, hi364_1⟩ := at_T52 HRa.out x8_1 p364 q364; have hw364_1 := hx364_1; have hw364_0 := hx364_0; (obtain rfl : ad360 = ad364 := (by injection e364)); replace hx364_0 := (HB.out.cell (World.block_lt_of_cell? wq _ hx364_0)).trans hx364_0; replace hx364_1 := (HB.out.cell (World.block_lt_of_cell? wq _ hx364_1)).trans hx364_1; have HR364_1 := Aside0.mk hi364_1; have HC364_1 := Aside0.mk hl364_1; clear hi364_1 hl364_1; replace p364 := eq_true p364; replace q364 := eq_true q364; have ea_ := Option.some.inj (hx360_1.symm.trans hx364_1); injection ea_ with ea_ en_ ec_; subst ea_; subst ec_; clear en_; (refine start_ (n := 17) (S := fun w' => w'.cell? (ad360.add ((x8_1).toNat * 2)) = some (.int .i64 ((rd_T52 t364 x8_1).f0)) ∧ w'.cell? ⟨(ad360.add ((x8_1).toNat * 2)).block, (ad360.add ((x8_1).toNat * 2)).off + 1, none⟩ = some (.slice A360_1 ((rd_T52 t364 x8_1).f1).length c360_1) ∧ w'.cell? (ad360.add ((x8_1).toNat * 2)) = some (.int .i64 ((rd_T52 t364 x8_1).f0)) ∧ w'.cell? ⟨(ad360.add ((x8_1).toNat * 2)).block, (ad360.add ((x8_1).toNat * 2)).off + 1, none⟩ = some (.slice A360_1 ((rd_T52 t364 x8_1).f1).length c360_1)) (ds := []) m31x17 (by kernel_rfl) rfl rfl ⟨((HB.out.cell (World.block_lt_of_cell? wq _ hw360_0)).trans hw360_0), ((HB.out.cell (World.block_lt_of_cell? wq _ hw360_1)).trans hw360_1), ((HB.out.cell (World.block_lt_of_cell? wq _ hw364_0)).trans hw364_0), ((HB.out.cell (World.block_lt_of_cell? wq _ hw364_1)).trans hw364_1)⟩ (fun hHeld => ?_); refine with_tabW spec_DrawEqualMessages.tab9 spec_DrawEqualMessages.bits9 (fun HT_ HW_ => ?_)); generalize wr.drew = w8 at HO_7 HB HR360_1 HR364_1 hx360_0 hx360_1 hx364_0 hx364_1 hHeld ⊢; (refine pure_ (i := 0) (N := some 29) (v := ?_) (a' := ?_) m31x16 rfl rfl (any_of HT_.out (by kernel_rfl)) (fun _ _ _ h => h) (Or.inl ⟨by rfl, ?_⟩) ?_ ?_); rotate_left); (· intro w'; go_simp; (with_reducible rfl)); rotate_left; (· simp only [Act.put, sT, sZ, sS, i64_w, i32_w]; rfl); refine pV 1 30 m31x15 ?_; refine pV 2 31 m31x14 ?_; refine pV 3 32 m31x13 ?_; refine pV 4 33 m31x12 ?_; refine pV 7 36 m31x11 ?_; refine pV 8 37 m31x10 ?_; refine pV 9 38 m31x9 ?_; refine pV 10 39 m31x8 ?_; refine tV 5 34 m31x7 ?_; refine tV 11 40 m31x6 ?_; ((refine oN 6 35 m31x5 (fun K hK => ?_)); (refine Kd.R_lit_step (Kd.int .i64) _ 3 ?hg (N := 35) ?hd (xs := ([] : List Int)) (inner := []) (ok := fun _ => True) (okp := fun _ => True) ?hr ?hp (fun _ hk => hk) trivial (Below.refl _ _) (Nat.le_refl _) (by simp) ?_; (case hd => rfl); (case hg => rfl); (case hr => first | (go_simp; done) | (go_simp; rfl)); (case hp => exact (Reps.none _ _))); intro v362 w9 ho10 hb hg_ hnew_; clear hg_ hnew_; ((first | rw [← Ny361.out] at ho10 | (simp only [Int.reduceToNat] at ho10; rw [← Ny361.out] at ho10))); (have n0_ := Aside0.mk (Kd.S_elder' (qS HO_7.out) (Kd.R_base ho10) hb)); (have n1_ := Aside0.mk (Kd.R_lower ho10 (below_size z0))); (have n2_ := bS hb); clear HO_7; clear HB; have HO_7 := n0_; have HO363 := n1_; have HB := n2_; clear n0_ n1_ n2_; clear hb ho10; refine hK.out _ _ ⟨((HB.out.cell (World.block_lt_of_cell? wq _ hw360_0)).trans hw360_0), ((HB.out.cell (World.block_lt_of_cell? wq _ hw360_1)).trans hw360_1), ((HB.out.cell (World.block_lt_of_cell? wq _ hw364_0)).trans hw364_0), ((HB.out.cell (World.block_lt_of_cell? wq _ hw364_1)).trans hw364_1)⟩ (fun hHeld => ?_); clear hK K; refine norm_ (a' := ?_) ?_ ?_; rotate_left); (· show Act.put _ (some 35) _ = _; simp only [Act.put, sT, sZ, sS, i64_w, i32_w]; rfl); ((refine oN 12 41 m31x4 (fun K hK => ?_)); (refine Kd.R_append_rows_step (Kd.int .i64) (w0 := wq) wq.heap.size (by rfl) (.tmp 35) (.tmp 40) 50 3 (.int .i64 0) 8 rfl Tryd.underlying50 info3 rfl (by decide) (by omega) v362 y361 ((rd_T52 t364 x8_1).f1) _ _ _ (fun _ => True) (fun _ => False) rfl rfl ?aO ?aR (fun _ _ h => h) (fun _ h => h.elim) ?aF ?aB ?aS ?aL ?_); ((case aR => exact kC HR364_1.out)); ((case aB => exact z0)); (case aF => exact (fun _ _ => trivial)); ((case aO => exact (qR HO363.out))); ((case aS => exact (below_size z0))); (case aL => have := LMc6.out; omega); intro v366 w11 ho hb hg hat; rw [← Ny365.out] at ho; (have n0_ := Aside0.mk (Kd.S_after (ok := (fun _ => True)) (qS HO_7.out) hg hat)); have n1_ := Aside0.mk (hb); have n2_ := Aside0.mk (ho); clear HO_7; clear HB; clear HO363; have HO_7 := n0_; have HB := n1_; have HO367 := n2_; clear n0_ n1_ n2_; clear ho hb hg hat; obtain ⟨Ao12, co12, eo12⟩ := Kd.R_slice HO367.out; ((first | subst eo12 | (injection eo12 with f1_ f2_ f3_; have f4_ := f1_.symm; have f5_ := f3_.symm; clear f1_ f2_ f3_; subst f4_; subst f5_))); refine hK.out _ _ ⟨((HB.out.cell (World.block_lt_of_cell? wq _ hw360_0)).trans hw360_0), ((HB.out.cell (World.block_lt_of_cell? wq _ hw360_1)).trans hw360_1), ((HB.out.cell (World.block_lt_of_cell? wq _ hw364_0)).trans hw364_0), ((HB.out.cell (World.block_lt_of_cell? wq _ hw364_1)).trans hw364_1)⟩ (fun hHeld => ?_); clear hK K; refine norm_ (a' := ?_) ?_ ?_; rotate_left); (· show Act.put _ (some 41) _ = _; simp only [Act.put, sT, sZ, sS, i64_w, i32_w]; rfl); refine pV 13 42 m31x3 ?_; ((refine oN 14 43 m31x2 (fun K hK => ?_)); (refine value_ (w1 := ?_) (v := ?_) (by rfl) rfl ?_ ?_); rotate_left 2)
                · go_simp
                  constructor; (· rfl); (· rfl)
                refine hK.out _ _ ⟨(World.cell?_alloc_lt _ _ _ (World.block_lt_of_cell? _ _ (((HB.out.cell (World.block_lt_of_cell? wq _ hw360_0)).trans hw360_0)))).trans (((HB.out.cell (World.block_lt_of_cell? wq _ hw360_0)).trans hw360_0)), (World.cell?_alloc_lt _ _ _ (World.block_lt_of_cell? _ _ (((HB.out.cell (World.block_lt_of_cell? wq _ hw360_1)).trans hw360_1)))).trans (((HB.out.cell (World.block_lt_of_cell? wq _ hw360_1)).trans hw360_1)), (World.cell?_alloc_lt _ _ _ (World.block_lt_of_cell? _ _ (((HB.out.cell (World.block_lt_of_cell? wq _ hw364_0)).trans hw364_0)))).trans (((HB.out.cell (World.block_lt_of_cell? wq _ hw364_0)).trans hw364_0)), (World.cell?_alloc_lt _ _ _ (World.block_lt_of_cell? _ _ (((HB.out.cell (World.block_lt_of_cell? wq _ hw364_1)).trans hw364_1)))).trans (((HB.out.cell (World.block_lt_of_cell? wq _ hw364_1)).trans hw364_1))⟩ (fun hHeld => ?_); clear hK K; refine norm_ (a' := ?_) ?_ ?_; rotate_left; (· show Act.put _ (some 43) _ = _; simp only [Act.put, sT, sZ, sS, i64_w, i32_w]; rfl); ((refine oN 15 44 m31x1 (fun K hK => ?_)); (refine Kd.S_append_step k52 (w0 := wq) wq.heap.size (by rfl) (.tmp 29) (.tmp 43) 27 52 (.agg #[(.int .i64 0), (.slice none 0 0)]) 32 rfl Tryd.underlying27 info52 rfl (by decide) (by omega) u7 x7_1 (⟨(rd_T52 t364 x8_1).f0, y365⟩ : S52) [.int .i64 ((rd_T52 t364 x8_1).f0), .slice Ao12 y365.length co12] (fun _ => True) (fun k_ => some k_ = (.slice Ao12 y365.length co12 : Value).ownBlock) rfl rfl ?aP (fun k_ hk_ => ((Kd.R_mono (ok' := fun k_ => ((fun _ => True)) k_ ∧ some k_ ≠ (u7 : Value).ownBlock) (Kd.R_apart' (HO367.out) (Kd.S_typed HO_7.out) (by decide)) (fun k_ hk => ⟨trivial, hk.2⟩))).1 k_ hk_.symm) ?aF ?aO ?aB ?aS ?aL ?_); ((case aP => exact k52_mkM _ _ _ (⟨(rd_T52 t364 x8_1).f0, y365⟩ : S52) (Kd.R_mono (Kd.R_tight rfl (Kd.R_mono (ok' := fun k_ => ((fun _ => True)) k_ ∧ some k_ ≠ (u7 : Value).ownBlock) (Kd.R_apart' (HO367.out) (Kd.S_typed HO_7.out) (by decide)) (fun k_ hk => ⟨trivial, hk.2⟩))) (fun _ h_ => h_)))); ((case aB => exact z0)); (case aF => exact (fun _ _ => trivial)); ((case aO => exact (qS (Kd.S_mono HO_7.out (fun k_ hk => ⟨trivial, fun e_ => hk.2 e_⟩))))); ((case aS => exact (below_size z0))); (case aL => have := LMc7.out; omega); intro v369 w13 ho hb hg hat; rw [← Ny368.out] at ho; have n0_ := Aside0.mk (hb); have n1_ := Aside0.mk (ho); clear HB; clear HO_7; clear HO367; have HB := n0_; have HO370 := n1_; clear n0_ n1_; clear ho hb hg hat; refine hK.out _ _ ⟨((HB.out.cell (World.block_lt_of_cell? wq _ hw360_0)).trans hw360_0), ((HB.out.cell (World.block_lt_of_cell? wq _ hw360_1)).trans hw360_1), ((HB.out.cell (World.block_lt_of_cell? wq _ hw364_0)).trans hw364_0), ((HB.out.cell (World.block_lt_of_cell? wq _ hw364_1)).trans hw364_1)⟩ (fun hHeld => ?_); clear hK K; refine norm_ (a' := ?_) ?_ ?_; rotate_left); (· show Act.put _ (some 44) _ = _; simp only [Act.put, sT, sZ, sS, i64_w, i32_w]; rfl); refine pV 16 7 m31x0 ?_; ((refine done_ (done_of HT_.out (by kernel_rfl)) ?_); (try go_wp2); go_roundg k1)
                case measure => have := HK1.out; omega
                case rel => exact ⟨(y368), (wrap64 (x8_1 + 1)), (by first | rfl | (simp; done) | (simp [*]; done)), H', ⟨by have := HK1.out; omega⟩, ⟨qS HO370.out⟩, ⟨z0⟩⟩
              · rw [if_neg c7] at H; (exact absurd H (by simp))
            · rw [if_neg c6] at H; (exact absurd H (by simp))
          · rw [if_neg c5] at H; (exact absurd H (by simp))
        · rw [if_neg c4] at H
          have c4b0 : decide (x8_1 < (t364.length : Int)) = false := decide_eq_false c4; clear c4; obtain rfl := Option.some.inj H; go_wp2; go_ret2; (exact ⟨_, _, by first | rfl | (simp [errW_none, errW_some] <;> rfl) | (simp [*, errW_none, errW_some] <;> rfl), qS (Kd.S_mono (Kd.S_told (Kd.S_old HOa.out HB.out) (Kd.S_base HO_7.out)) (fun _ h_ => h_.1.2)), qS (Kd.S_mono (Kd.S_lower (Kd.S_new' HO_7.out (Kd.S_lt HOa.out)) (below_size HBw.out)) (fun _ h_ => h_.2)), below_step HBw.out z0⟩)

/-! ### slices_Equal_int_int: function 64 -/
def slices_Equal_int_int.l0 : Nat → List Int → List Int → Int → Int → Option (Bool)
  | 0, _, _, _, _ => none
  | k + 1, x0, x1, x12, x13 => if x13 < x12 then (if 0 ≤ x13 then (if x13 < (x0.length : Int) then (if x13 < (x1.length : Int) then (if (rd x0 x13) = (rd x1 x13) then (slices_Equal_int_int.l0 k x0 x1 x12 (wrap64 (x13 + 1))) else (some false)) else (none)) else (none)) else (none)) else (some true)
def slices_Equal_int_int.f (k : Nat) (l0 : List Int) (l1 : List Int) : Option (Bool) := if (l0.length : Int) = (l1.length : Int) then (slices_Equal_int_int.l0 k l0 l1 (l0.length : Int) 0) else (some false)
theorem slices_Equal_int_int.mono_l : ∀ k, (∀ y0 y1 y2 y3, LeO (slices_Equal_int_int.l0 k y0 y1 y2 y3) (slices_Equal_int_int.l0 (k + 1) y0 y1 y2 y3))
  | 0 => fun _ _ _ _ r h => by simp [slices_Equal_int_int.l0] at h
  | k + 1 => by
    have ih0 := slices_Equal_int_int.mono_l k
    · intro y0 y1 y2 y3
      unfold slices_Equal_int_int.l0
      repeat' first
      | (with_reducible exact ih0 _ _ _ _)
      | (with_reducible exact LeO.refl _)
      | (with_reducible exact LeO.none _)
      | (with_reducible refine LeO.ite ?_ ?_)
      | (with_reducible refine LeO.bind ?_ (fun _ => ?_))
      | exact ih0 _ _ _ _
      | exact LeO.none _
      | refine LeO.ite ?_ ?_
      | refine LeO.bind ?_ (fun _ => ?_)
theorem slices_Equal_int_int.mono : ∀ a0 a1 k, LeO (slices_Equal_int_int.f k a0 a1) (slices_Equal_int_int.f (k + 1) a0 a1) := by
  intro a0 a1 k
  have ih0 := slices_Equal_int_int.mono_l k
  unfold slices_Equal_int_int.f
  repeat' first
      | (with_reducible exact ih0 _ _ _ _)
      | (with_reducible exact LeO.refl _)
      | (with_reducible exact LeO.none _)
      | (with_reducible refine LeO.ite ?_ ?_)
      | (with_reducible refine LeO.bind ?_ (fun _ => ?_))
      | exact ih0 _ _ _ _
      | exact LeO.none _
      | refine LeO.ite ?_ ?_
      | refine LeO.bind ?_ (fun _ => ?_)
set_option maxHeartbeats 8000000 in
set_option maxRecDepth 100000 in
theorem slices_Equal_int_int.calls (k : Nat) (A0 : Option Addr) (c0 : Nat) (l0 : List Int) (A1 : Option Addr) (c1 : Nat) (l1 : List Int) (r : Bool) (w : World) (hr0 : Kd.C (Kd.int .i64) w A0 l0.length l0) (hc0 : l0.length ≤ c0) (hr1 : Kd.C (Kd.int .i64) w A1 l1.length l1) (hc1 : l1.length ≤ c1) (h : slices_Equal_int_int.f k l0 l1 = some r) :
    Calls Tryd.prog 64 #[.slice A0 l0.length c0, .slice A1 l1.length c1] w fun e w' => e = .returned (.bool r) ∧ Drawn0 w w' := by
  have HR0 := Aside0.mk hr0
  have HC0 := Aside0.mk hc0
  clear hr0 hc0
  have HR1 := Aside0.mk hr1
  have HC1 := Aside0.mk hc1
  clear hr1 hc1
  have H : (if (l0.length : Int) = (l1.length : Int) then (slices_Equal_int_int.l0 k l0 l1 (l0.length : Int) 0) else (some false)) = some r := h
  clear h
  by_cases c3 : (l0.length : Int) = (l1.length : Int)
  · rw [if_pos c3] at H
    have c3b0 : ((l0.length : Int) == (l1.length : Int)) = true := beq_iff_eq.mpr c3
    have c3b1 : ((l0.length : Int) != (l1.length : Int)) = false := bne_eq_false_iff_eq.mpr c3
    have c3b2 : (l0.length == l1.length) = true := by first | simpa using c3 | (simp at c3 ⊢; omega)
    clear c3
    have H' := Aside0.mk H
    clear H
    go_enter Tryd.func64, Tryd.ntmps64
    go_wp2
    repeat (go_quiet (fail); try go_wp2)
    go_loopg [13] k (fun kq v13 w' => ∃ (x13_1 : Int), v13 = .int .i64 x13_1 ∧ Aside0 (slices_Equal_int_int.l0 kq l0 l1 (l0.length : Int) x13_1 = some r) ∧ Aside0 (kq ≤ k) ∧ Drawn0 w w')
    case atStart => exact ⟨(0), (by first | rfl | (simp; done) | (simp [*]; done)), H', ⟨Nat.le_refl _⟩, by repeat (first | exact Drawn0.refl _ | apply Drawn0.step)⟩
    case round =>
      clear H'
      try clear c1
      try clear p2
      try clear c3
      try clear c3b0
      try clear c3b1
      try clear c3b2
      obtain ⟨x13_1, rfl, HA, HK1, ⟨m1, rfl⟩⟩ := hrel
      cases gk with
      | zero => exact absurd HA.out (by simp [slices_Equal_int_int.l0])
      | succ k1 =>
        have H := HA.out
        clear HA
        simp only [slices_Equal_int_int.l0] at H
        by_cases c4 : x13_1 < (l0.length : Int)
        · rw [if_pos c4] at H
          have c4b0 : decide (x13_1 < (l0.length : Int)) = true := decide_eq_true c4; clear c4; by_cases c5 : 0 ≤ x13_1
          · rw [if_pos c5] at H
            have c5b0 : decide (0 ≤ x13_1) = true := decide_eq_true c5; clear c5; by_cases c6 : x13_1 < (l0.length : Int)
            · rw [if_pos c6] at H
              have c6b0 : decide (x13_1 < (l0.length : Int)) = true := decide_eq_true c6; clear c6; by_cases c7 : x13_1 < (l1.length : Int)
              · rw [if_pos c7] at H
                have c7b0 : decide (x13_1 < (l1.length : Int)) = true := decide_eq_true c7; clear c7; by_cases c8 : (rd l0 x13_1) = (rd l1 x13_1)
                · rw [if_pos c8] at H
                  have c8b0 : ((rd l0 x13_1) == (rd l1 x13_1)) = true := beq_iff_eq.mpr c8; have c8b1 : ((rd l0 x13_1) != (rd l1 x13_1)) = false := bne_eq_false_iff_eq.mpr c8; clear c8; have H' := Aside0.mk H; clear H; (have p377 : 0 ≤ (x13_1 : Int) := of_decide_eq_true (by assumption)); (have q377 : x13_1 < (l0.length : Int) := of_decide_eq_true (by assumption)); obtain ⟨ad377, e377, hx377_0⟩ := Kd.at_int HR0.out x13_1 p377 q377; cases e377; replace p377 := eq_true p377; replace q377 := eq_true q377; (have p378 : 0 ≤ (x13_1 : Int) := of_decide_eq_true (by assumption)); (have q378 : x13_1 < (l1.length : Int) := of_decide_eq_true (by assumption)); obtain ⟨ad378, e378, hx378_0⟩ := Kd.at_int HR1.out x13_1 p378 q378; cases e378; replace p378 := eq_true p378; replace q378 := eq_true q378; go_wp2; (repeat (go_quiet (fail); try go_wp2)); go_roundg k1
                  case measure => have := HK1.out; omega
                  case rel => exact ⟨(wrap64 (x13_1 + 1)), (by first | rfl | (simp; done) | (simp [*]; done)), H', ⟨by have := HK1.out; omega⟩, by repeat (first | exact Drawn0.refl _ | apply Drawn0.step)⟩
                · rw [if_neg c8] at H; have c8b0 : ((rd l0 x13_1) == (rd l1 x13_1)) = false := beq_eq_false_iff_ne.mpr c8; have c8b1 : ((rd l0 x13_1) != (rd l1 x13_1)) = true := bne_iff_ne.mpr c8; obtain rfl := Option.some.inj H; (have p377 : 0 ≤ (x13_1 : Int) := of_decide_eq_true (by assumption)); (have q377 : x13_1 < (l0.length : Int) := of_decide_eq_true (by assumption)); obtain ⟨ad377, e377, hx377_0⟩ := Kd.at_int HR0.out x13_1 p377 q377; cases e377; replace p377 := eq_true p377; replace q377 := eq_true q377; (have p378 : 0 ≤ (x13_1 : Int) := of_decide_eq_true (by assumption)); (have q378 : x13_1 < (l1.length : Int) := of_decide_eq_true (by assumption)); obtain ⟨ad378, e378, hx378_0⟩ := Kd.at_int HR1.out x13_1 p378 q378; cases e378; replace p378 := eq_true p378; replace q378 := eq_true q378; go_wp2; (repeat (go_quiet (fail); try go_wp2)); go_ret; (exact ⟨by first | rfl | (simp; done) | (simp [*]; done), by repeat (first | exact Drawn0.refl _ | apply Drawn0.step)⟩)
              · rw [if_neg c7] at H; (exact absurd H (by simp))
            · rw [if_neg c6] at H; (exact absurd H (by simp))
          · rw [if_neg c5] at H; (exact absurd H (by simp))
        · rw [if_neg c4] at H
          have c4b0 : decide (x13_1 < (l0.length : Int)) = false := decide_eq_false c4; clear c4; obtain rfl := Option.some.inj H; go_wp2; (repeat (go_quiet (fail); try go_wp2)); go_ret; (exact ⟨by first | rfl | (simp; done) | (simp [*]; done), by repeat (first | exact Drawn0.refl _ | apply Drawn0.step)⟩)
  · rw [if_neg c3] at H
    have c3b0 : ((l0.length : Int) == (l1.length : Int)) = false := beq_eq_false_iff_ne.mpr c3
    have c3b1 : ((l0.length : Int) != (l1.length : Int)) = true := bne_iff_ne.mpr c3
    have c3b2 : (l0.length == l1.length) = false := by first | simpa using c3 | (simp at c3 ⊢; omega)
    obtain rfl := Option.some.inj H
    go_enter Tryd.func64, Tryd.ntmps64
    go_wp2
    repeat (go_quiet (fail); try go_wp2)
    go_ret
    exact ⟨by first | rfl | (simp; done) | (simp [*]; done), by repeat (first | exact Drawn0.refl _ | apply Drawn0.step)⟩

/-! ### impl_EqualMessages_1: function 63 -/
def impl_EqualMessages_1.f (k : Nat) (a0_0 : Int) (l0_1 : List Int) (a1_0 : Int) (l1_1 : List Int) : Option (Bool) := if a0_0 = a1_0 then ((slices_Equal_int_int.f k l0_1 l1_1).bind fun t381 => (some t381)) else (some false)
theorem impl_EqualMessages_1.mono : ∀ a0 a1 a2 a3 k, LeO (impl_EqualMessages_1.f k a0 a1 a2 a3) (impl_EqualMessages_1.f (k + 1) a0 a1 a2 a3) := by
  intro a0 a1 a2 a3 k
  unfold impl_EqualMessages_1.f
  repeat' first
      | (with_reducible exact slices_Equal_int_int.mono _ _ _)
      | (with_reducible exact LeO.refl _)
      | (with_reducible exact LeO.none _)
      | (with_reducible refine LeO.ite ?_ ?_)
      | (with_reducible refine LeO.bind ?_ (fun _ => ?_))
      | exact slices_Equal_int_int.mono _ _ _
      | exact LeO.none _
      | refine LeO.ite ?_ ?_
      | refine LeO.bind ?_ (fun _ => ?_)
set_option maxHeartbeats 8000000 in
set_option maxRecDepth 100000 in
theorem impl_EqualMessages_1.calls (k : Nat) (a0_0 : Int) (A0_1 : Option Addr) (c0_1 : Nat) (l0_1 : List Int) (a1_0 : Int) (A1_1 : Option Addr) (c1_1 : Nat) (l1_1 : List Int) (r : Bool) (w : World) (hr0_1 : Kd.C (Kd.int .i64) w A0_1 l0_1.length l0_1) (hc0_1 : l0_1.length ≤ c0_1) (hr1_1 : Kd.C (Kd.int .i64) w A1_1 l1_1.length l1_1) (hc1_1 : l1_1.length ≤ c1_1) (h : impl_EqualMessages_1.f k a0_0 l0_1 a1_0 l1_1 = some r) :
    Calls Tryd.prog 63 #[.agg #[.int .i64 a0_0, .slice A0_1 l0_1.length c0_1], .agg #[.int .i64 a1_0, .slice A1_1 l1_1.length c1_1]] w fun e w' => e = .returned (.bool r) ∧ Below w.heap.size w w' := by
  have hu52 := Tryd.underlying52
  have HR0_1 := Aside0.mk hr0_1
  have HC0_1 := Aside0.mk hc0_1
  clear hr0_1 hc0_1
  have HR1_1 := Aside0.mk hr1_1
  have HC1_1 := Aside0.mk hc1_1
  clear hr1_1 hc1_1
  have HB := Aside0.mk (Below.refl w.heap.size w)
  have H : (if a0_0 = a1_0 then ((slices_Equal_int_int.f k l0_1 l1_1).bind fun t381 => (some t381)) else (some false)) = some r := h
  clear h
  by_cases c3 : a0_0 = a1_0
  · rw [if_pos c3] at H
    have c3b0 : (a0_0 == a1_0) = true := beq_iff_eq.mpr c3
    have c3b1 : (a0_0 != a1_0) = false := bne_eq_false_iff_eq.mpr c3
    clear c3
    replace H := bE H; obtain ⟨t381, A4, H⟩ := H
    obtain rfl := Option.some.inj H
    go_enter Tryd.func63, Tryd.ntmps63
    go_wp2_with (first | ((with_reducible refine gate_dst (N := 2) rfl ?_); refine box_event ?hg (N := 2) ?hd (cs := #[.int .i64 a0_0, .slice A0_1 l0_1.length c0_1]) (t := 52) ?hr ?_; (case hd => rfl); (case hg => rfl); (case hr => first | (go_simp; done) | (go_simp; rfl)); intro gb379 hg w5 hbox hb; have n0_ := bS hb; have n1_ := Aside0.mk (hbox); have n2_ : Aside0 (w.heap.size ≤ gb379) := bZ hg; have n3_ : Aside0 (w.heap.size ≤ gb379) := bZ hg; clear HB; have HB := n0_; have BK379 := n1_; have GW379 := n2_; have GE379 := n3_; clear n0_ n1_ n2_ n3_; clear hb hbox hg) | ((with_reducible refine gate_dst (N := 3) rfl ?_); refine box_event ?hg (N := 3) ?hd (cs := #[.int .i64 a1_0, .slice A1_1 l1_1.length c1_1]) (t := 52) ?hr ?_; (case hd => rfl); (case hg => rfl); (case hr => first | (go_simp; done) | (go_simp; rfl)); intro gb380 hg w6 hbox hb; have n0_ := Aside0.mk (blk_below (g := gb379) (o := .cells #[.int .i64 a0_0, .slice A0_1 l0_1.length c0_1] 52 (0, 0)) (qK BK379.out) hb); have n1_ := bS hb; have n2_ := Aside0.mk (hbox); have n3_ : Aside0 (w.heap.size ≤ gb380) := bZ hg; have n4_ : Aside0 (w.heap.size ≤ gb380) := bZ hg; have n5_ := Aside0.mk ((by rw [hg]; exact Nat.ne_of_lt (blk_lt (g := gb379) (o := .cells #[.int .i64 a0_0, .slice A0_1 l0_1.length c0_1] 52 (0, 0)) (qK BK379.out)) : gb379 ≠ gb380)); have n6_ := Aside0.mk ((by rw [hg]; exact Nat.ne_of_gt (blk_lt (g := gb379) (o := .cells #[.int .i64 a0_0, .slice A0_1 l0_1.length c0_1] 52 (0, 0)) (qK BK379.out)) : gb380 ≠ gb379)); clear BK379; clear HB; have BK379 := n0_; have HB := n1_; have BK380 := n2_; have GW380 := n3_; have GE380 := n4_; have NB379_380 := n5_; have NB380_379 := n6_; clear n0_ n1_ n2_ n3_ n4_ n5_ n6_; clear hb hbox hg; have hnb7 := NB379_380.out; have hnc7 := NB380_379.out; obtain ⟨hcz8_0, hcz8_1, hfz8_0, hfz8_1⟩ := zc2 BK379.out; obtain ⟨hcz9_0, hcz9_1, hfz9_0, hfz9_1⟩ := zc2 BK380.out) | (go_at_call 64; (with_reducible refine (slices_Equal_int_int.calls k _ _ l0_1 _ _ l1_1 t381 _ ?side1 ?side2 ?side3 ?side4 A4.out).mono ?_); (case side1 => exact kC HR0_1.out); (case side2 => exact HC0_1.out); (case side3 => exact kC HR1_1.out); (case side4 => exact HC1_1.out); rintro e w' ⟨rfl, ⟨nd, rfl⟩⟩))
    go_ret
    exact ⟨by first | rfl | (simp [errW_none, errW_some] <;> rfl) | (simp [*, errW_none, errW_some] <;> rfl), z30⟩
  · rw [if_neg c3] at H
    have c3b0 : (a0_0 == a1_0) = false := beq_eq_false_iff_ne.mpr c3
    have c3b1 : (a0_0 != a1_0) = true := bne_iff_ne.mpr c3
    obtain rfl := Option.some.inj H
    go_enter Tryd.func63, Tryd.ntmps63
    go_wp2_with (first | ((with_reducible refine gate_dst (N := 2) rfl ?_); refine box_event ?hg (N := 2) ?hd (cs := #[.int .i64 a0_0, .slice A0_1 l0_1.length c0_1]) (t := 52) ?hr ?_; (case hd => rfl); (case hg => rfl); (case hr => first | (go_simp; done) | (go_simp; rfl)); intro gb379 hg w10 hbox hb; have n0_ := bS hb; have n1_ := Aside0.mk (hbox); have n2_ : Aside0 (w.heap.size ≤ gb379) := bZ hg; have n3_ : Aside0 (w.heap.size ≤ gb379) := bZ hg; clear HB; have HB := n0_; have BK379 := n1_; have GW379 := n2_; have GE379 := n3_; clear n0_ n1_ n2_ n3_; clear hb hbox hg) | ((with_reducible refine gate_dst (N := 3) rfl ?_); refine box_event ?hg (N := 3) ?hd (cs := #[.int .i64 a1_0, .slice A1_1 l1_1.length c1_1]) (t := 52) ?hr ?_; (case hd => rfl); (case hg => rfl); (case hr => first | (go_simp; done) | (go_simp; rfl)); intro gb380 hg w11 hbox hb; have n0_ := Aside0.mk (blk_below (g := gb379) (o := .cells #[.int .i64 a0_0, .slice A0_1 l0_1.length c0_1] 52 (0, 0)) (qK BK379.out) hb); have n1_ := bS hb; have n2_ := Aside0.mk (hbox); have n3_ : Aside0 (w.heap.size ≤ gb380) := bZ hg; have n4_ : Aside0 (w.heap.size ≤ gb380) := bZ hg; have n5_ := Aside0.mk ((by rw [hg]; exact Nat.ne_of_lt (blk_lt (g := gb379) (o := .cells #[.int .i64 a0_0, .slice A0_1 l0_1.length c0_1] 52 (0, 0)) (qK BK379.out)) : gb379 ≠ gb380)); have n6_ := Aside0.mk ((by rw [hg]; exact Nat.ne_of_gt (blk_lt (g := gb379) (o := .cells #[.int .i64 a0_0, .slice A0_1 l0_1.length c0_1] 52 (0, 0)) (qK BK379.out)) : gb380 ≠ gb379)); clear BK379; clear HB; have BK379 := n0_; have HB := n1_; have BK380 := n2_; have GW380 := n3_; have GE380 := n4_; have NB379_380 := n5_; have NB380_379 := n6_; clear n0_ n1_ n2_ n3_ n4_ n5_ n6_; clear hb hbox hg; have hnb12 := NB379_380.out; have hnc12 := NB380_379.out; obtain ⟨hcz13_0, hcz13_1, hfz13_0, hfz13_1⟩ := zc2 BK379.out; obtain ⟨hcz14_0, hcz14_1, hfz14_0, hfz14_1⟩ := zc2 BK380.out))
    go_ret
    exact ⟨by first | rfl | (simp [errW_none, errW_some] <;> rfl) | (simp [*, errW_none, errW_some] <;> rfl), z30⟩

/-! ### impl_Value: function 62 -/
def impl_Value.l0 : Nat → List (S52) → List (S52) → Int → Int → Option (Bool)
  | 0, _, _, _, _ => none
  | k + 1, x1, x15, x16, x17 => if x17 < x16 then (if 0 ≤ x17 then (if x17 < (x15.length : Int) then (if x17 < (x1.length : Int) then ((impl_EqualMessages_1.f k ((rd_T52 x15 x17).f0) ((rd_T52 x15 x17).f1) ((rd_T52 x1 x17).f0) ((rd_T52 x1 x17).f1)).bind fun t386 => (if t386 = true then (impl_Value.l0 k x1 x15 x16 (wrap64 (x17 + 1))) else (some false))) else (none)) else (none)) else (none)) else (some true)
def impl_Value.f (k : Nat) (l0 : List (S52)) (l1 : List (S52)) (a2 : Int) : Option (Bool) := if (l0.length : Int) = (l1.length : Int) then (impl_Value.l0 k l1 l0 (l0.length : Int) 0) else (some false)
theorem impl_Value.mono_l : ∀ k, (∀ y0 y1 y2 y3, LeO (impl_Value.l0 k y0 y1 y2 y3) (impl_Value.l0 (k + 1) y0 y1 y2 y3))
  | 0 => fun _ _ _ _ r h => by simp [impl_Value.l0] at h
  | k + 1 => by
    have ih0 := impl_Value.mono_l k
    · intro y0 y1 y2 y3
      unfold impl_Value.l0
      repeat' first
      | (with_reducible exact ih0 _ _ _ _)
      | (with_reducible exact impl_EqualMessages_1.mono _ _ _ _ _)
      | (with_reducible exact LeO.refl _)
      | (with_reducible exact LeO.none _)
      | (with_reducible refine LeO.ite ?_ ?_)
      | (with_reducible refine LeO.bind ?_ (fun _ => ?_))
      | exact ih0 _ _ _ _
      | exact impl_EqualMessages_1.mono _ _ _ _ _
      | exact LeO.none _
      | refine LeO.ite ?_ ?_
      | refine LeO.bind ?_ (fun _ => ?_)
theorem impl_Value.mono : ∀ a0 a1 a2 k, LeO (impl_Value.f k a0 a1 a2) (impl_Value.f (k + 1) a0 a1 a2) := by
  intro a0 a1 a2 k
  have ih0 := impl_Value.mono_l k
  unfold impl_Value.f
  repeat' first
      | (with_reducible exact ih0 _ _ _ _)
      | (with_reducible exact impl_EqualMessages_1.mono _ _ _ _ _)
      | (with_reducible exact LeO.refl _)
      | (with_reducible exact LeO.none _)
      | (with_reducible refine LeO.ite ?_ ?_)
      | (with_reducible refine LeO.bind ?_ (fun _ => ?_))
      | exact ih0 _ _ _ _
      | exact impl_EqualMessages_1.mono _ _ _ _ _
      | exact LeO.none _
      | refine LeO.ite ?_ ?_
      | refine LeO.bind ?_ (fun _ => ?_)
set_option maxHeartbeats 8000000 in
set_option maxRecDepth 100000 in
theorem impl_Value.calls (k : Nat) (A0 : Option Addr) (c0 : Nat) (l0 : List (S52)) (A1 : Option Addr) (c1 : Nat) (l1 : List (S52)) (a2 : Int) (r : Bool) (w : World) (hr0 : Kd.C k52 w A0 l0.length l0) (hc0 : l0.length ≤ c0) (hr1 : Kd.C k52 w A1 l1.length l1) (hc1 : l1.length ≤ c1) (h : impl_Value.f k l0 l1 a2 = some r) :
    Calls Tryd.prog 62 #[.slice A0 l0.length c0, .slice A1 l1.length c1, .func (.func 63) #[] #[]] w fun e w' => e = .returned (.bool r) ∧ Below w.heap.size w w' := by
  have hu52 := Tryd.underlying52
  have HR0 := Aside0.mk hr0
  have HC0 := Aside0.mk hc0
  clear hr0 hc0
  have HR1 := Aside0.mk hr1
  have HC1 := Aside0.mk hc1
  clear hr1 hc1
  have HB := Aside0.mk (Below.refl w.heap.size w)
  have H : (if (l0.length : Int) = (l1.length : Int) then (impl_Value.l0 k l1 l0 (l0.length : Int) 0) else (some false)) = some r := h
  clear h
  by_cases c4 : (l0.length : Int) = (l1.length : Int)
  · rw [if_pos c4] at H
    have c4b0 : ((l0.length : Int) == (l1.length : Int)) = true := beq_iff_eq.mpr c4
    have c4b1 : ((l0.length : Int) != (l1.length : Int)) = false := bne_eq_false_iff_eq.mpr c4
    have c4b2 : (l0.length == l1.length) = true := by first | simpa using c4 | (simp at c4 ⊢; omega)
    clear c4
    have H' := Aside0.mk H
    clear H
    go_enter Tryd.func62, Tryd.ntmps62
    go_wp2
    go_loopg [17] k (fun kq v17 w' => ∃ (x17_1 : Int), v17 = .int .i64 x17_1 ∧ Aside0 (impl_Value.l0 kq l1 l0 (l0.length : Int) x17_1 = some r) ∧ Aside0 (kq ≤ k) ∧ Aside0 (Below w.heap.size w w'))
    case atStart => exact ⟨(0), (by first | rfl | (simp; done) | (simp [*]; done)), H', ⟨Nat.le_refl _⟩, ⟨z0⟩⟩
    case round =>
      clear H'
      try clear c1
      try clear p2
      try clear c4
      try clear c4b0
      try clear c4b1
      try clear c4b2
      obtain ⟨x17_1, rfl, HA, HK1, HB⟩ := hrel
      cases gk with
      | zero => exact absurd HA.out (by simp [impl_Value.l0])
      | succ k1 =>
        have H := HA.out
        clear HA
        simp only [impl_Value.l0] at H
        by_cases c5 : x17_1 < (l0.length : Int)
        · rw [if_pos c5] at H
          have c5b0 : decide (x17_1 < (l0.length : Int)) = true := decide_eq_true c5; clear c5; by_cases c6 : 0 ≤ x17_1
          · rw [if_pos c6] at H
            have c6b0 : decide (0 ≤ x17_1) = true := decide_eq_true c6; clear c6; by_cases c7 : x17_1 < (l0.length : Int)
            · rw [if_pos c7] at H
              have c7b0 : decide (x17_1 < (l0.length : Int)) = true := decide_eq_true c7; clear c7; by_cases c8 : x17_1 < (l1.length : Int)
              · rw [if_pos c8] at H
                have c8b0 : decide (x17_1 < (l1.length : Int)) = true := decide_eq_true c8; clear c8; replace H := bE H; obtain ⟨t386, A9, H⟩ := H; by_cases c10 : t386 = true
                · subst c10
                  replace H := iT H; have H' := Aside0.mk H; clear H; (have p382 : 0 ≤ (x17_1 : Int) := of_decide_eq_true (by assumption)); (have q382 : x17_1 < (l0.length : Int) := of_decide_eq_true (by assumption)); obtain ⟨ad382, A382_1, c382_1, e382, hx382_0, hx382_1, hl382_1, hi382_1⟩ := at_T52 HR0.out x17_1 p382 q382; cases e382; replace hx382_0 := hC HB.out hx382_0; replace hx382_1 := hC HB.out hx382_1; have HR382_1 := Aside0.mk hi382_1; have HC382_1 := Aside0.mk hl382_1; clear hi382_1 hl382_1; replace p382 := eq_true p382; replace q382 := eq_true q382; (go_wp2_with (first | ((with_reducible refine gate_dst (N := 8) rfl ?_); refine box_event ?hg (N := 8) ?hd (cs := #[.int .i64 0, .slice none 0 0]) (t := 52) ?hr ?_; (case hd => rfl); (case hg => rfl); (case hr => first | (go_simp; done) | (go_simp; rfl)); intro gb383 hg w11 hbox hb; have n0_ := bS hb; have n1_ := Aside0.mk (hbox); have n2_ : Aside0 (w.heap.size ≤ gb383) := bZ hg; have n3_ : Aside0 (w.heap.size ≤ gb383) := bZ hg; clear HB; have HB := n0_; have BK383 := n1_; have GW383 := n2_; have GE383 := n3_; clear n0_ n1_ n2_ n3_; clear hb hbox hg; obtain ⟨hcz12_0, hcz12_1, hfz12_0, hfz12_1⟩ := zc2 BK383.out; have p384 : 0 ≤ (x17_1 : Int) := of_decide_eq_true (by assumption); have q384 : x17_1 < (l1.length : Int) := of_decide_eq_true (by assumption); obtain ⟨ad384, A384_1, c384_1, e384, hx384_0, hx384_1, hl384_1, hi384_1⟩ := at_T52 HR1.out x17_1 p384 q384; cases e384; have hn384_0 : ad384.block ≠ gb383 := Nat.ne_of_lt (Nat.lt_of_lt_of_le (by have := World.block_lt_of_cell? _ _ hx384_0; first | rwa [add_block] at this | exact this) GW383.out); have hn384_1 : ad384.block ≠ gb383 := Nat.ne_of_lt (Nat.lt_of_lt_of_le (by have := World.block_lt_of_cell? _ _ hx384_0; first | rwa [add_block] at this | exact this) GW383.out); replace hx384_0 := hC HB.out hx384_0; replace hx384_1 := hC HB.out hx384_1; have HR384_1 := Aside0.mk hi384_1; have HC384_1 := Aside0.mk hl384_1; clear hi384_1 hl384_1; replace hx384_0 := (cell_far (p := ⟨gb383, 0, none⟩) (by first | (rw [add_block]; exact hn384_0) | (show (Addr.add _ _).block ≠ _; rw [add_block]; exact hn384_0) | exact hn384_0) (.int .i64 ((rd_T52 l0 x17_1).f0))).trans hx384_0; replace hx384_1 := (cell_far (p := ⟨gb383, 0, none⟩) (by first | (rw [add_block]; exact hn384_0) | (show (Addr.add _ _).block ≠ _; rw [add_block]; exact hn384_0) | exact hn384_0) (.int .i64 ((rd_T52 l0 x17_1).f0))).trans hx384_1; replace hx384_0 := (cell_far (p := ⟨gb383, 1, none⟩) (by first | (rw [add_block]; exact hn384_1) | (show (Addr.add _ _).block ≠ _; rw [add_block]; exact hn384_1) | exact hn384_1) (.slice A382_1 ((rd_T52 l0 x17_1).f1).length c382_1)).trans hx384_0; replace hx384_1 := (cell_far (p := ⟨gb383, 1, none⟩) (by first | (rw [add_block]; exact hn384_1) | (show (Addr.add _ _).block ≠ _; rw [add_block]; exact hn384_1) | exact hn384_1) (.slice A382_1 ((rd_T52 l0 x17_1).f1).length c382_1)).trans hx384_1; clear hn384_0; clear hn384_1; replace p384 := eq_true p384; replace q384 := eq_true q384) | ((with_reducible refine gate_dst (N := 9) rfl ?_); refine box_event ?hg (N := 9) ?hd (cs := #[.int .i64 0, .slice none 0 0]) (t := 52) ?hr ?_; (case hd => rfl); (case hg => rfl); (case hr => first | (go_simp; done) | (go_simp; rfl)); intro gb385 hg w13 hbox hb; have n0_ := Aside0.mk (blk_below (g := gb383) (o := .cells #[.int .i64 ((rd_T52 l0 x17_1).f0), .slice A382_1 ((rd_T52 l0 x17_1).f1).length c382_1] 52 (0, 0)) (by (with_reducible repeat (first | refine blk_drewN ?_ _ | refine blk_drew ?_ | refine blk_alloc ?_ _)); refine blk_put (cs := #[.int .i64 ((rd_T52 l0 x17_1).f0), .slice none 0 0]) ?_ 1 _ rfl; (with_reducible repeat (first | refine blk_drewN ?_ _ | refine blk_drew ?_ | refine blk_alloc ?_ _)); refine blk_put (cs := #[.int .i64 0, .slice none 0 0]) ?_ 0 _ rfl; exact qK BK383.out) hb); have n1_ := bS hb; have n2_ := Aside0.mk (hbox); have n3_ : Aside0 (w.heap.size ≤ gb385) := bZ hg; have n4_ : Aside0 (w.heap.size ≤ gb385) := bZ hg; have n5_ := Aside0.mk ((by rw [hg]; exact Nat.ne_of_lt (blk_lt (g := gb383) (o := .cells #[.int .i64 ((rd_T52 l0 x17_1).f0), .slice A382_1 ((rd_T52 l0 x17_1).f1).length c382_1] 52 (0, 0)) (by (with_reducible repeat (first | refine blk_drewN ?_ _ | refine blk_drew ?_ | refine blk_alloc ?_ _)); refine blk_put (cs := #[.int .i64 ((rd_T52 l0 x17_1).f0), .slice none 0 0]) ?_ 1 _ rfl; (with_reducible repeat (first | refine blk_drewN ?_ _ | refine blk_drew ?_ | refine blk_alloc ?_ _)); refine blk_put (cs := #[.int .i64 0, .slice none 0 0]) ?_ 0 _ rfl; exact qK BK383.out)) : gb383 ≠ gb385)); have n6_ := Aside0.mk ((by rw [hg]; exact Nat.ne_of_gt (blk_lt (g := gb383) (o := .cells #[.int .i64 ((rd_T52 l0 x17_1).f0), .slice A382_1 ((rd_T52 l0 x17_1).f1).length c382_1] 52 (0, 0)) (by (with_reducible repeat (first | refine blk_drewN ?_ _ | refine blk_drew ?_ | refine blk_alloc ?_ _)); refine blk_put (cs := #[.int .i64 ((rd_T52 l0 x17_1).f0), .slice none 0 0]) ?_ 1 _ rfl; (with_reducible repeat (first | refine blk_drewN ?_ _ | refine blk_drew ?_ | refine blk_alloc ?_ _)); refine blk_put (cs := #[.int .i64 0, .slice none 0 0]) ?_ 0 _ rfl; exact qK BK383.out)) : gb385 ≠ gb383)); clear BK383; clear HB; have BK383 := n0_; have HB := n1_; have BK385 := n2_; have GW385 := n3_; have GE385 := n4_; have NB383_385 := n5_; have NB385_383 := n6_; clear n0_ n1_ n2_ n3_ n4_ n5_ n6_; clear hb hbox hg; have hnb14 := NB385_383.out; have hnc14 := NB383_385.out; obtain ⟨hcz15_0, hcz15_1, hfz15_0, hfz15_1⟩ := zc2 BK385.out; obtain ⟨hcz16_0, hcz16_1, hfz16_0, hfz16_1⟩ := zc2 BK383.out) | (go_at_call 63; (with_reducible refine (impl_EqualMessages_1.calls k1 ((rd_T52 l0 x17_1).f0) _ _ ((rd_T52 l0 x17_1).f1) ((rd_T52 l1 x17_1).f0) _ _ ((rd_T52 l1 x17_1).f1) true _ ?side1 ?side2 ?side3 ?side4 A9.out).mono ?_); (case side1 => exact Kd.C_below HR382_1.out z31); (case side2 => exact HC382_1.out); (case side3 => exact Kd.C_below HR384_1.out z31); (case side4 => exact HC384_1.out); rintro e w17 ⟨rfl, hb⟩; have n0_ := Aside0.mk (blk_below (g := gb383) (o := .cells #[.int .i64 ((rd_T52 l0 x17_1).f0), .slice A382_1 ((rd_T52 l0 x17_1).f1).length c382_1] 52 (0, 0)) (by (with_reducible repeat (first | refine blk_drewN ?_ _ | refine blk_drew ?_ | refine blk_alloc ?_ _)); refine blk_far ?_ NB383_385.out _; (with_reducible repeat (first | refine blk_drewN ?_ _ | refine blk_drew ?_ | refine blk_alloc ?_ _)); refine blk_far ?_ NB383_385.out _; exact qK BK383.out) hb); have n1_ := Aside0.mk (blk_below (g := gb385) (o := .cells #[.int .i64 ((rd_T52 l1 x17_1).f0), .slice A384_1 ((rd_T52 l1 x17_1).f1).length c384_1] 52 (0, 0)) (by (with_reducible repeat (first | refine blk_drewN ?_ _ | refine blk_drew ?_ | refine blk_alloc ?_ _)); refine blk_put (cs := #[.int .i64 ((rd_T52 l1 x17_1).f0), .slice none 0 0]) ?_ 1 _ rfl; (with_reducible repeat (first | refine blk_drewN ?_ _ | refine blk_drew ?_ | refine blk_alloc ?_ _)); refine blk_put (cs := #[.int .i64 0, .slice none 0 0]) ?_ 0 _ rfl; exact qK BK385.out) hb); have n2_ := Aside0.mk (below_step z31 hb); clear BK383; clear BK385; clear HB; have BK383 := n0_; have BK385 := n1_; have HB := n2_; clear n0_ n1_ n2_; (try clear hb); (try clear hb2); (try clear hk); (try clear hi)))); go_roundg k1
                  case measure => have := HK1.out; omega
                  case rel => exact ⟨(wrap64 (x17_1 + 1)), (by first | rfl | (simp; done) | (simp [*]; done)), H', ⟨by have := HK1.out; omega⟩, ⟨z31⟩⟩
                · replace c10 := Bool.eq_false_iff.mpr c10; subst c10; replace H := iF H; obtain rfl := Option.some.inj H; (have p382 : 0 ≤ (x17_1 : Int) := of_decide_eq_true (by assumption)); (have q382 : x17_1 < (l0.length : Int) := of_decide_eq_true (by assumption)); obtain ⟨ad382, A382_1, c382_1, e382, hx382_0, hx382_1, hl382_1, hi382_1⟩ := at_T52 HR0.out x17_1 p382 q382; cases e382; replace hx382_0 := hC HB.out hx382_0; replace hx382_1 := hC HB.out hx382_1; have HR382_1 := Aside0.mk hi382_1; have HC382_1 := Aside0.mk hl382_1; clear hi382_1 hl382_1; replace p382 := eq_true p382; replace q382 := eq_true q382; (go_wp2_with (first | ((with_reducible refine gate_dst (N := 8) rfl ?_); refine box_event ?hg (N := 8) ?hd (cs := #[.int .i64 0, .slice none 0 0]) (t := 52) ?hr ?_; (case hd => rfl); (case hg => rfl); (case hr => first | (go_simp; done) | (go_simp; rfl)); intro gb383 hg w18 hbox hb; have n0_ := bS hb; have n1_ := Aside0.mk (hbox); have n2_ : Aside0 (w.heap.size ≤ gb383) := bZ hg; have n3_ : Aside0 (w.heap.size ≤ gb383) := bZ hg; clear HB; have HB := n0_; have BK383 := n1_; have GW383 := n2_; have GE383 := n3_; clear n0_ n1_ n2_ n3_; clear hb hbox hg; obtain ⟨hcz19_0, hcz19_1, hfz19_0, hfz19_1⟩ := zc2 BK383.out; have p384 : 0 ≤ (x17_1 : Int) := of_decide_eq_true (by assumption); have q384 : x17_1 < (l1.length : Int) := of_decide_eq_true (by assumption); obtain ⟨ad384, A384_1, c384_1, e384, hx384_0, hx384_1, hl384_1, hi384_1⟩ := at_T52 HR1.out x17_1 p384 q384; cases e384; have hn384_0 : ad384.block ≠ gb383 := Nat.ne_of_lt (Nat.lt_of_lt_of_le (by have := World.block_lt_of_cell? _ _ hx384_0; first | rwa [add_block] at this | exact this) GW383.out); have hn384_1 : ad384.block ≠ gb383 := Nat.ne_of_lt (Nat.lt_of_lt_of_le (by have := World.block_lt_of_cell? _ _ hx384_0; first | rwa [add_block] at this | exact this) GW383.out); replace hx384_0 := hC HB.out hx384_0; replace hx384_1 := hC HB.out hx384_1; have HR384_1 := Aside0.mk hi384_1; have HC384_1 := Aside0.mk hl384_1; clear hi384_1 hl384_1; replace hx384_0 := (cell_far (p := ⟨gb383, 0, none⟩) (by first | (rw [add_block]; exact hn384_0) | (show (Addr.add _ _).block ≠ _; rw [add_block]; exact hn384_0) | exact hn384_0) (.int .i64 ((rd_T52 l0 x17_1).f0))).trans hx384_0; replace hx384_1 := (cell_far (p := ⟨gb383, 0, none⟩) (by first | (rw [add_block]; exact hn384_0) | (show (Addr.add _ _).block ≠ _; rw [add_block]; exact hn384_0) | exact hn384_0) (.int .i64 ((rd_T52 l0 x17_1).f0))).trans hx384_1; replace hx384_0 := (cell_far (p := ⟨gb383, 1, none⟩) (by first | (rw [add_block]; exact hn384_1) | (show (Addr.add _ _).block ≠ _; rw [add_block]; exact hn384_1) | exact hn384_1) (.slice A382_1 ((rd_T52 l0 x17_1).f1).length c382_1)).trans hx384_0; replace hx384_1 := (cell_far (p := ⟨gb383, 1, none⟩) (by first | (rw [add_block]; exact hn384_1) | (show (Addr.add _ _).block ≠ _; rw [add_block]; exact hn384_1) | exact hn384_1) (.slice A382_1 ((rd_T52 l0 x17_1).f1).length c382_1)).trans hx384_1; clear hn384_0; clear hn384_1; replace p384 := eq_true p384; replace q384 := eq_true q384) | ((with_reducible refine gate_dst (N := 9) rfl ?_); refine box_event ?hg (N := 9) ?hd (cs := #[.int .i64 0, .slice none 0 0]) (t := 52) ?hr ?_; (case hd => rfl); (case hg => rfl); (case hr => first | (go_simp; done) | (go_simp; rfl)); intro gb385 hg w20 hbox hb; have n0_ := Aside0.mk (blk_below (g := gb383) (o := .cells #[.int .i64 ((rd_T52 l0 x17_1).f0), .slice A382_1 ((rd_T52 l0 x17_1).f1).length c382_1] 52 (0, 0)) (by (with_reducible repeat (first | refine blk_drewN ?_ _ | refine blk_drew ?_ | refine blk_alloc ?_ _)); refine blk_put (cs := #[.int .i64 ((rd_T52 l0 x17_1).f0), .slice none 0 0]) ?_ 1 _ rfl; (with_reducible repeat (first | refine blk_drewN ?_ _ | refine blk_drew ?_ | refine blk_alloc ?_ _)); refine blk_put (cs := #[.int .i64 0, .slice none 0 0]) ?_ 0 _ rfl; exact qK BK383.out) hb); have n1_ := bS hb; have n2_ := Aside0.mk (hbox); have n3_ : Aside0 (w.heap.size ≤ gb385) := bZ hg; have n4_ : Aside0 (w.heap.size ≤ gb385) := bZ hg; have n5_ := Aside0.mk ((by rw [hg]; exact Nat.ne_of_lt (blk_lt (g := gb383) (o := .cells #[.int .i64 ((rd_T52 l0 x17_1).f0), .slice A382_1 ((rd_T52 l0 x17_1).f1).length c382_1] 52 (0, 0)) (by (with_reducible repeat (first | refine blk_drewN ?_ _ | refine blk_drew ?_ | refine blk_alloc ?_ _)); refine blk_put (cs := #[.int .i64 ((rd_T52 l0 x17_1).f0), .slice none 0 0]) ?_ 1 _ rfl; (with_reducible repeat (first | refine blk_drewN ?_ _ | refine blk_drew ?_ | refine blk_alloc ?_ _)); refine blk_put (cs := #[.int .i64 0, .slice none 0 0]) ?_ 0 _ rfl; exact qK BK383.out)) : gb383 ≠ gb385)); have n6_ := Aside0.mk ((by rw [hg]; exact Nat.ne_of_gt (blk_lt (g := gb383) (o := .cells #[.int .i64 ((rd_T52 l0 x17_1).f0), .slice A382_1 ((rd_T52 l0 x17_1).f1).length c382_1] 52 (0, 0)) (by (with_reducible repeat (first | refine blk_drewN ?_ _ | refine blk_drew ?_ | refine blk_alloc ?_ _)); refine blk_put (cs := #[.int .i64 ((rd_T52 l0 x17_1).f0), .slice none 0 0]) ?_ 1 _ rfl; (with_reducible repeat (first | refine blk_drewN ?_ _ | refine blk_drew ?_ | refine blk_alloc ?_ _)); refine blk_put (cs := #[.int .i64 0, .slice none 0 0]) ?_ 0 _ rfl; exact qK BK383.out)) : gb385 ≠ gb383)); clear BK383; clear HB; have BK383 := n0_; have HB := n1_; have BK385 := n2_; have GW385 := n3_; have GE385 := n4_; have NB383_385 := n5_; have NB385_383 := n6_; clear n0_ n1_ n2_ n3_ n4_ n5_ n6_; clear hb hbox hg; have hnb21 := NB385_383.out; have hnc21 := NB383_385.out; obtain ⟨hcz22_0, hcz22_1, hfz22_0, hfz22_1⟩ := zc2 BK385.out; obtain ⟨hcz23_0, hcz23_1, hfz23_0, hfz23_1⟩ := zc2 BK383.out) | (go_at_call 63; (with_reducible refine (impl_EqualMessages_1.calls k1 ((rd_T52 l0 x17_1).f0) _ _ ((rd_T52 l0 x17_1).f1) ((rd_T52 l1 x17_1).f0) _ _ ((rd_T52 l1 x17_1).f1) false _ ?side1 ?side2 ?side3 ?side4 A9.out).mono ?_); (case side1 => exact Kd.C_below HR382_1.out z31); (case side2 => exact HC382_1.out); (case side3 => exact Kd.C_below HR384_1.out z31); (case side4 => exact HC384_1.out); rintro e w24 ⟨rfl, hb⟩; have n0_ := Aside0.mk (blk_below (g := gb383) (o := .cells #[.int .i64 ((rd_T52 l0 x17_1).f0), .slice A382_1 ((rd_T52 l0 x17_1).f1).length c382_1] 52 (0, 0)) (by (with_reducible repeat (first | refine blk_drewN ?_ _ | refine blk_drew ?_ | refine blk_alloc ?_ _)); refine blk_far ?_ NB383_385.out _; (with_reducible repeat (first | refine blk_drewN ?_ _ | refine blk_drew ?_ | refine blk_alloc ?_ _)); refine blk_far ?_ NB383_385.out _; exact qK BK383.out) hb); have n1_ := Aside0.mk (blk_below (g := gb385) (o := .cells #[.int .i64 ((rd_T52 l1 x17_1).f0), .slice A384_1 ((rd_T52 l1 x17_1).f1).length c384_1] 52 (0, 0)) (by (with_reducible repeat (first | refine blk_drewN ?_ _ | refine blk_drew ?_ | refine blk_alloc ?_ _)); refine blk_put (cs := #[.int .i64 ((rd_T52 l1 x17_1).f0), .slice none 0 0]) ?_ 1 _ rfl; (with_reducible repeat (first | refine blk_drewN ?_ _ | refine blk_drew ?_ | refine blk_alloc ?_ _)); refine blk_put (cs := #[.int .i64 0, .slice none 0 0]) ?_ 0 _ rfl; exact qK BK385.out) hb); have n2_ := Aside0.mk (below_step z31 hb); clear BK383; clear BK385; clear HB; have BK383 := n0_; have BK385 := n1_; have HB := n2_; clear n0_ n1_ n2_; (try clear hb); (try clear hb2); (try clear hk); (try clear hi)))); go_ret; (exact ⟨by first | rfl | (simp [errW_none, errW_some] <;> rfl) | (simp [*, errW_none, errW_some] <;> rfl), z31⟩)
              · rw [if_neg c8] at H; (exact absurd H (by simp))
            · rw [if_neg c7] at H; (exact absurd H (by simp))
          · rw [if_neg c6] at H; (exact absurd H (by simp))
        · rw [if_neg c5] at H
          have c5b0 : decide (x17_1 < (l0.length : Int)) = false := decide_eq_false c5; clear c5; obtain rfl := Option.some.inj H; go_wp2; go_ret; (exact ⟨by first | rfl | (simp [errW_none, errW_some] <;> rfl) | (simp [*, errW_none, errW_some] <;> rfl), z0⟩)
  · rw [if_neg c4] at H
    have c4b0 : ((l0.length : Int) == (l1.length : Int)) = false := beq_eq_false_iff_ne.mpr c4
    have c4b1 : ((l0.length : Int) != (l1.length : Int)) = true := bne_iff_ne.mpr c4
    have c4b2 : (l0.length == l1.length) = false := by first | simpa using c4 | (simp at c4 ⊢; omega)
    obtain rfl := Option.some.inj H
    go_enter Tryd.func62, Tryd.ntmps62
    go_wp2
    go_ret
    exact ⟨by first | rfl | (simp [errW_none, errW_some] <;> rfl) | (simp [*, errW_none, errW_some] <;> rfl), z0⟩

/-! ### impl_EqualMessages: function 32 -/
def impl_EqualMessages.f (k : Nat) (l0 : List (S52)) (l1 : List (S52)) : Option (Bool) := (impl_Value.f k l0 l1 0).bind fun t387 => (some t387)
theorem impl_EqualMessages.mono : ∀ a0 a1 k, LeO (impl_EqualMessages.f k a0 a1) (impl_EqualMessages.f (k + 1) a0 a1) := by
  intro a0 a1 k
  unfold impl_EqualMessages.f
  repeat' first
      | (with_reducible exact impl_Value.mono _ _ _ _)
      | (with_reducible exact LeO.refl _)
      | (with_reducible exact LeO.none _)
      | (with_reducible refine LeO.ite ?_ ?_)
      | (with_reducible refine LeO.bind ?_ (fun _ => ?_))
      | exact impl_Value.mono _ _ _ _
      | exact LeO.none _
      | refine LeO.ite ?_ ?_
      | refine LeO.bind ?_ (fun _ => ?_)
set_option maxHeartbeats 8000000 in
set_option maxRecDepth 100000 in
theorem impl_EqualMessages.calls (k : Nat) (A0 : Option Addr) (c0 : Nat) (l0 : List (S52)) (A1 : Option Addr) (c1 : Nat) (l1 : List (S52)) (r : Bool) (w : World) (hr0 : Kd.C k52 w A0 l0.length l0) (hc0 : l0.length ≤ c0) (hr1 : Kd.C k52 w A1 l1.length l1) (hc1 : l1.length ≤ c1) (h : impl_EqualMessages.f k l0 l1 = some r) :
    Calls Tryd.prog 32 #[.slice A0 l0.length c0, .slice A1 l1.length c1] w fun e w' => e = .returned (.bool r) ∧ Below w.heap.size w w' := by
  have HR0 := Aside0.mk hr0
  have HC0 := Aside0.mk hc0
  clear hr0 hc0
  have HR1 := Aside0.mk hr1
  have HC1 := Aside0.mk hc1
  clear hr1 hc1
  have HB := Aside0.mk (Below.refl w.heap.size w)
  have H : ((impl_Value.f k l0 l1 0).bind fun t387 => (some t387)) = some r := h
  clear h
  replace H := bE H; obtain ⟨t387, A3, H⟩ := H
  obtain rfl := Option.some.inj H
  go_enter Tryd.func32, Tryd.ntmps32
  go_wp2_with (first | ((with_reducible refine gate_callee (f := 62) rfl ?_); refine goesL_ (some 7) rfl rfl Tryd.func62 (by kernel_rfl) rfl #[.slice A0 l0.length c0, .slice A1 l1.length c1, .func (.func 63) #[] #[]] rfl (by (try simp only [List.map_toArray, List.map_cons, List.map_nil]); first | done | rfl | (simp only [List.length_drop, List.length_take]; rfl)) ?_; (with_reducible refine (impl_Value.calls k _ _ l0 _ _ l1 0 t387 _ ?side1 ?side2 ?side3 ?side4 A3.out).mono ?_); (case side1 => exact qC HR0.out); (case side2 => exact HC0.out); (case side3 => exact qC HR1.out); (case side4 => exact HC1.out); rintro e w4 ⟨rfl, hb⟩; refine ⟨_, rfl, ?_⟩; have n0_ := bS hb; clear HB; have HB := n0_; clear n0_; (try clear hb); (try clear hb2); (try clear hk); (try clear hi)))
  go_ret
  exact ⟨by first | rfl | (simp [errW_none, errW_some] <;> rfl) | (simp [*, errW_none, errW_some] <;> rfl), z0⟩

/-! ### laws_FnMessages: function 7 -/
mutual
abbrev m7x0 : Array Bool := #[true, true, true, true, true, true, true, true, true, true]
abbrev m7x1 : Array Bool := #[true, true, true, true, true, true, true, true, true, false]
abbrev m7x2 : Array Bool := #[true, true, true, true, true, true, true, true, false, false]
abbrev m7x3 : Array Bool := #[true, true, true, true, true, true, true, false, false, false]
abbrev m7x4 : Array Bool := #[true, true, true, false, true, true, true, false, false, false]
abbrev m7x5 : Array Bool := #[true, true, true, false, true, true, false, false, false, false]
abbrev m7x6 : Array Bool := #[true, true, true, false, true, false, false, false, false, false]
abbrev m7x7 : Array Bool := #[true, true, true, false, false, false, false, false, false, false]
abbrev m7x8 : Array Bool := #[true, true, false, false, false, false, false, false, false, false]
abbrev m7x9 : Array Bool := #[true, false, false, false, false, false, false, false, false, false]
abbrev m7x10 : Array Bool := #[false, false, false, false, false, false, false, false, false, false]
def laws_FnMessages.j0 : Nat → List Int → List (S49) → List (S52) → Bool → Option (Bool)
  | 0, _, _, _, _ => none
  | k + 1, x0, x3, x4, x5 => laws_FnMessages.l0 k x0 x3 x4 x5 0 0
def laws_FnMessages.l0 : Nat → List Int → List (S49) → List (S52) → Bool → Int → Int → Option (Bool)
  | 0, _, _, _, _, _, _ => none
  | k + 1, x0, x3, x4, x5, x6, x7 => if x7 < (x3.length : Int) then (laws_FnMessages.j2 k x0 x3 x4 x5 x6 x7 x5) else (laws_FnMessages.j2 k x0 x3 x4 x5 x6 x7 false)
def laws_FnMessages.j2 : Nat → List Int → List (S49) → List (S52) → Bool → Int → Int → Bool → Option (Bool)
  | 0, _, _, _, _, _, _, _ => none
  | k + 1, x0, x3, x4, x5, x6, x7, x32 => if x32 = true then ((impl_IsThere.f x3 x4 x7).bind fun t396 => (if t396 = true then (if 0 ≤ x7 then (if x7 < (x3.length : Int) then (if x7 < (x4.length : Int) then ((impl_FitsField.f k ((rd_T49 x3 x7).f0) ((rd_T49 x3 x7).f1) ((rd_T49 x3 x7).f2) ((rd_T49 x3 x7).f3) ((rd_T52 x4 x7).f0) ((rd_T52 x4 x7).f1)).bind fun t399 => (laws_FnMessages.l0 k x0 x3 x4 t399 (wrap64 (x6 + 1)) (wrap64 (x7 + 1)))) else (none)) else (none)) else (none)) else (if 0 ≤ x7 then (if x7 < (x4.length : Int) then (if ((rd_T52 x4 x7).f0) = 0 then (laws_FnMessages.l0 k x0 x3 x4 ((((rd_T52 x4 x7).f1).length : Int) == 0) x6 (wrap64 (x7 + 1))) else (laws_FnMessages.l0 k x0 x3 x4 false x6 (wrap64 (x7 + 1)))) else (none)) else (none)))) else ((impl_FitsFormat.f k x3 x4).bind fun t402 => (if (x5 != t402) = true then (laws_FnMessages.j3 k x0 x4 true) else (if x5 = true then ((impl_ThereCount.f k x3 x4).bind fun t403 => (laws_FnMessages.j3 k x0 x4 (x6 != t403))) else (laws_FnMessages.j3 k x0 x4 false))))
def laws_FnMessages.j3 : Nat → List Int → List (S52) → Bool → Option (Bool)
  | 0, _, _, _ => none
  | k + 1, x0, x4, x79 => if x79 = true then (some false) else ((spec_DrawEqualMessages.f k x0).bind fun bt404 => ((impl_EqualMessages.f k bt404.1 bt404.2).bind fun t410 => ((impl_EqualMessages.f k bt404.2 bt404.1).bind fun t411 => (if (t410 == t411) = true then ((impl_EqualMessages.f k bt404.1 bt404.1).bind fun t412 => (if t412 = true then ((impl_MessageText.f k x4).bind fun t413 => (some ((decide ((x4.length : Int) > 0)) == (t413.toList != ([45] : List UInt8))))) else (some false))) else (some false)))))
end
def laws_FnMessages.f (k : Nat) (l0 : List Int) : Option (Bool) := (laws_big.f l0).bind fun t388 => (if t388 = true then (some true) else ((spec_DrawFitsFormat.f k l0).bind fun bt389 => ((impl_IsFormat.f k bt389.1).bind fun t395 => (if t395 = true then (laws_FnMessages.j0 k l0 bt389.1 bt389.2 ((bt389.1.length : Int) == (bt389.2.length : Int))) else (laws_FnMessages.j0 k l0 bt389.1 bt389.2 false)))))
theorem laws_FnMessages.mono_l : ∀ k, (∀ y0 y1 y2 y3, LeO (laws_FnMessages.j0 k y0 y1 y2 y3) (laws_FnMessages.j0 (k + 1) y0 y1 y2 y3)) ∧ (∀ y0 y1 y2 y3 y4 y5, LeO (laws_FnMessages.l0 k y0 y1 y2 y3 y4 y5) (laws_FnMessages.l0 (k + 1) y0 y1 y2 y3 y4 y5)) ∧ (∀ y0 y1 y2 y3 y4 y5 y6, LeO (laws_FnMessages.j2 k y0 y1 y2 y3 y4 y5 y6) (laws_FnMessages.j2 (k + 1) y0 y1 y2 y3 y4 y5 y6)) ∧ (∀ y0 y1 y2, LeO (laws_FnMessages.j3 k y0 y1 y2) (laws_FnMessages.j3 (k + 1) y0 y1 y2))
  | 0 => ⟨fun _ _ _ _ r h => by simp [laws_FnMessages.j0] at h, fun _ _ _ _ _ _ r h => by simp [laws_FnMessages.l0] at h, fun _ _ _ _ _ _ _ r h => by simp [laws_FnMessages.j2] at h, fun _ _ _ r h => by simp [laws_FnMessages.j3] at h⟩
  | k + 1 => by
    obtain ⟨ih0, ih1, ih2, ih3⟩ := laws_FnMessages.mono_l k
    refine ⟨?_, ?_, ?_, ?_⟩
    · intro y0 y1 y2 y3
      unfold laws_FnMessages.j0
      repeat' first
      | (with_reducible exact ih0 _ _ _ _)
      | (with_reducible exact ih1 _ _ _ _ _ _)
      | (with_reducible exact ih2 _ _ _ _ _ _ _)
      | (with_reducible exact ih3 _ _ _)
      | (with_reducible exact impl_EqualMessages.mono _ _ _)
      | (with_reducible exact impl_FitsField.mono _ _ _ _ _ _ _)
      | (with_reducible exact impl_FitsFormat.mono _ _ _)
      | (with_reducible exact impl_IsFormat.mono _ _)
      | (with_reducible exact impl_MessageText.mono _ _)
      | (with_reducible exact impl_ThereCount.mono _ _ _)
      | (with_reducible exact spec_DrawEqualMessages.mono _ _)
      | (with_reducible exact spec_DrawFitsFormat.mono _ _)
      | (with_reducible exact LeO.refl _)
      | (with_reducible exact LeO.none _)
      | (with_reducible refine LeO.ite ?_ ?_)
      | (with_reducible refine LeO.bind ?_ (fun _ => ?_))
      | exact ih0 _ _ _ _
      | exact ih1 _ _ _ _ _ _
      | exact ih2 _ _ _ _ _ _ _
      | exact ih3 _ _ _
      | exact impl_EqualMessages.mono _ _ _
      | exact impl_FitsField.mono _ _ _ _ _ _ _
      | exact impl_FitsFormat.mono _ _ _
      | exact impl_IsFormat.mono _ _
      | exact impl_MessageText.mono _ _
      | exact impl_ThereCount.mono _ _ _
      | exact spec_DrawEqualMessages.mono _ _
      | exact spec_DrawFitsFormat.mono _ _
      | exact LeO.none _
      | refine LeO.ite ?_ ?_
      | refine LeO.bind ?_ (fun _ => ?_)
    · intro y0 y1 y2 y3 y4 y5
      unfold laws_FnMessages.l0
      repeat' first
      | (with_reducible exact ih0 _ _ _ _)
      | (with_reducible exact ih1 _ _ _ _ _ _)
      | (with_reducible exact ih2 _ _ _ _ _ _ _)
      | (with_reducible exact ih3 _ _ _)
      | (with_reducible exact impl_EqualMessages.mono _ _ _)
      | (with_reducible exact impl_FitsField.mono _ _ _ _ _ _ _)
      | (with_reducible exact impl_FitsFormat.mono _ _ _)
      | (with_reducible exact impl_IsFormat.mono _ _)
      | (with_reducible exact impl_MessageText.mono _ _)
      | (with_reducible exact impl_ThereCount.mono _ _ _)
      | (with_reducible exact spec_DrawEqualMessages.mono _ _)
      | (with_reducible exact spec_DrawFitsFormat.mono _ _)
      | (with_reducible exact LeO.refl _)
      | (with_reducible exact LeO.none _)
      | (with_reducible refine LeO.ite ?_ ?_)
      | (with_reducible refine LeO.bind ?_ (fun _ => ?_))
      | exact ih0 _ _ _ _
      | exact ih1 _ _ _ _ _ _
      | exact ih2 _ _ _ _ _ _ _
      | exact ih3 _ _ _
      | exact impl_EqualMessages.mono _ _ _
      | exact impl_FitsField.mono _ _ _ _ _ _ _
      | exact impl_FitsFormat.mono _ _ _
      | exact impl_IsFormat.mono _ _
      | exact impl_MessageText.mono _ _
      | exact impl_ThereCount.mono _ _ _
      | exact spec_DrawEqualMessages.mono _ _
      | exact spec_DrawFitsFormat.mono _ _
      | exact LeO.none _
      | refine LeO.ite ?_ ?_
      | refine LeO.bind ?_ (fun _ => ?_)
    · intro y0 y1 y2 y3 y4 y5 y6
      unfold laws_FnMessages.j2
      repeat' first
      | (with_reducible exact ih0 _ _ _ _)
      | (with_reducible exact ih1 _ _ _ _ _ _)
      | (with_reducible exact ih2 _ _ _ _ _ _ _)
      | (with_reducible exact ih3 _ _ _)
      | (with_reducible exact impl_EqualMessages.mono _ _ _)
      | (with_reducible exact impl_FitsField.mono _ _ _ _ _ _ _)
      | (with_reducible exact impl_FitsFormat.mono _ _ _)
      | (with_reducible exact impl_IsFormat.mono _ _)
      | (with_reducible exact impl_MessageText.mono _ _)
      | (with_reducible exact impl_ThereCount.mono _ _ _)
      | (with_reducible exact spec_DrawEqualMessages.mono _ _)
      | (with_reducible exact spec_DrawFitsFormat.mono _ _)
      | (with_reducible exact LeO.refl _)
      | (with_reducible exact LeO.none _)
      | (with_reducible refine LeO.ite ?_ ?_)
      | (with_reducible refine LeO.bind ?_ (fun _ => ?_))
      | exact ih0 _ _ _ _
      | exact ih1 _ _ _ _ _ _
      | exact ih2 _ _ _ _ _ _ _
      | exact ih3 _ _ _
      | exact impl_EqualMessages.mono _ _ _
      | exact impl_FitsField.mono _ _ _ _ _ _ _
      | exact impl_FitsFormat.mono _ _ _
      | exact impl_IsFormat.mono _ _
      | exact impl_MessageText.mono _ _
      | exact impl_ThereCount.mono _ _ _
      | exact spec_DrawEqualMessages.mono _ _
      | exact spec_DrawFitsFormat.mono _ _
      | exact LeO.none _
      | refine LeO.ite ?_ ?_
      | refine LeO.bind ?_ (fun _ => ?_)
    · intro y0 y1 y2
      unfold laws_FnMessages.j3
      repeat' first
      | (with_reducible exact ih0 _ _ _ _)
      | (with_reducible exact ih1 _ _ _ _ _ _)
      | (with_reducible exact ih2 _ _ _ _ _ _ _)
      | (with_reducible exact ih3 _ _ _)
      | (with_reducible exact impl_EqualMessages.mono _ _ _)
      | (with_reducible exact impl_FitsField.mono _ _ _ _ _ _ _)
      | (with_reducible exact impl_FitsFormat.mono _ _ _)
      | (with_reducible exact impl_IsFormat.mono _ _)
      | (with_reducible exact impl_MessageText.mono _ _)
      | (with_reducible exact impl_ThereCount.mono _ _ _)
      | (with_reducible exact spec_DrawEqualMessages.mono _ _)
      | (with_reducible exact spec_DrawFitsFormat.mono _ _)
      | (with_reducible exact LeO.refl _)
      | (with_reducible exact LeO.none _)
      | (with_reducible refine LeO.ite ?_ ?_)
      | (with_reducible refine LeO.bind ?_ (fun _ => ?_))
      | exact ih0 _ _ _ _
      | exact ih1 _ _ _ _ _ _
      | exact ih2 _ _ _ _ _ _ _
      | exact ih3 _ _ _
      | exact impl_EqualMessages.mono _ _ _
      | exact impl_FitsField.mono _ _ _ _ _ _ _
      | exact impl_FitsFormat.mono _ _ _
      | exact impl_IsFormat.mono _ _
      | exact impl_MessageText.mono _ _
      | exact impl_ThereCount.mono _ _ _
      | exact spec_DrawEqualMessages.mono _ _
      | exact spec_DrawFitsFormat.mono _ _
      | exact LeO.none _
      | refine LeO.ite ?_ ?_
      | refine LeO.bind ?_ (fun _ => ?_)
theorem laws_FnMessages.mono : ∀ a0 k, LeO (laws_FnMessages.f k a0) (laws_FnMessages.f (k + 1) a0) := by
  intro a0 k
  obtain ⟨ih0, ih1, ih2, ih3⟩ := laws_FnMessages.mono_l k
  unfold laws_FnMessages.f
  repeat' first
      | (with_reducible exact ih0 _ _ _ _)
      | (with_reducible exact ih1 _ _ _ _ _ _)
      | (with_reducible exact ih2 _ _ _ _ _ _ _)
      | (with_reducible exact ih3 _ _ _)
      | (with_reducible exact impl_EqualMessages.mono _ _ _)
      | (with_reducible exact impl_FitsField.mono _ _ _ _ _ _ _)
      | (with_reducible exact impl_FitsFormat.mono _ _ _)
      | (with_reducible exact impl_IsFormat.mono _ _)
      | (with_reducible exact impl_MessageText.mono _ _)
      | (with_reducible exact impl_ThereCount.mono _ _ _)
      | (with_reducible exact spec_DrawEqualMessages.mono _ _)
      | (with_reducible exact spec_DrawFitsFormat.mono _ _)
      | (with_reducible exact LeO.refl _)
      | (with_reducible exact LeO.none _)
      | (with_reducible refine LeO.ite ?_ ?_)
      | (with_reducible refine LeO.bind ?_ (fun _ => ?_))
      | exact ih0 _ _ _ _
      | exact ih1 _ _ _ _ _ _
      | exact ih2 _ _ _ _ _ _ _
      | exact ih3 _ _ _
      | exact impl_EqualMessages.mono _ _ _
      | exact impl_FitsField.mono _ _ _ _ _ _ _
      | exact impl_FitsFormat.mono _ _ _
      | exact impl_IsFormat.mono _ _
      | exact impl_MessageText.mono _ _
      | exact impl_ThereCount.mono _ _ _
      | exact spec_DrawEqualMessages.mono _ _
      | exact spec_DrawFitsFormat.mono _ _
      | exact LeO.none _
      | refine LeO.ite ?_ ?_
      | refine LeO.bind ?_ (fun _ => ?_)
def laws_FnMessages.T11 : Bool × List (List Nat × List Nat) := (true, [([], []), ([], []), ([0, 1], [0, 1]), ([2], [2]), ([], []), ([], []), ([4, 5], [4, 5]), ([6], [6]), ([3, 7], [3, 7]), ([8, 8, 0, 1, 2, 3, 4, 5, 6, 7, 8], [8])])
def laws_FnMessages.B11 : List Nat := [0, 0, 3, 7, 0, 0, 48, 112, 255, 511]
theorem laws_FnMessages.tab11 : rtab .any (opsOf Tryd.f7 11) = laws_FnMessages.T11 := by kernel_rfl
theorem laws_FnMessages.bits11 : waitsOk laws_FnMessages.T11.2 laws_FnMessages.B11 = true := by kernel_rfl
set_option maxHeartbeats 8000000 in
set_option maxRecDepth 100000 in
theorem laws_FnMessages.calls (k : Nat) (A0 : Option Addr) (c0 : Nat) (l0 : List Int) (r : Bool) (w : World) (hr0 : Kd.C (Kd.int .u8) w A0 l0.length l0) (hc0 : l0.length ≤ c0) (h : laws_FnMessages.f k l0 = some r) (hL : Tryd.LaidT w) :
    Calls Tryd.prog 7 #[.slice A0 l0.length c0] w fun e w' => e = .returned (.bool r) ∧ Below w.heap.size w w' := by
  have HL := Aside0.mk hL
  clear hL
  have hu49 := Tryd.underlying49
  have hu52 := Tryd.underlying52
  have HR0 := Aside0.mk hr0
  have HC0 := Aside0.mk hc0
  clear hr0 hc0
  have HB := Aside0.mk (Below.refl w.heap.size w)
  have H : ((laws_big.f l0).bind fun t388 => (if t388 = true then (some true) else ((spec_DrawFitsFormat.f k l0).bind fun bt389 => ((impl_IsFormat.f k bt389.1).bind fun t395 => (if t395 = true then (laws_FnMessages.j0 k l0 bt389.1 bt389.2 ((bt389.1.length : Int) == (bt389.2.length : Int))) else (laws_FnMessages.j0 k l0 bt389.1 bt389.2 false)))))) = some r := h
  clear h
  replace H := bE H; obtain ⟨t388, A2, H⟩ := H
  by_cases c3 : t388 = true
  · subst c3
    replace H := iT H
    obtain rfl := Option.some.inj H
    go_enter Tryd.func7, Tryd.ntmps7
    go_wp2_with (first | ((with_reducible refine gate_callee (f := 24) rfl ?_); refine gL 11 Tryd.func24 #[.slice A0 l0.length c0] ?_; (with_reducible refine (laws_big.calls _ _ l0 true _ ?side1 ?side2 A2.out).mono ?_); (case side1 => exact qC HR0.out); (case side2 => exact HC0.out); rintro e w' ⟨rfl, ⟨nd, rfl⟩⟩; refine ⟨_, rfl, ?_⟩))
    go_ret
    exact ⟨by first | rfl | (simp [errW_none, errW_some] <;> rfl) | (simp [*, errW_none, errW_some] <;> rfl), z0⟩
  · replace c3 := Bool.eq_false_iff.mpr c3
    subst c3
    replace H := iF H
    replace H := bE H; obtain ⟨⟨t389, t390⟩, A4, H⟩ := H; replace H : ((impl_IsFormat.f k t389).bind fun t395 => (if t395 = true then (laws_FnMessages.j0 k l0 t389 t390 ((t389.length : Int) == (t390.length : Int))) else (laws_FnMessages.j0 k l0 t389 t390 false))) = some r := H
    have HC5 := Aside0.mk H
    clear H
    go_enter Tryd.func7, Tryd.ntmps7
    go_upto_region 4 with (first | ((with_reducible refine gate_callee (f := 24) rfl ?_); refine gL 11 Tryd.func24 #[.slice A0 l0.length c0] ?_; (with_reducible refine (laws_big.calls _ _ l0 false _ ?side1 ?side2 A2.out).mono ?_); (case side1 => exact qC HR0.out); (case side2 => exact HC0.out); rintro e w' ⟨rfl, ⟨nd, rfl⟩⟩; refine ⟨_, rfl, ?_⟩) | ((with_reducible refine gate_callee (f := 25) rfl ?_); refine gL 14 Tryd.func25 #[.slice A0 l0.length c0] ?_; (with_reducible refine (spec_DrawFitsFormat.calls k _ _ l0 t389 t390 _ ?side1 ?side2 A4.out).mono ?_); (case side1 => exact qC HR0.out); (case side2 => exact HC0.out); rintro e w6 ⟨v391, v393, rfl, ho0, ho1, hb⟩; refine ⟨_, rfl, ?_⟩; have n0_ := Aside0.mk (Kd.R_lower ho0 (below_size z0)); have n1_ := Aside0.mk (Kd.S_lower ho1 (below_size z0)); have n2_ := bS hb; clear HB; have HO392 := n0_; have HO394 := n1_; have HB := n2_; clear n0_ n1_ n2_; (try clear hb); (try clear hb2); (try clear hk); (try clear hi); (try clear ho0); (try clear ho1)))
    (try simp only [Act.put, sT, sZ, sS])
    go_cut [5] (fun v5 wc => ∃ (kq : Nat) (x5_4 : Bool), v5 = .bool x5_4 ∧ Aside0 (laws_FnMessages.j0 kq l0 t389 t390 x5_4 = some r) ∧ Aside0 (kq ≤ k) ∧ Aside0 (Kd.R k49 49 wc w.heap.size (fun _ => True) v391 t389) ∧ Aside0 (Kd.S k52 52 wc w.heap.size (fun _ => True) v393 t390) ∧ Aside0 (Below w.heap.size w wc))
    case first =>
      have H := HC5.out
      clear HC5
      replace H := bE H; obtain ⟨t395, A7, H⟩ := H
      by_cases c8 : t395 = true
      · subst c8
        replace H := iT H
        have H' := Aside0.mk H
        clear H
        obtain ⟨Ao9, co9, eo9⟩ := Kd.R_slice HO392.out
        subst eo9
        go_wp2_with (first | ((with_reducible refine gate_callee (f := 26) rfl ?_); refine gL 18 Tryd.func26 #[.slice Ao9 t389.length co9] ?_; (with_reducible refine (impl_IsFormat.calls k _ _ t389 true _ ?side1 ?side2 A7.out).mono ?_); (case side1 => exact qC (Kd.R_reads' HO392.out).2.2); (case side2 => exact (Kd.R_reads' HO392.out).2.1); rintro e w10 ⟨rfl, hb⟩; refine ⟨_, rfl, ?_⟩; have n0_ := rB HO392.out hb; have n1_ := sB HO394.out hb; have n2_ := bS hb; clear HO392; clear HO394; clear HB; have HO392 := n0_; have HO394 := n1_; have HB := n2_; clear n0_ n1_ n2_; (try clear hb); (try clear hb2); (try clear hk); (try clear hi); obtain ⟨Ao11, co11, eo11⟩ := Kd.S_slice HO394.out; subst eo11))
        go_meet
        case rel => exact ⟨_, (((t389.length : Int) == (t390.length : Int))), (by first | rfl | (simp; done) | (simp [*]; done)), H', ⟨by first | omega | exact Nat.le_refl _⟩, ⟨qR HO392.out⟩, ⟨qS HO394.out⟩, ⟨z0⟩⟩
      · replace c8 := Bool.eq_false_iff.mpr c8
        subst c8
        replace H := iF H
        have H' := Aside0.mk H
        clear H
        obtain ⟨Ao12, co12, eo12⟩ := Kd.R_slice HO392.out
        subst eo12
        go_wp2_with (first | ((with_reducible refine gate_callee (f := 26) rfl ?_); refine gL 18 Tryd.func26 #[.slice Ao12 t389.length co12] ?_; (with_reducible refine (impl_IsFormat.calls k _ _ t389 false _ ?side1 ?side2 A7.out).mono ?_); (case side1 => exact qC (Kd.R_reads' HO392.out).2.2); (case side2 => exact (Kd.R_reads' HO392.out).2.1); rintro e w13 ⟨rfl, hb⟩; refine ⟨_, rfl, ?_⟩; have n0_ := rB HO392.out hb; have n1_ := sB HO394.out hb; have n2_ := bS hb; clear HO392; clear HO394; clear HB; have HO392 := n0_; have HO394 := n1_; have HB := n2_; clear n0_ n1_ n2_; (try clear hb); (try clear hb2); (try clear hk); (try clear hi)))
        go_meet
        case rel => exact ⟨_, (false), (by first | rfl | (simp; done) | (simp [*]; done)), H', ⟨by first | omega | exact Nat.le_refl _⟩, ⟨qR HO392.out⟩, ⟨qS HO394.out⟩, ⟨z0⟩⟩
    case rest =>
      clear HC5
      try clear c2
      try clear p2
      try clear c3
      try clear c7
      try clear c8
      obtain ⟨kq, x5_4, rfl, HA, HJ4, HO_3, HO_4, HB⟩ := hcut
      cases kq with
      | zero => exact absurd HA.out (by simp [laws_FnMessages.j0])
      | succ kj4 =>
        have H := HA.out
        clear HA
        simp only [laws_FnMessages.j0] at H
        have H' := Aside0.mk H
        clear H
        go_wp2
        go_loopg [5, 6, 7] kj4 (fun kq v5 v6 v7 w' => ∃ (x5_2 : Bool) (x6_2 : Int) (x7_2 : Int), v5 = .bool x5_2 ∧ v6 = .int .i64 x6_2 ∧ v7 = .int .i64 x7_2 ∧ Aside0 (laws_FnMessages.l0 kq l0 t389 t390 x5_2 x6_2 x7_2 = some r) ∧ Aside0 (kq ≤ kj4) ∧ Aside0 (Kd.R k49 49 w' w.heap.size (fun _ => True) v391 t389) ∧ Aside0 (Kd.S k52 52 w' w.heap.size (fun _ => True) v393 t390) ∧ Aside0 (Below w.heap.size w w'))
        case atStart => exact ⟨(x5_4), (0), (0), (by first | rfl | (simp; done) | (simp [*]; done)), (by first | rfl | (simp; done) | (simp [*]; done)), (by first | rfl | (simp; done) | (simp [*]; done)), H', ⟨Nat.le_refl _⟩, ⟨qR HO_3.out⟩, ⟨qS HO_4.out⟩, ⟨z0⟩⟩
        case round =>
          clear H'; (try clear c2); (try clear p2); (try clear c3); (try clear c7); (try clear c8); (try clear p2); obtain ⟨x5_2, x6_2, x7_2, rfl, rfl, rfl, HA, HK2, HO_3, HO_4, HB⟩ := hrel; cases gk with
          | zero => exact absurd HA.out (by simp [laws_FnMessages.l0])
          | succ k2 =>
            have H := HA.out; clear HA; simp only [laws_FnMessages.l0] at H; have HC14 := Aside0.mk H; clear H; go_upto_region 7 with (fail); go_cut [32] (fun v32 wc => ∃ (kq : Nat) (x32_13 : Bool), v32 = .bool x32_13 ∧ Aside0 (laws_FnMessages.j2 kq l0 t389 t390 x5_2 x6_2 x7_2 x32_13 = some r) ∧ Aside0 (kq ≤ k2) ∧ Aside0 (Kd.R k49 49 wc w.heap.size (fun _ => True) v391 t389) ∧ Aside0 (Kd.S k52 52 wc w.heap.size (fun _ => True) v393 t390) ∧ Aside0 (Below w.heap.size w wc))
            case first =>
              have H := HC14.out; clear HC14; by_cases c15 : x7_2 < (t389.length : Int)
              · rw [if_pos c15] at H
                have c15b0 : decide (x7_2 < (t389.length : Int)) = true := decide_eq_true c15; clear c15; ((first | rw [c15b0] | (simp only [i64_w, i32_w]; rw [c15b0]) | skip)); have H' := Aside0.mk H; clear H; obtain ⟨Ao16, co16, eo16⟩ := Kd.R_slice HO_3.out; subst eo16; go_wp2; go_meet
                case rel => exact ⟨_, (x5_2), (by first | rfl | (simp; done) | (simp [*]; done)), H', ⟨by have := HJ4.out; have := HK2.out; first | omega | exact Nat.le_refl _⟩, ⟨qR HO_3.out⟩, ⟨qS HO_4.out⟩, ⟨z0⟩⟩
              · rw [if_neg c15] at H
                have c15b0 : decide (x7_2 < (t389.length : Int)) = false := decide_eq_false c15; clear c15; ((first | rw [c15b0] | (simp only [i64_w, i32_w]; rw [c15b0]) | skip)); have H' := Aside0.mk H; clear H; obtain ⟨Ao17, co17, eo17⟩ := Kd.R_slice HO_3.out; subst eo17; go_wp2; go_meet
                case rel => exact ⟨_, (false), (by first | rfl | (simp; done) | (simp [*]; done)), H', ⟨by have := HJ4.out; have := HK2.out; first | omega | exact Nat.le_refl _⟩, ⟨qR HO_3.out⟩, ⟨qS HO_4.out⟩, ⟨z0⟩⟩
            case rest =>
              clear HC14; (try clear c1); (try clear c2); (try clear p2); (try clear c3); (try clear c7); (try clear c8); (try clear c15); (try clear c15b0); (try clear p2); obtain ⟨kq, x32_13, rfl, HA, HJ13, HO_3, HO_4, HB⟩ := hcut; cases kq with
              | zero => exact absurd HA.out (by simp [laws_FnMessages.j2])
              | succ kj13 =>
                have H := HA.out; clear HA; simp only [laws_FnMessages.j2] at H; by_cases c18 : x32_13 = true
                · subst c18
                  replace H := iT H; replace H := bE H; obtain ⟨t396, A19, H⟩ := H; by_cases c20 : t396 = true
                  · subst c20
                    replace H := iT H; by_cases c21 : 0 ≤ x7_2
                    · rw [if_pos c21] at H
                      have c21b0 : decide (0 ≤ x7_2) = true := decide_eq_true c21; clear c21; by_cases c22 : x7_2 < (t389.length : Int)
                      · rw [if_pos c22] at H
                        have c22b0 : decide (x7_2 < (t389.length : Int)) = true := decide_eq_true c22; clear c22; by_cases c23 : x7_2 < (t390.length : Int)
                        · rw [if_pos c23] at H
                          (have c23b0 : decide (x7_2 < (t390.length : Int)) = true := decide_eq_true c23; clear c23; replace H := bE H; obtain ⟨t399, A24, H⟩ := H; have H' := Aside0.mk H; clear H; obtain ⟨Ao25, co25, eo25⟩ := Kd.R_slice HO_3.out; subst eo25; obtain ⟨Ao26, co26, eo26⟩ := Kd.S_slice HO_4.out; subst eo26; (try go_wp2_with (first | ((with_reducible refine gate_callee (f := 27) rfl ?_); refine gL 38 Tryd.func27 #[.slice Ao25 t389.length co25, .slice Ao26 t390.length co26, .int .i64 x7_2] ?_; (with_reducible refine (impl_IsThere.calls _ _ t389 _ _ t390 x7_2 true _ ?side1 ?side2 ?side3 ?side4 A19.out).mono ?_); (case side1 => exact qC (Kd.R_reads' HO_3.out).2.2); (case side2 => exact (Kd.R_reads' HO_3.out).2.1); (case side3 => exact qC (Kd.S_reads' HO_4.out).2.2); (case side4 => exact (Kd.S_reads' HO_4.out).2.1); rintro e w27 ⟨rfl, hb⟩; refine ⟨_, rfl, ?_⟩; have n0_ := rB HO_3.out hb; have n1_ := sB HO_4.out hb; have n2_ := bS hb; clear HO_3; clear HO_4; clear HB; have HO_3 := n0_; have HO_4 := n1_; have HB := n2_; clear n0_ n1_ n2_; (try clear hb); (try clear hb2); (try clear hk); (try clear hi)))); have n0_ := Aside0.mk (Kd.R_drew HO_3.out); have n1_ := Aside0.mk (Kd.S_drew HO_4.out); have n2_ := Aside0.mk (below_drew1 HB.out); clear HO_3; clear HO_4; clear HB; have HO_3 := n0_; have HO_4 := n1_; have HB := n2_; clear n0_ n1_ n2_; (have p397 : 0 ≤ (x7_2 : Int) := of_decide_eq_true (by assumption)); (have q397 : x7_2 < (t389.length : Int) := of_decide_eq_true (by assumption)); obtain ⟨ad397, e397, hx397_0, hx397_1, hx397_2, hx397_3⟩ := at_T49 (Kd.R_reads' HO_3.out).2.2 x7_2 p397 q397; cases e397; replace p397 := eq_true p397; replace q397 := eq_true q397; (have p398 : 0 ≤ (x7_2 : Int) := of_decide_eq_true (by assumption)); (have q398 : x7_2 < (t390.length : Int) := of_decide_eq_true (by assumption)); obtain ⟨ad398, A398_1, c398_1, e398, hx398_0, hx398_1, hl398_1, hi398_1⟩ := at_T52 (Kd.S_reads' HO_4.out).2.2 x7_2 p398 q398; cases e398; (obtain ⟨ce398, hce398, hMe398, hcc398⟩ := Kd.S_get HO_4.out z52 x7_2 p398 (by first | exact q398 | exact of_decide_eq_true (by assumption) | (have e_ := (Kd.S_reads' HO_4.out).1; omega))); obtain ⟨ve398_1, rfl, ge398_1⟩ := k52_openM hMe398; have hv398_1 := hcc398 1 _ rfl; (rw [add_field _ _ 1 (by omega)] at hv398_1); replace hv398_1 := Option.some.inj (hv398_1.symm.trans hx398_1); rw [hv398_1] at ge398_1; have HL398_1 := Aside0.mk (show Kd.R (Kd.int .i64) 3 _ _ _ _ ((rd_T52 t390 x7_2).f1) from ge398_1); clear hv398_1 ge398_1; clear hcc398 hce398; have HR398_1 := Aside0.mk hi398_1; have HC398_1 := Aside0.mk hl398_1; clear hi398_1 hl398_1; replace p398 := eq_true p398; replace q398 := eq_true q398; (refine start_ (n := 10) (S := fun w' => w'.cell? (ad397.add ((x7_2).toNat * 4)) = some (.int .i64 ((rd_T49 t389 x7_2).f0)) ∧ w'.cell? ⟨(ad397.add ((x7_2).toNat * 4)).block, (ad397.add ((x7_2).toNat * 4)).off + 1, none⟩ = some (.int .i64 ((rd_T49 t389 x7_2).f1)) ∧ w'.cell? ⟨(ad397.add ((x7_2).toNat * 4)).block, (ad397.add ((x7_2).toNat * 4)).off + 2, none⟩ = some (.int .i64 ((rd_T49 t389 x7_2).f2)) ∧ w'.cell? ⟨(ad397.add ((x7_2).toNat * 4)).block, (ad397.add ((x7_2).toNat * 4)).off + 3, none⟩ = some (.int .i64 ((rd_T49 t389 x7_2).f3)) ∧ w'.cell? (ad398.add ((x7_2).toNat * 2)) = some (.int .i64 ((rd_T52 t390 x7_2).f0)) ∧ w'.cell? ⟨(ad398.add ((x7_2).toNat * 2)).block, (ad398.add ((x7_2).toNat * 2)).off + 1, none⟩ = some (.slice A398_1 ((rd_T52 t390 x7_2).f1).length c398_1)) (ds := []) m7x10 (by kernel_rfl) rfl rfl ⟨hx397_0, hx397_1, hx397_2, hx397_3, hx398_0, hx398_1⟩ (fun hHeld => ?_); refine with_tabW laws_FnMessages.tab11 laws_FnMessages.bits11 (fun HT_ HW_ => ?_)); generalize w27.drew = w28 at HO_3 HO_4 HB HL398_1 HR398_1 hx397_0 hx397_1 hx397_2 hx397_3 hx398_0 hx398_1 hHeld ⊢; (refine pure_ (i := 0) (N := some 41) (v := ?_) (a' := ?_) m7x9 rfl rfl (any_of HT_.out (by kernel_rfl)) (fun _ _ _ h => h) (Or.inl ⟨by rfl, ?_⟩) ?_ ?_); rotate_left); (· intro w'; go_simp; (with_reducible rfl)); rotate_left; (· simp only [Act.put, sT, sZ, sS, i64_w, i32_w]; rfl); refine pV 1 42 m7x8 ?_; refine pV 2 43 m7x7 ?_; refine pV 4 45 m7x6 ?_; refine pV 5 46 m7x5 ?_; refine pV 6 47 m7x4 ?_; refine tV 3 44 m7x3 ?_; refine tV 7 48 m7x2 ?_; ((refine oN 8 49 m7x1 (fun K hK => ?_)); (refine goes_ Tryd.func28 (by kernel_rfl) rfl #[.agg #[.int .i64 ((rd_T49 t389 x7_2).f0), .int .i64 ((rd_T49 t389 x7_2).f1), .int .i64 ((rd_T49 t389 x7_2).f2), .int .i64 ((rd_T49 t389 x7_2).f3)], .agg #[.int .i64 ((rd_T52 t390 x7_2).f0), .slice A398_1 ((rd_T52 t390 x7_2).f1).length c398_1]] (by rfl) rfl rfl (by (try simp only [List.map_toArray, List.map_cons, List.map_nil]); first | done | rfl | (simp only [List.length_drop, List.length_take]; rfl)) ?_); (with_reducible refine (impl_FitsField.calls kj13 ((rd_T49 t389 x7_2).f0) ((rd_T49 t389 x7_2).f1) ((rd_T49 t389 x7_2).f2) ((rd_T49 t389 x7_2).f3) ((rd_T52 t390 x7_2).f0) _ _ ((rd_T52 t390 x7_2).f1) t399 _ ?side1 ?side2 A24.out).mono ?_); ((case side1 => repeat (first | exact z32 | (with_reducible refine Kd.C_alloc ?_ _) | (with_reducible refine Kd.C_drewN ?_ _) | (with_reducible refine Kd.C_drew ?_)))); (case side2 => exact HC398_1.out); rintro e w29 ⟨rfl, hb⟩; have HS0_ := (hb.cell (World.block_lt_of_cell? _ _ (hHeld.1))).trans (hHeld.1); have HS1_ := (hb.cell (World.block_lt_of_cell? _ _ (hHeld.2.1))).trans (hHeld.2.1); have HS2_ := (hb.cell (World.block_lt_of_cell? _ _ (hHeld.2.2.1))).trans (hHeld.2.2.1); have HS3_ := (hb.cell (World.block_lt_of_cell? _ _ (hHeld.2.2.2.1))).trans (hHeld.2.2.2.1); have HS4_ := (hb.cell (World.block_lt_of_cell? _ _ (hHeld.2.2.2.2.1))).trans (hHeld.2.2.2.2.1); have HS5_ := (hb.cell (World.block_lt_of_cell? _ _ (hHeld.2.2.2.2.2))).trans (hHeld.2.2.2.2.2); refine ⟨_, rfl, ?_⟩; (have n0_ := rB HO_3.out hb); (have n1_ := sB HO_4.out hb); (have n2_ := rB HL398_1.out hb); (have n3_ := Aside0.mk (Kd.C_below z32 hb)); (have n4_ := bS hb); clear HO_3; clear HO_4; clear HL398_1; clear HR398_1; clear HB; have HO_3 := n0_; have HO_4 := n1_; have HL398_1 := n2_; have HR398_1 := n3_; have HB := n4_; clear n0_ n1_ n2_ n3_ n4_; ((try clear hb)); ((try clear hb2)); ((try clear hk)); ((try clear hi)); refine hK.out _ _ ⟨HS0_, HS1_, HS2_, HS3_, HS4_, HS5_⟩ (fun hHeld => ?_); clear hK K; refine norm_ (a' := ?_) ?_ ?_; rotate_left); (· show Act.put _ (some 49) _ = _; simp only [Act.put, sT, sZ, sS, i64_w, i32_w]; rfl); refine pV 9 5 m7x0 ?_; ((refine done_ (done_of HT_.out (by kernel_rfl)) ?_); (try go_wp2); go_roundg kj13)
                          case measure => have := HJ4.out; have := HK2.out; have := HJ13.out; omega
                          case rel => exact ⟨(t399), (wrap64 (x6_2 + 1)), (wrap64 (x7_2 + 1)), (by first | rfl | (simp; done) | (simp [*]; done)), (by first | rfl | (simp; done) | (simp [*]; done)), (by first | rfl | (simp; done) | (simp [*]; done)), H', ⟨by have := HJ4.out; have := HK2.out; have := HJ13.out; omega⟩, ⟨qR HO_3.out⟩, ⟨qS HO_4.out⟩, ⟨z0⟩⟩
                        · rw [if_neg c23] at H; (exact absurd H (by simp))
                      · rw [if_neg c22] at H; (exact absurd H (by simp))
                    · rw [if_neg c21] at H; (exact absurd H (by simp))
                  · replace c20 := Bool.eq_false_iff.mpr c20
                    subst c20; replace H := iF H; by_cases c30 : 0 ≤ x7_2
                    · rw [if_pos c30] at H
                      have c30b0 : decide (0 ≤ x7_2) = true := decide_eq_true c30; clear c30; by_cases c31 : x7_2 < (t390.length : Int)
                      · rw [if_pos c31] at H
                        have c31b0 : decide (x7_2 < (t390.length : Int)) = true := decide_eq_true c31; clear c31; by_cases c32 : ((rd_T52 t390 x7_2).f0) = 0
                        · rw [if_pos c32] at H
                          have c32b0 : (((rd_T52 t390 x7_2).f0) == 0) = true := beq_iff_eq.mpr c32; have c32b1 : (((rd_T52 t390 x7_2).f0) != 0) = false := bne_eq_false_iff_eq.mpr c32; clear c32; have H' := Aside0.mk H; clear H; obtain ⟨Ao33, co33, eo33⟩ := Kd.R_slice HO_3.out; subst eo33; obtain ⟨Ao34, co34, eo34⟩ := Kd.S_slice HO_4.out; subst eo34; (go_wp2_with (first | ((with_reducible refine gate_callee (f := 27) rfl ?_); refine gL 38 Tryd.func27 #[.slice Ao33 t389.length co33, .slice Ao34 t390.length co34, .int .i64 x7_2] ?_; (with_reducible refine (impl_IsThere.calls _ _ t389 _ _ t390 x7_2 false _ ?side1 ?side2 ?side3 ?side4 A19.out).mono ?_); (case side1 => exact qC (Kd.R_reads' HO_3.out).2.2); (case side2 => exact (Kd.R_reads' HO_3.out).2.1); (case side3 => exact qC (Kd.S_reads' HO_4.out).2.2); (case side4 => exact (Kd.S_reads' HO_4.out).2.1); rintro e w35 ⟨rfl, hb⟩; refine ⟨_, rfl, ?_⟩; have n0_ := rB HO_3.out hb; have n1_ := sB HO_4.out hb; have n2_ := bS hb; clear HO_3; clear HO_4; clear HB; have HO_3 := n0_; have HO_4 := n1_; have HB := n2_; clear n0_ n1_ n2_; (try clear hb); (try clear hb2); (try clear hk); (try clear hi); have p400 : 0 ≤ (x7_2 : Int) := of_decide_eq_true (by assumption); have q400 : x7_2 < (t390.length : Int) := of_decide_eq_true (by assumption); obtain ⟨ad400, A400_1, c400_1, e400, hx400_0, hx400_1, hl400_1, hi400_1⟩ := at_T52 (Kd.S_reads' HO_4.out).2.2 x7_2 p400 q400; cases e400; obtain ⟨ce400, hce400, hMe400, hcc400⟩ := Kd.S_get HO_4.out z52 x7_2 p400 (by first | exact q400 | exact of_decide_eq_true (by assumption) | (have e_ := (Kd.S_reads' HO_4.out).1; omega)); obtain ⟨ve400_1, rfl, ge400_1⟩ := k52_openM hMe400; have hv400_1 := hcc400 1 _ rfl; rw [add_field _ _ 1 (by omega)] at hv400_1; replace hv400_1 := Option.some.inj (hv400_1.symm.trans hx400_1); rw [hv400_1] at ge400_1; have HL400_1 := Aside0.mk (show Kd.R (Kd.int .i64) 3 _ _ _ _ ((rd_T52 t390 x7_2).f1) from ge400_1); clear hv400_1 ge400_1; clear hcc400 hce400; have HR400_1 := Aside0.mk hi400_1; have HC400_1 := Aside0.mk hl400_1; clear hi400_1 hl400_1; replace p400 := eq_true p400; replace q400 := eq_true q400; have p401 : 0 ≤ (x7_2 : Int) := of_decide_eq_true (by assumption); have q401 : x7_2 < (t390.length : Int) := of_decide_eq_true (by assumption); obtain ⟨ad401, A401_1, c401_1, e401, hx401_0, hx401_1, hl401_1, hi401_1⟩ := at_T52 (Kd.S_reads' HO_4.out).2.2 x7_2 p401 q401; obtain rfl : ad400 = ad401 := (by injection e401); obtain ⟨ce401, hce401, hMe401, hcc401⟩ := Kd.S_get HO_4.out z52 x7_2 p401 (by first | exact q401 | exact of_decide_eq_true (by assumption) | (have e_ := (Kd.S_reads' HO_4.out).1; omega)); obtain ⟨ve401_1, rfl, ge401_1⟩ := k52_openM hMe401; have hv401_1 := hcc401 1 _ rfl; rw [add_field _ _ 1 (by omega)] at hv401_1; replace hv401_1 := Option.some.inj (hv401_1.symm.trans hx401_1); rw [hv401_1] at ge401_1; have HL401_1 := Aside0.mk (show Kd.R (Kd.int .i64) 3 _ _ _ _ ((rd_T52 t390 x7_2).f1) from ge401_1); clear hv401_1 ge401_1; clear hcc401 hce401; have HR401_1 := Aside0.mk hi401_1; have HC401_1 := Aside0.mk hl401_1; clear hi401_1 hl401_1; replace p401 := eq_true p401; replace q401 := eq_true q401; have ea_ := Option.some.inj (hx400_1.symm.trans hx401_1); injection ea_ with ea_ en_ ec_; subst ea_; subst ec_; clear en_))); go_roundg kj13
                          case measure => have := HJ4.out; have := HK2.out; have := HJ13.out; omega
                          case rel => exact ⟨(((((rd_T52 t390 x7_2).f1).length : Int) == 0)), (x6_2), (wrap64 (x7_2 + 1)), (by first | rfl | (simp; done) | (simp [*]; done)), (by first | rfl | (simp; done) | (simp [*]; done)), (by first | rfl | (simp; done) | (simp [*]; done)), H', ⟨by have := HJ4.out; have := HK2.out; have := HJ13.out; omega⟩, ⟨qR HO_3.out⟩, ⟨qS HO_4.out⟩, ⟨z0⟩⟩
                        · rw [if_neg c32] at H
                          have c32b0 : (((rd_T52 t390 x7_2).f0) == 0) = false := beq_eq_false_iff_ne.mpr c32; have c32b1 : (((rd_T52 t390 x7_2).f0) != 0) = true := bne_iff_ne.mpr c32; have H' := Aside0.mk H; clear H; obtain ⟨Ao36, co36, eo36⟩ := Kd.R_slice HO_3.out; subst eo36; obtain ⟨Ao37, co37, eo37⟩ := Kd.S_slice HO_4.out; subst eo37; (go_wp2_with (first | ((with_reducible refine gate_callee (f := 27) rfl ?_); refine gL 38 Tryd.func27 #[.slice Ao36 t389.length co36, .slice Ao37 t390.length co37, .int .i64 x7_2] ?_; (with_reducible refine (impl_IsThere.calls _ _ t389 _ _ t390 x7_2 false _ ?side1 ?side2 ?side3 ?side4 A19.out).mono ?_); (case side1 => exact qC (Kd.R_reads' HO_3.out).2.2); (case side2 => exact (Kd.R_reads' HO_3.out).2.1); (case side3 => exact qC (Kd.S_reads' HO_4.out).2.2); (case side4 => exact (Kd.S_reads' HO_4.out).2.1); rintro e w38 ⟨rfl, hb⟩; refine ⟨_, rfl, ?_⟩; have n0_ := rB HO_3.out hb; have n1_ := sB HO_4.out hb; have n2_ := bS hb; clear HO_3; clear HO_4; clear HB; have HO_3 := n0_; have HO_4 := n1_; have HB := n2_; clear n0_ n1_ n2_; (try clear hb); (try clear hb2); (try clear hk); (try clear hi); have p400 : 0 ≤ (x7_2 : Int) := of_decide_eq_true (by assumption); have q400 : x7_2 < (t390.length : Int) := of_decide_eq_true (by assumption); obtain ⟨ad400, A400_1, c400_1, e400, hx400_0, hx400_1, hl400_1, hi400_1⟩ := at_T52 (Kd.S_reads' HO_4.out).2.2 x7_2 p400 q400; cases e400; obtain ⟨ce400, hce400, hMe400, hcc400⟩ := Kd.S_get HO_4.out z52 x7_2 p400 (by first | exact q400 | exact of_decide_eq_true (by assumption) | (have e_ := (Kd.S_reads' HO_4.out).1; omega)); obtain ⟨ve400_1, rfl, ge400_1⟩ := k52_openM hMe400; have hv400_1 := hcc400 1 _ rfl; rw [add_field _ _ 1 (by omega)] at hv400_1; replace hv400_1 := Option.some.inj (hv400_1.symm.trans hx400_1); rw [hv400_1] at ge400_1; have HL400_1 := Aside0.mk (show Kd.R (Kd.int .i64) 3 _ _ _ _ ((rd_T52 t390 x7_2).f1) from ge400_1); clear hv400_1 ge400_1; clear hcc400 hce400; have HR400_1 := Aside0.mk hi400_1; have HC400_1 := Aside0.mk hl400_1; clear hi400_1 hl400_1; replace p400 := eq_true p400; replace q400 := eq_true q400))); go_roundg kj13
                          case measure => have := HJ4.out; have := HK2.out; have := HJ13.out; omega
                          case rel => exact ⟨(false), (x6_2), (wrap64 (x7_2 + 1)), (by first | rfl | (simp; done) | (simp [*]; done)), (by first | rfl | (simp; done) | (simp [*]; done)), (by first | rfl | (simp; done) | (simp [*]; done)), H', ⟨by have := HJ4.out; have := HK2.out; have := HJ13.out; omega⟩, ⟨qR HO_3.out⟩, ⟨qS HO_4.out⟩, ⟨z0⟩⟩
                      · rw [if_neg c31] at H; (exact absurd H (by simp))
                    · rw [if_neg c30] at H; (exact absurd H (by simp))
                · replace c18 := Bool.eq_false_iff.mpr c18
                  subst c18; replace H := iF H; have HC39 := Aside0.mk H; clear H; go_upto_region 13 with (fail); go_cut [79] (fun v79 wc => ∃ (kq : Nat) (x79_38 : Bool), v79 = .bool x79_38 ∧ Aside0 (laws_FnMessages.j3 kq l0 t390 x79_38 = some r) ∧ Aside0 (kq ≤ kj13) ∧ Aside0 (Kd.S k52 52 wc w.heap.size (fun _ => True) v393 t390) ∧ Aside0 (Below w.heap.size w wc))
                  case first =>
                    have H := HC39.out; clear HC39; replace H := bE H; obtain ⟨t402, A40, H⟩ := H; by_cases c41 : (x5_2 != t402) = true
                    · rw [if_pos c41] at H
                      have c41b0 : (x5_2 != t402) = true := c41; ((try (have c41b1 : decide (x5_2 = t402) = false := by simpa using c41))); ((try (have c41b2 : (x5_2 == t402) = false := by simpa using c41))); ((try (have c41b3 : ¬ (x5_2 = t402) := by simpa using c41))); clear c41; ((first | rw [c41b0] | (simp only [i64_w, i32_w]; rw [c41b0]) | skip)); have H' := Aside0.mk H; clear H; obtain ⟨Ao42, co42, eo42⟩ := Kd.R_slice HO_3.out; subst eo42; obtain ⟨Ao43, co43, eo43⟩ := Kd.S_slice HO_4.out; subst eo43; (go_wp2_with (first | ((with_reducible refine gate_callee (f := 29) rfl ?_); refine gL 68 Tryd.func29 #[.slice Ao42 t389.length co42, .slice Ao43 t390.length co43] ?_; (with_reducible refine (impl_FitsFormat.calls kj13 _ _ t389 _ _ t390 t402 _ ?side1 ?side2 ?side3 ?side4 A40.out).mono ?_); (case side1 => exact qC (Kd.R_reads' HO_3.out).2.2); (case side2 => exact (Kd.R_reads' HO_3.out).2.1); (case side3 => exact qC (Kd.S_reads' HO_4.out).2.2); (case side4 => exact (Kd.S_reads' HO_4.out).2.1); rintro e w44 ⟨rfl, hb⟩; refine ⟨_, rfl, ?_⟩; have n0_ := rB HO_3.out hb; have n1_ := sB HO_4.out hb; have n2_ := bS hb; clear HO_3; clear HO_4; clear HB; have HO_3 := n0_; have HO_4 := n1_; have HB := n2_; clear n0_ n1_ n2_; (try clear hb); (try clear hb2); (try clear hk); (try clear hi)))); go_meet
                      case rel => exact ⟨_, (true), (by first | rfl | (simp; done) | (simp [*]; done)), H', ⟨by have := HJ4.out; have := HK2.out; have := HJ13.out; first | omega | exact Nat.le_refl _⟩, ⟨qS HO_4.out⟩, ⟨z0⟩⟩
                    · rw [if_neg c41] at H
                      (have c41b0 : (x5_2 != t402) = false := by simpa using c41); ((try (have c41b1 : decide (x5_2 = t402) = true := by simpa using c41))); ((try (have c41b2 : (x5_2 == t402) = true := by simpa using c41))); clear c41; ((first | rw [c41b0] | (simp only [i64_w, i32_w]; rw [c41b0]) | skip)); by_cases c45 : x5_2 = true
                      · subst c45
                        replace H := iT H; replace H := bE H; obtain ⟨t403, A46, H⟩ := H; have H' := Aside0.mk H; clear H; obtain ⟨Ao47, co47, eo47⟩ := Kd.R_slice HO_3.out; subst eo47; obtain ⟨Ao48, co48, eo48⟩ := Kd.S_slice HO_4.out; subst eo48; (go_wp2_with (first | ((with_reducible refine gate_callee (f := 29) rfl ?_); refine gL 68 Tryd.func29 #[.slice Ao47 t389.length co47, .slice Ao48 t390.length co48] ?_; (with_reducible refine (impl_FitsFormat.calls kj13 _ _ t389 _ _ t390 t402 _ ?side1 ?side2 ?side3 ?side4 A40.out).mono ?_); (case side1 => exact qC (Kd.R_reads' HO_3.out).2.2); (case side2 => exact (Kd.R_reads' HO_3.out).2.1); (case side3 => exact qC (Kd.S_reads' HO_4.out).2.2); (case side4 => exact (Kd.S_reads' HO_4.out).2.1); rintro e w49 ⟨rfl, hb⟩; refine ⟨_, rfl, ?_⟩; have n0_ := rB HO_3.out hb; have n1_ := sB HO_4.out hb; have n2_ := bS hb; clear HO_3; clear HO_4; clear HB; have HO_3 := n0_; have HO_4 := n1_; have HB := n2_; clear n0_ n1_ n2_; (try clear hb); (try clear hb2); (try clear hk); (try clear hi)) | (go_at_call 30; (with_reducible refine (impl_ThereCount.calls kj13 _ _ t389 _ _ t390 t403 _ ?side1 ?side2 ?side3 ?side4 A46.out).mono ?_); (case side1 => exact qC (Kd.R_reads' HO_3.out).2.2); (case side2 => exact (Kd.R_reads' HO_3.out).2.1); (case side3 => exact qC (Kd.S_reads' HO_4.out).2.2); (case side4 => exact (Kd.S_reads' HO_4.out).2.1); rintro e w50 ⟨rfl, hb⟩; have n0_ := rB HO_3.out hb; have n1_ := sB HO_4.out hb; have n2_ := bS hb; clear HO_3; clear HO_4; clear HB; have HO_3 := n0_; have HO_4 := n1_; have HB := n2_; clear n0_ n1_ n2_; (try clear hb); (try clear hb2); (try clear hk); (try clear hi)))); go_meet
                        case rel => exact ⟨_, ((x6_2 != t403)), (by first | rfl | (simp; done) | (simp [*]; done)), H', ⟨by have := HJ4.out; have := HK2.out; have := HJ13.out; first | omega | exact Nat.le_refl _⟩, ⟨qS HO_4.out⟩, ⟨z0⟩⟩
                      · replace c45 := Bool.eq_false_iff.mpr c45
                        subst c45; replace H := iF H; have H' := Aside0.mk H; clear H; obtain ⟨Ao51, co51, eo51⟩ := Kd.R_slice HO_3.out; subst eo51; obtain ⟨Ao52, co52, eo52⟩ := Kd.S_slice HO_4.out; subst eo52; (go_wp2_with (first | ((with_reducible refine gate_callee (f := 29) rfl ?_); refine gL 68 Tryd.func29 #[.slice Ao51 t389.length co51, .slice Ao52 t390.length co52] ?_; (with_reducible refine (impl_FitsFormat.calls kj13 _ _ t389 _ _ t390 t402 _ ?side1 ?side2 ?side3 ?side4 A40.out).mono ?_); (case side1 => exact qC (Kd.R_reads' HO_3.out).2.2); (case side2 => exact (Kd.R_reads' HO_3.out).2.1); (case side3 => exact qC (Kd.S_reads' HO_4.out).2.2); (case side4 => exact (Kd.S_reads' HO_4.out).2.1); rintro e w53 ⟨rfl, hb⟩; refine ⟨_, rfl, ?_⟩; have n0_ := rB HO_3.out hb; have n1_ := sB HO_4.out hb; have n2_ := bS hb; clear HO_3; clear HO_4; clear HB; have HO_3 := n0_; have HO_4 := n1_; have HB := n2_; clear n0_ n1_ n2_; (try clear hb); (try clear hb2); (try clear hk); (try clear hi)))); go_meet
                        case rel => exact ⟨_, (false), (by first | rfl | (simp; done) | (simp [*]; done)), H', ⟨by have := HJ4.out; have := HK2.out; have := HJ13.out; first | omega | exact Nat.le_refl _⟩, ⟨qS HO_4.out⟩, ⟨z0⟩⟩
                  case rest =>
                    clear HC39; (try clear c1); (try clear c2); (try clear p2); (try clear c3); (try clear p3); (try clear q3); (try clear hx3); (try clear c4); (try clear p4); (try clear q4); (try clear hx4); (try clear p6); (try clear c7); (try clear c8); (try clear c15); (try clear c15b0); (try clear c18); (try clear c20); (try clear c21); (try clear c21b0); (try clear c22); (try clear c22b0); (try clear c23); (try clear c23b0); (try clear c24); (try clear c25); (try clear c26); (try clear c27); (try clear c28); (try clear c29); (try clear c30); (try clear c30b0); (try clear c31); (try clear c31b0); (try clear c32); (try clear c32b0); (try clear c32b1); (try clear c39); (try clear p39); (try clear q39); (try clear hx39); (try clear c40); (try clear p40); (try clear q40); (try clear hx40); (try clear c41); (try clear c41b0); (try clear c41b1); (try clear c41b2); (try clear c45); (try clear hx397_0); (try clear hx397_1); (try clear hx397_2); (try clear hx397_3); (try clear hx398_0); (try clear hx398_1); (try clear hx400_0); (try clear hx400_1); (try clear hx401_0); (try clear hx401_1); (try clear p2); (try clear p397); (try clear p398); (try clear p400); (try clear p401); (try clear q397); (try clear q398); (try clear q400); (try clear q401); obtain ⟨kq, x79_38, rfl, HA, HJ38, HO_4, HB⟩ := hcut; cases kq with
                    | zero => exact absurd HA.out (by simp [laws_FnMessages.j3])
                    | succ kj38 =>
                      have H := HA.out; clear HA; simp only [laws_FnMessages.j3] at H; by_cases c54 : x79_38 = true; (· subst c54; replace H := iT H; obtain rfl := Option.some.inj H; go_wp2; go_ret; (exact ⟨by first | rfl | (simp [errW_none, errW_some] <;> rfl) | (simp [*, errW_none, errW_some] <;> rfl), z0⟩))
                      · replace c54 := Bool.eq_false_iff.mpr c54
                        subst c54; replace H := iF H; replace H := bE H; obtain ⟨⟨t404, t405⟩, A55, H⟩ := H; replace H : ((impl_EqualMessages.f kj38 t404 t405).bind fun t410 => ((impl_EqualMessages.f kj38 t405 t404).bind fun t411 => (if (t410 == t411) = true then ((impl_EqualMessages.f kj38 t404 t404).bind fun t412 => (if t412 = true then ((impl_MessageText.f kj38 t390).bind fun t413 => (some ((decide ((t390.length : Int) > 0)) == (t413.toList != ([45] : List UInt8))))) else (some false))) else (some false)))) = some r := H; replace H := bE H; obtain ⟨t410, A56, H⟩ := H; replace H := bE H; obtain ⟨t411, A57, H⟩ := H; by_cases c58 : (t410 == t411) = true
                        · rw [if_pos c58] at H
                          (have c58b0 : (t410 == t411) = true := c58; ((try (have c58b1 : decide (t410 = t411) = true := by simpa using c58))); ((try (have c58b2 : (t410 == t411) = true := by simpa using c58))); clear c58; replace H := bE H; obtain ⟨t412, A59, H⟩ := H; by_cases c60 : t412 = true); (· subst c60; replace H := iT H; replace H := bE H; obtain ⟨t413, A61, H⟩ := H; obtain rfl := Option.some.inj H; (go_wp2_with (first | ((with_reducible refine gate_callee (f := 31) rfl ?_); refine gL 82 Tryd.func31 #[.slice A0 l0.length c0] ?_; (with_reducible refine (spec_DrawEqualMessages.calls kj38 _ _ l0 t404 t405 _ ?side1 ?side2 A55.out).mono ?_); (case side1 => exact kC HR0.out); (case side2 => exact HC0.out); rintro e w62 ⟨v406, v408, rfl, ho0, ho1, hb⟩; refine ⟨_, rfl, ?_⟩; have n0_ := Aside0.mk (Kd.S_mono (Kd.S_told (Kd.S_told (Kd.S_old (qS HO_4.out) hb) (Kd.S_base ho0)) (Kd.S_base ho1)) (fun _ h_ => h_.1)); have n1_ := Aside0.mk (Kd.S_lower (Kd.S_new' ho0 (Kd.S_lt (qS HO_4.out))) (below_size z0)); have n2_ := Aside0.mk (Kd.S_lower (Kd.S_new' ho1 (Kd.S_lt (qS HO_4.out))) (below_size z0)); have n3_ := bS hb; clear HO_4; clear HB; have HO_4 := n0_; have HO407 := n1_; have HO409 := n2_; have HB := n3_; clear n0_ n1_ n2_ n3_; (try clear hb); (try clear hb2); (try clear hk); (try clear hi); (try clear ho0); (try clear ho1); obtain ⟨Ao63, co63, eo63⟩ := Kd.S_slice HO407.out; subst eo63; obtain ⟨Ao64, co64, eo64⟩ := Kd.S_slice HO409.out; subst eo64) | ((with_reducible refine gate_callee (f := 32) rfl ?_); refine gL 87 Tryd.func32 #[.slice Ao63 t404.length co63, .slice Ao64 t405.length co64] ?_; (with_reducible refine (impl_EqualMessages.calls kj38 _ _ t404 _ _ t405 t410 _ ?side1 ?side2 ?side3 ?side4 A56.out).mono ?_); (case side1 => exact qC (Kd.S_reads' HO407.out).2.2); (case side2 => exact (Kd.S_reads' HO407.out).2.1); (case side3 => exact qC (Kd.S_reads' HO409.out).2.2); (case side4 => exact (Kd.S_reads' HO409.out).2.1); rintro e w65 ⟨rfl, hb⟩; refine ⟨_, rfl, ?_⟩; have n0_ := sB HO_4.out hb; have n1_ := sB HO407.out hb; have n2_ := sB HO409.out hb; have n3_ := bS hb; clear HO_4; clear HO407; clear HO409; clear HB; have HO_4 := n0_; have HO407 := n1_; have HO409 := n2_; have HB := n3_; clear n0_ n1_ n2_ n3_; (try clear hb); (try clear hb2); (try clear hk); (try clear hi)) | ((with_reducible refine gate_callee (f := 32) rfl ?_); refine gL 90 Tryd.func32 #[.slice Ao64 t405.length co64, .slice Ao63 t404.length co63] ?_; (with_reducible refine (impl_EqualMessages.calls kj38 _ _ t405 _ _ t404 t411 _ ?side1 ?side2 ?side3 ?side4 A57.out).mono ?_); (case side1 => exact qC (Kd.S_reads' HO409.out).2.2); (case side2 => exact (Kd.S_reads' HO409.out).2.1); (case side3 => exact qC (Kd.S_reads' HO407.out).2.2); (case side4 => exact (Kd.S_reads' HO407.out).2.1); rintro e w66 ⟨rfl, hb⟩; refine ⟨_, rfl, ?_⟩; have n0_ := sB HO_4.out hb; have n1_ := sB HO407.out hb; have n2_ := sB HO409.out hb; have n3_ := bS hb; clear HO_4; clear HO407; clear HO409; clear HB; have HO_4 := n0_; have HO407 := n1_; have HO409 := n2_; have HB := n3_; clear n0_ n1_ n2_ n3_; (try clear hb); (try clear hb2); (try clear hk); (try clear hi)) | (go_at_call 32; (with_reducible refine (impl_EqualMessages.calls kj38 _ _ t404 _ _ t404 true _ ?side1 ?side2 ?side3 ?side4 A59.out).mono ?_); (case side1 => exact qC (Kd.S_reads' HO407.out).2.2); (case side2 => exact (Kd.S_reads' HO407.out).2.1); (case side3 => exact qC (Kd.S_reads' HO407.out).2.2); (case side4 => exact (Kd.S_reads' HO407.out).2.1); rintro e w67 ⟨rfl, hb⟩; have n0_ := sB HO_4.out hb; have n1_ := sB HO407.out hb; have n2_ := sB HO409.out hb; have n3_ := bS hb; clear HO_4; clear HO407; clear HO409; clear HB; have HO_4 := n0_; have HO407 := n1_; have HO409 := n2_; have HB := n3_; clear n0_ n1_ n2_ n3_; (try clear hb); (try clear hb2); (try clear hk); (try clear hi); obtain ⟨Ao68, co68, eo68⟩ := Kd.S_slice HO_4.out; subst eo68) | (go_at_call 15; (with_reducible refine (impl_MessageText.calls kj38 _ _ t390 t413 _ ?side1 ?side2 A61.out (HL.out.stays z0)).mono ?_); (case side1 => exact qC (Kd.S_reads' HO_4.out).2.2); (case side2 => exact (Kd.S_reads' HO_4.out).2.1); rintro e w69 ⟨rfl, hb⟩; have n0_ := sB HO_4.out hb; have n1_ := sB HO407.out hb; have n2_ := sB HO409.out hb; have n3_ := bS hb; clear HO_4; clear HO407; clear HO409; clear HB; have HO_4 := n0_; have HO407 := n1_; have HO409 := n2_; have HB := n3_; clear n0_ n1_ n2_ n3_; (try clear hb); (try clear hb2); (try clear hk); (try clear hi)))); go_ret; (exact ⟨by first | rfl | (simp [errW_none, errW_some] <;> rfl) | (simp [*, errW_none, errW_some] <;> rfl), z0⟩)); (· replace c60 := Bool.eq_false_iff.mpr c60; subst c60; replace H := iF H; obtain rfl := Option.some.inj H; (go_wp2_with (first | ((with_reducible refine gate_callee (f := 31) rfl ?_); refine gL 82 Tryd.func31 #[.slice A0 l0.length c0] ?_; (with_reducible refine (spec_DrawEqualMessages.calls kj38 _ _ l0 t404 t405 _ ?side1 ?side2 A55.out).mono ?_); (case side1 => exact kC HR0.out); (case side2 => exact HC0.out); rintro e w70 ⟨v406, v408, rfl, ho0, ho1, hb⟩; refine ⟨_, rfl, ?_⟩; have n0_ := Aside0.mk (Kd.S_mono (Kd.S_told (Kd.S_told (Kd.S_old (qS HO_4.out) hb) (Kd.S_base ho0)) (Kd.S_base ho1)) (fun _ h_ => h_.1)); have n1_ := Aside0.mk (Kd.S_lower (Kd.S_new' ho0 (Kd.S_lt (qS HO_4.out))) (below_size z0)); have n2_ := Aside0.mk (Kd.S_lower (Kd.S_new' ho1 (Kd.S_lt (qS HO_4.out))) (below_size z0)); have n3_ := bS hb; clear HO_4; clear HB; have HO_4 := n0_; have HO407 := n1_; have HO409 := n2_; have HB := n3_; clear n0_ n1_ n2_ n3_; (try clear hb); (try clear hb2); (try clear hk); (try clear hi); (try clear ho0); (try clear ho1); obtain ⟨Ao71, co71, eo71⟩ := Kd.S_slice HO407.out; subst eo71; obtain ⟨Ao72, co72, eo72⟩ := Kd.S_slice HO409.out; subst eo72) | ((with_reducible refine gate_callee (f := 32) rfl ?_); refine gL 87 Tryd.func32 #[.slice Ao71 t404.length co71, .slice Ao72 t405.length co72] ?_; (with_reducible refine (impl_EqualMessages.calls kj38 _ _ t404 _ _ t405 t410 _ ?side1 ?side2 ?side3 ?side4 A56.out).mono ?_); (case side1 => exact qC (Kd.S_reads' HO407.out).2.2); (case side2 => exact (Kd.S_reads' HO407.out).2.1); (case side3 => exact qC (Kd.S_reads' HO409.out).2.2); (case side4 => exact (Kd.S_reads' HO409.out).2.1); rintro e w73 ⟨rfl, hb⟩; refine ⟨_, rfl, ?_⟩; have n0_ := sB HO_4.out hb; have n1_ := sB HO407.out hb; have n2_ := sB HO409.out hb; have n3_ := bS hb; clear HO_4; clear HO407; clear HO409; clear HB; have HO_4 := n0_; have HO407 := n1_; have HO409 := n2_; have HB := n3_; clear n0_ n1_ n2_ n3_; (try clear hb); (try clear hb2); (try clear hk); (try clear hi)) | ((with_reducible refine gate_callee (f := 32) rfl ?_); refine gL 90 Tryd.func32 #[.slice Ao72 t405.length co72, .slice Ao71 t404.length co71] ?_; (with_reducible refine (impl_EqualMessages.calls kj38 _ _ t405 _ _ t404 t411 _ ?side1 ?side2 ?side3 ?side4 A57.out).mono ?_); (case side1 => exact qC (Kd.S_reads' HO409.out).2.2); (case side2 => exact (Kd.S_reads' HO409.out).2.1); (case side3 => exact qC (Kd.S_reads' HO407.out).2.2); (case side4 => exact (Kd.S_reads' HO407.out).2.1); rintro e w74 ⟨rfl, hb⟩; refine ⟨_, rfl, ?_⟩; have n0_ := sB HO_4.out hb; have n1_ := sB HO407.out hb; have n2_ := sB HO409.out hb; have n3_ := bS hb; clear HO_4; clear HO407; clear HO409; clear HB; have HO_4 := n0_; have HO407 := n1_; have HO409 := n2_; have HB := n3_; clear n0_ n1_ n2_ n3_; (try clear hb); (try clear hb2); (try clear hk); (try clear hi)) | (go_at_call 32; (with_reducible refine (impl_EqualMessages.calls kj38 _ _ t404 _ _ t404 false _ ?side1 ?side2 ?side3 ?side4 A59.out).mono ?_); (case side1 => exact qC (Kd.S_reads' HO407.out).2.2); (case side2 => exact (Kd.S_reads' HO407.out).2.1); (case side3 => exact qC (Kd.S_reads' HO407.out).2.2); (case side4 => exact (Kd.S_reads' HO407.out).2.1); rintro e w75 ⟨rfl, hb⟩; have n0_ := sB HO_4.out hb; have n1_ := sB HO407.out hb; have n2_ := sB HO409.out hb; have n3_ := bS hb; clear HO_4; clear HO407; clear HO409; clear HB; have HO_4 := n0_; have HO407 := n1_; have HO409 := n2_; have HB := n3_; clear n0_ n1_ n2_ n3_; (try clear hb); (try clear hb2); (try clear hk); (try clear hi)))); go_ret; (exact ⟨by first | rfl | (simp [errW_none, errW_some] <;> rfl) | (simp [*, errW_none, errW_some] <;> rfl), z0⟩))
                        · rw [if_neg c58] at H; (have c58b0 : (t410 == t411) = false := by simpa using c58); ((try (have c58b1 : decide (t410 = t411) = false := by simpa using c58))); ((try (have c58b2 : (t410 == t411) = false := by simpa using c58))); ((try (have c58b3 : ¬ (t410 = t411) := by simpa using c58))); clear c58; obtain rfl := Option.some.inj H; (go_wp2_with (first | ((with_reducible refine gate_callee (f := 31) rfl ?_); refine gL 82 Tryd.func31 #[.slice A0 l0.length c0] ?_; (with_reducible refine (spec_DrawEqualMessages.calls kj38 _ _ l0 t404 t405 _ ?side1 ?side2 A55.out).mono ?_); (case side1 => exact kC HR0.out); (case side2 => exact HC0.out); rintro e w76 ⟨v406, v408, rfl, ho0, ho1, hb⟩; refine ⟨_, rfl, ?_⟩; have n0_ := Aside0.mk (Kd.S_mono (Kd.S_told (Kd.S_told (Kd.S_old (qS HO_4.out) hb) (Kd.S_base ho0)) (Kd.S_base ho1)) (fun _ h_ => h_.1)); have n1_ := Aside0.mk (Kd.S_lower (Kd.S_new' ho0 (Kd.S_lt (qS HO_4.out))) (below_size z0)); have n2_ := Aside0.mk (Kd.S_lower (Kd.S_new' ho1 (Kd.S_lt (qS HO_4.out))) (below_size z0)); have n3_ := bS hb; clear HO_4; clear HB; have HO_4 := n0_; have HO407 := n1_; have HO409 := n2_; have HB := n3_; clear n0_ n1_ n2_ n3_; (try clear hb); (try clear hb2); (try clear hk); (try clear hi); (try clear ho0); (try clear ho1); obtain ⟨Ao77, co77, eo77⟩ := Kd.S_slice HO407.out; subst eo77; obtain ⟨Ao78, co78, eo78⟩ := Kd.S_slice HO409.out; subst eo78) | ((with_reducible refine gate_callee (f := 32) rfl ?_); refine gL 87 Tryd.func32 #[.slice Ao77 t404.length co77, .slice Ao78 t405.length co78] ?_; (with_reducible refine (impl_EqualMessages.calls kj38 _ _ t404 _ _ t405 t410 _ ?side1 ?side2 ?side3 ?side4 A56.out).mono ?_); (case side1 => exact qC (Kd.S_reads' HO407.out).2.2); (case side2 => exact (Kd.S_reads' HO407.out).2.1); (case side3 => exact qC (Kd.S_reads' HO409.out).2.2); (case side4 => exact (Kd.S_reads' HO409.out).2.1); rintro e w79 ⟨rfl, hb⟩; refine ⟨_, rfl, ?_⟩; have n0_ := sB HO_4.out hb; have n1_ := sB HO407.out hb; have n2_ := sB HO409.out hb; have n3_ := bS hb; clear HO_4; clear HO407; clear HO409; clear HB; have HO_4 := n0_; have HO407 := n1_; have HO409 := n2_; have HB := n3_; clear n0_ n1_ n2_ n3_; (try clear hb); (try clear hb2); (try clear hk); (try clear hi)) | ((with_reducible refine gate_callee (f := 32) rfl ?_); refine gL 90 Tryd.func32 #[.slice Ao78 t405.length co78, .slice Ao77 t404.length co77] ?_; (with_reducible refine (impl_EqualMessages.calls kj38 _ _ t405 _ _ t404 t411 _ ?side1 ?side2 ?side3 ?side4 A57.out).mono ?_); (case side1 => exact qC (Kd.S_reads' HO409.out).2.2); (case side2 => exact (Kd.S_reads' HO409.out).2.1); (case side3 => exact qC (Kd.S_reads' HO407.out).2.2); (case side4 => exact (Kd.S_reads' HO407.out).2.1); rintro e w80 ⟨rfl, hb⟩; refine ⟨_, rfl, ?_⟩; have n0_ := sB HO_4.out hb; have n1_ := sB HO407.out hb; have n2_ := sB HO409.out hb; have n3_ := bS hb; clear HO_4; clear HO407; clear HO409; clear HB; have HO_4 := n0_; have HO407 := n1_; have HO409 := n2_; have HB := n3_; clear n0_ n1_ n2_ n3_; (try clear hb); (try clear hb2); (try clear hk); (try clear hi)))); go_ret; (exact ⟨by first | rfl | (simp [errW_none, errW_some] <;> rfl) | (simp [*, errW_none, errW_some] <;> rfl), z0⟩)

/-- THE ONE PURE STATEMENT of laws_FnMessages: yours. -/
def laws_FnMessages.Pure : Prop := ∀ (l0 : List Int), l0.length ≤ maxLen → l0.length * 1 ≤ 140737488351232 → (∀ x ∈ l0, (Lit.int .u8 x).wf = true) → ∃ k, laws_FnMessages.f k l0 = some true
theorem laws_FnMessages.walk (P : laws_FnMessages.Pure) (a0 : Option Addr) (len0 cap0 : Nat) (z0 : List Int) (w : World) (w0 : (a0 = none ∧ len0 = 0 ∧ cap0 = 0 ∧ z0 = []) ∨ ∃ x, a0 = some x ∧ len0 ≤ cap0 ∧ cap0 ≤ maxLen ∧ z0.length = cap0 ∧ (∀ i, i < z0.length → w.cell? (x.add i) = some (.int .u8 (z0.getD i 0))) ∧ ∀ n ∈ z0, (Lit.int .u8 n).wf = true) (y0 : len0 * 1 ≤ 140737488351232) (hL : Tryd.LaidT w) :
    Calls Tryd.prog 7 #[.slice a0 len0 cap0] w fun e w' => e = .returned (.bool true) ∧ Below w.heap.size w w' := by
  obtain ⟨l0, rfl, hr0, hm0, hw0, hc0⟩ := ReadsInt.ofRowC w0
  obtain ⟨k, h⟩ := P l0 hm0 y0 hw0
  refine (laws_FnMessages.calls k _ _ l0 true w (Kd.C_of_reads (d := (0 : Int)) (h1 := fun _ => rfl) hr0) hc0 h hL).mono ?_
  rintro e w' ⟨rfl, hd⟩
  exact ⟨rfl, hd⟩

end Go.Proofs.YtofgihojpggecaaDoor.QFnMessages
