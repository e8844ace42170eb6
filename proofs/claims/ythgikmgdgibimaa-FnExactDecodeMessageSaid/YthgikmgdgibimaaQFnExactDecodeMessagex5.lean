/- Each Go function that the law reaches, told as a plain Lean function, and the proof that the machine's call answers just that. No condition beyond those that each theorem names. -/
import Derived.Test.YthgikmgdgibimaaQFnExactDecodeMessagex0
import Derived.Test.YthgikmgdgibimaaQFnExactDecodeMessagex2
import Derived.Test.YthgikmgdgibimaaQFnExactDecodeMessagex3
import Derived.Test.YthgikmgdgibimaaQFnExactDecodeMessagex4
namespace Go.Proofs.Ythgikmgdgibimaa.QFnExactDecodeMessage
open Go.RowKit Go.Proofs.YthgikmgdgibimaaW.PrintWords Go.Proofs.YthgikmgdgibimaaW.PrintLast Go.Proofs.YthgikmgdgibimaaW.PrintMore
attribute [local go_sem] max2_int min2_int max_two min_two max_three min_three max_four min_four   -- for this text's walks alone
set_option linter.unusedVariables false
set_option linter.unusedSimpArgs false

/-! ### spec_DecodeMessage: function 46 -/
def spec_DecodeMessage.f (k : Nat) (l0 : List (S67)) (l1 : List Int) : Option ((List (S63)) × Bool) := (spec_ReadPrefix.f k l0 l1).bind fun bt273 => (if bt273.2 = (l1.length : Int) then (some (bt273.1, true)) else (some ((([] : List (S63))), false)))
theorem spec_DecodeMessage.mono : ∀ a0 a1 k, LeO (spec_DecodeMessage.f k a0 a1) (spec_DecodeMessage.f (k + 1) a0 a1) := by
  intro a0 a1 k
  unfold spec_DecodeMessage.f
  repeat' first
      | (with_reducible exact spec_ReadPrefix.mono _ _ _)
      | (with_reducible exact LeO.refl _)
      | (with_reducible exact LeO.none _)
      | (with_reducible refine LeO.ite ?_ ?_)
      | (with_reducible refine LeO.bind ?_ (fun _ => ?_))
      | exact spec_ReadPrefix.mono _ _ _
      | exact LeO.none _
      | refine LeO.ite ?_ ?_
      | refine LeO.bind ?_ (fun _ => ?_)
set_option maxHeartbeats 8000000 in
set_option maxRecDepth 100000 in
theorem spec_DecodeMessage.calls (k : Nat) (A0 : Option Addr) (c0 : Nat) (l0 : List (S67)) (A1 : Option Addr) (c1 : Nat) (l1 : List Int) (r1 : List (S63)) (r2 : Bool) (w : World) (hr0 : Kd.C k67 w A0 l0.length l0) (hc0 : l0.length ≤ c0) (hr1 : Kd.C (Kd.int .i64) w A1 l1.length l1) (hc1 : l1.length ≤ c1) (h : spec_DecodeMessage.f k l0 l1 = some (r1, r2)) :
    Calls Try.prog 46 #[.slice A0 l0.length c0, .slice A1 l1.length c1] w fun e w' => ∃ v0_ : Value, e = .returned (.tuple #[v0_, .bool r2]) ∧ Kd.S k63 63 w' w.heap.size (fun _ => True) v0_ r1 ∧ Below w.heap.size w w' := by
  have HR0 := Aside0.mk hr0
  have HC0 := Aside0.mk hc0
  clear hr0 hc0
  have HR1 := Aside0.mk hr1
  have HC1 := Aside0.mk hc1
  clear hr1 hc1
  have HB := Aside0.mk (Below.refl w.heap.size w)
  have H : ((spec_ReadPrefix.f k l0 l1).bind fun bt273 => (if bt273.2 = (l1.length : Int) then (some (bt273.1, true)) else (some ((([] : List (S63))), false)))) = some (r1, r2) := h
  clear h
  replace H := Option.bind_eq_some_iff.mp H
  obtain ⟨⟨t273, t274⟩, A30, H⟩ := H
  replace H : (if t274 = (l1.length : Int) then (some (t273, true)) else (some ((([] : List (S63))), false))) = some (r1, r2) := H
  have A3 := Aside0.mk A30
  clear A30
  by_cases c4 : t274 = (l1.length : Int)
  · rw [if_pos c4] at H
    have c4b0 : (t274 == (l1.length : Int)) = true := beq_iff_eq.mpr c4
    have c4b1 : (t274 != (l1.length : Int)) = false := bne_eq_false_iff_eq.mpr c4
    clear c4
    simp only [Option.some.injEq, Prod.mk.injEq] at H
    obtain ⟨rfl, rfl⟩ := H
    go_enter Try.func46, Try.ntmps46
    go_wp2_with (first | ((with_reducible refine gate_callee (f := 27) rfl ?_); refine gL 11 Try.func27 #[.slice A0 l0.length c0, .slice A1 l1.length c1] ?_; (with_reducible refine (spec_ReadPrefix.calls k _ _ l0 _ _ l1 t273 t274 _ ?side1 ?side2 ?side3 ?side4 A3.out).mono ?_); (case side1 => repeat (first | exact HR0.out | (with_reducible refine Kd.C_alloc ?_ _) | (with_reducible refine Kd.C_drewN ?_ _) | (with_reducible refine Kd.C_drew ?_))); (case side2 => exact HC0.out); (case side3 => repeat (first | exact HR1.out | (with_reducible refine Kd.C_alloc ?_ _) | (with_reducible refine Kd.C_drewN ?_ _) | (with_reducible refine Kd.C_drew ?_))); (case side4 => exact HC1.out); rintro e w5 ⟨v275, rfl, ho0, hb⟩; refine ⟨_, rfl, ?_⟩; have n0_ := Aside0.mk (Kd.S_lower ho0 (below_size (by repeat (first | (with_reducible first | exact HB.out | apply below_alloc | apply pw_below_drewN | apply below_drew1) | exact HB.out)))); have n1_ := bS hb; clear HB; have HO276 := n0_; have HB := n1_; clear n0_ n1_; (try clear hb); (try clear hb2); (try clear hk); (try clear hi); (try clear ho0)))
    go_ret2
    exact ⟨_, by first | rfl | (simp [errW_none, errW_some] <;> rfl) | (simp [*, errW_none, errW_some] <;> rfl), by (with_reducible repeat (first | apply Kd.S_alloc | apply Kd.S_drewN | apply Kd.S_drew)); exact HO276.out, by repeat (first | (with_reducible first | exact HB.out | apply below_alloc | apply pw_below_drewN | apply below_drew1) | exact HB.out)⟩
  · rw [if_neg c4] at H
    have c4b0 : (t274 == (l1.length : Int)) = false := beq_eq_false_iff_ne.mpr c4
    have c4b1 : (t274 != (l1.length : Int)) = true := bne_iff_ne.mpr c4
    obtain ⟨y277, hy277⟩ : ∃ y_ : List (S63), y_ = (([] : List (S63))) := ⟨_, rfl⟩
    replace H : (some (y277, false)) = some (r1, r2) := by first | (rw [hy277]; with_reducible exact H) | (have H2_ := (Option.bind_some _ _).symm.trans H; rw [hy277]; with_reducible exact H2_) | (have H2_ := (Option.bind_some _ _).symm.trans H; with_reducible exact H2_) | with_reducible exact H | (rw [hy277]; exact H) | exact H
    have Ny277 := Aside0.mk hy277
    clear hy277
    simp only [Option.some.injEq, Prod.mk.injEq] at H
    obtain ⟨rfl, rfl⟩ := H
    go_enter Try.func46, Try.ntmps46
    go_wp2_with (first | ((with_reducible refine gate_callee (f := 27) rfl ?_); refine gL 11 Try.func27 #[.slice A0 l0.length c0, .slice A1 l1.length c1] ?_; (with_reducible refine (spec_ReadPrefix.calls k _ _ l0 _ _ l1 t273 t274 _ ?side1 ?side2 ?side3 ?side4 A3.out).mono ?_); (case side1 => repeat (first | exact HR0.out | (with_reducible refine Kd.C_alloc ?_ _) | (with_reducible refine Kd.C_drewN ?_ _) | (with_reducible refine Kd.C_drew ?_))); (case side2 => exact HC0.out); (case side3 => repeat (first | exact HR1.out | (with_reducible refine Kd.C_alloc ?_ _) | (with_reducible refine Kd.C_drewN ?_ _) | (with_reducible refine Kd.C_drew ?_))); (case side4 => exact HC1.out); rintro e w6 ⟨v275, rfl, ho0, hb⟩; refine ⟨_, rfl, ?_⟩; have n0_ := Aside0.mk (Kd.S_lower ho0 (below_size (by repeat (first | (with_reducible first | exact HB.out | apply below_alloc | apply pw_below_drewN | apply below_drew1) | exact HB.out)))); have n1_ := bS hb; clear HB; have HO276 := n0_; have HB := n1_; clear n0_ n1_; (try clear hb); (try clear hb2); (try clear hk); (try clear hi); (try clear ho0)) | ((with_reducible refine gate_dst (N := 18) rfl ?_); refine Kd.S_lit k63 _ 63 ?hg (N := 18) ?hd (xs := ([] : List (S63))) (inner := []) (ok := fun _ => True) (okp := fun _ => True) ?hr ?hp (fun _ hk => hk) trivial (Below.refl _ _) (Nat.le_refl _) (by simp) ?_; (case hd => rfl); (case hg => rfl); (case hr => first | (go_simp; done) | (go_simp; rfl)); (case hp => exact (Reps.none _ _)); intro v278 w7 ho8 hb hg_ hnew_; clear hg_ hnew_; (first | rw [← Ny277.out] at ho8 | (simp only [Int.reduceToNat] at ho8; rw [← Ny277.out] at ho8)); have n0_ := Aside0.mk (Kd.S_elder' (by (with_reducible repeat (first | apply Kd.S_alloc | apply Kd.S_drewN | apply Kd.S_drew)); exact HO276.out) (Kd.S_base ho8) hb); have n1_ := Aside0.mk (Kd.S_lower (Kd.S_new' ho8 (Kd.S_lt (by (with_reducible repeat (first | apply Kd.S_alloc | apply Kd.S_drewN | apply Kd.S_drew)); exact HO276.out))) (below_size (by repeat (first | (with_reducible first | exact HB.out | apply below_alloc | apply pw_below_drewN | apply below_drew1) | exact HB.out)))); have n2_ := bS hb; clear HO276; clear HB; have HO276 := n0_; have HO279 := n1_; have HB := n2_; clear n0_ n1_ n2_; clear hb ho8))
    go_ret2
    exact ⟨_, by first | rfl | (simp [errW_none, errW_some] <;> rfl) | (simp [*, errW_none, errW_some] <;> rfl), by (with_reducible repeat (first | apply Kd.S_alloc | apply Kd.S_drewN | apply Kd.S_drew)); exact Kd.S_mono HO279.out (fun _ hk => trivial), by repeat (first | (with_reducible first | exact HB.out | apply below_alloc | apply pw_below_drewN | apply below_drew1) | exact HB.out)⟩

/-! ### laws_FnExactDecodeMessage: function 10 -/
theorem lawIfT {p : Prop} [Decidable p] {x : Option Bool} (h : (if p then x else some false) = some true) : p ∧ x = some true := by
  by_cases hp : p
  · rw [if_pos hp] at h; exact ⟨hp, h⟩
  · rw [if_neg hp] at h; exact absurd h (by simp)
theorem lawIfF {p : Prop} [Decidable p] {x : Option Bool} (h : (if p then some false else x) = some true) : ¬ p ∧ x = some true := by
  by_cases hp : p
  · rw [if_pos hp] at h; exact absurd h (by simp)
  · rw [if_neg hp] at h; exact ⟨hp, h⟩
section
variable {α : Type} {d : Kd α} {e b n : Nat} {w w0 W w1 : World} {base cc : Nat} {ok P : Nat → Prop} {v : Value} {xs : List α} {A : Option Addr}
theorem lawBB (h : Below w.heap.size w W := by repeat (first | (with_reducible first | exact HB.out | apply below_alloc | apply pw_below_drewN | apply below_drew1) | exact HB.out)) : Below w.heap.size w W := h
theorem lawRm (ho : d.R e w1 b (fun _ => True) v xs) (hl : w.heap.size ≤ b) : Aside0 (d.R e w1 w.heap.size (fun k => b ≤ k ∧ k < w1.heap.size) v xs) := ⟨Kd.R_lower (Kd.R_mono (Kd.R_bound ho) (fun k hk => ⟨hk.2.1, hk.2.2.1⟩)) hl⟩
theorem lawSm (ho : Kd.S d e w1 b (fun _ => True) v xs) (hl : w.heap.size ≤ b) : Aside0 (Kd.S d e w1 w.heap.size (fun k => b ≤ k ∧ k < w1.heap.size) v xs) := ⟨Kd.S_lower (Kd.S_mono (Kd.S_bound ho) (fun k hk => ⟨hk.2.1, hk.2.2.1⟩)) hl⟩
theorem lawRw (hr : d.R e w base ok v xs) (h : Below w.heap.size w W := by with_reducible repeat (first | exact Below.refl _ _ | apply below_alloc | apply pw_below_drewN | apply below_drew1)) : d.R e W base ok v xs := Kd.R_below hr h
theorem lawSw (hr : Kd.S d e w base ok v xs) (h : Below w.heap.size w W := by with_reducible repeat (first | exact Below.refl _ _ | apply below_alloc | apply pw_below_drewN | apply below_drew1)) : Kd.S d e W base ok v xs := Kd.S_below hr h
theorem lawRk (hr : d.R e w base ok v xs) (hk : Kept W w1 P) (hd : ∀ k, ok k → ¬ P k) (h : Below w.heap.size w W := by with_reducible repeat (first | exact Below.refl _ _ | apply below_alloc | apply pw_below_drewN | apply below_drew1)) : Aside0 (d.R e w1 base ok v xs) := ⟨Kd.R_step (Kd.R_below hr h) (fun k ho hlt => hk.2 k hlt (hd k ho))⟩
theorem lawSk (hr : Kd.S d e w base ok v xs) (hk : Kept W w1 P) (hd : ∀ k, ok k → ¬ P k) (h : Below w.heap.size w W := by with_reducible repeat (first | exact Below.refl _ _ | apply below_alloc | apply pw_below_drewN | apply below_drew1)) : Aside0 (Kd.S d e w1 base ok v xs) := ⟨Kd.S_step (Kd.S_below hr h) (fun k ho hlt => hk.2 k hlt (hd k ho))⟩
theorem lawRc (hr : d.R e w base ok (.slice A n cc) xs) (h : Below w.heap.size w W := by with_reducible repeat (first | exact Below.refl _ _ | apply below_alloc | apply pw_below_drewN | apply below_drew1)) : d.C W A xs.length xs := (Kd.R_reads' (Kd.R_below hr h)).2.2
theorem lawSc (hr : Kd.S d e w base ok (.slice A n cc) xs) (h : Below w.heap.size w W := by with_reducible repeat (first | exact Below.refl _ _ | apply below_alloc | apply pw_below_drewN | apply below_drew1)) : d.C W A xs.length xs := (Kd.S_reads' (Kd.S_below hr h)).2.2
end
def laws_FnExactDecodeMessage.f (k : Nat) (l0 : List (S69)) (l1 : List Int) : Option (Bool) := (if (l1.length : Int) > 1048576 then (some true) else ((laws_szFieldS.f l0 1048576).bind fun sz => (if sz < 0 then (some true) else ((laws_toFieldS.f k l0).bind fun fa => ((laws_toIntS.f k l1).bind fun ia => ((spec_DecodeMessage.f k fa ia).bind fun bma => ((laws_toFieldS.f k l0).bind fun xa => ((laws_toIntS.f k l1).bind fun xb => ((impl_DecodeMessage.f k xa xb).bind fun bga => ((laws_eqValueS.f k bga.1 bma.1).bind fun q8 => (if q8 = true then (if bga.2 = bma.2 then ((laws_toFieldS.f k l0).bind fun fb => ((laws_eqFieldS.f k xa fb).bind fun q11 => (if q11 = true then ((laws_toIntS.f k l1).bind fun ib => ((laws_eqIntS.f k xb ib).bind fun q13 => (if q13 = true then ((laws_markFieldS.f k xa 1).bind fun bka => ((laws_markIntS.f k xb bka.1).bind fun bkb => (if bkb.1 < 0 then (some false) else ((laws_eqValueS.f k bga.1 bma.1).bind fun q17 => (if q17 = true then (if bga.2 = bma.2 then ((laws_markValueS.f k bga.1 1).bind fun bmv => ((laws_heldValueS.f k bmv.2 1).bind fun hv => (if hv < 0 then (some false) else (if hv = bmv.1 then ((laws_toFieldS.f k l0).bind fun fc => ((laws_toIntS.f k l1).bind fun ic => ((impl_DecodeMessage.f k fc ic).bind fun bgz => ((laws_eqValueS.f k bgz.1 bma.1).bind fun q25 => (if q25 = true then (if bgz.2 = bma.2 then ((laws_heldValueS.f k bmv.2 1).bind fun hz => (if hz < 0 then (some false) else (if hz = bmv.1 then (some true) else (some false)))) else (some false)) else (some false)))))) else (some false))))) else (some false)) else (some false)))))) else (some false)))) else (some false)))) else (some false)) else (some false))))))))))))
set_option maxHeartbeats 8000000 in
set_option maxRecDepth 100000 in
theorem laws_FnExactDecodeMessage.calls (k : Nat) (A0 : Option Addr) (c0 : Nat) (l0 : List (S69)) (A1 : Option Addr) (c1 : Nat) (l1 : List Int) (r : Bool) (w : World) (hr0 : Kd.C k69 w A0 l0.length l0) (hc0 : l0.length ≤ c0) (hr1 : Kd.C (Kd.int .i64) w A1 l1.length l1) (hc1 : l1.length ≤ c1) (h : laws_FnExactDecodeMessage.f k l0 l1 = some r) (hT : r = true := by rfl) :
    Calls Try.prog 10 #[.slice A0 l0.length c0, .slice A1 l1.length c1] w fun e w' => e = .returned (.bool r) ∧ Below w.heap.size w w' := by
  subst hT
  have HR0 := Aside0.mk hr0
  have HC0 := Aside0.mk hc0
  clear hr0 hc0
  have HR1 := Aside0.mk hr1
  have HC1 := Aside0.mk hc1
  clear hr1 hc1
  have HB := Aside0.mk (Below.refl w.heap.size w)
  unfold laws_FnExactDecodeMessage.f at h
  by_cases c0_ : (l1.length : Int) > 1048576
  · have c0_b0 : decide (1048576 < (l1.length : Int)) = true := decide_eq_true c0_
    have c0_b1 : decide (1048576 < l1.length) = true := decide_eq_true (by omega)
    go_enter Try.func10, Try.ntmps10
    go_wp2
    go_ret
    exact ⟨by first | rfl | (simp [errW_none, errW_some] <;> rfl) | (simp [*, errW_none, errW_some] <;> rfl), by repeat (first | (with_reducible first | exact HB.out | apply below_alloc | apply pw_below_drewN | apply below_drew1) | exact HB.out)⟩
  rw [if_neg c0_] at h
  have c0_b0 : decide (1048576 < (l1.length : Int)) = false := decide_eq_false c0_
  have c0_b1 : decide (1048576 < l1.length) = false := decide_eq_false (by omega)
  clear c0_
  obtain ⟨sz, A1_0, h⟩ := Option.bind_eq_some_iff.mp h
  have A1_ := Aside0.mk A1_0
  clear A1_0
  by_cases c1_ : sz < 0
  · have c1_b0 : decide (sz < 0) = true := decide_eq_true c1_
    go_enter Try.func10, Try.ntmps10
    go_wp2_with (first | ((with_reducible refine gate_callee (f := 12) rfl ?_); refine gL 22 Try.func12 #[.slice A0 l0.length c0, .int .i64 1048576] ?_; (with_reducible refine (laws_szFieldS.calls _ _ l0 1048576 sz _ ?side1 ?side2 A1_.out).mono ?_); (case side1 => exact kC HR0.out); (case side2 => exact HC0.out); rintro e w' ⟨rfl, ⟨nd, rfl⟩⟩; refine ⟨_, rfl, ?_⟩))
    go_ret
    exact ⟨by first | rfl | (simp [errW_none, errW_some] <;> rfl) | (simp [*, errW_none, errW_some] <;> rfl), by repeat (first | (with_reducible first | exact HB.out | apply below_alloc | apply pw_below_drewN | apply below_drew1) | exact HB.out)⟩
  rw [if_neg c1_] at h
  have c1_b0 : decide (sz < 0) = false := decide_eq_false c1_
  clear c1_
  obtain ⟨fa, A2_0, h⟩ := Option.bind_eq_some_iff.mp h
  have A2_ := Aside0.mk A2_0
  clear A2_0
  obtain ⟨ia, A3_0, h⟩ := Option.bind_eq_some_iff.mp h
  have A3_ := Aside0.mk A3_0
  clear A3_0
  obtain ⟨⟨ma, mn⟩, A4_0, h⟩ := Option.bind_eq_some_iff.mp h
  have A4_ := Aside0.mk A4_0
  clear A4_0
  dsimp only at h
  obtain ⟨xa, A5_0, h⟩ := Option.bind_eq_some_iff.mp h
  have A5_ := Aside0.mk A5_0
  clear A5_0
  obtain ⟨xb, A6_0, h⟩ := Option.bind_eq_some_iff.mp h
  have A6_ := Aside0.mk A6_0
  clear A6_0
  obtain ⟨⟨ga, gn⟩, A7_0, h⟩ := Option.bind_eq_some_iff.mp h
  have A7_ := Aside0.mk A7_0
  clear A7_0
  dsimp only at h
  obtain ⟨q8, A8_0, h⟩ := Option.bind_eq_some_iff.mp h
  have A8_ := Aside0.mk A8_0
  clear A8_0
  obtain ⟨cq_, g_⟩ := lawIfT h
  clear h
  subst cq_
  have h := g_
  clear g_
  obtain ⟨cs9_, h⟩ := lawIfT h
  have cs9_b0 : (gn == mn) = true := beq_iff_eq.mpr cs9_
  have cs9_b1 : (gn != mn) = false := bne_eq_false_iff_eq.mpr cs9_
  clear cs9_
  obtain ⟨fb, A10_0, h⟩ := Option.bind_eq_some_iff.mp h
  have A10_ := Aside0.mk A10_0
  clear A10_0
  obtain ⟨q11, A11_0, h⟩ := Option.bind_eq_some_iff.mp h
  have A11_ := Aside0.mk A11_0
  clear A11_0
  obtain ⟨cq_, g_⟩ := lawIfT h
  clear h
  subst cq_
  have h := g_
  clear g_
  obtain ⟨ib, A12_0, h⟩ := Option.bind_eq_some_iff.mp h
  have A12_ := Aside0.mk A12_0
  clear A12_0
  obtain ⟨q13, A13_0, h⟩ := Option.bind_eq_some_iff.mp h
  have A13_ := Aside0.mk A13_0
  clear A13_0
  obtain ⟨cq_, g_⟩ := lawIfT h
  clear h
  subst cq_
  have h := g_
  clear g_
  obtain ⟨⟨ka, kar⟩, A14_0, h⟩ := Option.bind_eq_some_iff.mp h
  have A14_ := Aside0.mk A14_0
  clear A14_0
  dsimp only at h
  obtain ⟨⟨kb, kbr⟩, A15_0, h⟩ := Option.bind_eq_some_iff.mp h
  have A15_ := Aside0.mk A15_0
  clear A15_0
  dsimp only at h
  obtain ⟨cp16_, h⟩ := lawIfF h
  have cp16_b0 : decide (kb < 0) = false := decide_eq_false cp16_
  clear cp16_
  obtain ⟨q17, A17_0, h⟩ := Option.bind_eq_some_iff.mp h
  have A17_ := Aside0.mk A17_0
  clear A17_0
  obtain ⟨cq_, g_⟩ := lawIfT h
  clear h
  subst cq_
  have h := g_
  clear g_
  obtain ⟨cs18_, h⟩ := lawIfT h
  have cs18_b0 : (gn == mn) = true := beq_iff_eq.mpr cs18_
  have cs18_b1 : (gn != mn) = false := bne_eq_false_iff_eq.mpr cs18_
  clear cs18_
  obtain ⟨⟨mv, mvr⟩, A19_0, h⟩ := Option.bind_eq_some_iff.mp h
  have A19_ := Aside0.mk A19_0
  clear A19_0
  dsimp only at h
  obtain ⟨hv, A20_0, h⟩ := Option.bind_eq_some_iff.mp h
  have A20_ := Aside0.mk A20_0
  clear A20_0
  obtain ⟨cp20_, h⟩ := lawIfF h
  have cp20_b0 : decide (hv < 0) = false := decide_eq_false cp20_
  clear cp20_
  obtain ⟨cs21_, h⟩ := lawIfT h
  have cs21_b0 : (hv == mv) = true := beq_iff_eq.mpr cs21_
  have cs21_b1 : (hv != mv) = false := bne_eq_false_iff_eq.mpr cs21_
  clear cs21_
  obtain ⟨fc, A22_0, h⟩ := Option.bind_eq_some_iff.mp h
  have A22_ := Aside0.mk A22_0
  clear A22_0
  obtain ⟨ic, A23_0, h⟩ := Option.bind_eq_some_iff.mp h
  have A23_ := Aside0.mk A23_0
  clear A23_0
  obtain ⟨⟨gz, gy⟩, A24_0, h⟩ := Option.bind_eq_some_iff.mp h
  have A24_ := Aside0.mk A24_0
  clear A24_0
  dsimp only at h
  obtain ⟨q25, A25_0, h⟩ := Option.bind_eq_some_iff.mp h
  have A25_ := Aside0.mk A25_0
  clear A25_0
  obtain ⟨cq_, g_⟩ := lawIfT h
  clear h
  subst cq_
  have h := g_
  clear g_
  obtain ⟨cs26_, h⟩ := lawIfT h
  have cs26_b0 : (gy == mn) = true := beq_iff_eq.mpr cs26_
  have cs26_b1 : (gy != mn) = false := bne_eq_false_iff_eq.mpr cs26_
  clear cs26_
  obtain ⟨hz, A27_0, h⟩ := Option.bind_eq_some_iff.mp h
  have A27_ := Aside0.mk A27_0
  clear A27_0
  obtain ⟨cp27_, h⟩ := lawIfF h
  have cp27_b0 : decide (hz < 0) = false := decide_eq_false cp27_
  clear cp27_
  obtain ⟨cs28_, h⟩ := lawIfT h
  have cs28_b0 : (hz == mv) = true := beq_iff_eq.mpr cs28_
  have cs28_b1 : (hz != mv) = false := bne_eq_false_iff_eq.mpr cs28_
  clear cs28_
  clear h
  go_enter Try.func10, Try.ntmps10
  go_wp2_with (first | ((with_reducible refine gate_callee (f := 12) rfl ?_); refine gL 22 Try.func12 #[.slice A0 l0.length c0, .int .i64 1048576] ?_; (with_reducible refine (laws_szFieldS.calls _ _ l0 1048576 sz _ ?side1 ?side2 A1_.out).mono ?_); (case side1 => exact kC HR0.out); (case side2 => exact HC0.out); rintro e w' ⟨rfl, ⟨nd, rfl⟩⟩; refine ⟨_, rfl, ?_⟩) | ((with_reducible refine gate_callee (f := 14) rfl ?_); refine gL 27 Try.func14 #[.slice A0 l0.length c0] ?_; (with_reducible refine (laws_toFieldS.calls k _ _ l0 fa _ ?side1 ?side2 A2_.out).mono ?_); (case side1 => exact kC HR0.out); (case side2 => exact HC0.out); rintro e w1 ⟨v0_, rfl, ho0, hb⟩; refine ⟨_, rfl, ?_⟩; have Zw1 : Aside0 (w.heap.size ≤ w1.heap.size) := ⟨hb.size⟩; obtain ⟨Afa, cfa, eo_⟩ := Kd.R_slice ho0; subst eo_; have Ofa : Aside0 (Kd.R k67 67 w1 w.heap.size (fun k => w.heap.size ≤ k ∧ k < w1.heap.size) (.slice Afa fa.length cfa) fa) := lawRm ho0 HB.out.size; replace HB := bS hb; clear hb ho0) | ((with_reducible refine gate_callee (f := 28) rfl ?_); refine gL 29 Try.func28 #[.slice A1 l1.length c1] ?_; (with_reducible refine (laws_toIntS.calls k _ _ l1 ia _ ?side1 ?side2 A3_.out).mono ?_); (case side1 => exact kC HR1.out); (case side2 => exact HC1.out); rintro e w2 ⟨v0_, rfl, ho0, hb⟩; refine ⟨_, rfl, ?_⟩; replace Ofa := rB Ofa.out hb; have Zw2 : Aside0 (w1.heap.size ≤ w2.heap.size) := ⟨hb.size⟩; obtain ⟨Aia, cia, eo_⟩ := Kd.R_slice ho0; subst eo_; have Oia : Aside0 (Kd.R (Kd.int .i64) 3 w2 w.heap.size (fun k => w1.heap.size ≤ k ∧ k < w2.heap.size) (.slice Aia ia.length cia) ia) := lawRm ho0 HB.out.size; replace HB := bS hb; clear hb ho0) | ((with_reducible refine gate_callee (f := 46) rfl ?_); refine gL 30 Try.func46 #[.slice Afa fa.length cfa, .slice Aia ia.length cia] ?_; (with_reducible refine (spec_DecodeMessage.calls k _ _ fa _ _ ia ma mn _ ?side1 ?side2 ?side3 ?side4 A4_.out).mono ?_); (case side1 => exact lawRc Ofa.out); (case side2 => exact (by have h_ := Kd.R_reads' Ofa.out; omega)); (case side3 => exact lawRc Oia.out); (case side4 => exact (by have h_ := Kd.R_reads' Oia.out; omega)); rintro e w3 ⟨v0_, rfl, ho0, hb⟩; refine ⟨_, rfl, ?_⟩; clear Ofa; clear Oia; have Zw3 : Aside0 (w2.heap.size ≤ w3.heap.size) := ⟨hb.size⟩; obtain ⟨Ama, cma, eo_⟩ := Kd.S_slice ho0; subst eo_; have Oma : Aside0 (Kd.S k63 63 w3 w.heap.size (fun k => w2.heap.size ≤ k ∧ k < w3.heap.size) (.slice Ama ma.length cma) ma) := lawSm ho0 HB.out.size; replace HB := bS hb; clear hb ho0) | ((with_reducible refine gate_callee (f := 14) rfl ?_); refine gL 34 Try.func14 #[.slice A0 l0.length c0] ?_; (with_reducible refine (laws_toFieldS.calls k _ _ l0 xa _ ?side1 ?side2 A5_.out).mono ?_); (case side1 => exact kC HR0.out); (case side2 => exact HC0.out); rintro e w4 ⟨v0_, rfl, ho0, hb⟩; refine ⟨_, rfl, ?_⟩; replace Oma := sB Oma.out hb; have Zw4 : Aside0 (w3.heap.size ≤ w4.heap.size) := ⟨hb.size⟩; obtain ⟨Axa, cxa, eo_⟩ := Kd.R_slice ho0; subst eo_; have Oxa : Aside0 (Kd.R k67 67 w4 w.heap.size (fun k => w3.heap.size ≤ k ∧ k < w4.heap.size) (.slice Axa xa.length cxa) xa) := lawRm ho0 HB.out.size; replace HB := bS hb; clear hb ho0) | ((with_reducible refine gate_callee (f := 28) rfl ?_); refine gL 36 Try.func28 #[.slice A1 l1.length c1] ?_; (with_reducible refine (laws_toIntS.calls k _ _ l1 xb _ ?side1 ?side2 A6_.out).mono ?_); (case side1 => exact kC HR1.out); (case side2 => exact HC1.out); rintro e w5 ⟨v0_, rfl, ho0, hb⟩; refine ⟨_, rfl, ?_⟩; replace Oma := sB Oma.out hb; replace Oxa := rB Oxa.out hb; have Zw5 : Aside0 (w4.heap.size ≤ w5.heap.size) := ⟨hb.size⟩; obtain ⟨Axb, cxb, eo_⟩ := Kd.R_slice ho0; subst eo_; have Oxb : Aside0 (Kd.R (Kd.int .i64) 3 w5 w.heap.size (fun k => w4.heap.size ≤ k ∧ k < w5.heap.size) (.slice Axb xb.length cxb) xb) := lawRm ho0 HB.out.size; replace HB := bS hb; clear hb ho0) | ((with_reducible refine gate_callee (f := 40) rfl ?_); refine gL 40 Try.func40 #[.slice Axa xa.length cxa, .slice Axb xb.length cxb] ?_; (with_reducible refine (impl_DecodeMessage.calls k _ _ xa _ _ xb ga gn _ ?side1 ?side2 ?side3 ?side4 A7_.out).mono ?_); (case side1 => exact lawRc Oxa.out); (case side2 => exact (by have h_ := Kd.R_reads' Oxa.out; omega)); (case side3 => exact lawRc Oxb.out); (case side4 => exact (by have h_ := Kd.R_reads' Oxb.out; omega)); rintro e w6 ⟨v0_, rfl, ho0, hb⟩; refine ⟨_, rfl, ?_⟩; replace Oma := sB Oma.out hb; replace Oxa := rB Oxa.out hb; replace Oxb := rB Oxb.out hb; have Zw6 : Aside0 (w5.heap.size ≤ w6.heap.size) := ⟨hb.size⟩; obtain ⟨Aga, cga, eo_⟩ := Kd.S_slice ho0; subst eo_; have Oga : Aside0 (Kd.S k63 63 w6 w.heap.size (fun k => w5.heap.size ≤ k ∧ k < w6.heap.size) (.slice Aga ga.length cga) ga) := lawSm ho0 HB.out.size; replace HB := bS hb; clear hb ho0) | ((with_reducible refine gate_callee (f := 16) rfl ?_); refine gL 45 Try.func16 #[.slice Aga ga.length cga, .slice Ama ma.length cma] ?_; (with_reducible refine (laws_eqValueS.calls k _ _ ga _ _ ma true _ ?side1 ?side2 ?side3 ?side4 A8_.out).mono ?_); (case side1 => exact lawSc Oga.out); (case side2 => exact (by have h_ := Kd.S_reads' Oga.out; omega)); (case side3 => exact lawSc Oma.out); (case side4 => exact (by have h_ := Kd.S_reads' Oma.out; omega)); rintro e w7 ⟨rfl, hb⟩; refine ⟨_, rfl, ?_⟩; replace Oma := sB Oma.out hb; replace Oxa := rB Oxa.out hb; replace Oxb := rB Oxb.out hb; replace Oga := sB Oga.out hb; have Zw7 : Aside0 (w6.heap.size ≤ w7.heap.size) := ⟨hb.size⟩; replace HB := bS hb; clear hb) | ((with_reducible refine gate_callee (f := 14) rfl ?_); refine gL 54 Try.func14 #[.slice A0 l0.length c0] ?_; (with_reducible refine (laws_toFieldS.calls k _ _ l0 fb _ ?side1 ?side2 A10_.out).mono ?_); (case side1 => exact kC HR0.out); (case side2 => exact HC0.out); rintro e w8 ⟨v0_, rfl, ho0, hb⟩; refine ⟨_, rfl, ?_⟩; replace Oma := sB Oma.out hb; replace Oxa := rB Oxa.out hb; replace Oxb := rB Oxb.out hb; replace Oga := sB Oga.out hb; have Zw8 : Aside0 (w7.heap.size ≤ w8.heap.size) := ⟨hb.size⟩; obtain ⟨Afb, cfb, eo_⟩ := Kd.R_slice ho0; subst eo_; have Ofb : Aside0 (Kd.R k67 67 w8 w.heap.size (fun k => w7.heap.size ≤ k ∧ k < w8.heap.size) (.slice Afb fb.length cfb) fb) := lawRm ho0 HB.out.size; replace HB := bS hb; clear hb ho0) | ((with_reducible refine gate_callee (f := 17) rfl ?_); refine gL 55 Try.func17 #[.slice Axa xa.length cxa, .slice Afb fb.length cfb] ?_; (with_reducible refine (laws_eqFieldS.calls k _ _ xa _ _ fb true _ ?side1 ?side2 ?side3 ?side4 A11_.out).mono ?_); (case side1 => exact lawRc Oxa.out); (case side2 => exact (by have h_ := Kd.R_reads' Oxa.out; omega)); (case side3 => exact lawRc Ofb.out); (case side4 => exact (by have h_ := Kd.R_reads' Ofb.out; omega)); rintro e w9 ⟨rfl, hb⟩; refine ⟨_, rfl, ?_⟩; clear Ofb; replace Oma := sB Oma.out hb; replace Oxa := rB Oxa.out hb; replace Oxb := rB Oxb.out hb; replace Oga := sB Oga.out hb; have Zw9 : Aside0 (w8.heap.size ≤ w9.heap.size) := ⟨hb.size⟩; replace HB := bS hb; clear hb) | ((with_reducible refine gate_callee (f := 28) rfl ?_); refine gL 59 Try.func28 #[.slice A1 l1.length c1] ?_; (with_reducible refine (laws_toIntS.calls k _ _ l1 ib _ ?side1 ?side2 A12_.out).mono ?_); (case side1 => exact kC HR1.out); (case side2 => exact HC1.out); rintro e w10 ⟨v0_, rfl, ho0, hb⟩; refine ⟨_, rfl, ?_⟩; replace Oma := sB Oma.out hb; replace Oxa := rB Oxa.out hb; replace Oxb := rB Oxb.out hb; replace Oga := sB Oga.out hb; have Zw10 : Aside0 (w9.heap.size ≤ w10.heap.size) := ⟨hb.size⟩; obtain ⟨Aib, cib, eo_⟩ := Kd.R_slice ho0; subst eo_; have Oib : Aside0 (Kd.R (Kd.int .i64) 3 w10 w.heap.size (fun k => w9.heap.size ≤ k ∧ k < w10.heap.size) (.slice Aib ib.length cib) ib) := lawRm ho0 HB.out.size; replace HB := bS hb; clear hb ho0) | ((with_reducible refine gate_callee (f := 30) rfl ?_); refine gL 60 Try.func30 #[.slice Axb xb.length cxb, .slice Aib ib.length cib] ?_; (with_reducible refine (laws_eqIntS.calls k _ _ xb _ _ ib true _ ?side1 ?side2 ?side3 ?side4 A13_.out).mono ?_); (case side1 => exact lawRc Oxb.out); (case side2 => exact (by have h_ := Kd.R_reads' Oxb.out; omega)); (case side3 => exact lawRc Oib.out); (case side4 => exact (by have h_ := Kd.R_reads' Oib.out; omega)); rintro e w' ⟨rfl, ⟨nd, rfl⟩⟩; refine ⟨_, rfl, ?_⟩) | ((with_reducible refine gate_callee (f := 18) rfl ?_); refine gL 64 Try.func18 #[.slice Axa xa.length cxa, .int .i64 1] ?_; (with_reducible refine (laws_markFieldS.calls k (fun k => w3.heap.size ≤ k ∧ k < w4.heap.size) (.slice Axa xa.length cxa) xa 1 ka kar w _ ?side1 ?side2 A14_.out).mono ?_); (case side1 => exact lawBB); (case side2 => exact lawRw Oxa.out); rintro e w12 ⟨rfl, hy, hb, hkp⟩; refine ⟨_, rfl, ?_⟩; clear Oib; replace Oma := lawSk Oma.out hkp (fun k (h1_ : w2.heap.size ≤ k ∧ k < w3.heap.size) (h2_ : w3.heap.size ≤ k ∧ k < w4.heap.size) => by have := Zw1.out; have := Zw2.out; have := Zw3.out; have := Zw4.out; have := Zw5.out; have := Zw6.out; have := Zw7.out; have := Zw8.out; have := Zw9.out; have := Zw10.out; omega); replace Oxb := lawRk Oxb.out hkp (fun k (h1_ : w4.heap.size ≤ k ∧ k < w5.heap.size) (h2_ : w3.heap.size ≤ k ∧ k < w4.heap.size) => by have := Zw1.out; have := Zw2.out; have := Zw3.out; have := Zw4.out; have := Zw5.out; have := Zw6.out; have := Zw7.out; have := Zw8.out; have := Zw9.out; have := Zw10.out; omega); replace Oga := lawSk Oga.out hkp (fun k (h1_ : w5.heap.size ≤ k ∧ k < w6.heap.size) (h2_ : w3.heap.size ≤ k ∧ k < w4.heap.size) => by have := Zw1.out; have := Zw2.out; have := Zw3.out; have := Zw4.out; have := Zw5.out; have := Zw6.out; have := Zw7.out; have := Zw8.out; have := Zw9.out; have := Zw10.out; omega); clear Oxa; have Zw12 : Aside0 (w10.heap.size ≤ w12.heap.size) := ⟨hkp.1⟩; replace HB := Aside0.mk hb; clear hb hkp hy) | ((with_reducible refine gate_callee (f := 31) rfl ?_); refine gL 67 Try.func31 #[.slice Axb xb.length cxb, .int .i64 ka] ?_; (with_reducible refine (laws_markIntS.calls k (fun k => w4.heap.size ≤ k ∧ k < w5.heap.size) (.slice Axb xb.length cxb) xb ka kb kbr w _ ?side1 ?side2 A15_.out).mono ?_); (case side1 => exact lawBB); (case side2 => exact lawRw Oxb.out); rintro e w13 ⟨rfl, hy, hb, hkp⟩; refine ⟨_, rfl, ?_⟩; replace Oma := lawSk Oma.out hkp (fun k (h1_ : w2.heap.size ≤ k ∧ k < w3.heap.size) (h2_ : w4.heap.size ≤ k ∧ k < w5.heap.size) => by have := Zw1.out; have := Zw2.out; have := Zw3.out; have := Zw4.out; have := Zw5.out; have := Zw6.out; have := Zw7.out; have := Zw8.out; have := Zw9.out; have := Zw10.out; have := Zw12.out; omega); replace Oga := lawSk Oga.out hkp (fun k (h1_ : w5.heap.size ≤ k ∧ k < w6.heap.size) (h2_ : w4.heap.size ≤ k ∧ k < w5.heap.size) => by have := Zw1.out; have := Zw2.out; have := Zw3.out; have := Zw4.out; have := Zw5.out; have := Zw6.out; have := Zw7.out; have := Zw8.out; have := Zw9.out; have := Zw10.out; have := Zw12.out; omega); clear Oxb; have Zw13 : Aside0 (w12.heap.size ≤ w13.heap.size) := ⟨hkp.1⟩; replace HB := Aside0.mk hb; clear hb hkp hy) | (go_at_call 16; (with_reducible refine (laws_eqValueS.calls k _ _ ga _ _ ma true _ ?side1 ?side2 ?side3 ?side4 A17_.out).mono ?_); (case side1 => exact lawSc Oga.out); (case side2 => exact (by have h_ := Kd.S_reads' Oga.out; omega)); (case side3 => exact lawSc Oma.out); (case side4 => exact (by have h_ := Kd.S_reads' Oma.out; omega)); rintro e w14 ⟨rfl, hb⟩; replace Oma := sB Oma.out hb; replace Oga := sB Oga.out hb; have Zw14 : Aside0 (w13.heap.size ≤ w14.heap.size) := ⟨hb.size⟩; replace HB := bS hb; clear hb) | ((with_reducible refine gate_callee (f := 19) rfl ?_); refine gL 83 Try.func19 #[.slice Aga ga.length cga, .int .i64 1] ?_; (with_reducible refine (laws_markValueS.calls k (fun k => w5.heap.size ≤ k ∧ k < w6.heap.size) (.slice Aga ga.length cga) ga 1 mv mvr w _ ?side1 ?side2 A19_.out).mono ?_); (case side1 => exact lawBB); (case side2 => exact lawSw Oga.out); rintro e w15 ⟨rfl, hy, hb, hkp⟩; refine ⟨_, rfl, ?_⟩; replace Oma := lawSk Oma.out hkp (fun k (h1_ : w2.heap.size ≤ k ∧ k < w3.heap.size) (h2_ : w5.heap.size ≤ k ∧ k < w6.heap.size) => by have := Zw1.out; have := Zw2.out; have := Zw3.out; have := Zw4.out; have := Zw5.out; have := Zw6.out; have := Zw7.out; have := Zw8.out; have := Zw9.out; have := Zw10.out; have := Zw12.out; have := Zw13.out; have := Zw14.out; omega); have n_ : Aside0 (Kd.S k63 63 w15 w.heap.size (fun k => w5.heap.size ≤ k ∧ k < w6.heap.size) (.slice Aga ga.length cga) mvr) := ⟨hy⟩; clear Oga; have Oga := n_; clear n_; have NOga := Aside0.mk (Kd.S_reads' Oga.out).1; have Zw15 : Aside0 (w14.heap.size ≤ w15.heap.size) := ⟨hkp.1⟩; replace HB := Aside0.mk hb; clear hb hkp hy) | ((with_reducible refine gate_callee (f := 20) rfl ?_); refine gL 86 Try.func20 #[.slice Aga ga.length cga, .int .i64 1] ?_; refine calls_of_args (args' := #[.slice Aga mvr.length cga, .int .i64 1]) (by rw [NOga.out]) ?_; (with_reducible refine (laws_heldValueS.calls k _ _ mvr 1 hv _ ?side1 ?side2 A20_.out).mono ?_); (case side1 => exact lawSc Oga.out); (case side2 => exact (by have h_ := Kd.S_reads' Oga.out; omega)); rintro e w' ⟨rfl, ⟨nd, rfl⟩⟩; refine ⟨_, rfl, ?_⟩) | ((with_reducible refine gate_callee (f := 14) rfl ?_); refine gL 94 Try.func14 #[.slice A0 l0.length c0] ?_; (with_reducible refine (laws_toFieldS.calls k _ _ l0 fc _ ?side1 ?side2 A22_.out).mono ?_); (case side1 => exact kC HR0.out); (case side2 => exact HC0.out); rintro e w16 ⟨v0_, rfl, ho0, hb⟩; refine ⟨_, rfl, ?_⟩; replace Oma := sB Oma.out hb; replace Oga := sB Oga.out hb; have Zw16 : Aside0 (w15.heap.size ≤ w16.heap.size) := ⟨hb.size⟩; obtain ⟨Afc, cfc, eo_⟩ := Kd.R_slice ho0; subst eo_; have Ofc : Aside0 (Kd.R k67 67 w16 w.heap.size (fun k => w15.heap.size ≤ k ∧ k < w16.heap.size) (.slice Afc fc.length cfc) fc) := lawRm ho0 HB.out.size; replace HB := bS hb; clear hb ho0) | ((with_reducible refine gate_callee (f := 28) rfl ?_); refine gL 96 Try.func28 #[.slice A1 l1.length c1] ?_; (with_reducible refine (laws_toIntS.calls k _ _ l1 ic _ ?side1 ?side2 A23_.out).mono ?_); (case side1 => exact kC HR1.out); (case side2 => exact HC1.out); rintro e w17 ⟨v0_, rfl, ho0, hb⟩; refine ⟨_, rfl, ?_⟩; replace Oma := sB Oma.out hb; replace Oga := sB Oga.out hb; replace Ofc := rB Ofc.out hb; have Zw17 : Aside0 (w16.heap.size ≤ w17.heap.size) := ⟨hb.size⟩; obtain ⟨Aic, cic, eo_⟩ := Kd.R_slice ho0; subst eo_; have Oic : Aside0 (Kd.R (Kd.int .i64) 3 w17 w.heap.size (fun k => w16.heap.size ≤ k ∧ k < w17.heap.size) (.slice Aic ic.length cic) ic) := lawRm ho0 HB.out.size; replace HB := bS hb; clear hb ho0) | ((with_reducible refine gate_callee (f := 40) rfl ?_); refine gL 97 Try.func40 #[.slice Afc fc.length cfc, .slice Aic ic.length cic] ?_; (with_reducible refine (impl_DecodeMessage.calls k _ _ fc _ _ ic gz gy _ ?side1 ?side2 ?side3 ?side4 A24_.out).mono ?_); (case side1 => exact lawRc Ofc.out); (case side2 => exact (by have h_ := Kd.R_reads' Ofc.out; omega)); (case side3 => exact lawRc Oic.out); (case side4 => exact (by have h_ := Kd.R_reads' Oic.out; omega)); rintro e w18 ⟨v0_, rfl, ho0, hb⟩; refine ⟨_, rfl, ?_⟩; clear Ofc; clear Oic; replace Oma := sB Oma.out hb; replace Oga := sB Oga.out hb; have Zw18 : Aside0 (w17.heap.size ≤ w18.heap.size) := ⟨hb.size⟩; obtain ⟨Agz, cgz, eo_⟩ := Kd.S_slice ho0; subst eo_; have Ogz : Aside0 (Kd.S k63 63 w18 w.heap.size (fun k => w17.heap.size ≤ k ∧ k < w18.heap.size) (.slice Agz gz.length cgz) gz) := lawSm ho0 HB.out.size; replace HB := bS hb; clear hb ho0) | ((with_reducible refine gate_callee (f := 16) rfl ?_); refine gL 102 Try.func16 #[.slice Agz gz.length cgz, .slice Ama ma.length cma] ?_; (with_reducible refine (laws_eqValueS.calls k _ _ gz _ _ ma true _ ?side1 ?side2 ?side3 ?side4 A25_.out).mono ?_); (case side1 => exact lawSc Ogz.out); (case side2 => exact (by have h_ := Kd.S_reads' Ogz.out; omega)); (case side3 => exact lawSc Oma.out); (case side4 => exact (by have h_ := Kd.S_reads' Oma.out; omega)); rintro e w19 ⟨rfl, hb⟩; refine ⟨_, rfl, ?_⟩; clear Oma; clear Ogz; replace Oga := sB Oga.out hb; have Zw19 : Aside0 (w18.heap.size ≤ w19.heap.size) := ⟨hb.size⟩; replace HB := bS hb; clear hb) | ((with_reducible refine gate_callee (f := 20) rfl ?_); refine gL 111 Try.func20 #[.slice Aga ga.length cga, .int .i64 1] ?_; refine calls_of_args (args' := #[.slice Aga mvr.length cga, .int .i64 1]) (by rw [NOga.out]) ?_; (with_reducible refine (laws_heldValueS.calls k _ _ mvr 1 hz _ ?side1 ?side2 A27_.out).mono ?_); (case side1 => exact lawSc Oga.out); (case side2 => exact (by have h_ := Kd.S_reads' Oga.out; omega)); rintro e w' ⟨rfl, ⟨nd, rfl⟩⟩; refine ⟨_, rfl, ?_⟩))
  go_ret
  exact ⟨by first | rfl | (simp [errW_none, errW_some] <;> rfl) | (simp [*, errW_none, errW_some] <;> rfl), by repeat (first | (with_reducible first | exact HB.out | apply below_alloc | apply pw_below_drewN | apply below_drew1) | exact HB.out)⟩

/-- THE ONE PURE STATEMENT of laws_FnExactDecodeMessage. -/
def laws_FnExactDecodeMessage.Pure : Prop := ∀ (l0 : List (S69)) (l1 : List Int), (l0.length ≤ maxLen ∧ ∀ y ∈ l0, ((Lit.int .i64 y.f0).wf = true ∧ (Lit.int .i64 y.f1).wf = true ∧ (Lit.int .i64 y.f2).wf = true ∧ (Lit.int .i64 y.f3).wf = true)) → (l1.length ≤ maxLen ∧ ∀ y ∈ l1, (Lit.int .i64 y).wf = true) → ∃ k, laws_FnExactDecodeMessage.f k l0 l1 = some true

end Go.Proofs.Ythgikmgdgibimaa.QFnExactDecodeMessage
