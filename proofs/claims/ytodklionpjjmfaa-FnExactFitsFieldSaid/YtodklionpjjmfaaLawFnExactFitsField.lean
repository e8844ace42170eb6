/- The row of the law FnExactFitsField: its statement, out of the pure statement and the walk of the law's call. No condition is added. -/
import Derived.Test.YtodklionpjjmfaaRows
import Derived.Test.YtodklionpjjmfaaQFnExactFitsFieldx3
import Derived.Test.YtodklionpjjmfaaPureFnExactFitsField
import Derived.Test.YtodklionpjjmfaaOpn
import Derived.WalkKit
import Derived.ProofKit
import Derived.OpenShut
import Derived.ShutString
import Derived.ChangeOld
import Derived.Below
import Derived.SizedLaws
namespace Go.Proofs.Ytodklionpjjmfaa.fnExactFitsField
open Go.ChangeShapes Go.WideShapes Go.ChangeAt Go.RowKit Go.Proofs.Ytodklionpjjmfaa.QFnExactFitsField Go.Proofs.YtodklionpjjmfaaW.PrintWords
set_option linter.unusedVariables false
theorem own : ownKnob Try.prog.godebug = none := by kernel_rfl
theorem laidOut : laidOutB Try.prog = true := by kernel_rfl
set_option maxRecDepth 100000 in
theorem lifted (os : Os) (started : os.Started) (H : Type) (enc : TypeId × Value → H) :
    ReturnsInHanded {} Try.checked os 3 .any (Rows.fnExactFitsFieldSpec.pre6 enc Try.prog Try.f3 Rows.fnExactFitsFieldRow.domain false) (Rows.fnExactFitsFieldSpec.post enc Try.prog Try.f3 false true false false) := by
  refine returnsInHanded_of_change_sized (C := Try.checked) own started (by kernel_rfl) Try.func3
    (ChangeSpec.witness6 (enc := enc) (C := Try.checked) false ⟨#[], #[.agg #[.int .i64 0, .int .i64 0, .int .i64 0, .int .i64 0], .agg #[.int .i64 0, .slice none 0 0]], []⟩ 8 (by kernel_rfl) (by kernel_rfl) (by kernel_rfl) (by kernel_rfl)) ?_
  intro W base args ds gs before hval0 hW hcnd hsz0 _
  have hval : ∀ (j : Nat) t v, Try.f3.params[j]? = some t → args[j]? = some v → Value.okWide Try.prog W .any base t v := hval0
  have hW' := hW
  obtain ⟨p, q, hA0, hV, rfl, hfz, hnd⟩ := hW
  have hA : DataW.TrodAll enc Try.prog W 0 (fun _ => true) true Try.f3.params.toList args.toList ds p := hA0
  rw [Try.params3] at hA hval
  obtain ⟨v0, vs0, d0, ds0, p0, q0, hargs, rfl, rfl, h0, r0⟩ := trodAll_cons hA
  obtain ⟨v1, vs1, d1, ds1, p1, q1, rfl, rfl, rfl, h1, r1⟩ := trodAll_cons r0
  obtain ⟨rfl, rfl, rfl⟩ := trodAll_nil r1
  obtain rfl : args = #[v0, v1] := by cases args; simp_all
  obtain ⟨rfl, rfl⟩ := trodVars_none hV
  have k0 := h0
  have lt0 : ∀ x ∈ p0, x.block < W.heap.size := by obtain ⟨m, hm⟩ := k0; exact DataW.trod_lt m _ _ _ hm
  obtain ⟨y0, cs0, rfl, hk0, hg0⟩ := Opn.arg_struct Try.underlying23 (Opn.opensIso (fun x : S23 => (x.f0, x.f1, x.f2, x.f3)) (fun y => (⟨y.1, y.2.1, y.2.2.1, y.2.2.2⟩ : S23)) (fun _ => rfl) (Opn.opensStruct4 Try.underlying23 (by kernel_rfl) rfl rfl rfl rfl (by kernel_rfl) (by kernel_rfl) (by kernel_rfl) (by kernel_rfl) (Opn.opensInt Try.underlying3) (Opn.opensInt Try.underlying3) (Opn.opensInt Try.underlying3) (Opn.opensInt Try.underlying3))) (hval 0 23 v0 rfl rfl) h0
  obtain rfl := k23_open hk0
  have hg0' : (Lit.int .i64 y0.f0).wf = true ∧ (Lit.int .i64 y0.f1).wf = true ∧ (Lit.int .i64 y0.f2).wf = true ∧ (Lit.int .i64 y0.f3).wf = true := hg0
  obtain ⟨g0_0, g0_1, g0_2, g0_3⟩ := hg0'
  have k1 := h1
  have lt1 : ∀ x ∈ p1, x.block < W.heap.size := by obtain ⟨m, hm⟩ := k1; exact DataW.trod_lt m _ _ _ hm
  obtain ⟨y1, cs1, rfl, hk1, hg1⟩ := Opn.arg_struct Try.underlying26 (Opn.opensIso (fun x : S26 => (x.f0, x.f1)) (fun y => (⟨y.1, y.2⟩ : S26)) (fun _ => rfl) (Opn.opensStruct2 Try.underlying26 (by kernel_rfl) rfl rfl (by kernel_rfl) (by kernel_rfl) (Opn.opensInt Try.underlying3) (Opn.opensSlice Try.underlying24 (by kernel_rfl) (Opn.opensInt Try.underlying3)))) (hval 1 26 v1 rfl rfl) h1
  obtain ⟨A1_1, c1_1, rfl, hc1_1, hr1_1⟩ := k26_open hk1
  have hg1' : (Lit.int .i64 y1.f0).wf = true ∧ (y1.f1.length ≤ maxLen ∧ ∀ yy ∈ y1.f1, (Lit.int .i64 yy).wf = true) := hg1
  obtain ⟨g1_0, g1_1⟩ := hg1'
  clear hA0 hval0 hsz0
  obtain ⟨k, hp⟩ := Pure.FnExactFitsField y0.f0 y0.f1 y0.f2 y0.f3 y1.f0 y1.f1 g0_0 g0_1 g0_2 g0_3 g1_0 g1_1
  refine (laws_FnExactFitsField.calls k y0.f0 y0.f1 y0.f2 y0.f3 y1.f0 A1_1 c1_1 y1.f1 true W hr1_1 hc1_1 hp).mono fun e W' ⟨he, bel0⟩ => ?_
  have bel : Below W.heap.size W W' := bel0
  subst he
  exact ⟨_, rfl, _, _, _, [], _, [], hW', trodAll_mk1 (shut_bool Try.underlying4 _), (trodAll_cons_mk (Below.trod laidOut (by kernel_rfl) (of_decide_eq_true (by kernel_rfl)) k0 bel lt0) (trodAll_cons_mk (Below.trod laidOut (by kernel_rfl) (of_decide_eq_true (by kernel_rfl)) k1 bel lt1) trodAll_mk0)), rfl, bel.frame _, fun h => by cases h⟩
theorem over : Rows.fnExactFitsFieldRow.holds Try.pinned (OpenSpec.ofChange Rows.fnExactFitsFieldSpec) :=
  OpenClaim.holds_of_wide 3 Try.f3 rfl rfl rfl rfl rfl rfl rfl ⟨rfl, rfl, rfl, rfl, rfl⟩ rfl rfl rfl rfl rfl (by kernel_rfl) Try.func3 (by kernel_rfl)
    (of_decide_eq_true (by kernel_rfl)) (by unfold Func.isWrapper; first | (rw [if_pos (by decide +kernel)]; kernel_rfl) | (rw [if_neg (by decide +kernel)]; exact ⟨rfl, rfl⟩))
    (fun os started H enc _ => lifted os started H enc)
theorem proved : Rows.FnExactFitsFieldSaid := over
#print axioms proved
end Go.Proofs.Ytodklionpjjmfaa.fnExactFitsField
namespace Go.Proofs.Ytodklionpjjmfaa
/-- The row, under a short name, for the claim. -/
theorem fnExactFitsField_holds : Rows.FnExactFitsFieldSaid := fnExactFitsField.proved
end Go.Proofs.Ytodklionpjjmfaa
