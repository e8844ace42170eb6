/- The law FnExactFieldName returns true for all arguments: the program's FieldName and the reference's agree. It holds for every input that the statement admits; no condition is added. -/
import Derived.Test.YtaefidahlmojaaaQFnExactFieldNamex1
namespace Go.Proofs.Ytaefidahlmojaaa.Pure
open Go.RowKit Go.Proofs.Ytaefidahlmojaaa.QFnExactFieldName Go.Proofs.YtaefidahlmojaaaW.PrintWords Go.Proofs.YtaefidahlmojaaaW.PrintLast
set_option linter.unusedVariables false
set_option linter.unusedSimpArgs false

def fieldNameP (a : Int) : ByteArray := if a = 1 then ⟨#[110, 117, 109]⟩ else if a = 2 then ⟨#[116, 101, 120, 116]⟩ else if a = 3 then ⟨#[108, 105, 115, 116]⟩ else ⟨#[]⟩
theorem kind123 {a : Int} (h : 1 ≤ a ∧ a ≤ 3) : a = 1 ∨ a = 2 ∨ a = 3 := by omega

theorem inRange_eq (a b c : Int) : impl_InRange.f a b c = some (decide (b ≤ a ∧ a ≤ c)) := by
  unfold impl_InRange.f; by_cases h : b ≤ a <;> simp [h]

theorem implFieldName_eq (a : Int) : impl_FieldName.f a = some (fieldNameP a) := by
  unfold impl_FieldName.f fieldNameP
  rw [inRange_eq]
  simp only [Option.bind_some, decide_eq_true_eq]
  by_cases h : 1 ≤ a ∧ a ≤ 3
  · rw [if_pos h]
    rcases kind123 h with rfl | rfl | rfl <;> rfl
  · rw [if_neg h, if_neg (by omega), if_neg (by omega), if_neg (by omega)]

theorem l1In_eq (a b c : Int) : spec_l1In.f a b c = some (decide (b ≤ a ∧ a ≤ c)) := by
  unfold spec_l1In.f; by_cases h : b ≤ a <;> simp [h]

theorem specFieldName_eq (a : Int) : spec_FieldName.f a = some (fieldNameP a) := by
  unfold spec_FieldName.f fieldNameP
  rw [l1In_eq]
  simp only [Option.bind_some, decide_eq_true_eq]
  by_cases h : 1 ≤ a ∧ a ≤ 3
  · rw [if_pos h]
    rcases kind123 h with rfl | rfl | rfl <;> rfl
  · rw [if_neg h, if_neg (by omega), if_neg (by omega), if_neg (by omega)]

theorem FnExactFieldName : laws_FnExactFieldName.Pure := by
  intro a _
  unfold laws_FnExactFieldName.f
  rw [implFieldName_eq, specFieldName_eq]
  simp

end Go.Proofs.Ytaefidahlmojaaa.Pure
