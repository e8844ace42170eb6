/- The law FnExactEqualFormats returns true for all arguments: the program's EqualFormats and the reference's agree, and the formats that are given read as before. It holds for every input that the statement admits; no condition is added. -/
import Derived.Test.YtmdmgilhcecanaaQFnExactEqualFormatsx3
namespace Go.Proofs.Ytmdmgilhcecanaa.Pure
open Go.RowKit Go.Proofs.Ytmdmgilhcecanaa.QFnExactEqualFormats Go.Proofs.YtmdmgilhcecanaaW.PrintWords Go.Proofs.YtmdmgilhcecanaaW.PrintLast Go.Proofs.YtmdmgilhcecanaaW.PrintMore
set_option linter.unusedVariables false
set_option linter.unusedSimpArgs false

theorem w64 {x : Int} (h0 : -9223372036854775808 ≤ x) (h1 : x ≤ 9223372036854775807) : wrap64 x = x := by unfold wrap64; omega
theorem wsucc {i : Nat} (h : i < 4611686018427387904) : wrap64 ((i : Int) + 1) = ((i + 1 : Nat) : Int) := by unfold wrap64; omega
theorem wfI {x : Int} (h : (Lit.int .i64 x).wf = true) : -9223372036854775808 ≤ x ∧ x ≤ 9223372036854775807 := by
  simp only [Lit.wf, Bool.and_eq_true, decide_eq_true_eq] at h
  exact h
theorem wfB {x : Int} (h : (Lit.int .u8 x).wf = true) : 0 ≤ x ∧ x ≤ 255 := by
  simp only [Lit.wf, Bool.and_eq_true, decide_eq_true_eq] at h
  exact h
theorem rdn (l : List Int) (i : Nat) : rd l (i : Int) = l.getD i 0 := by simp [rd]
theorem evOne {α : Type} {f : Option α} {r : α} (h : f = some r) : Ev (fun _ => f) r := ⟨0, fun _ _ => h⟩
theorem evUp {ρ : Type} {g : Nat → Nat → Option ρ} {R : Nat → ρ} (n : Nat) (last : Ev (g n) (R n)) (step : ∀ i, i < n → Ev (g (i + 1)) (R (i + 1)) → Ev (g i) (R i)) : ∀ i, i ≤ n → Ev (g i) (R i) := by
  intro i hi
  obtain ⟨d, hd⟩ : ∃ d, i + d = n := ⟨n - i, by omega⟩
  induction d generalizing i with
  | zero => obtain rfl : i = n := by omega
            exact last
  | succ d ih => exact step i (by omega) (ih (i + 1) (by omega) (by omega))
theorem getD_mem {α : Type} {l : List α} {i : Nat} {d : α} (h : i < l.length) : l.getD i d ∈ l := by
  rw [List.getD_eq_getElem?_getD, List.getElem?_eq_getElem h]; exact List.getElem_mem h
theorem getD_get {α : Type} {l : List α} {i : Nat} {d : α} (h : i < l.length) : l.getD i d = l[i] := by
  rw [List.getD_eq_getElem?_getD, List.getElem?_eq_getElem h]; rfl
theorem take_set_rep {α : Type} (l : List α) (z d : α) (i : Nat) (h : i < l.length) : (l.take i ++ List.replicate (l.length - i) z).set i (l.getD i d) = l.take (i + 1) ++ List.replicate (l.length - (i + 1)) z := by
  obtain ⟨m, hm⟩ : ∃ m, l.length - i = m + 1 := ⟨l.length - i - 1, by omega⟩
  have hm' : l.length - (i + 1) = m := by omega
  rw [hm, hm', List.set_append_right _ _ (by rw [List.length_take]; omega), List.length_take, Nat.min_eq_left (by omega), Nat.sub_self, List.replicate_succ, List.set_cons_zero, getD_get h, List.take_succ_eq_append_getElem h, List.append_assoc, List.singleton_append]
theorem drop_eq_iff {α : Type} (a b : List α) (d : α) (i : Nat) (ha : i < a.length) (hb : i < b.length) : (a.drop i = b.drop i) ↔ (a.getD i d = b.getD i d ∧ a.drop (i + 1) = b.drop (i + 1)) := by
  rw [List.drop_eq_getElem_cons ha, List.drop_eq_getElem_cons hb, List.cons.injEq, getD_get ha, getD_get hb]
theorem take_rep_len {α : Type} (l : List α) (z : α) (i : Nat) (h : i ≤ l.length) : (l.take i ++ List.replicate (l.length - i) z).length = l.length := by
  simp; omega

theorem evSucc {α : Type} {g : Nat → Option α} {r : α} (h : Ev (fun k => g (k + 1)) r) : Ev g r := Ev.step (fun _ => rfl) h
theorem evIte {α : Type} {c : Prop} [Decidable c] {f g : Nat → Option α} {r : α} (h1 : c → Ev f r) (h2 : ¬ c → Ev g r) : Ev (fun k => if c then f k else g k) r := by
  by_cases h : c
  · simp only [if_pos h]; exact h1 h
  · simp only [if_neg h]; exact h2 h
theorem evT {α : Type} {f g : Nat → Option α} {r : α} (c : Prop) [Decidable c] (h : c) (h1 : Ev f r) : Ev (fun k => if c then f k else g k) r := by
  simp only [if_pos h]; exact h1
theorem evF {α : Type} {f g : Nat → Option α} {r : α} (c : Prop) [Decidable c] (h : ¬ c) (h1 : Ev g r) : Ev (fun k => if c then f k else g k) r := by
  simp only [if_neg h]; exact h1
theorem mneg (n : Nat) : ((1 : Int) + (n : Int) < 0) = False := eq_false (by omega)
theorem mneg2 (n m : Nat) : ((1 : Int) + (n : Int) + (m : Int) < 0) = False := eq_false (by omega)

def cvF (x : S63) : S61 := ⟨x.f0, x.f1, x.f2, x.f3⟩
theorem rdF (l : List S61) (i : Nat) : rd_T61 l (i : Int) = l.getD i z61 := by simp [rd_T61]
theorem rdLF (l : List S63) (i : Nat) : rd_T63 l (i : Int) = l.getD i z63 := by simp [rd_T63]
theorem evB {b b' : Bool} (h : b = b') : Ev (fun _ => some b) b' := by rw [h]; exact Ev.now _
theorem toFieldS_ev (l : List S63) (hl : l.length ≤ 1048576) : Ev (fun k => laws_toFieldS.f k l) (l.map cvF) := by
  have H : Ev (fun k => laws_toFieldS.l0 k l (List.replicate l.length z61) 0) (l.map cvF) := by
    have := evUp (g := fun i k => laws_toFieldS.l0 k l ((l.map cvF).take i ++ List.replicate ((l.map cvF).length - i) z61) (i : Int)) (R := fun _ => l.map cvF) l.length ?_ ?_ 0 (Nat.zero_le _)
    · simpa using this
    · refine evSucc ?_
      simp only [laws_toFieldS.l0]
      refine evF ((l.length : Int) < (l.length : Int)) (by omega) ?_
      simp only [List.length_map, Nat.sub_self, List.replicate_zero, List.append_nil]
      rw [List.take_of_length_le (by simp)]
      exact Ev.now _
    · intro i hi ih
      have hs := take_set_rep (l.map cvF) z61 z61 i (by simpa using hi)
      have hg : (l.map cvF).getD i z61 = cvF (l.getD i z63) := by
        rw [getD_get (by simpa using hi), getD_get hi]
        simp
      rw [hg] at hs
      refine evSucc ?_
      simp only [laws_toFieldS.l0, laws_toField.f, Option.bind_some, rdLF]
      refine evT ((i : Int) < (l.length : Int)) (by omega) (evT (0 ≤ (i : Int)) (by omega) (evT ((i : Int) < ((((l.map cvF).take i ++ List.replicate ((l.map cvF).length - i) z61).length : Nat) : Int)) (by simp; omega) ?_))
      rw [wsucc (by omega), Int.toNat_natCast]
      rw [← hs] at ih
      exact ih
  refine Ev.congr (fun k => ?_) H
  unfold laws_toFieldS.f
  rw [if_pos (by omega), if_pos (by omega)]
  simp
theorem eqFieldS_same (a : List S61) (hl : a.length ≤ 281474976710656) : Ev (fun k => laws_eqFieldS.f k a a) true := by
  unfold laws_eqFieldS.f
  refine evT ((a.length : Int) = (a.length : Int)) rfl ?_
  have := evUp (g := fun i k => laws_eqFieldS.l0 k a a (i : Int)) (R := fun _ => true) a.length ?_ ?_ 0 (Nat.zero_le _)
  · simpa using this
  · refine evSucc ?_
    simp only [laws_eqFieldS.l0]
    exact evF ((a.length : Int) < (a.length : Int)) (by omega) (Ev.now _)
  · intro i hi ih
    refine evSucc ?_
    simp only [laws_eqFieldS.l0, laws_eqField.f, if_true, Option.bind_some]
    refine evT ((i : Int) < (a.length : Int)) (by omega) (evT (0 ≤ (i : Int)) (by omega) (evT ((i : Int) < (a.length : Int)) (by omega) ?_))
    rw [wsucc (by omega)]
    exact ih
theorem szFieldS_eq (l : List S63) (a : Int) (h0 : 0 ≤ a) (h1 : a ≤ 1048576) (hl : l.length ≤ maxLen) : laws_szFieldS.f l a = some (if a < (l.length : Int) then -1 else a - (l.length : Int)) := by
  unfold maxLen at hl
  unfold laws_szFieldS.f
  rw [w64 (by omega) (by omega)]
  by_cases h : a < (l.length : Int)
  · rw [if_pos h, if_pos (by omega)]
  · rw [if_neg h, if_neg (by omega)]

theorem drop_cons {α : Type} (l : List α) (d : α) (i : Nat) (h : i < l.length) : l.drop i = l.getD i d :: l.drop (i + 1) := by
  rw [List.drop_eq_getElem_cons h, getD_get h]

def eqF1 (x y : S61) : Bool := x.f0 == y.f0 && (x.f1 == y.f1 && (x.f2 == y.f2 && x.f3 == y.f3))
def eqFL : List S61 → List S61 → Bool
  | [], [] => true
  | x :: a, y :: b => eqF1 x y && eqFL a b
  | _, _ => false
theorem eqFL_len : ∀ a b, eqFL a b = true → a.length = b.length
  | [], [], _ => rfl
  | x :: a, y :: b, h => by
    simp only [eqFL, Bool.and_eq_true] at h
    simp [eqFL_len a b h.2]
  | [], _ :: _, h => by simp [eqFL] at h
  | _ :: _, [], h => by simp [eqFL] at h
theorem eqF1_not (x y : S61) : (!(x.f0 == y.f0) || (!(x.f1 == y.f1) || (!(x.f2 == y.f2) || (!(x.f3 == y.f3))))) = !(eqF1 x y) := by
  simp [eqF1, Bool.not_and]

theorem implEqualFormats0_ev (a b : List S61) (hl : a.length ≤ 1048576) : Ev (fun k => impl_Field.f k a b) (eqFL a b) := by
  unfold impl_Field.f
  by_cases hn : a.length = b.length
  · refine evT ((a.length : Int) = (b.length : Int)) (by omega) ?_
    have := evUp (g := fun i k => impl_Field.l0 k a b (a.length : Int) (i : Int)) (R := fun i => eqFL (a.drop i) (b.drop i)) a.length ?_ ?_ 0 (Nat.zero_le _)
    · simpa using this
    · refine evSucc ?_
      simp only [impl_Field.l0]
      refine evF ((a.length : Int) < (a.length : Int)) (by omega) ?_
      rw [List.drop_of_length_le (Nat.le_refl _), List.drop_of_length_le (by omega)]
      exact Ev.now _
    · intro i hi ih
      rw [drop_cons a z61 i hi, drop_cons b z61 i (by omega)]
      refine evSucc ?_
      simp only [impl_Field.l0, rdF, eqF1_not]
      refine evT ((i : Int) < (a.length : Int)) (by omega) (evT (0 ≤ (i : Int)) (by omega) ?_)
      refine evT ((i : Int) < (a.length : Int)) (by omega) (evT ((i : Int) < (b.length : Int)) (by omega) ?_)
      simp only [eqFL]
      cases he : eqF1 (a.getD i z61) (b.getD i z61) with
      | true =>
        simp only [Bool.not_true, Bool.false_eq_true, if_false, Bool.true_and]
        rw [wsucc (by omega)]
        exact ih
      | false =>
        simp only [Bool.not_false, if_true, Bool.false_and]
        exact Ev.now _
  · refine evF ((a.length : Int) = (b.length : Int)) (by omega) ?_
    refine evB ?_
    cases h : eqFL a b with
    | false => rfl
    | true => exact absurd (eqFL_len a b h) hn

theorem implEqualFormats_ev (a b : List S61) (hl : a.length ≤ 1048576) : Ev (fun k => impl_EqualFormats.f k a b) (eqFL a b) := by
  unfold impl_EqualFormats.f
  exact Ev.bind (implEqualFormats0_ev a b hl) (Ev.now _)

theorem specEqualFormats0_ev (a b : List S61) (hl : a.length ≤ 1048576) : Ev (fun k => spec_EqualFormats.f k a b) (eqFL a b) := by
  unfold spec_EqualFormats.f
  by_cases hn : a.length = b.length
  · refine evT ((a.length : Int) = (b.length : Int)) (by omega) ?_
    have := evUp (g := fun i k => spec_EqualFormats.l0 k a b (i : Int)) (R := fun i => eqFL (a.drop i) (b.drop i)) a.length ?_ ?_ 0 (Nat.zero_le _)
    · simpa using this
    · refine evSucc ?_
      simp only [spec_EqualFormats.l0]
      refine evF ((a.length : Int) < (a.length : Int)) (by omega) ?_
      rw [List.drop_of_length_le (Nat.le_refl _), List.drop_of_length_le (by omega)]
      exact Ev.now _
    · intro i hi ih
      rw [drop_cons a z61 i hi, drop_cons b z61 i (by omega)]
      refine evSucc ?_
      simp only [spec_EqualFormats.l0, rdF, eqF1_not]
      refine evT ((i : Int) < (a.length : Int)) (by omega) (evT (0 ≤ (i : Int)) (by omega) ?_)
      refine evT ((i : Int) < (b.length : Int)) (by omega) ?_
      simp only [eqFL]
      cases he : eqF1 (a.getD i z61) (b.getD i z61) with
      | true =>
        simp only [Bool.not_true, Bool.false_eq_true, if_false, Bool.true_and]
        rw [wsucc (by omega)]
        exact ih
      | false =>
        simp only [Bool.not_false, if_true, Bool.false_and]
        exact Ev.now _
  · refine evF ((a.length : Int) = (b.length : Int)) (by omega) ?_
    refine evB ?_
    cases h : eqFL a b with
    | false => rfl
    | true => exact absurd (eqFL_len a b h) hn

theorem specEqualFormats_ev (a b : List S61) (hl : a.length ≤ 1048576) : Ev (fun k => spec_EqualFormats.f k a b) (eqFL a b) := specEqualFormats0_ev a b hl

theorem FnExactEqualFormats : laws_FnExactEqualFormats.Pure := by
  intro a b ha hb
  refine Ev.rounds ?_
  unfold laws_FnExactEqualFormats.f
  rw [szFieldS_eq a _ (by omega) (by omega) ha.1]
  by_cases h1 : (1048576 : Int) < (a.length : Int)
  · simp only [if_pos h1, Option.bind_some]
    exact evT ((-1 : Int) < 0) (by omega) (Ev.now _)
  simp only [if_neg h1, Option.bind_some]
  refine evF ((1048576 : Int) - (a.length : Int) < 0) (by omega) ?_
  rw [szFieldS_eq b _ (by omega) (by omega) hb.1]
  by_cases h2 : (1048576 : Int) - (a.length : Int) < (b.length : Int)
  · simp only [if_pos h2, Option.bind_some]
    exact evT ((-1 : Int) < 0) (by omega) (Ev.now _)
  simp only [if_neg h2, Option.bind_some]
  refine evF ((1048576 : Int) - (a.length : Int) - (b.length : Int) < 0) (by omega) ?_
  repeat first
    | with_reducible exact Ev.now _
    | (with_reducible refine Ev.bind (toFieldS_ev _ ?_) ?_; (· (first | omega | assumption | (dsimp only; omega) | (simp; omega))))
    | (with_reducible refine Ev.bind (eqFieldS_same _ ?_) ?_; (· (first | omega | assumption | (dsimp only; omega) | (simp; omega))))
    | (with_reducible refine Ev.bind (implEqualFormats_ev _ _ ?_) ?_; (· (first | omega | assumption | (dsimp only; omega) | (simp; omega))))
    | (with_reducible refine Ev.bind (specEqualFormats_ev _ _ ?_) ?_; (· (first | omega | assumption | (dsimp only; omega) | (simp; omega))))
    | simp only [if_true, if_false, Bool.false_eq_true, Bool.not_true, Bool.not_false, Bool.true_eq_false, mneg, mneg2, bne_self_eq_false, Option.bind_some]

end Go.Proofs.Ytmdmgilhcecanaa.Pure
