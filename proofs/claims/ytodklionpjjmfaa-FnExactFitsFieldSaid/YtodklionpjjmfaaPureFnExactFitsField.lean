/- The law FnExactFitsField returns true for all arguments: the program's FitsField and the reference's agree, and the field and the value that are given read as before. It holds for every input that the statement admits; no condition is added. -/
import Derived.Test.YtodklionpjjmfaaQFnExactFitsFieldx3
namespace Go.Proofs.Ytodklionpjjmfaa.Pure
open Go.RowKit Go.Proofs.Ytodklionpjjmfaa.QFnExactFitsField Go.Proofs.YtodklionpjjmfaaW.PrintWords Go.Proofs.YtodklionpjjmfaaW.PrintLast Go.Proofs.YtodklionpjjmfaaW.PrintMore
set_option linter.unusedVariables false
set_option linter.unusedSimpArgs false

theorem w64 {x : Int} (h0 : -9223372036854775808 ≤ x) (h1 : x ≤ 9223372036854775807) : wrap64 x = x := by unfold wrap64; omega
theorem wsucc {i : Nat} (h : i < 4611686018427387904) : wrap64 ((i : Int) + 1) = ((i + 1 : Nat) : Int) := by unfold wrap64; omega
theorem wfI {x : Int} (h : (Lit.int .i64 x).wf = true) : -9223372036854775808 ≤ x ∧ x ≤ 9223372036854775807 := by
  simp only [Lit.wf, Bool.and_eq_true, decide_eq_true_eq] at h
  exact h
theorem wfB {x : Int} (h : (Lit.int .u8 x).wf = true) : 0 ≤ x ∧ x ≤ 255 := by
  simp only [Lit.wf, Bool.and_eq_true, decide_eq_true_eq] at h
  exact h
theorem rdn (l : List Int) (i : Nat) : rd l (i : Int) = l.getD i 0 := by simp [rd]
theorem evOne {α : Type} {f : Option α} {r : α} (h : f = some r) : Ev (fun _ => f) r := ⟨0, fun _ _ => h⟩
theorem evUp {ρ : Type} {g : Nat → Nat → Option ρ} {R : Nat → ρ} (n : Nat) (last : Ev (g n) (R n)) (step : ∀ i, i < n → Ev (g (i + 1)) (R (i + 1)) → Ev (g i) (R i)) : ∀ i, i ≤ n → Ev (g i) (R i) := by
  intro i hi
  obtain ⟨d, hd⟩ : ∃ d, i + d = n := ⟨n - i, by omega⟩
  induction d generalizing i with
  | zero => obtain rfl : i = n := by omega
            exact last
  | succ d ih => exact step i (by omega) (ih (i + 1) (by omega) (by omega))
theorem getD_mem {α : Type} {l : List α} {i : Nat} {d : α} (h : i < l.length) : l.getD i d ∈ l := by
  rw [List.getD_eq_getElem?_getD, List.getElem?_eq_getElem h]; exact List.getElem_mem h
theorem getD_get {α : Type} {l : List α} {i : Nat} {d : α} (h : i < l.length) : l.getD i d = l[i] := by
  rw [List.getD_eq_getElem?_getD, List.getElem?_eq_getElem h]; rfl
theorem take_set_rep {α : Type} (l : List α) (z d : α) (i : Nat) (h : i < l.length) : (l.take i ++ List.replicate (l.length - i) z).set i (l.getD i d) = l.take (i + 1) ++ List.replicate (l.length - (i + 1)) z := by
  obtain ⟨m, hm⟩ : ∃ m, l.length - i = m + 1 := ⟨l.length - i - 1, by omega⟩
  have hm' : l.length - (i + 1) = m := by omega
  rw [hm, hm', List.set_append_right _ _ (by rw [List.length_take]; omega), List.length_take, Nat.min_eq_left (by omega), Nat.sub_self, List.replicate_succ, List.set_cons_zero, getD_get h, List.take_succ_eq_append_getElem h, List.append_assoc, List.singleton_append]
theorem drop_eq_iff {α : Type} (a b : List α) (d : α) (i : Nat) (ha : i < a.length) (hb : i < b.length) : (a.drop i = b.drop i) ↔ (a.getD i d = b.getD i d ∧ a.drop (i + 1) = b.drop (i + 1)) := by
  rw [List.drop_eq_getElem_cons ha, List.drop_eq_getElem_cons hb, List.cons.injEq, getD_get ha, getD_get hb]
theorem take_rep_len {α : Type} (l : List α) (z : α) (i : Nat) (h : i ≤ l.length) : (l.take i ++ List.replicate (l.length - i) z).length = l.length := by
  simp; omega

theorem evSucc {α : Type} {g : Nat → Option α} {r : α} (h : Ev (fun k => g (k + 1)) r) : Ev g r := Ev.step (fun _ => rfl) h
theorem evIte {α : Type} {c : Prop} [Decidable c] {f g : Nat → Option α} {r : α} (h1 : c → Ev f r) (h2 : ¬ c → Ev g r) : Ev (fun k => if c then f k else g k) r := by
  by_cases h : c
  · simp only [if_pos h]; exact h1 h
  · simp only [if_neg h]; exact h2 h
theorem evT {α : Type} {f g : Nat → Option α} {r : α} (c : Prop) [Decidable c] (h : c) (h1 : Ev f r) : Ev (fun k => if c then f k else g k) r := by
  simp only [if_pos h]; exact h1
theorem evF {α : Type} {f g : Nat → Option α} {r : α} (c : Prop) [Decidable c] (h : ¬ c) (h1 : Ev g r) : Ev (fun k => if c then f k else g k) r := by
  simp only [if_neg h]; exact h1
theorem mneg (n : Nat) : ((1 : Int) + (n : Int) < 0) = False := eq_false (by omega)
theorem mneg2 (n m : Nat) : ((1 : Int) + (n : Int) + (m : Int) < 0) = False := eq_false (by omega)

def numsB (l : List Int) (m : Int) : Bool := l.all fun n => decide (0 ≤ n ∧ n ≤ m)
def fitsFieldB (x0 x1 n : Int) (l : List Int) : Bool :=
  if x0 = 1 then decide (0 ≤ n ∧ n ≤ x1) && decide (l.length = 0)
  else if x0 = 2 then decide (n = 0 ∧ (l.length : Int) ≤ x1) && numsB l 255
  else if x0 = 3 then decide (n = 0 ∧ (l.length : Int) ≤ x1) && numsB l 99
  else false
theorem evB' {b b' : Bool} (h : b = b') : Ev (fun _ => some b) b' := by rw [h]; exact Ev.now _
theorem numsB_drop (l : List Int) (m : Int) (i : Nat) (hi : i < l.length) : numsB (l.drop i) m = (decide (0 ≤ l.getD i 0 ∧ l.getD i 0 ≤ m) && numsB (l.drop (i + 1)) m) := by
  unfold numsB
  rw [List.drop_eq_getElem_cons hi, List.all_cons, getD_get hi]

theorem inRange_eq (a b c : Int) : impl_InRange.f a b c = some (decide (b ≤ a ∧ a ≤ c)) := by
  unfold impl_InRange.f; by_cases h : b ≤ a <;> simp [h]

theorem implAreNumbers_ev (l : List Int) (m : Int) (hl : l.length ≤ 1048576) : Ev (fun k => impl_areNumbers.f k l 0 m) (numsB l m) := by
  have H : ∃ r, Ev (fun k => slices_IndexFunc_int_int.f k l 0 m) r ∧ decide (r ≥ 0) = !(numsB l m) := by
    unfold slices_IndexFunc_int_int.f
    have H2 : ∀ d i, i + d = l.length → ∃ r, Ev (fun k => slices_IndexFunc_int_int.l0 k l 0 m (l.length : Int) (i : Int)) r ∧ decide (r ≥ 0) = !(numsB (l.drop i) m) := by
      intro d
      induction d with
      | zero =>
        intro i hi
        refine ⟨-1, evSucc ?_, ?_⟩
        · simp only [slices_IndexFunc_int_int.l0]
          exact evF ((i : Int) < (l.length : Int)) (by omega) (Ev.now _)
        · rw [List.drop_of_length_le (by omega)]; rfl
      | succ d ih =>
        intro i hi
        have hlt : i < l.length := by omega
        have hd := numsB_drop l m i hlt
        by_cases hp : 0 ≤ l.getD i 0 ∧ l.getD i 0 ≤ m
        · obtain ⟨r, e, hr⟩ := ih (i + 1) (by omega)
          refine ⟨r, evSucc ?_, by rw [hd, decide_eq_true hp, Bool.true_and]; exact hr⟩
          simp only [slices_IndexFunc_int_int.l0, impl_areNumbers_1.f, inRange_eq, Option.bind_some, rdn, decide_eq_true hp, Bool.not_true, Bool.false_eq_true, if_false]
          refine evT ((i : Int) < (l.length : Int)) (by omega) (evT (0 ≤ (i : Int)) (by omega) (evT ((i : Int) < (l.length : Int)) (by omega) ?_))
          rw [wsucc (by omega)]
          exact e
        · refine ⟨(i : Int), evSucc ?_, by rw [hd, decide_eq_false hp, Bool.false_and]; simp⟩
          simp only [slices_IndexFunc_int_int.l0, impl_areNumbers_1.f, inRange_eq, Option.bind_some, rdn, decide_eq_false hp, Bool.not_false, if_true]
          exact evT ((i : Int) < (l.length : Int)) (by omega) (evT (0 ≤ (i : Int)) (by omega) (evT ((i : Int) < (l.length : Int)) (by omega) (Ev.now _)))
    exact H2 l.length 0 (by omega)
  obtain ⟨r, e, hr⟩ := H
  unfold impl_areNumbers.f slices_ContainsFunc_int_int.f
  refine Ev.bind (Ev.bind e (Ev.now _)) ?_
  rw [hr, Bool.not_not]
  exact Ev.now _
theorem implFitsField_ev (x0 x1 x2 x3 n : Int) (l : List Int) (hl : l.length ≤ 1048576) : Ev (fun k => impl_FitsField.f k x0 x1 x2 x3 n l) (fitsFieldB x0 x1 n l) := by
  unfold impl_FitsField.f fitsFieldB
  simp only [inRange_eq, Option.bind_some, decide_eq_true_eq]
  by_cases h1 : x0 = 1
  · rw [if_pos h1]
    refine evT (x0 = 1) h1 (evIte (fun h => ?_) (fun h => ?_))
    · rw [decide_eq_true h, Bool.true_and]
      refine evB' ?_
      by_cases hz : l.length = 0
      · rw [decide_eq_true hz, beq_iff_eq.mpr (by omega)]
      · rw [decide_eq_false hz, beq_eq_false_iff_ne.mpr (by omega)]
    · rw [decide_eq_false h, Bool.false_and]; exact Ev.now _
  rw [if_neg h1]
  refine evF (x0 = 1) h1 ?_
  by_cases h2 : x0 = 2
  · rw [if_pos h2]
    refine evT (x0 = 2) h2 (evIte (fun h => evIte (fun h' => ?_) (fun h' => ?_)) (fun h => ?_))
    · rw [decide_eq_true ⟨h, h'⟩, Bool.true_and]
      exact Ev.bind (implAreNumbers_ev l 255 hl) (Ev.now _)
    · rw [decide_eq_false (fun z => h' z.2), Bool.false_and]; exact Ev.now _
    · rw [decide_eq_false (fun z => h z.1), Bool.false_and]; exact Ev.now _
  rw [if_neg h2]
  refine evF (x0 = 2) h2 ?_
  by_cases h3 : x0 = 3
  · rw [if_pos h3]
    refine evT (x0 = 3) h3 (evIte (fun h => evIte (fun h' => ?_) (fun h' => ?_)) (fun h => ?_))
    · rw [decide_eq_true ⟨h, h'⟩, Bool.true_and]
      exact Ev.bind (implAreNumbers_ev l 99 hl) (Ev.now _)
    · rw [decide_eq_false (fun z => h' z.2), Bool.false_and]; exact Ev.now _
    · rw [decide_eq_false (fun z => h z.1), Bool.false_and]; exact Ev.now _
  rw [if_neg h3]
  exact evF (x0 = 3) h3 (Ev.now _)

theorem l1In_eq (a b c : Int) : spec_l1In.f a b c = some (decide (b ≤ a ∧ a ≤ c)) := by
  unfold spec_l1In.f; by_cases h : b ≤ a <;> simp [h]

theorem specFitsField_l (x0 x1 x2 x3 n m : Int) (l : List Int) (hl : l.length ≤ 1048576) : Ev (fun k => spec_FitsField.j0 k m x0 x1 x2 x3 n l) (decide (n = 0 ∧ (l.length : Int) ≤ x1) && numsB l m) := by
  refine evSucc ?_
  simp only [spec_FitsField.j0]
  have H : ∀ d i, i + d = l.length → Ev (fun k => spec_FitsField.l0 k m (i : Int) x0 x1 x2 x3 n l) (decide (n = 0 ∧ (l.length : Int) ≤ x1) && numsB (l.drop i) m) := by
    intro d
    induction d with
    | zero =>
      intro i hi
      refine evSucc ?_
      simp only [spec_FitsField.l0]
      refine evF ((i : Int) < (l.length : Int)) (by omega) ?_
      rw [List.drop_of_length_le (by omega)]
      refine evIte (fun h => evB' ?_) (fun h => evB' ?_)
      · by_cases h' : (l.length : Int) ≤ x1
        · rw [decide_eq_true h', decide_eq_true ⟨h, h'⟩]; rfl
        · rw [decide_eq_false h', decide_eq_false (fun z => h' z.2)]; rfl
      · rw [decide_eq_false (fun z => h z.1)]; rfl
    | succ d ih =>
      intro i hi
      have hlt : i < l.length := by omega
      rw [numsB_drop l m i hlt]
      refine evSucc ?_
      simp only [spec_FitsField.l0, l1In_eq, Option.bind_some, rdn, decide_eq_true_eq]
      refine evT ((i : Int) < (l.length : Int)) (by omega) (evT (0 ≤ (i : Int)) (by omega) ?_)
      refine evIte (fun h => ?_) (fun h => ?_)
      · rw [decide_eq_true h, Bool.true_and, wsucc (by omega)]
        exact ih (i + 1) (by omega)
      · rw [decide_eq_false h, Bool.false_and, Bool.and_false]
        exact Ev.now _
  exact H l.length 0 (by omega)
theorem specFitsField_ev (x0 x1 x2 x3 n : Int) (l : List Int) (hl : l.length ≤ 1048576) : Ev (fun k => spec_FitsField.f k x0 x1 x2 x3 n l) (fitsFieldB x0 x1 n l) := by
  unfold spec_FitsField.f fitsFieldB
  simp only [l1In_eq, Option.bind_some, decide_eq_true_eq]
  by_cases h1 : x0 = 1
  · rw [if_pos h1]
    refine evT (x0 = 1) h1 (evIte (fun h => ?_) (fun h => ?_))
    · rw [decide_eq_true h, Bool.true_and]
      refine evB' ?_
      by_cases hz : l.length = 0
      · rw [decide_eq_true hz, beq_iff_eq.mpr (by omega)]
      · rw [decide_eq_false hz, beq_eq_false_iff_ne.mpr (by omega)]
    · rw [decide_eq_false h, Bool.false_and]; exact Ev.now _
  rw [if_neg h1]
  refine evF (x0 = 1) h1 ?_
  by_cases h3 : x0 = 3
  · have h2 : ¬ x0 = 2 := by omega
    rw [if_neg h2, if_pos h3]
    exact evT (x0 = 3) h3 (specFitsField_l x0 x1 x2 x3 n 99 l hl)
  refine evF (x0 = 3) h3 ?_
  by_cases h2 : x0 = 2
  · rw [if_pos h2]
    exact evT (x0 = 2) h2 (specFitsField_l x0 x1 x2 x3 n 255 l hl)
  rw [if_neg h2, if_neg h3]
  exact evF (x0 = 2) h2 (Ev.now _)

theorem toIntS_ev (l : List Int) (hl : l.length ≤ 35184372088832) : Ev (fun k => laws_toIntS.f k l) l := by
  have H : Ev (fun k => laws_toIntS.l0 k l (List.replicate l.length 0) 0) l := by
    have := evUp (g := fun i k => laws_toIntS.l0 k l (l.take i ++ List.replicate (l.length - i) 0) (i : Int)) (R := fun _ => l) l.length ?_ ?_ 0 (Nat.zero_le _)
    · simpa using this
    · refine Ev.step (f := fun _ => some l) (fun k => ?_) (Ev.now _)
      simp only [laws_toIntS.l0]
      rw [if_neg (by omega)]
      simp
    · intro i hi ih
      refine Ev.step (fun k => ?_) ih
      simp only [laws_toIntS.l0]
      rw [if_pos (by omega), if_pos (by omega), if_pos (by rw [take_rep_len l 0 i (by omega)]; omega), wsucc (by omega), rdn, Int.toNat_natCast, take_set_rep l 0 0 i hi]
  refine Ev.congr (fun k => ?_) H
  unfold laws_toIntS.f
  rw [if_pos (by omega), if_pos (by omega)]
  simp

theorem eqIntS_ev (a b : List Int) (hl : a.length ≤ 281474976710656) : Ev (fun k => laws_eqIntS.f k a b) (decide (a = b)) := by
  by_cases hn : a.length = b.length
  · have H : Ev (fun k => laws_eqIntS.l0 k a b 0) (decide (a = b)) := by
      have := evUp (g := fun i k => laws_eqIntS.l0 k a b (i : Int)) (R := fun i => decide (a.drop i = b.drop i)) a.length ?_ ?_ 0 (Nat.zero_le _)
      · simpa using this
      · refine Ev.step (f := fun _ => some true) (fun k => ?_) (by simpa [hn] using Ev.now true)
        simp only [laws_eqIntS.l0]
        rw [if_neg (by omega)]
      · intro i hi ih
        have hd := drop_eq_iff a b 0 i hi (by omega)
        by_cases he : a.getD i 0 = b.getD i 0
        · refine Ev.step (f := fun k => laws_eqIntS.l0 k a b ((i + 1 : Nat) : Int)) (fun k => ?_) ?_
          · simp only [laws_eqIntS.l0]
            rw [if_pos (by omega), if_pos (by omega), if_pos (by omega), rdn, rdn, if_pos he, wsucc (by omega)]
          · have e : decide (a.drop i = b.drop i) = decide (a.drop (i + 1) = b.drop (i + 1)) := decide_eq_decide.mpr (hd.trans (and_iff_right he))
            simp only [e]
            exact ih
        · refine Ev.step (f := fun _ => some false) (fun k => ?_) ?_
          · simp only [laws_eqIntS.l0]
            rw [if_pos (by omega), if_pos (by omega), if_pos (by omega), rdn, rdn, if_neg he]
          · have e : decide (a.drop i = b.drop i) = false := decide_eq_false (fun h => he (hd.mp h).1)
            simp only [e]
            exact Ev.now false
    refine Ev.congr (fun k => ?_) H
    unfold laws_eqIntS.f
    rw [if_pos (by omega)]
  · have e : decide (a = b) = false := decide_eq_false (fun h => hn (by rw [h]))
    rw [e]
    refine Ev.congr (f := fun _ => some false) (fun k => ?_) (Ev.now false)
    unfold laws_eqIntS.f
    rw [if_neg (by omega)]
theorem eqIntS_same (a : List Int) (hl : a.length ≤ 281474976710656) : Ev (fun k => laws_eqIntS.f k a a) true := by simpa using eqIntS_ev a a hl

theorem toValue_ev (n : Int) (l : List Int) (hl : l.length ≤ 1048576) : Ev (fun k => laws_toValue.f k n l) (n, l) := by
  unfold laws_toValue.f
  exact Ev.bind (toIntS_ev l (by omega)) (Ev.now _)
theorem eqValue_same (n : Int) (l : List Int) (hl : l.length ≤ 1048576) : Ev (fun k => laws_eqValue.f k n l n l) true := by
  unfold laws_eqValue.f
  refine evT (n = n) rfl (Ev.bind (eqIntS_same l (by omega)) ?_)
  simp only [if_true]
  exact Ev.now _
theorem szIntS_eq (l : List Int) (a : Int) (h0 : 0 ≤ a) (h1 : a ≤ 1048576) (hl : l.length ≤ maxLen) : laws_szIntS.f l a = some (if a < (l.length : Int) then -1 else a - (l.length : Int)) := by
  unfold maxLen at hl
  unfold laws_szIntS.f
  rw [w64 (by omega) (by omega)]
  by_cases h : a < (l.length : Int)
  · rw [if_pos h, if_pos (by omega)]
  · rw [if_neg h, if_neg (by omega)]
theorem szValue_eq (n : Int) (l : List Int) (a : Int) (h0 : 0 ≤ a) (h1 : a ≤ 1048576) (hl : l.length ≤ maxLen) : laws_szValue.f n l a = some (if a < (l.length : Int) then -1 else a - (l.length : Int)) := by
  unfold laws_szValue.f
  rw [szIntS_eq l a h0 h1 hl]
  by_cases h : a < (l.length : Int)
  · rw [if_pos h]; rfl
  · rw [if_neg h]
    simp only [Option.bind_some]
    rw [if_neg (by omega)]

theorem FnExactFitsField : laws_FnExactFitsField.Pure := by
  intro x0 x1 x2 x3 n l _ _ _ _ _ hl
  refine Ev.rounds ?_
  unfold laws_FnExactFitsField.f laws_toField.f
  rw [szValue_eq n l _ (by omega) (by omega) hl.1]
  by_cases h1 : (1048576 : Int) < (l.length : Int)
  · simp only [if_pos h1, Option.bind_some]
    exact evT ((-1 : Int) < 0) (by omega) (Ev.now _)
  simp only [if_neg h1, Option.bind_some]
  refine evF ((1048576 : Int) - (l.length : Int) < 0) (by omega) ?_
  repeat first
    | with_reducible exact Ev.now _
    | (with_reducible refine Ev.bind (toValue_ev _ _ ?_) ?_; (· (first | omega | assumption | (dsimp only; omega) | (simp; omega))))
    | (with_reducible refine Ev.bind (eqValue_same _ _ ?_) ?_; (· (first | omega | assumption | (dsimp only; omega) | (simp; omega))))
    | (with_reducible refine Ev.bind (implFitsField_ev _ _ _ _ _ _ ?_) ?_; (· (first | omega | assumption | (dsimp only; omega) | (simp; omega))))
    | (with_reducible refine Ev.bind (specFitsField_ev _ _ _ _ _ _ ?_) ?_; (· (first | omega | assumption | (dsimp only; omega) | (simp; omega))))
    | simp only [if_true, if_false, Bool.false_eq_true, Bool.not_true, Bool.not_false, Bool.true_eq_false, mneg, mneg2, bne_self_eq_false, Option.bind_some]

end Go.Proofs.Ytodklionpjjmfaa.Pure
