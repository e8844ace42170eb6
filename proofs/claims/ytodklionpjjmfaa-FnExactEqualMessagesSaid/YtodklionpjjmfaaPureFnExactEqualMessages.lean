/- The law FnExactEqualMessages returns true for all arguments: the program's EqualMessages and the reference's agree, and the messages that are given read as before. It holds for every input that the statement admits; no condition is added. -/
import Derived.Test.YtodklionpjjmfaaQFnExactEqualMessagesx3
namespace Go.Proofs.Ytodklionpjjmfaa.Pure
open Go.RowKit Go.Proofs.Ytodklionpjjmfaa.QFnExactEqualMessages Go.Proofs.YtodklionpjjmfaaW.PrintWords Go.Proofs.YtodklionpjjmfaaW.PrintLast Go.Proofs.YtodklionpjjmfaaW.PrintMore
set_option linter.unusedVariables false
set_option linter.unusedSimpArgs false

theorem w64 {x : Int} (h0 : -9223372036854775808 ≤ x) (h1 : x ≤ 9223372036854775807) : wrap64 x = x := by unfold wrap64; omega
theorem wsucc {i : Nat} (h : i < 4611686018427387904) : wrap64 ((i : Int) + 1) = ((i + 1 : Nat) : Int) := by unfold wrap64; omega
theorem wfI {x : Int} (h : (Lit.int .i64 x).wf = true) : -9223372036854775808 ≤ x ∧ x ≤ 9223372036854775807 := by
  simp only [Lit.wf, Bool.and_eq_true, decide_eq_true_eq] at h
  exact h
theorem wfB {x : Int} (h : (Lit.int .u8 x).wf = true) : 0 ≤ x ∧ x ≤ 255 := by
  simp only [Lit.wf, Bool.and_eq_true, decide_eq_true_eq] at h
  exact h
theorem rdn (l : List Int) (i : Nat) : rd l (i : Int) = l.getD i 0 := by simp [rd]
theorem evOne {α : Type} {f : Option α} {r : α} (h : f = some r) : Ev (fun _ => f) r := ⟨0, fun _ _ => h⟩
theorem evUp {ρ : Type} {g : Nat → Nat → Option ρ} {R : Nat → ρ} (n : Nat) (last : Ev (g n) (R n)) (step : ∀ i, i < n → Ev (g (i + 1)) (R (i + 1)) → Ev (g i) (R i)) : ∀ i, i ≤ n → Ev (g i) (R i) := by
  intro i hi
  obtain ⟨d, hd⟩ : ∃ d, i + d = n := ⟨n - i, by omega⟩
  induction d generalizing i with
  | zero => obtain rfl : i = n := by omega
            exact last
  | succ d ih => exact step i (by omega) (ih (i + 1) (by omega) (by omega))
theorem getD_mem {α : Type} {l : List α} {i : Nat} {d : α} (h : i < l.length) : l.getD i d ∈ l := by
  rw [List.getD_eq_getElem?_getD, List.getElem?_eq_getElem h]; exact List.getElem_mem h
theorem getD_get {α : Type} {l : List α} {i : Nat} {d : α} (h : i < l.length) : l.getD i d = l[i] := by
  rw [List.getD_eq_getElem?_getD, List.getElem?_eq_getElem h]; rfl
theorem take_set_rep {α : Type} (l : List α) (z d : α) (i : Nat) (h : i < l.length) : (l.take i ++ List.replicate (l.length - i) z).set i (l.getD i d) = l.take (i + 1) ++ List.replicate (l.length - (i + 1)) z := by
  obtain ⟨m, hm⟩ : ∃ m, l.length - i = m + 1 := ⟨l.length - i - 1, by omega⟩
  have hm' : l.length - (i + 1) = m := by omega
  rw [hm, hm', List.set_append_right _ _ (by rw [List.length_take]; omega), List.length_take, Nat.min_eq_left (by omega), Nat.sub_self, List.replicate_succ, List.set_cons_zero, getD_get h, List.take_succ_eq_append_getElem h, List.append_assoc, List.singleton_append]
theorem drop_eq_iff {α : Type} (a b : List α) (d : α) (i : Nat) (ha : i < a.length) (hb : i < b.length) : (a.drop i = b.drop i) ↔ (a.getD i d = b.getD i d ∧ a.drop (i + 1) = b.drop (i + 1)) := by
  rw [List.drop_eq_getElem_cons ha, List.drop_eq_getElem_cons hb, List.cons.injEq, getD_get ha, getD_get hb]
theorem take_rep_len {α : Type} (l : List α) (z : α) (i : Nat) (h : i ≤ l.length) : (l.take i ++ List.replicate (l.length - i) z).length = l.length := by
  simp; omega

theorem evSucc {α : Type} {g : Nat → Option α} {r : α} (h : Ev (fun k => g (k + 1)) r) : Ev g r := Ev.step (fun _ => rfl) h
theorem evIte {α : Type} {c : Prop} [Decidable c] {f g : Nat → Option α} {r : α} (h1 : c → Ev f r) (h2 : ¬ c → Ev g r) : Ev (fun k => if c then f k else g k) r := by
  by_cases h : c
  · simp only [if_pos h]; exact h1 h
  · simp only [if_neg h]; exact h2 h
theorem evT {α : Type} {f g : Nat → Option α} {r : α} (c : Prop) [Decidable c] (h : c) (h1 : Ev f r) : Ev (fun k => if c then f k else g k) r := by
  simp only [if_pos h]; exact h1
theorem evF {α : Type} {f g : Nat → Option α} {r : α} (c : Prop) [Decidable c] (h : ¬ c) (h1 : Ev g r) : Ev (fun k => if c then f k else g k) r := by
  simp only [if_neg h]; exact h1
theorem mneg (n : Nat) : ((1 : Int) + (n : Int) < 0) = False := eq_false (by omega)
theorem mneg2 (n m : Nat) : ((1 : Int) + (n : Int) + (m : Int) < 0) = False := eq_false (by omega)

theorem rdV (l : List S31) (i : Nat) : rd_T31 l (i : Int) = l.getD i z31 := by simp [rd_T31]

def eqMsgFrom (a b : List S31) : Nat → Nat → Bool
  | 0, _ => true
  | d + 1, i => (decide ((a.getD i z31).f0 = (b.getD i z31).f0) && decide ((a.getD i z31).f1 = (b.getD i z31).f1)) && eqMsgFrom a b d (i + 1)
def eqMsgB (a b : List S31) : Bool := decide (a.length = b.length) && eqMsgFrom a b a.length 0
theorem item_len {m : List S31} {c : Nat} (h : ∀ x ∈ m, x.f1.length ≤ c) (i : Nat) (hi : i < m.length) : (m.getD i z31).f1.length ≤ c := by
  rw [List.getD_eq_getElem?_getD, List.getElem?_eq_getElem hi, Option.getD_some]
  exact h _ (List.getElem_mem hi)

theorem slicesEqual_int_ev (a b : List Int) (hl : a.length ≤ 281474976710656) : Ev (fun k => slices_Equal_int_int.f k a b) (decide (a = b)) := by
  by_cases hn : a.length = b.length
  · have H : Ev (fun k => slices_Equal_int_int.l0 k a b (a.length : Int) 0) (decide (a = b)) := by
      have := evUp (g := fun i k => slices_Equal_int_int.l0 k a b (a.length : Int) (i : Int)) (R := fun i => decide (a.drop i = b.drop i)) a.length ?_ ?_ 0 (Nat.zero_le _)
      · simpa using this
      · refine Ev.step (f := fun _ => some true) (fun k => ?_) (by simpa [hn] using Ev.now true)
        simp only [slices_Equal_int_int.l0]
        rw [if_neg (by omega)]
      · intro i hi ih
        have hd := drop_eq_iff a b 0 i hi (by omega)
        by_cases he : a.getD i 0 = b.getD i 0
        · refine Ev.step (f := fun k => slices_Equal_int_int.l0 k a b (a.length : Int) ((i + 1 : Nat) : Int)) (fun k => ?_) ?_
          · simp only [slices_Equal_int_int.l0]
            rw [if_pos (by omega), if_pos (by omega), if_pos (by omega), if_pos (by omega), rdn, rdn, if_pos he, wsucc (by omega)]
          · have e : decide (a.drop i = b.drop i) = decide (a.drop (i + 1) = b.drop (i + 1)) := decide_eq_decide.mpr (hd.trans (and_iff_right he))
            simp only [e]
            exact ih
        · refine Ev.step (f := fun _ => some false) (fun k => ?_) ?_
          · simp only [slices_Equal_int_int.l0]
            rw [if_pos (by omega), if_pos (by omega), if_pos (by omega), if_pos (by omega), rdn, rdn, if_neg he]
          · have e : decide (a.drop i = b.drop i) = false := decide_eq_false (fun h => he (hd.mp h).1)
            simp only [e]
            exact Ev.now false
    refine Ev.congr (fun k => ?_) H
    unfold slices_Equal_int_int.f
    rw [if_pos (by omega)]
  · have e : decide (a = b) = false := decide_eq_false (fun h => hn (by rw [h]))
    rw [e]
    refine Ev.congr (f := fun _ => some false) (fun k => ?_) (Ev.now false)
    unfold slices_Equal_int_int.f
    rw [if_neg (by omega)]

theorem eqLit_ev (x : Int) (l : List Int) (y : Int) (m : List Int) (hl : l.length ≤ 1048576) : Ev (fun k => impl_EqualMessages_1.f k x l y m) (decide (x = y) && decide (l = m)) := by
  unfold impl_EqualMessages_1.f
  by_cases h : x = y
  · rw [decide_eq_true h, Bool.true_and]
    exact evT (x = y) h (Ev.bind (slicesEqual_int_ev l m (by omega)) (Ev.now _))
  · rw [decide_eq_false h, Bool.false_and]
    exact evF (x = y) h (Ev.now _)
theorem implEqMsg_loop (a b : List S31) (he : a.length = b.length) (hl : a.length ≤ 1048576) (hx : ∀ x ∈ a, x.f1.length ≤ 1048576) (d : Nat) : ∀ i : Nat, i + d = a.length → Ev (fun k => impl_Value.l0 k b a (a.length : Int) (i : Int)) (eqMsgFrom a b d i) := by
  induction d with
  | zero =>
    intro i hi
    refine evSucc ?_
    simp only [impl_Value.l0]
    exact evF ((i : Int) < (a.length : Int)) (by omega) (Ev.now _)
  | succ d ih =>
    intro i hi
    have ih := ih (i + 1) (by omega)
    have hj := item_len hx i (by omega)
    show Ev _ ((decide ((a.getD i z31).f0 = (b.getD i z31).f0) && decide ((a.getD i z31).f1 = (b.getD i z31).f1)) && eqMsgFrom a b d (i + 1))
    refine evSucc ?_
    simp only [impl_Value.l0, rdV]
    rw [wsucc (by omega)]
    refine evT ((i : Int) < (a.length : Int)) (by omega) (evT (0 ≤ (i : Int)) (by omega) (evT ((i : Int) < (a.length : Int)) (by omega) (evT ((i : Int) < (b.length : Int)) (by omega) (Ev.bind (eqLit_ev _ _ _ _ hj) ?_))))
    generalize (decide ((a.getD i z31).f0 = (b.getD i z31).f0) && decide ((a.getD i z31).f1 = (b.getD i z31).f1)) = t
    cases t with
    | true => rw [Bool.true_and]; exact evT (true = true) rfl ih
    | false => rw [Bool.false_and]; exact evF (false = true) (by simp) (Ev.now _)
theorem implEqMsg_ev (a b : List S31) (hl : a.length ≤ 1048576) (hx : ∀ x ∈ a, x.f1.length ≤ 1048576) : Ev (fun k => impl_EqualMessages.f k a b) (eqMsgB a b) := by
  have H : Ev (fun k => impl_Value.f k a b 0) (eqMsgB a b) := by
    unfold impl_Value.f eqMsgB
    by_cases he : a.length = b.length
    · rw [decide_eq_true he, Bool.true_and]
      exact evT ((a.length : Int) = (b.length : Int)) (by omega) (implEqMsg_loop a b he hl hx a.length 0 (by omega))
    · rw [decide_eq_false he, Bool.false_and]
      exact evF ((a.length : Int) = (b.length : Int)) (by omega) (Ev.now _)
  unfold impl_EqualMessages.f
  exact Ev.bind H (Ev.now _)

theorem specEqualInts_ev (a b : List Int) (hl : a.length ≤ 281474976710656) : Ev (fun k => spec_EqualInts.f k a b) (decide (a = b)) := by
  by_cases hn : a.length = b.length
  · have H : Ev (fun k => spec_EqualInts.l0 k a b 0) (decide (a = b)) := by
      have := evUp (g := fun i k => spec_EqualInts.l0 k a b (i : Int)) (R := fun i => decide (a.drop i = b.drop i)) a.length ?_ ?_ 0 (Nat.zero_le _)
      · simpa using this
      · refine Ev.step (f := fun _ => some true) (fun k => ?_) (by simpa [hn] using Ev.now true)
        simp only [spec_EqualInts.l0]
        rw [if_neg (by omega)]
      · intro i hi ih
        have hd := drop_eq_iff a b 0 i hi (by omega)
        by_cases he : a.getD i 0 = b.getD i 0
        · refine Ev.step (f := fun k => spec_EqualInts.l0 k a b ((i + 1 : Nat) : Int)) (fun k => ?_) ?_
          · simp only [spec_EqualInts.l0]
            rw [if_pos (by omega), if_pos (by omega), if_pos (by omega), rdn, rdn, if_pos he, wsucc (by omega)]
          · have e : decide (a.drop i = b.drop i) = decide (a.drop (i + 1) = b.drop (i + 1)) := decide_eq_decide.mpr (hd.trans (and_iff_right he))
            simp only [e]
            exact ih
        · refine Ev.step (f := fun _ => some false) (fun k => ?_) ?_
          · simp only [spec_EqualInts.l0]
            rw [if_pos (by omega), if_pos (by omega), if_pos (by omega), rdn, rdn, if_neg he]
          · have e : decide (a.drop i = b.drop i) = false := decide_eq_false (fun h => he (hd.mp h).1)
            simp only [e]
            exact Ev.now false
    refine Ev.congr (fun k => ?_) H
    unfold spec_EqualInts.f
    rw [if_pos (by omega)]
  · have e : decide (a = b) = false := decide_eq_false (fun h => hn (by rw [h]))
    rw [e]
    refine Ev.congr (f := fun _ => some false) (fun k => ?_) (Ev.now false)
    unfold spec_EqualInts.f
    rw [if_neg (by omega)]

theorem specEqMsg_loop (a b : List S31) (he : a.length = b.length) (hl : a.length ≤ 1048576) (hx : ∀ x ∈ a, x.f1.length ≤ 1048576) (d : Nat) : ∀ i : Nat, i + d = a.length → Ev (fun k => spec_EqualMessages.l0 k a b (i : Int)) (eqMsgFrom a b d i) := by
  induction d with
  | zero =>
    intro i hi
    refine evSucc ?_
    simp only [spec_EqualMessages.l0]
    exact evF ((i : Int) < (a.length : Int)) (by omega) (Ev.now _)
  | succ d ih =>
    intro i hi
    have ih := ih (i + 1) (by omega)
    have hj := item_len hx i (by omega)
    show Ev _ ((decide ((a.getD i z31).f0 = (b.getD i z31).f0) && decide ((a.getD i z31).f1 = (b.getD i z31).f1)) && eqMsgFrom a b d (i + 1))
    refine evSucc ?_
    simp only [spec_EqualMessages.l0, rdV]
    rw [wsucc (by omega)]
    refine evT ((i : Int) < (a.length : Int)) (by omega) (evT (0 ≤ (i : Int)) (by omega) (evT ((i : Int) < (b.length : Int)) (by omega) ?_))
    by_cases h : (a.getD i z31).f0 = (b.getD i z31).f0
    · rw [decide_eq_true h, Bool.true_and]
      refine evT ((a.getD i z31).f0 = (b.getD i z31).f0) h (Ev.bind (specEqualInts_ev _ _ (by omega)) ?_)
      generalize decide ((a.getD i z31).f1 = (b.getD i z31).f1) = t
      cases t with
      | true => rw [Bool.true_and]; exact evT (true = true) rfl ih
      | false => rw [Bool.false_and]; exact evF (false = true) (by simp) (Ev.now _)
    · rw [decide_eq_false h, Bool.false_and, Bool.false_and]
      exact evF ((a.getD i z31).f0 = (b.getD i z31).f0) h (Ev.now _)
theorem specEqMsg_ev (a b : List S31) (hl : a.length ≤ 1048576) (hx : ∀ x ∈ a, x.f1.length ≤ 1048576) : Ev (fun k => spec_EqualMessages.f k a b) (eqMsgB a b) := by
  unfold spec_EqualMessages.f eqMsgB
  by_cases he : a.length = b.length
  · rw [decide_eq_true he, Bool.true_and]
    exact evT ((a.length : Int) = (b.length : Int)) (by omega) (specEqMsg_loop a b he hl hx a.length 0 (by omega))
  · rw [decide_eq_false he, Bool.false_and]
    exact evF ((a.length : Int) = (b.length : Int)) (by omega) (Ev.now _)

theorem toIntS_ev (l : List Int) (hl : l.length ≤ 35184372088832) : Ev (fun k => laws_toIntS.f k l) l := by
  have H : Ev (fun k => laws_toIntS.l0 k l (List.replicate l.length 0) 0) l := by
    have := evUp (g := fun i k => laws_toIntS.l0 k l (l.take i ++ List.replicate (l.length - i) 0) (i : Int)) (R := fun _ => l) l.length ?_ ?_ 0 (Nat.zero_le _)
    · simpa using this
    · refine Ev.step (f := fun _ => some l) (fun k => ?_) (Ev.now _)
      simp only [laws_toIntS.l0]
      rw [if_neg (by omega)]
      simp
    · intro i hi ih
      refine Ev.step (fun k => ?_) ih
      simp only [laws_toIntS.l0]
      rw [if_pos (by omega), if_pos (by omega), if_pos (by rw [take_rep_len l 0 i (by omega)]; omega), wsucc (by omega), rdn, Int.toNat_natCast, take_set_rep l 0 0 i hi]
  refine Ev.congr (fun k => ?_) H
  unfold laws_toIntS.f
  rw [if_pos (by omega), if_pos (by omega)]
  simp

theorem eqIntS_ev (a b : List Int) (hl : a.length ≤ 281474976710656) : Ev (fun k => laws_eqIntS.f k a b) (decide (a = b)) := by
  by_cases hn : a.length = b.length
  · have H : Ev (fun k => laws_eqIntS.l0 k a b 0) (decide (a = b)) := by
      have := evUp (g := fun i k => laws_eqIntS.l0 k a b (i : Int)) (R := fun i => decide (a.drop i = b.drop i)) a.length ?_ ?_ 0 (Nat.zero_le _)
      · simpa using this
      · refine Ev.step (f := fun _ => some true) (fun k => ?_) (by simpa [hn] using Ev.now true)
        simp only [laws_eqIntS.l0]
        rw [if_neg (by omega)]
      · intro i hi ih
        have hd := drop_eq_iff a b 0 i hi (by omega)
        by_cases he : a.getD i 0 = b.getD i 0
        · refine Ev.step (f := fun k => laws_eqIntS.l0 k a b ((i + 1 : Nat) : Int)) (fun k => ?_) ?_
          · simp only [laws_eqIntS.l0]
            rw [if_pos (by omega), if_pos (by omega), if_pos (by omega), rdn, rdn, if_pos he, wsucc (by omega)]
          · have e : decide (a.drop i = b.drop i) = decide (a.drop (i + 1) = b.drop (i + 1)) := decide_eq_decide.mpr (hd.trans (and_iff_right he))
            simp only [e]
            exact ih
        · refine Ev.step (f := fun _ => some false) (fun k => ?_) ?_
          · simp only [laws_eqIntS.l0]
            rw [if_pos (by omega), if_pos (by omega), if_pos (by omega), rdn, rdn, if_neg he]
          · have e : decide (a.drop i = b.drop i) = false := decide_eq_false (fun h => he (hd.mp h).1)
            simp only [e]
            exact Ev.now false
    refine Ev.congr (fun k => ?_) H
    unfold laws_eqIntS.f
    rw [if_pos (by omega)]
  · have e : decide (a = b) = false := decide_eq_false (fun h => hn (by rw [h]))
    rw [e]
    refine Ev.congr (f := fun _ => some false) (fun k => ?_) (Ev.now false)
    unfold laws_eqIntS.f
    rw [if_neg (by omega)]
theorem eqIntS_same (a : List Int) (hl : a.length ≤ 281474976710656) : Ev (fun k => laws_eqIntS.f k a a) true := by simpa using eqIntS_ev a a hl

theorem toValue_ev (n : Int) (l : List Int) (hl : l.length ≤ 1048576) : Ev (fun k => laws_toValue.f k n l) (n, l) := by
  unfold laws_toValue.f
  exact Ev.bind (toIntS_ev l (by omega)) (Ev.now _)
theorem eqValue_same (n : Int) (l : List Int) (hl : l.length ≤ 1048576) : Ev (fun k => laws_eqValue.f k n l n l) true := by
  unfold laws_eqValue.f
  refine evT (n = n) rfl (Ev.bind (eqIntS_same l (by omega)) ?_)
  simp only [if_true]
  exact Ev.now _
theorem szIntS_eq (l : List Int) (a : Int) (h0 : 0 ≤ a) (h1 : a ≤ 1048576) (hl : l.length ≤ maxLen) : laws_szIntS.f l a = some (if a < (l.length : Int) then -1 else a - (l.length : Int)) := by
  unfold maxLen at hl
  unfold laws_szIntS.f
  rw [w64 (by omega) (by omega)]
  by_cases h : a < (l.length : Int)
  · rw [if_pos h, if_pos (by omega)]
  · rw [if_neg h, if_neg (by omega)]
theorem szValue_eq (n : Int) (l : List Int) (a : Int) (h0 : 0 ≤ a) (h1 : a ≤ 1048576) (hl : l.length ≤ maxLen) : laws_szValue.f n l a = some (if a < (l.length : Int) then -1 else a - (l.length : Int)) := by
  unfold laws_szValue.f
  rw [szIntS_eq l a h0 h1 hl]
  by_cases h : a < (l.length : Int)
  · rw [if_pos h]; rfl
  · rw [if_neg h]
    simp only [Option.bind_some]
    rw [if_neg (by omega)]

def cvV (x : S26) : S31 := ⟨x.f0, x.f1⟩
theorem rdLV (l : List S26) (i : Nat) : rd_T26 l (i : Int) = l.getD i z26 := by simp [rd_T26]

theorem toValueS_ev (l : List S26) (hl : l.length ≤ 1048576) (hi : ∀ x ∈ l, x.f1.length ≤ 1048576) : Ev (fun k => laws_toValueS.f k l) (l.map cvV) := by
  have H : Ev (fun k => laws_toValueS.l0 k l (List.replicate l.length z31) 0) (l.map cvV) := by
    have := evUp (g := fun i k => laws_toValueS.l0 k l ((l.map cvV).take i ++ List.replicate ((l.map cvV).length - i) z31) (i : Int)) (R := fun _ => l.map cvV) l.length ?_ ?_ 0 (Nat.zero_le _)
    · simpa using this
    · refine evSucc ?_
      simp only [laws_toValueS.l0]
      refine evF ((l.length : Int) < (l.length : Int)) (by omega) ?_
      simp only [List.length_map, Nat.sub_self, List.replicate_zero, List.append_nil]
      rw [List.take_of_length_le (by simp)]
      exact Ev.now _
    · intro i hlt ih
      have hs := take_set_rep (l.map cvV) z31 z31 i (by simpa using hlt)
      have hg : (l.map cvV).getD i z31 = cvV (l.getD i z26) := by
        rw [getD_get (by simpa using hlt), getD_get hlt]
        simp
      rw [hg] at hs
      have hx := hi (l.getD i z26) (getD_mem hlt)
      refine evSucc ?_
      simp only [laws_toValueS.l0, rdLV]
      refine evT ((i : Int) < (l.length : Int)) (by omega) (evT (0 ≤ (i : Int)) (by omega) ?_)
      refine Ev.bind (toValue_ev _ _ hx) ?_
      refine evT ((i : Int) < ((((l.map cvV).take i ++ List.replicate ((l.map cvV).length - i) z31).length : Nat) : Int)) (by simp; omega) ?_
      rw [wsucc (by omega), Int.toNat_natCast]
      rw [← hs] at ih
      exact ih
  refine Ev.congr (fun k => ?_) H
  unfold laws_toValueS.f
  rw [if_pos (by omega), if_pos (by omega)]
  simp
theorem eqValueS_same (a : List S31) (hl : a.length ≤ 1048576) (hi : ∀ x ∈ a, x.f1.length ≤ 1048576) : Ev (fun k => laws_eqValueS.f k a a) true := by
  unfold laws_eqValueS.f
  refine evT ((a.length : Int) = (a.length : Int)) rfl ?_
  have := evUp (g := fun i k => laws_eqValueS.l0 k a a (i : Int)) (R := fun _ => true) a.length ?_ ?_ 0 (Nat.zero_le _)
  · simpa using this
  · refine evSucc ?_
    simp only [laws_eqValueS.l0]
    exact evF ((a.length : Int) < (a.length : Int)) (by omega) (Ev.now _)
  · intro i hlt ih
    have hx := hi (a.getD i z31) (getD_mem hlt)
    refine evSucc ?_
    simp only [laws_eqValueS.l0, rdV]
    refine evT ((i : Int) < (a.length : Int)) (by omega) (evT (0 ≤ (i : Int)) (by omega) (evT ((i : Int) < (a.length : Int)) (by omega) ?_))
    refine Ev.bind (eqValue_same _ _ hx) ?_
    simp only [if_true]
    rw [wsucc (by omega)]
    exact ih
theorem szValueS_ev (l : List S26) (a : Int) (h0 : 0 ≤ a) (h1 : a ≤ 1048576) (hl : l.length ≤ maxLen) (hi : ∀ x ∈ l, x.f1.length ≤ maxLen) :
    ∃ r, Ev (fun k => laws_szValueS.f k l a) r ∧ (0 ≤ r → r ≤ 1048576 ∧ l.length ≤ 1048576 ∧ ∀ x ∈ l, x.f1.length ≤ 1048576) := by
  unfold laws_szValueS.f
  unfold maxLen at hl
  rw [w64 (by omega) (by omega)]
  by_cases hbig : a - (l.length : Int) < 0
  · exact ⟨-1, evT (a - (l.length : Int) < 0) hbig (Ev.now _), fun h => by omega⟩
  have H : ∀ (d i : Nat) (left : Int), i + d = l.length → 0 ≤ left → left ≤ 1048576 → (∀ x ∈ l.take i, x.f1.length ≤ 1048576) →
      ∃ r, Ev (fun k => laws_szValueS.l0 k l left (i : Int)) r ∧ (0 ≤ r → r ≤ 1048576 ∧ ∀ x ∈ l, x.f1.length ≤ 1048576) := by
    intro d
    induction d with
    | zero =>
      intro i left hd hp hq hx
      refine ⟨left, evSucc ?_, fun _ => ⟨hq, ?_⟩⟩
      · simp only [laws_szValueS.l0]
        exact evF ((i : Int) < (l.length : Int)) (by omega) (Ev.now _)
      · rw [List.take_of_length_le (by omega)] at hx
        exact hx
    | succ d ih =>
      intro i left hd hp hq hx
      have hlt : i < l.length := by omega
      have hz := szValue_eq (l.getD i z26).f0 (l.getD i z26).f1 left hp hq (hi _ (getD_mem hlt))
      by_cases hb : left < ((l.getD i z26).f1.length : Int)
      · rw [if_pos hb] at hz
        refine ⟨-1, evSucc ?_, fun h => by omega⟩
        simp only [laws_szValueS.l0, rdLV, hz, Option.bind_some]
        exact evT ((i : Int) < (l.length : Int)) (by omega) (evT (0 ≤ (i : Int)) (by omega) (evT ((-1 : Int) < 0) (by omega) (Ev.now _)))
      · rw [if_neg hb] at hz
        obtain ⟨r, e, hr⟩ := ih (i + 1) (left - ((l.getD i z26).f1.length : Int)) (by omega) (by omega) (by omega) (fun x hx' => by
          rw [List.take_succ_eq_append_getElem hlt] at hx'
          rcases List.mem_append.1 hx' with h2 | h2
          · exact hx x h2
          · rw [List.mem_singleton.1 h2, ← getD_get (d := z26) hlt]
            omega)
        refine ⟨r, evSucc ?_, hr⟩
        simp only [laws_szValueS.l0, rdLV, hz, Option.bind_some]
        refine evT ((i : Int) < (l.length : Int)) (by omega) (evT (0 ≤ (i : Int)) (by omega) (evF (left - ((l.getD i z26).f1.length : Int) < 0) (by omega) ?_))
        rw [wsucc (by omega)]
        exact e
  obtain ⟨r, e, hr⟩ := H l.length 0 (a - (l.length : Int)) (by omega) (by omega) (by omega) (fun x hx => by simp at hx)
  exact ⟨r, evF (a - (l.length : Int) < 0) hbig e, fun h => ⟨(hr h).1, by omega, (hr h).2⟩⟩
theorem cv_items (l : List S26) (hi : ∀ x ∈ l, x.f1.length ≤ 1048576) : ∀ x ∈ l.map cvV, x.f1.length ≤ 1048576 := by
  intro x hx
  obtain ⟨y, hy, rfl⟩ := List.mem_map.1 hx
  exact hi y hy

theorem FnExactEqualMessages : laws_FnExactEqualMessages.Pure := by
  intro a b ha hb
  refine Ev.rounds ?_
  unfold laws_FnExactEqualMessages.f
  obtain ⟨q, hy, hq⟩ := szValueS_ev a 1048576 (by omega) (by omega) ha.1 (fun x hx => (ha.2 x hx).2.1)
  refine Ev.bind hy ?_
  by_cases h1 : q < 0
  · exact evT (q < 0) h1 (Ev.now _)
  refine evF (q < 0) h1 ?_
  have hq := hq (by omega)
  have hal := hq.2.1
  have hai := hq.2.2
  obtain ⟨r, hz, hr⟩ := szValueS_ev b q (by omega) (by omega) hb.1 (fun x hx => (hb.2 x hx).2.1)
  refine Ev.bind hz ?_
  by_cases h2 : r < 0
  · exact evT (r < 0) h2 (Ev.now _)
  refine evF (r < 0) h2 ?_
  have hr := hr (by omega)
  have hbl := hr.2.1
  have hbi := hr.2.2
  have hci := cv_items b hbi
  have hcj := cv_items a hai
  have ham : (a.map cvV).length ≤ 1048576 := by rw [List.length_map]; omega
  have hbm : (b.map cvV).length ≤ 1048576 := by rw [List.length_map]; omega
  repeat first
    | with_reducible exact Ev.now _
    | (with_reducible refine Ev.bind (toValueS_ev _ ?_ ?_) ?_; (· (first | omega | assumption | (dsimp only; omega) | (simp; omega))); (· (first | omega | assumption | (dsimp only; omega) | (simp; omega))))
    | (with_reducible refine Ev.bind (eqValueS_same _ ?_ ?_) ?_; (· (first | omega | assumption | (dsimp only; omega) | (simp; omega))); (· (first | omega | assumption | (dsimp only; omega) | (simp; omega))))
    | (with_reducible refine Ev.bind (implEqMsg_ev _ _ ?_ ?_) ?_; (· (first | omega | assumption | (dsimp only; omega) | (simp; omega))); (· (first | omega | assumption | (dsimp only; omega) | (simp; omega))))
    | (with_reducible refine Ev.bind (specEqMsg_ev _ _ ?_ ?_) ?_; (· (first | omega | assumption | (dsimp only; omega) | (simp; omega))); (· (first | omega | assumption | (dsimp only; omega) | (simp; omega))))
    | simp only [if_true, if_false, Bool.false_eq_true, Bool.not_true, Bool.not_false, Bool.true_eq_false, mneg, mneg2, bne_self_eq_false, Option.bind_some]

end Go.Proofs.Ytodklionpjjmfaa.Pure
