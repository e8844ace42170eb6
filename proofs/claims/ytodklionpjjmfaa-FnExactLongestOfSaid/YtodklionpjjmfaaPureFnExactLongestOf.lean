/- The law FnExactLongestOf returns true for all arguments: the program's LongestOf and the reference's agree, and the format that is given reads as before. It holds for every input that the statement admits; no condition is added. -/
import Derived.Test.YtodklionpjjmfaaQFnExactLongestOfx5
namespace Go.Proofs.Ytodklionpjjmfaa.Pure
open Go.RowKit Go.Proofs.Ytodklionpjjmfaa.QFnExactLongestOf Go.Proofs.YtodklionpjjmfaaW.PrintWords Go.Proofs.YtodklionpjjmfaaW.PrintLast Go.Proofs.YtodklionpjjmfaaW.PrintMore
set_option linter.unusedVariables false
set_option linter.unusedSimpArgs false

theorem w64 {x : Int} (h0 : -9223372036854775808 ≤ x) (h1 : x ≤ 9223372036854775807) : wrap64 x = x := by unfold wrap64; omega
theorem wsucc {i : Nat} (h : i < 4611686018427387904) : wrap64 ((i : Int) + 1) = ((i + 1 : Nat) : Int) := by unfold wrap64; omega
theorem wfI {x : Int} (h : (Lit.int .i64 x).wf = true) : -9223372036854775808 ≤ x ∧ x ≤ 9223372036854775807 := by
  simp only [Lit.wf, Bool.and_eq_true, decide_eq_true_eq] at h
  exact h
theorem wfB {x : Int} (h : (Lit.int .u8 x).wf = true) : 0 ≤ x ∧ x ≤ 255 := by
  simp only [Lit.wf, Bool.and_eq_true, decide_eq_true_eq] at h
  exact h
theorem rdn (l : List Int) (i : Nat) : rd l (i : Int) = l.getD i 0 := by simp [rd]
theorem evOne {α : Type} {f : Option α} {r : α} (h : f = some r) : Ev (fun _ => f) r := ⟨0, fun _ _ => h⟩
theorem evUp {ρ : Type} {g : Nat → Nat → Option ρ} {R : Nat → ρ} (n : Nat) (last : Ev (g n) (R n)) (step : ∀ i, i < n → Ev (g (i + 1)) (R (i + 1)) → Ev (g i) (R i)) : ∀ i, i ≤ n → Ev (g i) (R i) := by
  intro i hi
  obtain ⟨d, hd⟩ : ∃ d, i + d = n := ⟨n - i, by omega⟩
  induction d generalizing i with
  | zero => obtain rfl : i = n := by omega
            exact last
  | succ d ih => exact step i (by omega) (ih (i + 1) (by omega) (by omega))
theorem getD_mem {α : Type} {l : List α} {i : Nat} {d : α} (h : i < l.length) : l.getD i d ∈ l := by
  rw [List.getD_eq_getElem?_getD, List.getElem?_eq_getElem h]; exact List.getElem_mem h
theorem getD_get {α : Type} {l : List α} {i : Nat} {d : α} (h : i < l.length) : l.getD i d = l[i] := by
  rw [List.getD_eq_getElem?_getD, List.getElem?_eq_getElem h]; rfl
theorem take_set_rep {α : Type} (l : List α) (z d : α) (i : Nat) (h : i < l.length) : (l.take i ++ List.replicate (l.length - i) z).set i (l.getD i d) = l.take (i + 1) ++ List.replicate (l.length - (i + 1)) z := by
  obtain ⟨m, hm⟩ : ∃ m, l.length - i = m + 1 := ⟨l.length - i - 1, by omega⟩
  have hm' : l.length - (i + 1) = m := by omega
  rw [hm, hm', List.set_append_right _ _ (by rw [List.length_take]; omega), List.length_take, Nat.min_eq_left (by omega), Nat.sub_self, List.replicate_succ, List.set_cons_zero, getD_get h, List.take_succ_eq_append_getElem h, List.append_assoc, List.singleton_append]
theorem drop_eq_iff {α : Type} (a b : List α) (d : α) (i : Nat) (ha : i < a.length) (hb : i < b.length) : (a.drop i = b.drop i) ↔ (a.getD i d = b.getD i d ∧ a.drop (i + 1) = b.drop (i + 1)) := by
  rw [List.drop_eq_getElem_cons ha, List.drop_eq_getElem_cons hb, List.cons.injEq, getD_get ha, getD_get hb]
theorem take_rep_len {α : Type} (l : List α) (z : α) (i : Nat) (h : i ≤ l.length) : (l.take i ++ List.replicate (l.length - i) z).length = l.length := by
  simp; omega

theorem evSucc {α : Type} {g : Nat → Option α} {r : α} (h : Ev (fun k => g (k + 1)) r) : Ev g r := Ev.step (fun _ => rfl) h
theorem evIte {α : Type} {c : Prop} [Decidable c] {f g : Nat → Option α} {r : α} (h1 : c → Ev f r) (h2 : ¬ c → Ev g r) : Ev (fun k => if c then f k else g k) r := by
  by_cases h : c
  · simp only [if_pos h]; exact h1 h
  · simp only [if_neg h]; exact h2 h
theorem evT {α : Type} {f g : Nat → Option α} {r : α} (c : Prop) [Decidable c] (h : c) (h1 : Ev f r) : Ev (fun k => if c then f k else g k) r := by
  simp only [if_pos h]; exact h1
theorem evF {α : Type} {f g : Nat → Option α} {r : α} (c : Prop) [Decidable c] (h : ¬ c) (h1 : Ev g r) : Ev (fun k => if c then f k else g k) r := by
  simp only [if_neg h]; exact h1
theorem mneg (n : Nat) : ((1 : Int) + (n : Int) < 0) = False := eq_false (by omega)
theorem mneg2 (n m : Nat) : ((1 : Int) + (n : Int) + (m : Int) < 0) = False := eq_false (by omega)

def cvF (x : S23) : S29 := ⟨x.f0, x.f1, x.f2, x.f3⟩
theorem rdF (l : List S29) (i : Nat) : rd_T29 l (i : Int) = l.getD i z29 := by simp [rd_T29]
theorem rdLF (l : List S23) (i : Nat) : rd_T23 l (i : Int) = l.getD i z23 := by simp [rd_T23]
theorem evB {b b' : Bool} (h : b = b') : Ev (fun _ => some b) b' := by rw [h]; exact Ev.now _
theorem toFieldS_ev (l : List S23) (hl : l.length ≤ 1048576) : Ev (fun k => laws_toFieldS.f k l) (l.map cvF) := by
  have H : Ev (fun k => laws_toFieldS.l0 k l (List.replicate l.length z29) 0) (l.map cvF) := by
    have := evUp (g := fun i k => laws_toFieldS.l0 k l ((l.map cvF).take i ++ List.replicate ((l.map cvF).length - i) z29) (i : Int)) (R := fun _ => l.map cvF) l.length ?_ ?_ 0 (Nat.zero_le _)
    · simpa using this
    · refine evSucc ?_
      simp only [laws_toFieldS.l0]
      refine evF ((l.length : Int) < (l.length : Int)) (by omega) ?_
      simp only [List.length_map, Nat.sub_self, List.replicate_zero, List.append_nil]
      rw [List.take_of_length_le (by simp)]
      exact Ev.now _
    · intro i hi ih
      have hs := take_set_rep (l.map cvF) z29 z29 i (by simpa using hi)
      have hg : (l.map cvF).getD i z29 = cvF (l.getD i z23) := by
        rw [getD_get (by simpa using hi), getD_get hi]
        simp
      rw [hg] at hs
      refine evSucc ?_
      simp only [laws_toFieldS.l0, laws_toField.f, Option.bind_some, rdLF]
      refine evT ((i : Int) < (l.length : Int)) (by omega) (evT (0 ≤ (i : Int)) (by omega) (evT ((i : Int) < ((((l.map cvF).take i ++ List.replicate ((l.map cvF).length - i) z29).length : Nat) : Int)) (by simp; omega) ?_))
      rw [wsucc (by omega), Int.toNat_natCast]
      rw [← hs] at ih
      exact ih
  refine Ev.congr (fun k => ?_) H
  unfold laws_toFieldS.f
  rw [if_pos (by omega), if_pos (by omega)]
  simp
theorem eqFieldS_same (a : List S29) (hl : a.length ≤ 281474976710656) : Ev (fun k => laws_eqFieldS.f k a a) true := by
  unfold laws_eqFieldS.f
  refine evT ((a.length : Int) = (a.length : Int)) rfl ?_
  have := evUp (g := fun i k => laws_eqFieldS.l0 k a a (i : Int)) (R := fun _ => true) a.length ?_ ?_ 0 (Nat.zero_le _)
  · simpa using this
  · refine evSucc ?_
    simp only [laws_eqFieldS.l0]
    exact evF ((a.length : Int) < (a.length : Int)) (by omega) (Ev.now _)
  · intro i hi ih
    refine evSucc ?_
    simp only [laws_eqFieldS.l0, laws_eqField.f, if_true, Option.bind_some]
    refine evT ((i : Int) < (a.length : Int)) (by omega) (evT (0 ≤ (i : Int)) (by omega) (evT ((i : Int) < (a.length : Int)) (by omega) ?_))
    rw [wsucc (by omega)]
    exact ih
theorem szFieldS_eq (l : List S23) (a : Int) (h0 : 0 ≤ a) (h1 : a ≤ 1048576) (hl : l.length ≤ maxLen) : laws_szFieldS.f l a = some (if a < (l.length : Int) then -1 else a - (l.length : Int)) := by
  unfold maxLen at hl
  unfold laws_szFieldS.f
  rw [w64 (by omega) (by omega)]
  by_cases h : a < (l.length : Int)
  · rw [if_pos h, if_pos (by omega)]
  · rw [if_neg h, if_neg (by omega)]

theorem drop_cons {α : Type} (l : List α) (d : α) (i : Nat) (h : i < l.length) : l.drop i = l.getD i d :: l.drop (i + 1) := by
  rw [List.drop_eq_getElem_cons h, getD_get h]

def isFieldB (x0 x1 x2 x3 : Int) (n : Int) (g : S29) : Bool :=
  decide ((1 ≤ x0 ∧ x0 ≤ 3) ∧ (1 ≤ x1 ∧ x1 ≤ (if x0 = 1 then 99 else 5)) ∧ ((x2 = -1 ∧ x3 = 0) ∨ (¬ x2 = -1 ∧ (0 ≤ x2 ∧ x2 ≤ n - 1) ∧ g.f0 = 1 ∧ g.f2 = -1 ∧ (0 ≤ x3 ∧ x3 ≤ g.f1))))
def isFieldAt (l : List S29) (i : Nat) : Bool := isFieldB (l.getD i z29).f0 (l.getD i z29).f1 (l.getD i z29).f2 (l.getD i z29).f3 (i : Int) (rd_T29 l (l.getD i z29).f2)
def isFmtFrom (l : List S29) : Nat → Nat → Bool
  | 0, _ => decide (1 ≤ (l.length : Int) ∧ (l.length : Int) ≤ 6)
  | d + 1, i => isFieldAt l i && isFmtFrom l d (i + 1)
def isFormatB (l : List S29) : Bool := isFmtFrom l l.length 0
theorem isFieldB_guard (x0 x1 x2 x3 n : Int) (g g' : S29) (h : 0 ≤ x2 → x2 ≤ n - 1 → g = g') : isFieldB x0 x1 x2 x3 n g = isFieldB x0 x1 x2 x3 n g' := by
  by_cases h2 : 0 ≤ x2 ∧ x2 ≤ n - 1
  · rw [h h2.1 h2.2]
  · unfold isFieldB
    simp [h2]

theorem isFmtFrom_facts (l : List S29) (d : Nat) : ∀ i, i + d = l.length → isFmtFrom l d i = true → (1 ≤ l.length ∧ l.length ≤ 6) ∧ ∀ j, i ≤ j → j < l.length → isFieldAt l j = true := by
  induction d with
  | zero =>
    intro i hi h
    simp only [isFmtFrom, decide_eq_true_eq] at h
    exact ⟨by omega, fun j h1 h2 => by omega⟩
  | succ d ih =>
    intro i hi h
    simp only [isFmtFrom, Bool.and_eq_true] at h
    obtain ⟨a, b⟩ := ih (i + 1) (by omega) h.2
    refine ⟨a, fun j h1 h2 => ?_⟩
    rcases Nat.lt_or_ge i j with h3 | h3
    · exact b j h3 h2
    · obtain rfl : i = j := by omega
      exact h.1
theorem isFormat_facts {l : List S29} (h : isFormatB l = true) : (1 ≤ l.length ∧ l.length ≤ 6) ∧ ∀ j, j < l.length → isFieldAt l j = true := by
  obtain ⟨a, b⟩ := isFmtFrom_facts l l.length 0 (by omega) h
  exact ⟨a, fun j hj => b j (Nat.zero_le _) hj⟩
theorem isFieldAt_facts {l : List S29} {i : Nat} (h : isFieldAt l i = true) : (1 ≤ (l.getD i z29).f0 ∧ (l.getD i z29).f0 ≤ 3) ∧ 1 ≤ (l.getD i z29).f1 ∧ (l.getD i z29).f1 ≤ 99 ∧ ((l.getD i z29).f0 ≠ 1 → (l.getD i z29).f1 ≤ 5) := by
  unfold isFieldAt isFieldB at h
  rw [decide_eq_true_eq] at h
  obtain ⟨h1, h2, _⟩ := h
  generalize (l.getD i z29).f0 = a at h1 h2 ⊢
  generalize (l.getD i z29).f1 = b at h1 h2 ⊢
  by_cases h3 : a = 1
  · rw [if_pos h3] at h2; exact ⟨h1, h2.1, h2.2, fun h => absurd h3 h⟩
  · rw [if_neg h3] at h2; exact ⟨h1, h2.1, by omega, fun _ => h2.2⟩

def longP (l : List S29) : Nat → Int
  | 0 => 0
  | n + 1 => longP l n + (if (l.getD n z29).f0 = 1 then 0 else (l.getD n z29).f1)
def longestP (l : List S29) : Int := if isFormatB l = true then (l.length : Int) + longP l l.length else 0
theorem longP_succ (l : List S29) (n : Nat) : longP l (n + 1) = longP l n + (if (l.getD n z29).f0 = 1 then 0 else (l.getD n z29).f1) := rfl
theorem longP_range {l : List S29} (h : isFormatB l = true) (n : Nat) : n ≤ l.length → 0 ≤ longP l n ∧ longP l n ≤ 99 * n := by
  induction n with
  | zero => intro _; simp [longP]
  | succ n ih =>
    intro hn
    have a := ih (by omega)
    have b := isFieldAt_facts ((isFormat_facts h).2 n (by omega))
    unfold longP
    split <;> omega

theorem inRange_eq (a b c : Int) : impl_InRange.f a b c = some (decide (b ≤ a ∧ a ≤ c)) := by
  unfold impl_InRange.f; by_cases h : b ≤ a <;> simp [h]

theorem implIsField_ev (x0 x1 x2 x3 : Int) (e : List S29) (he : e.length ≤ 1048576) : Ev (fun k => impl_isField.f k x0 x1 x2 x3 e) (isFieldB x0 x1 x2 x3 (e.length : Int) (rd_T29 e x2)) := by
  have e1 : wrap64 ((e.length : Int) - 1) = (e.length : Int) - 1 := w64 (by omega) (by omega)
  unfold impl_isField.f isFieldB
  refine evIte (fun h0 => ?_) (fun h0 => ?_)
  all_goals
    refine evSucc ?_
    simp only [impl_isField.j0, inRange_eq, Option.bind_some, decide_eq_true_eq]
    refine evIte (fun h1 => ?_) (fun h1 => ?_)
    · refine evSucc ?_
      simp only [impl_isField.j1, inRange_eq, e1, Option.bind_some, decide_eq_true_eq, Bool.not_eq_true', decide_eq_false_iff_not]
      generalize rd_T29 e x2 = g
      obtain ⟨g0, g1, g2, g3⟩ := g
      simp only
      refine evIte (fun h2 => evB (Eq.symm (decide_eq_false (by omega)))) (fun h2 => ?_)
      refine evIte (fun h3 => ?_) (fun h3 => ?_)
      · refine evB ?_
        by_cases h4 : x3 = 0
        · rw [h4]; exact Eq.symm (decide_eq_true (by omega))
        · rw [beq_eq_false_iff_ne.mpr h4]; exact Eq.symm (decide_eq_false (by omega))
      · refine evIte (fun h4 => ?_) (fun h4 => evB (Eq.symm (decide_eq_false (by omega))))
        refine evT (0 ≤ x2) (by omega) (evT (x2 < (e.length : Int)) (by omega) ?_)
        refine evIte (fun h5 => ?_) (fun h5 => evB (Eq.symm (decide_eq_false (by omega))))
        refine evIte (fun h6 => ?_) (fun h6 => evB (Eq.symm (decide_eq_false (by omega))))
        exact evB (decide_eq_decide.mpr (by omega))
    · refine evSucc ?_
      simp only [impl_isField.j1, if_true]
      exact evB (Eq.symm (decide_eq_false (by omega)))
theorem rd_take (l : List S29) (i : Nat) (x : Int) (h0 : 0 ≤ x) (h1 : x < (i : Int)) : rd_T29 (l.take i) x = rd_T29 l x := by
  obtain ⟨a, rfl⟩ := Int.eq_ofNat_of_zero_le h0
  have ha : a < i := by omega
  rw [rdF, rdF, List.getD_eq_getElem?_getD, List.getD_eq_getElem?_getD, List.getElem?_take, if_pos ha]
theorem implIsFormat_ev (l : List S29) (hl : l.length ≤ 1048576) : Ev (fun k => impl_IsFormat.f k l) (isFormatB l) := by
  unfold impl_IsFormat.f isFormatB
  have H : ∀ d i, i + d = l.length → Ev (fun k => impl_IsFormat.l0 k l l (l.length : Int) (i : Int)) (isFmtFrom l d i) := by
    intro d
    induction d with
    | zero =>
      intro i hi
      refine evSucc ?_
      simp only [impl_IsFormat.l0, inRange_eq, Option.bind_some]
      exact evF ((i : Int) < (l.length : Int)) (by omega) (Ev.now _)
    | succ d ih =>
      intro i hi
      have hf := implIsField_ev (l.getD i z29).f0 (l.getD i z29).f1 (l.getD i z29).f2 (l.getD i z29).f3 (l.take i) (by rw [List.length_take]; omega)
      have hlen : ((l.take i).length : Int) = (i : Int) := by rw [List.length_take]; omega
      rw [hlen, isFieldB_guard _ _ _ _ _ _ (rd_T29 l (l.getD i z29).f2) (fun a b => rd_take l i _ a (by omega))] at hf
      refine evSucc ?_
      simp only [impl_IsFormat.l0, rdF]
      refine evT ((i : Int) < (l.length : Int)) (by omega) (evT (0 ≤ (i : Int)) (by omega) (evT ((i : Int) < (l.length : Int)) (by omega) (evT ((i : Int) ≤ (l.length : Int)) (by omega) ?_)))
      rw [Int.toNat_natCast]
      refine Ev.bind hf ?_
      unfold isFmtFrom isFieldAt
      refine evIte (fun h => ?_) (fun h => ?_)
      · rw [h, Bool.true_and, wsucc (by omega)]
        exact ih (i + 1) (by omega)
      · rw [Bool.eq_false_iff.mpr h, Bool.false_and]
        exact Ev.now _
  exact H l.length 0 (by omega)

theorem implLongestOf_ev (l : List S29) (hl : l.length ≤ 1048576) : Ev (fun k => impl_LongestOf.f k l) (longestP l) := by
  unfold impl_LongestOf.f longestP
  refine Ev.bind (implIsFormat_ev l hl) ?_
  by_cases hf : isFormatB l = true
  · rw [if_pos hf]
    refine evT (isFormatB l = true) hf ?_
    have hn := (isFormat_facts hf).1
    have := evUp (g := fun i k => impl_LongestOf.l0 k ((l.length : Int) + longP l i) l (l.length : Int) (i : Int)) (R := fun _ => (l.length : Int) + longP l l.length) l.length ?_ ?_ 0 (Nat.zero_le _)
    · simpa [longP] using this
    · refine evSucc ?_
      simp only [impl_LongestOf.l0]
      exact evF ((l.length : Int) < (l.length : Int)) (by omega) (Ev.now _)
    · intro i hi ih
      have hr := longP_range hf i (by omega)
      have hb := isFieldAt_facts ((isFormat_facts hf).2 i hi)
      rw [longP_succ] at ih
      refine evSucc ?_
      simp only [impl_LongestOf.l0, rdF]
      refine evT ((i : Int) < (l.length : Int)) (by omega) (evT (0 ≤ (i : Int)) (by omega) (evT ((i : Int) < (l.length : Int)) (by omega) ?_))
      rw [wsucc (by omega), w64 (x := (l.length : Int) + longP l i + (l.getD i z29).f1) (by omega) (by omega)]
      refine evIte (fun h => ?_) (fun h => ?_)
      · rw [if_pos h, Int.add_zero] at ih; exact ih
      · rw [if_neg h, ← Int.add_assoc] at ih; exact ih
  · rw [if_neg hf]
    exact evF (isFormatB l = true) hf (Ev.now _)

theorem l1In_eq (a b c : Int) : spec_l1In.f a b c = some (decide (b ≤ a ∧ a ≤ c)) := by
  unfold spec_l1In.f; by_cases h : b ≤ a <;> simp [h]

theorem specIsFormat_ev (l : List S29) (hl : l.length ≤ 1048576) : Ev (fun k => spec_IsFormat.f k l) (isFormatB l) := by
  unfold spec_IsFormat.f isFormatB
  have H : ∀ d i, i + d = l.length → Ev (fun k => spec_IsFormat.l0 k l (i : Int)) (isFmtFrom l d i) := by
    intro d
    induction d with
    | zero =>
      intro i hi
      refine evSucc ?_
      simp only [spec_IsFormat.l0, l1In_eq, Option.bind_some]
      exact evF ((i : Int) < (l.length : Int)) (by omega) (Ev.now _)
    | succ d ih =>
      intro i hi
      have e1 : wrap64 ((i : Int) - 1) = (i : Int) - 1 := w64 (by omega) (by omega)
      have ih' := ih (i + 1) (by omega)
      refine evSucc ?_
      simp only [spec_IsFormat.l0, rdF]
      refine evT ((i : Int) < (l.length : Int)) (by omega) (evT (0 ≤ (i : Int)) (by omega) ?_)
      unfold isFmtFrom isFieldAt
      generalize l.getD i z29 = x
      obtain ⟨x0, x1, x2, x3⟩ := x
      simp only
      have hj2 : ∀ b : Bool, (b = true → isFieldB x0 x1 x2 x3 (i : Int) (rd_T29 l x2) = false) → (b = false → (1 ≤ x0 ∧ x0 ≤ 3) ∧ (1 ≤ x1 ∧ x1 ≤ (if x0 = 1 then 99 else 5))) → Ev (fun k => spec_IsFormat.j2 k l (i : Int) b x0 x1 x2 x3) (isFieldB x0 x1 x2 x3 (i : Int) (rd_T29 l x2) && isFmtFrom l d (i + 1)) := by
        intro b hb hc
        refine evSucc ?_
        simp only [spec_IsFormat.j2, l1In_eq, e1, Option.bind_some, decide_eq_true_eq]
        cases b with
        | true => rw [hb rfl, Bool.false_and]; simp only [if_true]; exact Ev.now _
        | false =>
          have hc := hc rfl
          simp only [Bool.false_eq_true, if_false]
          unfold isFieldB
          generalize rd_T29 l x2 = g
          obtain ⟨g0, g1, g2, g3⟩ := g
          simp only
          rw [wsucc (by omega)]
          have yes : ∀ {p : Prop} [Decidable p], p → Ev (fun k => spec_IsFormat.l0 k l ((i + 1 : Nat) : Int)) (decide p && isFmtFrom l d (i + 1)) := by
            intro p _ hp
            rw [decide_eq_true hp, Bool.true_and]; exact ih'
          have no : ∀ {p : Prop} [Decidable p], ¬ p → Ev (fun _ => some false) (decide p && isFmtFrom l d (i + 1)) := by
            intro p _ hp
            rw [decide_eq_false hp, Bool.false_and]; exact Ev.now _
          refine evIte (fun h3 => ?_) (fun h3 => ?_)
          · exact evIte (fun h4 => yes (by omega)) (fun h4 => no (by omega))
          · refine evIte (fun h4 => ?_) (fun h4 => no (by omega))
            refine evT (0 ≤ x2) (by omega) (evT (x2 < (l.length : Int)) (by omega) ?_)
            refine evIte (fun h5 => ?_) (fun h5 => no (by omega))
            refine evIte (fun h6 => ?_) (fun h6 => no (by omega))
            exact evIte (fun h7 => yes (by omega)) (fun h7 => no (by omega))
      have hj1 : ∀ m : Int, m = (if x0 = 1 then 99 else 5) → Ev (fun k => spec_IsFormat.j1 k l (i : Int) m x0 x1 x2 x3) (isFieldB x0 x1 x2 x3 (i : Int) (rd_T29 l x2) && isFmtFrom l d (i + 1)) := by
        intro m hm
        subst hm
        refine evSucc ?_
        simp only [spec_IsFormat.j1, l1In_eq, Option.bind_some, decide_eq_true_eq]
        refine evIte (fun h1 => hj2 _ (fun h => ?_) (fun h => ?_)) (fun h1 => hj2 _ (fun h => ?_) (fun h => by simp at h))
        · simp only [Bool.not_eq_true', decide_eq_false_iff_not] at h
          exact decide_eq_false (fun hh => h hh.2.1)
        · simp only [Bool.not_eq_false', decide_eq_true_eq] at h
          exact ⟨h1, h⟩
        · exact decide_eq_false (fun hh => h1 hh.1)
      exact evIte (fun h => hj1 99 (by rw [if_pos h])) (fun h => hj1 5 (by rw [if_neg h]))
  exact H l.length 0 (by omega)

theorem specLongestOf_ev (l : List S29) (hl : l.length ≤ 1048576) : Ev (fun k => spec_LongestOf.f k l) (longestP l) := by
  unfold spec_LongestOf.f longestP
  by_cases hf : isFormatB l = true
  · rw [if_pos hf]
    have hn := (isFormat_facts hf).1
    have := evUp (g := fun i k => spec_LongestOf.l0 k l ((i : Int) + longP l i) (i : Int)) (R := fun _ => (l.length : Int) + longP l l.length) l.length ?_ ?_ 0 (Nat.zero_le _)
    · simpa [longP] using this
    · refine evSucc ?_
      simp only [spec_LongestOf.l0]
      refine evF ((l.length : Int) < (l.length : Int)) (by omega) ?_
      refine evSucc ?_
      simp only [spec_LongestOf.j1, Bool.false_eq_true, if_false]
      exact Ev.now _
    · intro i hi ih
      have hr := longP_range hf i (by omega)
      have hb := isFieldAt_facts ((isFormat_facts hf).2 i hi)
      rw [longP_succ] at ih
      refine evSucc ?_
      simp only [spec_LongestOf.l0]
      refine evT ((i : Int) < (l.length : Int)) (by omega) (Ev.bind (specIsFormat_ev l hl) ?_)
      rw [hf]
      refine evSucc ?_
      simp only [spec_LongestOf.j1, if_true, rdF]
      refine evT (0 ≤ (i : Int)) (by omega) (evT ((i : Int) < (l.length : Int)) (by omega) ?_)
      rw [wsucc (by omega), w64 (x := (i : Int) + longP l i + 1) (by omega) (by omega), w64 (x := (i : Int) + longP l i + 1 + (l.getD i z29).f1) (by omega) (by omega)]
      refine evIte (fun h => ?_) (fun h => ?_)
      · rw [if_pos h] at ih
        have e : ((i + 1 : Nat) : Int) + (longP l i + 0) = (i : Int) + longP l i + 1 := by omega
        rw [e] at ih; exact ih
      · rw [if_neg h] at ih
        have e : ((i + 1 : Nat) : Int) + (longP l i + (l.getD i z29).f1) = (i : Int) + longP l i + 1 + (l.getD i z29).f1 := by omega
        rw [e] at ih; exact ih
  · rw [if_neg hf]
    refine evSucc ?_
    simp only [spec_LongestOf.l0]
    have hj : Ev (fun k => spec_LongestOf.j1 k l 0 0 false) 0 := by
      refine evSucc ?_
      simp only [spec_LongestOf.j1, Bool.false_eq_true, if_false]
      exact Ev.now _
    refine evIte (fun _ => Ev.bind (specIsFormat_ev l hl) ?_) (fun _ => hj)
    rw [Bool.eq_false_iff.mpr hf]
    exact hj

theorem FnExactLongestOf : laws_FnExactLongestOf.Pure := by
  intro a ha
  refine Ev.rounds ?_
  unfold laws_FnExactLongestOf.f
  rw [szFieldS_eq a _ (by omega) (by omega) ha.1]
  by_cases h1 : (1048576 : Int) < (a.length : Int)
  · simp only [if_pos h1, Option.bind_some]
    exact evT ((-1 : Int) < 0) (by omega) (Ev.now _)
  simp only [if_neg h1, Option.bind_some]
  refine evF ((1048576 : Int) - (a.length : Int) < 0) (by omega) ?_
  repeat first
    | with_reducible exact Ev.now _
    | (with_reducible refine Ev.bind (toFieldS_ev _ ?_) ?_; (· (first | omega | assumption | (dsimp only; omega) | (simp; omega))))
    | (with_reducible refine Ev.bind (eqFieldS_same _ ?_) ?_; (· (first | omega | assumption | (dsimp only; omega) | (simp; omega))))
    | (with_reducible refine Ev.bind (implLongestOf_ev _ ?_) ?_; (· (first | omega | assumption | (dsimp only; omega) | (simp; omega))))
    | (with_reducible refine Ev.bind (specLongestOf_ev _ ?_) ?_; (· (first | omega | assumption | (dsimp only; omega) | (simp; omega))))
    | simp only [if_true, if_false, Bool.false_eq_true, Bool.not_true, Bool.not_false, Bool.true_eq_false, mneg, mneg2, bne_self_eq_false, Option.bind_some]

end Go.Proofs.Ytodklionpjjmfaa.Pure
