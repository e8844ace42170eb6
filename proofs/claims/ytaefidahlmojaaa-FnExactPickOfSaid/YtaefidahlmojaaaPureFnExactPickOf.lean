/- The law FnExactPickOf returns true for all arguments: the program's PickOf and the reference's agree. It holds for every input that the statement admits; no condition is added. -/
import Derived.Test.YtaefidahlmojaaaPFnExactPickOfx1
namespace Go.Proofs.Ytaefidahlmojaaa.Pure
open Go.RowKit Go.Proofs.Ytaefidahlmojaaa.PFnExactPickOf Go.Proofs.YtaefidahlmojaaaW.PrintWords Go.Proofs.YtaefidahlmojaaaW.PrintLast
set_option linter.unusedVariables false
set_option linter.unusedSimpArgs false

theorem w64 {x : Int} (h0 : -9223372036854775808 ≤ x) (h1 : x ≤ 9223372036854775807) : wrap64 x = x := by unfold wrap64; omega
theorem wsucc {i : Nat} (h : i < 4611686018427387904) : wrap64 ((i : Int) + 1) = ((i + 1 : Nat) : Int) := by unfold wrap64; omega
theorem wfI {x : Int} (h : (Lit.int .i64 x).wf = true) : -9223372036854775808 ≤ x ∧ x ≤ 9223372036854775807 := by
  simp only [Lit.wf, Bool.and_eq_true, decide_eq_true_eq] at h
  exact h
theorem wfB {x : Int} (h : (Lit.int .u8 x).wf = true) : 0 ≤ x ∧ x ≤ 255 := by
  simp only [Lit.wf, Bool.and_eq_true, decide_eq_true_eq] at h
  exact h
theorem rdn (l : List Int) (i : Nat) : rd l (i : Int) = l.getD i 0 := by simp [rd]
theorem evOne {α : Type} {f : Option α} {r : α} (h : f = some r) : Ev (fun _ => f) r := ⟨0, fun _ _ => h⟩
theorem evUp {ρ : Type} {g : Nat → Nat → Option ρ} {R : Nat → ρ} (n : Nat) (last : Ev (g n) (R n)) (step : ∀ i, i < n → Ev (g (i + 1)) (R (i + 1)) → Ev (g i) (R i)) : ∀ i, i ≤ n → Ev (g i) (R i) := by
  intro i hi
  obtain ⟨d, hd⟩ : ∃ d, i + d = n := ⟨n - i, by omega⟩
  induction d generalizing i with
  | zero => obtain rfl : i = n := by omega
            exact last
  | succ d ih => exact step i (by omega) (ih (i + 1) (by omega) (by omega))
theorem getD_mem {α : Type} {l : List α} {i : Nat} {d : α} (h : i < l.length) : l.getD i d ∈ l := by
  rw [List.getD_eq_getElem?_getD, List.getElem?_eq_getElem h]; exact List.getElem_mem h
theorem getD_get {α : Type} {l : List α} {i : Nat} {d : α} (h : i < l.length) : l.getD i d = l[i] := by
  rw [List.getD_eq_getElem?_getD, List.getElem?_eq_getElem h]; rfl
theorem take_set_rep {α : Type} (l : List α) (z d : α) (i : Nat) (h : i < l.length) : (l.take i ++ List.replicate (l.length - i) z).set i (l.getD i d) = l.take (i + 1) ++ List.replicate (l.length - (i + 1)) z := by
  obtain ⟨m, hm⟩ : ∃ m, l.length - i = m + 1 := ⟨l.length - i - 1, by omega⟩
  have hm' : l.length - (i + 1) = m := by omega
  rw [hm, hm', List.set_append_right _ _ (by rw [List.length_take]; omega), List.length_take, Nat.min_eq_left (by omega), Nat.sub_self, List.replicate_succ, List.set_cons_zero, getD_get h, List.take_succ_eq_append_getElem h, List.append_assoc, List.singleton_append]
theorem drop_eq_iff {α : Type} (a b : List α) (d : α) (i : Nat) (ha : i < a.length) (hb : i < b.length) : (a.drop i = b.drop i) ↔ (a.getD i d = b.getD i d ∧ a.drop (i + 1) = b.drop (i + 1)) := by
  rw [List.drop_eq_getElem_cons ha, List.drop_eq_getElem_cons hb, List.cons.injEq, getD_get ha, getD_get hb]
theorem take_rep_len {α : Type} (l : List α) (z : α) (i : Nat) (h : i ≤ l.length) : (l.take i ++ List.replicate (l.length - i) z).length = l.length := by
  simp; omega

def modP (p q : Int) : Int := if 1 ≤ q ∧ q ≤ 1000000000000 then Int.tmod (wrap64 (Int.tmod p q + q)) q else 0
theorem modP_emod {p q : Int} (h1 : 1 ≤ q) (h2 : q ≤ 1000000000000) : modP p q = p % q := by
  unfold modP
  rw [if_pos ⟨h1, h2⟩]
  have a := Int.tmod_lt_of_pos p (b := q) (by omega)
  have b : -q < Int.tmod p q := by
    rcases Int.le_total 0 p with h | h
    · have := Int.tmod_nonneg q h; omega
    · have e : Int.tmod p q = -Int.tmod (-p) q := by rw [Int.neg_tmod]; omega
      have := Int.tmod_lt_of_pos (-p) (b := q) (by omega)
      omega
  have e : Int.tmod p q + q = p + q * (1 - Int.tdiv p q) := by
    have h := Int.tmod_add_mul_tdiv p q
    rw [Int.mul_sub]
    omega
  rw [w64 (by omega) (by omega), Int.tmod_eq_emod_of_nonneg (by omega), e, Int.add_mul_emod_self_left]
theorem modP_range {p q : Int} (h1 : 1 ≤ q) (h2 : q ≤ 1000000000000) : 0 ≤ modP p q ∧ modP p q < q := by
  rw [modP_emod h1 h2]; exact ⟨Int.emod_nonneg _ (by omega), Int.emod_lt_of_pos _ (by omega)⟩

def hstep (s v : Int) : Int := Int.tmod (wrap64 ((wrap64 ((wrap64 (s * 1000003)) + modP v 2147483647)) + 13)) 2147483647
def hashP (l : List Int) : Int := l.foldl hstep 11
theorem hstep_emod {s v : Int} (h0 : 0 ≤ s) (h1 : s < 2147483647) : hstep s v = (s * 1000003 + v % 2147483647 + 13) % 2147483647 := by
  unfold hstep
  rw [modP_emod (by omega) (by omega)]
  have a := Int.emod_nonneg v (b := 2147483647) (by omega)
  have b := Int.emod_lt_of_pos v (b := 2147483647) (by omega)
  rw [w64 (x := s * 1000003) (by omega) (by omega), w64 (x := s * 1000003 + v % 2147483647) (by omega) (by omega), w64 (by omega) (by omega), Int.tmod_eq_emod_of_nonneg (by omega)]
theorem hstep_range {s v : Int} (h0 : 0 ≤ s) (h1 : s < 2147483647) : 0 ≤ hstep s v ∧ hstep s v < 2147483647 := by
  rw [hstep_emod h0 h1]; exact ⟨Int.emod_nonneg _ (by omega), Int.emod_lt_of_pos _ (by omega)⟩
theorem hfold_range (l : List Int) : ∀ s, 0 ≤ s → s < 2147483647 → 0 ≤ l.foldl hstep s ∧ l.foldl hstep s < 2147483647 := by
  induction l with
  | nil => intro s h0 h1; exact ⟨h0, h1⟩
  | cons v l ih => intro s h0 h1; have h := hstep_range (v := v) h0 h1; exact ih _ h.1 h.2
theorem hashP_range (l : List Int) : 0 ≤ hashP l ∧ hashP l < 2147483647 := hfold_range l 11 (by omega) (by omega)

def pickP (seed place n : Int) : Int := if n < 1 then 0 else modP (hashP [seed, place]) n

theorem inRange_eq (a b c : Int) : impl_InRange.f a b c = some (decide (b ≤ a ∧ a ≤ c)) := by
  unfold impl_InRange.f; by_cases h : b ≤ a <;> simp [h]

theorem implMod_eq (p q : Int) : impl_Mod.f p q = some (modP p q) := by
  unfold impl_Mod.f modP
  rw [inRange_eq]
  simp only [Option.bind_some, decide_eq_true_eq]
  by_cases h : 1 ≤ q ∧ q ≤ 1000000000000
  · rw [if_pos h, if_pos h, if_neg (by omega)]
  · rw [if_neg h, if_neg h]

theorem implHash_ev (l : List Int) (hl : l.length ≤ 281474976710656) : Ev (fun k => impl_Hash.f k l) (hashP l) := by
  have H := evUp (g := fun i k => impl_Hash.l0 k ((l.take i).foldl hstep 11) l (l.length : Int) (i : Int)) (R := fun _ => hashP l) l.length ?_ ?_ 0 (Nat.zero_le _)
  · refine Ev.congr (fun k => ?_) H
    unfold impl_Hash.f
    simp
  · refine Ev.step (f := fun _ => some (hashP l)) (fun k => ?_) (Ev.now _)
    simp only [impl_Hash.l0]
    rw [if_neg (by omega)]
    simp [hashP]
  · intro i hi ih
    refine Ev.step (fun k => ?_) ih
    simp only [impl_Hash.l0]
    rw [if_pos (by omega), if_pos (by omega), if_pos (by omega), implMod_eq, rdn, wsucc (by omega)]
    simp only [Option.bind_some]
    rw [List.take_succ_eq_append_getElem hi, List.foldl_append, getD_get hi]
    rfl

theorem implPickOf_ev (a b n : Int) : Ev (fun k => impl_PickOf.f k a b n) (pickP a b n) := by
  unfold impl_PickOf.f pickP
  by_cases h : n < 1
  · simp only [if_pos h]; exact Ev.now _
  · simp only [if_neg h]
    refine Ev.bind (implHash_ev [a, b] (by simp)) ?_
    simp only [implMod_eq, Option.bind_some]
    exact Ev.now _

theorem l1In_eq (a b c : Int) : spec_l1In.f a b c = some (decide (b ≤ a ∧ a ≤ c)) := by
  unfold spec_l1In.f; by_cases h : b ≤ a <;> simp [h]

theorem specMod_eq (p q : Int) : spec_Mod.f p q = some (modP p q) := by
  unfold spec_Mod.f modP
  rw [l1In_eq]
  simp only [Option.bind_some, decide_eq_true_eq]
  by_cases h : 1 ≤ q ∧ q ≤ 1000000000000
  · rw [if_pos h, if_pos h, if_neg (by omega)]
  · rw [if_neg h, if_neg h]

theorem specHash_ev (l : List Int) (hl : l.length ≤ 281474976710656) : Ev (fun k => spec_Hash.f k l) (hashP l) := by
  have H := evUp (g := fun i k => spec_Hash.l0 k l ((l.take i).foldl hstep 11) (i : Int)) (R := fun _ => hashP l) l.length ?_ ?_ 0 (Nat.zero_le _)
  · refine Ev.congr (fun k => ?_) H
    unfold spec_Hash.f
    simp
  · refine Ev.step (f := fun _ => some (hashP l)) (fun k => ?_) (Ev.now _)
    simp only [spec_Hash.l0]
    rw [if_neg (by omega)]
    simp [hashP]
  · intro i hi ih
    refine Ev.step (fun k => ?_) ih
    simp only [spec_Hash.l0]
    rw [if_pos (by omega), if_pos (by omega), specMod_eq, rdn, wsucc (by omega)]
    simp only [Option.bind_some]
    rw [List.take_succ_eq_append_getElem hi, List.foldl_append, getD_get hi]
    rfl

theorem specPickOf_ev (a b n : Int) : Ev (fun k => spec_PickOf.f k a b n) (pickP a b n) := by
  unfold spec_PickOf.f pickP
  by_cases h : n < 1
  · simp only [if_pos h]; exact Ev.now _
  · simp only [if_neg h]
    refine Ev.bind (specHash_ev [a, b] (by simp)) ?_
    simp only [specMod_eq, Option.bind_some]
    exact Ev.now _

theorem FnExactPickOf : laws_FnExactPickOf.Pure := by
  intro a b n _ _ _
  refine Ev.rounds ?_
  unfold laws_FnExactPickOf.f
  refine Ev.bind (specPickOf_ev a b n) (Ev.bind (implPickOf_ev a b n) ?_)
  simp only [if_true]
  exact Ev.now _

end Go.Proofs.Ytaefidahlmojaaa.Pure
