/- The law FnExactEqualInts returns true for all arguments: the program's EqualInts and the reference's agree, and the lists that are given read as before. It holds for every input that the statement admits; no condition is added. -/
import Derived.Test.YtaefidahlmojaaaPFnExactEqualIntsx1
import Derived.Test.YtaefidahlmojaaaWSized
namespace Go.Proofs.Ytaefidahlmojaaa.PrintWords
open Go.ChangeShapes Go.WideShapes in
theorem sized_ints {H : Type} {enc : TypeId × Value → H} {P : Program} {W : World} {base : Nat} {spare : Nat → Bool} {held : Bool} {t e : TypeId} {k : IntKind} {a : Option Addr} {len cap : Nat} {d : DataW H} {ps : List MemPlace} {ts : List TypeId} {ds : List (DataW H)} {j : Nat}
    (h1 : (DataW.weightsEach P ts ds).all (· ≤ reachBytes) = true) (h2 : ts[j]? = some t) (h3 : ds[j]? = some d) (h4 : P.underlying t = some (.slice e)) (h5 : P.underlying e = some (.int k)) (h6 : P.cellsOf e = 1) {B : Nat} (h7 : P.bytesOf e = B)
    (h8 : DataW.Trod enc P W base spare held t (.slice a len cap) d ps) : len * B ≤ 140737488351232 := Go.Proofs.YtaefidahlmojaaaW.PrintWords.sized_ints h1 h2 h3 h4 h5 h6 h7 h8
end Go.Proofs.Ytaefidahlmojaaa.PrintWords
namespace Go.Proofs.Ytaefidahlmojaaa.Pure
open Go.RowKit Go.Proofs.Ytaefidahlmojaaa.PFnExactEqualInts Go.Proofs.YtaefidahlmojaaaW.PrintWords Go.Proofs.YtaefidahlmojaaaW.PrintLast
set_option linter.unusedVariables false
set_option linter.unusedSimpArgs false

theorem w64 {x : Int} (h0 : -9223372036854775808 ≤ x) (h1 : x ≤ 9223372036854775807) : wrap64 x = x := by unfold wrap64; omega
theorem wsucc {i : Nat} (h : i < 4611686018427387904) : wrap64 ((i : Int) + 1) = ((i + 1 : Nat) : Int) := by unfold wrap64; omega
theorem wfI {x : Int} (h : (Lit.int .i64 x).wf = true) : -9223372036854775808 ≤ x ∧ x ≤ 9223372036854775807 := by
  simp only [Lit.wf, Bool.and_eq_true, decide_eq_true_eq] at h
  exact h
theorem wfB {x : Int} (h : (Lit.int .u8 x).wf = true) : 0 ≤ x ∧ x ≤ 255 := by
  simp only [Lit.wf, Bool.and_eq_true, decide_eq_true_eq] at h
  exact h
theorem rdn (l : List Int) (i : Nat) : rd l (i : Int) = l.getD i 0 := by simp [rd]
theorem evOne {α : Type} {f : Option α} {r : α} (h : f = some r) : Ev (fun _ => f) r := ⟨0, fun _ _ => h⟩
theorem evUp {ρ : Type} {g : Nat → Nat → Option ρ} {R : Nat → ρ} (n : Nat) (last : Ev (g n) (R n)) (step : ∀ i, i < n → Ev (g (i + 1)) (R (i + 1)) → Ev (g i) (R i)) : ∀ i, i ≤ n → Ev (g i) (R i) := by
  intro i hi
  obtain ⟨d, hd⟩ : ∃ d, i + d = n := ⟨n - i, by omega⟩
  induction d generalizing i with
  | zero => obtain rfl : i = n := by omega
            exact last
  | succ d ih => exact step i (by omega) (ih (i + 1) (by omega) (by omega))
theorem getD_mem {α : Type} {l : List α} {i : Nat} {d : α} (h : i < l.length) : l.getD i d ∈ l := by
  rw [List.getD_eq_getElem?_getD, List.getElem?_eq_getElem h]; exact List.getElem_mem h
theorem getD_get {α : Type} {l : List α} {i : Nat} {d : α} (h : i < l.length) : l.getD i d = l[i] := by
  rw [List.getD_eq_getElem?_getD, List.getElem?_eq_getElem h]; rfl
theorem take_set_rep {α : Type} (l : List α) (z d : α) (i : Nat) (h : i < l.length) : (l.take i ++ List.replicate (l.length - i) z).set i (l.getD i d) = l.take (i + 1) ++ List.replicate (l.length - (i + 1)) z := by
  obtain ⟨m, hm⟩ : ∃ m, l.length - i = m + 1 := ⟨l.length - i - 1, by omega⟩
  have hm' : l.length - (i + 1) = m := by omega
  rw [hm, hm', List.set_append_right _ _ (by rw [List.length_take]; omega), List.length_take, Nat.min_eq_left (by omega), Nat.sub_self, List.replicate_succ, List.set_cons_zero, getD_get h, List.take_succ_eq_append_getElem h, List.append_assoc, List.singleton_append]
theorem drop_eq_iff {α : Type} (a b : List α) (d : α) (i : Nat) (ha : i < a.length) (hb : i < b.length) : (a.drop i = b.drop i) ↔ (a.getD i d = b.getD i d ∧ a.drop (i + 1) = b.drop (i + 1)) := by
  rw [List.drop_eq_getElem_cons ha, List.drop_eq_getElem_cons hb, List.cons.injEq, getD_get ha, getD_get hb]
theorem take_rep_len {α : Type} (l : List α) (z : α) (i : Nat) (h : i ≤ l.length) : (l.take i ++ List.replicate (l.length - i) z).length = l.length := by
  simp; omega

theorem toIntS_ev (l : List Int) (hl : l.length ≤ 35184372088832) : Ev (fun k => laws_toIntS.f k l) l := by
  have H : Ev (fun k => laws_toIntS.l0 k l (List.replicate l.length 0) 0) l := by
    have := evUp (g := fun i k => laws_toIntS.l0 k l (l.take i ++ List.replicate (l.length - i) 0) (i : Int)) (R := fun _ => l) l.length ?_ ?_ 0 (Nat.zero_le _)
    · simpa using this
    · refine Ev.step (f := fun _ => some l) (fun k => ?_) (Ev.now _)
      simp only [laws_toIntS.l0]
      rw [if_neg (by omega)]
      simp
    · intro i hi ih
      refine Ev.step (fun k => ?_) ih
      simp only [laws_toIntS.l0]
      rw [if_pos (by omega), if_pos (by omega), if_pos (by rw [take_rep_len l 0 i (by omega)]; omega), wsucc (by omega), rdn, Int.toNat_natCast, take_set_rep l 0 0 i hi]
  refine Ev.congr (fun k => ?_) H
  unfold laws_toIntS.f
  rw [if_pos (by omega), if_pos (by omega)]
  simp

theorem eqIntS_ev (a b : List Int) (hl : a.length ≤ 281474976710656) : Ev (fun k => laws_eqIntS.f k a b) (decide (a = b)) := by
  by_cases hn : a.length = b.length
  · have H : Ev (fun k => laws_eqIntS.l0 k a b 0) (decide (a = b)) := by
      have := evUp (g := fun i k => laws_eqIntS.l0 k a b (i : Int)) (R := fun i => decide (a.drop i = b.drop i)) a.length ?_ ?_ 0 (Nat.zero_le _)
      · simpa using this
      · refine Ev.step (f := fun _ => some true) (fun k => ?_) (by simpa [hn] using Ev.now true)
        simp only [laws_eqIntS.l0]
        rw [if_neg (by omega)]
      · intro i hi ih
        have hd := drop_eq_iff a b 0 i hi (by omega)
        by_cases he : a.getD i 0 = b.getD i 0
        · refine Ev.step (f := fun k => laws_eqIntS.l0 k a b ((i + 1 : Nat) : Int)) (fun k => ?_) ?_
          · simp only [laws_eqIntS.l0]
            rw [if_pos (by omega), if_pos (by omega), if_pos (by omega), rdn, rdn, if_pos he, wsucc (by omega)]
          · have e : decide (a.drop i = b.drop i) = decide (a.drop (i + 1) = b.drop (i + 1)) := decide_eq_decide.mpr (hd.trans (and_iff_right he))
            simp only [e]
            exact ih
        · refine Ev.step (f := fun _ => some false) (fun k => ?_) ?_
          · simp only [laws_eqIntS.l0]
            rw [if_pos (by omega), if_pos (by omega), if_pos (by omega), rdn, rdn, if_neg he]
          · have e : decide (a.drop i = b.drop i) = false := decide_eq_false (fun h => he (hd.mp h).1)
            simp only [e]
            exact Ev.now false
    refine Ev.congr (fun k => ?_) H
    unfold laws_eqIntS.f
    rw [if_pos (by omega)]
  · have e : decide (a = b) = false := decide_eq_false (fun h => hn (by rw [h]))
    rw [e]
    refine Ev.congr (f := fun _ => some false) (fun k => ?_) (Ev.now false)
    unfold laws_eqIntS.f
    rw [if_neg (by omega)]
theorem eqIntS_same (a : List Int) (hl : a.length ≤ 281474976710656) : Ev (fun k => laws_eqIntS.f k a a) true := by simpa using eqIntS_ev a a hl

theorem slicesEqual_int_ev (a b : List Int) (hl : a.length ≤ 281474976710656) : Ev (fun k => slices_Equal_int_int.f k a b) (decide (a = b)) := by
  by_cases hn : a.length = b.length
  · have H : Ev (fun k => slices_Equal_int_int.l0 k a b (a.length : Int) 0) (decide (a = b)) := by
      have := evUp (g := fun i k => slices_Equal_int_int.l0 k a b (a.length : Int) (i : Int)) (R := fun i => decide (a.drop i = b.drop i)) a.length ?_ ?_ 0 (Nat.zero_le _)
      · simpa using this
      · refine Ev.step (f := fun _ => some true) (fun k => ?_) (by simpa [hn] using Ev.now true)
        simp only [slices_Equal_int_int.l0]
        rw [if_neg (by omega)]
      · intro i hi ih
        have hd := drop_eq_iff a b 0 i hi (by omega)
        by_cases he : a.getD i 0 = b.getD i 0
        · refine Ev.step (f := fun k => slices_Equal_int_int.l0 k a b (a.length : Int) ((i + 1 : Nat) : Int)) (fun k => ?_) ?_
          · simp only [slices_Equal_int_int.l0]
            rw [if_pos (by omega), if_pos (by omega), if_pos (by omega), if_pos (by omega), rdn, rdn, if_pos he, wsucc (by omega)]
          · have e : decide (a.drop i = b.drop i) = decide (a.drop (i + 1) = b.drop (i + 1)) := decide_eq_decide.mpr (hd.trans (and_iff_right he))
            simp only [e]
            exact ih
        · refine Ev.step (f := fun _ => some false) (fun k => ?_) ?_
          · simp only [slices_Equal_int_int.l0]
            rw [if_pos (by omega), if_pos (by omega), if_pos (by omega), if_pos (by omega), rdn, rdn, if_neg he]
          · have e : decide (a.drop i = b.drop i) = false := decide_eq_false (fun h => he (hd.mp h).1)
            simp only [e]
            exact Ev.now false
    refine Ev.congr (fun k => ?_) H
    unfold slices_Equal_int_int.f
    rw [if_pos (by omega)]
  · have e : decide (a = b) = false := decide_eq_false (fun h => hn (by rw [h]))
    rw [e]
    refine Ev.congr (f := fun _ => some false) (fun k => ?_) (Ev.now false)
    unfold slices_Equal_int_int.f
    rw [if_neg (by omega)]

theorem specEqualInts_ev (a b : List Int) (hl : a.length ≤ 281474976710656) : Ev (fun k => spec_EqualInts.f k a b) (decide (a = b)) := by
  by_cases hn : a.length = b.length
  · have H : Ev (fun k => spec_EqualInts.l0 k a b 0) (decide (a = b)) := by
      have := evUp (g := fun i k => spec_EqualInts.l0 k a b (i : Int)) (R := fun i => decide (a.drop i = b.drop i)) a.length ?_ ?_ 0 (Nat.zero_le _)
      · simpa using this
      · refine Ev.step (f := fun _ => some true) (fun k => ?_) (by simpa [hn] using Ev.now true)
        simp only [spec_EqualInts.l0]
        rw [if_neg (by omega)]
      · intro i hi ih
        have hd := drop_eq_iff a b 0 i hi (by omega)
        by_cases he : a.getD i 0 = b.getD i 0
        · refine Ev.step (f := fun k => spec_EqualInts.l0 k a b ((i + 1 : Nat) : Int)) (fun k => ?_) ?_
          · simp only [spec_EqualInts.l0]
            rw [if_pos (by omega), if_pos (by omega), if_pos (by omega), rdn, rdn, if_pos he, wsucc (by omega)]
          · have e : decide (a.drop i = b.drop i) = decide (a.drop (i + 1) = b.drop (i + 1)) := decide_eq_decide.mpr (hd.trans (and_iff_right he))
            simp only [e]
            exact ih
        · refine Ev.step (f := fun _ => some false) (fun k => ?_) ?_
          · simp only [spec_EqualInts.l0]
            rw [if_pos (by omega), if_pos (by omega), if_pos (by omega), rdn, rdn, if_neg he]
          · have e : decide (a.drop i = b.drop i) = false := decide_eq_false (fun h => he (hd.mp h).1)
            simp only [e]
            exact Ev.now false
    refine Ev.congr (fun k => ?_) H
    unfold spec_EqualInts.f
    rw [if_pos (by omega)]
  · have e : decide (a = b) = false := decide_eq_false (fun h => hn (by rw [h]))
    rw [e]
    refine Ev.congr (f := fun _ => some false) (fun k => ?_) (Ev.now false)
    unfold spec_EqualInts.f
    rw [if_neg (by omega)]

theorem FnExactEqualInts : laws_FnExactEqualInts.Pure := by
  intro a b _ _ ha _ _ hb
  refine Ev.rounds ?_
  unfold laws_FnExactEqualInts.f
  by_cases h1 : (a.length : Int) > 1048576
  · simp only [if_pos h1]; exact Ev.now _
  simp only [if_neg h1]
  by_cases h2 : (b.length : Int) > 1048576
  · simp only [if_pos h2]; exact Ev.now _
  simp only [if_neg h2]
  refine Ev.bind (toIntS_ev a (by omega)) (Ev.bind (toIntS_ev b (by omega)) ?_)
  refine Ev.bind (specEqualInts_ev a b (by omega) ) (Ev.bind (toIntS_ev a (by omega)) (Ev.bind (toIntS_ev b (by omega)) ?_))
  refine Ev.bind (a := decide (a = b)) ?_ ?_
  · unfold impl_EqualInts.f
    refine Ev.bind (slicesEqual_int_ev a b (by omega)) (Ev.now _)
  · simp only [bne_self_eq_false, Bool.false_eq_true, if_false]
    refine Ev.bind (toIntS_ev a (by omega)) (Ev.bind (eqIntS_same a (by omega)) ?_)
    simp only [if_true]
    refine Ev.bind (toIntS_ev b (by omega)) (Ev.bind (eqIntS_same b (by omega)) ?_)
    simp only [if_true]
    exact Ev.now _

end Go.Proofs.Ytaefidahlmojaaa.Pure
