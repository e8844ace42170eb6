/- The law FnExactDecrypt returns true for all arguments: the program's Decrypt and the reference's agree, and the bytes that are given read as before; what is handed back is a list of its own. It holds for every input that the statement admits; no condition is added. -/
import Derived.Test.YtodklionpjjmfaaQFnExactDecryptx3
import Derived.Test.YtodklionpjjmfaaWSized
namespace Go.Proofs.Ytodklionpjjmfaa.PrintWords
open Go.ChangeShapes Go.WideShapes in
theorem sized_ints {H : Type} {enc : TypeId × Value → H} {P : Program} {W : World} {base : Nat} {spare : Nat → Bool} {held : Bool} {t e : TypeId} {k : IntKind} {a : Option Addr} {len cap : Nat} {d : DataW H} {ps : List MemPlace} {ts : List TypeId} {ds : List (DataW H)} {j : Nat}
    (h1 : (DataW.weightsEach P ts ds).all (· ≤ reachBytes) = true) (h2 : ts[j]? = some t) (h3 : ds[j]? = some d) (h4 : P.underlying t = some (.slice e)) (h5 : P.underlying e = some (.int k)) (h6 : P.cellsOf e = 1) {B : Nat} (h7 : P.bytesOf e = B)
    (h8 : DataW.Trod enc P W base spare held t (.slice a len cap) d ps) : len * B ≤ 140737488351232 := Go.Proofs.YtodklionpjjmfaaW.PrintWords.sized_ints h1 h2 h3 h4 h5 h6 h7 h8
end Go.Proofs.Ytodklionpjjmfaa.PrintWords
namespace Go.Proofs.Ytodklionpjjmfaa.Pure
open Go.RowKit Go.Proofs.Ytodklionpjjmfaa.QFnExactDecrypt Go.Proofs.YtodklionpjjmfaaW.PrintWords Go.Proofs.YtodklionpjjmfaaW.PrintLast Go.Proofs.YtodklionpjjmfaaW.PrintMore
set_option linter.unusedVariables false
set_option linter.unusedSimpArgs false

theorem w64 {x : Int} (h0 : -9223372036854775808 ≤ x) (h1 : x ≤ 9223372036854775807) : wrap64 x = x := by unfold wrap64; omega
theorem wsucc {i : Nat} (h : i < 4611686018427387904) : wrap64 ((i : Int) + 1) = ((i + 1 : Nat) : Int) := by unfold wrap64; omega
theorem wfI {x : Int} (h : (Lit.int .i64 x).wf = true) : -9223372036854775808 ≤ x ∧ x ≤ 9223372036854775807 := by
  simp only [Lit.wf, Bool.and_eq_true, decide_eq_true_eq] at h
  exact h
theorem wfB {x : Int} (h : (Lit.int .u8 x).wf = true) : 0 ≤ x ∧ x ≤ 255 := by
  simp only [Lit.wf, Bool.and_eq_true, decide_eq_true_eq] at h
  exact h
theorem rdn (l : List Int) (i : Nat) : rd l (i : Int) = l.getD i 0 := by simp [rd]
theorem evOne {α : Type} {f : Option α} {r : α} (h : f = some r) : Ev (fun _ => f) r := ⟨0, fun _ _ => h⟩
theorem evUp {ρ : Type} {g : Nat → Nat → Option ρ} {R : Nat → ρ} (n : Nat) (last : Ev (g n) (R n)) (step : ∀ i, i < n → Ev (g (i + 1)) (R (i + 1)) → Ev (g i) (R i)) : ∀ i, i ≤ n → Ev (g i) (R i) := by
  intro i hi
  obtain ⟨d, hd⟩ : ∃ d, i + d = n := ⟨n - i, by omega⟩
  induction d generalizing i with
  | zero => obtain rfl : i = n := by omega
            exact last
  | succ d ih => exact step i (by omega) (ih (i + 1) (by omega) (by omega))
theorem getD_mem {α : Type} {l : List α} {i : Nat} {d : α} (h : i < l.length) : l.getD i d ∈ l := by
  rw [List.getD_eq_getElem?_getD, List.getElem?_eq_getElem h]; exact List.getElem_mem h
theorem getD_get {α : Type} {l : List α} {i : Nat} {d : α} (h : i < l.length) : l.getD i d = l[i] := by
  rw [List.getD_eq_getElem?_getD, List.getElem?_eq_getElem h]; rfl
theorem take_set_rep {α : Type} (l : List α) (z d : α) (i : Nat) (h : i < l.length) : (l.take i ++ List.replicate (l.length - i) z).set i (l.getD i d) = l.take (i + 1) ++ List.replicate (l.length - (i + 1)) z := by
  obtain ⟨m, hm⟩ : ∃ m, l.length - i = m + 1 := ⟨l.length - i - 1, by omega⟩
  have hm' : l.length - (i + 1) = m := by omega
  rw [hm, hm', List.set_append_right _ _ (by rw [List.length_take]; omega), List.length_take, Nat.min_eq_left (by omega), Nat.sub_self, List.replicate_succ, List.set_cons_zero, getD_get h, List.take_succ_eq_append_getElem h, List.append_assoc, List.singleton_append]
theorem drop_eq_iff {α : Type} (a b : List α) (d : α) (i : Nat) (ha : i < a.length) (hb : i < b.length) : (a.drop i = b.drop i) ↔ (a.getD i d = b.getD i d ∧ a.drop (i + 1) = b.drop (i + 1)) := by
  rw [List.drop_eq_getElem_cons ha, List.drop_eq_getElem_cons hb, List.cons.injEq, getD_get ha, getD_get hb]
theorem take_rep_len {α : Type} (l : List α) (z : α) (i : Nat) (h : i ≤ l.length) : (l.take i ++ List.replicate (l.length - i) z).length = l.length := by
  simp; omega

def modP (p q : Int) : Int := if 1 ≤ q ∧ q ≤ 1000000000000 then Int.tmod (wrap64 (Int.tmod p q + q)) q else 0
theorem modP_emod {p q : Int} (h1 : 1 ≤ q) (h2 : q ≤ 1000000000000) : modP p q = p % q := by
  unfold modP
  rw [if_pos ⟨h1, h2⟩]
  have a := Int.tmod_lt_of_pos p (b := q) (by omega)
  have b : -q < Int.tmod p q := by
    rcases Int.le_total 0 p with h | h
    · have := Int.tmod_nonneg q h; omega
    · have e : Int.tmod p q = -Int.tmod (-p) q := by rw [Int.neg_tmod]; omega
      have := Int.tmod_lt_of_pos (-p) (b := q) (by omega)
      omega
  have e : Int.tmod p q + q = p + q * (1 - Int.tdiv p q) := by
    have h := Int.tmod_add_mul_tdiv p q
    rw [Int.mul_sub]
    omega
  rw [w64 (by omega) (by omega), Int.tmod_eq_emod_of_nonneg (by omega), e, Int.add_mul_emod_self_left]
theorem modP_range {p q : Int} (h1 : 1 ≤ q) (h2 : q ≤ 1000000000000) : 0 ≤ modP p q ∧ modP p q < q := by
  rw [modP_emod h1 h2]; exact ⟨Int.emod_nonneg _ (by omega), Int.emod_lt_of_pos _ (by omega)⟩

def hstep (s v : Int) : Int := Int.tmod (wrap64 ((wrap64 ((wrap64 (s * 1000003)) + modP v 2147483647)) + 13)) 2147483647
def hashP (l : List Int) : Int := l.foldl hstep 11
theorem hstep_emod {s v : Int} (h0 : 0 ≤ s) (h1 : s < 2147483647) : hstep s v = (s * 1000003 + v % 2147483647 + 13) % 2147483647 := by
  unfold hstep
  rw [modP_emod (by omega) (by omega)]
  have a := Int.emod_nonneg v (b := 2147483647) (by omega)
  have b := Int.emod_lt_of_pos v (b := 2147483647) (by omega)
  rw [w64 (x := s * 1000003) (by omega) (by omega), w64 (x := s * 1000003 + v % 2147483647) (by omega) (by omega), w64 (by omega) (by omega), Int.tmod_eq_emod_of_nonneg (by omega)]
theorem hstep_range {s v : Int} (h0 : 0 ≤ s) (h1 : s < 2147483647) : 0 ≤ hstep s v ∧ hstep s v < 2147483647 := by
  rw [hstep_emod h0 h1]; exact ⟨Int.emod_nonneg _ (by omega), Int.emod_lt_of_pos _ (by omega)⟩
theorem hfold_range (l : List Int) : ∀ s, 0 ≤ s → s < 2147483647 → 0 ≤ l.foldl hstep s ∧ l.foldl hstep s < 2147483647 := by
  induction l with
  | nil => intro s h0 h1; exact ⟨h0, h1⟩
  | cons v l ih => intro s h0 h1; have h := hstep_range (v := v) h0 h1; exact ih _ h.1 h.2
theorem hashP_range (l : List Int) : 0 ≤ hashP l ∧ hashP l < 2147483647 := hfold_range l 11 (by omega) (by omega)

def keyedP (key : Int) (l : List Int) : Int := hashP ((key :: l) ++ [key])
theorem keyedP_range (key : Int) (l : List Int) : 0 ≤ keyedP key l ∧ keyedP key l < 2147483647 := hashP_range _

def encP (key : Int) (l : List Int) : List Int := (List.range l.length).map fun (i : Nat) => (l.getD i 0 + keyedP key [(i : Int)] % 256) % 256
def decPP (key : Int) (l : List Int) : List Int := (List.range l.length).map fun (i : Nat) => (l.getD i 0 - keyedP key [(i : Int)] % 256) % 256
theorem encP_len (key : Int) (l : List Int) : (encP key l).length = l.length := by simp [encP]
theorem decPP_len (key : Int) (l : List Int) : (decPP key l).length = l.length := by simp [decPP]
theorem encP_get (key : Int) (l : List Int) (i : Nat) (h : i < l.length) : (encP key l).getD i 0 = (l.getD i 0 + keyedP key [(i : Int)] % 256) % 256 := by
  rw [getD_get (by rw [encP_len]; exact h)]
  simp [encP]
theorem decPP_get (key : Int) (l : List Int) (i : Nat) (h : i < l.length) : (decPP key l).getD i 0 = (l.getD i 0 - keyedP key [(i : Int)] % 256) % 256 := by
  rw [getD_get (by rw [decPP_len]; exact h)]
  simp [decPP]
theorem mix_set (p l : List Int) (hp : p.length = l.length) (i : Nat) (h : i < l.length) : (p.take i ++ l.drop i).set i (p.getD i 0) = p.take (i + 1) ++ l.drop (i + 1) := by
  rw [List.set_append_right _ _ (by rw [List.length_take]; omega), List.length_take, Nat.min_eq_left (by omega), Nat.sub_self, List.drop_eq_getElem_cons h, List.set_cons_zero, List.take_succ_eq_append_getElem (by omega), List.append_assoc, List.singleton_append, getD_get (by omega)]
theorem mix_get (p l : List Int) (hp : p.length = l.length) (i : Nat) (h : i < l.length) : (p.take i ++ l.drop i).getD i 0 = l.getD i 0 := by
  rw [List.getD_eq_getElem?_getD, List.getElem?_append_right (by rw [List.length_take]; omega), List.length_take, Nat.min_eq_left (by omega), Nat.sub_self, List.getElem?_drop, Nat.add_zero, List.getD_eq_getElem?_getD]
theorem mix_len (p l : List Int) (hp : p.length = l.length) (i : Nat) (h : i ≤ l.length) : (p.take i ++ l.drop i).length = l.length := by
  simp; omega

theorem inRange_eq (a b c : Int) : impl_InRange.f a b c = some (decide (b ≤ a ∧ a ≤ c)) := by
  unfold impl_InRange.f; by_cases h : b ≤ a <;> simp [h]

theorem implMod_eq (p q : Int) : impl_Mod.f p q = some (modP p q) := by
  unfold impl_Mod.f modP
  rw [inRange_eq]
  simp only [Option.bind_some, decide_eq_true_eq]
  by_cases h : 1 ≤ q ∧ q ≤ 1000000000000
  · rw [if_pos h, if_pos h, if_neg (by omega)]
  · rw [if_neg h, if_neg h]

theorem implHash_ev (l : List Int) (hl : l.length ≤ 281474976710656) : Ev (fun k => impl_Hash.f k l) (hashP l) := by
  have H := evUp (g := fun i k => impl_Hash.l0 k ((l.take i).foldl hstep 11) l (l.length : Int) (i : Int)) (R := fun _ => hashP l) l.length ?_ ?_ 0 (Nat.zero_le _)
  · refine Ev.congr (fun k => ?_) H
    unfold impl_Hash.f
    simp
  · refine Ev.step (f := fun _ => some (hashP l)) (fun k => ?_) (Ev.now _)
    simp only [impl_Hash.l0]
    rw [if_neg (by omega)]
    simp [hashP]
  · intro i hi ih
    refine Ev.step (fun k => ?_) ih
    simp only [impl_Hash.l0]
    rw [if_pos (by omega), if_pos (by omega), if_pos (by omega), implMod_eq, rdn, wsucc (by omega)]
    simp only [Option.bind_some]
    rw [List.take_succ_eq_append_getElem hi, List.foldl_append, getD_get hi]
    rfl

theorem evSucc {α : Type} {g : Nat → Option α} {r : α} (h : Ev (fun k => g (k + 1)) r) : Ev g r := Ev.step (fun _ => rfl) h
theorem evIte {α : Type} {c : Prop} [Decidable c] {f g : Nat → Option α} {r : α} (h1 : c → Ev f r) (h2 : ¬ c → Ev g r) : Ev (fun k => if c then f k else g k) r := by
  by_cases h : c
  · simp only [if_pos h]; exact h1 h
  · simp only [if_neg h]; exact h2 h
theorem evT {α : Type} {f g : Nat → Option α} {r : α} (c : Prop) [Decidable c] (h : c) (h1 : Ev f r) : Ev (fun k => if c then f k else g k) r := by
  simp only [if_pos h]; exact h1
theorem evF {α : Type} {f g : Nat → Option α} {r : α} (c : Prop) [Decidable c] (h : ¬ c) (h1 : Ev g r) : Ev (fun k => if c then f k else g k) r := by
  simp only [if_neg h]; exact h1
theorem mneg (n : Nat) : ((1 : Int) + (n : Int) < 0) = False := eq_false (by omega)
theorem mneg2 (n m : Nat) : ((1 : Int) + (n : Int) + (m : Int) < 0) = False := eq_false (by omega)

theorem flat_take {α : Type} (ls : List (List α)) (i : Nat) (h : i < ls.length) : (ls.take (i + 1)).flatten = (ls.take i).flatten ++ ls.getD i [] := by
  rw [List.take_succ_eq_append_getElem h, List.flatten_append, getD_get h]
  simp
theorem flat_le {α : Type} (ls : List (List α)) (i : Nat) : (ls.take i).flatten.length ≤ ls.flatten.length := by
  have e : ls.flatten = (ls.take i).flatten ++ (ls.drop i).flatten := by rw [← List.flatten_append, List.take_append_drop]
  rw [e, List.length_append]
  omega
theorem concat_ev (ls : List (List Int)) (hn : ls.length ≤ 1000) (h0 : 0 < ls.flatten.length) (h1 : ls.flatten.length ≤ 17592186044415) : Ev (fun k => slices_Concat_int_int.f k ls) ls.flatten := by
  have hr : ∀ i : Nat, rd_L2 ls (i : Int) = ls.getD i [] := fun i => by simp [rd_L2]
  have H2 : Ev (fun k => slices_Concat_int_int.l1 k [] ls (ls.length : Int) 0) ls.flatten := by
    have := evUp (g := fun i k => slices_Concat_int_int.l1 k (ls.take i).flatten ls (ls.length : Int) (i : Int)) (R := fun _ => ls.flatten) ls.length ?_ ?_ 0 (Nat.zero_le _)
    · simpa using this
    · refine evSucc ?_
      simp only [slices_Concat_int_int.l1]
      refine evF ((ls.length : Int) < (ls.length : Int)) (by omega) ?_
      rw [List.take_length]
      exact Ev.now _
    · intro i hi ih
      have hle := flat_le ls (i + 1)
      have ht := flat_take ls i hi
      rw [ht, List.length_append] at hle
      refine evSucc ?_
      simp only [slices_Concat_int_int.l1, hr]
      refine evT ((i : Int) < (ls.length : Int)) (by omega) (evT (0 ≤ (i : Int)) (by omega) (evT ((i : Int) < (ls.length : Int)) (by omega) (evT ((ls.take i).flatten.length + (ls.getD i []).length < 17592186044416) (by omega) ?_)))
      rw [wsucc (by omega)]
      rw [ht] at ih
      exact ih
  unfold slices_Concat_int_int.f
  have := evUp (g := fun i k => slices_Concat_int_int.l0 k ls ((ls.take i).flatten.length : Int) ls (ls.length : Int) (i : Int)) (R := fun _ => ls.flatten) ls.length ?_ ?_ 0 (Nat.zero_le _)
  · simpa using this
  · refine evSucc ?_
    simp only [slices_Concat_int_int.l0]
    refine evF ((ls.length : Int) < (ls.length : Int)) (by omega) ?_
    rw [List.take_length]
    have hg : slices_Grow_int_int.f (ls.flatten.length : Int) = some [] := by
      unfold slices_Grow_int_int.f
      rw [if_pos (by omega), if_pos (by omega)]
    simp only [hg, Option.bind_some]
    exact H2
  · intro i hi ih
    have hle := flat_le ls (i + 1)
    have ht := flat_take ls i hi
    rw [ht, List.length_append] at hle
    have hw : wrap64 (((ls.take i).flatten.length : Int) + ((ls.getD i []).length : Int)) = (((ls.take (i + 1)).flatten.length : Nat) : Int) := by
      rw [ht, List.length_append, w64 (by omega) (by omega)]
      omega
    refine evSucc ?_
    simp only [slices_Concat_int_int.l0, hr, hw]
    refine evT ((i : Int) < (ls.length : Int)) (by omega) (evT (0 ≤ (i : Int)) (by omega) (evT ((i : Int) < (ls.length : Int)) (by omega) (evF ((((ls.take (i + 1)).flatten.length : Nat) : Int) < 0) (by omega) ?_)))
    rw [wsucc (by omega)]
    exact ih

theorem implKeyedHash_ev (key : Int) (l : List Int) (hl : l.length ≤ 1048577) : Ev (fun k => impl_KeyedHash.f k key l) (keyedP key l) := by
  unfold impl_KeyedHash.f keyedP
  have hc := concat_ev [[key], l, [key]] (by simp) (by simp) (by simp; omega)
  have e : [[key], l, [key]].flatten = (key :: l) ++ [key] := by simp
  rw [e] at hc
  exact Ev.bind hc (Ev.bind (implHash_ev _ (by simp; omega)) (Ev.now _))

theorem sliceClone_byte_eq (l : List Int) (h : l.length < 140737488355328) : slices_Clone_byte_byte.f l = some l := by
  unfold slices_Clone_byte_byte.f
  simp [h]

theorem implDecrypt_ev (key : Int) (l : List Int) (hl : l.length ≤ 1048576) : Ev (fun k => impl_Decrypt.f k key l) (decPP key l) := by
  unfold impl_Decrypt.f
  simp only [sliceClone_byte_eq l (by omega), Option.bind_some]
  have := evUp (g := fun i k => impl_Decrypt.l0 k key ((decPP key l).take i ++ l.drop i) (l.length : Int) (i : Int)) (R := fun _ => decPP key l) l.length ?_ ?_ 0 (Nat.zero_le _)
  · simpa using this
  · refine evSucc ?_
    simp only [impl_Decrypt.l0]
    refine evF ((l.length : Int) < (l.length : Int)) (by omega) ?_
    rw [List.take_of_length_le (by rw [decPP_len]; exact Nat.le_refl _), List.drop_of_length_le (Nat.le_refl _), List.append_nil]
    exact Ev.now _
  · intro i hi ih
    have hm := mix_set (decPP key l) l (decPP_len key l) i hi
    rw [decPP_get key l i hi] at hm
    refine evSucc ?_
    simp only [impl_Decrypt.l0, rdn, mix_get (decPP key l) l (decPP_len key l) i hi, Int.toNat_natCast]
    refine evT ((i : Int) < (l.length : Int)) (by omega) (evT (0 ≤ (i : Int)) (by omega) (evT ((i : Int) < ((((decPP key l).take i ++ l.drop i).length : Nat) : Int)) (by rw [mix_len _ _ (decPP_len key l) i (by omega)]; omega) ?_))
    refine Ev.bind (implKeyedHash_ev key [(i : Int)] (by simp)) ?_
    rw [wsucc (by omega)]
    rw [← hm] at ih
    exact ih

theorem l1In_eq (a b c : Int) : spec_l1In.f a b c = some (decide (b ≤ a ∧ a ≤ c)) := by
  unfold spec_l1In.f; by_cases h : b ≤ a <;> simp [h]

theorem specMod_eq (p q : Int) : spec_Mod.f p q = some (modP p q) := by
  unfold spec_Mod.f modP
  rw [l1In_eq]
  simp only [Option.bind_some, decide_eq_true_eq]
  by_cases h : 1 ≤ q ∧ q ≤ 1000000000000
  · rw [if_pos h, if_pos h, if_neg (by omega)]
  · rw [if_neg h, if_neg h]

theorem specHash_ev (l : List Int) (hl : l.length ≤ 281474976710656) : Ev (fun k => spec_Hash.f k l) (hashP l) := by
  have H := evUp (g := fun i k => spec_Hash.l0 k l ((l.take i).foldl hstep 11) (i : Int)) (R := fun _ => hashP l) l.length ?_ ?_ 0 (Nat.zero_le _)
  · refine Ev.congr (fun k => ?_) H
    unfold spec_Hash.f
    simp
  · refine Ev.step (f := fun _ => some (hashP l)) (fun k => ?_) (Ev.now _)
    simp only [spec_Hash.l0]
    rw [if_neg (by omega)]
    simp [hashP]
  · intro i hi ih
    refine Ev.step (fun k => ?_) ih
    simp only [spec_Hash.l0]
    rw [if_pos (by omega), if_pos (by omega), specMod_eq, rdn, wsucc (by omega)]
    simp only [Option.bind_some]
    rw [List.take_succ_eq_append_getElem hi, List.foldl_append, getD_get hi]
    rfl

theorem specKeyedHash_ev (key : Int) (l : List Int) (hl : l.length ≤ 1048577) : Ev (fun k => spec_KeyedHash.f k key l) (keyedP key l) := by
  unfold spec_KeyedHash.f keyedP
  simp only [Option.bind_some]
  refine evT (([key] : List Int).length + l.length < 17592186044416) (by simp; omega) (evT (([key] ++ l).length < 17592186044416) (by simp; omega) ?_)
  exact Ev.bind (specHash_ev (([key] ++ l) ++ [key]) (by simp; omega)) (Ev.now _)

theorem specDecrypt_ev (key : Int) (l : List Int) (hl : l.length ≤ 1048576) (hb : ∀ x ∈ l, 0 ≤ x ∧ x ≤ 255) : Ev (fun k => spec_Decrypt.f k key l) (decPP key l) := by
  unfold spec_Decrypt.f
  have := evUp (g := fun i k => spec_Decrypt.l0 k key l ((decPP key l).take i) (i : Int)) (R := fun _ => decPP key l) l.length ?_ ?_ 0 (Nat.zero_le _)
  · simpa using this
  · refine evSucc ?_
    simp only [spec_Decrypt.l0]
    refine evF ((l.length : Int) < (l.length : Int)) (by omega) ?_
    rw [List.take_of_length_le (by rw [decPP_len]; exact Nat.le_refl _)]
    exact Ev.now _
  · intro i hi ih
    have hc := hb (l.getD i 0) (getD_mem hi)
    have hk := keyedP_range key [(i : Int)]
    have hg := decPP_get key l i hi
    rw [getD_get (by rw [decPP_len]; exact hi)] at hg
    have hcut : (decPP key l).take (i + 1) = (decPP key l).take i ++ [(l.getD i 0 - keyedP key [(i : Int)] % 256) % 256] := by
      rw [List.take_succ_eq_append_getElem (by rw [decPP_len]; exact hi), hg]
    have hlen : ((decPP key l).take i).length < 140737488355328 := by rw [List.length_take, decPP_len]; omega
    refine evSucc ?_
    simp only [spec_Decrypt.l0, rdn]
    refine evT ((i : Int) < (l.length : Int)) (by omega) (evT (0 ≤ (i : Int)) (by omega) ?_)
    refine Ev.bind (specKeyedHash_ev key [(i : Int)] (by simp)) ?_
    generalize keyedP key [(i : Int)] = t at hk hcut ⊢
    generalize l.getD i 0 = c at hc hcut ⊢
    simp only [specMod_eq, Option.bind_some]
    have he : modP (wrap64 (wrap64 c - Int.tmod t 256)) 256 % 256 = (c - t % 256) % 256 := by
      rw [w64 (x := c) (by omega) (by omega), Int.tmod_eq_emod_of_nonneg (by omega), w64 (by omega) (by omega), modP_emod (by omega) (by omega)]
      omega
    refine evT (((decPP key l).take i).length < 140737488355328) hlen ?_
    rw [he, wsucc (by omega)]
    rw [hcut] at ih
    exact ih

theorem toByteS_ev (l : List Int) (hl : l.length ≤ 281474976710656) : Ev (fun k => laws_toByteS.f k l) l := by
  have H : Ev (fun k => laws_toByteS.l0 k l (List.replicate l.length 0) 0) l := by
    have := evUp (g := fun i k => laws_toByteS.l0 k l (l.take i ++ List.replicate (l.length - i) 0) (i : Int)) (R := fun _ => l) l.length ?_ ?_ 0 (Nat.zero_le _)
    · simpa using this
    · refine Ev.step (f := fun _ => some l) (fun k => ?_) (Ev.now _)
      simp only [laws_toByteS.l0]
      rw [if_neg (by omega)]
      simp
    · intro i hi ih
      refine Ev.step (fun k => ?_) ih
      simp only [laws_toByteS.l0]
      rw [if_pos (by omega), if_pos (by omega), if_pos (by rw [take_rep_len l 0 i (by omega)]; omega), wsucc (by omega), rdn, Int.toNat_natCast, take_set_rep l 0 0 i hi]
  refine Ev.congr (fun k => ?_) H
  unfold laws_toByteS.f
  rw [if_pos (by omega), if_pos (by omega)]
  simp

theorem eqByteS_ev (a b : List Int) (hl : a.length ≤ 281474976710656) : Ev (fun k => laws_eqByteS.f k a b) (decide (a = b)) := by
  by_cases hn : a.length = b.length
  · have H : Ev (fun k => laws_eqByteS.l0 k a b 0) (decide (a = b)) := by
      have := evUp (g := fun i k => laws_eqByteS.l0 k a b (i : Int)) (R := fun i => decide (a.drop i = b.drop i)) a.length ?_ ?_ 0 (Nat.zero_le _)
      · simpa using this
      · refine Ev.step (f := fun _ => some true) (fun k => ?_) (by simpa [hn] using Ev.now true)
        simp only [laws_eqByteS.l0]
        rw [if_neg (by omega)]
      · intro i hi ih
        have hd := drop_eq_iff a b 0 i hi (by omega)
        by_cases he : a.getD i 0 = b.getD i 0
        · refine Ev.step (f := fun k => laws_eqByteS.l0 k a b ((i + 1 : Nat) : Int)) (fun k => ?_) ?_
          · simp only [laws_eqByteS.l0]
            rw [if_pos (by omega), if_pos (by omega), if_pos (by omega), rdn, rdn, if_pos he, wsucc (by omega)]
          · have e : decide (a.drop i = b.drop i) = decide (a.drop (i + 1) = b.drop (i + 1)) := decide_eq_decide.mpr (hd.trans (and_iff_right he))
            simp only [e]
            exact ih
        · refine Ev.step (f := fun _ => some false) (fun k => ?_) ?_
          · simp only [laws_eqByteS.l0]
            rw [if_pos (by omega), if_pos (by omega), if_pos (by omega), rdn, rdn, if_neg he]
          · have e : decide (a.drop i = b.drop i) = false := decide_eq_false (fun h => he (hd.mp h).1)
            simp only [e]
            exact Ev.now false
    refine Ev.congr (fun k => ?_) H
    unfold laws_eqByteS.f
    rw [if_pos (by omega)]
  · have e : decide (a = b) = false := decide_eq_false (fun h => hn (by rw [h]))
    rw [e]
    refine Ev.congr (f := fun _ => some false) (fun k => ?_) (Ev.now false)
    unfold laws_eqByteS.f
    rw [if_neg (by omega)]
theorem eqByteS_same (a : List Int) (hl : a.length ≤ 281474976710656) : Ev (fun k => laws_eqByteS.f k a a) true := by simpa using eqByteS_ev a a hl

def markedByte (a : Int) (n : Nat) : List Int := (List.range n).map fun (i : Nat) => (a + (i : Int)) % 256
theorem markedByte_len (a : Int) (n : Nat) : (markedByte a n).length = n := by simp [markedByte]
theorem markedByte_succ (a : Int) (n : Nat) : markedByte a (n + 1) = markedByte a n ++ [(a + (n : Int)) % 256] := by simp [markedByte, List.range_succ]
theorem markByteS_ev (l : List Int) (a : Int) (h0 : 0 ≤ a) (h1 : a ≤ 1152921504606846976) (hl : l.length ≤ 281474976710656) : Ev (fun k => laws_markByteS.f k l a) (a + (l.length : Int), markedByte a l.length) := by
  have H := evUp (g := fun i k => laws_markByteS.l0 k (markedByte a i ++ l.drop i) (a + (i : Int)) (i : Int)) (R := fun _ => (a + (l.length : Int), markedByte a l.length)) l.length ?_ ?_ 0 (Nat.zero_le _)
  · refine Ev.congr (fun k => ?_) H
    unfold laws_markByteS.f
    simp [markedByte]
  · refine Ev.step (f := fun _ => some (a + (l.length : Int), markedByte a l.length)) (fun k => ?_) (Ev.now _)
    simp only [laws_markByteS.l0]
    rw [if_neg (by rw [List.length_append, markedByte_len]; simp)]
    simp
  · intro i hi ih
    refine Ev.step (fun k => ?_) ih
    simp only [laws_markByteS.l0]
    rw [if_pos (by rw [List.length_append, markedByte_len, List.length_drop]; omega), if_pos (by omega), wsucc (by omega), w64 (by omega) (by omega), Int.toNat_natCast, List.set_append_right _ _ (by rw [markedByte_len]; omega), markedByte_len, Nat.sub_self, List.drop_eq_getElem_cons hi, List.set_cons_zero, markedByte_succ, List.append_assoc, List.singleton_append]
    have e : a + (i : Int) + 1 = a + ((i + 1 : Nat) : Int) := by omega
    rw [e]

theorem markedByte_get (a : Int) (n i : Nat) (h : i < n) : (markedByte a n).getD i 0 = (a + (i : Int)) % 256 := by
  rw [getD_get (by rw [markedByte_len]; exact h)]
  simp [markedByte]
theorem heldByteS_ev (n : Nat) (a : Int) (h0 : 0 ≤ a) (h1 : a ≤ 1152921504606846976) (hl : n ≤ 281474976710656) : Ev (fun k => laws_heldByteS.f k (markedByte a n) a) (a + (n : Int)) := by
  have H := evUp (g := fun i k => laws_heldByteS.l0 k (markedByte a n) (a + (i : Int)) (i : Int)) (R := fun _ => a + (n : Int)) n ?_ ?_ 0 (Nat.zero_le _)
  · refine Ev.congr (fun k => ?_) H
    unfold laws_heldByteS.f
    simp
  · refine Ev.step (f := fun _ => some (a + (n : Int))) (fun k => ?_) (Ev.now _)
    simp only [laws_heldByteS.l0]
    rw [if_neg (by rw [markedByte_len]; omega)]
  · intro i hi ih
    refine Ev.step (fun k => ?_) ih
    simp only [laws_heldByteS.l0]
    rw [if_pos (by rw [markedByte_len]; omega), if_pos (by omega), rdn, markedByte_get a n i hi, if_pos rfl, wsucc (by omega), w64 (by omega) (by omega)]
    have e : a + (i : Int) + 1 = a + ((i + 1 : Nat) : Int) := by omega
    rw [e]

theorem FnExactDecrypt : laws_FnExactDecrypt.Pure := by
  intro key l _ _ _ hb0
  have hb : ∀ x ∈ l, 0 ≤ x ∧ x ≤ 255 := fun x hx => wfB (hb0 x hx)
  have hlen := decPP_len key l
  refine Ev.rounds ?_
  unfold laws_FnExactDecrypt.f
  refine evIte (fun _ => Ev.now _) (fun hbig0 => ?_)
  repeat first
    | with_reducible exact Ev.now _
    | (with_reducible refine Ev.bind (toByteS_ev _ ?_) ?_; (· (first | omega | assumption | (dsimp only; omega) | (simp; omega))))
    | (with_reducible refine Ev.bind (eqByteS_same _ ?_) ?_; (· (first | omega | assumption | (dsimp only; omega) | (simp; omega))))
    | (with_reducible refine Ev.bind (markByteS_ev _ _ (by omega) (by omega) ?_) ?_; (· (first | omega | assumption | (dsimp only; omega) | (simp; omega))))
    | (with_reducible refine Ev.bind (heldByteS_ev _ _ (by omega) (by omega) ?_) ?_; (· (first | omega | assumption | (dsimp only; omega) | (simp; omega))))
    | (with_reducible refine Ev.bind (implDecrypt_ev _ _ ?_) ?_; (· (first | omega | assumption | (dsimp only; omega) | (simp; omega))))
    | (with_reducible refine Ev.bind (specDecrypt_ev _ _ ?_ ?_) ?_; (· (first | omega | assumption | (dsimp only; omega) | (simp; omega))); (· (first | omega | assumption | (dsimp only; omega) | (simp; omega))))
    | (with_reducible refine evSucc (g := fun k => laws_FnExactDecrypt.j0 k _ _ _ _ _) ?_; simp only [laws_FnExactDecrypt.j0])
    | simp only [if_true, if_false, Bool.false_eq_true, Bool.not_true, Bool.not_false, Bool.true_eq_false, mneg, mneg2, bne_self_eq_false, Option.bind_some]

end Go.Proofs.Ytodklionpjjmfaa.Pure
