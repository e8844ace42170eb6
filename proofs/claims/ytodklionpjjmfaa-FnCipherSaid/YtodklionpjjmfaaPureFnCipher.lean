/- The law FnCipher returns true for every input: decryption inverts encryption, and encryption inverts decryption. It holds for every input that the statement admits; no condition is added. -/
import Derived.Test.YtodklionpjjmfaaQFnCipherx3
import Derived.Test.YtodklionpjjmfaaWSized
namespace Go.Proofs.Ytodklionpjjmfaa.PrintWords
open Go.ChangeShapes Go.WideShapes in
theorem sized_ints {H : Type} {enc : TypeId × Value → H} {P : Program} {W : World} {base : Nat} {spare : Nat → Bool} {held : Bool} {t e : TypeId} {k : IntKind} {a : Option Addr} {len cap : Nat} {d : DataW H} {ps : List MemPlace} {ts : List TypeId} {ds : List (DataW H)} {j : Nat}
    (h1 : (DataW.weightsEach P ts ds).all (· ≤ reachBytes) = true) (h2 : ts[j]? = some t) (h3 : ds[j]? = some d) (h4 : P.underlying t = some (.slice e)) (h5 : P.underlying e = some (.int k)) (h6 : P.cellsOf e = 1) {B : Nat} (h7 : P.bytesOf e = B)
    (h8 : DataW.Trod enc P W base spare held t (.slice a len cap) d ps) : len * B ≤ 140737488351232 := Go.Proofs.YtodklionpjjmfaaW.PrintWords.sized_ints h1 h2 h3 h4 h5 h6 h7 h8
end Go.Proofs.Ytodklionpjjmfaa.PrintWords
namespace Go.Proofs.Ytodklionpjjmfaa.Pure
open Go.RowKit Go.Proofs.Ytodklionpjjmfaa.QFnCipher Go.Proofs.YtodklionpjjmfaaW.PrintWords Go.Proofs.YtodklionpjjmfaaW.PrintLast Go.Proofs.YtodklionpjjmfaaW.PrintMore
set_option linter.unusedVariables false
set_option linter.unusedSimpArgs false

theorem w64 {x : Int} (h0 : -9223372036854775808 ≤ x) (h1 : x ≤ 9223372036854775807) : wrap64 x = x := by unfold wrap64; omega
theorem wsucc {i : Nat} (h : i < 4611686018427387904) : wrap64 ((i : Int) + 1) = ((i + 1 : Nat) : Int) := by unfold wrap64; omega
theorem wfI {x : Int} (h : (Lit.int .i64 x).wf = true) : -9223372036854775808 ≤ x ∧ x ≤ 9223372036854775807 := by
  simp only [Lit.wf, Bool.and_eq_true, decide_eq_true_eq] at h
  exact h
theorem wfB {x : Int} (h : (Lit.int .u8 x).wf = true) : 0 ≤ x ∧ x ≤ 255 := by
  simp only [Lit.wf, Bool.and_eq_true, decide_eq_true_eq] at h
  exact h
theorem rdn (l : List Int) (i : Nat) : rd l (i : Int) = l.getD i 0 := by simp [rd]
theorem evOne {α : Type} {f : Option α} {r : α} (h : f = some r) : Ev (fun _ => f) r := ⟨0, fun _ _ => h⟩
theorem evUp {ρ : Type} {g : Nat → Nat → Option ρ} {R : Nat → ρ} (n : Nat) (last : Ev (g n) (R n)) (step : ∀ i, i < n → Ev (g (i + 1)) (R (i + 1)) → Ev (g i) (R i)) : ∀ i, i ≤ n → Ev (g i) (R i) := by
  intro i hi
  obtain ⟨d, hd⟩ : ∃ d, i + d = n := ⟨n - i, by omega⟩
  induction d generalizing i with
  | zero => obtain rfl : i = n := by omega
            exact last
  | succ d ih => exact step i (by omega) (ih (i + 1) (by omega) (by omega))
theorem getD_mem {α : Type} {l : List α} {i : Nat} {d : α} (h : i < l.length) : l.getD i d ∈ l := by
  rw [List.getD_eq_getElem?_getD, List.getElem?_eq_getElem h]; exact List.getElem_mem h
theorem getD_get {α : Type} {l : List α} {i : Nat} {d : α} (h : i < l.length) : l.getD i d = l[i] := by
  rw [List.getD_eq_getElem?_getD, List.getElem?_eq_getElem h]; rfl
theorem take_set_rep {α : Type} (l : List α) (z d : α) (i : Nat) (h : i < l.length) : (l.take i ++ List.replicate (l.length - i) z).set i (l.getD i d) = l.take (i + 1) ++ List.replicate (l.length - (i + 1)) z := by
  obtain ⟨m, hm⟩ : ∃ m, l.length - i = m + 1 := ⟨l.length - i - 1, by omega⟩
  have hm' : l.length - (i + 1) = m := by omega
  rw [hm, hm', List.set_append_right _ _ (by rw [List.length_take]; omega), List.length_take, Nat.min_eq_left (by omega), Nat.sub_self, List.replicate_succ, List.set_cons_zero, getD_get h, List.take_succ_eq_append_getElem h, List.append_assoc, List.singleton_append]
theorem drop_eq_iff {α : Type} (a b : List α) (d : α) (i : Nat) (ha : i < a.length) (hb : i < b.length) : (a.drop i = b.drop i) ↔ (a.getD i d = b.getD i d ∧ a.drop (i + 1) = b.drop (i + 1)) := by
  rw [List.drop_eq_getElem_cons ha, List.drop_eq_getElem_cons hb, List.cons.injEq, getD_get ha, getD_get hb]
theorem take_rep_len {α : Type} (l : List α) (z : α) (i : Nat) (h : i ≤ l.length) : (l.take i ++ List.replicate (l.length - i) z).length = l.length := by
  simp; omega

def modP (p q : Int) : Int := if 1 ≤ q ∧ q ≤ 1000000000000 then Int.tmod (wrap64 (Int.tmod p q + q)) q else 0
theorem modP_emod {p q : Int} (h1 : 1 ≤ q) (h2 : q ≤ 1000000000000) : modP p q = p % q := by
  unfold modP
  rw [if_pos ⟨h1, h2⟩]
  have a := Int.tmod_lt_of_pos p (b := q) (by omega)
  have b : -q < Int.tmod p q := by
    rcases Int.le_total 0 p with h | h
    · have := Int.tmod_nonneg q h; omega
    · have e : Int.tmod p q = -Int.tmod (-p) q := by rw [Int.neg_tmod]; omega
      have := Int.tmod_lt_of_pos (-p) (b := q) (by omega)
      omega
  have e : Int.tmod p q + q = p + q * (1 - Int.tdiv p q) := by
    have h := Int.tmod_add_mul_tdiv p q
    rw [Int.mul_sub]
    omega
  rw [w64 (by omega) (by omega), Int.tmod_eq_emod_of_nonneg (by omega), e, Int.add_mul_emod_self_left]
theorem modP_range {p q : Int} (h1 : 1 ≤ q) (h2 : q ≤ 1000000000000) : 0 ≤ modP p q ∧ modP p q < q := by
  rw [modP_emod h1 h2]; exact ⟨Int.emod_nonneg _ (by omega), Int.emod_lt_of_pos _ (by omega)⟩

def hstep (s v : Int) : Int := Int.tmod (wrap64 ((wrap64 ((wrap64 (s * 1000003)) + modP v 2147483647)) + 13)) 2147483647
def hashP (l : List Int) : Int := l.foldl hstep 11
theorem hstep_emod {s v : Int} (h0 : 0 ≤ s) (h1 : s < 2147483647) : hstep s v = (s * 1000003 + v % 2147483647 + 13) % 2147483647 := by
  unfold hstep
  rw [modP_emod (by omega) (by omega)]
  have a := Int.emod_nonneg v (b := 2147483647) (by omega)
  have b := Int.emod_lt_of_pos v (b := 2147483647) (by omega)
  rw [w64 (x := s * 1000003) (by omega) (by omega), w64 (x := s * 1000003 + v % 2147483647) (by omega) (by omega), w64 (by omega) (by omega), Int.tmod_eq_emod_of_nonneg (by omega)]
theorem hstep_range {s v : Int} (h0 : 0 ≤ s) (h1 : s < 2147483647) : 0 ≤ hstep s v ∧ hstep s v < 2147483647 := by
  rw [hstep_emod h0 h1]; exact ⟨Int.emod_nonneg _ (by omega), Int.emod_lt_of_pos _ (by omega)⟩
theorem hfold_range (l : List Int) : ∀ s, 0 ≤ s → s < 2147483647 → 0 ≤ l.foldl hstep s ∧ l.foldl hstep s < 2147483647 := by
  induction l with
  | nil => intro s h0 h1; exact ⟨h0, h1⟩
  | cons v l ih => intro s h0 h1; have h := hstep_range (v := v) h0 h1; exact ih _ h.1 h.2
theorem hashP_range (l : List Int) : 0 ≤ hashP l ∧ hashP l < 2147483647 := hfold_range l 11 (by omega) (by omega)

def keyedP (key : Int) (l : List Int) : Int := hashP ((key :: l) ++ [key])
theorem keyedP_range (key : Int) (l : List Int) : 0 ≤ keyedP key l ∧ keyedP key l < 2147483647 := hashP_range _

def encP (key : Int) (l : List Int) : List Int := (List.range l.length).map fun (i : Nat) => (l.getD i 0 + keyedP key [(i : Int)] % 256) % 256
def decPP (key : Int) (l : List Int) : List Int := (List.range l.length).map fun (i : Nat) => (l.getD i 0 - keyedP key [(i : Int)] % 256) % 256
theorem encP_len (key : Int) (l : List Int) : (encP key l).length = l.length := by simp [encP]
theorem decPP_len (key : Int) (l : List Int) : (decPP key l).length = l.length := by simp [decPP]
theorem encP_get (key : Int) (l : List Int) (i : Nat) (h : i < l.length) : (encP key l).getD i 0 = (l.getD i 0 + keyedP key [(i : Int)] % 256) % 256 := by
  rw [getD_get (by rw [encP_len]; exact h)]
  simp [encP]
theorem decPP_get (key : Int) (l : List Int) (i : Nat) (h : i < l.length) : (decPP key l).getD i 0 = (l.getD i 0 - keyedP key [(i : Int)] % 256) % 256 := by
  rw [getD_get (by rw [decPP_len]; exact h)]
  simp [decPP]
theorem mix_set (p l : List Int) (hp : p.length = l.length) (i : Nat) (h : i < l.length) : (p.take i ++ l.drop i).set i (p.getD i 0) = p.take (i + 1) ++ l.drop (i + 1) := by
  rw [List.set_append_right _ _ (by rw [List.length_take]; omega), List.length_take, Nat.min_eq_left (by omega), Nat.sub_self, List.drop_eq_getElem_cons h, List.set_cons_zero, List.take_succ_eq_append_getElem (by omega), List.append_assoc, List.singleton_append, getD_get (by omega)]
theorem mix_get (p l : List Int) (hp : p.length = l.length) (i : Nat) (h : i < l.length) : (p.take i ++ l.drop i).getD i 0 = l.getD i 0 := by
  rw [List.getD_eq_getElem?_getD, List.getElem?_append_right (by rw [List.length_take]; omega), List.length_take, Nat.min_eq_left (by omega), Nat.sub_self, List.getElem?_drop, Nat.add_zero, List.getD_eq_getElem?_getD]
theorem mix_len (p l : List Int) (hp : p.length = l.length) (i : Nat) (h : i ≤ l.length) : (p.take i ++ l.drop i).length = l.length := by
  simp; omega

theorem inRange_eq (a b c : Int) : impl_InRange.f a b c = some (decide (b ≤ a ∧ a ≤ c)) := by
  unfold impl_InRange.f; by_cases h : b ≤ a <;> simp [h]

theorem implMod_eq (p q : Int) : impl_Mod.f p q = some (modP p q) := by
  unfold impl_Mod.f modP
  rw [inRange_eq]
  simp only [Option.bind_some, decide_eq_true_eq]
  by_cases h : 1 ≤ q ∧ q ≤ 1000000000000
  · rw [if_pos h, if_pos h, if_neg (by omega)]
  · rw [if_neg h, if_neg h]

theorem implHash_ev (l : List Int) (hl : l.length ≤ 281474976710656) : Ev (fun k => impl_Hash.f k l) (hashP l) := by
  have H := evUp (g := fun i k => impl_Hash.l0 k ((l.take i).foldl hstep 11) l (l.length : Int) (i : Int)) (R := fun _ => hashP l) l.length ?_ ?_ 0 (Nat.zero_le _)
  · refine Ev.congr (fun k => ?_) H
    unfold impl_Hash.f
    simp
  · refine Ev.step (f := fun _ => some (hashP l)) (fun k => ?_) (Ev.now _)
    simp only [impl_Hash.l0]
    rw [if_neg (by omega)]
    simp [hashP]
  · intro i hi ih
    refine Ev.step (fun k => ?_) ih
    simp only [impl_Hash.l0]
    rw [if_pos (by omega), if_pos (by omega), if_pos (by omega), implMod_eq, rdn, wsucc (by omega)]
    simp only [Option.bind_some]
    rw [List.take_succ_eq_append_getElem hi, List.foldl_append, getD_get hi]
    rfl

theorem evSucc {α : Type} {g : Nat → Option α} {r : α} (h : Ev (fun k => g (k + 1)) r) : Ev g r := Ev.step (fun _ => rfl) h
theorem evIte {α : Type} {c : Prop} [Decidable c] {f g : Nat → Option α} {r : α} (h1 : c → Ev f r) (h2 : ¬ c → Ev g r) : Ev (fun k => if c then f k else g k) r := by
  by_cases h : c
  · simp only [if_pos h]; exact h1 h
  · simp only [if_neg h]; exact h2 h
theorem evT {α : Type} {f g : Nat → Option α} {r : α} (c : Prop) [Decidable c] (h : c) (h1 : Ev f r) : Ev (fun k => if c then f k else g k) r := by
  simp only [if_pos h]; exact h1
theorem evF {α : Type} {f g : Nat → Option α} {r : α} (c : Prop) [Decidable c] (h : ¬ c) (h1 : Ev g r) : Ev (fun k => if c then f k else g k) r := by
  simp only [if_neg h]; exact h1
theorem mneg (n : Nat) : ((1 : Int) + (n : Int) < 0) = False := eq_false (by omega)
theorem mneg2 (n m : Nat) : ((1 : Int) + (n : Int) + (m : Int) < 0) = False := eq_false (by omega)

theorem flat_take {α : Type} (ls : List (List α)) (i : Nat) (h : i < ls.length) : (ls.take (i + 1)).flatten = (ls.take i).flatten ++ ls.getD i [] := by
  rw [List.take_succ_eq_append_getElem h, List.flatten_append, getD_get h]
  simp
theorem flat_le {α : Type} (ls : List (List α)) (i : Nat) : (ls.take i).flatten.length ≤ ls.flatten.length := by
  have e : ls.flatten = (ls.take i).flatten ++ (ls.drop i).flatten := by rw [← List.flatten_append, List.take_append_drop]
  rw [e, List.length_append]
  omega
theorem concat_ev (ls : List (List Int)) (hn : ls.length ≤ 1000) (h0 : 0 < ls.flatten.length) (h1 : ls.flatten.length ≤ 17592186044415) : Ev (fun k => slices_Concat_int_int.f k ls) ls.flatten := by
  have hr : ∀ i : Nat, rd_L1 ls (i : Int) = ls.getD i [] := fun i => by simp [rd_L1]
  have H2 : Ev (fun k => slices_Concat_int_int.l1 k [] ls (ls.length : Int) 0) ls.flatten := by
    have := evUp (g := fun i k => slices_Concat_int_int.l1 k (ls.take i).flatten ls (ls.length : Int) (i : Int)) (R := fun _ => ls.flatten) ls.length ?_ ?_ 0 (Nat.zero_le _)
    · simpa using this
    · refine evSucc ?_
      simp only [slices_Concat_int_int.l1]
      refine evF ((ls.length : Int) < (ls.length : Int)) (by omega) ?_
      rw [List.take_length]
      exact Ev.now _
    · intro i hi ih
      have hle := flat_le ls (i + 1)
      have ht := flat_take ls i hi
      rw [ht, List.length_append] at hle
      refine evSucc ?_
      simp only [slices_Concat_int_int.l1, hr]
      refine evT ((i : Int) < (ls.length : Int)) (by omega) (evT (0 ≤ (i : Int)) (by omega) (evT ((i : Int) < (ls.length : Int)) (by omega) (evT ((ls.take i).flatten.length + (ls.getD i []).length < 17592186044416) (by omega) ?_)))
      rw [wsucc (by omega)]
      rw [ht] at ih
      exact ih
  unfold slices_Concat_int_int.f
  have := evUp (g := fun i k => slices_Concat_int_int.l0 k ls ((ls.take i).flatten.length : Int) ls (ls.length : Int) (i : Int)) (R := fun _ => ls.flatten) ls.length ?_ ?_ 0 (Nat.zero_le _)
  · simpa using this
  · refine evSucc ?_
    simp only [slices_Concat_int_int.l0]
    refine evF ((ls.length : Int) < (ls.length : Int)) (by omega) ?_
    rw [List.take_length]
    have hg : slices_Grow_int_int.f (ls.flatten.length : Int) = some [] := by
      unfold slices_Grow_int_int.f
      rw [if_pos (by omega), if_pos (by omega)]
    simp only [hg, Option.bind_some]
    exact H2
  · intro i hi ih
    have hle := flat_le ls (i + 1)
    have ht := flat_take ls i hi
    rw [ht, List.length_append] at hle
    have hw : wrap64 (((ls.take i).flatten.length : Int) + ((ls.getD i []).length : Int)) = (((ls.take (i + 1)).flatten.length : Nat) : Int) := by
      rw [ht, List.length_append, w64 (by omega) (by omega)]
      omega
    refine evSucc ?_
    simp only [slices_Concat_int_int.l0, hr, hw]
    refine evT ((i : Int) < (ls.length : Int)) (by omega) (evT (0 ≤ (i : Int)) (by omega) (evT ((i : Int) < (ls.length : Int)) (by omega) (evF ((((ls.take (i + 1)).flatten.length : Nat) : Int) < 0) (by omega) ?_)))
    rw [wsucc (by omega)]
    exact ih

theorem implKeyedHash_ev (key : Int) (l : List Int) (hl : l.length ≤ 1048577) : Ev (fun k => impl_KeyedHash.f k key l) (keyedP key l) := by
  unfold impl_KeyedHash.f keyedP
  have hc := concat_ev [[key], l, [key]] (by simp) (by simp) (by simp; omega)
  have e : [[key], l, [key]].flatten = (key :: l) ++ [key] := by simp
  rw [e] at hc
  exact Ev.bind hc (Ev.bind (implHash_ev _ (by simp; omega)) (Ev.now _))

theorem sliceClone_byte_eq (l : List Int) (h : l.length < 140737488355328) : slices_Clone_byte_byte.f l = some l := by
  unfold slices_Clone_byte_byte.f
  simp [h]

theorem implEncrypt_ev (key : Int) (l : List Int) (hl : l.length ≤ 1048576) : Ev (fun k => impl_Encrypt.f k key l) (encP key l) := by
  unfold impl_Encrypt.f
  simp only [sliceClone_byte_eq l (by omega), Option.bind_some]
  have := evUp (g := fun i k => impl_Encrypt.l0 k key ((encP key l).take i ++ l.drop i) (l.length : Int) (i : Int)) (R := fun _ => encP key l) l.length ?_ ?_ 0 (Nat.zero_le _)
  · simpa using this
  · refine evSucc ?_
    simp only [impl_Encrypt.l0]
    refine evF ((l.length : Int) < (l.length : Int)) (by omega) ?_
    rw [List.take_of_length_le (by rw [encP_len]; exact Nat.le_refl _), List.drop_of_length_le (Nat.le_refl _), List.append_nil]
    exact Ev.now _
  · intro i hi ih
    have hm := mix_set (encP key l) l (encP_len key l) i hi
    rw [encP_get key l i hi] at hm
    refine evSucc ?_
    simp only [impl_Encrypt.l0, rdn, mix_get (encP key l) l (encP_len key l) i hi, Int.toNat_natCast]
    refine evT ((i : Int) < (l.length : Int)) (by omega) (evT (0 ≤ (i : Int)) (by omega) (evT ((i : Int) < ((((encP key l).take i ++ l.drop i).length : Nat) : Int)) (by rw [mix_len _ _ (encP_len key l) i (by omega)]; omega) ?_))
    refine Ev.bind (implKeyedHash_ev key [(i : Int)] (by simp)) ?_
    rw [wsucc (by omega)]
    rw [← hm] at ih
    exact ih

theorem implDecrypt_ev (key : Int) (l : List Int) (hl : l.length ≤ 1048576) : Ev (fun k => impl_Decrypt.f k key l) (decPP key l) := by
  unfold impl_Decrypt.f
  simp only [sliceClone_byte_eq l (by omega), Option.bind_some]
  have := evUp (g := fun i k => impl_Decrypt.l0 k key ((decPP key l).take i ++ l.drop i) (l.length : Int) (i : Int)) (R := fun _ => decPP key l) l.length ?_ ?_ 0 (Nat.zero_le _)
  · simpa using this
  · refine evSucc ?_
    simp only [impl_Decrypt.l0]
    refine evF ((l.length : Int) < (l.length : Int)) (by omega) ?_
    rw [List.take_of_length_le (by rw [decPP_len]; exact Nat.le_refl _), List.drop_of_length_le (Nat.le_refl _), List.append_nil]
    exact Ev.now _
  · intro i hi ih
    have hm := mix_set (decPP key l) l (decPP_len key l) i hi
    rw [decPP_get key l i hi] at hm
    refine evSucc ?_
    simp only [impl_Decrypt.l0, rdn, mix_get (decPP key l) l (decPP_len key l) i hi, Int.toNat_natCast]
    refine evT ((i : Int) < (l.length : Int)) (by omega) (evT (0 ≤ (i : Int)) (by omega) (evT ((i : Int) < ((((decPP key l).take i ++ l.drop i).length : Nat) : Int)) (by rw [mix_len _ _ (decPP_len key l) i (by omega)]; omega) ?_))
    refine Ev.bind (implKeyedHash_ev key [(i : Int)] (by simp)) ?_
    rw [wsucc (by omega)]
    rw [← hm] at ih
    exact ih

theorem dec_enc (key : Int) (l : List Int) (hb : ∀ x ∈ l, 0 ≤ x ∧ x ≤ 255) : decPP key (encP key l) = l := by
  apply List.ext_getElem (by rw [decPP_len, encP_len])
  intro i h1 h2
  have hc := hb (l.getD i 0) (getD_mem h2)
  have h3 := decPP_get key (encP key l) i (by rw [encP_len]; exact h2)
  rw [encP_get key l i h2, getD_get h1] at h3
  rw [h3, ← getD_get (d := 0) h2]
  generalize keyedP key [(i : Int)] = t
  omega
theorem enc_dec (key : Int) (l : List Int) (hb : ∀ x ∈ l, 0 ≤ x ∧ x ≤ 255) : encP key (decPP key l) = l := by
  apply List.ext_getElem (by rw [encP_len, decPP_len])
  intro i h1 h2
  have hc := hb (l.getD i 0) (getD_mem h2)
  have h3 := encP_get key (decPP key l) i (by rw [decPP_len]; exact h2)
  rw [decPP_get key l i h2, getD_get h1] at h3
  rw [h3, ← getD_get (d := 0) h2]
  generalize keyedP key [(i : Int)] = t
  omega

theorem hk62 : ∀ n : Int, 0 ≤ n → n < 2 ^ 62 → IntKind.i64.wrap n = n := by intro n h0 h1; rw [IntKind.wrap_i64]; omega
theorem hk8 : ∀ n : Int, 0 ≤ n → n < 2 ^ 8 → IntKind.u8.wrap n = n := by intro n h0 h1; rw [IntKind.wrap_u8]; omega
theorem and127 {n : Int} (h0 : 0 ≤ n) (h1 : n ≤ 1000000000000) : Go.bits .and .i64 n 127 = n % 128 := by
  have h := bits_mask .i64 62 (by decide) hk62 7 (by decide) n h0 (by omega)
  simpa using h
theorem and127b {n : Int} (h0 : 0 ≤ n) (h1 : n ≤ 255) : Go.bits .and .u8 n 127 = n % 128 := by
  have h := bits_mask .u8 8 (by decide) hk8 7 (by decide) n h0 (by omega)
  simpa using h
set_option maxRecDepth 20000 in
theorem and128b {n : Int} (h0 : 0 ≤ n) (h1 : n ≤ 255) : (Go.bits .and .u8 n 128 = 0) ↔ n < 128 := by
  obtain ⟨a, rfl⟩ := Int.eq_ofNat_of_zero_le h0
  have ha : a < 256 := by omega
  have h := (bits_nat .u8 8 (by decide) hk8 a 128 (by omega) (by omega)).1
  have h2 : ∀ a : Nat, a < 256 → ((a &&& 128 = 0) ↔ a < 128) := by decide
  have h3 := h2 a ha
  have e : Go.bits .and .u8 (a : Int) 128 = ((a &&& 128 : Nat) : Int) := h
  rw [e]
  omega
theorem bor {a c i : Nat} (ha : a < 2 ^ i) (hi : i ≤ 61) (hc : 2 ^ i * c < 2 ^ 62) : Go.bits .or .i64 (a : Int) ((2 ^ i * c : Nat) : Int) = ((a + 2 ^ i * c : Nat) : Int) := by
  have h2 : (2 : Nat) ^ i ≤ 2 ^ 61 := Nat.pow_le_pow_right (by decide) hi
  have h := (bits_nat .i64 62 (by decide) hk62 a (2 ^ i * c) (by omega) hc).2
  rw [h, Nat.or_comm, ← Nat.two_pow_add_eq_or_of_lt ha c, Nat.add_comm]
theorem uvbyte {n : Int} (h0 : 0 ≤ n) (h1 : n ≤ 1000000000000) : (Go.bits .or .i64 (Go.bits .and .i64 n 127) 128) % 256 = n % 128 + 128 := by
  rw [and127 h0 h1]
  obtain ⟨a, ha⟩ := Int.eq_ofNat_of_zero_le (show 0 ≤ n % 128 by omega)
  have h := bor (a := a) (c := 1) (i := 7) (by omega) (by omega) (by omega)
  have e : ((2 ^ 7 * 1 : Nat) : Int) = 128 := by decide
  rw [e] at h
  rw [ha, h]
  omega

theorem and255 (x : Int) : 0 ≤ Go.bits .and .i64 x 255 ∧ Go.bits .and .i64 x 255 ≤ 255 := by
  have e : Go.bits .and .i64 x ((255 : Nat) : Int) = IntKind.i64.wrap (((BitVec.ofInt 64 x).toNat &&& 255 : Nat) : Int) := by
    simp only [Go.bits, BitVec.ofInt_natCast, BitVec.toNat_and, BitVec.toNat_ofNat]
    rfl
  have h : ((BitVec.ofInt 64 x).toNat &&& 255) ≤ 255 := Nat.and_le_right
  have e2 : Go.bits .and .i64 x 255 = (((BitVec.ofInt 64 x).toNat &&& 255 : Nat) : Int) := by
    rw [← hk62 (((BitVec.ofInt 64 x).toNat &&& 255 : Nat) : Int) (by omega) (by omega)]
    exact e
  rw [e2]
  omega
theorem byte_ex (b : List Int) (i h : Int) (hl : b.length ≤ 1048576) (h0 : 0 ≤ i) (h1 : i ≤ b.length) : ∃ v i' h', spec_l1Byte.f b i h = some (v, i', h') ∧ 0 ≤ v ∧ v ≤ 255 ∧ 0 ≤ i' ∧ i' ≤ b.length := by
  unfold spec_l1Byte.f
  by_cases hi : i < (b.length : Int)
  · rw [if_pos hi, if_pos h0, w64 (x := i + 1) (by omega) (by omega)]
    exact ⟨_, _, _, rfl, (and255 _).1, (and255 _).2, by omega, by omega⟩
  · rw [if_neg hi]
    exact ⟨_, _, _, rfl, (and255 _).1, (and255 _).2, h0, h1⟩
theorem below_ex (b : List Int) (i h n : Int) (hl : b.length ≤ 1048576) (h0 : 0 ≤ i) (h1 : i ≤ b.length) : ∃ v i' h', spec_l1Below.f b i h n = some (v, i', h') ∧ (0 < n → 0 ≤ v ∧ v < n) ∧ (n ≤ 0 → v = 0) ∧ 0 ≤ i' ∧ i' ≤ b.length := by
  unfold spec_l1Below.f
  by_cases hn : n ≤ 0
  · rw [if_pos hn]
    exact ⟨_, _, _, rfl, fun h => by omega, fun _ => rfl, h0, h1⟩
  rw [if_neg hn]
  by_cases hn2 : n ≤ 256
  · rw [if_pos hn2]
    obtain ⟨v, i1, g1, e1, a1, b1, c1, d1⟩ := byte_ex b i h hl h0 h1
    rw [e1]
    simp only [Option.bind_some]
    rw [if_neg (by omega)]
    refine ⟨_, _, _, rfl, fun _ => ?_, fun h => by omega, c1, d1⟩
    rw [Int.tmod_eq_emod_of_nonneg a1]
    exact ⟨Int.emod_nonneg _ (by omega), Int.emod_lt_of_pos _ (by omega)⟩
  · rw [if_neg hn2]
    obtain ⟨v, i1, g1, e1, a1, b1, c1, d1⟩ := byte_ex b i h hl h0 h1
    obtain ⟨v2, i2, g2, e2, a2, b2, c2, d2⟩ := byte_ex b i1 g1 hl c1 d1
    obtain ⟨v3, i3, g3, e3, a3, b3, c3, d3⟩ := byte_ex b i2 g2 hl c2 d2
    rw [e1]
    simp only [Option.bind_some]
    rw [e2]
    simp only [Option.bind_some]
    rw [e3]
    simp only [Option.bind_some]
    rw [if_neg (by omega), w64 (x := v * 65536) (by omega) (by omega), w64 (x := v2 * 256) (by omega) (by omega), w64 (x := v * 65536 + v2 * 256) (by omega) (by omega), w64 (by omega) (by omega)]
    refine ⟨_, _, _, rfl, fun _ => ?_, fun h => by omega, c3, d3⟩
    rw [Int.tmod_eq_emod_of_nonneg (by omega)]
    exact ⟨Int.emod_nonneg _ (by omega), Int.emod_lt_of_pos _ (by omega)⟩
theorem new_ev (l : List Int) (hl : l.length ≤ 1048576) : ∃ h, Ev (fun k => spec_l1New.f k l) (l, 0, h) := by
  unfold spec_l1New.f
  have H : ∀ d i (x : Int), i + d = l.length → ∃ h, Ev (fun k => spec_l1New.l0 k l x (i : Int)) (l, 0, h) := by
    intro d
    induction d with
    | zero =>
      intro i x hi
      refine ⟨x, evSucc ?_⟩
      simp only [spec_l1New.l0]
      exact evF ((i : Int) < (l.length : Int)) (by omega) (Ev.now _)
    | succ d ih =>
      intro i x hi
      by_cases h4 : (i : Int) < 4000
      · obtain ⟨h, hh⟩ := ih (i + 1) (Go.bits .and .i64 (wrap64 ((wrap64 ((wrap64 (x * 137)) + (wrap64 (rd l (i : Int))))) + 11)) 1073741823) (by omega)
        refine ⟨h, evSucc ?_⟩
        simp only [spec_l1New.l0]
        refine evT ((i : Int) < (l.length : Int)) (by omega) (evT ((i : Int) < 4000) h4 (evT (0 ≤ (i : Int)) (by omega) ?_))
        rw [wsucc (by omega)]
        exact hh
      · refine ⟨x, evSucc ?_⟩
        simp only [spec_l1New.l0]
        exact evT ((i : Int) < (l.length : Int)) (by omega) (evF ((i : Int) < 4000) h4 (Ev.now _))
  exact H l.length 0 _ (by omega)

theorem once_ex (b : List Int) (i h n : Int) (hl : b.length ≤ 1048576) (h0 : 0 ≤ i) (h1 : i ≤ b.length) : ∃ v i' h', spec_l1Once.f b i h n = some (v, i', h') ∧ 0 ≤ i' ∧ i' ≤ b.length := by
  unfold spec_l1Once.f
  obtain ⟨v, i1, g1, e1, _, _, c1, d1⟩ := below_ex b i h n hl h0 h1
  rw [e1]
  exact ⟨_, _, _, rfl, c1, d1⟩

theorem int_ex (b : List Int) (i h : Int) (xs : List Int) (hx : 0 < xs.length) (hl : b.length ≤ 1048576) (h0 : 0 ≤ i) (h1 : i ≤ b.length) : ∃ v i' h', spec_l1Int.f b i h xs = some (v, i', h') ∧ v ∈ xs ∧ 0 ≤ i' ∧ i' ≤ b.length := by
  unfold spec_l1Int.f
  obtain ⟨v, i1, g1, e1, a1, _, c1, d1⟩ := below_ex b i h (xs.length : Int) hl h0 h1
  have a2 := a1 (by omega)
  rw [e1]
  simp only [Option.bind_some]
  rw [if_pos a2.1, if_pos a2.2]
  refine ⟨_, _, _, rfl, ?_, c1, d1⟩
  unfold rd
  exact getD_mem (by omega)

theorem word_ex (b : List Int) (i h : Int) (hl : b.length ≤ 1048576) (h0 : 0 ≤ i) (h1 : i ≤ b.length) : ∃ v i' h', spec_l3Word.f b i h = some (v, i', h') ∧ -1 ≤ v ∧ v ≤ 2147483648 ∧ 0 ≤ i' ∧ i' ≤ b.length := by
  unfold spec_l3Word.f
  obtain ⟨o, i1, g1, e1, c1, d1⟩ := once_ex b i h 10 hl h0 h1
  rw [e1]
  simp only [Option.bind_some]
  cases o with
  | true =>
    rw [if_pos rfl]
    obtain ⟨v, i2, g2, e2, m2, c2, d2⟩ := int_ex b i1 g1 [(-1), 2147483647, 2147483648] (by decide) hl c1 d1
    rw [e2]
    simp at m2
    exact ⟨_, _, _, rfl, by omega, by omega, c2, d2⟩
  | false =>
    rw [if_neg (by decide)]
    obtain ⟨o2, i2, g2, e2, c2, d2⟩ := once_ex b i1 g1 4 hl c1 d1
    rw [e2]
    simp only [Option.bind_some]
    cases o2 with
    | true =>
      rw [if_pos rfl]
      obtain ⟨v, i3, g3, e3, m3, c3, d3⟩ := int_ex b i2 g2 [0, 1, 2147483646] (by decide) hl c2 d2
      rw [e3]
      simp at m3
      exact ⟨_, _, _, rfl, by omega, by omega, c3, d3⟩
    | false =>
      rw [if_neg (by decide)]
      obtain ⟨v3, i3, g3, e3, a3, _, c3, d3⟩ := below_ex b i2 g2 1000000 hl c2 d2
      obtain ⟨v4, i4, g4, e4, a4, _, c4, d4⟩ := below_ex b i3 g3 2000 hl c3 d3
      rw [e3]
      simp only [Option.bind_some]
      rw [e4]
      have a3 := a3 (by omega)
      have a4 := a4 (by omega)
      have hp0 : 0 ≤ v3 * v4 := Int.mul_nonneg a3.1 a4.1
      have hp1 : v3 * v4 ≤ 999999 * 1999 := Int.mul_le_mul (by omega) (by omega) a4.1 (by omega)
      refine ⟨_, _, _, rfl, ?_, ?_, c4, d4⟩
      · show -1 ≤ wrap64 (v3 * v4); rw [w64 (by omega) (by omega)]; omega
      · show wrap64 (v3 * v4) ≤ 2147483648; rw [w64 (by omega) (by omega)]; omega

theorem bytes_ex (b : List Int) (i h n : Int) (hl : b.length ≤ 1048576) (h0 : 0 ≤ i) (h1 : i ≤ b.length) (hn : n ≤ 1000) : ∃ v i' h', Ev (fun k => spec_l1Bytes.f k b i h n) (v, i', h') ∧ v.length = n.toNat ∧ (∀ x ∈ v, 0 ≤ x ∧ x ≤ 255) ∧ 0 ≤ i' ∧ i' ≤ b.length := by
  unfold spec_l1Bytes.f
  have H : ∀ (d j : Nat) (acc : List Int) (i h : Int), j + d = n.toNat → acc.length = j → (∀ x ∈ acc, 0 ≤ x ∧ x ≤ 255) → 0 ≤ i → i ≤ b.length →
      ∃ v i' h', Ev (fun k => spec_l1Bytes.l0 k n acc (j : Int) b i h) (v, i', h') ∧ v.length = n.toNat ∧ (∀ x ∈ v, 0 ≤ x ∧ x ≤ 255) ∧ 0 ≤ i' ∧ i' ≤ b.length := by
    intro d
    induction d with
    | zero =>
      intro j acc i h hj ha hr h0 h1
      refine ⟨acc, i, h, evSucc ?_, by omega, hr, h0, h1⟩
      simp only [spec_l1Bytes.l0]
      exact evF ((j : Int) < n) (by omega) (Ev.now _)
    | succ d ih =>
      intro j acc i h hj ha hr h0 h1
      obtain ⟨v, i1, g1, e1, a1, b1, c1, d1⟩ := byte_ex b i h hl h0 h1
      obtain ⟨w, i2, g2, e2, l2, r2, c2, d2⟩ := ih (j + 1) (acc ++ [v % 256]) i1 g1 (by omega) (by simp [ha]) (fun x hx => by
        rcases List.mem_append.1 hx with hx | hx
        · exact hr x hx
        · simp at hx; omega) c1 d1
      refine ⟨w, i2, g2, evSucc ?_, l2, r2, c2, d2⟩
      simp only [spec_l1Bytes.l0, e1, Option.bind_some]
      refine evT ((j : Int) < n) (by omega) (evT (acc.length < 140737488355328) (by omega) ?_)
      rw [wsucc (by omega)]
      exact e2
  exact H n.toNat 0 [] i h (by omega) rfl (fun x hx => by simp at hx) h0 h1

theorem big_eq (l : List Int) : laws_big.f l = some (decide ((l.length : Int) > 1048576)) := rfl

theorem sameBytes_ev (a b : List Int) (hl : a.length ≤ 281474976710656) : Ev (fun k => laws_sameBytes.f k a b) (decide (a = b)) := by
  by_cases hn : a.length = b.length
  · have H : Ev (fun k => laws_sameBytes.l0 k a b 0) (decide (a = b)) := by
      have := evUp (g := fun i k => laws_sameBytes.l0 k a b (i : Int)) (R := fun i => decide (a.drop i = b.drop i)) a.length ?_ ?_ 0 (Nat.zero_le _)
      · simpa using this
      · refine Ev.step (f := fun _ => some true) (fun k => ?_) (by simpa [hn] using Ev.now true)
        simp only [laws_sameBytes.l0]
        rw [if_neg (by omega)]
      · intro i hi ih
        have hd := drop_eq_iff a b 0 i hi (by omega)
        by_cases he : a.getD i 0 = b.getD i 0
        · refine Ev.step (f := fun k => laws_sameBytes.l0 k a b ((i + 1 : Nat) : Int)) (fun k => ?_) ?_
          · simp only [laws_sameBytes.l0]
            rw [if_pos (by omega), if_pos (by omega), if_pos (by omega), rdn, rdn, if_pos he, wsucc (by omega)]
          · have e : decide (a.drop i = b.drop i) = decide (a.drop (i + 1) = b.drop (i + 1)) := decide_eq_decide.mpr (hd.trans (and_iff_right he))
            simp only [e]
            exact ih
        · refine Ev.step (f := fun _ => some false) (fun k => ?_) ?_
          · simp only [laws_sameBytes.l0]
            rw [if_pos (by omega), if_pos (by omega), if_pos (by omega), rdn, rdn, if_neg he]
          · have e : decide (a.drop i = b.drop i) = false := decide_eq_false (fun h => he (hd.mp h).1)
            simp only [e]
            exact Ev.now false
    refine Ev.congr (fun k => ?_) H
    unfold laws_sameBytes.f
    rw [if_pos (by omega)]
  · have e : decide (a = b) = false := decide_eq_false (fun h => hn (by rw [h]))
    rw [e]
    refine Ev.congr (f := fun _ => some false) (fun k => ?_) (Ev.now false)
    unfold laws_sameBytes.f
    rw [if_neg (by omega)]

theorem sameBytes_same (a : List Int) (hl : a.length ≤ 281474976710656) : Ev (fun k => laws_sameBytes.f k a a) true := by simpa using sameBytes_ev a a hl

theorem FnCipher : laws_FnCipher.Pure := by
  intro l _ _ hb0
  refine Ev.rounds ?_
  unfold laws_FnCipher.f
  simp only [big_eq, Option.bind_some, decide_eq_true_eq]
  refine evIte (fun _ => Ev.now _) (fun hbig => ?_)
  have hl : l.length ≤ 1048576 := by omega
  obtain ⟨h, hnew⟩ := new_ev l hl

  have hdraw : ∃ key b, Ev (fun k => spec_DrawEncrypt.f k l) (key, b) ∧ b.length ≤ 7 ∧ ∀ x ∈ b, 0 ≤ x ∧ x ≤ 255 := by
    unfold spec_DrawEncrypt.f
    obtain ⟨key, i1, g1, e1, _, _, c1, d1⟩ := word_ex l 0 h hl (by omega) (by omega)
    obtain ⟨n, i2, g2, e2, a2, _, c2, d2⟩ := below_ex l i1 g1 8 hl c1 d1
    have a2 := a2 (by omega)
    obtain ⟨b, i3, g3, e3, l3, r3, _, _⟩ := bytes_ex l i2 g2 n hl c2 d2 (by omega)
    refine ⟨key, b, Ev.bind hnew ?_, by omega, r3⟩
    simp only [e1, e2, Option.bind_some]
    exact Ev.bind e3 (Ev.now _)
  obtain ⟨key, b, hd, hlb, hb⟩ := hdraw
  refine Ev.bind hd ?_
  simp only
  have h1 := dec_enc key b hb
  have h2 := enc_dec key b hb
  have l1 := encP_len key b
  have l2 := decPP_len key b
  refine Ev.bind (implEncrypt_ev key b (by omega)) (Ev.bind (implDecrypt_ev key _ (by omega)) ?_)
  rw [h1]
  refine Ev.bind (sameBytes_same b (by omega)) ?_
  simp only [if_true]
  refine Ev.bind (implDecrypt_ev key b (by omega)) (Ev.bind (implEncrypt_ev key _ (by omega)) ?_)
  rw [h2]
  refine Ev.bind (sameBytes_same b (by omega)) ?_
  simp only [if_true]
  refine Ev.bind (implEncrypt_ev key b (by omega)) ?_
  rw [l1]
  refine evOne ?_
  simp

end Go.Proofs.Ytodklionpjjmfaa.Pure
