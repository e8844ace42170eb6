/- The law FnExactAppendUvarint returns true for all arguments: the program's AppendUvarint and the reference's agree, the bytes that are given read as before, and what is handed back is a list of its own. It holds for every input that the statement admits; no condition is added. -/
import Derived.Test.YtmdmgilhcecanaaQFnExactAppendUvarintx2
import Derived.Test.YtmdmgilhcecanaaWSized
namespace Go.Proofs.Ytmdmgilhcecanaa.PrintWords
open Go.ChangeShapes Go.WideShapes in
theorem sized_ints {H : Type} {enc : TypeId × Value → H} {P : Program} {W : World} {base : Nat} {spare : Nat → Bool} {held : Bool} {t e : TypeId} {k : IntKind} {a : Option Addr} {len cap : Nat} {d : DataW H} {ps : List MemPlace} {ts : List TypeId} {ds : List (DataW H)} {j : Nat}
    (h1 : (DataW.weightsEach P ts ds).all (· ≤ reachBytes) = true) (h2 : ts[j]? = some t) (h3 : ds[j]? = some d) (h4 : P.underlying t = some (.slice e)) (h5 : P.underlying e = some (.int k)) (h6 : P.cellsOf e = 1) {B : Nat} (h7 : P.bytesOf e = B)
    (h8 : DataW.Trod enc P W base spare held t (.slice a len cap) d ps) : len * B ≤ 140737488351232 := Go.Proofs.YtmdmgilhcecanaaW.PrintWords.sized_ints h1 h2 h3 h4 h5 h6 h7 h8
end Go.Proofs.Ytmdmgilhcecanaa.PrintWords
namespace Go.Proofs.Ytmdmgilhcecanaa.Pure
open Go.RowKit Go.Proofs.Ytmdmgilhcecanaa.QFnExactAppendUvarint Go.Proofs.YtmdmgilhcecanaaW.PrintWords Go.Proofs.YtmdmgilhcecanaaW.PrintLast Go.Proofs.YtmdmgilhcecanaaW.PrintMore
set_option linter.unusedVariables false
set_option linter.unusedSimpArgs false

theorem w64 {x : Int} (h0 : -9223372036854775808 ≤ x) (h1 : x ≤ 9223372036854775807) : wrap64 x = x := by unfold wrap64; omega
theorem wsucc {i : Nat} (h : i < 4611686018427387904) : wrap64 ((i : Int) + 1) = ((i + 1 : Nat) : Int) := by unfold wrap64; omega
theorem wfI {x : Int} (h : (Lit.int .i64 x).wf = true) : -9223372036854775808 ≤ x ∧ x ≤ 9223372036854775807 := by
  simp only [Lit.wf, Bool.and_eq_true, decide_eq_true_eq] at h
  exact h
theorem wfB {x : Int} (h : (Lit.int .u8 x).wf = true) : 0 ≤ x ∧ x ≤ 255 := by
  simp only [Lit.wf, Bool.and_eq_true, decide_eq_true_eq] at h
  exact h
theorem rdn (l : List Int) (i : Nat) : rd l (i : Int) = l.getD i 0 := by simp [rd]
theorem evOne {α : Type} {f : Option α} {r : α} (h : f = some r) : Ev (fun _ => f) r := ⟨0, fun _ _ => h⟩
theorem evUp {ρ : Type} {g : Nat → Nat → Option ρ} {R : Nat → ρ} (n : Nat) (last : Ev (g n) (R n)) (step : ∀ i, i < n → Ev (g (i + 1)) (R (i + 1)) → Ev (g i) (R i)) : ∀ i, i ≤ n → Ev (g i) (R i) := by
  intro i hi
  obtain ⟨d, hd⟩ : ∃ d, i + d = n := ⟨n - i, by omega⟩
  induction d generalizing i with
  | zero => obtain rfl : i = n := by omega
            exact last
  | succ d ih => exact step i (by omega) (ih (i + 1) (by omega) (by omega))
theorem getD_mem {α : Type} {l : List α} {i : Nat} {d : α} (h : i < l.length) : l.getD i d ∈ l := by
  rw [List.getD_eq_getElem?_getD, List.getElem?_eq_getElem h]; exact List.getElem_mem h
theorem getD_get {α : Type} {l : List α} {i : Nat} {d : α} (h : i < l.length) : l.getD i d = l[i] := by
  rw [List.getD_eq_getElem?_getD, List.getElem?_eq_getElem h]; rfl
theorem take_set_rep {α : Type} (l : List α) (z d : α) (i : Nat) (h : i < l.length) : (l.take i ++ List.replicate (l.length - i) z).set i (l.getD i d) = l.take (i + 1) ++ List.replicate (l.length - (i + 1)) z := by
  obtain ⟨m, hm⟩ : ∃ m, l.length - i = m + 1 := ⟨l.length - i - 1, by omega⟩
  have hm' : l.length - (i + 1) = m := by omega
  rw [hm, hm', List.set_append_right _ _ (by rw [List.length_take]; omega), List.length_take, Nat.min_eq_left (by omega), Nat.sub_self, List.replicate_succ, List.set_cons_zero, getD_get h, List.take_succ_eq_append_getElem h, List.append_assoc, List.singleton_append]
theorem drop_eq_iff {α : Type} (a b : List α) (d : α) (i : Nat) (ha : i < a.length) (hb : i < b.length) : (a.drop i = b.drop i) ↔ (a.getD i d = b.getD i d ∧ a.drop (i + 1) = b.drop (i + 1)) := by
  rw [List.drop_eq_getElem_cons ha, List.drop_eq_getElem_cons hb, List.cons.injEq, getD_get ha, getD_get hb]
theorem take_rep_len {α : Type} (l : List α) (z : α) (i : Nat) (h : i ≤ l.length) : (l.take i ++ List.replicate (l.length - i) z).length = l.length := by
  simp; omega

def uvF : Nat → Int → List Int
  | 0, n => [n]
  | f + 1, n => if n ≥ 128 then (n % 128 + 128) :: uvF f (n / 128) else [n]
theorem uvF_len (f : Nat) : ∀ n, (uvF f n).length ≤ f + 1 ∧ 1 ≤ (uvF f n).length := by
  induction f with
  | zero => intro n; simp [uvF]
  | succ f ih =>
    intro n
    unfold uvF
    split
    · have := ih (n / 128); simp; omega
    · simp
theorem uvF_range (f : Nat) : ∀ n, 0 ≤ n → n < 128 ^ (f + 1) → ∀ x ∈ uvF f n, 0 ≤ x ∧ x ≤ 255 := by
  induction f with
  | zero => intro n h0 h1 x hx; simp [uvF] at hx; subst hx; simp at h1; omega
  | succ f ih =>
    intro n h0 h1 x hx
    unfold uvF at hx
    split at hx
    · rcases List.mem_cons.1 hx with rfl | hx
      · omega
      · refine ih (n / 128) (by omega) ?_ x hx
        have : n < 128 ^ (f + 1) * 128 := by rw [← Int.pow_succ]; exact h1
        omega
    · simp at hx; subst hx; omega
def appendUvP (l : List Int) (n : Int) : List Int := if 0 ≤ n ∧ n ≤ 1000000000000 then l ++ uvF 5 n else l
theorem appendUvP_len (l : List Int) (n : Int) : (appendUvP l n).length ≤ l.length + 6 := by
  unfold appendUvP
  have := (uvF_len 5 n).1
  split
  · rw [List.length_append]; omega
  · omega

theorem hk62 : ∀ n : Int, 0 ≤ n → n < 2 ^ 62 → IntKind.i64.wrap n = n := by intro n h0 h1; rw [IntKind.wrap_i64]; omega
theorem hk8 : ∀ n : Int, 0 ≤ n → n < 2 ^ 8 → IntKind.u8.wrap n = n := by intro n h0 h1; rw [IntKind.wrap_u8]; omega
theorem and127 {n : Int} (h0 : 0 ≤ n) (h1 : n ≤ 1000000000000) : Go.bits .and .i64 n 127 = n % 128 := by
  have h := bits_mask .i64 62 (by decide) hk62 7 (by decide) n h0 (by omega)
  simpa using h
theorem and127b {n : Int} (h0 : 0 ≤ n) (h1 : n ≤ 255) : Go.bits .and .u8 n 127 = n % 128 := by
  have h := bits_mask .u8 8 (by decide) hk8 7 (by decide) n h0 (by omega)
  simpa using h
set_option maxRecDepth 20000 in
theorem and128b {n : Int} (h0 : 0 ≤ n) (h1 : n ≤ 255) : (Go.bits .and .u8 n 128 = 0) ↔ n < 128 := by
  obtain ⟨a, rfl⟩ := Int.eq_ofNat_of_zero_le h0
  have ha : a < 256 := by omega
  have h := (bits_nat .u8 8 (by decide) hk8 a 128 (by omega) (by omega)).1
  have h2 : ∀ a : Nat, a < 256 → ((a &&& 128 = 0) ↔ a < 128) := by decide
  have h3 := h2 a ha
  have e : Go.bits .and .u8 (a : Int) 128 = ((a &&& 128 : Nat) : Int) := h
  rw [e]
  omega
theorem bor {a c i : Nat} (ha : a < 2 ^ i) (hi : i ≤ 61) (hc : 2 ^ i * c < 2 ^ 62) : Go.bits .or .i64 (a : Int) ((2 ^ i * c : Nat) : Int) = ((a + 2 ^ i * c : Nat) : Int) := by
  have h2 : (2 : Nat) ^ i ≤ 2 ^ 61 := Nat.pow_le_pow_right (by decide) hi
  have h := (bits_nat .i64 62 (by decide) hk62 a (2 ^ i * c) (by omega) hc).2
  rw [h, Nat.or_comm, ← Nat.two_pow_add_eq_or_of_lt ha c, Nat.add_comm]
theorem uvbyte {n : Int} (h0 : 0 ≤ n) (h1 : n ≤ 1000000000000) : (Go.bits .or .i64 (Go.bits .and .i64 n 127) 128) % 256 = n % 128 + 128 := by
  rw [and127 h0 h1]
  obtain ⟨a, ha⟩ := Int.eq_ofNat_of_zero_le (show 0 ≤ n % 128 by omega)
  have h := bor (a := a) (c := 1) (i := 7) (by omega) (by omega) (by omega)
  have e : ((2 ^ 7 * 1 : Nat) : Int) = 128 := by decide
  rw [e] at h
  rw [ha, h]
  omega

theorem evSucc {α : Type} {g : Nat → Option α} {r : α} (h : Ev (fun k => g (k + 1)) r) : Ev g r := Ev.step (fun _ => rfl) h
theorem evIte {α : Type} {c : Prop} [Decidable c] {f g : Nat → Option α} {r : α} (h1 : c → Ev f r) (h2 : ¬ c → Ev g r) : Ev (fun k => if c then f k else g k) r := by
  by_cases h : c
  · simp only [if_pos h]; exact h1 h
  · simp only [if_neg h]; exact h2 h
theorem evT {α : Type} {f g : Nat → Option α} {r : α} (c : Prop) [Decidable c] (h : c) (h1 : Ev f r) : Ev (fun k => if c then f k else g k) r := by
  simp only [if_pos h]; exact h1
theorem evF {α : Type} {f g : Nat → Option α} {r : α} (c : Prop) [Decidable c] (h : ¬ c) (h1 : Ev g r) : Ev (fun k => if c then f k else g k) r := by
  simp only [if_neg h]; exact h1
theorem mneg (n : Nat) : ((1 : Int) + (n : Int) < 0) = False := eq_false (by omega)
theorem mneg2 (n m : Nat) : ((1 : Int) + (n : Int) + (m : Int) < 0) = False := eq_false (by omega)

theorem inRange_eq (a b c : Int) : impl_InRange.f a b c = some (decide (b ≤ a ∧ a ≤ c)) := by
  unfold impl_InRange.f; by_cases h : b ≤ a <;> simp [h]

theorem sliceClone_byte_eq (l : List Int) (h : l.length < 140737488355328) : slices_Clone_byte_byte.f l = some l := by
  unfold slices_Clone_byte_byte.f
  simp [h]

theorem implAppendUvarint_l (f : Nat) : ∀ (n : Int) (acc : List Int), 0 ≤ n → n ≤ 1000000000000 → n < 128 ^ (f + 1) → acc.length + f + 1 < 140737488355328 → Ev (fun k => impl_AppendUvarint.l0 k n acc) (acc ++ uvF f n) := by
  induction f with
  | zero =>
    intro n acc h0 h1 h2 h3
    refine evSucc ?_
    simp only [impl_AppendUvarint.l0]
    simp at h2
    refine evF (n ≥ 128) (by omega) (evT (acc.length < 140737488355328) (by omega) ?_)
    rw [show n % 256 = n by omega]
    exact Ev.now _
  | succ f ih =>
    intro n acc h0 h1 h2 h3
    have h2' : n < 128 ^ (f + 1) * 128 := by rw [← Int.pow_succ]; exact h2
    refine evSucc ?_
    simp only [impl_AppendUvarint.l0]
    unfold uvF
    by_cases hn : n ≥ 128
    · rw [if_pos hn]
      refine evT (n ≥ 128) (by omega) (evT (acc.length < 140737488355328) (by omega) ?_)
      rw [uvbyte h0 h1]
      have := ih (n / 128) (acc ++ [n % 128 + 128]) (by omega) (by omega) (by omega) (by rw [List.length_append]; simp; omega)
      rw [List.append_assoc] at this
      exact this
    · rw [if_neg hn]
      refine evF (n ≥ 128) (by omega) (evT (acc.length < 140737488355328) (by omega) ?_)
      rw [show n % 256 = n by omega]
      exact Ev.now _
theorem implAppendUvarint_ev (l : List Int) (n : Int) (hl : l.length ≤ 140737488350000) : Ev (fun k => impl_AppendUvarint.f k l n) (appendUvP l n) := by
  unfold impl_AppendUvarint.f appendUvP
  simp only [sliceClone_byte_eq _ (show l.length < 140737488355328 by omega), inRange_eq, Option.bind_some, decide_eq_true_eq]
  by_cases h : 0 ≤ n ∧ n ≤ 1000000000000
  · simp only [if_pos h]
    exact implAppendUvarint_l 5 n l h.1 h.2 (by simp; omega) (by omega)
  · simp only [if_neg h]
    exact Ev.now _

theorem l1In_eq (a b c : Int) : spec_l1In.f a b c = some (decide (b ≤ a ∧ a ≤ c)) := by
  unfold spec_l1In.f; by_cases h : b ≤ a <;> simp [h]

theorem specAppendUvarint_l (f : Nat) : ∀ (n : Int) (acc : List Int), 0 ≤ n → n ≤ 1000000000000 → n < 128 ^ (f + 1) → acc.length + f + 1 < 140737488355328 → Ev (fun k => spec_AppendUvarint.l0 k n acc) (acc ++ uvF f n) := by
  induction f with
  | zero =>
    intro n acc h0 h1 h2 h3
    refine evSucc ?_
    simp only [spec_AppendUvarint.l0]
    simp at h2
    refine evF (n > 127) (by omega) (evT (acc.length < 140737488355328) (by omega) ?_)
    rw [show n % 256 = n by omega]
    exact Ev.now _
  | succ f ih =>
    intro n acc h0 h1 h2 h3
    have h2' : n < 128 ^ (f + 1) * 128 := by rw [← Int.pow_succ]; exact h2
    refine evSucc ?_
    simp only [spec_AppendUvarint.l0]
    unfold uvF
    by_cases hn : n ≥ 128
    · rw [if_pos hn]
      refine evT (n > 127) (by omega) (evT (acc.length < 140737488355328) (by omega) ?_)
      rw [uvbyte h0 h1]
      have := ih (n / 128) (acc ++ [n % 128 + 128]) (by omega) (by omega) (by omega) (by rw [List.length_append]; simp; omega)
      rw [List.append_assoc] at this
      exact this
    · rw [if_neg hn]
      refine evF (n > 127) (by omega) (evT (acc.length < 140737488355328) (by omega) ?_)
      rw [show n % 256 = n by omega]
      exact Ev.now _
theorem specAppendUvarint_ev (l : List Int) (n : Int) (hl : l.length ≤ 140737488350000) : Ev (fun k => spec_AppendUvarint.f k l n) (appendUvP l n) := by
  unfold spec_AppendUvarint.f appendUvP
  simp only [l1In_eq, Option.bind_some, decide_eq_true_eq, List.nil_append, List.length_nil, Nat.zero_add, if_pos (show l.length < 140737488355328 by omega)]
  by_cases h : 0 ≤ n ∧ n ≤ 1000000000000
  · simp only [if_pos h]
    exact specAppendUvarint_l 5 n l h.1 h.2 (by simp; omega) (by omega)
  · simp only [if_neg h]
    exact Ev.now _

theorem toByteS_ev (l : List Int) (hl : l.length ≤ 281474976710656) : Ev (fun k => laws_toByteS.f k l) l := by
  have H : Ev (fun k => laws_toByteS.l0 k l (List.replicate l.length 0) 0) l := by
    have := evUp (g := fun i k => laws_toByteS.l0 k l (l.take i ++ List.replicate (l.length - i) 0) (i : Int)) (R := fun _ => l) l.length ?_ ?_ 0 (Nat.zero_le _)
    · simpa using this
    · refine Ev.step (f := fun _ => some l) (fun k => ?_) (Ev.now _)
      simp only [laws_toByteS.l0]
      rw [if_neg (by omega)]
      simp
    · intro i hi ih
      refine Ev.step (fun k => ?_) ih
      simp only [laws_toByteS.l0]
      rw [if_pos (by omega), if_pos (by omega), if_pos (by rw [take_rep_len l 0 i (by omega)]; omega), wsucc (by omega), rdn, Int.toNat_natCast, take_set_rep l 0 0 i hi]
  refine Ev.congr (fun k => ?_) H
  unfold laws_toByteS.f
  rw [if_pos (by omega), if_pos (by omega)]
  simp

theorem eqByteS_ev (a b : List Int) (hl : a.length ≤ 281474976710656) : Ev (fun k => laws_eqByteS.f k a b) (decide (a = b)) := by
  by_cases hn : a.length = b.length
  · have H : Ev (fun k => laws_eqByteS.l0 k a b 0) (decide (a = b)) := by
      have := evUp (g := fun i k => laws_eqByteS.l0 k a b (i : Int)) (R := fun i => decide (a.drop i = b.drop i)) a.length ?_ ?_ 0 (Nat.zero_le _)
      · simpa using this
      · refine Ev.step (f := fun _ => some true) (fun k => ?_) (by simpa [hn] using Ev.now true)
        simp only [laws_eqByteS.l0]
        rw [if_neg (by omega)]
      · intro i hi ih
        have hd := drop_eq_iff a b 0 i hi (by omega)
        by_cases he : a.getD i 0 = b.getD i 0
        · refine Ev.step (f := fun k => laws_eqByteS.l0 k a b ((i + 1 : Nat) : Int)) (fun k => ?_) ?_
          · simp only [laws_eqByteS.l0]
            rw [if_pos (by omega), if_pos (by omega), if_pos (by omega), rdn, rdn, if_pos he, wsucc (by omega)]
          · have e : decide (a.drop i = b.drop i) = decide (a.drop (i + 1) = b.drop (i + 1)) := decide_eq_decide.mpr (hd.trans (and_iff_right he))
            simp only [e]
            exact ih
        · refine Ev.step (f := fun _ => some false) (fun k => ?_) ?_
          · simp only [laws_eqByteS.l0]
            rw [if_pos (by omega), if_pos (by omega), if_pos (by omega), rdn, rdn, if_neg he]
          · have e : decide (a.drop i = b.drop i) = false := decide_eq_false (fun h => he (hd.mp h).1)
            simp only [e]
            exact Ev.now false
    refine Ev.congr (fun k => ?_) H
    unfold laws_eqByteS.f
    rw [if_pos (by omega)]
  · have e : decide (a = b) = false := decide_eq_false (fun h => hn (by rw [h]))
    rw [e]
    refine Ev.congr (f := fun _ => some false) (fun k => ?_) (Ev.now false)
    unfold laws_eqByteS.f
    rw [if_neg (by omega)]
theorem eqByteS_same (a : List Int) (hl : a.length ≤ 281474976710656) : Ev (fun k => laws_eqByteS.f k a a) true := by simpa using eqByteS_ev a a hl

def markedByte (a : Int) (n : Nat) : List Int := (List.range n).map fun (i : Nat) => (a + (i : Int)) % 256
theorem markedByte_len (a : Int) (n : Nat) : (markedByte a n).length = n := by simp [markedByte]
theorem markedByte_succ (a : Int) (n : Nat) : markedByte a (n + 1) = markedByte a n ++ [(a + (n : Int)) % 256] := by simp [markedByte, List.range_succ]
theorem markByteS_ev (l : List Int) (a : Int) (h0 : 0 ≤ a) (h1 : a ≤ 1152921504606846976) (hl : l.length ≤ 281474976710656) : Ev (fun k => laws_markByteS.f k l a) (a + (l.length : Int), markedByte a l.length) := by
  have H := evUp (g := fun i k => laws_markByteS.l0 k (markedByte a i ++ l.drop i) (a + (i : Int)) (i : Int)) (R := fun _ => (a + (l.length : Int), markedByte a l.length)) l.length ?_ ?_ 0 (Nat.zero_le _)
  · refine Ev.congr (fun k => ?_) H
    unfold laws_markByteS.f
    simp [markedByte]
  · refine Ev.step (f := fun _ => some (a + (l.length : Int), markedByte a l.length)) (fun k => ?_) (Ev.now _)
    simp only [laws_markByteS.l0]
    rw [if_neg (by rw [List.length_append, markedByte_len]; simp)]
    simp
  · intro i hi ih
    refine Ev.step (fun k => ?_) ih
    simp only [laws_markByteS.l0]
    rw [if_pos (by rw [List.length_append, markedByte_len, List.length_drop]; omega), if_pos (by omega), wsucc (by omega), w64 (by omega) (by omega), Int.toNat_natCast, List.set_append_right _ _ (by rw [markedByte_len]; omega), markedByte_len, Nat.sub_self, List.drop_eq_getElem_cons hi, List.set_cons_zero, markedByte_succ, List.append_assoc, List.singleton_append]
    have e : a + (i : Int) + 1 = a + ((i + 1 : Nat) : Int) := by omega
    rw [e]
theorem markedByte_get (a : Int) (n i : Nat) (h : i < n) : (markedByte a n).getD i 0 = (a + (i : Int)) % 256 := by
  rw [getD_get (by rw [markedByte_len]; exact h)]
  simp [markedByte]
theorem heldByteS_ev (n : Nat) (a : Int) (h0 : 0 ≤ a) (h1 : a ≤ 1152921504606846976) (hl : n ≤ 281474976710656) : Ev (fun k => laws_heldByteS.f k (markedByte a n) a) (a + (n : Int)) := by
  have H := evUp (g := fun i k => laws_heldByteS.l0 k (markedByte a n) (a + (i : Int)) (i : Int)) (R := fun _ => a + (n : Int)) n ?_ ?_ 0 (Nat.zero_le _)
  · refine Ev.congr (fun k => ?_) H
    unfold laws_heldByteS.f
    simp
  · refine Ev.step (f := fun _ => some (a + (n : Int))) (fun k => ?_) (Ev.now _)
    simp only [laws_heldByteS.l0]
    rw [if_neg (by rw [markedByte_len]; omega)]
  · intro i hi ih
    refine Ev.step (fun k => ?_) ih
    simp only [laws_heldByteS.l0]
    rw [if_pos (by rw [markedByte_len]; omega), if_pos (by omega), rdn, markedByte_get a n i hi, if_pos rfl, wsucc (by omega), w64 (by omega) (by omega)]
    have e : a + (i : Int) + 1 = a + ((i + 1 : Nat) : Int) := by omega
    rw [e]

theorem FnExactAppendUvarint : laws_FnExactAppendUvarint.Pure := by
  intro l n _ _ _ _
  refine Ev.rounds ?_
  unfold laws_FnExactAppendUvarint.f
  refine evIte (fun _ => Ev.now _) (fun hbig => ?_)
  have hlen := appendUvP_len l n
  repeat first
    | with_reducible exact Ev.now _
    | (with_reducible refine Ev.bind (toByteS_ev _ ?_) ?_; · (first | omega | assumption | (simp; omega)))
    | (with_reducible refine Ev.bind (eqByteS_same _ ?_) ?_; · (first | omega | assumption | (simp; omega)))
    | (with_reducible refine Ev.bind (markByteS_ev _ _ (by omega) (by omega) ?_) ?_; · (first | omega | assumption | (simp; omega)))
    | (with_reducible refine Ev.bind (heldByteS_ev _ _ (by omega) (by omega) ?_) ?_; · (first | omega | assumption | (simp; omega)))
    | (with_reducible refine Ev.bind (implAppendUvarint_ev _ _ ?_) ?_; · (first | omega | assumption | (simp; omega)))
    | (with_reducible refine Ev.bind (specAppendUvarint_ev _ _ ?_) ?_; · (first | omega | assumption | (simp; omega)))
    | (with_reducible refine evSucc (g := fun k => laws_FnExactAppendUvarint.j0 k _ _ _ _ _) ?_; simp only [laws_FnExactAppendUvarint.j0])
    | simp only [if_true, if_false, Bool.false_eq_true, Bool.not_true, Bool.not_false, Bool.true_eq_false, mneg, mneg2, bne_self_eq_false, Option.bind_some]

end Go.Proofs.Ytmdmgilhcecanaa.Pure
