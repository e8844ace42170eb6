/- The law FnVarints returns true for every input: an integer is decoded from its varint, and a decoded varint is the encoding of its integer. It holds for every input that the statement admits; no condition is added. -/
import Derived.Test.YtodklionpjjmfaaQFnVarintsx4
import Derived.Test.YtodklionpjjmfaaWSized
namespace Go.Proofs.Ytodklionpjjmfaa.PrintWords
open Go.ChangeShapes Go.WideShapes in
theorem sized_ints {H : Type} {enc : TypeId × Value → H} {P : Program} {W : World} {base : Nat} {spare : Nat → Bool} {held : Bool} {t e : TypeId} {k : IntKind} {a : Option Addr} {len cap : Nat} {d : DataW H} {ps : List MemPlace} {ts : List TypeId} {ds : List (DataW H)} {j : Nat}
    (h1 : (DataW.weightsEach P ts ds).all (· ≤ reachBytes) = true) (h2 : ts[j]? = some t) (h3 : ds[j]? = some d) (h4 : P.underlying t = some (.slice e)) (h5 : P.underlying e = some (.int k)) (h6 : P.cellsOf e = 1) {B : Nat} (h7 : P.bytesOf e = B)
    (h8 : DataW.Trod enc P W base spare held t (.slice a len cap) d ps) : len * B ≤ 140737488351232 := Go.Proofs.YtodklionpjjmfaaW.PrintWords.sized_ints h1 h2 h3 h4 h5 h6 h7 h8
end Go.Proofs.Ytodklionpjjmfaa.PrintWords
namespace Go.Proofs.Ytodklionpjjmfaa.Pure
open Go.RowKit Go.Proofs.Ytodklionpjjmfaa.QFnVarints Go.Proofs.YtodklionpjjmfaaW.PrintWords Go.Proofs.YtodklionpjjmfaaW.PrintLast Go.Proofs.YtodklionpjjmfaaW.PrintMore
set_option linter.unusedVariables false
set_option linter.unusedSimpArgs false

theorem w64 {x : Int} (h0 : -9223372036854775808 ≤ x) (h1 : x ≤ 9223372036854775807) : wrap64 x = x := by unfold wrap64; omega
theorem wsucc {i : Nat} (h : i < 4611686018427387904) : wrap64 ((i : Int) + 1) = ((i + 1 : Nat) : Int) := by unfold wrap64; omega
theorem wfI {x : Int} (h : (Lit.int .i64 x).wf = true) : -9223372036854775808 ≤ x ∧ x ≤ 9223372036854775807 := by
  simp only [Lit.wf, Bool.and_eq_true, decide_eq_true_eq] at h
  exact h
theorem wfB {x : Int} (h : (Lit.int .u8 x).wf = true) : 0 ≤ x ∧ x ≤ 255 := by
  simp only [Lit.wf, Bool.and_eq_true, decide_eq_true_eq] at h
  exact h
theorem rdn (l : List Int) (i : Nat) : rd l (i : Int) = l.getD i 0 := by simp [rd]
theorem evOne {α : Type} {f : Option α} {r : α} (h : f = some r) : Ev (fun _ => f) r := ⟨0, fun _ _ => h⟩
theorem evUp {ρ : Type} {g : Nat → Nat → Option ρ} {R : Nat → ρ} (n : Nat) (last : Ev (g n) (R n)) (step : ∀ i, i < n → Ev (g (i + 1)) (R (i + 1)) → Ev (g i) (R i)) : ∀ i, i ≤ n → Ev (g i) (R i) := by
  intro i hi
  obtain ⟨d, hd⟩ : ∃ d, i + d = n := ⟨n - i, by omega⟩
  induction d generalizing i with
  | zero => obtain rfl : i = n := by omega
            exact last
  | succ d ih => exact step i (by omega) (ih (i + 1) (by omega) (by omega))
theorem getD_mem {α : Type} {l : List α} {i : Nat} {d : α} (h : i < l.length) : l.getD i d ∈ l := by
  rw [List.getD_eq_getElem?_getD, List.getElem?_eq_getElem h]; exact List.getElem_mem h
theorem getD_get {α : Type} {l : List α} {i : Nat} {d : α} (h : i < l.length) : l.getD i d = l[i] := by
  rw [List.getD_eq_getElem?_getD, List.getElem?_eq_getElem h]; rfl
theorem take_set_rep {α : Type} (l : List α) (z d : α) (i : Nat) (h : i < l.length) : (l.take i ++ List.replicate (l.length - i) z).set i (l.getD i d) = l.take (i + 1) ++ List.replicate (l.length - (i + 1)) z := by
  obtain ⟨m, hm⟩ : ∃ m, l.length - i = m + 1 := ⟨l.length - i - 1, by omega⟩
  have hm' : l.length - (i + 1) = m := by omega
  rw [hm, hm', List.set_append_right _ _ (by rw [List.length_take]; omega), List.length_take, Nat.min_eq_left (by omega), Nat.sub_self, List.replicate_succ, List.set_cons_zero, getD_get h, List.take_succ_eq_append_getElem h, List.append_assoc, List.singleton_append]
theorem drop_eq_iff {α : Type} (a b : List α) (d : α) (i : Nat) (ha : i < a.length) (hb : i < b.length) : (a.drop i = b.drop i) ↔ (a.getD i d = b.getD i d ∧ a.drop (i + 1) = b.drop (i + 1)) := by
  rw [List.drop_eq_getElem_cons ha, List.drop_eq_getElem_cons hb, List.cons.injEq, getD_get ha, getD_get hb]
theorem take_rep_len {α : Type} (l : List α) (z : α) (i : Nat) (h : i ≤ l.length) : (l.take i ++ List.replicate (l.length - i) z).length = l.length := by
  simp; omega

def uvF : Nat → Int → List Int
  | 0, n => [n]
  | f + 1, n => if n ≥ 128 then (n % 128 + 128) :: uvF f (n / 128) else [n]
theorem uvF_len (f : Nat) : ∀ n, (uvF f n).length ≤ f + 1 ∧ 1 ≤ (uvF f n).length := by
  induction f with
  | zero => intro n; simp [uvF]
  | succ f ih =>
    intro n
    unfold uvF
    split
    · have := ih (n / 128); simp; omega
    · simp
theorem uvF_range (f : Nat) : ∀ n, 0 ≤ n → n < 128 ^ (f + 1) → ∀ x ∈ uvF f n, 0 ≤ x ∧ x ≤ 255 := by
  induction f with
  | zero => intro n h0 h1 x hx; simp [uvF] at hx; subst hx; simp at h1; omega
  | succ f ih =>
    intro n h0 h1 x hx
    unfold uvF at hx
    split at hx
    · rcases List.mem_cons.1 hx with rfl | hx
      · omega
      · refine ih (n / 128) (by omega) ?_ x hx
        have : n < 128 ^ (f + 1) * 128 := by rw [← Int.pow_succ]; exact h1
        omega
    · simp at hx; subst hx; omega
def appendUvP (l : List Int) (n : Int) : List Int := if 0 ≤ n ∧ n ≤ 1000000000000 then l ++ uvF 5 n else l
theorem appendUvP_len (l : List Int) (n : Int) : (appendUvP l n).length ≤ l.length + 6 := by
  unfold appendUvP
  have := (uvF_len 5 n).1
  split
  · rw [List.length_append]; omega
  · omega

theorem hk62 : ∀ n : Int, 0 ≤ n → n < 2 ^ 62 → IntKind.i64.wrap n = n := by intro n h0 h1; rw [IntKind.wrap_i64]; omega
theorem hk8 : ∀ n : Int, 0 ≤ n → n < 2 ^ 8 → IntKind.u8.wrap n = n := by intro n h0 h1; rw [IntKind.wrap_u8]; omega
theorem and127 {n : Int} (h0 : 0 ≤ n) (h1 : n ≤ 1000000000000) : Go.bits .and .i64 n 127 = n % 128 := by
  have h := bits_mask .i64 62 (by decide) hk62 7 (by decide) n h0 (by omega)
  simpa using h
theorem and127b {n : Int} (h0 : 0 ≤ n) (h1 : n ≤ 255) : Go.bits .and .u8 n 127 = n % 128 := by
  have h := bits_mask .u8 8 (by decide) hk8 7 (by decide) n h0 (by omega)
  simpa using h
set_option maxRecDepth 20000 in
theorem and128b {n : Int} (h0 : 0 ≤ n) (h1 : n ≤ 255) : (Go.bits .and .u8 n 128 = 0) ↔ n < 128 := by
  obtain ⟨a, rfl⟩ := Int.eq_ofNat_of_zero_le h0
  have ha : a < 256 := by omega
  have h := (bits_nat .u8 8 (by decide) hk8 a 128 (by omega) (by omega)).1
  have h2 : ∀ a : Nat, a < 256 → ((a &&& 128 = 0) ↔ a < 128) := by decide
  have h3 := h2 a ha
  have e : Go.bits .and .u8 (a : Int) 128 = ((a &&& 128 : Nat) : Int) := h
  rw [e]
  omega
theorem bor {a c i : Nat} (ha : a < 2 ^ i) (hi : i ≤ 61) (hc : 2 ^ i * c < 2 ^ 62) : Go.bits .or .i64 (a : Int) ((2 ^ i * c : Nat) : Int) = ((a + 2 ^ i * c : Nat) : Int) := by
  have h2 : (2 : Nat) ^ i ≤ 2 ^ 61 := Nat.pow_le_pow_right (by decide) hi
  have h := (bits_nat .i64 62 (by decide) hk62 a (2 ^ i * c) (by omega) hc).2
  rw [h, Nat.or_comm, ← Nat.two_pow_add_eq_or_of_lt ha c, Nat.add_comm]
theorem uvbyte {n : Int} (h0 : 0 ≤ n) (h1 : n ≤ 1000000000000) : (Go.bits .or .i64 (Go.bits .and .i64 n 127) 128) % 256 = n % 128 + 128 := by
  rw [and127 h0 h1]
  obtain ⟨a, ha⟩ := Int.eq_ofNat_of_zero_le (show 0 ≤ n % 128 by omega)
  have h := bor (a := a) (c := 1) (i := 7) (by omega) (by omega) (by omega)
  have e : ((2 ^ 7 * 1 : Nat) : Int) = 128 := by decide
  rw [e] at h
  rw [ha, h]
  omega

theorem evSucc {α : Type} {g : Nat → Option α} {r : α} (h : Ev (fun k => g (k + 1)) r) : Ev g r := Ev.step (fun _ => rfl) h
theorem evIte {α : Type} {c : Prop} [Decidable c] {f g : Nat → Option α} {r : α} (h1 : c → Ev f r) (h2 : ¬ c → Ev g r) : Ev (fun k => if c then f k else g k) r := by
  by_cases h : c
  · simp only [if_pos h]; exact h1 h
  · simp only [if_neg h]; exact h2 h
theorem evT {α : Type} {f g : Nat → Option α} {r : α} (c : Prop) [Decidable c] (h : c) (h1 : Ev f r) : Ev (fun k => if c then f k else g k) r := by
  simp only [if_pos h]; exact h1
theorem evF {α : Type} {f g : Nat → Option α} {r : α} (c : Prop) [Decidable c] (h : ¬ c) (h1 : Ev g r) : Ev (fun k => if c then f k else g k) r := by
  simp only [if_neg h]; exact h1
theorem mneg (n : Nat) : ((1 : Int) + (n : Int) < 0) = False := eq_false (by omega)
theorem mneg2 (n m : Nat) : ((1 : Int) + (n : Int) + (m : Int) < 0) = False := eq_false (by omega)

theorem inRange_eq (a b c : Int) : impl_InRange.f a b c = some (decide (b ≤ a ∧ a ≤ c)) := by
  unfold impl_InRange.f; by_cases h : b ≤ a <;> simp [h]

theorem sliceClone_byte_eq (l : List Int) (h : l.length < 140737488355328) : slices_Clone_byte_byte.f l = some l := by
  unfold slices_Clone_byte_byte.f
  simp [h]

theorem implAppendUvarint_l (f : Nat) : ∀ (n : Int) (acc : List Int), 0 ≤ n → n ≤ 1000000000000 → n < 128 ^ (f + 1) → acc.length + f + 1 < 140737488355328 → Ev (fun k => impl_AppendUvarint.l0 k n acc) (acc ++ uvF f n) := by
  induction f with
  | zero =>
    intro n acc h0 h1 h2 h3
    refine evSucc ?_
    simp only [impl_AppendUvarint.l0]
    simp at h2
    refine evF (n ≥ 128) (by omega) (evT (acc.length < 140737488355328) (by omega) ?_)
    rw [show n % 256 = n by omega]
    exact Ev.now _
  | succ f ih =>
    intro n acc h0 h1 h2 h3
    have h2' : n < 128 ^ (f + 1) * 128 := by rw [← Int.pow_succ]; exact h2
    refine evSucc ?_
    simp only [impl_AppendUvarint.l0]
    unfold uvF
    by_cases hn : n ≥ 128
    · rw [if_pos hn]
      refine evT (n ≥ 128) (by omega) (evT (acc.length < 140737488355328) (by omega) ?_)
      rw [uvbyte h0 h1]
      have := ih (n / 128) (acc ++ [n % 128 + 128]) (by omega) (by omega) (by omega) (by rw [List.length_append]; simp; omega)
      rw [List.append_assoc] at this
      exact this
    · rw [if_neg hn]
      refine evF (n ≥ 128) (by omega) (evT (acc.length < 140737488355328) (by omega) ?_)
      rw [show n % 256 = n by omega]
      exact Ev.now _
theorem implAppendUvarint_ev (l : List Int) (n : Int) (hl : l.length ≤ 140737488350000) : Ev (fun k => impl_AppendUvarint.f k l n) (appendUvP l n) := by
  unfold impl_AppendUvarint.f appendUvP
  simp only [sliceClone_byte_eq _ (show l.length < 140737488355328 by omega), inRange_eq, Option.bind_some, decide_eq_true_eq]
  by_cases h : 0 ≤ n ∧ n ≤ 1000000000000
  · simp only [if_pos h]
    exact implAppendUvarint_l 5 n l h.1 h.2 (by simp; omega) (by omega)
  · simp only [if_neg h]
    exact Ev.now _

def ruvP (l : List Int) (off : Nat) : Nat → Nat → Int → Int × Int × Bool
  | 0, _, _ => (0, 0, false)
  | f + 1, i, n =>
    if off + i < l.length then
      (if l.getD (off + i) 0 < 128 then
        (if (l.getD (off + i) 0 = 0 ∧ 0 < i) ∨ n + l.getD (off + i) 0 % 128 * 128 ^ i > 1000000000000 then (0, 0, false) else (n + l.getD (off + i) 0 % 128 * 128 ^ i, (off : Int) + (i : Int) + 1, true))
       else ruvP l off f (i + 1) (n + l.getD (off + i) 0 % 128 * 128 ^ i))
    else (0, 0, false)
def readUvP (l : List Int) (off : Int) : Int × Int × Bool := if off < 0 then (0, 0, false) else ruvP l off.toNat 6 0 0
theorem ruvP_facts (l : List Int) (off : Nat) (f : Nat) : ∀ (i : Nat) (n : Int), 0 ≤ n →
    ((ruvP l off f i n).2.2 = true → 0 ≤ (ruvP l off f i n).1 ∧ (ruvP l off f i n).1 ≤ 1000000000000 ∧ (off : Int) < (ruvP l off f i n).2.1 ∧ (ruvP l off f i n).2.1 ≤ l.length) ∧ ((ruvP l off f i n).2.2 = false → ruvP l off f i n = (0, 0, false)) := by
  induction f with
  | zero => intro i n h0; simp [ruvP]
  | succ f ih =>
    intro i n h0
    have hp : (0 : Int) ≤ l.getD (off + i) 0 % 128 * 128 ^ i := Int.mul_nonneg (by omega) (Int.pow_nonneg (by omega))
    unfold ruvP
    by_cases h1 : off + i < l.length
    · rw [if_pos h1]
      by_cases h2 : l.getD (off + i) 0 < 128
      · rw [if_pos h2]
        by_cases h3 : (l.getD (off + i) 0 = 0 ∧ 0 < i) ∨ n + l.getD (off + i) 0 % 128 * 128 ^ i > 1000000000000
        · rw [if_pos h3]; simp
        · rw [if_neg h3]
          refine ⟨fun _ => ⟨?_, ?_, ?_, ?_⟩, fun h => by simp at h⟩
          · show 0 ≤ n + l.getD (off + i) 0 % 128 * 128 ^ i; omega
          · show n + l.getD (off + i) 0 % 128 * 128 ^ i ≤ 1000000000000; omega
          · show (off : Int) < (off : Int) + (i : Int) + 1; omega
          · show (off : Int) + (i : Int) + 1 ≤ (l.length : Int); omega
      · rw [if_neg h2]
        exact ih (i + 1) _ (by omega)
    · rw [if_neg h1]; simp
theorem readUvP_ok {l : List Int} {off : Int} (h : (readUvP l off).2.2 = true) : 0 ≤ (readUvP l off).1 ∧ (readUvP l off).1 ≤ 1000000000000 ∧ 0 ≤ off ∧ off < (readUvP l off).2.1 ∧ (readUvP l off).2.1 ≤ l.length := by
  unfold readUvP at h ⊢
  by_cases h1 : off < 0
  · rw [if_pos h1] at h; simp at h
  · rw [if_neg h1] at h ⊢
    have := (ruvP_facts l off.toNat 6 0 0 (by omega)).1 h
    omega
theorem readUvP_no {l : List Int} {off : Int} (h : (readUvP l off).2.2 = false) : readUvP l off = (0, 0, false) := by
  unfold readUvP at h ⊢
  by_cases h1 : off < 0
  · rw [if_pos h1]
  · rw [if_neg h1] at h ⊢
    exact (ruvP_facts l off.toNat 6 0 0 (by omega)).2 h
theorem pow128 (i : Nat) (h : i < 6) : (128 : Int) ^ i = 1 ∧ i = 0 ∨ (128 : Int) ^ i = 128 ∧ i = 1 ∨ (128 : Int) ^ i = 16384 ∧ i = 2 ∨ (128 : Int) ^ i = 2097152 ∧ i = 3 ∨ (128 : Int) ^ i = 268435456 ∧ i = 4 ∨ (128 : Int) ^ i = 34359738368 ∧ i = 5 := by
  obtain rfl | rfl | rfl | rfl | rfl | rfl : i = 0 ∨ i = 1 ∨ i = 2 ∨ i = 3 ∨ i = 4 ∨ i = 5 := by omega
  all_goals simp
theorem uvor {n c : Int} {i : Nat} (hi : i < 6) (h0 : 0 ≤ n) (h1 : n < 128 ^ i) (c0 : 0 ≤ c) (c1 : c < 128) : Go.bits .or .i64 n (shl .i64 c (wrap64 (7 * (i : Int)))) = n + c * 128 ^ i := by
  obtain ⟨a, rfl⟩ := Int.eq_ofNat_of_zero_le h0
  obtain ⟨b, rfl⟩ := Int.eq_ofNat_of_zero_le c0
  have e7 : wrap64 (7 * (i : Int)) = ((7 * i : Nat) : Int) := by rw [w64 (by omega) (by omega)]; omega
  have ep : (128 : Nat) ^ i = 2 ^ (7 * i) := by rw [Nat.pow_mul]
  have epI : (128 : Int) ^ i = ((2 ^ (7 * i) : Nat) : Int) := by rw [← ep]; simp
  have h2 : (2 : Nat) ^ (7 * i) ≤ 2 ^ 35 := Nat.pow_le_pow_right (by decide) (by omega)
  have hb : 2 ^ (7 * i) * b < 2 ^ 62 := by
    have : 2 ^ (7 * i) * b ≤ 2 ^ 35 * 127 := Nat.mul_le_mul h2 (by omega)
    omega
  have es : shl .i64 (b : Int) (wrap64 (7 * (i : Int))) = ((2 ^ (7 * i) * b : Nat) : Int) := by
    unfold shl
    rw [e7, Int.toNat_natCast, Nat.min_eq_left (by show 7 * i ≤ 64; omega)]
    have e : (b : Int) * 2 ^ (7 * i) = ((2 ^ (7 * i) * b : Nat) : Int) := by push_cast; exact Int.mul_comm _ _
    rw [e]
    generalize 2 ^ (7 * i) * b = m at hb
    exact hk62 _ (by omega) (by omega)
  rw [es, epI]
  rw [epI] at h1
  rw [bor (i := 7 * i) (by omega) (by omega) hb]
  rw [Nat.mul_comm (2 ^ (7 * i)) b]
  push_cast
  rfl

theorem implReadUvarint_l (l : List Int) (hl : l.length ≤ 281474976710656) (hb : ∀ x ∈ l, 0 ≤ x ∧ x ≤ 255) (off : Nat) (f : Nat) : ∀ (i : Nat) (n : Int), i + f = 6 → 0 ≤ n → n < 128 ^ i → (i = 0 ∨ off < l.length) → off ≤ 9223372036854775807 →
    Ev (fun k => impl_ReadUvarint.l0 k l (off : Int) n (i : Int)) (ruvP l off f i n) := by
  induction f with
  | zero =>
    intro i n hi h0 h1 ho hw
    refine evSucc ?_
    simp only [impl_ReadUvarint.l0]
    refine evF ((i : Int) < 6) (by omega) ?_
    refine evSucc ?_
    simp only [impl_ReadUvarint.j1, Bool.false_eq_true, if_false]
    exact Ev.now _
  | succ f ih =>
    intro i n hi h0 h1 ho hw
    have hp : (0 : Int) < 128 ^ i := Int.pow_pos (by omega)
    refine evSucc ?_
    simp only [impl_ReadUvarint.l0]
    refine evT ((i : Int) < 6) (by omega) ?_
    unfold ruvP
    by_cases hin : off + i < l.length
    · rw [if_pos hin]
      have hd : decide (wrap64 ((off : Int) + (i : Int)) < (l.length : Int)) = true := decide_eq_true (by rw [w64 (by omega) (by omega)]; omega)
      rw [hd]
      refine evSucc ?_
      simp only [impl_ReadUvarint.j1]
      simp only [if_true]
      have hc := hb (l.getD (off + i) 0) (getD_mem hin)
      have e1 : wrap64 ((off : Int) + (i : Int)) = ((off + i : Nat) : Int) := by rw [w64 (by omega) (by omega)]; omega
      have hor := uvor (n := n) (c := l.getD (off + i) 0 % 128) (i := i) (by omega) h0 h1 (by omega) (by omega)
      simp only [e1, rdn]
      have em : wrap64 (Go.bits .and .u8 (l.getD (off + i) 0) 127) = l.getD (off + i) 0 % 128 := by rw [and127b hc.1 hc.2, w64 (by omega) (by omega)]
      have em2 := and128b hc.1 hc.2
      simp only [em]
      refine evT (0 ≤ ((off + i : Nat) : Int)) (by omega) (evT (((off + i : Nat) : Int) < (l.length : Int)) (by omega) (evT (0 ≤ wrap64 (7 * (i : Int))) (by rw [w64 (by omega) (by omega)]; omega) ?_))
      simp only [hor]
      by_cases hc2 : l.getD (off + i) 0 < 128
      · rw [if_pos hc2]
        refine evT (Go.bits .and .u8 (l.getD (off + i) 0) 128 = 0) (em2.2 hc2) ?_
        clear hor
        have e2 : wrap64 (((off + i : Nat) : Int) + 1) = (off : Int) + (i : Int) + 1 := by clear em; rw [w64 (by omega) (by omega)]; omega
        rw [e2]
        clear ih ho hw hl hb h1 e1 e2 em em2
        by_cases hP : (l.getD (off + i) 0 = 0 ∧ 0 < i) ∨ n + l.getD (off + i) 0 % 128 * 128 ^ i > 1000000000000
        · rw [if_pos hP]
          repeat' (with_reducible refine evIte (fun _ => ?_) (fun _ => ?_))
          all_goals first | exact Ev.now _ | (exfalso; omega)
        · rw [if_neg hP]
          repeat' (with_reducible refine evIte (fun _ => ?_) (fun _ => ?_))
          all_goals first | exact Ev.now _ | (exfalso; omega)
      · rw [if_neg hc2]
        refine evF (Go.bits .and .u8 (l.getD (off + i) 0) 128 = 0) (fun h => hc2 (em2.1 h)) ?_
        clear hor em em2 e1
        have hwi : wrap64 ((i : Int) + 1) = ((i + 1 : Nat) : Int) := wsucc (by omega)
        rw [hwi]
        refine ih (i + 1) _ (by omega) ?_ ?_ (.inr (by omega)) hw
        · have : (0 : Int) ≤ l.getD (off + i) 0 % 128 * 128 ^ i := Int.mul_nonneg (by omega) (by omega)
          omega
        · rw [Int.pow_succ]
          have : l.getD (off + i) 0 % 128 * 128 ^ i ≤ 127 * 128 ^ i := Int.mul_le_mul_of_nonneg_right (by omega) (by omega)
          omega
    · rw [if_neg hin]
      have hd : decide (wrap64 ((off : Int) + (i : Int)) < (l.length : Int)) = false := decide_eq_false (by rw [w64 (by omega) (by omega)]; omega)
      rw [hd]
      refine evSucc ?_
      simp only [impl_ReadUvarint.j1, Bool.false_eq_true, if_false]
      exact Ev.now _

theorem implReadUvarint_ev (l : List Int) (off : Int) (hl : l.length ≤ 281474976710656) (hb : ∀ x ∈ l, 0 ≤ x ∧ x ≤ 255) (hw : off ≤ 9223372036854775807) : Ev (fun k => impl_ReadUvarint.f k l off) (readUvP l off) := by
  unfold impl_ReadUvarint.f readUvP
  by_cases h : off < 0
  · simp only [if_pos h]; exact Ev.now _
  · simp only [if_neg h]
    have := implReadUvarint_l l hl hb off.toNat 6 0 0 rfl (by omega) (by simp) (.inl rfl) (by omega)
    rw [Int.toNat_of_nonneg (by omega)] at this
    exact this

theorem specReadUvarint_l (l : List Int) (hl : l.length ≤ 281474976710656) (hb : ∀ x ∈ l, 0 ≤ x ∧ x ≤ 255) (off : Nat) (f : Nat) : ∀ (i : Nat) (n : Int), i + f = 6 → 0 ≤ n → n < 128 ^ i → (i = 0 ∨ off < l.length) → off ≤ 9223372036854775807 →
    Ev (fun k => spec_ReadUvarint.l0 k l (off : Int) n (i : Int)) (ruvP l off f i n) := by
  induction f with
  | zero =>
    intro i n hi h0 h1 ho hw
    refine evSucc ?_
    simp only [spec_ReadUvarint.l0]
    refine evF ((i : Int) < 6) (by omega) ?_
    exact Ev.now _
  | succ f ih =>
    intro i n hi h0 h1 ho hw
    have hp : (0 : Int) < 128 ^ i := Int.pow_pos (by omega)
    refine evSucc ?_
    simp only [spec_ReadUvarint.l0]
    refine evT ((i : Int) < 6) (by omega) ?_
    unfold ruvP
    by_cases hin : off + i < l.length
    · rw [if_pos hin]
      refine evF ((off : Int) < 0) (by omega) ?_
      have hd : decide ((off : Int) ≥ wrap64 ((l.length : Int) - (i : Int))) = false := decide_eq_false (by rw [w64 (by omega) (by omega)]; omega)
      rw [hd]
      refine evSucc ?_
      simp only [spec_ReadUvarint.j1]
      simp only [Bool.false_eq_true, if_false]
      have hc := hb (l.getD (off + i) 0) (getD_mem hin)
      have e1 : wrap64 ((off : Int) + (i : Int)) = ((off + i : Nat) : Int) := by rw [w64 (by omega) (by omega)]; omega
      have hor := uvor (n := n) (c := l.getD (off + i) 0 % 128) (i := i) (by omega) h0 h1 (by omega) (by omega)
      simp only [e1, rdn]
      have em0 : wrap64 (l.getD (off + i) 0) = l.getD (off + i) 0 := w64 (by omega) (by omega)
      have em : Go.bits .and .i64 (l.getD (off + i) 0) 127 = l.getD (off + i) 0 % 128 := and127 hc.1 (by omega)
      simp only [em0, em]
      refine evT (0 ≤ ((off + i : Nat) : Int)) (by omega) (evT (((off + i : Nat) : Int) < (l.length : Int)) (by omega) (evT (0 ≤ wrap64 (7 * (i : Int))) (by rw [w64 (by omega) (by omega)]; omega) ?_))
      simp only [hor]
      by_cases hc2 : l.getD (off + i) 0 < 128
      · rw [if_pos hc2]
        refine evT (l.getD (off + i) 0 < 128) hc2 ?_
        clear hor
        have e2 : wrap64 (((off + i : Nat) : Int) + 1) = (off : Int) + (i : Int) + 1 := by clear em; rw [w64 (by omega) (by omega)]; omega
        rw [e2]
        clear ih ho hw hl hb h1 e1 e2 em em0
        by_cases hP : (l.getD (off + i) 0 = 0 ∧ 0 < i) ∨ n + l.getD (off + i) 0 % 128 * 128 ^ i > 1000000000000
        · rw [if_pos hP]
          repeat' (with_reducible refine evIte (fun _ => ?_) (fun _ => ?_))
          all_goals first | exact Ev.now _ | (exfalso; omega)
        · rw [if_neg hP]
          repeat' (with_reducible refine evIte (fun _ => ?_) (fun _ => ?_))
          all_goals first | exact Ev.now _ | (exfalso; omega)
      · rw [if_neg hc2]
        refine evF (l.getD (off + i) 0 < 128) hc2 ?_
        clear hor em em0 e1
        have hwi : wrap64 ((i : Int) + 1) = ((i + 1 : Nat) : Int) := wsucc (by omega)
        rw [hwi]
        refine ih (i + 1) _ (by omega) ?_ ?_ (.inr (by omega)) hw
        · have : (0 : Int) ≤ l.getD (off + i) 0 % 128 * 128 ^ i := Int.mul_nonneg (by omega) (by omega)
          omega
        · rw [Int.pow_succ]
          have : l.getD (off + i) 0 % 128 * 128 ^ i ≤ 127 * 128 ^ i := Int.mul_le_mul_of_nonneg_right (by omega) (by omega)
          omega
    · rw [if_neg hin]
      refine evF ((off : Int) < 0) (by omega) ?_
      have hd : decide ((off : Int) ≥ wrap64 ((l.length : Int) - (i : Int))) = true := decide_eq_true (by rw [w64 (by omega) (by omega)]; omega)
      rw [hd]
      refine evSucc ?_
      simp only [spec_ReadUvarint.j1, if_true]
      exact Ev.now _

theorem specReadUvarint_ev (l : List Int) (off : Int) (hl : l.length ≤ 281474976710656) (hb : ∀ x ∈ l, 0 ≤ x ∧ x ≤ 255) (hw : off ≤ 9223372036854775807) : Ev (fun k => spec_ReadUvarint.f k l off) (readUvP l off) := by
  unfold spec_ReadUvarint.f readUvP
  by_cases h : off < 0
  · rw [if_pos h]
    refine evSucc ?_
    simp only [spec_ReadUvarint.l0]
    refine evT ((0 : Int) < 6) (by omega) (evT (off < 0) h ?_)
    refine evSucc ?_
    simp only [spec_ReadUvarint.j1, if_true]
    exact Ev.now _
  · rw [if_neg h]
    have := specReadUvarint_l l hl hb off.toNat 6 0 0 rfl (by omega) (by simp) (.inl rfl) (by omega)
    rw [Int.toNat_of_nonneg (by omega)] at this
    exact this

theorem drop_cons {α : Type} (l : List α) (d : α) (i : Nat) (h : i < l.length) : l.drop i = l.getD i d :: l.drop (i + 1) := by
  rw [List.drop_eq_getElem_cons h, getD_get h]

theorem uv_split (p : Int) (n : Int) : n % 128 * p + n / 128 * (p * 128) = n * p := by
  have e : n = n / 128 * 128 + n % 128 := by omega
  have h : n * p = (n / 128 * 128 + n % 128) * p := by rw [← e]
  rw [h, Int.add_mul, Int.mul_assoc (n / 128) 128 p, Int.mul_comm 128 p, Int.add_comm]
theorem ruv_uvF (l post : List Int) (off : Nat) (g : Nat) : ∀ (i : Nat) (n acc : Int), l.drop (off + i) = uvF g n ++ post → 0 ≤ n → n < 128 ^ (g + 1) → (0 < n ∨ i = 0) → acc + n * 128 ^ i ≤ 1000000000000 →
    ruvP l off (g + 1) i acc = (acc + n * 128 ^ i, (off : Int) + (i : Int) + ((uvF g n).length : Int), true) := by
  induction g with
  | zero =>
    intro i n acc hd h0 h1 hz hm
    simp at h1
    have hlen : off + i < l.length := by
      rcases Nat.lt_or_ge (off + i) l.length with h | h
      · exact h
      · rw [List.drop_of_length_le h] at hd; simp [uvF] at hd
    have hg : l.getD (off + i) 0 = n := by
      rw [drop_cons l 0 _ hlen] at hd
      simp [uvF] at hd
      exact hd.1
    unfold ruvP
    rw [if_pos hlen, hg, if_pos (by omega), show n % 128 = n by omega]
    rw [if_neg (by rintro (h | h); omega; omega)]
    simp [uvF]
  | succ g ih =>
    intro i n acc hd h0 h1 hz hm
    have hlen : off + i < l.length := by
      rcases Nat.lt_or_ge (off + i) l.length with h | h
      · exact h
      · rw [List.drop_of_length_le h] at hd
        have := (uvF_len (g + 1) n).2
        have h3 := congrArg List.length hd
        simp at h3
        omega
    by_cases hn : n ≥ 128
    · have hu : uvF (g + 1) n = (n % 128 + 128) :: uvF g (n / 128) := by rw [uvF, if_pos hn]
      rw [hu, drop_cons l 0 _ hlen, List.cons_append, List.cons.injEq] at hd
      have hs := uv_split (128 ^ i) n
      have h1' : n < 128 ^ (g + 1) * 128 := by rw [← Int.pow_succ]; exact h1
      have hr := ih (i + 1) (n / 128) (acc + n % 128 * 128 ^ i) hd.2 (by omega) (by omega) (.inl (by omega)) (by rw [Int.pow_succ]; omega)
      unfold ruvP
      rw [if_pos hlen, hd.1, if_neg (by omega), show (n % 128 + 128) % 128 = n % 128 by omega, hr, hu, Int.pow_succ]
      simp only [List.length_cons, Prod.mk.injEq, and_true]
      constructor
      · omega
      · omega
    · have hu : uvF (g + 1) n = [n] := by rw [uvF, if_neg hn]
      have hg : l.getD (off + i) 0 = n := by
        rw [hu, drop_cons l 0 _ hlen] at hd
        simp at hd
        exact hd.1
      unfold ruvP
      rw [if_pos hlen, hg, if_pos (by omega), show n % 128 = n by omega]
      rw [if_neg (by rintro (h | h); omega; omega), hu]
      simp
theorem readUv_append (pre post : List Int) (n : Int) (h0 : 0 ≤ n) (h1 : n ≤ 1000000000000) : readUvP (pre ++ (uvF 5 n ++ post)) (pre.length : Int) = (n, (pre.length : Int) + ((uvF 5 n).length : Int), true) := by
  unfold readUvP
  rw [if_neg (by omega), Int.toNat_natCast]
  have h := ruv_uvF (pre ++ (uvF 5 n ++ post)) post pre.length 5 0 n 0 (by simp) h0 (by simp; omega) (.inr rfl) (by simp; omega)
  rw [h]
  simp
theorem readUv_end (l : List Int) : readUvP l (l.length : Int) = (0, 0, false) := by
  unfold readUvP
  rw [if_neg (by omega), Int.toNat_natCast]
  unfold ruvP
  rw [if_neg (by omega)]

theorem ruv_inv (l : List Int) (hb : ∀ x ∈ l, 0 ≤ x ∧ x ≤ 255) (off : Nat) (g : Nat) : ∀ (i : Nat) (acc : Int), (ruvP l off (g + 1) i acc).2.2 = true →
    ∃ n : Int, (ruvP l off (g + 1) i acc).1 = acc + n * 128 ^ i ∧ 0 ≤ n ∧ (0 < n ∨ i = 0) ∧ (ruvP l off (g + 1) i acc).2.1 = (off : Int) + (i : Int) + ((uvF g n).length : Int) ∧ ∃ post, l.drop (off + i) = uvF g n ++ post := by
  induction g with
  | zero =>
    intro i acc h
    unfold ruvP at h ⊢
    by_cases hlen : off + i < l.length
    · have hc := hb (l.getD (off + i) 0) (getD_mem hlen)
      have hd := drop_cons l 0 _ hlen
      rw [if_pos hlen] at h ⊢
      by_cases h2 : l.getD (off + i) 0 < 128
      · rw [if_pos h2] at h ⊢
        by_cases h3 : (l.getD (off + i) 0 = 0 ∧ 0 < i) ∨ acc + l.getD (off + i) 0 % 128 * 128 ^ i > 1000000000000
        · rw [if_pos h3] at h; simp at h
        · rw [if_neg h3]
          refine ⟨l.getD (off + i) 0, ?_, hc.1, by omega, by simp [uvF], l.drop (off + i + 1), by rw [hd]; rfl⟩
          show acc + l.getD (off + i) 0 % 128 * 128 ^ i = _
          rw [show l.getD (off + i) 0 % 128 = l.getD (off + i) 0 by omega]
      · rw [if_neg h2] at h; simp [ruvP] at h
    · rw [if_neg hlen] at h; simp at h
  | succ g ih =>
    intro i acc h
    rw [ruvP] at h ⊢
    by_cases hlen : off + i < l.length
    · have hc := hb (l.getD (off + i) 0) (getD_mem hlen)
      have hd := drop_cons l 0 _ hlen
      rw [if_pos hlen] at h ⊢
      by_cases h2 : l.getD (off + i) 0 < 128
      · rw [if_pos h2] at h ⊢
        by_cases h3 : (l.getD (off + i) 0 = 0 ∧ 0 < i) ∨ acc + l.getD (off + i) 0 % 128 * 128 ^ i > 1000000000000
        · rw [if_pos h3] at h; simp at h
        · rw [if_neg h3]
          have hu : uvF (g + 1) (l.getD (off + i) 0) = [l.getD (off + i) 0] := by rw [uvF, if_neg (by omega)]
          refine ⟨l.getD (off + i) 0, ?_, hc.1, by omega, by rw [hu]; simp, l.drop (off + i + 1), by rw [hd, hu]; rfl⟩
          show acc + l.getD (off + i) 0 % 128 * 128 ^ i = _
          rw [show l.getD (off + i) 0 % 128 = l.getD (off + i) 0 by omega]
      · rw [if_neg h2] at h ⊢
        obtain ⟨n, e1, e2, e3, e4, post, e5⟩ := ih (i + 1) _ h
        have hs := uv_split (128 ^ i) (l.getD (off + i) 0 % 128 + 128 * n)
        have q1 : (l.getD (off + i) 0 % 128 + 128 * n) % 128 = l.getD (off + i) 0 % 128 := by omega
        have q2 : (l.getD (off + i) 0 % 128 + 128 * n) / 128 = n := by omega
        rw [q1, q2] at hs
        have hn : 0 < n := by omega
        have hu : uvF (g + 1) (l.getD (off + i) 0 % 128 + 128 * n) = l.getD (off + i) 0 :: uvF g n := by
          rw [uvF, if_pos (by omega), q1, q2, show l.getD (off + i) 0 % 128 + 128 = l.getD (off + i) 0 by omega]
        refine ⟨l.getD (off + i) 0 % 128 + 128 * n, ?_, by omega, .inl (by omega), ?_, post, ?_⟩
        · rw [e1, Int.pow_succ]; omega
        · rw [e4, hu, List.length_cons]; omega
        · rw [hd, hu, List.cons_append]
          have e5' : l.drop (off + i + 1) = uvF g n ++ post := e5
          rw [e5']
    · rw [if_neg hlen] at h; simp at h
theorem readUv_inv (l : List Int) (hb : ∀ x ∈ l, 0 ≤ x ∧ x ≤ 255) (off : Int) (h : (readUvP l off).2.2 = true) : uvF 5 (readUvP l off).1 = (l.take ((readUvP l off).2.1).toNat).drop off.toNat := by
  have hk := readUvP_ok h
  unfold readUvP at h hk ⊢
  rw [if_neg (by omega)] at h hk ⊢
  obtain ⟨n, e1, e2, _, e4, post, e5⟩ := ruv_inv l hb off.toNat 5 0 0 h
  rw [e1, e4]
  simp only [Int.pow_zero, Int.mul_one, Int.zero_add, Nat.add_zero] at e5 ⊢
  have e6 : ((off.toNat : Int) + ((0 : Nat) : Int) + ((uvF 5 n).length : Int)).toNat = off.toNat + (uvF 5 n).length := by omega
  rw [e6, List.drop_take, e5, show off.toNat + (uvF 5 n).length - off.toNat = (uvF 5 n).length by omega, List.take_left]

theorem and255 (x : Int) : 0 ≤ Go.bits .and .i64 x 255 ∧ Go.bits .and .i64 x 255 ≤ 255 := by
  have e : Go.bits .and .i64 x ((255 : Nat) : Int) = IntKind.i64.wrap (((BitVec.ofInt 64 x).toNat &&& 255 : Nat) : Int) := by
    simp only [Go.bits, BitVec.ofInt_natCast, BitVec.toNat_and, BitVec.toNat_ofNat]
    rfl
  have h : ((BitVec.ofInt 64 x).toNat &&& 255) ≤ 255 := Nat.and_le_right
  have e2 : Go.bits .and .i64 x 255 = (((BitVec.ofInt 64 x).toNat &&& 255 : Nat) : Int) := by
    rw [← hk62 (((BitVec.ofInt 64 x).toNat &&& 255 : Nat) : Int) (by omega) (by omega)]
    exact e
  rw [e2]
  omega
theorem byte_ex (b : List Int) (i h : Int) (hl : b.length ≤ 1048576) (h0 : 0 ≤ i) (h1 : i ≤ b.length) : ∃ v i' h', spec_l1Byte.f b i h = some (v, i', h') ∧ 0 ≤ v ∧ v ≤ 255 ∧ 0 ≤ i' ∧ i' ≤ b.length := by
  unfold spec_l1Byte.f
  by_cases hi : i < (b.length : Int)
  · rw [if_pos hi, if_pos h0, w64 (x := i + 1) (by omega) (by omega)]
    exact ⟨_, _, _, rfl, (and255 _).1, (and255 _).2, by omega, by omega⟩
  · rw [if_neg hi]
    exact ⟨_, _, _, rfl, (and255 _).1, (and255 _).2, h0, h1⟩
theorem below_ex (b : List Int) (i h n : Int) (hl : b.length ≤ 1048576) (h0 : 0 ≤ i) (h1 : i ≤ b.length) : ∃ v i' h', spec_l1Below.f b i h n = some (v, i', h') ∧ (0 < n → 0 ≤ v ∧ v < n) ∧ (n ≤ 0 → v = 0) ∧ 0 ≤ i' ∧ i' ≤ b.length := by
  unfold spec_l1Below.f
  by_cases hn : n ≤ 0
  · rw [if_pos hn]
    exact ⟨_, _, _, rfl, fun h => by omega, fun _ => rfl, h0, h1⟩
  rw [if_neg hn]
  by_cases hn2 : n ≤ 256
  · rw [if_pos hn2]
    obtain ⟨v, i1, g1, e1, a1, b1, c1, d1⟩ := byte_ex b i h hl h0 h1
    rw [e1]
    simp only [Option.bind_some]
    rw [if_neg (by omega)]
    refine ⟨_, _, _, rfl, fun _ => ?_, fun h => by omega, c1, d1⟩
    rw [Int.tmod_eq_emod_of_nonneg a1]
    exact ⟨Int.emod_nonneg _ (by omega), Int.emod_lt_of_pos _ (by omega)⟩
  · rw [if_neg hn2]
    obtain ⟨v, i1, g1, e1, a1, b1, c1, d1⟩ := byte_ex b i h hl h0 h1
    obtain ⟨v2, i2, g2, e2, a2, b2, c2, d2⟩ := byte_ex b i1 g1 hl c1 d1
    obtain ⟨v3, i3, g3, e3, a3, b3, c3, d3⟩ := byte_ex b i2 g2 hl c2 d2
    rw [e1]
    simp only [Option.bind_some]
    rw [e2]
    simp only [Option.bind_some]
    rw [e3]
    simp only [Option.bind_some]
    rw [if_neg (by omega), w64 (x := v * 65536) (by omega) (by omega), w64 (x := v2 * 256) (by omega) (by omega), w64 (x := v * 65536 + v2 * 256) (by omega) (by omega), w64 (by omega) (by omega)]
    refine ⟨_, _, _, rfl, fun _ => ?_, fun h => by omega, c3, d3⟩
    rw [Int.tmod_eq_emod_of_nonneg (by omega)]
    exact ⟨Int.emod_nonneg _ (by omega), Int.emod_lt_of_pos _ (by omega)⟩
theorem new_ev (l : List Int) (hl : l.length ≤ 1048576) : ∃ h, Ev (fun k => spec_l1New.f k l) (l, 0, h) := by
  unfold spec_l1New.f
  have H : ∀ d i (x : Int), i + d = l.length → ∃ h, Ev (fun k => spec_l1New.l0 k l x (i : Int)) (l, 0, h) := by
    intro d
    induction d with
    | zero =>
      intro i x hi
      refine ⟨x, evSucc ?_⟩
      simp only [spec_l1New.l0]
      exact evF ((i : Int) < (l.length : Int)) (by omega) (Ev.now _)
    | succ d ih =>
      intro i x hi
      by_cases h4 : (i : Int) < 4000
      · obtain ⟨h, hh⟩ := ih (i + 1) (Go.bits .and .i64 (wrap64 ((wrap64 ((wrap64 (x * 137)) + (wrap64 (rd l (i : Int))))) + 11)) 1073741823) (by omega)
        refine ⟨h, evSucc ?_⟩
        simp only [spec_l1New.l0]
        refine evT ((i : Int) < (l.length : Int)) (by omega) (evT ((i : Int) < 4000) h4 (evT (0 ≤ (i : Int)) (by omega) ?_))
        rw [wsucc (by omega)]
        exact hh
      · refine ⟨x, evSucc ?_⟩
        simp only [spec_l1New.l0]
        exact evT ((i : Int) < (l.length : Int)) (by omega) (evF ((i : Int) < 4000) h4 (Ev.now _))
  exact H l.length 0 _ (by omega)

theorem int_ex (b : List Int) (i h : Int) (xs : List Int) (hx : 0 < xs.length) (hl : b.length ≤ 1048576) (h0 : 0 ≤ i) (h1 : i ≤ b.length) : ∃ v i' h', spec_l1Int.f b i h xs = some (v, i', h') ∧ v ∈ xs ∧ 0 ≤ i' ∧ i' ≤ b.length := by
  unfold spec_l1Int.f
  obtain ⟨v, i1, g1, e1, a1, _, c1, d1⟩ := below_ex b i h (xs.length : Int) hl h0 h1
  have a2 := a1 (by omega)
  rw [e1]
  simp only [Option.bind_some]
  rw [if_pos a2.1, if_pos a2.2]
  refine ⟨_, _, _, rfl, ?_, c1, d1⟩
  unfold rd
  exact getD_mem (by omega)

theorem num_ex (b : List Int) (i h : Int) (hl : b.length ≤ 1048576) (h0 : 0 ≤ i) (h1 : i ≤ b.length) : ∃ v i' h', spec_l1Num.f b i h = some (v, i', h') ∧ 0 ≤ v ∧ v ≤ 1000000000000 ∧ 0 ≤ i' ∧ i' ≤ b.length := by
  unfold spec_l1Num.f
  obtain ⟨o, i1, g1, e1, a1, _, c1, d1⟩ := below_ex b i h 4 hl h0 h1
  rw [e1]
  simp only [Option.bind_some]
  by_cases o0 : o = 0
  · rw [if_pos o0]
    obtain ⟨v, i2, g2, e2, a2, _, c2, d2⟩ := below_ex b i1 g1 2000 hl c1 d1
    rw [e2]
    have a2 := a2 (by omega)
    exact ⟨_, _, _, rfl, a2.1, by omega, c2, d2⟩
  rw [if_neg o0]
  by_cases o1 : o = 1
  · rw [if_pos o1]
    obtain ⟨v, i2, g2, e2, m2, c2, d2⟩ := int_ex b i1 g1 [0, 1, 127, 128, 2147483646, 2147483647, 1000000000000] (by decide) hl c1 d1
    rw [e2]
    simp at m2
    exact ⟨_, _, _, rfl, by omega, by omega, c2, d2⟩
  rw [if_neg o1]
  by_cases o2 : o = 2
  · rw [if_pos o2]
    obtain ⟨v, i2, g2, e2, a2, _, c2, d2⟩ := below_ex b i1 g1 1000000 hl c1 d1
    obtain ⟨u, i3, g3, e3, a3, _, c3, d3⟩ := below_ex b i2 g2 1000000 hl c2 d2
    rw [e2]
    simp only [Option.bind_some]
    rw [e3]
    have a2 := a2 (by omega)
    have a3 := a3 (by omega)
    have hp0 : 0 ≤ v * u := Int.mul_nonneg a2.1 a3.1
    have hp1 : v * u ≤ 999999 * 999999 := Int.mul_le_mul (by omega) (by omega) a3.1 (by omega)
    refine ⟨_, _, _, rfl, ?_, ?_, c3, d3⟩
    · show 0 ≤ wrap64 (v * u); rw [w64 (by omega) (by omega)]; omega
    · show wrap64 (v * u) ≤ 1000000000000; rw [w64 (by omega) (by omega)]; omega
  rw [if_neg o2]
  obtain ⟨v, i2, g2, e2, a2, _, c2, d2⟩ := below_ex b i1 g1 20 hl c1 d1
  rw [e2]
  have a2 := a2 (by omega)
  exact ⟨_, _, _, rfl, a2.1, by omega, c2, d2⟩

theorem once_ex (b : List Int) (i h n : Int) (hl : b.length ≤ 1048576) (h0 : 0 ≤ i) (h1 : i ≤ b.length) : ∃ v i' h', spec_l1Once.f b i h n = some (v, i', h') ∧ 0 ≤ i' ∧ i' ≤ b.length := by
  unfold spec_l1Once.f
  obtain ⟨v, i1, g1, e1, _, _, c1, d1⟩ := below_ex b i h n hl h0 h1
  rw [e1]
  exact ⟨_, _, _, rfl, c1, d1⟩

theorem bytes_ex (b : List Int) (i h n : Int) (hl : b.length ≤ 1048576) (h0 : 0 ≤ i) (h1 : i ≤ b.length) (hn : n ≤ 1000) : ∃ v i' h', Ev (fun k => spec_l1Bytes.f k b i h n) (v, i', h') ∧ v.length = n.toNat ∧ (∀ x ∈ v, 0 ≤ x ∧ x ≤ 255) ∧ 0 ≤ i' ∧ i' ≤ b.length := by
  unfold spec_l1Bytes.f
  have H : ∀ (d j : Nat) (acc : List Int) (i h : Int), j + d = n.toNat → acc.length = j → (∀ x ∈ acc, 0 ≤ x ∧ x ≤ 255) → 0 ≤ i → i ≤ b.length →
      ∃ v i' h', Ev (fun k => spec_l1Bytes.l0 k n acc (j : Int) b i h) (v, i', h') ∧ v.length = n.toNat ∧ (∀ x ∈ v, 0 ≤ x ∧ x ≤ 255) ∧ 0 ≤ i' ∧ i' ≤ b.length := by
    intro d
    induction d with
    | zero =>
      intro j acc i h hj ha hr h0 h1
      refine ⟨acc, i, h, evSucc ?_, by omega, hr, h0, h1⟩
      simp only [spec_l1Bytes.l0]
      exact evF ((j : Int) < n) (by omega) (Ev.now _)
    | succ d ih =>
      intro j acc i h hj ha hr h0 h1
      obtain ⟨v, i1, g1, e1, a1, b1, c1, d1⟩ := byte_ex b i h hl h0 h1
      obtain ⟨w, i2, g2, e2, l2, r2, c2, d2⟩ := ih (j + 1) (acc ++ [v % 256]) i1 g1 (by omega) (by simp [ha]) (fun x hx => by
        rcases List.mem_append.1 hx with hx | hx
        · exact hr x hx
        · simp at hx; omega) c1 d1
      refine ⟨w, i2, g2, evSucc ?_, l2, r2, c2, d2⟩
      simp only [spec_l1Bytes.l0, e1, Option.bind_some]
      refine evT ((j : Int) < n) (by omega) (evT (acc.length < 140737488355328) (by omega) ?_)
      rw [wsucc (by omega)]
      exact e2
  exact H n.toNat 0 [] i h (by omega) rfl (fun x hx => by simp at hx) h0 h1

theorem l1In_eq (a b c : Int) : spec_l1In.f a b c = some (decide (b ≤ a ∧ a ≤ c)) := by
  unfold spec_l1In.f; by_cases h : b ≤ a <;> simp [h]

theorem specAppendUvarint_l (f : Nat) : ∀ (n : Int) (acc : List Int), 0 ≤ n → n ≤ 1000000000000 → n < 128 ^ (f + 1) → acc.length + f + 1 < 140737488355328 → Ev (fun k => spec_AppendUvarint.l0 k n acc) (acc ++ uvF f n) := by
  induction f with
  | zero =>
    intro n acc h0 h1 h2 h3
    refine evSucc ?_
    simp only [spec_AppendUvarint.l0]
    simp at h2
    refine evF (n > 127) (by omega) (evT (acc.length < 140737488355328) (by omega) ?_)
    rw [show n % 256 = n by omega]
    exact Ev.now _
  | succ f ih =>
    intro n acc h0 h1 h2 h3
    have h2' : n < 128 ^ (f + 1) * 128 := by rw [← Int.pow_succ]; exact h2
    refine evSucc ?_
    simp only [spec_AppendUvarint.l0]
    unfold uvF
    by_cases hn : n ≥ 128
    · rw [if_pos hn]
      refine evT (n > 127) (by omega) (evT (acc.length < 140737488355328) (by omega) ?_)
      rw [uvbyte h0 h1]
      have := ih (n / 128) (acc ++ [n % 128 + 128]) (by omega) (by omega) (by omega) (by rw [List.length_append]; simp; omega)
      rw [List.append_assoc] at this
      exact this
    · rw [if_neg hn]
      refine evF (n > 127) (by omega) (evT (acc.length < 140737488355328) (by omega) ?_)
      rw [show n % 256 = n by omega]
      exact Ev.now _
theorem specAppendUvarint_ev (l : List Int) (n : Int) (hl : l.length ≤ 140737488350000) : Ev (fun k => spec_AppendUvarint.f k l n) (appendUvP l n) := by
  unfold spec_AppendUvarint.f appendUvP
  simp only [l1In_eq, Option.bind_some, decide_eq_true_eq, List.nil_append, List.length_nil, Nat.zero_add, if_pos (show l.length < 140737488355328 by omega)]
  by_cases h : 0 ≤ n ∧ n ≤ 1000000000000
  · simp only [if_pos h]
    exact specAppendUvarint_l 5 n l h.1 h.2 (by simp; omega) (by omega)
  · simp only [if_neg h]
    exact Ev.now _

theorem drawReadUv_ex (b : List Int) (h : Int) (hl : b.length ≤ 1048576) (hnew : Ev (fun k => spec_l1New.f k b) (b, 0, h)) : ∃ y off, Ev (fun k => spec_DrawReadUvarint.f k b) (y, off) ∧ y.length ≤ 20 ∧ (∀ x ∈ y, 0 ≤ x ∧ x ≤ 255) ∧ -1 ≤ off ∧ off ≤ 2 := by
  unfold spec_DrawReadUvarint.f
  obtain ⟨o, i1, g1, e1, c1, d1⟩ := once_ex b 0 h 2 hl (by omega) (by omega)
  cases o with
  | true =>
    obtain ⟨p, i2, g2, e2, l2, r2, c2, d2⟩ := bytes_ex b i1 g1 1 hl c1 d1 (by omega)
    obtain ⟨n, i3, g3, e3, n0, n1, c3, d3⟩ := num_ex b i2 g2 hl c2 d2
    refine ⟨appendUvP p n, 1, Ev.bind hnew ?_, ?_, ?_, by omega, by omega⟩
    · simp only [e1, Option.bind_some, if_true]
      refine Ev.bind e2 ?_
      simp only [e3, Option.bind_some]
      exact Ev.bind (specAppendUvarint_ev p n (by omega)) (Ev.now _)
    · have := appendUvP_len p n; omega
    · intro x hx
      unfold appendUvP at hx
      rw [if_pos ⟨n0, n1⟩] at hx
      rcases List.mem_append.1 hx with hx | hx
      · exact r2 x hx
      · exact uvF_range 5 n n0 (by simp; omega) x hx
  | false =>
    obtain ⟨n, i2, g2, e2, a2, _, c2, d2⟩ := below_ex b i1 g1 8 hl c1 d1
    have a2 := a2 (by omega)
    have H : ∀ (d : Nat) (acc : List Int) (i h : Int), (∀ x ∈ acc, 0 ≤ x ∧ x ≤ 255) → acc.length + d ≤ 8 → 0 ≤ i → i ≤ b.length →
        ∃ y off, Ev (fun k => spec_DrawReadUvarint.l0 k acc (d : Int) b i h) (y, off) ∧ y.length ≤ 20 ∧ (∀ x ∈ y, 0 ≤ x ∧ x ≤ 255) ∧ -1 ≤ off ∧ off ≤ 2 := by
      intro d
      induction d with
      | zero =>
        intro acc i h hr ha h0 h1
        obtain ⟨v, i3, g3, e3, a3, _, c3, d3⟩ := below_ex b i h 4 hl h0 h1
        have a3 := a3 (by omega)
        refine ⟨acc, wrap64 (v - 1), evSucc ?_, by omega, hr, ?_, ?_⟩
        · simp only [spec_DrawReadUvarint.l0, e3, Option.bind_some]
          exact evF (((0 : Nat) : Int) > 0) (by omega) (Ev.now _)
        · rw [w64 (by omega) (by omega)]; omega
        · rw [w64 (by omega) (by omega)]; omega
      | succ d ih =>
        intro acc i h hr ha h0 h1
        obtain ⟨v, i3, g3, e3, m3, c3, d3⟩ := int_ex b i h [128, 255, 0, 1, 127] (by decide) hl h0 h1
        simp at m3
        obtain ⟨y, off, e4, l4, r4, o4, o5⟩ := ih (acc ++ [v % 256]) i3 g3 (fun x hx => by
          rcases List.mem_append.1 hx with hx | hx
          · exact hr x hx
          · simp at hx; omega) (by simp; omega) c3 d3
        refine ⟨y, off, evSucc ?_, l4, r4, o4, o5⟩
        simp only [spec_DrawReadUvarint.l0, e3, Option.bind_some]
        refine evT (((d + 1 : Nat) : Int) > 0) (by omega) (evT (acc.length < 140737488355328) (by omega) ?_)
        have ew : wrap64 (((d + 1 : Nat) : Int) - 1) = (d : Int) := by rw [w64 (by omega) (by omega)]; omega
        rw [ew]
        exact e4
    obtain ⟨y, off, e4, l4, r4, o4, o5⟩ := H n.toNat [] i2 g2 (fun x hx => by simp at hx) (by simp; omega) c2 d2
    refine ⟨y, off, Ev.bind hnew ?_, l4, r4, o4, o5⟩
    simp only [e1, Option.bind_some, Bool.false_eq_true, if_false, e2]
    rw [Int.toNat_of_nonneg a2.1] at e4
    exact e4

theorem one_ex (b : List Int) (i h : Int) (hl : b.length ≤ 1048576) (h0 : 0 ≤ i) (h1 : i ≤ b.length) : ∃ v i' h', spec_l1One.f b i h = some (v, i', h') ∧ 0 ≤ i' ∧ i' ≤ b.length ∧ -9223372036854775808 ≤ v ∧ v ≤ 9223372036854775807 := by
  unfold spec_l1One.f
  obtain ⟨o, i1, g1, e1, c1, d1⟩ := once_ex b i h 6 hl h0 h1
  rw [e1]
  simp only [Option.bind_some]
  cases o with
  | true =>
    rw [if_pos rfl]
    unfold spec_l1Raw.f
    obtain ⟨o2, i2, g2, e2, c2, d2⟩ := once_ex b i1 g1 2 hl c1 d1
    rw [e2]
    simp only [Option.bind_some]
    cases o2 with
    | true =>
      rw [if_pos rfl]
      unfold spec_l1Odd.f
      obtain ⟨v, i3, g3, e3, m3, c3, d3⟩ := int_ex b i2 g2 [(-1), 0, 1, 2, 255, 256, 65535, 2147483647, 2147483648, 4294967295, 4294967296, (-2147483648), 9223372036854775807, (-9223372036854775808)] (by decide) hl c2 d2
      rw [e3]
      simp at m3
      exact ⟨_, _, _, rfl, c3, d3, by omega, by omega⟩
    | false =>
      rw [if_neg (by decide)]
      obtain ⟨v, i3, g3, e3, m3, c3, d3⟩ := int_ex b i2 g2 [(-1), 1000000000000, 1000000000001] (by decide) hl c2 d2
      rw [e3]
      simp at m3
      exact ⟨_, _, _, rfl, c3, d3, by omega, by omega⟩
  | false =>
    rw [if_neg (by decide)]
    obtain ⟨v, i2, g2, e2, a2, b2, c2, d2⟩ := num_ex b i1 g1 hl c1 d1
    rw [e2]
    exact ⟨_, _, _, rfl, c2, d2, by omega, by omega⟩

theorem big_eq (l : List Int) : laws_big.f l = some (decide ((l.length : Int) > 1048576)) := rfl

theorem sameBytes_ev (a b : List Int) (hl : a.length ≤ 281474976710656) : Ev (fun k => laws_sameBytes.f k a b) (decide (a = b)) := by
  by_cases hn : a.length = b.length
  · have H : Ev (fun k => laws_sameBytes.l0 k a b 0) (decide (a = b)) := by
      have := evUp (g := fun i k => laws_sameBytes.l0 k a b (i : Int)) (R := fun i => decide (a.drop i = b.drop i)) a.length ?_ ?_ 0 (Nat.zero_le _)
      · simpa using this
      · refine Ev.step (f := fun _ => some true) (fun k => ?_) (by simpa [hn] using Ev.now true)
        simp only [laws_sameBytes.l0]
        rw [if_neg (by omega)]
      · intro i hi ih
        have hd := drop_eq_iff a b 0 i hi (by omega)
        by_cases he : a.getD i 0 = b.getD i 0
        · refine Ev.step (f := fun k => laws_sameBytes.l0 k a b ((i + 1 : Nat) : Int)) (fun k => ?_) ?_
          · simp only [laws_sameBytes.l0]
            rw [if_pos (by omega), if_pos (by omega), if_pos (by omega), rdn, rdn, if_pos he, wsucc (by omega)]
          · have e : decide (a.drop i = b.drop i) = decide (a.drop (i + 1) = b.drop (i + 1)) := decide_eq_decide.mpr (hd.trans (and_iff_right he))
            simp only [e]
            exact ih
        · refine Ev.step (f := fun _ => some false) (fun k => ?_) ?_
          · simp only [laws_sameBytes.l0]
            rw [if_pos (by omega), if_pos (by omega), if_pos (by omega), rdn, rdn, if_neg he]
          · have e : decide (a.drop i = b.drop i) = false := decide_eq_false (fun h => he (hd.mp h).1)
            simp only [e]
            exact Ev.now false
    refine Ev.congr (fun k => ?_) H
    unfold laws_sameBytes.f
    rw [if_pos (by omega)]
  · have e : decide (a = b) = false := decide_eq_false (fun h => hn (by rw [h]))
    rw [e]
    refine Ev.congr (f := fun _ => some false) (fun k => ?_) (Ev.now false)
    unfold laws_sameBytes.f
    rw [if_neg (by omega)]

theorem sameBytes_same (a : List Int) (hl : a.length ≤ 281474976710656) : Ev (fun k => laws_sameBytes.f k a a) true := by simpa using sameBytes_ev a a hl

theorem FnVarints : laws_FnVarints.Pure := by
  intro l _ _ hb0
  refine Ev.rounds ?_
  unfold laws_FnVarints.f
  simp only [big_eq, Option.bind_some, decide_eq_true_eq]
  refine evIte (fun _ => Ev.now _) (fun hbig => ?_)
  have hl : l.length ≤ 1048576 := by omega
  obtain ⟨h, hnew⟩ := new_ev l hl

  have hdraw : ∃ b n, Ev (fun k => spec_DrawAppendUvarint.f k l) (b, n) ∧ b.length ≤ 2 ∧ (∀ x ∈ b, 0 ≤ x ∧ x ≤ 255) := by
    unfold spec_DrawAppendUvarint.f
    obtain ⟨m, i1, g1, e1, a1, _, c1, d1⟩ := below_ex l 0 h 3 hl (by omega) (by omega)
    have a1 := a1 (by omega)
    obtain ⟨b, i2, g2, e2, l2, r2, c2, d2⟩ := bytes_ex l i1 g1 m hl c1 d1 (by omega)
    obtain ⟨n, i3, g3, e3, c3, d3, _, _⟩ := one_ex l i2 g2 hl c2 d2
    refine ⟨b, n, Ev.bind hnew ?_, by omega, r2⟩
    simp only [e1, Option.bind_some]
    refine Ev.bind e2 ?_
    simp only [e3, Option.bind_some]
    exact Ev.now _
  obtain ⟨b, n, hd, hlb, hbb⟩ := hdraw
  have hj1 : Ev (fun k => laws_FnVarints.j1 k l) true := by
    obtain ⟨y, off, e, ly, ry, o0, o1⟩ := drawReadUv_ex l h hl hnew
    refine evSucc ?_
    simp only [laws_FnVarints.j1]
    refine Ev.bind e (Ev.bind (implReadUvarint_ev y off (by omega) ry (by omega)) ?_)
    refine evIte (fun ho => ?_) (fun ho => ?_)
    · have hk := readUvP_ok ho
      have hinv := readUv_inv y ry off ho
      refine evT (off ≥ 0) (by omega) (evT ((readUvP y off).2.1 ≤ (y.length : Int)) hk.2.2.2.2 (evT (off < (readUvP y off).2.1) hk.2.2.2.1 ?_))
      refine Ev.bind (implAppendUvarint_ev [] (readUvP y off).1 (by simp)) ?_
      refine evT (0 ≤ off) (by omega) (evT (off ≤ (readUvP y off).2.1) (by omega) ?_)
      have ha : appendUvP [] (readUvP y off).1 = (y.take ((readUvP y off).2.1).toNat).drop off.toNat := by
        unfold appendUvP
        rw [if_pos ⟨hk.1, hk.2.1⟩, List.nil_append, hinv]
      rw [ha]
      exact Ev.bind (sameBytes_same _ (by simp; omega)) (Ev.now _)
    · have hno := readUvP_no (Bool.eq_false_iff.mpr ho)
      refine Ev.bind (specReadUvarint_ev y off (by omega) ry (by omega)) ?_
      rw [hno]
      simp only [if_true, Bool.not_false]
      exact Ev.now _
  refine Ev.bind hd ?_
  dsimp only
  have hlen := appendUvP_len b n
  refine Ev.bind (implAppendUvarint_ev b n (by omega)) ?_
  by_cases hr : 0 ≤ n ∧ n ≤ 1000000000000
  · have hx : appendUvP b n = b ++ (uvF 5 n ++ []) := by unfold appendUvP; rw [if_pos hr, List.append_nil]
    have hrx : ∀ x ∈ appendUvP b n, 0 ≤ x ∧ x ≤ 255 := by
      intro x hx'
      rw [hx, List.append_nil] at hx'
      rcases List.mem_append.1 hx' with h1 | h1
      · exact hbb x h1
      · exact uvF_range 5 n hr.1 (by simp; omega) x h1
    have hread := readUv_append b [] n hr.1 hr.2
    rw [← hx] at hread
    refine Ev.bind (implReadUvarint_ev _ _ (by omega) hrx (by omega)) ?_
    rw [hread]
    refine evF (n < 0) (by omega) ?_
    rw [decide_eq_false (show ¬ n > 1000000000000 by omega)]
    refine evSucc ?_
    simp only [laws_FnVarints.j0, Bool.false_eq_true, if_false, if_true]
    refine evT _ ?_ hj1
    rw [hx, List.append_nil, List.length_append]
    omega
  · have hx : appendUvP b n = b := by unfold appendUvP; rw [if_neg hr]
    rw [hx]
    refine Ev.bind (implReadUvarint_ev b _ (by omega) hbb (by omega)) ?_
    rw [readUv_end]
    have hj0 : Ev (fun k => laws_FnVarints.j0 k l b n b 0 0 false true) true := by
      refine evSucc ?_
      simp only [laws_FnVarints.j0, Bool.false_eq_true, if_false, if_true]
      refine Ev.bind (sameBytes_same b (by omega)) ?_
      simp only [if_true]
      exact hj1
    refine evIte (fun _ => hj0) (fun hn => ?_)
    rw [decide_eq_true (show n > 1000000000000 by omega)]
    exact hj0

end Go.Proofs.Ytodklionpjjmfaa.Pure
