/- The law FnByteStrings returns true for every input: byte strings and lists of integers are decoded from their encodings. It holds for every input that the statement admits; no condition is added. -/
import Derived.Test.YtodklionpjjmfaaQFnByteStringsx3
import Derived.Test.YtodklionpjjmfaaWSized
namespace Go.Proofs.Ytodklionpjjmfaa.PrintWords
open Go.ChangeShapes Go.WideShapes in
theorem sized_ints {H : Type} {enc : TypeId × Value → H} {P : Program} {W : World} {base : Nat} {spare : Nat → Bool} {held : Bool} {t e : TypeId} {k : IntKind} {a : Option Addr} {len cap : Nat} {d : DataW H} {ps : List MemPlace} {ts : List TypeId} {ds : List (DataW H)} {j : Nat}
    (h1 : (DataW.weightsEach P ts ds).all (· ≤ reachBytes) = true) (h2 : ts[j]? = some t) (h3 : ds[j]? = some d) (h4 : P.underlying t = some (.slice e)) (h5 : P.underlying e = some (.int k)) (h6 : P.cellsOf e = 1) {B : Nat} (h7 : P.bytesOf e = B)
    (h8 : DataW.Trod enc P W base spare held t (.slice a len cap) d ps) : len * B ≤ 140737488351232 := Go.Proofs.YtodklionpjjmfaaW.PrintWords.sized_ints h1 h2 h3 h4 h5 h6 h7 h8
end Go.Proofs.Ytodklionpjjmfaa.PrintWords
namespace Go.Proofs.Ytodklionpjjmfaa.Pure
open Go.RowKit Go.Proofs.Ytodklionpjjmfaa.QFnByteStrings Go.Proofs.YtodklionpjjmfaaW.PrintWords Go.Proofs.YtodklionpjjmfaaW.PrintLast Go.Proofs.YtodklionpjjmfaaW.PrintMore
set_option linter.unusedVariables false
set_option linter.unusedSimpArgs false

theorem w64 {x : Int} (h0 : -9223372036854775808 ≤ x) (h1 : x ≤ 9223372036854775807) : wrap64 x = x := by unfold wrap64; omega
theorem wsucc {i : Nat} (h : i < 4611686018427387904) : wrap64 ((i : Int) + 1) = ((i + 1 : Nat) : Int) := by unfold wrap64; omega
theorem wfI {x : Int} (h : (Lit.int .i64 x).wf = true) : -9223372036854775808 ≤ x ∧ x ≤ 9223372036854775807 := by
  simp only [Lit.wf, Bool.and_eq_true, decide_eq_true_eq] at h
  exact h
theorem wfB {x : Int} (h : (Lit.int .u8 x).wf = true) : 0 ≤ x ∧ x ≤ 255 := by
  simp only [Lit.wf, Bool.and_eq_true, decide_eq_true_eq] at h
  exact h
theorem rdn (l : List Int) (i : Nat) : rd l (i : Int) = l.getD i 0 := by simp [rd]
theorem evOne {α : Type} {f : Option α} {r : α} (h : f = some r) : Ev (fun _ => f) r := ⟨0, fun _ _ => h⟩
theorem evUp {ρ : Type} {g : Nat → Nat → Option ρ} {R : Nat → ρ} (n : Nat) (last : Ev (g n) (R n)) (step : ∀ i, i < n → Ev (g (i + 1)) (R (i + 1)) → Ev (g i) (R i)) : ∀ i, i ≤ n → Ev (g i) (R i) := by
  intro i hi
  obtain ⟨d, hd⟩ : ∃ d, i + d = n := ⟨n - i, by omega⟩
  induction d generalizing i with
  | zero => obtain rfl : i = n := by omega
            exact last
  | succ d ih => exact step i (by omega) (ih (i + 1) (by omega) (by omega))
theorem getD_mem {α : Type} {l : List α} {i : Nat} {d : α} (h : i < l.length) : l.getD i d ∈ l := by
  rw [List.getD_eq_getElem?_getD, List.getElem?_eq_getElem h]; exact List.getElem_mem h
theorem getD_get {α : Type} {l : List α} {i : Nat} {d : α} (h : i < l.length) : l.getD i d = l[i] := by
  rw [List.getD_eq_getElem?_getD, List.getElem?_eq_getElem h]; rfl
theorem take_set_rep {α : Type} (l : List α) (z d : α) (i : Nat) (h : i < l.length) : (l.take i ++ List.replicate (l.length - i) z).set i (l.getD i d) = l.take (i + 1) ++ List.replicate (l.length - (i + 1)) z := by
  obtain ⟨m, hm⟩ : ∃ m, l.length - i = m + 1 := ⟨l.length - i - 1, by omega⟩
  have hm' : l.length - (i + 1) = m := by omega
  rw [hm, hm', List.set_append_right _ _ (by rw [List.length_take]; omega), List.length_take, Nat.min_eq_left (by omega), Nat.sub_self, List.replicate_succ, List.set_cons_zero, getD_get h, List.take_succ_eq_append_getElem h, List.append_assoc, List.singleton_append]
theorem drop_eq_iff {α : Type} (a b : List α) (d : α) (i : Nat) (ha : i < a.length) (hb : i < b.length) : (a.drop i = b.drop i) ↔ (a.getD i d = b.getD i d ∧ a.drop (i + 1) = b.drop (i + 1)) := by
  rw [List.drop_eq_getElem_cons ha, List.drop_eq_getElem_cons hb, List.cons.injEq, getD_get ha, getD_get hb]
theorem take_rep_len {α : Type} (l : List α) (z : α) (i : Nat) (h : i ≤ l.length) : (l.take i ++ List.replicate (l.length - i) z).length = l.length := by
  simp; omega

def uvF : Nat → Int → List Int
  | 0, n => [n]
  | f + 1, n => if n ≥ 128 then (n % 128 + 128) :: uvF f (n / 128) else [n]
theorem uvF_len (f : Nat) : ∀ n, (uvF f n).length ≤ f + 1 ∧ 1 ≤ (uvF f n).length := by
  induction f with
  | zero => intro n; simp [uvF]
  | succ f ih =>
    intro n
    unfold uvF
    split
    · have := ih (n / 128); simp; omega
    · simp
theorem uvF_range (f : Nat) : ∀ n, 0 ≤ n → n < 128 ^ (f + 1) → ∀ x ∈ uvF f n, 0 ≤ x ∧ x ≤ 255 := by
  induction f with
  | zero => intro n h0 h1 x hx; simp [uvF] at hx; subst hx; simp at h1; omega
  | succ f ih =>
    intro n h0 h1 x hx
    unfold uvF at hx
    split at hx
    · rcases List.mem_cons.1 hx with rfl | hx
      · omega
      · refine ih (n / 128) (by omega) ?_ x hx
        have : n < 128 ^ (f + 1) * 128 := by rw [← Int.pow_succ]; exact h1
        omega
    · simp at hx; subst hx; omega
def appendUvP (l : List Int) (n : Int) : List Int := if 0 ≤ n ∧ n ≤ 1000000000000 then l ++ uvF 5 n else l
theorem appendUvP_len (l : List Int) (n : Int) : (appendUvP l n).length ≤ l.length + 6 := by
  unfold appendUvP
  have := (uvF_len 5 n).1
  split
  · rw [List.length_append]; omega
  · omega

def appendBytesP (b d : List Int) : List Int := appendUvP b (d.length : Int) ++ d
theorem appendBytesP_len (b d : List Int) : (appendBytesP b d).length ≤ b.length + d.length + 6 := by
  unfold appendBytesP
  have := appendUvP_len b (d.length : Int)
  rw [List.length_append]; omega

theorem hk62 : ∀ n : Int, 0 ≤ n → n < 2 ^ 62 → IntKind.i64.wrap n = n := by intro n h0 h1; rw [IntKind.wrap_i64]; omega
theorem hk8 : ∀ n : Int, 0 ≤ n → n < 2 ^ 8 → IntKind.u8.wrap n = n := by intro n h0 h1; rw [IntKind.wrap_u8]; omega
theorem and127 {n : Int} (h0 : 0 ≤ n) (h1 : n ≤ 1000000000000) : Go.bits .and .i64 n 127 = n % 128 := by
  have h := bits_mask .i64 62 (by decide) hk62 7 (by decide) n h0 (by omega)
  simpa using h
theorem and127b {n : Int} (h0 : 0 ≤ n) (h1 : n ≤ 255) : Go.bits .and .u8 n 127 = n % 128 := by
  have h := bits_mask .u8 8 (by decide) hk8 7 (by decide) n h0 (by omega)
  simpa using h
set_option maxRecDepth 20000 in
theorem and128b {n : Int} (h0 : 0 ≤ n) (h1 : n ≤ 255) : (Go.bits .and .u8 n 128 = 0) ↔ n < 128 := by
  obtain ⟨a, rfl⟩ := Int.eq_ofNat_of_zero_le h0
  have ha : a < 256 := by omega
  have h := (bits_nat .u8 8 (by decide) hk8 a 128 (by omega) (by omega)).1
  have h2 : ∀ a : Nat, a < 256 → ((a &&& 128 = 0) ↔ a < 128) := by decide
  have h3 := h2 a ha
  have e : Go.bits .and .u8 (a : Int) 128 = ((a &&& 128 : Nat) : Int) := h
  rw [e]
  omega
theorem bor {a c i : Nat} (ha : a < 2 ^ i) (hi : i ≤ 61) (hc : 2 ^ i * c < 2 ^ 62) : Go.bits .or .i64 (a : Int) ((2 ^ i * c : Nat) : Int) = ((a + 2 ^ i * c : Nat) : Int) := by
  have h2 : (2 : Nat) ^ i ≤ 2 ^ 61 := Nat.pow_le_pow_right (by decide) hi
  have h := (bits_nat .i64 62 (by decide) hk62 a (2 ^ i * c) (by omega) hc).2
  rw [h, Nat.or_comm, ← Nat.two_pow_add_eq_or_of_lt ha c, Nat.add_comm]
theorem uvbyte {n : Int} (h0 : 0 ≤ n) (h1 : n ≤ 1000000000000) : (Go.bits .or .i64 (Go.bits .and .i64 n 127) 128) % 256 = n % 128 + 128 := by
  rw [and127 h0 h1]
  obtain ⟨a, ha⟩ := Int.eq_ofNat_of_zero_le (show 0 ≤ n % 128 by omega)
  have h := bor (a := a) (c := 1) (i := 7) (by omega) (by omega) (by omega)
  have e : ((2 ^ 7 * 1 : Nat) : Int) = 128 := by decide
  rw [e] at h
  rw [ha, h]
  omega

theorem evSucc {α : Type} {g : Nat → Option α} {r : α} (h : Ev (fun k => g (k + 1)) r) : Ev g r := Ev.step (fun _ => rfl) h
theorem evIte {α : Type} {c : Prop} [Decidable c] {f g : Nat → Option α} {r : α} (h1 : c → Ev f r) (h2 : ¬ c → Ev g r) : Ev (fun k => if c then f k else g k) r := by
  by_cases h : c
  · simp only [if_pos h]; exact h1 h
  · simp only [if_neg h]; exact h2 h
theorem evT {α : Type} {f g : Nat → Option α} {r : α} (c : Prop) [Decidable c] (h : c) (h1 : Ev f r) : Ev (fun k => if c then f k else g k) r := by
  simp only [if_pos h]; exact h1
theorem evF {α : Type} {f g : Nat → Option α} {r : α} (c : Prop) [Decidable c] (h : ¬ c) (h1 : Ev g r) : Ev (fun k => if c then f k else g k) r := by
  simp only [if_neg h]; exact h1
theorem mneg (n : Nat) : ((1 : Int) + (n : Int) < 0) = False := eq_false (by omega)
theorem mneg2 (n m : Nat) : ((1 : Int) + (n : Int) + (m : Int) < 0) = False := eq_false (by omega)

theorem inRange_eq (a b c : Int) : impl_InRange.f a b c = some (decide (b ≤ a ∧ a ≤ c)) := by
  unfold impl_InRange.f; by_cases h : b ≤ a <;> simp [h]

theorem sliceClone_byte_eq (l : List Int) (h : l.length < 140737488355328) : slices_Clone_byte_byte.f l = some l := by
  unfold slices_Clone_byte_byte.f
  simp [h]

theorem implAppendUvarint_l (f : Nat) : ∀ (n : Int) (acc : List Int), 0 ≤ n → n ≤ 1000000000000 → n < 128 ^ (f + 1) → acc.length + f + 1 < 140737488355328 → Ev (fun k => impl_AppendUvarint.l0 k n acc) (acc ++ uvF f n) := by
  induction f with
  | zero =>
    intro n acc h0 h1 h2 h3
    refine evSucc ?_
    simp only [impl_AppendUvarint.l0]
    simp at h2
    refine evF (n ≥ 128) (by omega) (evT (acc.length < 140737488355328) (by omega) ?_)
    rw [show n % 256 = n by omega]
    exact Ev.now _
  | succ f ih =>
    intro n acc h0 h1 h2 h3
    have h2' : n < 128 ^ (f + 1) * 128 := by rw [← Int.pow_succ]; exact h2
    refine evSucc ?_
    simp only [impl_AppendUvarint.l0]
    unfold uvF
    by_cases hn : n ≥ 128
    · rw [if_pos hn]
      refine evT (n ≥ 128) (by omega) (evT (acc.length < 140737488355328) (by omega) ?_)
      rw [uvbyte h0 h1]
      have := ih (n / 128) (acc ++ [n % 128 + 128]) (by omega) (by omega) (by omega) (by rw [List.length_append]; simp; omega)
      rw [List.append_assoc] at this
      exact this
    · rw [if_neg hn]
      refine evF (n ≥ 128) (by omega) (evT (acc.length < 140737488355328) (by omega) ?_)
      rw [show n % 256 = n by omega]
      exact Ev.now _
theorem implAppendUvarint_ev (l : List Int) (n : Int) (hl : l.length ≤ 140737488350000) : Ev (fun k => impl_AppendUvarint.f k l n) (appendUvP l n) := by
  unfold impl_AppendUvarint.f appendUvP
  simp only [sliceClone_byte_eq _ (show l.length < 140737488355328 by omega), inRange_eq, Option.bind_some, decide_eq_true_eq]
  by_cases h : 0 ≤ n ∧ n ≤ 1000000000000
  · simp only [if_pos h]
    exact implAppendUvarint_l 5 n l h.1 h.2 (by simp; omega) (by omega)
  · simp only [if_neg h]
    exact Ev.now _

theorem implAppendBytes_ev (b d : List Int) (hb : b.length ≤ 1048576) (hd : d.length ≤ 1048576) : Ev (fun k => impl_AppendBytes.f k b d) (appendBytesP b d) := by
  unfold impl_AppendBytes.f appendBytesP
  have h := appendUvP_len b (d.length : Int)
  refine Ev.bind (implAppendUvarint_ev b _ (by omega)) ?_
  refine evT ((appendUvP b (d.length : Int)).length + d.length < 140737488355328) (by omega) (Ev.now _)

def ruvP (l : List Int) (off : Nat) : Nat → Nat → Int → Int × Int × Bool
  | 0, _, _ => (0, 0, false)
  | f + 1, i, n =>
    if off + i < l.length then
      (if l.getD (off + i) 0 < 128 then
        (if (l.getD (off + i) 0 = 0 ∧ 0 < i) ∨ n + l.getD (off + i) 0 % 128 * 128 ^ i > 1000000000000 then (0, 0, false) else (n + l.getD (off + i) 0 % 128 * 128 ^ i, (off : Int) + (i : Int) + 1, true))
       else ruvP l off f (i + 1) (n + l.getD (off + i) 0 % 128 * 128 ^ i))
    else (0, 0, false)
def readUvP (l : List Int) (off : Int) : Int × Int × Bool := if off < 0 then (0, 0, false) else ruvP l off.toNat 6 0 0
theorem ruvP_facts (l : List Int) (off : Nat) (f : Nat) : ∀ (i : Nat) (n : Int), 0 ≤ n →
    ((ruvP l off f i n).2.2 = true → 0 ≤ (ruvP l off f i n).1 ∧ (ruvP l off f i n).1 ≤ 1000000000000 ∧ (off : Int) < (ruvP l off f i n).2.1 ∧ (ruvP l off f i n).2.1 ≤ l.length) ∧ ((ruvP l off f i n).2.2 = false → ruvP l off f i n = (0, 0, false)) := by
  induction f with
  | zero => intro i n h0; simp [ruvP]
  | succ f ih =>
    intro i n h0
    have hp : (0 : Int) ≤ l.getD (off + i) 0 % 128 * 128 ^ i := Int.mul_nonneg (by omega) (Int.pow_nonneg (by omega))
    unfold ruvP
    by_cases h1 : off + i < l.length
    · rw [if_pos h1]
      by_cases h2 : l.getD (off + i) 0 < 128
      · rw [if_pos h2]
        by_cases h3 : (l.getD (off + i) 0 = 0 ∧ 0 < i) ∨ n + l.getD (off + i) 0 % 128 * 128 ^ i > 1000000000000
        · rw [if_pos h3]; simp
        · rw [if_neg h3]
          refine ⟨fun _ => ⟨?_, ?_, ?_, ?_⟩, fun h => by simp at h⟩
          · show 0 ≤ n + l.getD (off + i) 0 % 128 * 128 ^ i; omega
          · show n + l.getD (off + i) 0 % 128 * 128 ^ i ≤ 1000000000000; omega
          · show (off : Int) < (off : Int) + (i : Int) + 1; omega
          · show (off : Int) + (i : Int) + 1 ≤ (l.length : Int); omega
      · rw [if_neg h2]
        exact ih (i + 1) _ (by omega)
    · rw [if_neg h1]; simp
theorem readUvP_ok {l : List Int} {off : Int} (h : (readUvP l off).2.2 = true) : 0 ≤ (readUvP l off).1 ∧ (readUvP l off).1 ≤ 1000000000000 ∧ 0 ≤ off ∧ off < (readUvP l off).2.1 ∧ (readUvP l off).2.1 ≤ l.length := by
  unfold readUvP at h ⊢
  by_cases h1 : off < 0
  · rw [if_pos h1] at h; simp at h
  · rw [if_neg h1] at h ⊢
    have := (ruvP_facts l off.toNat 6 0 0 (by omega)).1 h
    omega
theorem readUvP_no {l : List Int} {off : Int} (h : (readUvP l off).2.2 = false) : readUvP l off = (0, 0, false) := by
  unfold readUvP at h ⊢
  by_cases h1 : off < 0
  · rw [if_pos h1]
  · rw [if_neg h1] at h ⊢
    exact (ruvP_facts l off.toNat 6 0 0 (by omega)).2 h
theorem pow128 (i : Nat) (h : i < 6) : (128 : Int) ^ i = 1 ∧ i = 0 ∨ (128 : Int) ^ i = 128 ∧ i = 1 ∨ (128 : Int) ^ i = 16384 ∧ i = 2 ∨ (128 : Int) ^ i = 2097152 ∧ i = 3 ∨ (128 : Int) ^ i = 268435456 ∧ i = 4 ∨ (128 : Int) ^ i = 34359738368 ∧ i = 5 := by
  obtain rfl | rfl | rfl | rfl | rfl | rfl : i = 0 ∨ i = 1 ∨ i = 2 ∨ i = 3 ∨ i = 4 ∨ i = 5 := by omega
  all_goals simp
theorem uvor {n c : Int} {i : Nat} (hi : i < 6) (h0 : 0 ≤ n) (h1 : n < 128 ^ i) (c0 : 0 ≤ c) (c1 : c < 128) : Go.bits .or .i64 n (shl .i64 c (wrap64 (7 * (i : Int)))) = n + c * 128 ^ i := by
  obtain ⟨a, rfl⟩ := Int.eq_ofNat_of_zero_le h0
  obtain ⟨b, rfl⟩ := Int.eq_ofNat_of_zero_le c0
  have e7 : wrap64 (7 * (i : Int)) = ((7 * i : Nat) : Int) := by rw [w64 (by omega) (by omega)]; omega
  have ep : (128 : Nat) ^ i = 2 ^ (7 * i) := by rw [Nat.pow_mul]
  have epI : (128 : Int) ^ i = ((2 ^ (7 * i) : Nat) : Int) := by rw [← ep]; simp
  have h2 : (2 : Nat) ^ (7 * i) ≤ 2 ^ 35 := Nat.pow_le_pow_right (by decide) (by omega)
  have hb : 2 ^ (7 * i) * b < 2 ^ 62 := by
    have : 2 ^ (7 * i) * b ≤ 2 ^ 35 * 127 := Nat.mul_le_mul h2 (by omega)
    omega
  have es : shl .i64 (b : Int) (wrap64 (7 * (i : Int))) = ((2 ^ (7 * i) * b : Nat) : Int) := by
    unfold shl
    rw [e7, Int.toNat_natCast, Nat.min_eq_left (by show 7 * i ≤ 64; omega)]
    have e : (b : Int) * 2 ^ (7 * i) = ((2 ^ (7 * i) * b : Nat) : Int) := by push_cast; exact Int.mul_comm _ _
    rw [e]
    generalize 2 ^ (7 * i) * b = m at hb
    exact hk62 _ (by omega) (by omega)
  rw [es, epI]
  rw [epI] at h1
  rw [bor (i := 7 * i) (by omega) (by omega) hb]
  rw [Nat.mul_comm (2 ^ (7 * i)) b]
  push_cast
  rfl

def readBytesP (l : List Int) (off m : Int) : List Int × Int × Bool :=
  if (readUvP l off).2.2 = true ∧ ¬ (readUvP l off).1 > m ∧ ¬ (readUvP l off).1 > (l.length : Int) - (readUvP l off).2.1 then
    ((l.take ((readUvP l off).2.1 + (readUvP l off).1).toNat).drop ((readUvP l off).2.1).toNat, (readUvP l off).2.1 + (readUvP l off).1, true)
  else ([], 0, false)
theorem readBytesP_len (l : List Int) (off m : Int) : (readBytesP l off m).1.length ≤ l.length := by
  unfold readBytesP
  split
  · simp; omega
  · simp

theorem implReadUvarint_l (l : List Int) (hl : l.length ≤ 281474976710656) (hb : ∀ x ∈ l, 0 ≤ x ∧ x ≤ 255) (off : Nat) (f : Nat) : ∀ (i : Nat) (n : Int), i + f = 6 → 0 ≤ n → n < 128 ^ i → (i = 0 ∨ off < l.length) → off ≤ 9223372036854775807 →
    Ev (fun k => impl_ReadUvarint.l0 k l (off : Int) n (i : Int)) (ruvP l off f i n) := by
  induction f with
  | zero =>
    intro i n hi h0 h1 ho hw
    refine evSucc ?_
    simp only [impl_ReadUvarint.l0]
    refine evF ((i : Int) < 6) (by omega) ?_
    refine evSucc ?_
    simp only [impl_ReadUvarint.j1, Bool.false_eq_true, if_false]
    exact Ev.now _
  | succ f ih =>
    intro i n hi h0 h1 ho hw
    have hp : (0 : Int) < 128 ^ i := Int.pow_pos (by omega)
    refine evSucc ?_
    simp only [impl_ReadUvarint.l0]
    refine evT ((i : Int) < 6) (by omega) ?_
    unfold ruvP
    by_cases hin : off + i < l.length
    · rw [if_pos hin]
      have hd : decide (wrap64 ((off : Int) + (i : Int)) < (l.length : Int)) = true := decide_eq_true (by rw [w64 (by omega) (by omega)]; omega)
      rw [hd]
      refine evSucc ?_
      simp only [impl_ReadUvarint.j1]
      simp only [if_true]
      have hc := hb (l.getD (off + i) 0) (getD_mem hin)
      have e1 : wrap64 ((off : Int) + (i : Int)) = ((off + i : Nat) : Int) := by rw [w64 (by omega) (by omega)]; omega
      have hor := uvor (n := n) (c := l.getD (off + i) 0 % 128) (i := i) (by omega) h0 h1 (by omega) (by omega)
      simp only [e1, rdn]
      have em : wrap64 (Go.bits .and .u8 (l.getD (off + i) 0) 127) = l.getD (off + i) 0 % 128 := by rw [and127b hc.1 hc.2, w64 (by omega) (by omega)]
      have em2 := and128b hc.1 hc.2
      simp only [em]
      refine evT (0 ≤ ((off + i : Nat) : Int)) (by omega) (evT (((off + i : Nat) : Int) < (l.length : Int)) (by omega) (evT (0 ≤ wrap64 (7 * (i : Int))) (by rw [w64 (by omega) (by omega)]; omega) ?_))
      simp only [hor]
      by_cases hc2 : l.getD (off + i) 0 < 128
      · rw [if_pos hc2]
        refine evT (Go.bits .and .u8 (l.getD (off + i) 0) 128 = 0) (em2.2 hc2) ?_
        clear hor
        have e2 : wrap64 (((off + i : Nat) : Int) + 1) = (off : Int) + (i : Int) + 1 := by clear em; rw [w64 (by omega) (by omega)]; omega
        rw [e2]
        clear ih ho hw hl hb h1 e1 e2 em em2
        by_cases hP : (l.getD (off + i) 0 = 0 ∧ 0 < i) ∨ n + l.getD (off + i) 0 % 128 * 128 ^ i > 1000000000000
        · rw [if_pos hP]
          repeat' (with_reducible refine evIte (fun _ => ?_) (fun _ => ?_))
          all_goals first | exact Ev.now _ | (exfalso; omega)
        · rw [if_neg hP]
          repeat' (with_reducible refine evIte (fun _ => ?_) (fun _ => ?_))
          all_goals first | exact Ev.now _ | (exfalso; omega)
      · rw [if_neg hc2]
        refine evF (Go.bits .and .u8 (l.getD (off + i) 0) 128 = 0) (fun h => hc2 (em2.1 h)) ?_
        clear hor em em2 e1
        have hwi : wrap64 ((i : Int) + 1) = ((i + 1 : Nat) : Int) := wsucc (by omega)
        rw [hwi]
        refine ih (i + 1) _ (by omega) ?_ ?_ (.inr (by omega)) hw
        · have : (0 : Int) ≤ l.getD (off + i) 0 % 128 * 128 ^ i := Int.mul_nonneg (by omega) (by omega)
          omega
        · rw [Int.pow_succ]
          have : l.getD (off + i) 0 % 128 * 128 ^ i ≤ 127 * 128 ^ i := Int.mul_le_mul_of_nonneg_right (by omega) (by omega)
          omega
    · rw [if_neg hin]
      have hd : decide (wrap64 ((off : Int) + (i : Int)) < (l.length : Int)) = false := decide_eq_false (by rw [w64 (by omega) (by omega)]; omega)
      rw [hd]
      refine evSucc ?_
      simp only [impl_ReadUvarint.j1, Bool.false_eq_true, if_false]
      exact Ev.now _

theorem implReadUvarint_ev (l : List Int) (off : Int) (hl : l.length ≤ 281474976710656) (hb : ∀ x ∈ l, 0 ≤ x ∧ x ≤ 255) (hw : off ≤ 9223372036854775807) : Ev (fun k => impl_ReadUvarint.f k l off) (readUvP l off) := by
  unfold impl_ReadUvarint.f readUvP
  by_cases h : off < 0
  · simp only [if_pos h]; exact Ev.now _
  · simp only [if_neg h]
    have := implReadUvarint_l l hl hb off.toNat 6 0 0 rfl (by omega) (by simp) (.inl rfl) (by omega)
    rw [Int.toNat_of_nonneg (by omega)] at this
    exact this

theorem implReadBytes_ev (l : List Int) (off m : Int) (hl : l.length ≤ 1048576) (hb : ∀ x ∈ l, 0 ≤ x ∧ x ≤ 255) (hw : off ≤ 9223372036854775807) : Ev (fun k => impl_ReadBytes.f k l off m) (readBytesP l off m) := by
  unfold impl_ReadBytes.f readBytesP
  refine Ev.bind (implReadUvarint_ev l off (by omega) hb hw) ?_
  by_cases hr : (readUvP l off).2.2 = true
  · have hk := readUvP_ok hr
    generalize readUvP l off = r at hr hk ⊢
    obtain ⟨n, nx, ok⟩ := r
    simp only at hr hk
    subst hr
    have e1 : wrap64 ((l.length : Int) - nx) = (l.length : Int) - nx := w64 (by omega) (by omega)
    have e2 : wrap64 (nx + n) = nx + n := w64 (by omega) (by omega)
    simp only [e1, e2, if_true, true_and]
    by_cases h1 : n > m
    · simp only [if_pos h1]
      rw [if_neg (fun h => h.1 h1)]
      exact Ev.now _
    · simp only [if_neg h1]
      by_cases h2 : n > (l.length : Int) - nx
      · simp only [if_pos h2]
        rw [if_neg (show ¬ (¬ n > m ∧ ¬ n > (l.length : Int) - nx) from fun h => h.2 h2)]
        exact Ev.now _
      · simp only [if_neg h2]
        rw [if_pos (show ¬ n > m ∧ ¬ n > (l.length : Int) - nx from ⟨h1, h2⟩)]
        refine evT (0 ≤ nx) (by omega) (evT (nx ≤ nx + n) (by omega) (evT (nx + n ≤ (l.length : Int)) (by omega) ?_))
        rw [sliceClone_byte_eq _ (by simp; omega)]
        exact Ev.now _
  · rw [if_neg (show ¬ ((readUvP l off).2.2 = true ∧ ¬ (readUvP l off).1 > m ∧ ¬ (readUvP l off).1 > (l.length : Int) - (readUvP l off).2.1) from fun h => hr h.1)]
    exact evF ((readUvP l off).2.2 = true) hr (Ev.now _)

def encodeP (l : List Int) : List Int := l.foldl appendUvP []
theorem fold_len (l : List Int) : ∀ acc : List Int, (l.foldl appendUvP acc).length ≤ acc.length + 6 * l.length := by
  induction l with
  | nil => intro acc; simp
  | cons x l ih => intro acc; have := ih (appendUvP acc x); have := appendUvP_len acc x; simp only [List.foldl_cons, List.length_cons]; omega
theorem encodeP_len (l : List Int) : (encodeP l).length ≤ 6 * l.length := by have := fold_len l []; simpa [encodeP] using this
theorem fold_take_len (l : List Int) (i : Nat) : ((l.take i).foldl appendUvP []).length ≤ 6 * l.length := by
  have h := fold_len (l.take i) []
  have : (l.take i).length ≤ l.length := by rw [List.length_take]; omega
  simp at h
  omega

theorem implEncodeInts_ev (l : List Int) (hl : l.length ≤ 1048576) : Ev (fun k => impl_EncodeInts.f k l) (encodeP l) := by
  have H := evUp (g := fun i k => impl_EncodeInts.l0 k ((l.take i).foldl appendUvP []) l (l.length : Int) (i : Int)) (R := fun _ => encodeP l) l.length ?_ ?_ 0 (Nat.zero_le _)
  · refine Ev.congr (fun k => ?_) H
    unfold impl_EncodeInts.f
    simp
  · refine Ev.step (f := fun _ => some (encodeP l)) (fun k => ?_) (Ev.now _)
    simp only [impl_EncodeInts.l0]
    rw [if_neg (by omega)]
    simp [encodeP]
  · intro i hi ih
    refine evSucc ?_
    simp only [impl_EncodeInts.l0]
    have hb := fold_take_len l i
    refine evT ((i : Int) < (l.length : Int)) (by omega) (evT (0 ≤ (i : Int)) (by omega) ?_)
    refine evT ((i : Int) < (l.length : Int)) (by omega) ?_
    rw [rdn, wsucc (by omega)]
    refine Ev.bind (implAppendUvarint_ev _ _ (by omega)) ?_
    rw [List.take_succ_eq_append_getElem hi, List.foldl_append] at ih
    rw [getD_get hi]
    exact ih

def decP (l : List Int) : Nat → Int → List Int → List Int × Int × Bool
  | 0, off, acc => (acc, off, true)
  | c + 1, off, acc => if (readUvP l off).2.2 = true then decP l c (readUvP l off).2.1 (acc ++ [(readUvP l off).1]) else ([], 0, false)
def decodeP (l : List Int) (off n : Int) : List Int × Int × Bool := if (0 ≤ n ∧ n ≤ 100) ∧ (0 ≤ off ∧ off ≤ (l.length : Int)) then decP l n.toNat off [] else ([], 0, false)
theorem decP_len (l : List Int) (c : Nat) : ∀ off acc, (decP l c off acc).1.length ≤ acc.length + c := by
  induction c with
  | zero => intro off acc; simp [decP]
  | succ c ih =>
    intro off acc
    unfold decP
    split
    · have := ih (readUvP l off).2.1 (acc ++ [(readUvP l off).1])
      simp only [List.length_append, List.length_singleton] at this
      omega
    · simp
theorem decodeP_len (l : List Int) (off n : Int) : (decodeP l off n).1.length ≤ 100 := by
  unfold decodeP
  by_cases h : (0 ≤ n ∧ n ≤ 100) ∧ (0 ≤ off ∧ off ≤ (l.length : Int))
  · rw [if_pos h]
    have := decP_len l n.toNat off []
    simp only [List.length_nil] at this
    omega
  · rw [if_neg h]; simp

theorem implDecodeInts_l (l : List Int) (hl : l.length ≤ 1048576) (hb : ∀ x ∈ l, 0 ≤ x ∧ x ≤ 255) (n : Int) (hn : n ≤ 100) (c : Nat) : ∀ (i : Nat) (off : Int) (acc : List Int), (i : Int) + c = n → acc.length ≤ i → off ≤ (l.length : Int) →
    Ev (fun k => impl_DecodeInts.l0 k l off acc n (i : Int)) (decP l c off acc) := by
  induction c with
  | zero =>
    intro i off acc hi ha ho
    refine evSucc ?_
    simp only [impl_DecodeInts.l0]
    exact evF ((i : Int) < n) (by omega) (Ev.now _)
  | succ c ih =>
    intro i off acc hi ha ho
    refine evSucc ?_
    simp only [impl_DecodeInts.l0]
    refine evT ((i : Int) < n) (by omega) ?_
    refine Ev.bind (implReadUvarint_ev l off (by omega) hb (by omega)) ?_
    unfold decP
    by_cases hr : (readUvP l off).2.2 = true
    · rw [if_pos hr]
      have hk := readUvP_ok hr
      refine evT ((readUvP l off).2.2 = true) hr (evT (acc.length < 17592186044416) (by omega) ?_)
      rw [wsucc (by omega)]
      exact ih (i + 1) _ _ (by omega) (by rw [List.length_append]; simp; omega) hk.2.2.2.2
    · rw [if_neg hr]
      exact evF ((readUvP l off).2.2 = true) hr (Ev.now _)
theorem implDecodeInts_ev (l : List Int) (off n : Int) (hl : l.length ≤ 1048576) (hb : ∀ x ∈ l, 0 ≤ x ∧ x ≤ 255) : Ev (fun k => impl_DecodeInts.f k l off n) (decodeP l off n) := by
  unfold impl_DecodeInts.f decodeP
  simp only [inRange_eq, Option.bind_some, decide_eq_true_eq]
  by_cases h1 : 0 ≤ n ∧ n ≤ 100
  · simp only [if_pos h1]
    by_cases h2 : 0 ≤ off ∧ off ≤ (l.length : Int)
    · rw [if_pos ⟨h1, h2⟩]
      refine evSucc ?_
      simp only [impl_DecodeInts.j0, decide_eq_true h2, Bool.not_true, Bool.false_eq_true, if_false]
      exact implDecodeInts_l l hl hb n h1.2 n.toNat 0 off [] (by omega) (by simp) h2.2
    · rw [if_neg (fun h => h2 h.2)]
      refine evSucc ?_
      simp only [impl_DecodeInts.j0, decide_eq_false h2, Bool.not_false, if_true]
      exact Ev.now _
  · simp only [if_neg h1]
    rw [if_neg (fun h => h1 h.1)]
    refine evSucc ?_
    simp only [impl_DecodeInts.j0, if_true]
    exact Ev.now _

theorem drop_cons {α : Type} (l : List α) (d : α) (i : Nat) (h : i < l.length) : l.drop i = l.getD i d :: l.drop (i + 1) := by
  rw [List.drop_eq_getElem_cons h, getD_get h]

theorem uv_split (p : Int) (n : Int) : n % 128 * p + n / 128 * (p * 128) = n * p := by
  have e : n = n / 128 * 128 + n % 128 := by omega
  have h : n * p = (n / 128 * 128 + n % 128) * p := by rw [← e]
  rw [h, Int.add_mul, Int.mul_assoc (n / 128) 128 p, Int.mul_comm 128 p, Int.add_comm]
theorem ruv_uvF (l post : List Int) (off : Nat) (g : Nat) : ∀ (i : Nat) (n acc : Int), l.drop (off + i) = uvF g n ++ post → 0 ≤ n → n < 128 ^ (g + 1) → (0 < n ∨ i = 0) → acc + n * 128 ^ i ≤ 1000000000000 →
    ruvP l off (g + 1) i acc = (acc + n * 128 ^ i, (off : Int) + (i : Int) + ((uvF g n).length : Int), true) := by
  induction g with
  | zero =>
    intro i n acc hd h0 h1 hz hm
    simp at h1
    have hlen : off + i < l.length := by
      rcases Nat.lt_or_ge (off + i) l.length with h | h
      · exact h
      · rw [List.drop_of_length_le h] at hd; simp [uvF] at hd
    have hg : l.getD (off + i) 0 = n := by
      rw [drop_cons l 0 _ hlen] at hd
      simp [uvF] at hd
      exact hd.1
    unfold ruvP
    rw [if_pos hlen, hg, if_pos (by omega), show n % 128 = n by omega]
    rw [if_neg (by rintro (h | h); omega; omega)]
    simp [uvF]
  | succ g ih =>
    intro i n acc hd h0 h1 hz hm
    have hlen : off + i < l.length := by
      rcases Nat.lt_or_ge (off + i) l.length with h | h
      · exact h
      · rw [List.drop_of_length_le h] at hd
        have := (uvF_len (g + 1) n).2
        have h3 := congrArg List.length hd
        simp at h3
        omega
    by_cases hn : n ≥ 128
    · have hu : uvF (g + 1) n = (n % 128 + 128) :: uvF g (n / 128) := by rw [uvF, if_pos hn]
      rw [hu, drop_cons l 0 _ hlen, List.cons_append, List.cons.injEq] at hd
      have hs := uv_split (128 ^ i) n
      have h1' : n < 128 ^ (g + 1) * 128 := by rw [← Int.pow_succ]; exact h1
      have hr := ih (i + 1) (n / 128) (acc + n % 128 * 128 ^ i) hd.2 (by omega) (by omega) (.inl (by omega)) (by rw [Int.pow_succ]; omega)
      unfold ruvP
      rw [if_pos hlen, hd.1, if_neg (by omega), show (n % 128 + 128) % 128 = n % 128 by omega, hr, hu, Int.pow_succ]
      simp only [List.length_cons, Prod.mk.injEq, and_true]
      constructor
      · omega
      · omega
    · have hu : uvF (g + 1) n = [n] := by rw [uvF, if_neg hn]
      have hg : l.getD (off + i) 0 = n := by
        rw [hu, drop_cons l 0 _ hlen] at hd
        simp at hd
        exact hd.1
      unfold ruvP
      rw [if_pos hlen, hg, if_pos (by omega), show n % 128 = n by omega]
      rw [if_neg (by rintro (h | h); omega; omega), hu]
      simp
theorem readUv_append (pre post : List Int) (n : Int) (h0 : 0 ≤ n) (h1 : n ≤ 1000000000000) : readUvP (pre ++ (uvF 5 n ++ post)) (pre.length : Int) = (n, (pre.length : Int) + ((uvF 5 n).length : Int), true) := by
  unfold readUvP
  rw [if_neg (by omega), Int.toNat_natCast]
  have h := ruv_uvF (pre ++ (uvF 5 n ++ post)) post pre.length 5 0 n 0 (by simp) h0 (by simp; omega) (.inr rfl) (by simp; omega)
  rw [h]
  simp
theorem readUv_end (l : List Int) : readUvP l (l.length : Int) = (0, 0, false) := by
  unfold readUvP
  rw [if_neg (by omega), Int.toNat_natCast]
  unfold ruvP
  rw [if_neg (by omega)]

theorem fold_app (l : List Int) : ∀ acc : List Int, (∀ x ∈ l, 0 ≤ x ∧ x ≤ 1000000000000) → l.foldl appendUvP acc = acc ++ (l.map (uvF 5)).flatten := by
  induction l with
  | nil => intro acc _; simp
  | cons x l ih =>
    intro acc h
    have hx := h x (by simp)
    rw [List.foldl_cons, ih _ (fun y hy => h y (by simp [hy]))]
    unfold appendUvP
    rw [if_pos hx]
    simp
theorem dec_enc_ints (l : List Int) : ∀ (pre acc : List Int), (∀ x ∈ l, 0 ≤ x ∧ x ≤ 1000000000000) → decP (pre ++ (l.map (uvF 5)).flatten) l.length (pre.length : Int) acc = (acc ++ l, ((pre ++ (l.map (uvF 5)).flatten).length : Int), true) := by
  induction l with
  | nil => intro pre acc _; simp [decP]
  | cons x l ih =>
    intro pre acc h
    have hx := h x (by simp)
    have hr := readUv_append pre ((l.map (uvF 5)).flatten) x hx.1 hx.2
    have e : pre ++ ((x :: l).map (uvF 5)).flatten = pre ++ (uvF 5 x ++ (l.map (uvF 5)).flatten) := by simp
    rw [e, List.length_cons, decP, hr]
    simp only [if_true]
    have h2 := ih (pre ++ uvF 5 x) (acc ++ [x]) (fun y hy => h y (by simp [hy]))
    rw [List.append_assoc, List.length_append] at h2
    have e3 : ((pre.length + (uvF 5 x).length : Nat) : Int) = (pre.length : Int) + ((uvF 5 x).length : Int) := by omega
    rw [e3] at h2
    rw [h2]
    simp
theorem dec_more (l : List Int) (c : Nat) : ∀ off acc v nx, decP l c off acc = (v, nx, true) → nx = (l.length : Int) → (decP l (c + 1) off acc).2.2 = false := by
  induction c with
  | zero =>
    intro off acc v nx h hn
    simp only [decP, Prod.mk.injEq] at h
    have ho : off = (l.length : Int) := by omega
    rw [decP, ho, readUv_end]
    simp
  | succ c ih =>
    intro off acc v nx h hn
    rw [decP] at h ⊢
    by_cases hr : (readUvP l off).2.2 = true
    · rw [if_pos hr] at h ⊢
      exact ih _ _ v nx h hn
    · rw [if_neg hr]
theorem decode_encode (l : List Int) (hn : l.length ≤ 99) (h : ∀ x ∈ l, 0 ≤ x ∧ x ≤ 1000000000000) : decodeP (encodeP l) 0 (l.length : Int) = (l, ((encodeP l).length : Int), true) ∧ (decodeP (encodeP l) 0 ((l.length : Int) + 1)).2.2 = false := by
  have e : encodeP l = [] ++ (l.map (uvF 5)).flatten := by unfold encodeP; rw [fold_app l [] h]
  have d := dec_enc_ints l [] [] h
  rw [← e] at d
  simp only [List.length_nil, List.nil_append] at d
  unfold decodeP
  constructor
  · rw [if_pos (by omega), Int.toNat_natCast]
    exact d
  · rw [if_pos (by omega), show ((l.length : Int) + 1).toNat = l.length + 1 by omega]
    exact dec_more _ _ _ _ _ _ d rfl

theorem and255 (x : Int) : 0 ≤ Go.bits .and .i64 x 255 ∧ Go.bits .and .i64 x 255 ≤ 255 := by
  have e : Go.bits .and .i64 x ((255 : Nat) : Int) = IntKind.i64.wrap (((BitVec.ofInt 64 x).toNat &&& 255 : Nat) : Int) := by
    simp only [Go.bits, BitVec.ofInt_natCast, BitVec.toNat_and, BitVec.toNat_ofNat]
    rfl
  have h : ((BitVec.ofInt 64 x).toNat &&& 255) ≤ 255 := Nat.and_le_right
  have e2 : Go.bits .and .i64 x 255 = (((BitVec.ofInt 64 x).toNat &&& 255 : Nat) : Int) := by
    rw [← hk62 (((BitVec.ofInt 64 x).toNat &&& 255 : Nat) : Int) (by omega) (by omega)]
    exact e
  rw [e2]
  omega
theorem byte_ex (b : List Int) (i h : Int) (hl : b.length ≤ 1048576) (h0 : 0 ≤ i) (h1 : i ≤ b.length) : ∃ v i' h', spec_l1Byte.f b i h = some (v, i', h') ∧ 0 ≤ v ∧ v ≤ 255 ∧ 0 ≤ i' ∧ i' ≤ b.length := by
  unfold spec_l1Byte.f
  by_cases hi : i < (b.length : Int)
  · rw [if_pos hi, if_pos h0, w64 (x := i + 1) (by omega) (by omega)]
    exact ⟨_, _, _, rfl, (and255 _).1, (and255 _).2, by omega, by omega⟩
  · rw [if_neg hi]
    exact ⟨_, _, _, rfl, (and255 _).1, (and255 _).2, h0, h1⟩
theorem below_ex (b : List Int) (i h n : Int) (hl : b.length ≤ 1048576) (h0 : 0 ≤ i) (h1 : i ≤ b.length) : ∃ v i' h', spec_l1Below.f b i h n = some (v, i', h') ∧ (0 < n → 0 ≤ v ∧ v < n) ∧ (n ≤ 0 → v = 0) ∧ 0 ≤ i' ∧ i' ≤ b.length := by
  unfold spec_l1Below.f
  by_cases hn : n ≤ 0
  · rw [if_pos hn]
    exact ⟨_, _, _, rfl, fun h => by omega, fun _ => rfl, h0, h1⟩
  rw [if_neg hn]
  by_cases hn2 : n ≤ 256
  · rw [if_pos hn2]
    obtain ⟨v, i1, g1, e1, a1, b1, c1, d1⟩ := byte_ex b i h hl h0 h1
    rw [e1]
    simp only [Option.bind_some]
    rw [if_neg (by omega)]
    refine ⟨_, _, _, rfl, fun _ => ?_, fun h => by omega, c1, d1⟩
    rw [Int.tmod_eq_emod_of_nonneg a1]
    exact ⟨Int.emod_nonneg _ (by omega), Int.emod_lt_of_pos _ (by omega)⟩
  · rw [if_neg hn2]
    obtain ⟨v, i1, g1, e1, a1, b1, c1, d1⟩ := byte_ex b i h hl h0 h1
    obtain ⟨v2, i2, g2, e2, a2, b2, c2, d2⟩ := byte_ex b i1 g1 hl c1 d1
    obtain ⟨v3, i3, g3, e3, a3, b3, c3, d3⟩ := byte_ex b i2 g2 hl c2 d2
    rw [e1]
    simp only [Option.bind_some]
    rw [e2]
    simp only [Option.bind_some]
    rw [e3]
    simp only [Option.bind_some]
    rw [if_neg (by omega), w64 (x := v * 65536) (by omega) (by omega), w64 (x := v2 * 256) (by omega) (by omega), w64 (x := v * 65536 + v2 * 256) (by omega) (by omega), w64 (by omega) (by omega)]
    refine ⟨_, _, _, rfl, fun _ => ?_, fun h => by omega, c3, d3⟩
    rw [Int.tmod_eq_emod_of_nonneg (by omega)]
    exact ⟨Int.emod_nonneg _ (by omega), Int.emod_lt_of_pos _ (by omega)⟩
theorem new_ev (l : List Int) (hl : l.length ≤ 1048576) : ∃ h, Ev (fun k => spec_l1New.f k l) (l, 0, h) := by
  unfold spec_l1New.f
  have H : ∀ d i (x : Int), i + d = l.length → ∃ h, Ev (fun k => spec_l1New.l0 k l x (i : Int)) (l, 0, h) := by
    intro d
    induction d with
    | zero =>
      intro i x hi
      refine ⟨x, evSucc ?_⟩
      simp only [spec_l1New.l0]
      exact evF ((i : Int) < (l.length : Int)) (by omega) (Ev.now _)
    | succ d ih =>
      intro i x hi
      by_cases h4 : (i : Int) < 4000
      · obtain ⟨h, hh⟩ := ih (i + 1) (Go.bits .and .i64 (wrap64 ((wrap64 ((wrap64 (x * 137)) + (wrap64 (rd l (i : Int))))) + 11)) 1073741823) (by omega)
        refine ⟨h, evSucc ?_⟩
        simp only [spec_l1New.l0]
        refine evT ((i : Int) < (l.length : Int)) (by omega) (evT ((i : Int) < 4000) h4 (evT (0 ≤ (i : Int)) (by omega) ?_))
        rw [wsucc (by omega)]
        exact hh
      · refine ⟨x, evSucc ?_⟩
        simp only [spec_l1New.l0]
        exact evT ((i : Int) < (l.length : Int)) (by omega) (evF ((i : Int) < 4000) h4 (Ev.now _))
  exact H l.length 0 _ (by omega)

theorem bytes_ex (b : List Int) (i h n : Int) (hl : b.length ≤ 1048576) (h0 : 0 ≤ i) (h1 : i ≤ b.length) (hn : n ≤ 1000) : ∃ v i' h', Ev (fun k => spec_l1Bytes.f k b i h n) (v, i', h') ∧ v.length = n.toNat ∧ (∀ x ∈ v, 0 ≤ x ∧ x ≤ 255) ∧ 0 ≤ i' ∧ i' ≤ b.length := by
  unfold spec_l1Bytes.f
  have H : ∀ (d j : Nat) (acc : List Int) (i h : Int), j + d = n.toNat → acc.length = j → (∀ x ∈ acc, 0 ≤ x ∧ x ≤ 255) → 0 ≤ i → i ≤ b.length →
      ∃ v i' h', Ev (fun k => spec_l1Bytes.l0 k n acc (j : Int) b i h) (v, i', h') ∧ v.length = n.toNat ∧ (∀ x ∈ v, 0 ≤ x ∧ x ≤ 255) ∧ 0 ≤ i' ∧ i' ≤ b.length := by
    intro d
    induction d with
    | zero =>
      intro j acc i h hj ha hr h0 h1
      refine ⟨acc, i, h, evSucc ?_, by omega, hr, h0, h1⟩
      simp only [spec_l1Bytes.l0]
      exact evF ((j : Int) < n) (by omega) (Ev.now _)
    | succ d ih =>
      intro j acc i h hj ha hr h0 h1
      obtain ⟨v, i1, g1, e1, a1, b1, c1, d1⟩ := byte_ex b i h hl h0 h1
      obtain ⟨w, i2, g2, e2, l2, r2, c2, d2⟩ := ih (j + 1) (acc ++ [v % 256]) i1 g1 (by omega) (by simp [ha]) (fun x hx => by
        rcases List.mem_append.1 hx with hx | hx
        · exact hr x hx
        · simp at hx; omega) c1 d1
      refine ⟨w, i2, g2, evSucc ?_, l2, r2, c2, d2⟩
      simp only [spec_l1Bytes.l0, e1, Option.bind_some]
      refine evT ((j : Int) < n) (by omega) (evT (acc.length < 140737488355328) (by omega) ?_)
      rw [wsucc (by omega)]
      exact e2
  exact H n.toNat 0 [] i h (by omega) rfl (fun x hx => by simp at hx) h0 h1

theorem big_eq (l : List Int) : laws_big.f l = some (decide ((l.length : Int) > 1048576)) := rfl

theorem at_ex (l : List Int) (i : Int) (hb : ∀ x ∈ l, 0 ≤ x ∧ x ≤ 255) (hl : l.length ≤ 1048576) (h0 : 0 ≤ i) (h1 : i ≤ 1000) : ∃ v, laws_at.f l i = some v ∧ 0 ≤ v ∧ v ≤ 255 := by
  unfold laws_at.f
  by_cases h : i < (l.length : Int)
  · rw [if_pos h, if_pos h0]
    have hc := hb (l.getD i.toNat 0) (getD_mem (by omega))
    refine ⟨_, rfl, ?_⟩
    unfold rd
    rw [w64 (by omega) (by omega)]
    exact hc
  · rw [if_neg h]
    refine ⟨_, rfl, ?_⟩
    rw [w64 (x := i * 31) (by omega) (by omega), w64 (x := (l.length : Int) * 7) (by omega) (by omega), w64 (by omega) (by omega), Int.tmod_eq_emod_of_nonneg (by omega)]
    omega

theorem sameBytes_ev (a b : List Int) (hl : a.length ≤ 281474976710656) : Ev (fun k => laws_sameBytes.f k a b) (decide (a = b)) := by
  by_cases hn : a.length = b.length
  · have H : Ev (fun k => laws_sameBytes.l0 k a b 0) (decide (a = b)) := by
      have := evUp (g := fun i k => laws_sameBytes.l0 k a b (i : Int)) (R := fun i => decide (a.drop i = b.drop i)) a.length ?_ ?_ 0 (Nat.zero_le _)
      · simpa using this
      · refine Ev.step (f := fun _ => some true) (fun k => ?_) (by simpa [hn] using Ev.now true)
        simp only [laws_sameBytes.l0]
        rw [if_neg (by omega)]
      · intro i hi ih
        have hd := drop_eq_iff a b 0 i hi (by omega)
        by_cases he : a.getD i 0 = b.getD i 0
        · refine Ev.step (f := fun k => laws_sameBytes.l0 k a b ((i + 1 : Nat) : Int)) (fun k => ?_) ?_
          · simp only [laws_sameBytes.l0]
            rw [if_pos (by omega), if_pos (by omega), if_pos (by omega), rdn, rdn, if_pos he, wsucc (by omega)]
          · have e : decide (a.drop i = b.drop i) = decide (a.drop (i + 1) = b.drop (i + 1)) := decide_eq_decide.mpr (hd.trans (and_iff_right he))
            simp only [e]
            exact ih
        · refine Ev.step (f := fun _ => some false) (fun k => ?_) ?_
          · simp only [laws_sameBytes.l0]
            rw [if_pos (by omega), if_pos (by omega), if_pos (by omega), rdn, rdn, if_neg he]
          · have e : decide (a.drop i = b.drop i) = false := decide_eq_false (fun h => he (hd.mp h).1)
            simp only [e]
            exact Ev.now false
    refine Ev.congr (fun k => ?_) H
    unfold laws_sameBytes.f
    rw [if_pos (by omega)]
  · have e : decide (a = b) = false := decide_eq_false (fun h => hn (by rw [h]))
    rw [e]
    refine Ev.congr (f := fun _ => some false) (fun k => ?_) (Ev.now false)
    unfold laws_sameBytes.f
    rw [if_neg (by omega)]

theorem sameBytes_same (a : List Int) (hl : a.length ≤ 281474976710656) : Ev (fun k => laws_sameBytes.f k a a) true := by simpa using sameBytes_ev a a hl

theorem sameInts_ev (a b : List Int) (hl : a.length ≤ 281474976710656) : Ev (fun k => laws_sameInts.f k a b) (decide (a = b)) := by
  by_cases hn : a.length = b.length
  · have H : Ev (fun k => laws_sameInts.l0 k a b 0) (decide (a = b)) := by
      have := evUp (g := fun i k => laws_sameInts.l0 k a b (i : Int)) (R := fun i => decide (a.drop i = b.drop i)) a.length ?_ ?_ 0 (Nat.zero_le _)
      · simpa using this
      · refine Ev.step (f := fun _ => some true) (fun k => ?_) (by simpa [hn] using Ev.now true)
        simp only [laws_sameInts.l0]
        rw [if_neg (by omega)]
      · intro i hi ih
        have hd := drop_eq_iff a b 0 i hi (by omega)
        by_cases he : a.getD i 0 = b.getD i 0
        · refine Ev.step (f := fun k => laws_sameInts.l0 k a b ((i + 1 : Nat) : Int)) (fun k => ?_) ?_
          · simp only [laws_sameInts.l0]
            rw [if_pos (by omega), if_pos (by omega), if_pos (by omega), rdn, rdn, if_pos he, wsucc (by omega)]
          · have e : decide (a.drop i = b.drop i) = decide (a.drop (i + 1) = b.drop (i + 1)) := decide_eq_decide.mpr (hd.trans (and_iff_right he))
            simp only [e]
            exact ih
        · refine Ev.step (f := fun _ => some false) (fun k => ?_) ?_
          · simp only [laws_sameInts.l0]
            rw [if_pos (by omega), if_pos (by omega), if_pos (by omega), rdn, rdn, if_neg he]
          · have e : decide (a.drop i = b.drop i) = false := decide_eq_false (fun h => he (hd.mp h).1)
            simp only [e]
            exact Ev.now false
    refine Ev.congr (fun k => ?_) H
    unfold laws_sameInts.f
    rw [if_pos (by omega)]
  · have e : decide (a = b) = false := decide_eq_false (fun h => hn (by rw [h]))
    rw [e]
    refine Ev.congr (f := fun _ => some false) (fun k => ?_) (Ev.now false)
    unfold laws_sameInts.f
    rw [if_neg (by omega)]

theorem sameInts_same (a : List Int) (hl : a.length ≤ 281474976710656) : Ev (fun k => laws_sameInts.f k a a) true := by simpa using sameInts_ev a a hl

theorem enc_small (acc : List Int) (h : acc.length ≤ 99) : (encodeP acc).length ≤ 1048576 := by have := encodeP_len acc; omega
set_option maxHeartbeats 1000000 in
theorem byteStrings_loop (l : List Int) (hb : ∀ x ∈ l, 0 ≤ x ∧ x ≤ 255) (hl : l.length ≤ 1048576) : Ev (fun k => laws_FnByteStrings.l0 k l [] 0) true := by
  obtain ⟨a0, ha0, q0, q1⟩ := at_ex l 0 hb hl (by omega) (by omega)
  obtain ⟨t, ht, t0, t1⟩ : ∃ t : Int, (∀ _ : Unit, Int.tmod a0 6 = t) ∧ 0 ≤ t ∧ t ≤ 5 := ⟨a0 % 6, fun _ => Int.tmod_eq_emod_of_nonneg q0, by omega, by omega⟩
  clear q0 q1
  have H : ∀ (n i : Nat) (acc : List Int), (i : Int) + n = t → acc.length = i → (∀ x ∈ acc, 0 ≤ x ∧ x ≤ 1000000000000) → Ev (fun k => laws_FnByteStrings.l0 k l acc (i : Int)) true := by
    intro n
    induction n with
    | zero =>
      intro i acc hi ha hr
      have h5 : acc.length ≤ 5 := by omega
      have hle := enc_small acc (by omega)
      have hde := decode_encode acc (by omega) hr
      have her : ∀ x ∈ encodeP acc, 0 ≤ x ∧ x ≤ 255 := by
        intro x hx'
        unfold encodeP at hx'
        rw [fold_app acc [] hr, List.nil_append] at hx'
        obtain ⟨y, hy, hxy⟩ := List.mem_flatten.1 hx'
        obtain ⟨z, hz, rfl⟩ := List.mem_map.1 hy
        have hz2 := hr z hz
        exact uvF_range 5 z hz2.1 (by simp; omega) x hxy
      refine evSucc ?_
      simp only [laws_FnByteStrings.l0, ha0, Option.bind_some, ht ()]
      refine evF ((i : Int) < t) (by omega) ?_
      refine Ev.bind (implEncodeInts_ev acc (by omega)) ?_
      refine Ev.bind (implDecodeInts_ev (encodeP acc) 0 (acc.length : Int) hle her) ?_
      have hw2 : wrap64 ((acc.length : Int) + 1) = (acc.length : Int) + 1 := w64 (by omega) (by omega)
      simp only [hw2]
      refine Ev.bind (implDecodeInts_ev (encodeP acc) 0 ((acc.length : Int) + 1) hle her) ?_
      rw [hde.1, hde.2]
      simp only [if_true]
      refine Ev.bind (sameInts_same acc (by omega)) ?_
      simp only [if_true, Bool.not_false]
      exact Ev.now _
    | succ n ih =>
      intro i acc hi ha hr
      have i4 : i ≤ 5 := by omega
      have hacc : acc.length < 17592186044416 := by rw [ha]; exact Nat.lt_of_le_of_lt i4 (by decide)
      obtain ⟨a1, ha1, q2, q3⟩ := at_ex l ((i : Int) + 1) hb hl (by omega) (by omega)
      obtain ⟨a2, ha2, q4, q5⟩ := at_ex l ((i : Int) + 2) hb hl (by omega) (by omega)
      obtain ⟨a3, ha3, q6, q7⟩ := at_ex l ((i : Int) + 3) hb hl (by omega) (by omega)
      have i5 : (i : Int) ≤ 5 := by omega
      have w1 : wrap64 ((i : Int) + 1) = (i : Int) + 1 := w64 (by omega) (by omega)
      have w2 : wrap64 ((i : Int) + 2) = (i : Int) + 2 := w64 (by omega) (by omega)
      have w3 : wrap64 ((i : Int) + 3) = (i : Int) + 3 := w64 (by omega) (by omega)
      have p0 : 0 ≤ a1 * a2 := Int.mul_nonneg q2 q4
      have p1 : a1 * a2 ≤ 255 * 255 := Int.mul_le_mul (by omega) (by omega) q4 (by omega)
      have p2 : 0 ≤ a1 * a2 * a3 := Int.mul_nonneg p0 q6
      have p3 : a1 * a2 * a3 ≤ 255 * 255 * 255 := Int.mul_le_mul p1 (by omega) q6 (by omega)
      have hv : wrap64 (wrap64 (a1 * a2) * a3) = a1 * a2 * a3 := by rw [w64 (x := a1 * a2) (by omega) (by omega), w64 (by omega) (by omega)]
      have ih' := ih (i + 1) (acc ++ [a1 * a2 * a3]) (by omega) (by simp [ha]) (fun x hx' => by
        rcases List.mem_append.1 hx' with h1 | h1
        · exact hr x h1
        · simp at h1; omega)
      refine evSucc ?_
      simp only [laws_FnByteStrings.l0, ha0, w1, w2, w3, ha1, ha2, ha3, hv, Option.bind_some, ht ()]
      refine evT ((i : Int) < t) (by omega) (evT (acc.length < 17592186044416) hacc ?_)
      have e9 : ((i + 1 : Nat) : Int) = (i : Int) + 1 := by omega
      rw [e9] at ih'
      exact ih'
  exact H t.toNat 0 [] (by omega) rfl (fun x hx' => by simp at hx')

theorem FnByteStrings : laws_FnByteStrings.Pure := by
  intro l _ _ hb0
  refine Ev.rounds ?_
  unfold laws_FnByteStrings.f
  simp only [big_eq, Option.bind_some, decide_eq_true_eq]
  refine evIte (fun _ => Ev.now _) (fun hbig => ?_)
  have hl : l.length ≤ 1048576 := by omega
  obtain ⟨h, hnew⟩ := new_ev l hl

  have hb : ∀ x ∈ l, 0 ≤ x ∧ x ≤ 255 := fun x hx => wfB (hb0 x hx)
  have hdraw : ∃ b d, Ev (fun k => spec_DrawAppendBytes.f k l) (b, d) ∧ b.length ≤ 2 ∧ d.length ≤ 5 ∧ (∀ x ∈ b, 0 ≤ x ∧ x ≤ 255) ∧ (∀ x ∈ d, 0 ≤ x ∧ x ≤ 255) := by
    unfold spec_DrawAppendBytes.f
    obtain ⟨m, i1, g1, e1, a1, _, c1, d1⟩ := below_ex l 0 h 3 hl (by omega) (by omega)
    have a1 := a1 (by omega)
    obtain ⟨b, i2, g2, e2, l2, r2, c2, d2⟩ := bytes_ex l i1 g1 m hl c1 d1 (by omega)
    obtain ⟨m2, i3, g3, e3, a3, _, c3, d3⟩ := below_ex l i2 g2 6 hl c2 d2
    have a3 := a3 (by omega)
    obtain ⟨d, i4, g4, e4, l4, r4, c4, d4⟩ := bytes_ex l i3 g3 m2 hl c3 d3 (by omega)
    refine ⟨b, d, Ev.bind hnew ?_, by omega, by omega, r2, r4⟩
    simp only [e1, Option.bind_some]
    refine Ev.bind e2 ?_
    simp only [e3, Option.bind_some]
    exact Ev.bind e4 (Ev.now _)
  obtain ⟨b, d, hd, hlb, hld, hbb, hbd⟩ := hdraw
  refine Ev.bind hd ?_
  have hx : appendBytesP b d = b ++ (uvF 5 (d.length : Int) ++ d) := by
    unfold appendBytesP appendUvP
    rw [if_pos (by omega), List.append_assoc]
  have hu : uvF 5 (d.length : Int) = [(d.length : Int)] := by unfold uvF; rw [if_neg (by omega)]
  have hlen : (appendBytesP b d).length = b.length + 1 + d.length := by rw [hx, hu]; simp; omega
  have hrx : ∀ x ∈ appendBytesP b d, 0 ≤ x ∧ x ≤ 255 := by
    intro x hx'
    rw [hx, hu] at hx'
    rcases List.mem_append.1 hx' with h1 | h1
    · exact hbb x h1
    · rcases List.mem_append.1 h1 with h2 | h2
      · simp at h2; omega
      · exact hbd x h2
  have hread := readUv_append b d (d.length : Int) (by omega) (by omega)
  rw [← hx, hu] at hread
  simp only [List.length_singleton] at hread
  have hr1 : readBytesP (appendBytesP b d) (b.length : Int) (d.length : Int) = (d, ((appendBytesP b d).length : Int), true) := by
    unfold readBytesP
    rw [hread]
    simp only [true_and]
    rw [if_pos (by rw [hlen]; omega)]
    have e1 : ((b.length : Int) + ((1 : Nat) : Int) + (d.length : Int)).toNat = (appendBytesP b d).length := by rw [hlen]; omega
    have e2 : ((b.length : Int) + ((1 : Nat) : Int)).toNat = b.length + 1 := by omega
    rw [e1, e2, List.take_length]
    have e3 : (appendBytesP b d).drop (b.length + 1) = d := by rw [hx, hu, ← List.append_assoc, List.drop_left' (by simp)]
    rw [e3, hlen]
    simp only [Prod.mk.injEq, and_true, true_and]
    omega
  have hr2 : (readBytesP (appendBytesP b d) (b.length : Int) ((d.length : Int) - 1)).2.2 = false := by
    unfold readBytesP
    rw [hread]
    simp only [true_and]
    rw [if_neg (by omega)]
  refine Ev.bind (implAppendBytes_ev b d (by omega) (by omega)) ?_
  refine Ev.bind (implReadBytes_ev (appendBytesP b d) (b.length : Int) (d.length : Int) (by omega) hrx (by omega)) ?_
  have hw : wrap64 ((d.length : Int) - 1) = (d.length : Int) - 1 := w64 (by omega) (by omega)
  simp only [hw]
  refine Ev.bind (implReadBytes_ev (appendBytesP b d) (b.length : Int) ((d.length : Int) - 1) (by omega) hrx (by omega)) ?_
  rw [hr1, hr2]
  simp only [if_true]
  refine Ev.bind (sameBytes_same d (by omega)) ?_
  simp only [if_true]
  refine evSucc ?_
  simp only [laws_FnByteStrings.j0, Bool.false_eq_true, if_false]
  exact byteStrings_loop l hb hl

end Go.Proofs.Ytodklionpjjmfaa.Pure
