/- The law FnExactReadBytes returns true for all arguments: the program's ReadBytes and the reference's agree, and the bytes that are given read as before; what is handed back is a list of its own. It holds for every input that the statement admits; no condition is added. -/
import Derived.Test.YtmdmgilhcecanaaQFnExactReadBytesx3
import Derived.Test.YtmdmgilhcecanaaWSized
namespace Go.Proofs.Ytmdmgilhcecanaa.PrintWords
open Go.ChangeShapes Go.WideShapes in
theorem sized_ints {H : Type} {enc : TypeId × Value → H} {P : Program} {W : World} {base : Nat} {spare : Nat → Bool} {held : Bool} {t e : TypeId} {k : IntKind} {a : Option Addr} {len cap : Nat} {d : DataW H} {ps : List MemPlace} {ts : List TypeId} {ds : List (DataW H)} {j : Nat}
    (h1 : (DataW.weightsEach P ts ds).all (· ≤ reachBytes) = true) (h2 : ts[j]? = some t) (h3 : ds[j]? = some d) (h4 : P.underlying t = some (.slice e)) (h5 : P.underlying e = some (.int k)) (h6 : P.cellsOf e = 1) {B : Nat} (h7 : P.bytesOf e = B)
    (h8 : DataW.Trod enc P W base spare held t (.slice a len cap) d ps) : len * B ≤ 140737488351232 := Go.Proofs.YtmdmgilhcecanaaW.PrintWords.sized_ints h1 h2 h3 h4 h5 h6 h7 h8
end Go.Proofs.Ytmdmgilhcecanaa.PrintWords
namespace Go.Proofs.Ytmdmgilhcecanaa.Pure
open Go.RowKit Go.Proofs.Ytmdmgilhcecanaa.QFnExactReadBytes Go.Proofs.YtmdmgilhcecanaaW.PrintWords Go.Proofs.YtmdmgilhcecanaaW.PrintLast Go.Proofs.YtmdmgilhcecanaaW.PrintMore
set_option linter.unusedVariables false
set_option linter.unusedSimpArgs false

theorem w64 {x : Int} (h0 : -9223372036854775808 ≤ x) (h1 : x ≤ 9223372036854775807) : wrap64 x = x := by unfold wrap64; omega
theorem wsucc {i : Nat} (h : i < 4611686018427387904) : wrap64 ((i : Int) + 1) = ((i + 1 : Nat) : Int) := by unfold wrap64; omega
theorem wfI {x : Int} (h : (Lit.int .i64 x).wf = true) : -9223372036854775808 ≤ x ∧ x ≤ 9223372036854775807 := by
  simp only [Lit.wf, Bool.and_eq_true, decide_eq_true_eq] at h
  exact h
theorem wfB {x : Int} (h : (Lit.int .u8 x).wf = true) : 0 ≤ x ∧ x ≤ 255 := by
  simp only [Lit.wf, Bool.and_eq_true, decide_eq_true_eq] at h
  exact h
theorem rdn (l : List Int) (i : Nat) : rd l (i : Int) = l.getD i 0 := by simp [rd]
theorem evOne {α : Type} {f : Option α} {r : α} (h : f = some r) : Ev (fun _ => f) r := ⟨0, fun _ _ => h⟩
theorem evUp {ρ : Type} {g : Nat → Nat → Option ρ} {R : Nat → ρ} (n : Nat) (last : Ev (g n) (R n)) (step : ∀ i, i < n → Ev (g (i + 1)) (R (i + 1)) → Ev (g i) (R i)) : ∀ i, i ≤ n → Ev (g i) (R i) := by
  intro i hi
  obtain ⟨d, hd⟩ : ∃ d, i + d = n := ⟨n - i, by omega⟩
  induction d generalizing i with
  | zero => obtain rfl : i = n := by omega
            exact last
  | succ d ih => exact step i (by omega) (ih (i + 1) (by omega) (by omega))
theorem getD_mem {α : Type} {l : List α} {i : Nat} {d : α} (h : i < l.length) : l.getD i d ∈ l := by
  rw [List.getD_eq_getElem?_getD, List.getElem?_eq_getElem h]; exact List.getElem_mem h
theorem getD_get {α : Type} {l : List α} {i : Nat} {d : α} (h : i < l.length) : l.getD i d = l[i] := by
  rw [List.getD_eq_getElem?_getD, List.getElem?_eq_getElem h]; rfl
theorem take_set_rep {α : Type} (l : List α) (z d : α) (i : Nat) (h : i < l.length) : (l.take i ++ List.replicate (l.length - i) z).set i (l.getD i d) = l.take (i + 1) ++ List.replicate (l.length - (i + 1)) z := by
  obtain ⟨m, hm⟩ : ∃ m, l.length - i = m + 1 := ⟨l.length - i - 1, by omega⟩
  have hm' : l.length - (i + 1) = m := by omega
  rw [hm, hm', List.set_append_right _ _ (by rw [List.length_take]; omega), List.length_take, Nat.min_eq_left (by omega), Nat.sub_self, List.replicate_succ, List.set_cons_zero, getD_get h, List.take_succ_eq_append_getElem h, List.append_assoc, List.singleton_append]
theorem drop_eq_iff {α : Type} (a b : List α) (d : α) (i : Nat) (ha : i < a.length) (hb : i < b.length) : (a.drop i = b.drop i) ↔ (a.getD i d = b.getD i d ∧ a.drop (i + 1) = b.drop (i + 1)) := by
  rw [List.drop_eq_getElem_cons ha, List.drop_eq_getElem_cons hb, List.cons.injEq, getD_get ha, getD_get hb]
theorem take_rep_len {α : Type} (l : List α) (z : α) (i : Nat) (h : i ≤ l.length) : (l.take i ++ List.replicate (l.length - i) z).length = l.length := by
  simp; omega

theorem hk62 : ∀ n : Int, 0 ≤ n → n < 2 ^ 62 → IntKind.i64.wrap n = n := by intro n h0 h1; rw [IntKind.wrap_i64]; omega
theorem hk8 : ∀ n : Int, 0 ≤ n → n < 2 ^ 8 → IntKind.u8.wrap n = n := by intro n h0 h1; rw [IntKind.wrap_u8]; omega
theorem and127 {n : Int} (h0 : 0 ≤ n) (h1 : n ≤ 1000000000000) : Go.bits .and .i64 n 127 = n % 128 := by
  have h := bits_mask .i64 62 (by decide) hk62 7 (by decide) n h0 (by omega)
  simpa using h
theorem and127b {n : Int} (h0 : 0 ≤ n) (h1 : n ≤ 255) : Go.bits .and .u8 n 127 = n % 128 := by
  have h := bits_mask .u8 8 (by decide) hk8 7 (by decide) n h0 (by omega)
  simpa using h
set_option maxRecDepth 20000 in
theorem and128b {n : Int} (h0 : 0 ≤ n) (h1 : n ≤ 255) : (Go.bits .and .u8 n 128 = 0) ↔ n < 128 := by
  obtain ⟨a, rfl⟩ := Int.eq_ofNat_of_zero_le h0
  have ha : a < 256 := by omega
  have h := (bits_nat .u8 8 (by decide) hk8 a 128 (by omega) (by omega)).1
  have h2 : ∀ a : Nat, a < 256 → ((a &&& 128 = 0) ↔ a < 128) := by decide
  have h3 := h2 a ha
  have e : Go.bits .and .u8 (a : Int) 128 = ((a &&& 128 : Nat) : Int) := h
  rw [e]
  omega
theorem bor {a c i : Nat} (ha : a < 2 ^ i) (hi : i ≤ 61) (hc : 2 ^ i * c < 2 ^ 62) : Go.bits .or .i64 (a : Int) ((2 ^ i * c : Nat) : Int) = ((a + 2 ^ i * c : Nat) : Int) := by
  have h2 : (2 : Nat) ^ i ≤ 2 ^ 61 := Nat.pow_le_pow_right (by decide) hi
  have h := (bits_nat .i64 62 (by decide) hk62 a (2 ^ i * c) (by omega) hc).2
  rw [h, Nat.or_comm, ← Nat.two_pow_add_eq_or_of_lt ha c, Nat.add_comm]
theorem uvbyte {n : Int} (h0 : 0 ≤ n) (h1 : n ≤ 1000000000000) : (Go.bits .or .i64 (Go.bits .and .i64 n 127) 128) % 256 = n % 128 + 128 := by
  rw [and127 h0 h1]
  obtain ⟨a, ha⟩ := Int.eq_ofNat_of_zero_le (show 0 ≤ n % 128 by omega)
  have h := bor (a := a) (c := 1) (i := 7) (by omega) (by omega) (by omega)
  have e : ((2 ^ 7 * 1 : Nat) : Int) = 128 := by decide
  rw [e] at h
  rw [ha, h]
  omega

def ruvP (l : List Int) (off : Nat) : Nat → Nat → Int → Int × Int × Bool
  | 0, _, _ => (0, 0, false)
  | f + 1, i, n =>
    if off + i < l.length then
      (if l.getD (off + i) 0 < 128 then
        (if (l.getD (off + i) 0 = 0 ∧ 0 < i) ∨ n + l.getD (off + i) 0 % 128 * 128 ^ i > 1000000000000 then (0, 0, false) else (n + l.getD (off + i) 0 % 128 * 128 ^ i, (off : Int) + (i : Int) + 1, true))
       else ruvP l off f (i + 1) (n + l.getD (off + i) 0 % 128 * 128 ^ i))
    else (0, 0, false)
def readUvP (l : List Int) (off : Int) : Int × Int × Bool := if off < 0 then (0, 0, false) else ruvP l off.toNat 6 0 0
theorem ruvP_facts (l : List Int) (off : Nat) (f : Nat) : ∀ (i : Nat) (n : Int), 0 ≤ n →
    ((ruvP l off f i n).2.2 = true → 0 ≤ (ruvP l off f i n).1 ∧ (ruvP l off f i n).1 ≤ 1000000000000 ∧ (off : Int) < (ruvP l off f i n).2.1 ∧ (ruvP l off f i n).2.1 ≤ l.length) ∧ ((ruvP l off f i n).2.2 = false → ruvP l off f i n = (0, 0, false)) := by
  induction f with
  | zero => intro i n h0; simp [ruvP]
  | succ f ih =>
    intro i n h0
    have hp : (0 : Int) ≤ l.getD (off + i) 0 % 128 * 128 ^ i := Int.mul_nonneg (by omega) (Int.pow_nonneg (by omega))
    unfold ruvP
    by_cases h1 : off + i < l.length
    · rw [if_pos h1]
      by_cases h2 : l.getD (off + i) 0 < 128
      · rw [if_pos h2]
        by_cases h3 : (l.getD (off + i) 0 = 0 ∧ 0 < i) ∨ n + l.getD (off + i) 0 % 128 * 128 ^ i > 1000000000000
        · rw [if_pos h3]; simp
        · rw [if_neg h3]
          refine ⟨fun _ => ⟨?_, ?_, ?_, ?_⟩, fun h => by simp at h⟩
          · show 0 ≤ n + l.getD (off + i) 0 % 128 * 128 ^ i; omega
          · show n + l.getD (off + i) 0 % 128 * 128 ^ i ≤ 1000000000000; omega
          · show (off : Int) < (off : Int) + (i : Int) + 1; omega
          · show (off : Int) + (i : Int) + 1 ≤ (l.length : Int); omega
      · rw [if_neg h2]
        exact ih (i + 1) _ (by omega)
    · rw [if_neg h1]; simp
theorem readUvP_ok {l : List Int} {off : Int} (h : (readUvP l off).2.2 = true) : 0 ≤ (readUvP l off).1 ∧ (readUvP l off).1 ≤ 1000000000000 ∧ 0 ≤ off ∧ off < (readUvP l off).2.1 ∧ (readUvP l off).2.1 ≤ l.length := by
  unfold readUvP at h ⊢
  by_cases h1 : off < 0
  · rw [if_pos h1] at h; simp at h
  · rw [if_neg h1] at h ⊢
    have := (ruvP_facts l off.toNat 6 0 0 (by omega)).1 h
    omega
theorem readUvP_no {l : List Int} {off : Int} (h : (readUvP l off).2.2 = false) : readUvP l off = (0, 0, false) := by
  unfold readUvP at h ⊢
  by_cases h1 : off < 0
  · rw [if_pos h1]
  · rw [if_neg h1] at h ⊢
    exact (ruvP_facts l off.toNat 6 0 0 (by omega)).2 h
theorem pow128 (i : Nat) (h : i < 6) : (128 : Int) ^ i = 1 ∧ i = 0 ∨ (128 : Int) ^ i = 128 ∧ i = 1 ∨ (128 : Int) ^ i = 16384 ∧ i = 2 ∨ (128 : Int) ^ i = 2097152 ∧ i = 3 ∨ (128 : Int) ^ i = 268435456 ∧ i = 4 ∨ (128 : Int) ^ i = 34359738368 ∧ i = 5 := by
  obtain rfl | rfl | rfl | rfl | rfl | rfl : i = 0 ∨ i = 1 ∨ i = 2 ∨ i = 3 ∨ i = 4 ∨ i = 5 := by omega
  all_goals simp
theorem uvor {n c : Int} {i : Nat} (hi : i < 6) (h0 : 0 ≤ n) (h1 : n < 128 ^ i) (c0 : 0 ≤ c) (c1 : c < 128) : Go.bits .or .i64 n (shl .i64 c (wrap64 (7 * (i : Int)))) = n + c * 128 ^ i := by
  obtain ⟨a, rfl⟩ := Int.eq_ofNat_of_zero_le h0
  obtain ⟨b, rfl⟩ := Int.eq_ofNat_of_zero_le c0
  have e7 : wrap64 (7 * (i : Int)) = ((7 * i : Nat) : Int) := by rw [w64 (by omega) (by omega)]; omega
  have ep : (128 : Nat) ^ i = 2 ^ (7 * i) := by rw [Nat.pow_mul]
  have epI : (128 : Int) ^ i = ((2 ^ (7 * i) : Nat) : Int) := by rw [← ep]; simp
  have h2 : (2 : Nat) ^ (7 * i) ≤ 2 ^ 35 := Nat.pow_le_pow_right (by decide) (by omega)
  have hb : 2 ^ (7 * i) * b < 2 ^ 62 := by
    have : 2 ^ (7 * i) * b ≤ 2 ^ 35 * 127 := Nat.mul_le_mul h2 (by omega)
    omega
  have es : shl .i64 (b : Int) (wrap64 (7 * (i : Int))) = ((2 ^ (7 * i) * b : Nat) : Int) := by
    unfold shl
    rw [e7, Int.toNat_natCast, Nat.min_eq_left (by show 7 * i ≤ 64; omega)]
    have e : (b : Int) * 2 ^ (7 * i) = ((2 ^ (7 * i) * b : Nat) : Int) := by push_cast; exact Int.mul_comm _ _
    rw [e]
    generalize 2 ^ (7 * i) * b = m at hb
    exact hk62 _ (by omega) (by omega)
  rw [es, epI]
  rw [epI] at h1
  rw [bor (i := 7 * i) (by omega) (by omega) hb]
  rw [Nat.mul_comm (2 ^ (7 * i)) b]
  push_cast
  rfl

def readBytesP (l : List Int) (off m : Int) : List Int × Int × Bool :=
  if (readUvP l off).2.2 = true ∧ ¬ (readUvP l off).1 > m ∧ ¬ (readUvP l off).1 > (l.length : Int) - (readUvP l off).2.1 then
    ((l.take ((readUvP l off).2.1 + (readUvP l off).1).toNat).drop ((readUvP l off).2.1).toNat, (readUvP l off).2.1 + (readUvP l off).1, true)
  else ([], 0, false)
theorem readBytesP_len (l : List Int) (off m : Int) : (readBytesP l off m).1.length ≤ l.length := by
  unfold readBytesP
  split
  · simp; omega
  · simp

theorem evSucc {α : Type} {g : Nat → Option α} {r : α} (h : Ev (fun k => g (k + 1)) r) : Ev g r := Ev.step (fun _ => rfl) h
theorem evIte {α : Type} {c : Prop} [Decidable c] {f g : Nat → Option α} {r : α} (h1 : c → Ev f r) (h2 : ¬ c → Ev g r) : Ev (fun k => if c then f k else g k) r := by
  by_cases h : c
  · simp only [if_pos h]; exact h1 h
  · simp only [if_neg h]; exact h2 h
theorem evT {α : Type} {f g : Nat → Option α} {r : α} (c : Prop) [Decidable c] (h : c) (h1 : Ev f r) : Ev (fun k => if c then f k else g k) r := by
  simp only [if_pos h]; exact h1
theorem evF {α : Type} {f g : Nat → Option α} {r : α} (c : Prop) [Decidable c] (h : ¬ c) (h1 : Ev g r) : Ev (fun k => if c then f k else g k) r := by
  simp only [if_neg h]; exact h1
theorem mneg (n : Nat) : ((1 : Int) + (n : Int) < 0) = False := eq_false (by omega)
theorem mneg2 (n m : Nat) : ((1 : Int) + (n : Int) + (m : Int) < 0) = False := eq_false (by omega)

theorem implReadUvarint_l (l : List Int) (hl : l.length ≤ 281474976710656) (hb : ∀ x ∈ l, 0 ≤ x ∧ x ≤ 255) (off : Nat) (f : Nat) : ∀ (i : Nat) (n : Int), i + f = 6 → 0 ≤ n → n < 128 ^ i → (i = 0 ∨ off < l.length) → off ≤ 9223372036854775807 →
    Ev (fun k => impl_ReadUvarint.l0 k l (off : Int) n (i : Int)) (ruvP l off f i n) := by
  induction f with
  | zero =>
    intro i n hi h0 h1 ho hw
    refine evSucc ?_
    simp only [impl_ReadUvarint.l0]
    refine evF ((i : Int) < 6) (by omega) ?_
    refine evSucc ?_
    simp only [impl_ReadUvarint.j1, Bool.false_eq_true, if_false]
    exact Ev.now _
  | succ f ih =>
    intro i n hi h0 h1 ho hw
    have hp : (0 : Int) < 128 ^ i := Int.pow_pos (by omega)
    refine evSucc ?_
    simp only [impl_ReadUvarint.l0]
    refine evT ((i : Int) < 6) (by omega) ?_
    unfold ruvP
    by_cases hin : off + i < l.length
    · rw [if_pos hin]
      have hd : decide (wrap64 ((off : Int) + (i : Int)) < (l.length : Int)) = true := decide_eq_true (by rw [w64 (by omega) (by omega)]; omega)
      rw [hd]
      refine evSucc ?_
      simp only [impl_ReadUvarint.j1]
      simp only [if_true]
      have hc := hb (l.getD (off + i) 0) (getD_mem hin)
      have e1 : wrap64 ((off : Int) + (i : Int)) = ((off + i : Nat) : Int) := by rw [w64 (by omega) (by omega)]; omega
      have hor := uvor (n := n) (c := l.getD (off + i) 0 % 128) (i := i) (by omega) h0 h1 (by omega) (by omega)
      simp only [e1, rdn]
      have em : wrap64 (Go.bits .and .u8 (l.getD (off + i) 0) 127) = l.getD (off + i) 0 % 128 := by rw [and127b hc.1 hc.2, w64 (by omega) (by omega)]
      have em2 := and128b hc.1 hc.2
      simp only [em]
      refine evT (0 ≤ ((off + i : Nat) : Int)) (by omega) (evT (((off + i : Nat) : Int) < (l.length : Int)) (by omega) (evT (0 ≤ wrap64 (7 * (i : Int))) (by rw [w64 (by omega) (by omega)]; omega) ?_))
      simp only [hor]
      by_cases hc2 : l.getD (off + i) 0 < 128
      · rw [if_pos hc2]
        refine evT (Go.bits .and .u8 (l.getD (off + i) 0) 128 = 0) (em2.2 hc2) ?_
        clear hor
        have e2 : wrap64 (((off + i : Nat) : Int) + 1) = (off : Int) + (i : Int) + 1 := by clear em; rw [w64 (by omega) (by omega)]; omega
        rw [e2]
        clear ih ho hw hl hb h1 e1 e2 em em2
        by_cases hP : (l.getD (off + i) 0 = 0 ∧ 0 < i) ∨ n + l.getD (off + i) 0 % 128 * 128 ^ i > 1000000000000
        · rw [if_pos hP]
          repeat' (with_reducible refine evIte (fun _ => ?_) (fun _ => ?_))
          all_goals first | exact Ev.now _ | (exfalso; omega)
        · rw [if_neg hP]
          repeat' (with_reducible refine evIte (fun _ => ?_) (fun _ => ?_))
          all_goals first | exact Ev.now _ | (exfalso; omega)
      · rw [if_neg hc2]
        refine evF (Go.bits .and .u8 (l.getD (off + i) 0) 128 = 0) (fun h => hc2 (em2.1 h)) ?_
        clear hor em em2 e1
        have hwi : wrap64 ((i : Int) + 1) = ((i + 1 : Nat) : Int) := wsucc (by omega)
        rw [hwi]
        refine ih (i + 1) _ (by omega) ?_ ?_ (.inr (by omega)) hw
        · have : (0 : Int) ≤ l.getD (off + i) 0 % 128 * 128 ^ i := Int.mul_nonneg (by omega) (by omega)
          omega
        · rw [Int.pow_succ]
          have : l.getD (off + i) 0 % 128 * 128 ^ i ≤ 127 * 128 ^ i := Int.mul_le_mul_of_nonneg_right (by omega) (by omega)
          omega
    · rw [if_neg hin]
      have hd : decide (wrap64 ((off : Int) + (i : Int)) < (l.length : Int)) = false := decide_eq_false (by rw [w64 (by omega) (by omega)]; omega)
      rw [hd]
      refine evSucc ?_
      simp only [impl_ReadUvarint.j1, Bool.false_eq_true, if_false]
      exact Ev.now _

theorem implReadUvarint_ev (l : List Int) (off : Int) (hl : l.length ≤ 281474976710656) (hb : ∀ x ∈ l, 0 ≤ x ∧ x ≤ 255) (hw : off ≤ 9223372036854775807) : Ev (fun k => impl_ReadUvarint.f k l off) (readUvP l off) := by
  unfold impl_ReadUvarint.f readUvP
  by_cases h : off < 0
  · simp only [if_pos h]; exact Ev.now _
  · simp only [if_neg h]
    have := implReadUvarint_l l hl hb off.toNat 6 0 0 rfl (by omega) (by simp) (.inl rfl) (by omega)
    rw [Int.toNat_of_nonneg (by omega)] at this
    exact this

theorem sliceClone_byte_eq (l : List Int) (h : l.length < 140737488355328) : slices_Clone_byte_byte.f l = some l := by
  unfold slices_Clone_byte_byte.f
  simp [h]

theorem implReadBytes_ev (l : List Int) (off m : Int) (hl : l.length ≤ 1048576) (hb : ∀ x ∈ l, 0 ≤ x ∧ x ≤ 255) (hw : off ≤ 9223372036854775807) : Ev (fun k => impl_ReadBytes.f k l off m) (readBytesP l off m) := by
  unfold impl_ReadBytes.f readBytesP
  refine Ev.bind (implReadUvarint_ev l off (by omega) hb hw) ?_
  by_cases hr : (readUvP l off).2.2 = true
  · have hk := readUvP_ok hr
    generalize readUvP l off = r at hr hk ⊢
    obtain ⟨n, nx, ok⟩ := r
    simp only at hr hk
    subst hr
    have e1 : wrap64 ((l.length : Int) - nx) = (l.length : Int) - nx := w64 (by omega) (by omega)
    have e2 : wrap64 (nx + n) = nx + n := w64 (by omega) (by omega)
    simp only [e1, e2, if_true, true_and]
    by_cases h1 : n > m
    · simp only [if_pos h1]
      rw [if_neg (fun h => h.1 h1)]
      exact Ev.now _
    · simp only [if_neg h1]
      by_cases h2 : n > (l.length : Int) - nx
      · simp only [if_pos h2]
        rw [if_neg (show ¬ (¬ n > m ∧ ¬ n > (l.length : Int) - nx) from fun h => h.2 h2)]
        exact Ev.now _
      · simp only [if_neg h2]
        rw [if_pos (show ¬ n > m ∧ ¬ n > (l.length : Int) - nx from ⟨h1, h2⟩)]
        refine evT (0 ≤ nx) (by omega) (evT (nx ≤ nx + n) (by omega) (evT (nx + n ≤ (l.length : Int)) (by omega) ?_))
        rw [sliceClone_byte_eq _ (by simp; omega)]
        exact Ev.now _
  · rw [if_neg (show ¬ ((readUvP l off).2.2 = true ∧ ¬ (readUvP l off).1 > m ∧ ¬ (readUvP l off).1 > (l.length : Int) - (readUvP l off).2.1) from fun h => hr h.1)]
    exact evF ((readUvP l off).2.2 = true) hr (Ev.now _)

theorem specReadUvarint_l (l : List Int) (hl : l.length ≤ 281474976710656) (hb : ∀ x ∈ l, 0 ≤ x ∧ x ≤ 255) (off : Nat) (f : Nat) : ∀ (i : Nat) (n : Int), i + f = 6 → 0 ≤ n → n < 128 ^ i → (i = 0 ∨ off < l.length) → off ≤ 9223372036854775807 →
    Ev (fun k => spec_ReadUvarint.l0 k l (off : Int) n (i : Int)) (ruvP l off f i n) := by
  induction f with
  | zero =>
    intro i n hi h0 h1 ho hw
    refine evSucc ?_
    simp only [spec_ReadUvarint.l0]
    refine evF ((i : Int) < 6) (by omega) ?_
    exact Ev.now _
  | succ f ih =>
    intro i n hi h0 h1 ho hw
    have hp : (0 : Int) < 128 ^ i := Int.pow_pos (by omega)
    refine evSucc ?_
    simp only [spec_ReadUvarint.l0]
    refine evT ((i : Int) < 6) (by omega) ?_
    unfold ruvP
    by_cases hin : off + i < l.length
    · rw [if_pos hin]
      refine evF ((off : Int) < 0) (by omega) ?_
      have hd : decide ((off : Int) ≥ wrap64 ((l.length : Int) - (i : Int))) = false := decide_eq_false (by rw [w64 (by omega) (by omega)]; omega)
      rw [hd]
      refine evSucc ?_
      simp only [spec_ReadUvarint.j1]
      simp only [Bool.false_eq_true, if_false]
      have hc := hb (l.getD (off + i) 0) (getD_mem hin)
      have e1 : wrap64 ((off : Int) + (i : Int)) = ((off + i : Nat) : Int) := by rw [w64 (by omega) (by omega)]; omega
      have hor := uvor (n := n) (c := l.getD (off + i) 0 % 128) (i := i) (by omega) h0 h1 (by omega) (by omega)
      simp only [e1, rdn]
      have em0 : wrap64 (l.getD (off + i) 0) = l.getD (off + i) 0 := w64 (by omega) (by omega)
      have em : Go.bits .and .i64 (l.getD (off + i) 0) 127 = l.getD (off + i) 0 % 128 := and127 hc.1 (by omega)
      simp only [em0, em]
      refine evT (0 ≤ ((off + i : Nat) : Int)) (by omega) (evT (((off + i : Nat) : Int) < (l.length : Int)) (by omega) (evT (0 ≤ wrap64 (7 * (i : Int))) (by rw [w64 (by omega) (by omega)]; omega) ?_))
      simp only [hor]
      by_cases hc2 : l.getD (off + i) 0 < 128
      · rw [if_pos hc2]
        refine evT (l.getD (off + i) 0 < 128) hc2 ?_
        clear hor
        have e2 : wrap64 (((off + i : Nat) : Int) + 1) = (off : Int) + (i : Int) + 1 := by clear em; rw [w64 (by omega) (by omega)]; omega
        rw [e2]
        clear ih ho hw hl hb h1 e1 e2 em em0
        by_cases hP : (l.getD (off + i) 0 = 0 ∧ 0 < i) ∨ n + l.getD (off + i) 0 % 128 * 128 ^ i > 1000000000000
        · rw [if_pos hP]
          repeat' (with_reducible refine evIte (fun _ => ?_) (fun _ => ?_))
          all_goals first | exact Ev.now _ | (exfalso; omega)
        · rw [if_neg hP]
          repeat' (with_reducible refine evIte (fun _ => ?_) (fun _ => ?_))
          all_goals first | exact Ev.now _ | (exfalso; omega)
      · rw [if_neg hc2]
        refine evF (l.getD (off + i) 0 < 128) hc2 ?_
        clear hor em em0 e1
        have hwi : wrap64 ((i : Int) + 1) = ((i + 1 : Nat) : Int) := wsucc (by omega)
        rw [hwi]
        refine ih (i + 1) _ (by omega) ?_ ?_ (.inr (by omega)) hw
        · have : (0 : Int) ≤ l.getD (off + i) 0 % 128 * 128 ^ i := Int.mul_nonneg (by omega) (by omega)
          omega
        · rw [Int.pow_succ]
          have : l.getD (off + i) 0 % 128 * 128 ^ i ≤ 127 * 128 ^ i := Int.mul_le_mul_of_nonneg_right (by omega) (by omega)
          omega
    · rw [if_neg hin]
      refine evF ((off : Int) < 0) (by omega) ?_
      have hd : decide ((off : Int) ≥ wrap64 ((l.length : Int) - (i : Int))) = true := decide_eq_true (by rw [w64 (by omega) (by omega)]; omega)
      rw [hd]
      refine evSucc ?_
      simp only [spec_ReadUvarint.j1, if_true]
      exact Ev.now _

theorem specReadUvarint_ev (l : List Int) (off : Int) (hl : l.length ≤ 281474976710656) (hb : ∀ x ∈ l, 0 ≤ x ∧ x ≤ 255) (hw : off ≤ 9223372036854775807) : Ev (fun k => spec_ReadUvarint.f k l off) (readUvP l off) := by
  unfold spec_ReadUvarint.f readUvP
  by_cases h : off < 0
  · rw [if_pos h]
    refine evSucc ?_
    simp only [spec_ReadUvarint.l0]
    refine evT ((0 : Int) < 6) (by omega) (evT (off < 0) h ?_)
    refine evSucc ?_
    simp only [spec_ReadUvarint.j1, if_true]
    exact Ev.now _
  · rw [if_neg h]
    have := specReadUvarint_l l hl hb off.toNat 6 0 0 rfl (by omega) (by simp) (.inl rfl) (by omega)
    rw [Int.toNat_of_nonneg (by omega)] at this
    exact this

theorem specReadBytes_ev (l : List Int) (off m : Int) (hl : l.length ≤ 1048576) (hb : ∀ x ∈ l, 0 ≤ x ∧ x ≤ 255) (hw : off ≤ 9223372036854775807) : Ev (fun k => spec_ReadBytes.f k l off m) (readBytesP l off m) := by
  unfold spec_ReadBytes.f readBytesP
  refine Ev.bind (specReadUvarint_ev l off (by omega) hb hw) ?_
  by_cases hr : (readUvP l off).2.2 = true
  · have hk := readUvP_ok hr
    generalize readUvP l off = r at hr hk ⊢
    obtain ⟨n, nx, ok⟩ := r
    simp only at hr hk
    subst hr
    have e1 : wrap64 ((l.length : Int) - nx) = (l.length : Int) - nx := w64 (by omega) (by omega)
    have e2 : wrap64 (nx + n) = nx + n := w64 (by omega) (by omega)
    simp only [e1, e2, if_true, true_and]
    by_cases h1 : n > m
    · simp only [if_pos h1]
      rw [if_neg (fun h => h.1 h1)]
      exact Ev.now _
    · simp only [if_neg h1]
      by_cases h2 : n > (l.length : Int) - nx
      · simp only [if_pos h2]
        rw [if_neg (show ¬ (¬ n > m ∧ ¬ n > (l.length : Int) - nx) from fun h => h.2 h2)]
        exact Ev.now _
      · simp only [if_neg h2]
        rw [if_pos (show ¬ n > m ∧ ¬ n > (l.length : Int) - nx from ⟨h1, h2⟩)]
        simp only [Option.bind_some, List.nil_append, List.length_nil, Nat.zero_add]
        refine evT (0 ≤ nx) (by omega) (evT (nx ≤ nx + n) (by omega) (evT (nx + n ≤ (l.length : Int)) (by omega) ?_))
        exact evT (((l.take (nx + n).toNat).drop nx.toNat).length < 140737488355328) (by simp; omega) (Ev.now _)
  · rw [if_neg (show ¬ ((readUvP l off).2.2 = true ∧ ¬ (readUvP l off).1 > m ∧ ¬ (readUvP l off).1 > (l.length : Int) - (readUvP l off).2.1) from fun h => hr h.1)]
    exact evF ((readUvP l off).2.2 = true) hr (Ev.now _)

theorem toByteS_ev (l : List Int) (hl : l.length ≤ 281474976710656) : Ev (fun k => laws_toByteS.f k l) l := by
  have H : Ev (fun k => laws_toByteS.l0 k l (List.replicate l.length 0) 0) l := by
    have := evUp (g := fun i k => laws_toByteS.l0 k l (l.take i ++ List.replicate (l.length - i) 0) (i : Int)) (R := fun _ => l) l.length ?_ ?_ 0 (Nat.zero_le _)
    · simpa using this
    · refine Ev.step (f := fun _ => some l) (fun k => ?_) (Ev.now _)
      simp only [laws_toByteS.l0]
      rw [if_neg (by omega)]
      simp
    · intro i hi ih
      refine Ev.step (fun k => ?_) ih
      simp only [laws_toByteS.l0]
      rw [if_pos (by omega), if_pos (by omega), if_pos (by rw [take_rep_len l 0 i (by omega)]; omega), wsucc (by omega), rdn, Int.toNat_natCast, take_set_rep l 0 0 i hi]
  refine Ev.congr (fun k => ?_) H
  unfold laws_toByteS.f
  rw [if_pos (by omega), if_pos (by omega)]
  simp

theorem eqByteS_ev (a b : List Int) (hl : a.length ≤ 281474976710656) : Ev (fun k => laws_eqByteS.f k a b) (decide (a = b)) := by
  by_cases hn : a.length = b.length
  · have H : Ev (fun k => laws_eqByteS.l0 k a b 0) (decide (a = b)) := by
      have := evUp (g := fun i k => laws_eqByteS.l0 k a b (i : Int)) (R := fun i => decide (a.drop i = b.drop i)) a.length ?_ ?_ 0 (Nat.zero_le _)
      · simpa using this
      · refine Ev.step (f := fun _ => some true) (fun k => ?_) (by simpa [hn] using Ev.now true)
        simp only [laws_eqByteS.l0]
        rw [if_neg (by omega)]
      · intro i hi ih
        have hd := drop_eq_iff a b 0 i hi (by omega)
        by_cases he : a.getD i 0 = b.getD i 0
        · refine Ev.step (f := fun k => laws_eqByteS.l0 k a b ((i + 1 : Nat) : Int)) (fun k => ?_) ?_
          · simp only [laws_eqByteS.l0]
            rw [if_pos (by omega), if_pos (by omega), if_pos (by omega), rdn, rdn, if_pos he, wsucc (by omega)]
          · have e : decide (a.drop i = b.drop i) = decide (a.drop (i + 1) = b.drop (i + 1)) := decide_eq_decide.mpr (hd.trans (and_iff_right he))
            simp only [e]
            exact ih
        · refine Ev.step (f := fun _ => some false) (fun k => ?_) ?_
          · simp only [laws_eqByteS.l0]
            rw [if_pos (by omega), if_pos (by omega), if_pos (by omega), rdn, rdn, if_neg he]
          · have e : decide (a.drop i = b.drop i) = false := decide_eq_false (fun h => he (hd.mp h).1)
            simp only [e]
            exact Ev.now false
    refine Ev.congr (fun k => ?_) H
    unfold laws_eqByteS.f
    rw [if_pos (by omega)]
  · have e : decide (a = b) = false := decide_eq_false (fun h => hn (by rw [h]))
    rw [e]
    refine Ev.congr (f := fun _ => some false) (fun k => ?_) (Ev.now false)
    unfold laws_eqByteS.f
    rw [if_neg (by omega)]
theorem eqByteS_same (a : List Int) (hl : a.length ≤ 281474976710656) : Ev (fun k => laws_eqByteS.f k a a) true := by simpa using eqByteS_ev a a hl

def markedByte (a : Int) (n : Nat) : List Int := (List.range n).map fun (i : Nat) => (a + (i : Int)) % 256
theorem markedByte_len (a : Int) (n : Nat) : (markedByte a n).length = n := by simp [markedByte]
theorem markedByte_succ (a : Int) (n : Nat) : markedByte a (n + 1) = markedByte a n ++ [(a + (n : Int)) % 256] := by simp [markedByte, List.range_succ]
theorem markByteS_ev (l : List Int) (a : Int) (h0 : 0 ≤ a) (h1 : a ≤ 1152921504606846976) (hl : l.length ≤ 281474976710656) : Ev (fun k => laws_markByteS.f k l a) (a + (l.length : Int), markedByte a l.length) := by
  have H := evUp (g := fun i k => laws_markByteS.l0 k (markedByte a i ++ l.drop i) (a + (i : Int)) (i : Int)) (R := fun _ => (a + (l.length : Int), markedByte a l.length)) l.length ?_ ?_ 0 (Nat.zero_le _)
  · refine Ev.congr (fun k => ?_) H
    unfold laws_markByteS.f
    simp [markedByte]
  · refine Ev.step (f := fun _ => some (a + (l.length : Int), markedByte a l.length)) (fun k => ?_) (Ev.now _)
    simp only [laws_markByteS.l0]
    rw [if_neg (by rw [List.length_append, markedByte_len]; simp)]
    simp
  · intro i hi ih
    refine Ev.step (fun k => ?_) ih
    simp only [laws_markByteS.l0]
    rw [if_pos (by rw [List.length_append, markedByte_len, List.length_drop]; omega), if_pos (by omega), wsucc (by omega), w64 (by omega) (by omega), Int.toNat_natCast, List.set_append_right _ _ (by rw [markedByte_len]; omega), markedByte_len, Nat.sub_self, List.drop_eq_getElem_cons hi, List.set_cons_zero, markedByte_succ, List.append_assoc, List.singleton_append]
    have e : a + (i : Int) + 1 = a + ((i + 1 : Nat) : Int) := by omega
    rw [e]

theorem markedByte_get (a : Int) (n i : Nat) (h : i < n) : (markedByte a n).getD i 0 = (a + (i : Int)) % 256 := by
  rw [getD_get (by rw [markedByte_len]; exact h)]
  simp [markedByte]
theorem heldByteS_ev (n : Nat) (a : Int) (h0 : 0 ≤ a) (h1 : a ≤ 1152921504606846976) (hl : n ≤ 281474976710656) : Ev (fun k => laws_heldByteS.f k (markedByte a n) a) (a + (n : Int)) := by
  have H := evUp (g := fun i k => laws_heldByteS.l0 k (markedByte a n) (a + (i : Int)) (i : Int)) (R := fun _ => a + (n : Int)) n ?_ ?_ 0 (Nat.zero_le _)
  · refine Ev.congr (fun k => ?_) H
    unfold laws_heldByteS.f
    simp
  · refine Ev.step (f := fun _ => some (a + (n : Int))) (fun k => ?_) (Ev.now _)
    simp only [laws_heldByteS.l0]
    rw [if_neg (by rw [markedByte_len]; omega)]
  · intro i hi ih
    refine Ev.step (fun k => ?_) ih
    simp only [laws_heldByteS.l0]
    rw [if_pos (by rw [markedByte_len]; omega), if_pos (by omega), rdn, markedByte_get a n i hi, if_pos rfl, wsucc (by omega), w64 (by omega) (by omega)]
    have e : a + (i : Int) + 1 = a + ((i + 1 : Nat) : Int) := by omega
    rw [e]

theorem FnExactReadBytes : laws_FnExactReadBytes.Pure := by
  intro l off m _ _ hb0 ho _
  have hb : ∀ x ∈ l, 0 ≤ x ∧ x ≤ 255 := fun x hx => wfB (hb0 x hx)
  have hw := (wfI ho).2
  have hlen := readBytesP_len l off m
  refine Ev.rounds ?_
  unfold laws_FnExactReadBytes.f
  refine evIte (fun _ => Ev.now _) (fun hbig0 => ?_)
  repeat first
    | with_reducible exact Ev.now _
    | (with_reducible refine Ev.bind (toByteS_ev _ ?_) ?_; (· (first | omega | assumption | (dsimp only; omega) | (simp; omega))))
    | (with_reducible refine Ev.bind (eqByteS_same _ ?_) ?_; (· (first | omega | assumption | (dsimp only; omega) | (simp; omega))))
    | (with_reducible refine Ev.bind (markByteS_ev _ _ (by omega) (by omega) ?_) ?_; (· (first | omega | assumption | (dsimp only; omega) | (simp; omega))))
    | (with_reducible refine Ev.bind (heldByteS_ev _ _ (by omega) (by omega) ?_) ?_; (· (first | omega | assumption | (dsimp only; omega) | (simp; omega))))
    | (with_reducible refine Ev.bind (implReadBytes_ev _ _ _ ?_ ?_ ?_) ?_; (· (first | omega | assumption | (dsimp only; omega) | (simp; omega))); (· (first | omega | assumption | (dsimp only; omega) | (simp; omega))); (· (first | omega | assumption | (dsimp only; omega) | (simp; omega))))
    | (with_reducible refine Ev.bind (specReadBytes_ev _ _ _ ?_ ?_ ?_) ?_; (· (first | omega | assumption | (dsimp only; omega) | (simp; omega))); (· (first | omega | assumption | (dsimp only; omega) | (simp; omega))); (· (first | omega | assumption | (dsimp only; omega) | (simp; omega))))
    | (with_reducible refine evSucc (g := fun k => laws_FnExactReadBytes.j0 k _ _ _ _ _ _ _ _ _ _ _) ?_; simp only [laws_FnExactReadBytes.j0])
    | (with_reducible refine evSucc (g := fun k => laws_FnExactReadBytes.j1 k _ _ _ _ _ _ _ _) ?_; simp only [laws_FnExactReadBytes.j1])
    | (with_reducible refine evSucc (g := fun k => laws_FnExactReadBytes.j2 k _ _ _) ?_; simp only [laws_FnExactReadBytes.j2])
    | simp only [if_true, if_false, Bool.false_eq_true, Bool.not_true, Bool.not_false, Bool.true_eq_false, mneg, mneg2, bne_self_eq_false, Option.bind_some]

end Go.Proofs.Ytmdmgilhcecanaa.Pure
