/- The law FnExactMessageText returns true for all arguments: the program's MessageText and the reference's agree, and the message that is given reads as before. It holds for every input that the statement admits; no condition is added. -/
import Derived.Test.YtofgihojpggecaaDoorQFnExactMessageTextx4
namespace Go.Proofs.YtofgihojpggecaaDoor.Pure
open Go.RowKit Go.Proofs.YtofgihojpggecaaDoor.QFnExactMessageText Go.Proofs.YtofgihojpggecaaDoorW.PrintWords Go.Proofs.YtofgihojpggecaaDoorW.PrintLast Go.Proofs.YtofgihojpggecaaDoorW.PrintMore
set_option linter.unusedVariables false
set_option linter.unusedSimpArgs false

theorem w64 {x : Int} (h0 : -9223372036854775808 ≤ x) (h1 : x ≤ 9223372036854775807) : wrap64 x = x := by unfold wrap64; omega
theorem wsucc {i : Nat} (h : i < 4611686018427387904) : wrap64 ((i : Int) + 1) = ((i + 1 : Nat) : Int) := by unfold wrap64; omega
theorem wfI {x : Int} (h : (Lit.int .i64 x).wf = true) : -9223372036854775808 ≤ x ∧ x ≤ 9223372036854775807 := by
  simp only [Lit.wf, Bool.and_eq_true, decide_eq_true_eq] at h
  exact h
theorem wfB {x : Int} (h : (Lit.int .u8 x).wf = true) : 0 ≤ x ∧ x ≤ 255 := by
  simp only [Lit.wf, Bool.and_eq_true, decide_eq_true_eq] at h
  exact h
theorem rdn (l : List Int) (i : Nat) : rd l (i : Int) = l.getD i 0 := by simp [rd]
theorem evOne {α : Type} {f : Option α} {r : α} (h : f = some r) : Ev (fun _ => f) r := ⟨0, fun _ _ => h⟩
theorem evUp {ρ : Type} {g : Nat → Nat → Option ρ} {R : Nat → ρ} (n : Nat) (last : Ev (g n) (R n)) (step : ∀ i, i < n → Ev (g (i + 1)) (R (i + 1)) → Ev (g i) (R i)) : ∀ i, i ≤ n → Ev (g i) (R i) := by
  intro i hi
  obtain ⟨d, hd⟩ : ∃ d, i + d = n := ⟨n - i, by omega⟩
  induction d generalizing i with
  | zero => obtain rfl : i = n := by omega
            exact last
  | succ d ih => exact step i (by omega) (ih (i + 1) (by omega) (by omega))
theorem getD_mem {α : Type} {l : List α} {i : Nat} {d : α} (h : i < l.length) : l.getD i d ∈ l := by
  rw [List.getD_eq_getElem?_getD, List.getElem?_eq_getElem h]; exact List.getElem_mem h
theorem getD_get {α : Type} {l : List α} {i : Nat} {d : α} (h : i < l.length) : l.getD i d = l[i] := by
  rw [List.getD_eq_getElem?_getD, List.getElem?_eq_getElem h]; rfl
theorem take_set_rep {α : Type} (l : List α) (z d : α) (i : Nat) (h : i < l.length) : (l.take i ++ List.replicate (l.length - i) z).set i (l.getD i d) = l.take (i + 1) ++ List.replicate (l.length - (i + 1)) z := by
  obtain ⟨m, hm⟩ : ∃ m, l.length - i = m + 1 := ⟨l.length - i - 1, by omega⟩
  have hm' : l.length - (i + 1) = m := by omega
  rw [hm, hm', List.set_append_right _ _ (by rw [List.length_take]; omega), List.length_take, Nat.min_eq_left (by omega), Nat.sub_self, List.replicate_succ, List.set_cons_zero, getD_get h, List.take_succ_eq_append_getElem h, List.append_assoc, List.singleton_append]
theorem drop_eq_iff {α : Type} (a b : List α) (d : α) (i : Nat) (ha : i < a.length) (hb : i < b.length) : (a.drop i = b.drop i) ↔ (a.getD i d = b.getD i d ∧ a.drop (i + 1) = b.drop (i + 1)) := by
  rw [List.drop_eq_getElem_cons ha, List.drop_eq_getElem_cons hb, List.cons.injEq, getD_get ha, getD_get hb]
theorem take_rep_len {α : Type} (l : List α) (z : α) (i : Nat) (h : i ≤ l.length) : (l.take i ++ List.replicate (l.length - i) z).length = l.length := by
  simp; omega

namespace Dec
open Go.Lib
theorem dec_step {u : Nat} (h : ¬ u < 10) : decDigits u = decDigits (u / 10) ++ [UInt8.ofNat (48 + u % 10)] := by rw [decDigits]; exact dif_neg h
theorem dec_low {u : Nat} (h : u < 10) : decDigits u = [UInt8.ofNat (48 + u)] := by rw [decDigits]; exact dif_pos h
theorem dig_nat {d : Nat} (h : d < 10) : (UInt8.ofNat (48 + d)).toNat = 48 + d := by
  rw [UInt8.toNat_ofNat']
  omega
theorem dec_digits (u : Nat) : ∀ c ∈ decDigits u, 48 ≤ c.toNat ∧ c.toNat ≤ 57 := by
  induction u using Nat.strongRecOn with
  | _ u ih =>
    intro c hc
    by_cases h : u < 10
    · rw [dec_low h, List.mem_singleton] at hc
      subst hc
      rw [dig_nat h]
      omega
    · rw [dec_step h] at hc
      rcases List.mem_append.1 hc with hc | hc
      · exact ih (u / 10) (by omega) c hc
      · rw [List.mem_singleton] at hc
        subst hc
        rw [dig_nat (by omega)]
        omega
theorem dec_ne (u : Nat) : decDigits u ≠ [] := by
  by_cases h : u < 10
  · rw [dec_low h]; simp
  · rw [dec_step h]; simp
theorem dec_len (u : Nat) : ∀ n, u < 10 ^ n → 1 ≤ n → (decDigits u).length ≤ n := by
  induction u using Nat.strongRecOn with
  | _ u ih =>
    intro n h1 h2
    by_cases h : u < 10
    · rw [dec_low h]; exact h2
    · obtain ⟨m, rfl⟩ : ∃ m, n = m + 1 := ⟨n - 1, by omega⟩
      rw [dec_step h, List.length_append, List.length_singleton]
      have hm : 1 ≤ m := by
        rcases Nat.eq_zero_or_pos m with h0 | h0
        · subst h0; simp at h1; omega
        · exact h0
      have := ih (u / 10) (by omega) m (by rw [Nat.pow_succ] at h1; omega) hm
      omega
end Dec

theorem evSucc {α : Type} {g : Nat → Option α} {r : α} (h : Ev (fun k => g (k + 1)) r) : Ev g r := Ev.step (fun _ => rfl) h
theorem evIte {α : Type} {c : Prop} [Decidable c] {f g : Nat → Option α} {r : α} (h1 : c → Ev f r) (h2 : ¬ c → Ev g r) : Ev (fun k => if c then f k else g k) r := by
  by_cases h : c
  · simp only [if_pos h]; exact h1 h
  · simp only [if_neg h]; exact h2 h
theorem evT {α : Type} {f g : Nat → Option α} {r : α} (c : Prop) [Decidable c] (h : c) (h1 : Ev f r) : Ev (fun k => if c then f k else g k) r := by
  simp only [if_pos h]; exact h1
theorem evF {α : Type} {f g : Nat → Option α} {r : α} (c : Prop) [Decidable c] (h : ¬ c) (h1 : Ev g r) : Ev (fun k => if c then f k else g k) r := by
  simp only [if_neg h]; exact h1
theorem mneg (n : Nat) : ((1 : Int) + (n : Int) < 0) = False := eq_false (by omega)
theorem mneg2 (n m : Nat) : ((1 : Int) + (n : Int) + (m : Int) < 0) = False := eq_false (by omega)

def dval : List UInt8 → Nat → Nat
  | [], m => m
  | c :: r, m => dval r (10 * m + (c.toNat - 48))
theorem dval_snoc (c : UInt8) : ∀ (l : List UInt8) (m : Nat), dval (l ++ [c]) m = 10 * dval l m + (c.toNat - 48)
  | [], m => rfl
  | d :: r, m => dval_snoc c r _
theorem dval_dec (v : Nat) : dval (Lib.decDigits v) 0 = v := by
  induction v using Nat.strongRecOn with
  | _ v ih =>
    by_cases h : v < 10
    · rw [Dec.dec_low h]
      show 10 * 0 + ((UInt8.ofNat (48 + v)).toNat - 48) = v
      rw [Dec.dig_nat h]; omega
    · rw [Dec.dec_step h, dval_snoc, ih (v / 10) (by omega), Dec.dig_nat (by omega)]; omega
theorem itoa_nat (m : Nat) : Lib.itoa (m : Int) = Lib.decDigits m := by
  unfold Lib.itoa
  rw [if_neg (by omega), Int.toNat_natCast]

theorem itoa_len (n : Int) (h0 : -9223372036854775808 ≤ n) (h1 : n ≤ 9223372036854775807) : (Lib.itoa n).length ≤ 21 := by
  unfold Lib.itoa
  by_cases hn : n < 0
  · rw [if_pos hn, List.length_cons]
    have := Dec.dec_len n.natAbs 20 (by omega) (by omega)
    omega
  · rw [if_neg hn]
    have := Dec.dec_len n.toNat 20 (by omega) (by omega)
    omega
theorem fmtI (n : Int) (h0 : -9223372036854775808 ≤ n) (h1 : n ≤ 9223372036854775807) : impl_FormatInt.f n = some ⟨(Lib.itoa n).toArray⟩ := by
  unfold impl_FormatInt.f
  rw [if_pos h0, if_pos h1]

def I64 (n : Int) : Prop := -9223372036854775808 ≤ n ∧ n ≤ 9223372036854775807
def BB (l : List UInt8) : ByteArray := ⟨l.toArray⟩
theorem BB_append (s : ByteArray) (a b : List UInt8) : (s ++ BB a) ++ BB b = s ++ BB (a ++ b) := by
  unfold BB
  rw [← ByteArray.mk_append_mk, ByteArray.append_assoc]
theorem BB_nil (s : ByteArray) : s ++ BB [] = s := by
  apply ByteArray.ext
  simp [BB]
theorem BB_size (s : ByteArray) (a : List UInt8) : (s ++ BB a).size = s.size + a.length := by rw [ByteArray.size_append]; rfl
theorem BB_data (a : List UInt8) : (BB a).data.toList = a := rfl
theorem tail_cons (s x : List UInt8) (r : List (List UInt8)) : Lib.joinTail s (x :: r) = s ++ x ++ Lib.joinTail s r := by simp [Lib.joinTail]
theorem tail_len (s : List UInt8) (hs : s.length = 1) (c : Nat) : ∀ r : List (List UInt8), (∀ x ∈ r, x.length ≤ c) → (Lib.joinTail s r).length ≤ r.length * (c + 1)
  | [], _ => by simp [Lib.joinTail]
  | x :: r, h => by
    rw [tail_cons, List.length_append, List.length_append, hs, List.length_cons, Nat.succ_mul]
    have h1 := h x List.mem_cons_self
    have h2 := tail_len s hs c r (fun y hy => h y (List.mem_cons_of_mem _ hy))
    omega
theorem join_len (s : List UInt8) (hs : s.length = 1) (c : Nat) (r : List (List UInt8)) (h : ∀ x ∈ r, x.length ≤ c) : (Lib.join r s).length ≤ r.length * (c + 1) := by
  cases r with
  | nil => simp [Lib.join_nil]
  | cons x r =>
    rw [Lib.join_cons, List.length_append, List.length_cons, Nat.succ_mul]
    have h1 := h x List.mem_cons_self
    have h2 := tail_len s hs c r (fun y hy => h y (List.mem_cons_of_mem _ hy))
    omega
def inP (k : Nat) (r : List (List UInt8)) (s : List UInt8) : List UInt8 := if k = 0 then Lib.join r s else Lib.joinTail s r
theorem inP_nil (k : Nat) (s : List UInt8) : inP k [] s = [] := by
  unfold inP
  by_cases h : k = 0
  · rw [if_pos h, Lib.join_nil]
  · rw [if_neg h]; rfl
theorem inP_first (x : List UInt8) (r : List (List UInt8)) (s : List UInt8) : inP 0 (x :: r) s = x ++ inP 1 r s := by
  unfold inP
  rw [if_pos rfl, if_neg (by omega), Lib.join_cons]
theorem inP_next (k : Nat) (hk : k ≠ 0) (x : List UInt8) (r : List (List UInt8)) (s : List UInt8) : inP k (x :: r) s = s ++ (x ++ inP (k + 1) r s) := by
  unfold inP
  rw [if_neg hk, if_neg (by omega), tail_cons, List.append_assoc]
theorem getD_mid {α : Type} (p : List α) (x : α) (r : List α) (d : α) : (p ++ x :: r).getD p.length d = x := by
  rw [List.getD_eq_getElem?_getD, List.getElem?_append_right (Nat.le_refl _), Nat.sub_self]; rfl
theorem sz63 (a b : Nat) (h : a + b ≤ 100000000000000) : a + b ≤ 9223372036854775807 := by omega

theorem joinF (l : List ByteArray) (s : ByteArray) (h1 : l.length ≤ 1048576) (h2 : (Lib.join (l.map (·.data.toList)) s.data.toList).length ≤ 100000000000000) : strings_Join.f l s = some (BB (Lib.join (l.map (·.data.toList)) s.data.toList)) := by
  unfold strings_Join.f
  rw [if_pos (by omega), if_pos (by omega)]
  rfl
theorem joined_ev (l : List Int) (s : ByteArray) (hl : l.length ≤ 1048576) (hv : ∀ x ∈ l, I64 x) (hs : s.data.toList.length = 1) : Ev (fun k => impl_joined.f k l s) (BB (Lib.join (l.map Lib.itoa) s.data.toList)) := by
  unfold impl_joined.f
  have hj : (Lib.join (l.map Lib.itoa) s.data.toList).length ≤ 100000000000000 := by
    have := join_len s.data.toList hs 21 (l.map Lib.itoa) (by
      intro x hx
      obtain ⟨n, hn, rfl⟩ := List.mem_map.1 hx
      exact itoa_len n (hv n hn).1 (hv n hn).2)
    rw [List.length_map] at this
    omega
  have := evUp (g := fun i k => impl_joined.l0 k s ((l.take i).map (fun x => BB (Lib.itoa x))) l (l.length : Int) (i : Int)) (R := fun _ => BB (Lib.join (l.map Lib.itoa) s.data.toList)) l.length ?_ ?_ 0 (Nat.zero_le _)
  · simpa using this
  · refine evSucc ?_
    simp only [impl_joined.l0]
    refine evF ((l.length : Int) < (l.length : Int)) (by omega) ?_
    have hm : ((l.take l.length).map (fun x => BB (Lib.itoa x))).map (·.data.toList) = l.map Lib.itoa := by
      rw [List.take_length, List.map_map]
      rfl
    have hf := joinF ((l.take l.length).map (fun x => BB (Lib.itoa x))) s (by rw [List.length_map, List.take_length]; exact hl) (by rw [hm]; exact hj)
    rw [hm] at hf
    simp only [hf, Option.bind_some]
    exact Ev.now _
  · intro i hlt ih
    have hx := hv (l.getD i 0) (getD_mem hlt)
    have hn : (l.take i).map (fun x => BB (Lib.itoa x)) ++ [BB (Lib.itoa (l.getD i 0))] = (l.take (i + 1)).map (fun x => BB (Lib.itoa x)) := by
      rw [List.take_succ_eq_append_getElem hlt, List.map_append, getD_get hlt]
      rfl
    have hc : ((l.take i).map (fun x => BB (Lib.itoa x))).length < 8796093022208 := by rw [List.length_map, List.length_take]; omega
    refine evSucc ?_
    simp only [impl_joined.l0, rdn, fmtI _ hx.1 hx.2, Option.bind_some, wsucc (show i < 4611686018427387904 by omega)]
    refine evT ((i : Int) < (l.length : Int)) (by omega) (evT (0 ≤ (i : Int)) (by omega) (evT ((i : Int) < (l.length : Int)) (by omega) (evT _ hc ?_)))
    rw [← hn] at ih
    exact ih

theorem size_mk (l : List UInt8) : (⟨l.toArray⟩ : ByteArray).size = l.length := rfl
theorem str_one (v : Int) : strOfNums [v] = ⟨[UInt8.ofNat v.toNat].toArray⟩ := rfl
theorem fmt_zero (n : Int) (s : ByteArray) (hs : s.size ≤ 40) : Ev (fun k => spec_FormatInt.l0 k n s 0) ((⟨(if n < 0 then [45] else [] : List UInt8).toArray⟩ : ByteArray) ++ s) := by
  by_cases hn : n < 0
  · have e0 : (if n < 0 then [45] else [] : List UInt8) = [45] := if_pos hn
    rw [e0]
    refine evSucc ?_
    simp only [spec_FormatInt.l0, if_true]
    exact evT (n < 0) hn (evT (1 + s.size ≤ 9223372036854775807) (by omega) (Ev.now _))
  · have e0 : (if n < 0 then [45] else [] : List UInt8) = [] := if_neg hn
    have e : (⟨([] : List UInt8).toArray⟩ : ByteArray) ++ s = s := by
      apply ByteArray.ext
      simp
    rw [e0, e]
    refine evSucc ?_
    simp only [spec_FormatInt.l0, if_true]
    exact evF (n < 0) hn (Ev.now _)
theorem dq0 (q : Int) (m : Nat) (h : q.natAbs = m / 10) (hm : m < 10) : q = 0 := by omega
theorem dqb (q : Int) (m : Nat) (h : q.natAbs = m / 10) (hm : m ≤ 9223372036854775808) : -9223372036854775808 ≤ q ∧ q ≤ 9223372036854775807 := by omega
theorem drn (r : Int) (m : Nat) (h : r.natAbs = m % 10) (hr : r < 0) : wrap64 (-r) = ((m % 10 : Nat) : Int) := by
  have e : -r = ((m % 10 : Nat) : Int) := by omega
  rw [e]
  exact w64 (by omega) (by omega)
theorem drp (r : Int) (m : Nat) (h : r.natAbs = m % 10) (hr : ¬ r < 0) : r = ((m % 10 : Nat) : Int) := by omega
theorem dhd (m : Nat) : (wrap64 (48 + ((m % 10 : Nat) : Int))) % 256 = ((48 + m % 10 : Nat) : Int) := by
  rw [w64 (by omega) (by omega)]
  omega
theorem dmod (x : Int) (m : Nat) (hx : x.natAbs = m) : (Int.tmod x 10).natAbs = m % 10 := by rw [Int.natAbs_tmod, hx]; rfl
theorem ddiv (x : Int) (m : Nat) (hx : x.natAbs = m) : (Int.tdiv x 10).natAbs = m / 10 := by rw [Int.natAbs_tdiv, hx]; rfl
theorem dx0 (x : Int) (m : Nat) (hx : x.natAbs = m) (h0 : m ≠ 0) : ¬ x = 0 := by omega
theorem dmb (x : Int) (m : Nat) (hx : x.natAbs = m) (hlo : -9223372036854775808 ≤ x) (hhi : x ≤ 9223372036854775807) : m ≤ 9223372036854775808 := by omega
theorem nle (a b : Nat) (h : a + b ≤ 30) : 1 + a ≤ 40 := by omega
theorem nsz (a b : Nat) (h : a + b ≤ 30) : 1 + a ≤ 9223372036854775807 := by omega
theorem ndz (m : Nat) (h : ¬ m < 10) : m / 10 ≠ 0 := by omega
theorem nlen (a b c : Nat) (h : c = b + 1) (hs : a + c ≤ 30) : 1 + a + b ≤ 30 := by omega
theorem fmt_loop (n : Int) (N : ByteArray) (hN : ∀ s : ByteArray, s.size ≤ 40 → Ev (fun k => spec_FormatInt.l0 k n s 0) (N ++ s)) (m : Nat) : ∀ (x : Int) (s T : ByteArray), T = (⟨(Lib.decDigits m).toArray⟩ : ByteArray) ++ s → x.natAbs = m → m ≠ 0 → -9223372036854775808 ≤ x → x ≤ 9223372036854775807 → s.size + (Lib.decDigits m).length ≤ 30 →
    Ev (fun k => spec_FormatInt.l0 k n s x) (N ++ T) := by
  induction m using Nat.strongRecOn with
  | _ m ih =>
    intro x s T hT hx h0 hlo hhi hs
    have x0 : ¬ x = 0 := dx0 x m hx h0
    have hmod0 : (Int.tmod x 10).natAbs = m % 10 := dmod x m hx
    have hdiv0 : (Int.tdiv x 10).natAbs = m / 10 := ddiv x m hx
    have ex : ∃ r q : Int, Aside0 (Int.tmod x 10 = r) ∧ Aside0 (Int.tdiv x 10 = q) ∧ r.natAbs = m % 10 ∧ q.natAbs = m / 10 := ⟨_, _, ⟨rfl⟩, ⟨rfl⟩, hmod0, hdiv0⟩
    clear hmod0 hdiv0
    obtain ⟨r, q, hR, hQ, hmod, hdiv⟩ := ex
    have hmb : m ≤ 9223372036854775808 := dmb x m hx hlo hhi
    have wd : wrap64 q = q := w64 (dqb q m hdiv hmb).1 (dqb q m hdiv hmb).2
    have hd : (wrap64 (48 + ((m % 10 : Nat) : Int))) % 256 = ((48 + m % 10 : Nat) : Int) := dhd m
    have eB : ∃ B : ByteArray, Aside0 (strOfNums [((48 + m % 10 : Nat) : Int)] = B) ∧ B.size = 1 ∧ Aside0 (B = (⟨[UInt8.ofNat (48 + m % 10)].toArray⟩ : ByteArray)) := ⟨(⟨[UInt8.ofNat (48 + m % 10)].toArray⟩ : ByteArray), ⟨by rw [str_one, Int.toNat_natCast]⟩, by rw [size_mk, List.length_singleton], ⟨rfl⟩⟩
    obtain ⟨B, hone, hB, hBe⟩ := eB
    have hbs : (B ++ s).size = 1 + s.size := by rw [ByteArray.size_append, hB]
    have hsz : B.size + s.size ≤ 9223372036854775807 := by rw [hB]; exact nsz s.size _ hs
    have next : Ev (fun k => spec_FormatInt.l0 k n (B ++ s) q) (N ++ T) := by
      by_cases h10 : m < 10
      · have hz : q = 0 := dq0 q m hdiv h10
        have e : T = B ++ s := by rw [hT, hBe.out, Dec.dec_low h10, Nat.mod_eq_of_lt h10]
        rw [hz, e]
        exact hN (B ++ s) (by rw [hbs]; exact nle s.size _ hs)
      · have hlen : (Lib.decDigits m).length = (Lib.decDigits (m / 10)).length + 1 := by rw [Dec.dec_step h10, List.length_append, List.length_singleton]
        have e : T = (⟨(Lib.decDigits (m / 10)).toArray⟩ : ByteArray) ++ (B ++ s) := by rw [hT, hBe.out, Dec.dec_step h10, ← ByteArray.mk_append_mk, ByteArray.append_assoc]
        exact ih (m / 10) (Nat.div_lt_self (Nat.pos_of_ne_zero h0) (by decide)) q (B ++ s) T e hdiv (ndz m h10) (dqb q m hdiv hmb).1 (dqb q m hdiv hmb).2 (by rw [hbs]; exact nlen _ _ _ hlen hs)
    clear hT hBe ih hN
    generalize N ++ T = R at next ⊢
    refine evSucc ?_
    simp only [spec_FormatInt.l0, hR.out, hQ.out, wd]
    refine evF (x = 0) x0 ?_
    by_cases hneg : r < 0
    · have e1 : wrap64 (-r) = ((m % 10 : Nat) : Int) := drn r m hmod hneg
      refine evT (r < 0) hneg ?_
      simp only [e1, hd, Option.bind_some, hone.out]
      exact evT (B.size + s.size ≤ 9223372036854775807) hsz next
    · have e1 : r = ((m % 10 : Nat) : Int) := drp r m hmod hneg
      refine evF (r < 0) hneg ?_
      simp only [e1, hd, Option.bind_some, hone.out]
      exact evT (B.size + s.size ≤ 9223372036854775807) hsz next
theorem fmt_ev (n : Int) (hlo : -9223372036854775808 ≤ n) (hhi : n ≤ 9223372036854775807) : Ev (fun k => spec_FormatInt.f k n) (⟨(Lib.itoa n).toArray⟩ : ByteArray) := by
  unfold spec_FormatInt.f
  by_cases h0 : n = 0
  · subst h0
    refine evT ((0 : Int) = 0) rfl ?_
    have e : (⟨#[48]⟩ : ByteArray) = ⟨(Lib.itoa 0).toArray⟩ := by
      unfold Lib.itoa
      rw [if_neg (by omega), show (0 : Int).toNat = 0 from rfl, Dec.dec_low (by omega)]
      rfl
    rw [e]
    exact Ev.now _
  · have hl := Dec.dec_len n.natAbs 20 (by omega) (by omega)
    have hz := fmt_loop n (⟨(if n < 0 then [45] else [] : List UInt8).toArray⟩ : ByteArray) (fun s hs => fmt_zero n s hs) n.natAbs n (⟨#[]⟩ : ByteArray) _ rfl rfl (by omega) hlo hhi (by rw [show (⟨#[]⟩ : ByteArray).size = 0 from rfl]; omega)
    have e : (⟨(if n < 0 then [45] else [] : List UInt8).toArray⟩ : ByteArray) ++ (⟨(Lib.decDigits n.natAbs).toArray⟩ ++ (⟨#[]⟩ : ByteArray)) = ⟨(Lib.itoa n).toArray⟩ := by
      have e0 : (⟨#[]⟩ : ByteArray) = ⟨([] : List UInt8).toArray⟩ := rfl
      rw [e0, ByteArray.mk_append_mk, ByteArray.mk_append_mk, List.append_nil]
      unfold Lib.itoa
      by_cases hn : n < 0
      · rw [if_pos hn, if_pos hn]; rfl
      · rw [if_neg hn, if_neg hn, List.nil_append, show n.natAbs = n.toNat by omega]
    rw [e] at hz
    exact evF (n = 0) h0 hz

theorem rdV (l : List S52) (i : Nat) : rd_T52 l (i : Int) = l.getD i z52 := by simp [rd_T52]

def VOk (v : S52) : Prop := I64 v.f0 ∧ (v.f1.length ≤ 1048576 ∧ ∀ x ∈ v.f1, I64 x)
def wordP (v : S52) : List UInt8 := if v.f1.length = 0 then Lib.itoa v.f0 else Lib.join (v.f1.map Lib.itoa) [46]
def textP (m : List S52) : List UInt8 := Lib.join (m.map wordP) [32]
def msgTextP (m : List S52) : ByteArray := if m.length = 0 then (⟨#[45]⟩ : ByteArray) else BB (textP m)
theorem items_len (l : List Int) (hl : l.length ≤ 1048576) (hv : ∀ x ∈ l, I64 x) : (Lib.join (l.map Lib.itoa) [46]).length ≤ 23068672 := by
  have := join_len [46] rfl 21 (l.map Lib.itoa) (by
    intro x hx
    obtain ⟨n, hn, rfl⟩ := List.mem_map.1 hx
    exact itoa_len n (hv n hn).1 (hv n hn).2)
  rw [List.length_map] at this
  omega
theorem word_len (v : S52) (h : VOk v) : (wordP v).length ≤ 23068672 := by
  unfold wordP
  by_cases h0 : v.f1.length = 0
  · rw [if_pos h0]
    have := itoa_len v.f0 h.1.1 h.1.2
    omega
  · rw [if_neg h0]
    exact items_len v.f1 h.2.1 h.2.2
theorem text_len (m : List S52) (hl : m.length ≤ 1048576) (hv : ∀ v ∈ m, VOk v) : (textP m).length ≤ 100000000000000 := by
  unfold textP
  have := join_len [32] rfl 23068672 (m.map wordP) (by
    intro x hx
    obtain ⟨n, hn, rfl⟩ := List.mem_map.1 hx
    exact word_len n (hv n hn))
  rw [List.length_map] at this
  have h2 : m.length * (23068672 + 1) ≤ 1048576 * (23068672 + 1) := Nat.mul_le_mul_right _ hl
  omega
theorem implText_ev (m : List S52) (hl : m.length ≤ 1048576) (hv : ∀ v ∈ m, VOk v) : Ev (fun k => impl_MessageText.f k m) (msgTextP m) := by
  unfold impl_MessageText.f
  have hj := text_len m hl hv
  have := evUp (g := fun i k => impl_MessageText.l0 k ((m.take i).map (fun v => BB (wordP v))) m (m.length : Int) (i : Int)) (R := fun _ => msgTextP m) m.length ?_ ?_ 0 (Nat.zero_le _)
  · simpa using this
  · refine evSucc ?_
    simp only [impl_MessageText.l0]
    refine evF ((m.length : Int) < (m.length : Int)) (by omega) ?_
    have hlen : ((m.take m.length).map (fun v => BB (wordP v))).length = m.length := by rw [List.length_map, List.take_length]
    unfold msgTextP
    by_cases h0 : m.length = 0
    · rw [if_pos h0]
      exact evT _ (by rw [hlen]; omega) (Ev.now _)
    · rw [if_neg h0]
      refine evF _ (by rw [hlen]; omega) ?_
      have hm : ((m.take m.length).map (fun v => BB (wordP v))).map (·.data.toList) = m.map wordP := by
        rw [List.take_length, List.map_map]
        rfl
      have hf := joinF ((m.take m.length).map (fun v => BB (wordP v))) (⟨#[32]⟩ : ByteArray) (by rw [hlen]; exact hl) (by rw [hm]; exact hj)
      rw [hm] at hf
      simp only [hf, Option.bind_some]
      exact Ev.now _
  · intro i hlt ih
    have hx := hv (m.getD i z52) (getD_mem hlt)
    have hn : (m.take i).map (fun v => BB (wordP v)) ++ [BB (wordP (m.getD i z52))] = (m.take (i + 1)).map (fun v => BB (wordP v)) := by
      rw [List.take_succ_eq_append_getElem hlt, List.map_append, getD_get hlt]
      rfl
    have hc : ((m.take i).map (fun v => BB (wordP v))).length < 8796093022208 := by rw [List.length_map, List.length_take]; omega
    refine evSucc ?_
    simp only [impl_MessageText.l0, rdV, fmtI _ hx.1.1 hx.1.2, Option.bind_some, wsucc (show i < 4611686018427387904 by omega)]
    refine evT ((i : Int) < (m.length : Int)) (by omega) (evT (0 ≤ (i : Int)) (by omega) (evT ((i : Int) < (m.length : Int)) (by omega) ?_))
    rw [← hn] at ih
    generalize m.getD i z52 = v at hx ih ⊢
    unfold wordP at ih
    by_cases h0 : v.f1.length = 0
    · rw [if_pos h0] at ih
      exact evF _ (by omega) (evT _ hc ih)
    · rw [if_neg h0] at ih
      refine evT _ (by omega) (Ev.bind (joined_ev v.f1 (⟨#[46]⟩ : ByteArray) hx.2.1 hx.2.2 rfl) (evT _ hc ih))
theorem specText_in (m : List S52) (i : Nat) (hi : i < m.length) (hb : i < 4611686018427387904) (R : ByteArray) (L : List Int) (hL : (m.getD i z52).f1 = L) (hLb : L.length < 4611686018427387904) : ∀ (rest p : List Int) (s : ByteArray), L = p ++ rest → (∀ x ∈ rest, I64 x) → s.size + (inP p.length (rest.map Lib.itoa) [46]).length ≤ 100000000000000 →
    Ev (fun k => spec_MessageText.l0 k m (s ++ BB (inP p.length (rest.map Lib.itoa) [46])) ((i + 1 : Nat) : Int)) R → Ev (fun k => spec_MessageText.l1 k m s (i : Int) (p.length : Int)) R
  | [], p, s, e, _, _, h => by
    rw [List.map_nil, inP_nil, BB_nil] at h
    rw [List.append_nil] at e
    refine evSucc ?_
    simp only [spec_MessageText.l1, rdV, hL, wsucc hb]
    exact evT _ (by omega) (evT _ (by omega) (evF _ (by rw [e]; omega) h))
  | x :: r, p, s, e, hv, hz, h => by
    have hx := hv x List.mem_cons_self
    have hlen : p.length < L.length := by rw [e, List.length_append, List.length_cons]; omega
    have hrd : rd L (p.length : Int) = x := by rw [rdn, e]; exact getD_mid p x r 0
    have hp1 : (p ++ [x]).length = p.length + 1 := by rw [List.length_append, List.length_singleton]
    have ih := specText_in m i hi hb R L hL hLb r (p ++ [x])
    rw [hp1] at ih
    refine evSucc ?_
    simp only [spec_MessageText.l1, rdV, hL, hrd, wsucc (show p.length < 4611686018427387904 by omega)]
    refine evT _ (by omega) (evT _ (by omega) (evT _ (by omega) ?_))
    by_cases h0 : p.length = 0
    · rw [List.map_cons, h0, inP_first] at h hz
      rw [← BB_append] at h
      rw [List.length_append] at hz
      refine evF _ (by omega) (evT _ (by omega) (Ev.bind (fmt_ev x hx.1 hx.2) ?_))
      refine evT _ (sz63 s.size (Lib.itoa x).length (by omega)) ?_
      rw [h0, Nat.zero_add] at ih
      refine (by rw [h0]; exact ih (s ++ BB (Lib.itoa x)) (by rw [e, List.append_assoc]; rfl) (fun y hy => hv y (List.mem_cons_of_mem _ hy)) (by rw [BB_size]; omega) h)
    · rw [List.map_cons, inP_next _ h0] at h hz
      rw [← BB_append, ← BB_append] at h
      rw [List.length_append, List.length_append] at hz
      have h46 : ([46] : List UInt8).length = 1 := rfl
      refine evT _ (by omega) (evT _ (sz63 s.size 1 (by omega)) (evT _ (by omega) (Ev.bind (fmt_ev x hx.1 hx.2) ?_)))
      have hsz : (s ++ BB [46]).size = s.size + 1 := BB_size s [46]
      refine evT _ (sz63 (s ++ BB [46]).size (Lib.itoa x).length (by omega)) ?_
      exact ih ((s ++ BB [46]) ++ BB (Lib.itoa x)) (by rw [e, List.append_assoc]; rfl) (fun y hy => hv y (List.mem_cons_of_mem _ hy)) (by rw [BB_size, hsz]; omega) h
theorem specText_j1 (m : List S52) (i : Nat) (hi : i < m.length) (hb : i < 4611686018427387904) (v : S52) (hv : m.getD i z52 = v) (hok : VOk v) (s : ByteArray) (R : ByteArray) (hz : s.size + (wordP v).length ≤ 100000000000000)
    (h : Ev (fun k => spec_MessageText.l0 k m (s ++ BB (wordP v)) ((i + 1 : Nat) : Int)) R) : Ev (fun k => spec_MessageText.j1 k m s (i : Int)) R := by
  have hin := specText_in m i hi hb R v.f1 (by rw [hv]) (by have := hok.2.1; omega) v.f1 []
  refine evSucc ?_
  simp only [spec_MessageText.j1, rdV, hv]
  refine evT _ (by omega) (evT _ (by omega) ?_)
  unfold wordP at h hz
  by_cases h0 : v.f1.length = 0
  · rw [if_pos h0] at h hz
    have hn : v.f1 = [] := List.length_eq_zero_iff.1 h0
    refine evT _ (by omega) (Ev.bind (fmt_ev v.f0 hok.1.1 hok.1.2) (evT _ (sz63 s.size (Lib.itoa v.f0).length hz) ?_))
    refine evSucc ?_
    simp only [spec_MessageText.j2]
    refine hin (s ++ BB (Lib.itoa v.f0)) rfl hok.2.2 ?_ ?_
    · rw [hn, List.map_nil, inP_nil, BB_size]
      exact hz
    · rw [hn, List.map_nil, inP_nil, BB_nil]
      exact h
  · rw [if_neg h0] at h hz
    refine evF _ (by omega) (evSucc ?_)
    simp only [spec_MessageText.j2]
    exact hin s rfl hok.2.2 hz h
theorem specText_out (m : List S52) (hm : m.length ≤ 1048576) (h0 : m.length ≠ 0) (hv : ∀ v ∈ m, VOk v) : ∀ (rest p : List S52) (s : ByteArray), m = p ++ rest → s.size + (inP p.length (rest.map wordP) [32]).length ≤ 100000000000000 →
    Ev (fun k => spec_MessageText.l0 k m s (p.length : Int)) (s ++ BB (inP p.length (rest.map wordP) [32]))
  | [], p, s, e, hz => by
    rw [List.map_nil, inP_nil, BB_nil]
    rw [List.append_nil] at e
    refine evSucc ?_
    simp only [spec_MessageText.l0]
    exact evF _ (by rw [e]; omega) (evF _ (by omega) (Ev.now _))
  | v :: r, p, s, e, hz => by
    have hok := hv v (by rw [e]; simp)
    have hlen : p.length < m.length := by rw [e, List.length_append, List.length_cons]; omega
    have hgd : m.getD p.length z52 = v := by rw [e]; exact getD_mid p v r _
    have hp1 : (p ++ [v]).length = p.length + 1 := by rw [List.length_append, List.length_singleton]
    have ih := specText_out m hm h0 hv r (p ++ [v])
    rw [hp1] at ih
    refine evSucc ?_
    simp only [spec_MessageText.l0]
    refine evT _ (by omega) ?_
    by_cases hp : p.length = 0
    · rw [List.map_cons, hp, inP_first] at hz ⊢
      rw [← BB_append]
      rw [List.length_append] at hz
      rw [hp] at ih hlen hgd
      rw [Nat.zero_add] at ih
      have h2 := ih (s ++ BB (wordP v)) (by rw [e, List.append_assoc]; rfl) (by rw [BB_size]; omega)
      refine evF _ (by omega) ?_
      exact specText_j1 m 0 hlen (by omega) v hgd hok s _ (by omega) h2
    · rw [List.map_cons, inP_next _ hp] at hz ⊢
      rw [← BB_append, ← BB_append]
      rw [List.length_append, List.length_append] at hz
      have h32 : ([32] : List UInt8).length = 1 := rfl
      have hsz : (s ++ BB [32]).size = s.size + 1 := BB_size s [32]
      have h2 := ih ((s ++ BB [32]) ++ BB (wordP v)) (by rw [e, List.append_assoc]; rfl) (by rw [BB_size, hsz]; omega)
      refine evT _ (by omega) (evT _ (sz63 s.size 1 (by omega)) ?_)
      exact specText_j1 m p.length hlen (by omega) v hgd hok (s ++ BB [32]) _ (by rw [hsz]; omega) h2
theorem specText_ev (m : List S52) (hl : m.length ≤ 1048576) (hv : ∀ v ∈ m, VOk v) : Ev (fun k => spec_MessageText.f k m) (msgTextP m) := by
  unfold spec_MessageText.f msgTextP
  by_cases h0 : m.length = 0
  · rw [if_pos h0]
    refine evSucc ?_
    simp only [spec_MessageText.l0]
    exact evF _ (by omega) (evT _ (by omega) (Ev.now _))
  · rw [if_neg h0]
    have := specText_out m hl h0 hv m [] (⟨#[]⟩ : ByteArray) rfl (by have := text_len m hl hv; show 0 + (textP m).length ≤ _; omega)
    have e : (⟨#[]⟩ : ByteArray) ++ BB (inP ([] : List S52).length (m.map wordP) [32]) = BB (textP m) := by
      apply ByteArray.ext
      simp [BB, inP, textP]
    rw [e] at this
    exact this

theorem toIntS_ev (l : List Int) (hl : l.length ≤ 35184372088832) : Ev (fun k => laws_toIntS.f k l) l := by
  have H : Ev (fun k => laws_toIntS.l0 k l (List.replicate l.length 0) 0) l := by
    have := evUp (g := fun i k => laws_toIntS.l0 k l (l.take i ++ List.replicate (l.length - i) 0) (i : Int)) (R := fun _ => l) l.length ?_ ?_ 0 (Nat.zero_le _)
    · simpa using this
    · refine Ev.step (f := fun _ => some l) (fun k => ?_) (Ev.now _)
      simp only [laws_toIntS.l0]
      rw [if_neg (by omega)]
      simp
    · intro i hi ih
      refine Ev.step (fun k => ?_) ih
      simp only [laws_toIntS.l0]
      rw [if_pos (by omega), if_pos (by omega), if_pos (by rw [take_rep_len l 0 i (by omega)]; omega), wsucc (by omega), rdn, Int.toNat_natCast, take_set_rep l 0 0 i hi]
  refine Ev.congr (fun k => ?_) H
  unfold laws_toIntS.f
  rw [if_pos (by omega), if_pos (by omega)]
  simp

theorem eqIntS_ev (a b : List Int) (hl : a.length ≤ 281474976710656) : Ev (fun k => laws_eqIntS.f k a b) (decide (a = b)) := by
  by_cases hn : a.length = b.length
  · have H : Ev (fun k => laws_eqIntS.l0 k a b 0) (decide (a = b)) := by
      have := evUp (g := fun i k => laws_eqIntS.l0 k a b (i : Int)) (R := fun i => decide (a.drop i = b.drop i)) a.length ?_ ?_ 0 (Nat.zero_le _)
      · simpa using this
      · refine Ev.step (f := fun _ => some true) (fun k => ?_) (by simpa [hn] using Ev.now true)
        simp only [laws_eqIntS.l0]
        rw [if_neg (by omega)]
      · intro i hi ih
        have hd := drop_eq_iff a b 0 i hi (by omega)
        by_cases he : a.getD i 0 = b.getD i 0
        · refine Ev.step (f := fun k => laws_eqIntS.l0 k a b ((i + 1 : Nat) : Int)) (fun k => ?_) ?_
          · simp only [laws_eqIntS.l0]
            rw [if_pos (by omega), if_pos (by omega), if_pos (by omega), rdn, rdn, if_pos he, wsucc (by omega)]
          · have e : decide (a.drop i = b.drop i) = decide (a.drop (i + 1) = b.drop (i + 1)) := decide_eq_decide.mpr (hd.trans (and_iff_right he))
            simp only [e]
            exact ih
        · refine Ev.step (f := fun _ => some false) (fun k => ?_) ?_
          · simp only [laws_eqIntS.l0]
            rw [if_pos (by omega), if_pos (by omega), if_pos (by omega), rdn, rdn, if_neg he]
          · have e : decide (a.drop i = b.drop i) = false := decide_eq_false (fun h => he (hd.mp h).1)
            simp only [e]
            exact Ev.now false
    refine Ev.congr (fun k => ?_) H
    unfold laws_eqIntS.f
    rw [if_pos (by omega)]
  · have e : decide (a = b) = false := decide_eq_false (fun h => hn (by rw [h]))
    rw [e]
    refine Ev.congr (f := fun _ => some false) (fun k => ?_) (Ev.now false)
    unfold laws_eqIntS.f
    rw [if_neg (by omega)]
theorem eqIntS_same (a : List Int) (hl : a.length ≤ 281474976710656) : Ev (fun k => laws_eqIntS.f k a a) true := by simpa using eqIntS_ev a a hl

theorem toValue_ev (n : Int) (l : List Int) (hl : l.length ≤ 1048576) : Ev (fun k => laws_toValue.f k n l) (n, l) := by
  unfold laws_toValue.f
  exact Ev.bind (toIntS_ev l (by omega)) (Ev.now _)
theorem eqValue_same (n : Int) (l : List Int) (hl : l.length ≤ 1048576) : Ev (fun k => laws_eqValue.f k n l n l) true := by
  unfold laws_eqValue.f
  refine evT (n = n) rfl (Ev.bind (eqIntS_same l (by omega)) ?_)
  simp only [if_true]
  exact Ev.now _
theorem szIntS_eq (l : List Int) (a : Int) (h0 : 0 ≤ a) (h1 : a ≤ 1048576) (hl : l.length ≤ maxLen) : laws_szIntS.f l a = some (if a < (l.length : Int) then -1 else a - (l.length : Int)) := by
  unfold maxLen at hl
  unfold laws_szIntS.f
  rw [w64 (by omega) (by omega)]
  by_cases h : a < (l.length : Int)
  · rw [if_pos h, if_pos (by omega)]
  · rw [if_neg h, if_neg (by omega)]
theorem szValue_eq (n : Int) (l : List Int) (a : Int) (h0 : 0 ≤ a) (h1 : a ≤ 1048576) (hl : l.length ≤ maxLen) : laws_szValue.f n l a = some (if a < (l.length : Int) then -1 else a - (l.length : Int)) := by
  unfold laws_szValue.f
  rw [szIntS_eq l a h0 h1 hl]
  by_cases h : a < (l.length : Int)
  · rw [if_pos h]; rfl
  · rw [if_neg h]
    simp only [Option.bind_some]
    rw [if_neg (by omega)]

def cvV (x : S67) : S52 := ⟨x.f0, x.f1⟩
theorem rdLV (l : List S67) (i : Nat) : rd_T67 l (i : Int) = l.getD i z67 := by simp [rd_T67]

theorem toValueS_ev (l : List S67) (hl : l.length ≤ 1048576) (hi : ∀ x ∈ l, x.f1.length ≤ 1048576) : Ev (fun k => laws_toValueS.f k l) (l.map cvV) := by
  have H : Ev (fun k => laws_toValueS.l0 k l (List.replicate l.length z52) 0) (l.map cvV) := by
    have := evUp (g := fun i k => laws_toValueS.l0 k l ((l.map cvV).take i ++ List.replicate ((l.map cvV).length - i) z52) (i : Int)) (R := fun _ => l.map cvV) l.length ?_ ?_ 0 (Nat.zero_le _)
    · simpa using this
    · refine evSucc ?_
      simp only [laws_toValueS.l0]
      refine evF ((l.length : Int) < (l.length : Int)) (by omega) ?_
      simp only [List.length_map, Nat.sub_self, List.replicate_zero, List.append_nil]
      rw [List.take_of_length_le (by simp)]
      exact Ev.now _
    · intro i hlt ih
      have hs := take_set_rep (l.map cvV) z52 z52 i (by simpa using hlt)
      have hg : (l.map cvV).getD i z52 = cvV (l.getD i z67) := by
        rw [getD_get (by simpa using hlt), getD_get hlt]
        simp
      rw [hg] at hs
      have hx := hi (l.getD i z67) (getD_mem hlt)
      refine evSucc ?_
      simp only [laws_toValueS.l0, rdLV]
      refine evT ((i : Int) < (l.length : Int)) (by omega) (evT (0 ≤ (i : Int)) (by omega) ?_)
      refine Ev.bind (toValue_ev _ _ hx) ?_
      refine evT ((i : Int) < ((((l.map cvV).take i ++ List.replicate ((l.map cvV).length - i) z52).length : Nat) : Int)) (by simp; omega) ?_
      rw [wsucc (by omega), Int.toNat_natCast]
      rw [← hs] at ih
      exact ih
  refine Ev.congr (fun k => ?_) H
  unfold laws_toValueS.f
  rw [if_pos (by omega), if_pos (by omega)]
  simp
theorem eqValueS_same (a : List S52) (hl : a.length ≤ 1048576) (hi : ∀ x ∈ a, x.f1.length ≤ 1048576) : Ev (fun k => laws_eqValueS.f k a a) true := by
  unfold laws_eqValueS.f
  refine evT ((a.length : Int) = (a.length : Int)) rfl ?_
  have := evUp (g := fun i k => laws_eqValueS.l0 k a a (i : Int)) (R := fun _ => true) a.length ?_ ?_ 0 (Nat.zero_le _)
  · simpa using this
  · refine evSucc ?_
    simp only [laws_eqValueS.l0]
    exact evF ((a.length : Int) < (a.length : Int)) (by omega) (Ev.now _)
  · intro i hlt ih
    have hx := hi (a.getD i z52) (getD_mem hlt)
    refine evSucc ?_
    simp only [laws_eqValueS.l0, rdV]
    refine evT ((i : Int) < (a.length : Int)) (by omega) (evT (0 ≤ (i : Int)) (by omega) (evT ((i : Int) < (a.length : Int)) (by omega) ?_))
    refine Ev.bind (eqValue_same _ _ hx) ?_
    simp only [if_true]
    rw [wsucc (by omega)]
    exact ih
theorem szValueS_ev (l : List S67) (a : Int) (h0 : 0 ≤ a) (h1 : a ≤ 1048576) (hl : l.length ≤ maxLen) (hi : ∀ x ∈ l, x.f1.length ≤ maxLen) :
    ∃ r, Ev (fun k => laws_szValueS.f k l a) r ∧ (0 ≤ r → r ≤ 1048576 ∧ l.length ≤ 1048576 ∧ ∀ x ∈ l, x.f1.length ≤ 1048576) := by
  unfold laws_szValueS.f
  unfold maxLen at hl
  rw [w64 (by omega) (by omega)]
  by_cases hbig : a - (l.length : Int) < 0
  · exact ⟨-1, evT (a - (l.length : Int) < 0) hbig (Ev.now _), fun h => by omega⟩
  have H : ∀ (d i : Nat) (left : Int), i + d = l.length → 0 ≤ left → left ≤ 1048576 → (∀ x ∈ l.take i, x.f1.length ≤ 1048576) →
      ∃ r, Ev (fun k => laws_szValueS.l0 k l left (i : Int)) r ∧ (0 ≤ r → r ≤ 1048576 ∧ ∀ x ∈ l, x.f1.length ≤ 1048576) := by
    intro d
    induction d with
    | zero =>
      intro i left hd hp hq hx
      refine ⟨left, evSucc ?_, fun _ => ⟨hq, ?_⟩⟩
      · simp only [laws_szValueS.l0]
        exact evF ((i : Int) < (l.length : Int)) (by omega) (Ev.now _)
      · rw [List.take_of_length_le (by omega)] at hx
        exact hx
    | succ d ih =>
      intro i left hd hp hq hx
      have hlt : i < l.length := by omega
      have hz := szValue_eq (l.getD i z67).f0 (l.getD i z67).f1 left hp hq (hi _ (getD_mem hlt))
      by_cases hb : left < ((l.getD i z67).f1.length : Int)
      · rw [if_pos hb] at hz
        refine ⟨-1, evSucc ?_, fun h => by omega⟩
        simp only [laws_szValueS.l0, rdLV, hz, Option.bind_some]
        exact evT ((i : Int) < (l.length : Int)) (by omega) (evT (0 ≤ (i : Int)) (by omega) (evT ((-1 : Int) < 0) (by omega) (Ev.now _)))
      · rw [if_neg hb] at hz
        obtain ⟨r, e, hr⟩ := ih (i + 1) (left - ((l.getD i z67).f1.length : Int)) (by omega) (by omega) (by omega) (fun x hx' => by
          rw [List.take_succ_eq_append_getElem hlt] at hx'
          rcases List.mem_append.1 hx' with h2 | h2
          · exact hx x h2
          · rw [List.mem_singleton.1 h2, ← getD_get (d := z67) hlt]
            omega)
        refine ⟨r, evSucc ?_, hr⟩
        simp only [laws_szValueS.l0, rdLV, hz, Option.bind_some]
        refine evT ((i : Int) < (l.length : Int)) (by omega) (evT (0 ≤ (i : Int)) (by omega) (evF (left - ((l.getD i z67).f1.length : Int) < 0) (by omega) ?_))
        rw [wsucc (by omega)]
        exact e
  obtain ⟨r, e, hr⟩ := H l.length 0 (a - (l.length : Int)) (by omega) (by omega) (by omega) (fun x hx => by simp at hx)
  exact ⟨r, evF (a - (l.length : Int) < 0) hbig e, fun h => ⟨(hr h).1, by omega, (hr h).2⟩⟩
theorem cv_items (l : List S67) (hi : ∀ x ∈ l, x.f1.length ≤ 1048576) : ∀ x ∈ l.map cvV, x.f1.length ≤ 1048576 := by
  intro x hx
  obtain ⟨y, hy, rfl⟩ := List.mem_map.1 hx
  exact hi y hy

theorem FnExactMessageText : laws_FnExactMessageText.Pure := by
  intro a ha
  refine Ev.rounds ?_
  unfold laws_FnExactMessageText.f
  obtain ⟨q, hy, hq⟩ := szValueS_ev a 1048576 (by omega) (by omega) ha.1 (fun x hx => (ha.2 x hx).2.1)
  refine Ev.bind hy ?_
  by_cases h1 : q < 0
  · exact evT (q < 0) h1 (Ev.now _)
  refine evF (q < 0) h1 ?_
  have hq := hq (by omega)
  have hal := hq.2.1
  have hai := hq.2.2
  have hcj := cv_items a hai
  have ham : (a.map cvV).length ≤ 1048576 := by rw [List.length_map]; omega
  have hok : ∀ v ∈ a.map cvV, VOk v := by
    intro v hv
    obtain ⟨x, hx, rfl⟩ := List.mem_map.1 hv
    have h2 := ha.2 x hx
    exact ⟨wfI h2.1, hai x hx, fun y hy => wfI (h2.2.2 y hy)⟩
  repeat first
    | with_reducible exact Ev.now _
    | (with_reducible refine Ev.bind (toValueS_ev _ ?_ ?_) ?_; (· (first | omega | assumption | (dsimp only; omega) | (simp; omega))); (· (first | omega | assumption | (dsimp only; omega) | (simp; omega))))
    | (with_reducible refine Ev.bind (eqValueS_same _ ?_ ?_) ?_; (· (first | omega | assumption | (dsimp only; omega) | (simp; omega))); (· (first | omega | assumption | (dsimp only; omega) | (simp; omega))))
    | (with_reducible refine Ev.bind (implText_ev _ ?_ ?_) ?_; (· (first | omega | assumption | (dsimp only; omega) | (simp; omega))); (· (first | omega | assumption | (dsimp only; omega) | (simp; omega))))
    | (with_reducible refine Ev.bind (specText_ev _ ?_ ?_) ?_; (· (first | omega | assumption | (dsimp only; omega) | (simp; omega))); (· (first | omega | assumption | (dsimp only; omega) | (simp; omega))))
    | simp only [if_true, if_false, Bool.false_eq_true, Bool.not_true, Bool.not_false, Bool.true_eq_false, mneg, mneg2, bne_self_eq_false, Option.bind_some]

end Go.Proofs.YtofgihojpggecaaDoor.Pure
