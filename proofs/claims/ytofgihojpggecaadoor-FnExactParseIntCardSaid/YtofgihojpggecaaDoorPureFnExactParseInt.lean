/- spec.FormatInt answers the decimal numeral of every int; spec.ParseInt answers what impl.ParseInt answers. No condition beyond those that each theorem names. -/
import Derived.Test.YtofgihojpggecaaDoorQFnExactParseIntx1
import Derived.Lib.ItoaNum
import Derived.Lib.AtoiAll
import Derived.Laws.Concat
namespace Go.Proofs.YtofgihojpggecaaDoor.Dec
open Go.Lib
theorem dec_step {u : Nat} (h : ¬ u < 10) : decDigits u = decDigits (u / 10) ++ [UInt8.ofNat (48 + u % 10)] := by rw [decDigits]; exact dif_neg h
theorem dec_low {u : Nat} (h : u < 10) : decDigits u = [UInt8.ofNat (48 + u)] := by rw [decDigits]; exact dif_pos h
theorem dig_nat {d : Nat} (h : d < 10) : (UInt8.ofNat (48 + d)).toNat = 48 + d := by
  rw [UInt8.toNat_ofNat']
  omega
theorem dec_digits (u : Nat) : ∀ c ∈ decDigits u, 48 ≤ c.toNat ∧ c.toNat ≤ 57 := by
  induction u using Nat.strongRecOn with
  | _ u ih =>
    intro c hc
    by_cases h : u < 10
    · rw [dec_low h, List.mem_singleton] at hc
      subst hc
      rw [dig_nat h]
      omega
    · rw [dec_step h] at hc
      rcases List.mem_append.1 hc with hc | hc
      · exact ih (u / 10) (by omega) c hc
      · rw [List.mem_singleton] at hc
        subst hc
        rw [dig_nat (by omega)]
        omega
theorem dec_ne (u : Nat) : decDigits u ≠ [] := by
  by_cases h : u < 10
  · rw [dec_low h]; simp
  · rw [dec_step h]; simp
theorem parse_snoc (c : UInt8) (hc : 48 ≤ c.toNat ∧ c.toNat ≤ 57) : ∀ (l : List UInt8) (acc v : Nat), parseUint10 acc l = .ok v → v < 1844674407370955162 → v * 10 + (c.toNat - 48) < 18446744073709551616 → parseUint10 acc (l ++ [c]) = .ok (v * 10 + (c.toNat - 48))
  | [], acc, v, h, h1, h2 => by
    simp only [parseUint10] at h
    injection h with h
    subst h
    show parseUint10 acc [c] = _
    simp only [parseUint10]
    rw [if_pos hc, if_neg (by omega), if_neg (by omega)]
  | d :: l, acc, v, h, h1, h2 => by
    rw [List.cons_append]
    simp only [parseUint10] at h ⊢
    split at h
    · rename_i hd
      rw [if_pos hd]
      split at h
      · cases h
      · rename_i h3
        rw [if_neg h3]
        split at h
        · cases h
        · rename_i h4
          rw [if_neg h4]
          exact parse_snoc c hc l _ v h h1 h2
    · cases h
theorem parse_dec (u : Nat) (hu : u < 1844674407370955162) : parseUint10 0 (decDigits u) = .ok u := by
  induction u using Nat.strongRecOn with
  | _ u ih =>
    by_cases h : u < 10
    · rw [dec_low h]
      have hd := dig_nat h
      simp only [parseUint10]
      rw [if_pos (by omega), if_neg (by omega), if_neg (by omega), hd]
      congr 1
      omega
    · rw [dec_step h]
      have hd := dig_nat (d := u % 10) (by omega)
      have h1 := ih (u / 10) (by omega) (by omega)
      rw [parse_snoc (UInt8.ofNat (48 + u % 10)) (by omega) _ 0 (u / 10) h1 (by omega) (by omega), hd]
      congr 1
      omega
theorem atoi_dec (u : Nat) (hu : u ≤ 1000000000000) : atoiAll (decDigits u) = .ok (u : Int) := by
  have hp := parse_dec u (by omega)
  have hd := dec_digits u
  have hn := dec_ne u
  generalize decDigits u = l at hp hd hn
  cases l with
  | nil => exact absurd rfl hn
  | cons c r =>
    have hc := hd c List.mem_cons_self
    unfold atoiAll parseMag
    simp only
    have e : (if c.toNat = 43 ∨ c.toNat = 45 then r else c :: r) = c :: r := if_neg (by omega)
    rw [e, if_neg (by simp), hp]
    have h45 : ¬ c.toNat = 45 := by omega
    simp only [h45, not_false_eq_true, true_and, false_and, if_false]
    rw [if_neg (by omega)]
theorem dec_len (u : Nat) : ∀ n, u < 10 ^ n → 1 ≤ n → (decDigits u).length ≤ n := by
  induction u using Nat.strongRecOn with
  | _ u ih =>
    intro n h1 h2
    by_cases h : u < 10
    · rw [dec_low h]; exact h2
    · obtain ⟨m, rfl⟩ : ∃ m, n = m + 1 := ⟨n - 1, by omega⟩
      rw [dec_step h, List.length_append, List.length_singleton]
      have hm : 1 ≤ m := by
        rcases Nat.eq_zero_or_pos m with h0 | h0
        · subst h0; simp at h1; omega
        · exact h0
      have := ih (u / 10) (by omega) m (by rw [Nat.pow_succ] at h1; omega) hm
      omega
end Go.Proofs.YtofgihojpggecaaDoor.Dec

namespace Go.Proofs.YtofgihojpggecaaDoor.Pure
open Go.RowKit Go.Proofs.YtofgihojpggecaaDoor.QFnExactParseInt Go.Proofs.YtofgihojpggecaaDoorW.PrintWords Go.Proofs.YtofgihojpggecaaDoorW.PrintLast Go.Proofs.YtofgihojpggecaaDoorW.PrintMore
set_option linter.unusedVariables false
set_option linter.unusedSimpArgs false
theorem w64 {x : Int} (h0 : -9223372036854775808 ≤ x) (h1 : x ≤ 9223372036854775807) : wrap64 x = x := by unfold wrap64; omega
theorem wsucc {i : Nat} (h : i < 4611686018427387904) : wrap64 ((i : Int) + 1) = ((i + 1 : Nat) : Int) := by unfold wrap64; omega
theorem wfI {x : Int} (h : (Lit.int .i64 x).wf = true) : -9223372036854775808 ≤ x ∧ x ≤ 9223372036854775807 := by
  simp only [Lit.wf, Bool.and_eq_true, decide_eq_true_eq] at h
  exact h
theorem wfB {x : Int} (h : (Lit.int .u8 x).wf = true) : 0 ≤ x ∧ x ≤ 255 := by
  simp only [Lit.wf, Bool.and_eq_true, decide_eq_true_eq] at h
  exact h
theorem rdn (l : List Int) (i : Nat) : rd l (i : Int) = l.getD i 0 := by simp [rd]
theorem evOne {α : Type} {f : Option α} {r : α} (h : f = some r) : Ev (fun _ => f) r := ⟨0, fun _ _ => h⟩
theorem evUp {ρ : Type} {g : Nat → Nat → Option ρ} {R : Nat → ρ} (n : Nat) (last : Ev (g n) (R n)) (step : ∀ i, i < n → Ev (g (i + 1)) (R (i + 1)) → Ev (g i) (R i)) : ∀ i, i ≤ n → Ev (g i) (R i) := by
  intro i hi
  obtain ⟨d, hd⟩ : ∃ d, i + d = n := ⟨n - i, by omega⟩
  induction d generalizing i with
  | zero => obtain rfl : i = n := by omega
            exact last
  | succ d ih => exact step i (by omega) (ih (i + 1) (by omega) (by omega))
theorem getD_mem {α : Type} {l : List α} {i : Nat} {d : α} (h : i < l.length) : l.getD i d ∈ l := by
  rw [List.getD_eq_getElem?_getD, List.getElem?_eq_getElem h]; exact List.getElem_mem h
theorem getD_get {α : Type} {l : List α} {i : Nat} {d : α} (h : i < l.length) : l.getD i d = l[i] := by
  rw [List.getD_eq_getElem?_getD, List.getElem?_eq_getElem h]; rfl
theorem take_set_rep {α : Type} (l : List α) (z d : α) (i : Nat) (h : i < l.length) : (l.take i ++ List.replicate (l.length - i) z).set i (l.getD i d) = l.take (i + 1) ++ List.replicate (l.length - (i + 1)) z := by
  obtain ⟨m, hm⟩ : ∃ m, l.length - i = m + 1 := ⟨l.length - i - 1, by omega⟩
  have hm' : l.length - (i + 1) = m := by omega
  rw [hm, hm', List.set_append_right _ _ (by rw [List.length_take]; omega), List.length_take, Nat.min_eq_left (by omega), Nat.sub_self, List.replicate_succ, List.set_cons_zero, getD_get h, List.take_succ_eq_append_getElem h, List.append_assoc, List.singleton_append]
theorem drop_eq_iff {α : Type} (a b : List α) (d : α) (i : Nat) (ha : i < a.length) (hb : i < b.length) : (a.drop i = b.drop i) ↔ (a.getD i d = b.getD i d ∧ a.drop (i + 1) = b.drop (i + 1)) := by
  rw [List.drop_eq_getElem_cons ha, List.drop_eq_getElem_cons hb, List.cons.injEq, getD_get ha, getD_get hb]
theorem take_rep_len {α : Type} (l : List α) (z : α) (i : Nat) (h : i ≤ l.length) : (l.take i ++ List.replicate (l.length - i) z).length = l.length := by
  simp; omega

theorem evSucc {α : Type} {g : Nat → Option α} {r : α} (h : Ev (fun k => g (k + 1)) r) : Ev g r := Ev.step (fun _ => rfl) h
theorem evIte {α : Type} {c : Prop} [Decidable c] {f g : Nat → Option α} {r : α} (h1 : c → Ev f r) (h2 : ¬ c → Ev g r) : Ev (fun k => if c then f k else g k) r := by
  by_cases h : c
  · simp only [if_pos h]; exact h1 h
  · simp only [if_neg h]; exact h2 h
theorem evT {α : Type} {f g : Nat → Option α} {r : α} (c : Prop) [Decidable c] (h : c) (h1 : Ev f r) : Ev (fun k => if c then f k else g k) r := by
  simp only [if_pos h]; exact h1
theorem evF {α : Type} {f g : Nat → Option α} {r : α} (c : Prop) [Decidable c] (h : ¬ c) (h1 : Ev g r) : Ev (fun k => if c then f k else g k) r := by
  simp only [if_neg h]; exact h1
theorem mneg (n : Nat) : ((1 : Int) + (n : Int) < 0) = False := eq_false (by omega)
theorem mneg2 (n m : Nat) : ((1 : Int) + (n : Int) + (m : Int) < 0) = False := eq_false (by omega)

theorem size_mk (l : List UInt8) : (⟨l.toArray⟩ : ByteArray).size = l.length := rfl
theorem str_one (v : Int) : strOfNums [v] = ⟨[UInt8.ofNat v.toNat].toArray⟩ := rfl
theorem fmt_zero (n : Int) (s : ByteArray) (hs : s.size ≤ 40) : Ev (fun k => spec_FormatInt.l0 k n s 0) ((⟨(if n < 0 then [45] else [] : List UInt8).toArray⟩ : ByteArray) ++ s) := by
  by_cases hn : n < 0
  · have e0 : (if n < 0 then [45] else [] : List UInt8) = [45] := if_pos hn
    rw [e0]
    refine evSucc ?_
    simp only [spec_FormatInt.l0, if_true]
    exact evT (n < 0) hn (evT (1 + s.size ≤ 9223372036854775807) (by omega) (Ev.now _))
  · have e0 : (if n < 0 then [45] else [] : List UInt8) = [] := if_neg hn
    have e : (⟨([] : List UInt8).toArray⟩ : ByteArray) ++ s = s := by
      apply ByteArray.ext
      simp
    rw [e0, e]
    refine evSucc ?_
    simp only [spec_FormatInt.l0, if_true]
    exact evF (n < 0) hn (Ev.now _)
theorem dq0 (q : Int) (m : Nat) (h : q.natAbs = m / 10) (hm : m < 10) : q = 0 := by omega
theorem dqb (q : Int) (m : Nat) (h : q.natAbs = m / 10) (hm : m ≤ 9223372036854775808) : -9223372036854775808 ≤ q ∧ q ≤ 9223372036854775807 := by omega
theorem drn (r : Int) (m : Nat) (h : r.natAbs = m % 10) (hr : r < 0) : wrap64 (-r) = ((m % 10 : Nat) : Int) := by
  have e : -r = ((m % 10 : Nat) : Int) := by omega
  rw [e]
  exact w64 (by omega) (by omega)
theorem drp (r : Int) (m : Nat) (h : r.natAbs = m % 10) (hr : ¬ r < 0) : r = ((m % 10 : Nat) : Int) := by omega
theorem dhd (m : Nat) : (wrap64 (48 + ((m % 10 : Nat) : Int))) % 256 = ((48 + m % 10 : Nat) : Int) := by
  rw [w64 (by omega) (by omega)]
  omega
theorem dmod (x : Int) (m : Nat) (hx : x.natAbs = m) : (Int.tmod x 10).natAbs = m % 10 := by rw [Int.natAbs_tmod, hx]; rfl
theorem ddiv (x : Int) (m : Nat) (hx : x.natAbs = m) : (Int.tdiv x 10).natAbs = m / 10 := by rw [Int.natAbs_tdiv, hx]; rfl
theorem dx0 (x : Int) (m : Nat) (hx : x.natAbs = m) (h0 : m ≠ 0) : ¬ x = 0 := by omega
theorem dmb (x : Int) (m : Nat) (hx : x.natAbs = m) (hlo : -9223372036854775808 ≤ x) (hhi : x ≤ 9223372036854775807) : m ≤ 9223372036854775808 := by omega
theorem nle (a b : Nat) (h : a + b ≤ 30) : 1 + a ≤ 40 := by omega
theorem nsz (a b : Nat) (h : a + b ≤ 30) : 1 + a ≤ 9223372036854775807 := by omega
theorem ndz (m : Nat) (h : ¬ m < 10) : m / 10 ≠ 0 := by omega
theorem nlen (a b c : Nat) (h : c = b + 1) (hs : a + c ≤ 30) : 1 + a + b ≤ 30 := by omega
theorem fmt_loop (n : Int) (N : ByteArray) (hN : ∀ s : ByteArray, s.size ≤ 40 → Ev (fun k => spec_FormatInt.l0 k n s 0) (N ++ s)) (m : Nat) : ∀ (x : Int) (s T : ByteArray), T = (⟨(Lib.decDigits m).toArray⟩ : ByteArray) ++ s → x.natAbs = m → m ≠ 0 → -9223372036854775808 ≤ x → x ≤ 9223372036854775807 → s.size + (Lib.decDigits m).length ≤ 30 →
    Ev (fun k => spec_FormatInt.l0 k n s x) (N ++ T) := by
  induction m using Nat.strongRecOn with
  | _ m ih =>
    intro x s T hT hx h0 hlo hhi hs
    have x0 : ¬ x = 0 := dx0 x m hx h0
    have hmod0 : (Int.tmod x 10).natAbs = m % 10 := dmod x m hx
    have hdiv0 : (Int.tdiv x 10).natAbs = m / 10 := ddiv x m hx
    have ex : ∃ r q : Int, Aside0 (Int.tmod x 10 = r) ∧ Aside0 (Int.tdiv x 10 = q) ∧ r.natAbs = m % 10 ∧ q.natAbs = m / 10 := ⟨_, _, ⟨rfl⟩, ⟨rfl⟩, hmod0, hdiv0⟩
    clear hmod0 hdiv0
    obtain ⟨r, q, hR, hQ, hmod, hdiv⟩ := ex
    have hmb : m ≤ 9223372036854775808 := dmb x m hx hlo hhi
    have wd : wrap64 q = q := w64 (dqb q m hdiv hmb).1 (dqb q m hdiv hmb).2
    have hd : (wrap64 (48 + ((m % 10 : Nat) : Int))) % 256 = ((48 + m % 10 : Nat) : Int) := dhd m
    have eB : ∃ B : ByteArray, Aside0 (strOfNums [((48 + m % 10 : Nat) : Int)] = B) ∧ B.size = 1 ∧ Aside0 (B = (⟨[UInt8.ofNat (48 + m % 10)].toArray⟩ : ByteArray)) := ⟨(⟨[UInt8.ofNat (48 + m % 10)].toArray⟩ : ByteArray), ⟨by rw [str_one, Int.toNat_natCast]⟩, by rw [size_mk, List.length_singleton], ⟨rfl⟩⟩
    obtain ⟨B, hone, hB, hBe⟩ := eB
    have hbs : (B ++ s).size = 1 + s.size := by rw [ByteArray.size_append, hB]
    have hsz : B.size + s.size ≤ 9223372036854775807 := by rw [hB]; exact nsz s.size _ hs
    have next : Ev (fun k => spec_FormatInt.l0 k n (B ++ s) q) (N ++ T) := by
      by_cases h10 : m < 10
      · have hz : q = 0 := dq0 q m hdiv h10
        have e : T = B ++ s := by rw [hT, hBe.out, Dec.dec_low h10, Nat.mod_eq_of_lt h10]
        rw [hz, e]
        exact hN (B ++ s) (by rw [hbs]; exact nle s.size _ hs)
      · have hlen : (Lib.decDigits m).length = (Lib.decDigits (m / 10)).length + 1 := by rw [Dec.dec_step h10, List.length_append, List.length_singleton]
        have e : T = (⟨(Lib.decDigits (m / 10)).toArray⟩ : ByteArray) ++ (B ++ s) := by rw [hT, hBe.out, Dec.dec_step h10, ← ByteArray.mk_append_mk, ByteArray.append_assoc]
        exact ih (m / 10) (Nat.div_lt_self (Nat.pos_of_ne_zero h0) (by decide)) q (B ++ s) T e hdiv (ndz m h10) (dqb q m hdiv hmb).1 (dqb q m hdiv hmb).2 (by rw [hbs]; exact nlen _ _ _ hlen hs)
    clear hT hBe ih hN
    generalize N ++ T = R at next ⊢
    refine evSucc ?_
    simp only [spec_FormatInt.l0, hR.out, hQ.out, wd]
    refine evF (x = 0) x0 ?_
    by_cases hneg : r < 0
    · have e1 : wrap64 (-r) = ((m % 10 : Nat) : Int) := drn r m hmod hneg
      refine evT (r < 0) hneg ?_
      simp only [e1, hd, Option.bind_some, hone.out]
      exact evT (B.size + s.size ≤ 9223372036854775807) hsz next
    · have e1 : r = ((m % 10 : Nat) : Int) := drp r m hmod hneg
      refine evF (r < 0) hneg ?_
      simp only [e1, hd, Option.bind_some, hone.out]
      exact evT (B.size + s.size ≤ 9223372036854775807) hsz next
theorem fmt_ev (n : Int) (hlo : -9223372036854775808 ≤ n) (hhi : n ≤ 9223372036854775807) : Ev (fun k => spec_FormatInt.f k n) (⟨(Lib.itoa n).toArray⟩ : ByteArray) := by
  unfold spec_FormatInt.f
  by_cases h0 : n = 0
  · subst h0
    refine evT ((0 : Int) = 0) rfl ?_
    have e : (⟨#[48]⟩ : ByteArray) = ⟨(Lib.itoa 0).toArray⟩ := by
      unfold Lib.itoa
      rw [if_neg (by omega), show (0 : Int).toNat = 0 from rfl, Dec.dec_low (by omega)]
      rfl
    rw [e]
    exact Ev.now _
  · have hl := Dec.dec_len n.natAbs 20 (by omega) (by omega)
    have hz := fmt_loop n (⟨(if n < 0 then [45] else [] : List UInt8).toArray⟩ : ByteArray) (fun s hs => fmt_zero n s hs) n.natAbs n (⟨#[]⟩ : ByteArray) _ rfl rfl (by omega) hlo hhi (by rw [show (⟨#[]⟩ : ByteArray).size = 0 from rfl]; omega)
    have e : (⟨(if n < 0 then [45] else [] : List UInt8).toArray⟩ : ByteArray) ++ (⟨(Lib.decDigits n.natAbs).toArray⟩ ++ (⟨#[]⟩ : ByteArray)) = ⟨(Lib.itoa n).toArray⟩ := by
      have e0 : (⟨#[]⟩ : ByteArray) = ⟨([] : List UInt8).toArray⟩ := rfl
      rw [e0, ByteArray.mk_append_mk, ByteArray.mk_append_mk, List.append_nil]
      unfold Lib.itoa
      by_cases hn : n < 0
      · rw [if_pos hn, if_pos hn]; rfl
      · rw [if_neg hn, if_neg hn, List.nil_append, show n.natAbs = n.toNat by omega]
    rw [e] at hz
    exact evF (n = 0) h0 hz

theorem btL (s : ByteArray) (i : Nat) (h : i < s.size) (c : UInt8) (r p : List UInt8) (e : s.data.toList = p ++ c :: r) (hi : p.length = i) : bt s (i : Int) = (c.toNat : Int) := by
  unfold bt
  rw [dif_pos (by rw [Int.toNat_natCast]; exact h)]
  have e1 : s.data.toList[i]? = some c := by rw [e, List.getElem?_append_right (by omega), hi, Nat.sub_self]; rfl
  have h2 : (i : Int).toNat = i := Int.toNat_natCast i
  have h3 : s.data[i]? = some c := by rw [← Array.getElem?_toList]; exact e1
  have h4 : s[(i : Int).toNat]'(by rw [h2]; exact h) = c := by
    have : s[(i : Int).toNat]'(by rw [h2]; exact h) = s.data[i]'h := by
      congr 1
    rw [this]
    have h5 := Array.getElem?_eq_getElem (xs := s.data) (i := i) h
    rw [h5] at h3
    exact Option.some.inj h3
  rw [h4]
def finP (s : ByteArray) (m : Nat) : Int × Bool := if 1000000000000 < m then (0, false) else if Lib.itoa (m : Int) = s.toList then ((m : Int), true) else (0, false)
def parseR (s : ByteArray) : List UInt8 → Nat → Int × Bool
  | [], m => finP s m
  | c :: r, m => if 48 ≤ c.toNat ∧ c.toNat ≤ 57 then parseR s r (10 * m + (c.toNat - 48)) else (0, false)
def dval : List UInt8 → Nat → Nat
  | [], m => m
  | c :: r, m => dval r (10 * m + (c.toNat - 48))
theorem dval_snoc (c : UInt8) : ∀ (l : List UInt8) (m : Nat), dval (l ++ [c]) m = 10 * dval l m + (c.toNat - 48)
  | [], m => rfl
  | d :: r, m => dval_snoc c r _
theorem dval_dec (v : Nat) : dval (Lib.decDigits v) 0 = v := by
  induction v using Nat.strongRecOn with
  | _ v ih =>
    by_cases h : v < 10
    · rw [Dec.dec_low h]
      show 10 * 0 + ((UInt8.ofNat (48 + v)).toNat - 48) = v
      rw [Dec.dig_nat h]; omega
    · rw [Dec.dec_step h, dval_snoc, ih (v / 10) (by omega), Dec.dig_nat (by omega)]; omega
theorem parseR_dig (s : ByteArray) : ∀ (r : List UInt8) (m : Nat), (∀ c ∈ r, 48 ≤ c.toNat ∧ c.toNat ≤ 57) → parseR s r m = finP s (dval r m)
  | [], m, _ => rfl
  | c :: r, m, h => by
    unfold parseR
    rw [if_pos (h c List.mem_cons_self), parseR_dig s r _ (fun d hd => h d (List.mem_cons_of_mem _ hd))]
    rfl
theorem itoa_nat (m : Nat) : Lib.itoa (m : Int) = Lib.decDigits m := by
  unfold Lib.itoa
  rw [if_neg (by omega), Int.toNat_natCast]
theorem parseR_not (s : ByteArray) (h : ∀ v : Nat, v ≤ 1000000000000 → s.toList ≠ Lib.decDigits v) : ∀ (r : List UInt8) (m : Nat), parseR s r m = (0, false)
  | [], m => by
    unfold parseR finP
    by_cases h1 : 1000000000000 < m
    · rw [if_pos h1]
    · rw [if_neg h1, if_neg (fun e => h m (by omega) (by rw [← e, itoa_nat]))]
  | c :: r, m => by
    unfold parseR
    by_cases hc : 48 ≤ c.toNat ∧ c.toNat ≤ 57
    · rw [if_pos hc, parseR_not s h r]
    · rw [if_neg hc]
theorem parseR_is (s : ByteArray) (v : Nat) (hv : v ≤ 1000000000000) (h : s.toList = Lib.decDigits v) : parseR s s.toList 0 = ((v : Int), true) := by
  rw [parseR_dig s _ 0 (by rw [h]; exact Dec.dec_digits v)]
  have e : dval s.toList 0 = v := by rw [h, dval_dec]
  rw [e]
  unfold finP
  rw [if_neg (by omega), itoa_nat, if_pos h.symm]
theorem implP_is (s : ByteArray) (v : Nat) (hv : v ≤ 1000000000000) (h : s.toList = Lib.decDigits v) : impl_ParseInt.f s = ((v : Int), true) := by
  have h' : s.data.toList = Lib.decDigits v := by rw [← ByteArray.toList_eq]; exact h
  unfold impl_ParseInt.f
  rw [h', Dec.atoi_dec v hv]
  show (if (0 : Int) ≤ (v : Int) ∧ (v : Int) ≤ 1000000000000 ∧ Lib.itoa (v : Int) = Lib.decDigits v then ((v : Int), true) else (0, false)) = _
  rw [if_pos ⟨by omega, by omega, itoa_nat v⟩]
theorem implP_not (s : ByteArray) (h : ∀ v : Nat, v ≤ 1000000000000 → s.toList ≠ Lib.decDigits v) : impl_ParseInt.f s = (0, false) := by
  unfold impl_ParseInt.f
  rcases ha : Lib.atoiAll s.data.toList with v | _ | _
  · show (if (0 : Int) ≤ v ∧ v ≤ 1000000000000 ∧ Lib.itoa v = s.data.toList then (v, true) else (0, false)) = _
    refine if_neg (fun ⟨h0, h1, h2⟩ => ?_)
    obtain ⟨m, rfl⟩ : ∃ m : Nat, v = (m : Int) := ⟨v.toNat, by omega⟩
    exact h m (by omega) (by rw [ByteArray.toList_eq, ← h2, itoa_nat])
  · rfl
  · rfl
theorem pow13 (i : Nat) (h : i ≤ 13) : 10 ^ i ≤ 10000000000000 := Nat.le_trans (Nat.pow_le_pow_right (by decide) h) (by decide)
theorem pdig (c : UInt8) (hc : 48 ≤ c.toNat ∧ c.toNat ≤ 57) : (((c.toNat : Int) - 48) % 256) = ((c.toNat - 48 : Nat) : Int) := by omega
theorem pmul (m d : Nat) (hm : m < 10000000000000) (hd : d ≤ 9) : wrap64 ((wrap64 (10 * (m : Int))) + (d : Int)) = ((10 * m + d : Nat) : Int) := by
  rw [w64 (x := 10 * (m : Int)) (by omega) (by omega), w64 (by omega) (by omega)]
  omega
theorem pstep (m d i : Nat) (hd : d ≤ 9) (hm : m < 10 ^ i) : 10 * m + d < 10 ^ (i + 1) := by rw [Nat.pow_succ]; omega
theorem parse_loop (s : ByteArray) (h13 : s.size ≤ 13) : ∀ (r p : List UInt8) (m : Nat), s.data.toList = p ++ r → m < 10 ^ p.length → Ev (fun k => spec_ParseInt.l0 k s (m : Int) (p.length : Int)) (parseR s r m)
  | [], p, m, e, hm => by
    have hp : s.size = p.length := by rw [← ByteArray.size_data, ← Array.length_toList, e, List.append_nil]
    refine evSucc ?_
    simp only [spec_ParseInt.l0]
    refine evF _ (by omega) ?_
    unfold parseR finP
    have hb := pow13 p.length (by omega)
    by_cases h1 : 1000000000000 < m
    · rw [if_pos h1]
      exact evT _ (by omega) (Ev.now _)
    · rw [if_neg h1]
      refine evF _ (by omega) ?_
      refine Ev.bind (fmt_ev (m : Int) (by omega) (by omega)) ?_
      simp only [ByteArray.toList_mk]
      by_cases h2 : Lib.itoa (m : Int) = s.toList
      · simp only [if_pos h2]
        exact Ev.now _
      · simp only [if_neg h2]
        exact Ev.now _
  | c :: r, p, m, e, hm => by
    have hp : p.length < s.size := by rw [← ByteArray.size_data, ← Array.length_toList, e, List.length_append, List.length_cons]; omega
    have hb := btL s p.length hp c r p e rfl
    have hc0 : c.toNat ≤ 255 := by have := c.toNat_lt; omega
    have hw : wrap64 (c.toNat : Int) = (c.toNat : Int) := w64 (by omega) (by omega)
    have hi : wrap64 ((p.length : Int) + 1) = ((p.length + 1 : Nat) : Int) := wsucc (by omega)
    refine evSucc ?_
    simp only [spec_ParseInt.l0, hb, hw, hi]
    refine evT _ (by omega) (evT _ (by omega) ?_)
    unfold parseR
    by_cases hc : 48 ≤ c.toNat ∧ c.toNat ≤ 57
    · rw [if_pos hc]
      have hl : spec_l1In.f (c.toNat : Int) 48 57 = some true := by
        unfold spec_l1In.f
        rw [if_pos (by omega), decide_eq_true (by omega)]
      have hm' : m < 10000000000000 := Nat.lt_of_lt_of_le hm (pow13 p.length (by omega))
      simp only [hl, Option.bind_some, pdig c hc, pmul m (c.toNat - 48) hm' (by omega)]
      refine evT _ trivial ?_
      have := parse_loop s h13 r (p ++ [c]) (10 * m + (c.toNat - 48)) (by rw [e, List.append_assoc]; rfl) (by rw [List.length_append, List.length_singleton]; exact pstep m _ _ (by omega) hm)
      rw [List.length_append, List.length_singleton] at this
      exact this
    · rw [if_neg hc]
      have hl : spec_l1In.f (c.toNat : Int) 48 57 = some false := by
        unfold spec_l1In.f
        by_cases h0 : (c.toNat : Int) ≥ 48
        · rw [if_pos h0, decide_eq_false (by omega)]
        · rw [if_neg h0]
      simp only [hl, Option.bind_some]
      exact evF _ (by simp) (Ev.now _)
theorem parse_ev (s : ByteArray) : Ev (fun k => spec_ParseInt.f k s) (impl_ParseInt.f s) := by
  have hlen : s.toList.length = s.size := by rw [ByteArray.toList_eq, Array.length_toList, ByteArray.size_data]
  unfold spec_ParseInt.f
  by_cases h : 1 ≤ s.size ∧ s.size ≤ 13
  · have hl : spec_l1In.f (s.size : Int) 1 13 = some true := by
      unfold spec_l1In.f
      rw [if_pos (by omega), decide_eq_true (by omega)]
    simp only [hl, Option.bind_some]
    refine evT _ trivial ?_
    have hloop := parse_loop s h.2 s.data.toList [] 0 rfl (by decide)
    rw [← ByteArray.toList_eq] at hloop
    have e : parseR s s.toList 0 = impl_ParseInt.f s := by
      by_cases hv : ∃ v : Nat, v ≤ 1000000000000 ∧ s.toList = Lib.decDigits v
      · obtain ⟨v, hv, hs⟩ := hv
        rw [parseR_is s v hv hs, implP_is s v hv hs]
      · have hn : ∀ v : Nat, v ≤ 1000000000000 → s.toList ≠ Lib.decDigits v := fun v h1 h2 => hv ⟨v, h1, h2⟩
        rw [parseR_not s hn, implP_not s hn]
    rw [e] at hloop
    exact hloop
  · have hl : spec_l1In.f (s.size : Int) 1 13 = some false := by
      unfold spec_l1In.f
      by_cases h0 : (s.size : Int) ≥ 1
      · rw [if_pos h0, decide_eq_false (by omega)]
      · rw [if_neg h0]
    have hn : ∀ v : Nat, v ≤ 1000000000000 → s.toList ≠ Lib.decDigits v := fun v h1 h2 => by
      have a := Dec.dec_len v 13 (by omega) (by omega)
      have b := List.length_pos_iff.2 (Dec.dec_ne v)
      rw [← h2, hlen] at a b
      exact h ⟨b, a⟩
    simp only [hl, Option.bind_some]
    rw [implP_not s hn]
    exact evF _ (by simp) (Ev.now _)

end Go.Proofs.YtofgihojpggecaaDoor.Pure
