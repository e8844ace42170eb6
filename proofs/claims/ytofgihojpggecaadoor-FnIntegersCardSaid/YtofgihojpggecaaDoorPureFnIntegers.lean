/- The law FnIntegers returns true for every input: integers in range are parsed from their decimal form; CeilDiv and Mod satisfy their defining inequalities. It holds for every input that the statement admits; no condition is added. -/
import Derived.Test.YtofgihojpggecaaDoorQFnIntegersx3
import Derived.Test.YtofgihojpggecaaDoorWSized
namespace Go.Proofs.YtofgihojpggecaaDoor.PrintWords
open Go.ChangeShapes Go.WideShapes in
theorem sized_ints {H : Type} {enc : TypeId × Value → H} {P : Program} {W : World} {base : Nat} {spare : Nat → Bool} {held : Bool} {t e : TypeId} {k : IntKind} {a : Option Addr} {len cap : Nat} {d : DataW H} {ps : List MemPlace} {ts : List TypeId} {ds : List (DataW H)} {j : Nat}
    (h1 : (DataW.weightsEach P ts ds).all (· ≤ reachBytes) = true) (h2 : ts[j]? = some t) (h3 : ds[j]? = some d) (h4 : P.underlying t = some (.slice e)) (h5 : P.underlying e = some (.int k)) (h6 : P.cellsOf e = 1) {B : Nat} (h7 : P.bytesOf e = B)
    (h8 : DataW.Trod enc P W base spare held t (.slice a len cap) d ps) : len * B ≤ 140737488351232 := Go.Proofs.YtofgihojpggecaaDoorW.PrintWords.sized_ints h1 h2 h3 h4 h5 h6 h7 h8
end Go.Proofs.YtofgihojpggecaaDoor.PrintWords
namespace Go.Proofs.YtofgihojpggecaaDoor.Pure
open Go.RowKit Go.Proofs.YtofgihojpggecaaDoor.QFnIntegers Go.Proofs.YtofgihojpggecaaDoorW.PrintWords Go.Proofs.YtofgihojpggecaaDoorW.PrintLast Go.Proofs.YtofgihojpggecaaDoorW.PrintMore
set_option linter.unusedVariables false
set_option linter.unusedSimpArgs false

theorem w64 {x : Int} (h0 : -9223372036854775808 ≤ x) (h1 : x ≤ 9223372036854775807) : wrap64 x = x := by unfold wrap64; omega
theorem wsucc {i : Nat} (h : i < 4611686018427387904) : wrap64 ((i : Int) + 1) = ((i + 1 : Nat) : Int) := by unfold wrap64; omega
theorem wfI {x : Int} (h : (Lit.int .i64 x).wf = true) : -9223372036854775808 ≤ x ∧ x ≤ 9223372036854775807 := by
  simp only [Lit.wf, Bool.and_eq_true, decide_eq_true_eq] at h
  exact h
theorem wfB {x : Int} (h : (Lit.int .u8 x).wf = true) : 0 ≤ x ∧ x ≤ 255 := by
  simp only [Lit.wf, Bool.and_eq_true, decide_eq_true_eq] at h
  exact h
theorem rdn (l : List Int) (i : Nat) : rd l (i : Int) = l.getD i 0 := by simp [rd]
theorem evOne {α : Type} {f : Option α} {r : α} (h : f = some r) : Ev (fun _ => f) r := ⟨0, fun _ _ => h⟩
theorem evUp {ρ : Type} {g : Nat → Nat → Option ρ} {R : Nat → ρ} (n : Nat) (last : Ev (g n) (R n)) (step : ∀ i, i < n → Ev (g (i + 1)) (R (i + 1)) → Ev (g i) (R i)) : ∀ i, i ≤ n → Ev (g i) (R i) := by
  intro i hi
  obtain ⟨d, hd⟩ : ∃ d, i + d = n := ⟨n - i, by omega⟩
  induction d generalizing i with
  | zero => obtain rfl : i = n := by omega
            exact last
  | succ d ih => exact step i (by omega) (ih (i + 1) (by omega) (by omega))
theorem getD_mem {α : Type} {l : List α} {i : Nat} {d : α} (h : i < l.length) : l.getD i d ∈ l := by
  rw [List.getD_eq_getElem?_getD, List.getElem?_eq_getElem h]; exact List.getElem_mem h
theorem getD_get {α : Type} {l : List α} {i : Nat} {d : α} (h : i < l.length) : l.getD i d = l[i] := by
  rw [List.getD_eq_getElem?_getD, List.getElem?_eq_getElem h]; rfl
theorem take_set_rep {α : Type} (l : List α) (z d : α) (i : Nat) (h : i < l.length) : (l.take i ++ List.replicate (l.length - i) z).set i (l.getD i d) = l.take (i + 1) ++ List.replicate (l.length - (i + 1)) z := by
  obtain ⟨m, hm⟩ : ∃ m, l.length - i = m + 1 := ⟨l.length - i - 1, by omega⟩
  have hm' : l.length - (i + 1) = m := by omega
  rw [hm, hm', List.set_append_right _ _ (by rw [List.length_take]; omega), List.length_take, Nat.min_eq_left (by omega), Nat.sub_self, List.replicate_succ, List.set_cons_zero, getD_get h, List.take_succ_eq_append_getElem h, List.append_assoc, List.singleton_append]
theorem drop_eq_iff {α : Type} (a b : List α) (d : α) (i : Nat) (ha : i < a.length) (hb : i < b.length) : (a.drop i = b.drop i) ↔ (a.getD i d = b.getD i d ∧ a.drop (i + 1) = b.drop (i + 1)) := by
  rw [List.drop_eq_getElem_cons ha, List.drop_eq_getElem_cons hb, List.cons.injEq, getD_get ha, getD_get hb]
theorem take_rep_len {α : Type} (l : List α) (z : α) (i : Nat) (h : i ≤ l.length) : (l.take i ++ List.replicate (l.length - i) z).length = l.length := by
  simp; omega

namespace Dec
open Go.Lib
theorem dec_step {u : Nat} (h : ¬ u < 10) : decDigits u = decDigits (u / 10) ++ [UInt8.ofNat (48 + u % 10)] := by rw [decDigits]; exact dif_neg h
theorem dec_low {u : Nat} (h : u < 10) : decDigits u = [UInt8.ofNat (48 + u)] := by rw [decDigits]; exact dif_pos h
theorem dig_nat {d : Nat} (h : d < 10) : (UInt8.ofNat (48 + d)).toNat = 48 + d := by
  rw [UInt8.toNat_ofNat']
  omega
theorem dec_digits (u : Nat) : ∀ c ∈ decDigits u, 48 ≤ c.toNat ∧ c.toNat ≤ 57 := by
  induction u using Nat.strongRecOn with
  | _ u ih =>
    intro c hc
    by_cases h : u < 10
    · rw [dec_low h, List.mem_singleton] at hc
      subst hc
      rw [dig_nat h]
      omega
    · rw [dec_step h] at hc
      rcases List.mem_append.1 hc with hc | hc
      · exact ih (u / 10) (by omega) c hc
      · rw [List.mem_singleton] at hc
        subst hc
        rw [dig_nat (by omega)]
        omega
theorem dec_ne (u : Nat) : decDigits u ≠ [] := by
  by_cases h : u < 10
  · rw [dec_low h]; simp
  · rw [dec_step h]; simp
theorem parse_snoc (c : UInt8) (hc : 48 ≤ c.toNat ∧ c.toNat ≤ 57) : ∀ (l : List UInt8) (acc v : Nat), parseUint10 acc l = .ok v → v < 1844674407370955162 → v * 10 + (c.toNat - 48) < 18446744073709551616 → parseUint10 acc (l ++ [c]) = .ok (v * 10 + (c.toNat - 48))
  | [], acc, v, h, h1, h2 => by
    simp only [parseUint10] at h
    injection h with h
    subst h
    show parseUint10 acc [c] = _
    simp only [parseUint10]
    rw [if_pos hc, if_neg (by omega), if_neg (by omega)]
  | d :: l, acc, v, h, h1, h2 => by
    rw [List.cons_append]
    simp only [parseUint10] at h ⊢
    split at h
    · rename_i hd
      rw [if_pos hd]
      split at h
      · cases h
      · rename_i h3
        rw [if_neg h3]
        split at h
        · cases h
        · rename_i h4
          rw [if_neg h4]
          exact parse_snoc c hc l _ v h h1 h2
    · cases h
theorem parse_dec (u : Nat) (hu : u < 1844674407370955162) : parseUint10 0 (decDigits u) = .ok u := by
  induction u using Nat.strongRecOn with
  | _ u ih =>
    by_cases h : u < 10
    · rw [dec_low h]
      have hd := dig_nat h
      simp only [parseUint10]
      rw [if_pos (by omega), if_neg (by omega), if_neg (by omega), hd]
      congr 1
      omega
    · rw [dec_step h]
      have hd := dig_nat (d := u % 10) (by omega)
      have h1 := ih (u / 10) (by omega) (by omega)
      rw [parse_snoc (UInt8.ofNat (48 + u % 10)) (by omega) _ 0 (u / 10) h1 (by omega) (by omega), hd]
      congr 1
      omega
theorem atoi_dec (u : Nat) (hu : u ≤ 1000000000000) : atoiAll (decDigits u) = .ok (u : Int) := by
  have hp := parse_dec u (by omega)
  have hd := dec_digits u
  have hn := dec_ne u
  generalize decDigits u = l at hp hd hn
  cases l with
  | nil => exact absurd rfl hn
  | cons c r =>
    have hc := hd c List.mem_cons_self
    unfold atoiAll parseMag
    simp only
    have e : (if c.toNat = 43 ∨ c.toNat = 45 then r else c :: r) = c :: r := if_neg (by omega)
    rw [e, if_neg (by simp), hp]
    have h45 : ¬ c.toNat = 45 := by omega
    simp only [h45, not_false_eq_true, true_and, false_and, if_false]
    rw [if_neg (by omega)]
theorem dec_len (u : Nat) : ∀ n, u < 10 ^ n → 1 ≤ n → (decDigits u).length ≤ n := by
  induction u using Nat.strongRecOn with
  | _ u ih =>
    intro n h1 h2
    by_cases h : u < 10
    · rw [dec_low h]; exact h2
    · obtain ⟨m, rfl⟩ : ∃ m, n = m + 1 := ⟨n - 1, by omega⟩
      rw [dec_step h, List.length_append, List.length_singleton]
      have hm : 1 ≤ m := by
        rcases Nat.eq_zero_or_pos m with h0 | h0
        · subst h0; simp at h1; omega
        · exact h0
      have := ih (u / 10) (by omega) m (by rw [Nat.pow_succ] at h1; omega) hm
      omega
end Dec

theorem evSucc {α : Type} {g : Nat → Option α} {r : α} (h : Ev (fun k => g (k + 1)) r) : Ev g r := Ev.step (fun _ => rfl) h
theorem evIte {α : Type} {c : Prop} [Decidable c] {f g : Nat → Option α} {r : α} (h1 : c → Ev f r) (h2 : ¬ c → Ev g r) : Ev (fun k => if c then f k else g k) r := by
  by_cases h : c
  · simp only [if_pos h]; exact h1 h
  · simp only [if_neg h]; exact h2 h
theorem evT {α : Type} {f g : Nat → Option α} {r : α} (c : Prop) [Decidable c] (h : c) (h1 : Ev f r) : Ev (fun k => if c then f k else g k) r := by
  simp only [if_pos h]; exact h1
theorem evF {α : Type} {f g : Nat → Option α} {r : α} (c : Prop) [Decidable c] (h : ¬ c) (h1 : Ev g r) : Ev (fun k => if c then f k else g k) r := by
  simp only [if_neg h]; exact h1
theorem mneg (n : Nat) : ((1 : Int) + (n : Int) < 0) = False := eq_false (by omega)
theorem mneg2 (n m : Nat) : ((1 : Int) + (n : Int) + (m : Int) < 0) = False := eq_false (by omega)

theorem size_mk (l : List UInt8) : (⟨l.toArray⟩ : ByteArray).size = l.length := rfl
theorem str_one (v : Int) : strOfNums [v] = ⟨[UInt8.ofNat v.toNat].toArray⟩ := rfl
theorem fmt_zero (n : Int) (s : ByteArray) (hs : s.size ≤ 40) : Ev (fun k => spec_FormatInt.l0 k n s 0) ((⟨(if n < 0 then [45] else [] : List UInt8).toArray⟩ : ByteArray) ++ s) := by
  by_cases hn : n < 0
  · have e0 : (if n < 0 then [45] else [] : List UInt8) = [45] := if_pos hn
    rw [e0]
    refine evSucc ?_
    simp only [spec_FormatInt.l0, if_true]
    exact evT (n < 0) hn (evT (1 + s.size ≤ 9223372036854775807) (by omega) (Ev.now _))
  · have e0 : (if n < 0 then [45] else [] : List UInt8) = [] := if_neg hn
    have e : (⟨([] : List UInt8).toArray⟩ : ByteArray) ++ s = s := by
      apply ByteArray.ext
      simp
    rw [e0, e]
    refine evSucc ?_
    simp only [spec_FormatInt.l0, if_true]
    exact evF (n < 0) hn (Ev.now _)
theorem dq0 (q : Int) (m : Nat) (h : q.natAbs = m / 10) (hm : m < 10) : q = 0 := by omega
theorem dqb (q : Int) (m : Nat) (h : q.natAbs = m / 10) (hm : m ≤ 9223372036854775808) : -9223372036854775808 ≤ q ∧ q ≤ 9223372036854775807 := by omega
theorem drn (r : Int) (m : Nat) (h : r.natAbs = m % 10) (hr : r < 0) : wrap64 (-r) = ((m % 10 : Nat) : Int) := by
  have e : -r = ((m % 10 : Nat) : Int) := by omega
  rw [e]
  exact w64 (by omega) (by omega)
theorem drp (r : Int) (m : Nat) (h : r.natAbs = m % 10) (hr : ¬ r < 0) : r = ((m % 10 : Nat) : Int) := by omega
theorem dhd (m : Nat) : (wrap64 (48 + ((m % 10 : Nat) : Int))) % 256 = ((48 + m % 10 : Nat) : Int) := by
  rw [w64 (by omega) (by omega)]
  omega
theorem dmod (x : Int) (m : Nat) (hx : x.natAbs = m) : (Int.tmod x 10).natAbs = m % 10 := by rw [Int.natAbs_tmod, hx]; rfl
theorem ddiv (x : Int) (m : Nat) (hx : x.natAbs = m) : (Int.tdiv x 10).natAbs = m / 10 := by rw [Int.natAbs_tdiv, hx]; rfl
theorem dx0 (x : Int) (m : Nat) (hx : x.natAbs = m) (h0 : m ≠ 0) : ¬ x = 0 := by omega
theorem dmb (x : Int) (m : Nat) (hx : x.natAbs = m) (hlo : -9223372036854775808 ≤ x) (hhi : x ≤ 9223372036854775807) : m ≤ 9223372036854775808 := by omega
theorem nle (a b : Nat) (h : a + b ≤ 30) : 1 + a ≤ 40 := by omega
theorem nsz (a b : Nat) (h : a + b ≤ 30) : 1 + a ≤ 9223372036854775807 := by omega
theorem ndz (m : Nat) (h : ¬ m < 10) : m / 10 ≠ 0 := by omega
theorem nlen (a b c : Nat) (h : c = b + 1) (hs : a + c ≤ 30) : 1 + a + b ≤ 30 := by omega
theorem fmt_loop (n : Int) (N : ByteArray) (hN : ∀ s : ByteArray, s.size ≤ 40 → Ev (fun k => spec_FormatInt.l0 k n s 0) (N ++ s)) (m : Nat) : ∀ (x : Int) (s T : ByteArray), T = (⟨(Lib.decDigits m).toArray⟩ : ByteArray) ++ s → x.natAbs = m → m ≠ 0 → -9223372036854775808 ≤ x → x ≤ 9223372036854775807 → s.size + (Lib.decDigits m).length ≤ 30 →
    Ev (fun k => spec_FormatInt.l0 k n s x) (N ++ T) := by
  induction m using Nat.strongRecOn with
  | _ m ih =>
    intro x s T hT hx h0 hlo hhi hs
    have x0 : ¬ x = 0 := dx0 x m hx h0
    have hmod0 : (Int.tmod x 10).natAbs = m % 10 := dmod x m hx
    have hdiv0 : (Int.tdiv x 10).natAbs = m / 10 := ddiv x m hx
    have ex : ∃ r q : Int, Aside0 (Int.tmod x 10 = r) ∧ Aside0 (Int.tdiv x 10 = q) ∧ r.natAbs = m % 10 ∧ q.natAbs = m / 10 := ⟨_, _, ⟨rfl⟩, ⟨rfl⟩, hmod0, hdiv0⟩
    clear hmod0 hdiv0
    obtain ⟨r, q, hR, hQ, hmod, hdiv⟩ := ex
    have hmb : m ≤ 9223372036854775808 := dmb x m hx hlo hhi
    have wd : wrap64 q = q := w64 (dqb q m hdiv hmb).1 (dqb q m hdiv hmb).2
    have hd : (wrap64 (48 + ((m % 10 : Nat) : Int))) % 256 = ((48 + m % 10 : Nat) : Int) := dhd m
    have eB : ∃ B : ByteArray, Aside0 (strOfNums [((48 + m % 10 : Nat) : Int)] = B) ∧ B.size = 1 ∧ Aside0 (B = (⟨[UInt8.ofNat (48 + m % 10)].toArray⟩ : ByteArray)) := ⟨(⟨[UInt8.ofNat (48 + m % 10)].toArray⟩ : ByteArray), ⟨by rw [str_one, Int.toNat_natCast]⟩, by rw [size_mk, List.length_singleton], ⟨rfl⟩⟩
    obtain ⟨B, hone, hB, hBe⟩ := eB
    have hbs : (B ++ s).size = 1 + s.size := by rw [ByteArray.size_append, hB]
    have hsz : B.size + s.size ≤ 9223372036854775807 := by rw [hB]; exact nsz s.size _ hs
    have next : Ev (fun k => spec_FormatInt.l0 k n (B ++ s) q) (N ++ T) := by
      by_cases h10 : m < 10
      · have hz : q = 0 := dq0 q m hdiv h10
        have e : T = B ++ s := by rw [hT, hBe.out, Dec.dec_low h10, Nat.mod_eq_of_lt h10]
        rw [hz, e]
        exact hN (B ++ s) (by rw [hbs]; exact nle s.size _ hs)
      · have hlen : (Lib.decDigits m).length = (Lib.decDigits (m / 10)).length + 1 := by rw [Dec.dec_step h10, List.length_append, List.length_singleton]
        have e : T = (⟨(Lib.decDigits (m / 10)).toArray⟩ : ByteArray) ++ (B ++ s) := by rw [hT, hBe.out, Dec.dec_step h10, ← ByteArray.mk_append_mk, ByteArray.append_assoc]
        exact ih (m / 10) (Nat.div_lt_self (Nat.pos_of_ne_zero h0) (by decide)) q (B ++ s) T e hdiv (ndz m h10) (dqb q m hdiv hmb).1 (dqb q m hdiv hmb).2 (by rw [hbs]; exact nlen _ _ _ hlen hs)
    clear hT hBe ih hN
    generalize N ++ T = R at next ⊢
    refine evSucc ?_
    simp only [spec_FormatInt.l0, hR.out, hQ.out, wd]
    refine evF (x = 0) x0 ?_
    by_cases hneg : r < 0
    · have e1 : wrap64 (-r) = ((m % 10 : Nat) : Int) := drn r m hmod hneg
      refine evT (r < 0) hneg ?_
      simp only [e1, hd, Option.bind_some, hone.out]
      exact evT (B.size + s.size ≤ 9223372036854775807) hsz next
    · have e1 : r = ((m % 10 : Nat) : Int) := drp r m hmod hneg
      refine evF (r < 0) hneg ?_
      simp only [e1, hd, Option.bind_some, hone.out]
      exact evT (B.size + s.size ≤ 9223372036854775807) hsz next
theorem fmt_ev (n : Int) (hlo : -9223372036854775808 ≤ n) (hhi : n ≤ 9223372036854775807) : Ev (fun k => spec_FormatInt.f k n) (⟨(Lib.itoa n).toArray⟩ : ByteArray) := by
  unfold spec_FormatInt.f
  by_cases h0 : n = 0
  · subst h0
    refine evT ((0 : Int) = 0) rfl ?_
    have e : (⟨#[48]⟩ : ByteArray) = ⟨(Lib.itoa 0).toArray⟩ := by
      unfold Lib.itoa
      rw [if_neg (by omega), show (0 : Int).toNat = 0 from rfl, Dec.dec_low (by omega)]
      rfl
    rw [e]
    exact Ev.now _
  · have hl := Dec.dec_len n.natAbs 20 (by omega) (by omega)
    have hz := fmt_loop n (⟨(if n < 0 then [45] else [] : List UInt8).toArray⟩ : ByteArray) (fun s hs => fmt_zero n s hs) n.natAbs n (⟨#[]⟩ : ByteArray) _ rfl rfl (by omega) hlo hhi (by rw [show (⟨#[]⟩ : ByteArray).size = 0 from rfl]; omega)
    have e : (⟨(if n < 0 then [45] else [] : List UInt8).toArray⟩ : ByteArray) ++ (⟨(Lib.decDigits n.natAbs).toArray⟩ ++ (⟨#[]⟩ : ByteArray)) = ⟨(Lib.itoa n).toArray⟩ := by
      have e0 : (⟨#[]⟩ : ByteArray) = ⟨([] : List UInt8).toArray⟩ := rfl
      rw [e0, ByteArray.mk_append_mk, ByteArray.mk_append_mk, List.append_nil]
      unfold Lib.itoa
      by_cases hn : n < 0
      · rw [if_pos hn, if_pos hn]; rfl
      · rw [if_neg hn, if_neg hn, List.nil_append, show n.natAbs = n.toNat by omega]
    rw [e] at hz
    exact evF (n = 0) h0 hz

def dval : List UInt8 → Nat → Nat
  | [], m => m
  | c :: r, m => dval r (10 * m + (c.toNat - 48))
theorem dval_snoc (c : UInt8) : ∀ (l : List UInt8) (m : Nat), dval (l ++ [c]) m = 10 * dval l m + (c.toNat - 48)
  | [], m => rfl
  | d :: r, m => dval_snoc c r _
theorem dval_dec (v : Nat) : dval (Lib.decDigits v) 0 = v := by
  induction v using Nat.strongRecOn with
  | _ v ih =>
    by_cases h : v < 10
    · rw [Dec.dec_low h]
      show 10 * 0 + ((UInt8.ofNat (48 + v)).toNat - 48) = v
      rw [Dec.dig_nat h]; omega
    · rw [Dec.dec_step h, dval_snoc, ih (v / 10) (by omega), Dec.dig_nat (by omega)]; omega
theorem itoa_nat (m : Nat) : Lib.itoa (m : Int) = Lib.decDigits m := by
  unfold Lib.itoa
  rw [if_neg (by omega), Int.toNat_natCast]

theorem implP_is (s : ByteArray) (v : Nat) (hv : v ≤ 1000000000000) (h : s.toList = Lib.decDigits v) : impl_ParseInt.g s = ((v : Int), true) := by
  have h' : s.data.toList = Lib.decDigits v := by rw [← ByteArray.toList_eq]; exact h
  unfold impl_ParseInt.g
  rw [h', Dec.atoi_dec v hv]
  show (if (0 : Int) ≤ (v : Int) ∧ (v : Int) ≤ 1000000000000 ∧ Lib.itoa (v : Int) = Lib.decDigits v then ((v : Int), true) else (0, false)) = _
  rw [if_pos ⟨by omega, by omega, itoa_nat v⟩]
theorem implP_not (s : ByteArray) (h : ∀ v : Nat, v ≤ 1000000000000 → s.toList ≠ Lib.decDigits v) : impl_ParseInt.g s = (0, false) := by
  unfold impl_ParseInt.g
  rcases ha : Lib.atoiAll s.data.toList with v | _ | _
  · show (if (0 : Int) ≤ v ∧ v ≤ 1000000000000 ∧ Lib.itoa v = s.data.toList then (v, true) else (0, false)) = _
    refine if_neg (fun ⟨h0, h1, h2⟩ => ?_)
    obtain ⟨m, rfl⟩ : ∃ m : Nat, v = (m : Int) := ⟨v.toNat, by omega⟩
    exact h m (by omega) (by rw [ByteArray.toList_eq, ← h2, itoa_nat])
  · rfl
  · rfl

theorem hk62 : ∀ n : Int, 0 ≤ n → n < 2 ^ 62 → IntKind.i64.wrap n = n := by intro n h0 h1; rw [IntKind.wrap_i64]; omega
theorem hk8 : ∀ n : Int, 0 ≤ n → n < 2 ^ 8 → IntKind.u8.wrap n = n := by intro n h0 h1; rw [IntKind.wrap_u8]; omega
theorem and127 {n : Int} (h0 : 0 ≤ n) (h1 : n ≤ 1000000000000) : Go.bits .and .i64 n 127 = n % 128 := by
  have h := bits_mask .i64 62 (by decide) hk62 7 (by decide) n h0 (by omega)
  simpa using h
theorem and127b {n : Int} (h0 : 0 ≤ n) (h1 : n ≤ 255) : Go.bits .and .u8 n 127 = n % 128 := by
  have h := bits_mask .u8 8 (by decide) hk8 7 (by decide) n h0 (by omega)
  simpa using h
set_option maxRecDepth 20000 in
theorem and128b {n : Int} (h0 : 0 ≤ n) (h1 : n ≤ 255) : (Go.bits .and .u8 n 128 = 0) ↔ n < 128 := by
  obtain ⟨a, rfl⟩ := Int.eq_ofNat_of_zero_le h0
  have ha : a < 256 := by omega
  have h := (bits_nat .u8 8 (by decide) hk8 a 128 (by omega) (by omega)).1
  have h2 : ∀ a : Nat, a < 256 → ((a &&& 128 = 0) ↔ a < 128) := by decide
  have h3 := h2 a ha
  have e : Go.bits .and .u8 (a : Int) 128 = ((a &&& 128 : Nat) : Int) := h
  rw [e]
  omega
theorem bor {a c i : Nat} (ha : a < 2 ^ i) (hi : i ≤ 61) (hc : 2 ^ i * c < 2 ^ 62) : Go.bits .or .i64 (a : Int) ((2 ^ i * c : Nat) : Int) = ((a + 2 ^ i * c : Nat) : Int) := by
  have h2 : (2 : Nat) ^ i ≤ 2 ^ 61 := Nat.pow_le_pow_right (by decide) hi
  have h := (bits_nat .i64 62 (by decide) hk62 a (2 ^ i * c) (by omega) hc).2
  rw [h, Nat.or_comm, ← Nat.two_pow_add_eq_or_of_lt ha c, Nat.add_comm]
theorem uvbyte {n : Int} (h0 : 0 ≤ n) (h1 : n ≤ 1000000000000) : (Go.bits .or .i64 (Go.bits .and .i64 n 127) 128) % 256 = n % 128 + 128 := by
  rw [and127 h0 h1]
  obtain ⟨a, ha⟩ := Int.eq_ofNat_of_zero_le (show 0 ≤ n % 128 by omega)
  have h := bor (a := a) (c := 1) (i := 7) (by omega) (by omega) (by omega)
  have e : ((2 ^ 7 * 1 : Nat) : Int) = 128 := by decide
  rw [e] at h
  rw [ha, h]
  omega

theorem and255 (x : Int) : 0 ≤ Go.bits .and .i64 x 255 ∧ Go.bits .and .i64 x 255 ≤ 255 := by
  have e : Go.bits .and .i64 x ((255 : Nat) : Int) = IntKind.i64.wrap (((BitVec.ofInt 64 x).toNat &&& 255 : Nat) : Int) := by
    simp only [Go.bits, BitVec.ofInt_natCast, BitVec.toNat_and, BitVec.toNat_ofNat]
    rfl
  have h : ((BitVec.ofInt 64 x).toNat &&& 255) ≤ 255 := Nat.and_le_right
  have e2 : Go.bits .and .i64 x 255 = (((BitVec.ofInt 64 x).toNat &&& 255 : Nat) : Int) := by
    rw [← hk62 (((BitVec.ofInt 64 x).toNat &&& 255 : Nat) : Int) (by omega) (by omega)]
    exact e
  rw [e2]
  omega
theorem byte_ex (b : List Int) (i h : Int) (hl : b.length ≤ 1048576) (h0 : 0 ≤ i) (h1 : i ≤ b.length) : ∃ v i' h', spec_l1Byte.f b i h = some (v, i', h') ∧ 0 ≤ v ∧ v ≤ 255 ∧ 0 ≤ i' ∧ i' ≤ b.length := by
  unfold spec_l1Byte.f
  by_cases hi : i < (b.length : Int)
  · rw [if_pos hi, if_pos h0, w64 (x := i + 1) (by omega) (by omega)]
    exact ⟨_, _, _, rfl, (and255 _).1, (and255 _).2, by omega, by omega⟩
  · rw [if_neg hi]
    exact ⟨_, _, _, rfl, (and255 _).1, (and255 _).2, h0, h1⟩
theorem below_ex (b : List Int) (i h n : Int) (hl : b.length ≤ 1048576) (h0 : 0 ≤ i) (h1 : i ≤ b.length) : ∃ v i' h', spec_l1Below.f b i h n = some (v, i', h') ∧ (0 < n → 0 ≤ v ∧ v < n) ∧ (n ≤ 0 → v = 0) ∧ 0 ≤ i' ∧ i' ≤ b.length := by
  unfold spec_l1Below.f
  by_cases hn : n ≤ 0
  · rw [if_pos hn]
    exact ⟨_, _, _, rfl, fun h => by omega, fun _ => rfl, h0, h1⟩
  rw [if_neg hn]
  by_cases hn2 : n ≤ 256
  · rw [if_pos hn2]
    obtain ⟨v, i1, g1, e1, a1, b1, c1, d1⟩ := byte_ex b i h hl h0 h1
    rw [e1]
    simp only [Option.bind_some]
    rw [if_neg (by omega)]
    refine ⟨_, _, _, rfl, fun _ => ?_, fun h => by omega, c1, d1⟩
    rw [Int.tmod_eq_emod_of_nonneg a1]
    exact ⟨Int.emod_nonneg _ (by omega), Int.emod_lt_of_pos _ (by omega)⟩
  · rw [if_neg hn2]
    obtain ⟨v, i1, g1, e1, a1, b1, c1, d1⟩ := byte_ex b i h hl h0 h1
    obtain ⟨v2, i2, g2, e2, a2, b2, c2, d2⟩ := byte_ex b i1 g1 hl c1 d1
    obtain ⟨v3, i3, g3, e3, a3, b3, c3, d3⟩ := byte_ex b i2 g2 hl c2 d2
    rw [e1]
    simp only [Option.bind_some]
    rw [e2]
    simp only [Option.bind_some]
    rw [e3]
    simp only [Option.bind_some]
    rw [if_neg (by omega), w64 (x := v * 65536) (by omega) (by omega), w64 (x := v2 * 256) (by omega) (by omega), w64 (x := v * 65536 + v2 * 256) (by omega) (by omega), w64 (by omega) (by omega)]
    refine ⟨_, _, _, rfl, fun _ => ?_, fun h => by omega, c3, d3⟩
    rw [Int.tmod_eq_emod_of_nonneg (by omega)]
    exact ⟨Int.emod_nonneg _ (by omega), Int.emod_lt_of_pos _ (by omega)⟩
theorem new_ev (l : List Int) (hl : l.length ≤ 1048576) : ∃ h, Ev (fun k => spec_l1New.f k l) (l, 0, h) := by
  unfold spec_l1New.f
  have H : ∀ d i (x : Int), i + d = l.length → ∃ h, Ev (fun k => spec_l1New.l0 k l x (i : Int)) (l, 0, h) := by
    intro d
    induction d with
    | zero =>
      intro i x hi
      refine ⟨x, evSucc ?_⟩
      simp only [spec_l1New.l0]
      exact evF ((i : Int) < (l.length : Int)) (by omega) (Ev.now _)
    | succ d ih =>
      intro i x hi
      by_cases h4 : (i : Int) < 4000
      · obtain ⟨h, hh⟩ := ih (i + 1) (Go.bits .and .i64 (wrap64 ((wrap64 ((wrap64 (x * 137)) + (wrap64 (rd l (i : Int))))) + 11)) 1073741823) (by omega)
        refine ⟨h, evSucc ?_⟩
        simp only [spec_l1New.l0]
        refine evT ((i : Int) < (l.length : Int)) (by omega) (evT ((i : Int) < 4000) h4 (evT (0 ≤ (i : Int)) (by omega) ?_))
        rw [wsucc (by omega)]
        exact hh
      · refine ⟨x, evSucc ?_⟩
        simp only [spec_l1New.l0]
        exact evT ((i : Int) < (l.length : Int)) (by omega) (evF ((i : Int) < 4000) h4 (Ev.now _))
  exact H l.length 0 _ (by omega)

theorem int_ex (b : List Int) (i h : Int) (xs : List Int) (hx : 0 < xs.length) (hl : b.length ≤ 1048576) (h0 : 0 ≤ i) (h1 : i ≤ b.length) : ∃ v i' h', spec_l1Int.f b i h xs = some (v, i', h') ∧ v ∈ xs ∧ 0 ≤ i' ∧ i' ≤ b.length := by
  unfold spec_l1Int.f
  obtain ⟨v, i1, g1, e1, a1, _, c1, d1⟩ := below_ex b i h (xs.length : Int) hl h0 h1
  have a2 := a1 (by omega)
  rw [e1]
  simp only [Option.bind_some]
  rw [if_pos a2.1, if_pos a2.2]
  refine ⟨_, _, _, rfl, ?_, c1, d1⟩
  unfold rd
  exact getD_mem (by omega)

theorem num_ex (b : List Int) (i h : Int) (hl : b.length ≤ 1048576) (h0 : 0 ≤ i) (h1 : i ≤ b.length) : ∃ v i' h', spec_l1Num.f b i h = some (v, i', h') ∧ 0 ≤ v ∧ v ≤ 1000000000000 ∧ 0 ≤ i' ∧ i' ≤ b.length := by
  unfold spec_l1Num.f
  obtain ⟨o, i1, g1, e1, a1, _, c1, d1⟩ := below_ex b i h 4 hl h0 h1
  rw [e1]
  simp only [Option.bind_some]
  by_cases o0 : o = 0
  · rw [if_pos o0]
    obtain ⟨v, i2, g2, e2, a2, _, c2, d2⟩ := below_ex b i1 g1 2000 hl c1 d1
    rw [e2]
    have a2 := a2 (by omega)
    exact ⟨_, _, _, rfl, a2.1, by omega, c2, d2⟩
  rw [if_neg o0]
  by_cases o1 : o = 1
  · rw [if_pos o1]
    obtain ⟨v, i2, g2, e2, m2, c2, d2⟩ := int_ex b i1 g1 [0, 1, 127, 128, 2147483646, 2147483647, 1000000000000] (by decide) hl c1 d1
    rw [e2]
    simp at m2
    exact ⟨_, _, _, rfl, by omega, by omega, c2, d2⟩
  rw [if_neg o1]
  by_cases o2 : o = 2
  · rw [if_pos o2]
    obtain ⟨v, i2, g2, e2, a2, _, c2, d2⟩ := below_ex b i1 g1 1000000 hl c1 d1
    obtain ⟨u, i3, g3, e3, a3, _, c3, d3⟩ := below_ex b i2 g2 1000000 hl c2 d2
    rw [e2]
    simp only [Option.bind_some]
    rw [e3]
    have a2 := a2 (by omega)
    have a3 := a3 (by omega)
    have hp0 : 0 ≤ v * u := Int.mul_nonneg a2.1 a3.1
    have hp1 : v * u ≤ 999999 * 999999 := Int.mul_le_mul (by omega) (by omega) a3.1 (by omega)
    refine ⟨_, _, _, rfl, ?_, ?_, c3, d3⟩
    · show 0 ≤ wrap64 (v * u); rw [w64 (by omega) (by omega)]; omega
    · show wrap64 (v * u) ≤ 1000000000000; rw [w64 (by omega) (by omega)]; omega
  rw [if_neg o2]
  obtain ⟨v, i2, g2, e2, a2, _, c2, d2⟩ := below_ex b i1 g1 20 hl c1 d1
  rw [e2]
  have a2 := a2 (by omega)
  exact ⟨_, _, _, rfl, a2.1, by omega, c2, d2⟩

theorem once_ex (b : List Int) (i h n : Int) (hl : b.length ≤ 1048576) (h0 : 0 ≤ i) (h1 : i ≤ b.length) : ∃ v i' h', spec_l1Once.f b i h n = some (v, i', h') ∧ 0 ≤ i' ∧ i' ≤ b.length := by
  unfold spec_l1Once.f
  obtain ⟨v, i1, g1, e1, _, _, c1, d1⟩ := below_ex b i h n hl h0 h1
  rw [e1]
  exact ⟨_, _, _, rfl, c1, d1⟩

theorem one_ex (b : List Int) (i h : Int) (hl : b.length ≤ 1048576) (h0 : 0 ≤ i) (h1 : i ≤ b.length) : ∃ v i' h', spec_l1One.f b i h = some (v, i', h') ∧ 0 ≤ i' ∧ i' ≤ b.length ∧ -9223372036854775808 ≤ v ∧ v ≤ 9223372036854775807 := by
  unfold spec_l1One.f
  obtain ⟨o, i1, g1, e1, c1, d1⟩ := once_ex b i h 6 hl h0 h1
  rw [e1]
  simp only [Option.bind_some]
  cases o with
  | true =>
    rw [if_pos rfl]
    unfold spec_l1Raw.f
    obtain ⟨o2, i2, g2, e2, c2, d2⟩ := once_ex b i1 g1 2 hl c1 d1
    rw [e2]
    simp only [Option.bind_some]
    cases o2 with
    | true =>
      rw [if_pos rfl]
      unfold spec_l1Odd.f
      obtain ⟨v, i3, g3, e3, m3, c3, d3⟩ := int_ex b i2 g2 [(-1), 0, 1, 2, 255, 256, 65535, 2147483647, 2147483648, 4294967295, 4294967296, (-2147483648), 9223372036854775807, (-9223372036854775808)] (by decide) hl c2 d2
      rw [e3]
      simp at m3
      exact ⟨_, _, _, rfl, c3, d3, by omega, by omega⟩
    | false =>
      rw [if_neg (by decide)]
      obtain ⟨v, i3, g3, e3, m3, c3, d3⟩ := int_ex b i2 g2 [(-1), 1000000000000, 1000000000001] (by decide) hl c2 d2
      rw [e3]
      simp at m3
      exact ⟨_, _, _, rfl, c3, d3, by omega, by omega⟩
  | false =>
    rw [if_neg (by decide)]
    obtain ⟨v, i2, g2, e2, a2, b2, c2, d2⟩ := num_ex b i1 g1 hl c1 d1
    rw [e2]
    exact ⟨_, _, _, rfl, c2, d2, by omega, by omega⟩

theorem str_ex (b : List Int) (i h : Int) (xs : List ByteArray) (hx : 0 < xs.length) (hl : b.length ≤ 1048576) (h0 : 0 ≤ i) (h1 : i ≤ b.length) : ∃ v i' h', spec_l1Str.f b i h xs = some (v, i', h') ∧ v ∈ xs ∧ 0 ≤ i' ∧ i' ≤ b.length := by
  unfold spec_l1Str.f
  obtain ⟨v, i1, g1, e1, a1, _, c1, d1⟩ := below_ex b i h (xs.length : Int) hl h0 h1
  have a2 := a1 (by omega)
  rw [e1]
  simp only [Option.bind_some]
  rw [if_pos a2.1, if_pos a2.2]
  refine ⟨_, _, _, rfl, ?_, c1, d1⟩
  unfold rdOf
  exact getD_mem (by omega)

theorem big_eq (l : List Int) : laws_big.f l = some (decide ((l.length : Int) > 1048576)) := rfl

def modP (p q : Int) : Int := if 1 ≤ q ∧ q ≤ 1000000000000 then Int.tmod (wrap64 (Int.tmod p q + q)) q else 0
theorem modP_emod {p q : Int} (h1 : 1 ≤ q) (h2 : q ≤ 1000000000000) : modP p q = p % q := by
  unfold modP
  rw [if_pos ⟨h1, h2⟩]
  have a := Int.tmod_lt_of_pos p (b := q) (by omega)
  have b : -q < Int.tmod p q := by
    rcases Int.le_total 0 p with h | h
    · have := Int.tmod_nonneg q h; omega
    · have e : Int.tmod p q = -Int.tmod (-p) q := by rw [Int.neg_tmod]; omega
      have := Int.tmod_lt_of_pos (-p) (b := q) (by omega)
      omega
  have e : Int.tmod p q + q = p + q * (1 - Int.tdiv p q) := by
    have h := Int.tmod_add_mul_tdiv p q
    rw [Int.mul_sub]
    omega
  rw [w64 (by omega) (by omega), Int.tmod_eq_emod_of_nonneg (by omega), e, Int.add_mul_emod_self_left]
theorem modP_range {p q : Int} (h1 : 1 ≤ q) (h2 : q ≤ 1000000000000) : 0 ≤ modP p q ∧ modP p q < q := by
  rw [modP_emod h1 h2]; exact ⟨Int.emod_nonneg _ (by omega), Int.emod_lt_of_pos _ (by omega)⟩

theorem inRange_eq (a b c : Int) : impl_InRange.f a b c = some (decide (b ≤ a ∧ a ≤ c)) := by
  unfold impl_InRange.f; by_cases h : b ≤ a <;> simp [h]

theorem implMod_eq (p q : Int) : impl_Mod.f p q = some (modP p q) := by
  unfold impl_Mod.f modP
  rw [inRange_eq]
  simp only [Option.bind_some, decide_eq_true_eq]
  by_cases h : 1 ≤ q ∧ q ≤ 1000000000000
  · rw [if_pos h, if_pos h, if_neg (by omega)]
  · rw [if_neg h, if_neg h]

theorem itoa_len (n : Int) (h0 : -9223372036854775808 ≤ n) (h1 : n ≤ 9223372036854775807) : (Lib.itoa n).length ≤ 21 := by
  unfold Lib.itoa
  by_cases hn : n < 0
  · rw [if_pos hn, List.length_cons]
    have := Dec.dec_len n.natAbs 20 (by omega) (by omega)
    omega
  · rw [if_neg hn]
    have := Dec.dec_len n.toNat 20 (by omega) (by omega)
    omega
theorem itoa_out (n : Int) (h : ¬ (0 ≤ n ∧ n ≤ 1000000000000)) (v : Nat) (hv : v ≤ 1000000000000) : Lib.itoa n ≠ Lib.decDigits v := by
  intro e
  by_cases hn : n < 0
  · unfold Lib.itoa at e
    rw [if_pos hn] at e
    have hd := Dec.dec_digits v 45 (by rw [← e]; exact List.mem_cons_self)
    have : (45 : UInt8).toNat = 45 := rfl
    omega
  · obtain ⟨m, rfl⟩ : ∃ m : Nat, n = (m : Int) := ⟨n.toNat, by omega⟩
    rw [itoa_nat] at e
    have e1 := dval_dec m
    rw [e, dval_dec v] at e1
    omega
theorem gItoa (n : Int) : impl_ParseInt.g ⟨(Lib.itoa n).toArray⟩ = if 0 ≤ n ∧ n ≤ 1000000000000 then (n, true) else (0, false) := by
  by_cases h : 0 ≤ n ∧ n ≤ 1000000000000
  · rw [if_pos h]
    obtain ⟨m, rfl⟩ : ∃ m : Nat, n = (m : Int) := ⟨n.toNat, by omega⟩
    exact implP_is _ m (by omega) (by rw [ByteArray.toList_mk, itoa_nat])
  · rw [if_neg h]
    exact implP_not _ (fun v hv => by rw [ByteArray.toList_mk]; exact itoa_out n h v hv)
theorem gShape (s : ByteArray) : (impl_ParseInt.g s).2 = true → (0 ≤ (impl_ParseInt.g s).1 ∧ (impl_ParseInt.g s).1 ≤ 1000000000000 ∧ Lib.itoa (impl_ParseInt.g s).1 = s.toList) := by
  by_cases hv : ∃ v : Nat, v ≤ 1000000000000 ∧ s.toList = Lib.decDigits v
  · obtain ⟨v, hv, hs⟩ := hv
    rw [implP_is s v hv hs]
    intro _
    exact ⟨by omega, by omega, by rw [itoa_nat, hs]⟩
  · rw [implP_not s (fun v h1 h2 => hv ⟨v, h1, h2⟩)]
    intro h; cases h
theorem fmtI (n : Int) (h0 : -9223372036854775808 ≤ n) (h1 : n ≤ 9223372036854775807) : impl_FormatInt.f n = some ⟨(Lib.itoa n).toArray⟩ := by
  unfold impl_FormatInt.f
  rw [if_pos h0, if_pos h1]
theorem parI (s : ByteArray) (h : s.size ≤ 281474976710656) : impl_ParseInt.f s = some (impl_ParseInt.g s) := if_pos h
def ceilP (a b : Int) : Int := if (0 ≤ a ∧ a ≤ 1000000000000) ∧ 1 ≤ b ∧ b ≤ 1000000000000 then (a + b - 1) / b else 0
theorem ceil_eq (a b : Int) : impl_CeilDiv.f a b = some (ceilP a b) := by
  unfold impl_CeilDiv.f ceilP
  rw [inRange_eq, inRange_eq]
  simp only [Option.bind_some, decide_eq_true_eq]
  by_cases h1 : 0 ≤ a ∧ a ≤ 1000000000000
  · by_cases h2 : 1 ≤ b ∧ b ≤ 1000000000000
    · rw [if_pos h1, if_pos h2, if_neg (by omega), if_pos ⟨h1, h2⟩, w64 (x := a + b) (by omega) (by omega), w64 (x := a + b - 1) (by omega) (by omega)]
      have e : Int.tdiv (a + b - 1) b = (a + b - 1) / b := Int.tdiv_eq_ediv_of_nonneg (by omega)
      rw [e]
      have q0 : 0 ≤ (a + b - 1) / b := Int.ediv_nonneg (by omega) (by omega)
      have q1 : (a + b - 1) / b ≤ a + b - 1 := Int.ediv_le_self _ (by omega)
      rw [w64 (by omega) (by omega)]
    · rw [if_pos h1, if_neg h2, if_neg (fun h => h2 h.2)]
  · rw [if_neg h1, if_neg (fun h => h1 h.1)]
theorem ceil_mul {a b : Int} (h1 : 0 ≤ a ∧ a ≤ 1000000000000) (h2 : 1 ≤ b ∧ b ≤ 1000000000000) : a ≤ ceilP a b * b ∧ ceilP a b * b - a < b := by
  unfold ceilP
  rw [if_pos ⟨h1, h2⟩]
  have e := Int.emod_add_mul_ediv (a + b - 1) b
  have m0 := Int.emod_nonneg (a + b - 1) (show b ≠ 0 by omega)
  have m1 := Int.emod_lt_of_pos (a + b - 1) (show 0 < b by omega)
  rw [Int.mul_comm b] at e
  generalize (a + b - 1) / b * b = p at e ⊢
  generalize (a + b - 1) % b = r at e m0 m1
  omega
theorem mod_sub {a b : Int} (h2 : 1 ≤ b ∧ b ≤ 1000000000000) : Int.tmod (wrap64 (Int.tmod a b - modP a b)) b = 0 := by
  have e1 := modP_emod (p := a) h2.1 h2.2
  have r := modP_range (p := a) h2.1 h2.2
  have t1 := Int.tmod_lt_of_pos a (b := b) (by omega)
  have t2 : -b < Int.tmod a b := by
    rcases Int.le_total 0 a with h | h
    · have := Int.tmod_nonneg b h; omega
    · have e : Int.tmod a b = -Int.tmod (-a) b := by rw [Int.neg_tmod]; omega
      have := Int.tmod_lt_of_pos (-a) (b := b) (by omega)
      omega
  rw [w64 (by omega) (by omega)]
  have hd : b ∣ (Int.tmod a b - modP a b) := by
    rw [e1]
    have h1 := Int.tmod_add_mul_tdiv a b
    have h3 := Int.emod_add_mul_ediv a b
    refine ⟨Int.ediv a b - Int.tdiv a b, ?_⟩
    rw [Int.mul_sub]
    have h4 : b * Int.ediv a b = b * (a / b) := rfl
    omega
  exact Int.tmod_eq_zero_of_dvd hd
theorem ints_j2 (a b q : Int) (hq : q = ceilP a b) (h2 : 1 ≤ b ∧ b ≤ 1000000000000) : Ev (fun k => laws_FnIntegers.j2 k a b q false) true := by
  refine evSucc ?_
  simp only [laws_FnIntegers.j2, Bool.false_eq_true, if_false]
  by_cases ha : 0 ≤ a ∧ a ≤ 1000000000000
  · have hm := ceil_mul ha h2
    refine evF _ (by omega) (evF _ (by omega) ?_)
    rw [hq, w64 (x := ceilP a b * b) (by omega) (by omega), w64 (x := ceilP a b * b - a) (by omega) (by omega)]
    refine evT _ hm.1 ?_
    rw [decide_eq_true hm.2]
    exact Ev.now _
  · have hq0 : q = 0 := by rw [hq]; unfold ceilP; rw [if_neg (fun h => ha h.1)]
    rw [hq0]
    refine evIte (fun _ => Ev.now _) (fun h => evT _ (by omega) (Ev.now _))
theorem ints_j1 (a b : Int) (h2 : 1 ≤ b ∧ b ≤ 1000000000000) : Ev (fun k => laws_FnIntegers.j1 k a b (ceilP a b) (modP a b) false) true := by
  have r := modP_range (p := a) h2.1 h2.2
  refine evSucc ?_
  simp only [laws_FnIntegers.j1, Bool.false_eq_true, if_false]
  refine evF _ (by omega) (evF _ (by omega) (evF _ (by omega) ?_))
  rw [mod_sub h2]
  exact ints_j2 a b _ rfl h2
theorem ints_j1t (a b : Int) (h2 : ¬ (1 ≤ b ∧ b ≤ 1000000000000)) : Ev (fun k => laws_FnIntegers.j1 k a b (ceilP a b) (modP a b) true) true := by
  have q0 : ceilP a b = 0 := by unfold ceilP; rw [if_neg (fun h => h2 h.2)]
  have r0 : modP a b = 0 := by unfold modP; rw [if_neg h2]
  rw [q0, r0]
  refine evSucc ?_
  simp only [laws_FnIntegers.j1, if_true]
  exact Ev.now _
theorem ints_j0 (a b : Int) : Ev (fun k => laws_FnIntegers.j0 k a b (ceilP a b) (modP a b) false) true := by
  refine evSucc ?_
  simp only [laws_FnIntegers.j0, Bool.false_eq_true, if_false]
  by_cases h1 : b < 1
  · exact evT _ h1 (ints_j1t a b (by omega))
  · refine evF _ h1 ?_
    by_cases h2 : b > 1000000000000
    · rw [decide_eq_true h2]
      exact ints_j1t a b (by omega)
    · rw [decide_eq_false h2]
      exact ints_j1 a b (by omega)
theorem drawParse (l : List Int) (h : Int) (hl : l.length ≤ 1048576) (hnew : Ev (fun k => spec_l1New.f k l) (l, 0, h)) : ∃ s, Ev (fun k => spec_DrawParseInt.f k l) s ∧ s.size ≤ 100 := by
  obtain ⟨o, i1, g1, e1, c1, d1⟩ := once_ex l 0 h 2 hl (by omega) (by omega)
  unfold spec_DrawParseInt.f
  cases o with
  | true =>
    obtain ⟨v, i2, g2, e2, m2, c2, d2⟩ := str_ex l i1 g1 [(⟨#[]⟩ : ByteArray), (⟨#[48]⟩ : ByteArray), (⟨#[48, 48]⟩ : ByteArray), (⟨#[45, 49]⟩ : ByteArray), (⟨#[48, 49]⟩ : ByteArray), (⟨#[55]⟩ : ByteArray), (⟨#[49, 48, 48, 48, 48, 48, 48, 48, 48, 48, 48, 48, 48]⟩ : ByteArray), (⟨#[49, 48, 48, 48, 48, 48, 48, 48, 48, 48, 48, 48, 49]⟩ : ByteArray), (⟨#[57, 57, 57, 57, 57, 57, 57, 57, 57, 57, 57, 57, 57, 57]⟩ : ByteArray), (⟨#[49, 120]⟩ : ByteArray), (⟨#[32, 49]⟩ : ByteArray)] (by simp) hl c1 d1
    refine ⟨v, Ev.bind hnew ?_, ?_⟩
    · simp only [e1, Option.bind_some, if_true, e2]
      exact Ev.now _
    · simp only [List.mem_cons, List.not_mem_nil, or_false] at m2
      rcases m2 with rfl | rfl | rfl | rfl | rfl | rfl | rfl | rfl | rfl | rfl | rfl <;> decide
  | false =>
    obtain ⟨n, i2, g2, e2, n0, n1, c2, d2⟩ := num_ex l i1 g1 hl c1 d1
    refine ⟨⟨(Lib.itoa n).toArray⟩, Ev.bind hnew ?_, ?_⟩
    · simp only [e1, Option.bind_some, Bool.false_eq_true, if_false, e2]
      exact Ev.bind (fmt_ev n (by omega) (by omega)) (Ev.now _)
    · rw [size_mk]
      have := itoa_len n (by omega) (by omega)
      omega

theorem FnIntegers : laws_FnIntegers.Pure := by
  intro l _ _ hb0
  refine Ev.rounds ?_
  unfold laws_FnIntegers.f
  simp only [big_eq, Option.bind_some, decide_eq_true_eq]
  refine evIte (fun _ => Ev.now _) (fun hbig => ?_)
  have hl : l.length ≤ 1048576 := by omega
  obtain ⟨h, hnew⟩ := new_ev l hl

  obtain ⟨s, hs, hss⟩ := drawParse l h hl hnew
  have hm : ∃ m, Ev (fun k => spec_DrawFormatInt.f k l) m ∧ -9223372036854775808 ≤ m ∧ m ≤ 9223372036854775807 := by
    unfold spec_DrawFormatInt.f
    obtain ⟨m, i1, g1, e1, c1, d1, b1, b2⟩ := one_ex l 0 h hl (by omega) (by omega)
    refine ⟨m, Ev.bind hnew ?_, b1, b2⟩
    simp only [e1, Option.bind_some]
    exact Ev.now _
  obtain ⟨m, hm, m0, m1⟩ := hm
  have hab : ∃ a b, Ev (fun k => spec_DrawCeilDiv.f k l) (a, b) := by
    unfold spec_DrawCeilDiv.f
    obtain ⟨a, i1, g1, e1, c1, d1, _, _⟩ := one_ex l 0 h hl (by omega) (by omega)
    obtain ⟨b, i2, g2, e2, c2, d2, _, _⟩ := one_ex l i1 g1 hl c1 d1
    refine ⟨a, b, Ev.bind hnew ?_⟩
    simp only [e1, Option.bind_some, e2]
    exact Ev.now _
  obtain ⟨a, b, hab⟩ := hab
  have hlm := itoa_len m m0 m1
  refine Ev.bind hs ?_
  simp only [parI s (by omega), Option.bind_some]
  refine Ev.bind hm ?_
  simp only [fmtI m m0 m1, Option.bind_some, parI ⟨(Lib.itoa m).toArray⟩ (by rw [size_mk]; omega), gItoa m]
  refine Ev.bind hab ?_
  simp only [ceil_eq, implMod_eq, Option.bind_some]
  have hj := ints_j0 a b
  have tail : ∀ f : Nat → Option Bool, Ev f true → Ev (fun k => if m ≥ 0 then (if ((if 0 ≤ m ∧ m ≤ 1000000000000 then (m, true) else (0, false)).2 != (decide (m ≤ 1000000000000))) = true then (laws_FnIntegers.j0 k a b (ceilP a b) (modP a b) true) else (if (if 0 ≤ m ∧ m ≤ 1000000000000 then (m, true) else (0, false)).2 = true then (laws_FnIntegers.j0 k a b (ceilP a b) (modP a b) ((if 0 ≤ m ∧ m ≤ 1000000000000 then (m, true) else (0, false)).1 != m)) else (laws_FnIntegers.j0 k a b (ceilP a b) (modP a b) false))) else (if ((if 0 ≤ m ∧ m ≤ 1000000000000 then (m, true) else (0, false)).2 != false) = true then (laws_FnIntegers.j0 k a b (ceilP a b) (modP a b) true) else (if (if 0 ≤ m ∧ m ≤ 1000000000000 then (m, true) else (0, false)).2 = true then (laws_FnIntegers.j0 k a b (ceilP a b) (modP a b) ((if 0 ≤ m ∧ m ≤ 1000000000000 then (m, true) else (0, false)).1 != m)) else (laws_FnIntegers.j0 k a b (ceilP a b) (modP a b) false)))) true := by
    intro _ _
    by_cases hr : 0 ≤ m ∧ m ≤ 1000000000000
    · simp only [if_pos hr]
      refine evT _ hr.1 ?_
      rw [decide_eq_true hr.2]
      simp only [bne_self_eq_false, Bool.false_eq_true, if_false, if_true]
      exact hj
    · simp only [if_neg hr]
      by_cases h0 : m ≥ 0
      · refine evT _ h0 ?_
        rw [decide_eq_false (by omega)]
        simp only [bne_self_eq_false, Bool.false_eq_true, if_false]
        exact hj
      · refine evF _ h0 ?_
        simp only [bne_self_eq_false, Bool.false_eq_true, if_false]
        exact hj
  have tail := tail _ (Ev.now true)
  by_cases hg : (impl_ParseInt.g s).2 = true
  · have hsh := gShape s hg
    refine evT _ hg ?_
    simp only [fmtI (impl_ParseInt.g s).1 (by omega) (by omega), Option.bind_some]
    refine evT _ (by rw [ByteArray.toList_mk]; exact hsh.2.2) tail
  · exact evF _ hg tail

end Go.Proofs.YtofgihojpggecaaDoor.Pure
