/- The law FnExactGuardsOf returns true for all arguments: the program's GuardsOf and the reference's agree, and the format that is given reads as before; what is handed back is a list of its own. It holds for every input that the statement admits; no condition is added. -/
import Derived.Test.YtofgihojpggecaaQFnExactGuardsOfx5
namespace Go.Proofs.Ytofgihojpggecaa.Pure
open Go.RowKit Go.Proofs.Ytofgihojpggecaa.QFnExactGuardsOf Go.Proofs.YtofgihojpggecaaW.PrintWords Go.Proofs.YtofgihojpggecaaW.PrintLast Go.Proofs.YtofgihojpggecaaW.PrintMore
set_option linter.unusedVariables false
set_option linter.unusedSimpArgs false

theorem w64 {x : Int} (h0 : -9223372036854775808 ≤ x) (h1 : x ≤ 9223372036854775807) : wrap64 x = x := by unfold wrap64; omega
theorem wsucc {i : Nat} (h : i < 4611686018427387904) : wrap64 ((i : Int) + 1) = ((i + 1 : Nat) : Int) := by unfold wrap64; omega
theorem wfI {x : Int} (h : (Lit.int .i64 x).wf = true) : -9223372036854775808 ≤ x ∧ x ≤ 9223372036854775807 := by
  simp only [Lit.wf, Bool.and_eq_true, decide_eq_true_eq] at h
  exact h
theorem wfB {x : Int} (h : (Lit.int .u8 x).wf = true) : 0 ≤ x ∧ x ≤ 255 := by
  simp only [Lit.wf, Bool.and_eq_true, decide_eq_true_eq] at h
  exact h
theorem rdn (l : List Int) (i : Nat) : rd l (i : Int) = l.getD i 0 := by simp [rd]
theorem evOne {α : Type} {f : Option α} {r : α} (h : f = some r) : Ev (fun _ => f) r := ⟨0, fun _ _ => h⟩
theorem evUp {ρ : Type} {g : Nat → Nat → Option ρ} {R : Nat → ρ} (n : Nat) (last : Ev (g n) (R n)) (step : ∀ i, i < n → Ev (g (i + 1)) (R (i + 1)) → Ev (g i) (R i)) : ∀ i, i ≤ n → Ev (g i) (R i) := by
  intro i hi
  obtain ⟨d, hd⟩ : ∃ d, i + d = n := ⟨n - i, by omega⟩
  induction d generalizing i with
  | zero => obtain rfl : i = n := by omega
            exact last
  | succ d ih => exact step i (by omega) (ih (i + 1) (by omega) (by omega))
theorem getD_mem {α : Type} {l : List α} {i : Nat} {d : α} (h : i < l.length) : l.getD i d ∈ l := by
  rw [List.getD_eq_getElem?_getD, List.getElem?_eq_getElem h]; exact List.getElem_mem h
theorem getD_get {α : Type} {l : List α} {i : Nat} {d : α} (h : i < l.length) : l.getD i d = l[i] := by
  rw [List.getD_eq_getElem?_getD, List.getElem?_eq_getElem h]; rfl
theorem take_set_rep {α : Type} (l : List α) (z d : α) (i : Nat) (h : i < l.length) : (l.take i ++ List.replicate (l.length - i) z).set i (l.getD i d) = l.take (i + 1) ++ List.replicate (l.length - (i + 1)) z := by
  obtain ⟨m, hm⟩ : ∃ m, l.length - i = m + 1 := ⟨l.length - i - 1, by omega⟩
  have hm' : l.length - (i + 1) = m := by omega
  rw [hm, hm', List.set_append_right _ _ (by rw [List.length_take]; omega), List.length_take, Nat.min_eq_left (by omega), Nat.sub_self, List.replicate_succ, List.set_cons_zero, getD_get h, List.take_succ_eq_append_getElem h, List.append_assoc, List.singleton_append]
theorem drop_eq_iff {α : Type} (a b : List α) (d : α) (i : Nat) (ha : i < a.length) (hb : i < b.length) : (a.drop i = b.drop i) ↔ (a.getD i d = b.getD i d ∧ a.drop (i + 1) = b.drop (i + 1)) := by
  rw [List.drop_eq_getElem_cons ha, List.drop_eq_getElem_cons hb, List.cons.injEq, getD_get ha, getD_get hb]
theorem take_rep_len {α : Type} (l : List α) (z : α) (i : Nat) (h : i ≤ l.length) : (l.take i ++ List.replicate (l.length - i) z).length = l.length := by
  simp; omega

theorem evSucc {α : Type} {g : Nat → Option α} {r : α} (h : Ev (fun k => g (k + 1)) r) : Ev g r := Ev.step (fun _ => rfl) h
theorem evIte {α : Type} {c : Prop} [Decidable c] {f g : Nat → Option α} {r : α} (h1 : c → Ev f r) (h2 : ¬ c → Ev g r) : Ev (fun k => if c then f k else g k) r := by
  by_cases h : c
  · simp only [if_pos h]; exact h1 h
  · simp only [if_neg h]; exact h2 h
theorem evT {α : Type} {f g : Nat → Option α} {r : α} (c : Prop) [Decidable c] (h : c) (h1 : Ev f r) : Ev (fun k => if c then f k else g k) r := by
  simp only [if_pos h]; exact h1
theorem evF {α : Type} {f g : Nat → Option α} {r : α} (c : Prop) [Decidable c] (h : ¬ c) (h1 : Ev g r) : Ev (fun k => if c then f k else g k) r := by
  simp only [if_neg h]; exact h1
theorem mneg (n : Nat) : ((1 : Int) + (n : Int) < 0) = False := eq_false (by omega)
theorem mneg2 (n m : Nat) : ((1 : Int) + (n : Int) + (m : Int) < 0) = False := eq_false (by omega)

theorem evB {b b' : Bool} (h : b = b') : Ev (fun _ => some b) b' := by rw [h]; exact Ev.now _
theorem rdF (l : List S34) (i : Nat) : rd_T34 l (i : Int) = l.getD i z34 := by simp [rd_T34]

def gL (l : List S34) : List Int := (l.filter (fun x => decide (¬ x.f2 = -1))).map (·.f2)
theorem gL_step (l : List S34) (i : Nat) (h : i < l.length) : gL (l.take (i + 1)) = gL (l.take i) ++ (if (l.getD i z34).f2 = -1 then [] else [(l.getD i z34).f2]) := by
  unfold gL
  rw [List.take_succ_eq_append_getElem h, List.filter_append, List.map_append, getD_get h]
  congr 1
  by_cases h0 : l[i].f2 = -1
  · rw [if_pos h0]; simp [h0]
  · rw [if_neg h0]; simp [h0]
theorem gL_len (l : List S34) : (gL l).length ≤ l.length := by
  unfold gL
  rw [List.length_map]
  exact List.length_filter_le _ _
def putP : List Int → Int → List Int
  | [], n => [n]
  | x :: r, n => if x < n then x :: putP r n else if x = n then x :: r else n :: x :: r
theorem putP_len (n : Int) : ∀ l : List Int, (putP l n).length ≤ l.length + 1
  | [] => by simp [putP]
  | x :: r => by
    unfold putP
    by_cases h1 : x < n
    · rw [if_pos h1]; simp only [List.length_cons]; have := putP_len n r; omega
    · rw [if_neg h1]
      by_cases h2 : x = n
      · rw [if_pos h2]; simp
      · rw [if_neg h2]; simp
theorem putP_mem (n y : Int) : ∀ l : List Int, y ∈ putP l n ↔ (y ∈ l ∨ y = n)
  | [] => by simp [putP]
  | x :: r => by
    unfold putP
    by_cases h1 : x < n
    · rw [if_pos h1, List.mem_cons, putP_mem n y r, List.mem_cons, or_assoc]
    · rw [if_neg h1]
      by_cases h2 : x = n
      · rw [if_pos h2]
        constructor
        · exact Or.inl
        · rintro (h | h)
          · exact h
          · subst h; subst h2; exact List.mem_cons_self
      · rw [if_neg h2, List.mem_cons, or_comm]
theorem putP_lt (n : Int) : ∀ l : List Int, l.Pairwise (· < ·) → (putP l n).Pairwise (· < ·)
  | [], _ => by simp [putP]
  | x :: r, h => by
    obtain ⟨hx, hr⟩ := List.pairwise_cons.1 h
    unfold putP
    by_cases h1 : x < n
    · rw [if_pos h1]
      refine List.pairwise_cons.2 ⟨fun y hy => ?_, putP_lt n r hr⟩
      rcases (putP_mem n y r).1 hy with h2 | h2
      · exact hx y h2
      · omega
    · rw [if_neg h1]
      by_cases h2 : x = n
      · rw [if_pos h2]; exact h
      · rw [if_neg h2]
        refine List.pairwise_cons.2 ⟨fun y hy => ?_, h⟩
        rcases List.mem_cons.1 hy with h3 | h3
        · omega
        · have := hx y h3; omega
theorem fold_put : ∀ (g acc : List Int), acc.Pairwise (· < ·) → (g.foldl putP acc).Pairwise (· < ·) ∧ (∀ y, y ∈ g.foldl putP acc ↔ (y ∈ acc ∨ y ∈ g)) ∧ (g.foldl putP acc).length ≤ acc.length + g.length
  | [], acc, h => ⟨h, fun y => by simp, by simp⟩
  | n :: r, acc, h => by
    obtain ⟨a, b, c⟩ := fold_put r (putP acc n) (putP_lt n acc h)
    refine ⟨a, fun y => ?_, ?_⟩
    · rw [List.foldl_cons, b y, putP_mem, List.mem_cons, or_assoc]
    · rw [List.foldl_cons, List.length_cons]
      have := putP_len n acc
      omega
theorem strict_eq : ∀ a b : List Int, a.Pairwise (· < ·) → b.Pairwise (· < ·) → (∀ y, y ∈ a ↔ y ∈ b) → a = b
  | [], [], _, _, _ => rfl
  | [], x :: r, _, _, h => absurd ((h x).2 List.mem_cons_self) (by simp)
  | x :: r, [], _, _, h => absurd ((h x).1 List.mem_cons_self) (by simp)
  | x :: r, y :: s, ha, hb, h => by
    obtain ⟨hx, hr⟩ := List.pairwise_cons.1 ha
    obtain ⟨hy, hs⟩ := List.pairwise_cons.1 hb
    have e : x = y := by
      rcases List.mem_cons.1 ((h x).1 List.mem_cons_self) with h1 | h1
      · exact h1
      · rcases List.mem_cons.1 ((h y).2 List.mem_cons_self) with h2 | h2
        · exact h2.symm
        · have := hx y h2; have := hy x h1; omega
    subst e
    rw [strict_eq r s hr hs (fun z => ?_)]
    constructor
    · intro hz
      rcases List.mem_cons.1 ((h z).1 (List.mem_cons_of_mem _ hz)) with h1 | h1
      · have := hx z hz; omega
      · exact h1
    · intro hz
      rcases List.mem_cons.1 ((h z).2 (List.mem_cons_of_mem _ hz)) with h1 | h1
      · have := hy z hz; omega
      · exact h1
theorem upTo_facts (d : Array Int) (hm : ∀ i j, i ≤ j → j < d.size → d[i]! ≤ d[j]!) (m : Nat) : m ≤ d.size → (Lib.compactUpTo d m).Pairwise (· < ·) ∧ (∀ x, x ∈ Lib.compactUpTo d m ↔ ∃ j, j < m ∧ d[j]! = x) := by
  induction m with
  | zero => intro _; exact ⟨by simp [Lib.compactUpTo], fun x => by simp [Lib.compactUpTo]⟩
  | succ m ih =>
    intro hs
    obtain ⟨a, b⟩ := ih (by omega)
    rw [Lib.compactUpTo_succ]
    by_cases hk : Lib.keeps d m = true
    · rw [if_pos hk]
      refine ⟨?_, fun x => ?_⟩
      · refine List.pairwise_append.2 ⟨a, List.pairwise_singleton _ _, fun x hx y hy => ?_⟩
        rw [List.mem_singleton] at hy
        subst hy
        obtain ⟨j, hj, rfl⟩ := (b x).1 hx
        have hm0 : m ≠ 0 := by omega
        have hne : d[m]! ≠ d[m - 1]! := by
          unfold Lib.keeps at hk
          rw [decide_eq_true_eq] at hk
          exact hk.resolve_left hm0
        have h1 := hm j (m - 1) (by omega) (by omega)
        have h2 := hm (m - 1) m (by omega) (by omega)
        omega
      · rw [List.mem_append, List.mem_singleton, b x]
        constructor
        · rintro (⟨j, hj, e⟩ | e)
          · exact ⟨j, by omega, e⟩
          · exact ⟨m, by omega, e.symm⟩
        · rintro ⟨j, hj, e⟩
          by_cases hjm : j = m
          · subst hjm; exact .inr e.symm
          · exact .inl ⟨j, by omega, e⟩
    · rw [if_neg hk, List.append_nil]
      refine ⟨a, fun x => ?_⟩
      rw [b x]
      constructor
      · rintro ⟨j, hj, e⟩; exact ⟨j, by omega, e⟩
      · rintro ⟨j, hj, e⟩
        by_cases hjm : j = m
        · subst hjm
          unfold Lib.keeps at hk
          rw [decide_eq_true_eq] at hk
          have h0 : j ≠ 0 := fun h => hk (.inl h)
          have h1 : d[j]! = d[j - 1]! := by
            by_cases h : d[j]! = d[j - 1]!
            · exact h
            · exact absurd (.inr h) hk
          exact ⟨j - 1, by omega, by rw [← h1]; exact e⟩
        · exact ⟨j, by omega, e⟩
theorem compact_facts (zs : List Int) (hs : zs.Pairwise (· ≤ ·)) : (Lib.compact zs).Pairwise (· < ·) ∧ ∀ x, x ∈ Lib.compact zs ↔ x ∈ zs := by
  have hg : ∀ j, (h : j < zs.length) → zs.toArray[j]! = zs[j] := fun j h => by
    rw [getElem!_pos zs.toArray j (by simpa using h)]
    simp
  have hm : ∀ i j, i ≤ j → j < zs.toArray.size → zs.toArray[i]! ≤ zs.toArray[j]! := by
    intro i j hij hj
    have hj' : j < zs.length := by simpa using hj
    rw [hg i (by omega), hg j hj']
    rcases Nat.lt_or_ge i j with h | h
    · exact List.pairwise_iff_getElem.1 hs i j (by omega) hj' h
    · obtain rfl : i = j := by omega
      exact Int.le_refl _
  obtain ⟨a, b⟩ := upTo_facts zs.toArray hm zs.length (by simp)
  refine ⟨a, fun x => ?_⟩
  unfold Lib.compact
  rw [b x, List.mem_iff_getElem]
  constructor
  · rintro ⟨j, hj, e⟩; exact ⟨j, hj, by rw [← hg j hj]; exact e⟩
  · rintro ⟨j, hj, e⟩; exact ⟨j, hj, by rw [hg j hj]; exact e⟩
def guardsP (l : List S34) : List Int := (gL l).foldl putP []
theorem guards_sort (l : List S34) : Lib.compact ((gL l).mergeSort fun x y => decide (x ≤ y)) = guardsP l := by
  have hs : ((gL l).mergeSort fun x y => decide (x ≤ y)).Pairwise (· ≤ ·) := by
    have := List.pairwise_mergeSort (le := fun x y : Int => decide (x ≤ y)) (fun a b c h1 h2 => by simp at h1 h2 ⊢; omega) (fun a b => by simp; omega) (gL l)
    exact this.imp (fun h => by simpa using h)
  obtain ⟨a, b⟩ := compact_facts _ hs
  obtain ⟨c, d, _⟩ := fold_put (gL l) [] List.Pairwise.nil
  refine strict_eq _ _ a c (fun y => ?_)
  rw [b y, List.mem_mergeSort]
  unfold guardsP
  rw [d y]
  simp
theorem guardsP_len (l : List S34) : (guardsP l).length ≤ l.length := by
  have h := (fold_put (gL l) [] List.Pairwise.nil).2.2
  have h2 := gL_len l
  unfold guardsP
  simp only [List.length_nil, Nat.zero_add] at h
  omega
theorem l4Put_loop (n : Int) (l : List Int) (hl : l.length ≤ 2000000) : ∀ (rest p : List Int), l = p ++ rest → Ev (fun k => spec_l4Put.l0 k l n (p.length : Int)) (p ++ putP rest n)
  | [], p, e => by
    rw [List.append_nil] at e
    subst e
    have ht : l.take l.length = l := List.take_length
    have hd : l.drop l.length = [] := List.drop_length
    refine evSucc ?_
    simp only [spec_l4Put.l0, Option.bind_some, List.nil_append, List.length_nil, Nat.zero_add, Int.toNat_natCast, ht, hd, List.length_append, List.length_singleton, List.append_nil, putP]
    exact evF _ (by omega) (evT _ (by omega) (evT _ (by omega) (evT _ (by omega) (evT _ (by omega) (evT _ (by omega) (Ev.now _))))))
  | x :: r, p, e => by
    have hlen : p.length < l.length := by rw [e, List.length_append, List.length_cons]; omega
    have hrd : rd l (p.length : Int) = x := by
      rw [rdn, e, List.getD_eq_getElem?_getD, List.getElem?_append_right (Nat.le_refl _), Nat.sub_self]; rfl
    have ht : l.take p.length = p := by rw [e]; exact List.take_left
    have hd : l.drop p.length = x :: r := by rw [e]; exact List.drop_left
    have ih := l4Put_loop n l hl r (p ++ [x]) (by rw [e, List.append_assoc]; rfl)
    rw [List.length_append, List.length_singleton] at ih
    have hll : p.length + (r.length + 1) = l.length := by rw [e, List.length_append, List.length_cons]
    refine evSucc ?_
    simp only [spec_l4Put.l0, hrd, wsucc (show p.length < 4611686018427387904 by omega), Option.bind_some, List.nil_append, List.length_nil, Nat.zero_add, Int.toNat_natCast, ht, hd, List.length_append, List.length_singleton, List.length_cons]
    refine evT _ (by omega) (evT _ (by omega) ?_)
    unfold putP
    by_cases h1 : x < n
    · rw [if_pos h1]
      refine evT _ h1 ?_
      rw [List.append_assoc] at ih
      exact ih
    · rw [if_neg h1]
      refine evF _ h1 ?_
      by_cases h2 : x = n
      · simp only [if_pos h2]
        rw [← e]
        exact evT _ (by omega) (Ev.now _)
      · simp only [if_neg h2]
        refine (evT _ (by omega) (evT _ (by omega) (evT _ (by omega) (evT _ (by omega) ?_))))
        have e2 : p ++ n :: x :: r = p ++ [n] ++ x :: r := by rw [List.append_assoc]; rfl
        rw [e2]
        exact Ev.now _
theorem l4Put_ev (n : Int) (l : List Int) (hl : l.length ≤ 2000000) : Ev (fun k => spec_l4Put.f k l n) (putP l n) := l4Put_loop n l hl l [] rfl
theorem specGuards_ev (l : List S34) (hl : l.length ≤ 1048576) : Ev (fun k => spec_GuardsOf.f k l) (guardsP l) := by
  unfold spec_GuardsOf.f guardsP
  have := evUp (g := fun i k => spec_GuardsOf.l0 k l ((gL (l.take i)).foldl putP []) (i : Int)) (R := fun _ => (gL l).foldl putP []) l.length ?_ ?_ 0 (Nat.zero_le _)
  · simpa [gL] using this
  · refine evSucc ?_
    simp only [spec_GuardsOf.l0, List.take_length]
    exact evF ((l.length : Int) < (l.length : Int)) (by omega) (Ev.now _)
  · intro i hlt ih
    have hb : ((gL (l.take i)).foldl putP []).length ≤ 2000000 := by
      have h := (fold_put (gL (l.take i)) [] List.Pairwise.nil).2.2
      have h2 := gL_len (l.take i)
      rw [List.length_take] at h2
      simp only [List.length_nil, Nat.zero_add] at h
      omega
    rw [gL_step l i hlt, List.foldl_append] at ih
    refine evSucc ?_
    simp only [spec_GuardsOf.l0, rdF, wsucc (show i < 4611686018427387904 by omega)]
    refine evT _ (by omega) (evT _ (by omega) ?_)
    generalize (l.getD i z34).f2 = n at ih ⊢
    by_cases h0 : n = -1
    · rw [if_pos h0] at ih
      exact evT _ h0 ih
    · rw [if_neg h0] at ih
      exact evF _ h0 (Ev.bind (l4Put_ev n _ hb) ih)
theorem implGuards_ev (l : List S34) (hl : l.length ≤ 1048576) : Ev (fun k => impl_GuardsOf.f k l) (guardsP l) := by
  unfold impl_GuardsOf.f
  have := evUp (g := fun i k => impl_GuardsOf.l0 k (gL (l.take i)) l (l.length : Int) (i : Int)) (R := fun _ => guardsP l) l.length ?_ ?_ 0 (Nat.zero_le _)
  · simpa [gL] using this
  · have hg := gL_len l
    refine evSucc ?_
    simp only [impl_GuardsOf.l0, List.take_length]
    refine evF ((l.length : Int) < (l.length : Int)) (by omega) ?_
    have hs : slices_Sort_int_int.f (gL l) = some ((gL l).mergeSort fun x y => decide (x ≤ y)) := by unfold slices_Sort_int_int.f; rw [if_pos (by omega)]
    have hc : slices_Compact_int_int.f ((gL l).mergeSort fun x y => decide (x ≤ y)) = some (guardsP l) := by
      unfold slices_Compact_int_int.f
      rw [if_pos (by rw [List.length_mergeSort]; omega), guards_sort]
    simp only [hs, Option.bind_some, hc]
    exact Ev.now _
  · intro i hlt ih
    have h2 := gL_len (l.take i)
    rw [List.length_take] at h2
    rw [gL_step l i hlt] at ih
    refine evSucc ?_
    simp only [impl_GuardsOf.l0, rdF, wsucc (show i < 4611686018427387904 by omega)]
    refine evT _ (by omega) (evT _ (by omega) (evT _ (by omega) ?_))
    generalize (l.getD i z34).f2 = n at ih ⊢
    by_cases h0 : n = -1
    · rw [if_pos h0, List.append_nil] at ih
      exact evT _ h0 ih
    · rw [if_neg h0] at ih
      exact evF _ h0 (evT _ (by omega) ih)

def cvF (x : S37) : S34 := ⟨x.f0, x.f1, x.f2, x.f3⟩
theorem rdLF (l : List S37) (i : Nat) : rd_T37 l (i : Int) = l.getD i z37 := by simp [rd_T37]
theorem toFieldS_ev (l : List S37) (hl : l.length ≤ 1048576) : Ev (fun k => laws_toFieldS.f k l) (l.map cvF) := by
  have H : Ev (fun k => laws_toFieldS.l0 k l (List.replicate l.length z34) 0) (l.map cvF) := by
    have := evUp (g := fun i k => laws_toFieldS.l0 k l ((l.map cvF).take i ++ List.replicate ((l.map cvF).length - i) z34) (i : Int)) (R := fun _ => l.map cvF) l.length ?_ ?_ 0 (Nat.zero_le _)
    · simpa using this
    · refine evSucc ?_
      simp only [laws_toFieldS.l0]
      refine evF ((l.length : Int) < (l.length : Int)) (by omega) ?_
      simp only [List.length_map, Nat.sub_self, List.replicate_zero, List.append_nil]
      rw [List.take_of_length_le (by simp)]
      exact Ev.now _
    · intro i hi ih
      have hs := take_set_rep (l.map cvF) z34 z34 i (by simpa using hi)
      have hg : (l.map cvF).getD i z34 = cvF (l.getD i z37) := by
        rw [getD_get (by simpa using hi), getD_get hi]
        simp
      rw [hg] at hs
      refine evSucc ?_
      simp only [laws_toFieldS.l0, laws_toField.f, Option.bind_some, rdLF]
      refine evT ((i : Int) < (l.length : Int)) (by omega) (evT (0 ≤ (i : Int)) (by omega) (evT ((i : Int) < ((((l.map cvF).take i ++ List.replicate ((l.map cvF).length - i) z34).length : Nat) : Int)) (by simp; omega) ?_))
      rw [wsucc (by omega), Int.toNat_natCast]
      rw [← hs] at ih
      exact ih
  refine Ev.congr (fun k => ?_) H
  unfold laws_toFieldS.f
  rw [if_pos (by omega), if_pos (by omega)]
  simp
theorem eqFieldS_same (a : List S34) (hl : a.length ≤ 281474976710656) : Ev (fun k => laws_eqFieldS.f k a a) true := by
  unfold laws_eqFieldS.f
  refine evT ((a.length : Int) = (a.length : Int)) rfl ?_
  have := evUp (g := fun i k => laws_eqFieldS.l0 k a a (i : Int)) (R := fun _ => true) a.length ?_ ?_ 0 (Nat.zero_le _)
  · simpa using this
  · refine evSucc ?_
    simp only [laws_eqFieldS.l0]
    exact evF ((a.length : Int) < (a.length : Int)) (by omega) (Ev.now _)
  · intro i hi ih
    refine evSucc ?_
    simp only [laws_eqFieldS.l0, laws_eqField.f, if_true, Option.bind_some]
    refine evT ((i : Int) < (a.length : Int)) (by omega) (evT (0 ≤ (i : Int)) (by omega) (evT ((i : Int) < (a.length : Int)) (by omega) ?_))
    rw [wsucc (by omega)]
    exact ih
theorem szFieldS_eq (l : List S37) (a : Int) (h0 : 0 ≤ a) (h1 : a ≤ 1048576) (hl : l.length ≤ maxLen) : laws_szFieldS.f l a = some (if a < (l.length : Int) then -1 else a - (l.length : Int)) := by
  unfold maxLen at hl
  unfold laws_szFieldS.f
  rw [w64 (by omega) (by omega)]
  by_cases h : a < (l.length : Int)
  · rw [if_pos h, if_pos (by omega)]
  · rw [if_neg h, if_neg (by omega)]

theorem exSucc {α : Type} {g : Nat → Option α} {P : α → Prop} (H : ∃ r, Ev (fun k => g (k + 1)) r ∧ P r) : ∃ r, Ev g r ∧ P r := by
  obtain ⟨r, h, p⟩ := H
  exact ⟨r, evSucc h, p⟩
theorem exT {α : Type} {f g : Nat → Option α} {P : α → Prop} (c : Prop) [Decidable c] (h : c) (H : ∃ r, Ev f r ∧ P r) : ∃ r, Ev (fun k => if c then f k else g k) r ∧ P r := by
  obtain ⟨r, h1, p⟩ := H
  exact ⟨r, evT c h h1, p⟩
theorem markFieldS_loop (N d : Nat) : ∀ (i : Nat) (x : List S34) (m : Int), x.length = N → i + d = x.length → x.length ≤ 1048576 → 0 ≤ m → m ≤ 4 * (i : Int) + 1 → ∃ r, Ev (fun k => laws_markFieldS.l0 k x m (i : Int)) r ∧ 0 ≤ r.1 ∧ r.1 ≤ 4 * (N : Int) + 1 := by
  induction d with
  | zero =>
    intro i x m hN hi hl h0 h1
    refine ⟨(m, x), evSucc ?_, h0, by show m ≤ _; omega⟩
    simp only [laws_markFieldS.l0]
    exact evF ((i : Int) < (x.length : Int)) (by omega) (Ev.now _)
  | succ d ih =>
    intro i x m hN hi hl h0 h1
    have w1 : wrap64 (m + 1) = m + 1 := w64 (by omega) (by omega)
    have w2 : wrap64 (m + 1 + 1) = m + 1 + 1 := w64 (by omega) (by omega)
    have w3 : wrap64 (m + 1 + 1 + 1) = m + 1 + 1 + 1 := w64 (by omega) (by omega)
    have w4 : wrap64 (m + 1 + 1 + 1 + 1) = m + 1 + 1 + 1 + 1 := w64 (by omega) (by omega)
    have w5 : wrap64 ((i : Int) + 1) = ((i + 1 : Nat) : Int) := wsucc (by omega)
    refine exSucc ?_
    simp only [laws_markFieldS.l0, Option.bind_some, w1, w2, w3, w4, w5]
    refine exT ((i : Int) < (x.length : Int)) (by omega) (exT (0 ≤ (i : Int)) (by omega) ?_)
    exact ih (i + 1) _ (m + 1 + 1 + 1 + 1) (by simp only [List.length_set]; exact hN) (by simp only [List.length_set]; omega) (by simp only [List.length_set]; exact hl) (by omega) (by omega)
theorem markFieldS_ex2 (x : List S34) (hl : x.length ≤ 1048576) : ∃ r, Ev (fun k => laws_markFieldS.f k x 1) r ∧ 0 ≤ r.1 ∧ r.1 ≤ 4 * (x.length : Int) + 1 := by
  unfold laws_markFieldS.f
  exact markFieldS_loop x.length x.length 0 x 1 rfl (by omega) hl (by omega) (by omega)
theorem markFieldS_ex (x : List S34) (hl : x.length ≤ 1048576) : ∃ r, Ev (fun k => laws_markFieldS.f k x 1) r ∧ 0 ≤ r.1 := by
  obtain ⟨r, h, h0, _⟩ := markFieldS_ex2 x hl
  exact ⟨r, h, h0⟩

theorem eqIntS_ev (a b : List Int) (hl : a.length ≤ 281474976710656) : Ev (fun k => laws_eqIntS.f k a b) (decide (a = b)) := by
  by_cases hn : a.length = b.length
  · have H : Ev (fun k => laws_eqIntS.l0 k a b 0) (decide (a = b)) := by
      have := evUp (g := fun i k => laws_eqIntS.l0 k a b (i : Int)) (R := fun i => decide (a.drop i = b.drop i)) a.length ?_ ?_ 0 (Nat.zero_le _)
      · simpa using this
      · refine Ev.step (f := fun _ => some true) (fun k => ?_) (by simpa [hn] using Ev.now true)
        simp only [laws_eqIntS.l0]
        rw [if_neg (by omega)]
      · intro i hi ih
        have hd := drop_eq_iff a b 0 i hi (by omega)
        by_cases he : a.getD i 0 = b.getD i 0
        · refine Ev.step (f := fun k => laws_eqIntS.l0 k a b ((i + 1 : Nat) : Int)) (fun k => ?_) ?_
          · simp only [laws_eqIntS.l0]
            rw [if_pos (by omega), if_pos (by omega), if_pos (by omega), rdn, rdn, if_pos he, wsucc (by omega)]
          · have e : decide (a.drop i = b.drop i) = decide (a.drop (i + 1) = b.drop (i + 1)) := decide_eq_decide.mpr (hd.trans (and_iff_right he))
            simp only [e]
            exact ih
        · refine Ev.step (f := fun _ => some false) (fun k => ?_) ?_
          · simp only [laws_eqIntS.l0]
            rw [if_pos (by omega), if_pos (by omega), if_pos (by omega), rdn, rdn, if_neg he]
          · have e : decide (a.drop i = b.drop i) = false := decide_eq_false (fun h => he (hd.mp h).1)
            simp only [e]
            exact Ev.now false
    refine Ev.congr (fun k => ?_) H
    unfold laws_eqIntS.f
    rw [if_pos (by omega)]
  · have e : decide (a = b) = false := decide_eq_false (fun h => hn (by rw [h]))
    rw [e]
    refine Ev.congr (f := fun _ => some false) (fun k => ?_) (Ev.now false)
    unfold laws_eqIntS.f
    rw [if_neg (by omega)]
theorem eqIntS_same (a : List Int) (hl : a.length ≤ 281474976710656) : Ev (fun k => laws_eqIntS.f k a a) true := by simpa using eqIntS_ev a a hl

def markedInt (a : Int) (n : Nat) : List Int := (List.range n).map fun (i : Nat) => a + (i : Int)
theorem markedInt_len (a : Int) (n : Nat) : (markedInt a n).length = n := by simp [markedInt]
theorem markedInt_succ (a : Int) (n : Nat) : markedInt a (n + 1) = markedInt a n ++ [a + (n : Int)] := by simp [markedInt, List.range_succ]
theorem markIntS_ev (l : List Int) (a : Int) (h0 : 0 ≤ a) (h1 : a ≤ 1152921504606846976) (hl : l.length ≤ 281474976710656) : Ev (fun k => laws_markIntS.f k l a) (a + (l.length : Int), markedInt a l.length) := by
  have H := evUp (g := fun i k => laws_markIntS.l0 k (markedInt a i ++ l.drop i) (a + (i : Int)) (i : Int)) (R := fun _ => (a + (l.length : Int), markedInt a l.length)) l.length ?_ ?_ 0 (Nat.zero_le _)
  · refine Ev.congr (fun k => ?_) H
    unfold laws_markIntS.f
    simp [markedInt]
  · refine Ev.step (f := fun _ => some (a + (l.length : Int), markedInt a l.length)) (fun k => ?_) (Ev.now _)
    simp only [laws_markIntS.l0]
    rw [if_neg (by rw [List.length_append, markedInt_len]; simp)]
    simp
  · intro i hi ih
    refine Ev.step (fun k => ?_) ih
    simp only [laws_markIntS.l0]
    rw [if_pos (by rw [List.length_append, markedInt_len, List.length_drop]; omega), if_pos (by omega), wsucc (by omega), w64 (by omega) (by omega), Int.toNat_natCast, List.set_append_right _ _ (by rw [markedInt_len]; omega), markedInt_len, Nat.sub_self, List.drop_eq_getElem_cons hi, List.set_cons_zero, markedInt_succ, List.append_assoc, List.singleton_append]
    have e : a + (i : Int) + 1 = a + ((i + 1 : Nat) : Int) := by omega
    rw [e]

theorem markedInt_get (a : Int) (n i : Nat) (h : i < n) : (markedInt a n).getD i 0 = a + (i : Int) := by
  rw [getD_get (by rw [markedInt_len]; exact h)]
  simp [markedInt]
theorem heldIntS_ev (n : Nat) (a : Int) (h0 : 0 ≤ a) (h1 : a ≤ 1152921504606846976) (hl : n ≤ 281474976710656) : Ev (fun k => laws_heldIntS.f k (markedInt a n) a) (a + (n : Int)) := by
  have H := evUp (g := fun i k => laws_heldIntS.l0 k (markedInt a n) (a + (i : Int)) (i : Int)) (R := fun _ => a + (n : Int)) n ?_ ?_ 0 (Nat.zero_le _)
  · refine Ev.congr (fun k => ?_) H
    unfold laws_heldIntS.f
    simp
  · refine Ev.step (f := fun _ => some (a + (n : Int))) (fun k => ?_) (Ev.now _)
    simp only [laws_heldIntS.l0]
    rw [if_neg (by rw [markedInt_len]; omega)]
  · intro i hi ih
    refine Ev.step (fun k => ?_) ih
    simp only [laws_heldIntS.l0]
    rw [if_pos (by rw [markedInt_len]; omega), if_pos (by omega), rdn, markedInt_get a n i hi, if_pos rfl, wsucc (by omega), w64 (by omega) (by omega)]
    have e : a + (i : Int) + 1 = a + ((i + 1 : Nat) : Int) := by omega
    rw [e]

theorem FnExactGuardsOf : laws_FnExactGuardsOf.Pure := by
  intro a ha
  refine Ev.rounds ?_
  unfold laws_FnExactGuardsOf.f
  rw [szFieldS_eq a _ (by omega) (by omega) ha.1]
  by_cases h1 : (1048576 : Int) < (a.length : Int)
  · simp only [if_pos h1, Option.bind_some]
    exact evT ((-1 : Int) < 0) (by omega) (Ev.now _)
  simp only [if_neg h1, Option.bind_some]
  refine evF ((1048576 : Int) - (a.length : Int) < 0) (by omega) ?_
  have hlen := guardsP_len (a.map cvF)
  have hal : (a.map cvF).length ≤ 1048576 := by rw [List.length_map]; omega
  obtain ⟨mr, hmr, hmn⟩ := markFieldS_ex (a.map cvF) hal
  generalize hE : guardsP (a.map cvF) = E at hlen
  have hgi : ∀ l : List S34, l = a.map cvF → Ev (fun k => impl_GuardsOf.f k l) E := fun l e => by rw [← hE, e]; exact implGuards_ev _ hal
  have hgs : ∀ l : List S34, l = a.map cvF → Ev (fun k => spec_GuardsOf.f k l) E := fun l e => by rw [← hE, e]; exact specGuards_ev _ hal
  repeat first
    | with_reducible exact Ev.now _
    | (with_reducible refine Ev.bind (toFieldS_ev _ ?_) ?_; (· (first | omega | assumption | (dsimp only; omega) | (simp; omega))))
    | (with_reducible refine Ev.bind (eqFieldS_same _ ?_) ?_; (· (first | omega | assumption | (dsimp only; omega) | (simp; omega))))
    | (with_reducible refine Ev.bind (eqIntS_same _ ?_) ?_; (· (first | omega | assumption | (dsimp only; omega) | (simp; omega))))
    | (with_reducible refine Ev.bind (markIntS_ev _ _ (by omega) (by omega) ?_) ?_; (· (first | omega | assumption | (dsimp only; omega) | (simp; omega))))
    | (with_reducible refine Ev.bind (heldIntS_ev _ _ (by omega) (by omega) ?_) ?_; (· (first | omega | assumption | (dsimp only; omega) | (simp; omega))))
    | (with_reducible refine Ev.bind (hgi _ rfl) ?_)
    | (with_reducible refine Ev.bind (hgs _ rfl) ?_)
    | (with_reducible refine Ev.bind hmr ?_)
    | (with_reducible refine evF (mr.1 < 0) (by omega) ?_)
    | (with_reducible refine evSucc (g := fun k => laws_FnExactGuardsOf.j0 k _ _ _ _) ?_; simp only [laws_FnExactGuardsOf.j0])
    | simp only [if_true, if_false, Bool.false_eq_true, Bool.not_true, Bool.not_false, Bool.true_eq_false, mneg, mneg2, bne_self_eq_false, Option.bind_some]

end Go.Proofs.Ytofgihojpggecaa.Pure
