/- How a law's argument (whole numbers, slices, structs, slices of structs) is read as a list, a number or a structure, out of the statement's own reading of it. No condition beyond those that each theorem names. -/
import Derived.Test.YthgikmgdgibimaaWMore
import Derived.Deep.Slices
import Derived.Deep.Fields
import Derived.ChangeSame
import Derived.OpenShut
namespace Go.Proofs.Ythgikmgdgibimaa.Opn
open Go.RowKit Go.ChangeShapes Go.WideShapes Go.Deep Go.Proofs.YthgikmgdgibimaaW.PrintWords
set_option linter.unusedVariables false

/-- Cells of type t that the statement reads are of the kind D, and good. -/
def Opens (P : Program) (t : TypeId) {α : Type} (D : Kd α) (good : α → Prop) : Prop :=
  ∀ (H : Type) (enc : TypeId × Value → H) (w : World) (base : Nat) (spare : Nat → Bool) (held : Bool) (fuel : Nat) (cs : List Value) (x : DataW H × List MemPlace),
    DataW.trod enc P w base spare held fuel t cs = some x → ∃ v : α, D.K w v cs ∧ good v

theorem opensInt {P : Program} {t : TypeId} {k : IntKind} (hu : P.underlying t = some (.int k)) : Opens P t (Kd.int k) (fun n => (Lit.int k n).wf = true) := by
  intro H enc w base spare held fuel cs x h
  obtain ⟨n, hc, _, hw⟩ := DataW.trod_int hu h
  exact ⟨n, hc, hw⟩

theorem list_of {α : Type} {Q : Nat → α → Prop} : ∀ n, (∀ i, i < n → ∃ v, Q i v) → ∃ l : List α, l.length = n ∧ ∀ i v, l[i]? = some v → Q i v
  | 0, _ => ⟨[], rfl, fun i v h => by simp at h⟩
  | n + 1, h => by
    obtain ⟨l, hl, hq⟩ := list_of n (fun i hi => h i (by omega))
    obtain ⟨v, hv⟩ := h n (by omega)
    refine ⟨l ++ [v], by simp [hl], fun i u hu => ?_⟩
    rcases Nat.lt_or_ge i n with hi | hi
    · rw [List.getElem?_append_left (by omega)] at hu
      exact hq i u hu
    · obtain ⟨hlt, _⟩ := List.getElem?_eq_some_iff.1 hu
      rw [List.length_append, List.length_singleton] at hlt
      obtain rfl : i = n := by omega
      rw [List.getElem?_append_right (by omega), hl, Nat.sub_self] at hu
      obtain rfl : v = u := by simpa using hu
      exact hv

theorem opensSlice {P : Program} {t e : TypeId} {α : Type} {D : Kd α} {g : α → Prop} (ht : P.underlying t = some (.slice e)) (hC : P.cellsOf e = D.sz) (h : Opens P e D g) :
    Opens P t (Kd.slice e D) (fun l => l.length ≤ maxLen ∧ ∀ y ∈ l, g y) := by
  intro H enc w base spare held fuel cs x hx
  rcases open_slice ht hx with ⟨rfl, _⟩ | ⟨a, len, cap, m, n, Dd, Pl, rfl, _, hl, hm, hmm, _, hi⟩
  · exact ⟨[], ⟨none, 0, rfl, Nat.le_refl _, Kd.C_nil _ _⟩, by simp [maxLen], fun y hy => by simp at hy⟩
  · obtain ⟨l, hln, hq⟩ := list_of (Q := fun i v => ∃ c : List Value, c.length = D.sz ∧ (D.K w v c ∧ g v) ∧ ∀ j u, c[j]? = some u → w.cell? (a.add (i * D.sz + j)) = some u) len (fun i hi' => by
      have him : i < m := by rw [hmm]; split <;> omega
      obtain ⟨c, hc, ht'⟩ := hi i him
      obtain ⟨v, hk, hg⟩ := h H enc w base spare held n c _ ht'
      obtain ⟨_, hcl, hat⟩ := World.cells?_some hc
      rw [hC] at hat hcl
      refine ⟨v, c, hcl, ⟨hk, hg⟩, fun j u hj => ?_⟩
      have hjl : j < D.sz := by rw [← hcl]; exact (List.getElem?_eq_some_iff.1 hj).1
      have := hat j hjl
      rw [← Go.Deep.add_add] 
      exact this.trans hj)
    refine ⟨l, ⟨some a, cap, by rw [hln], by rw [hln]; exact hl, ⟨rfl, by rw [hln]; unfold maxLen at hm; omega, fun _ => ⟨a, rfl, fun j p hj => ?_⟩⟩⟩, by rw [hln]; exact Nat.le_trans hl hm, fun y hy => ?_⟩
    · obtain ⟨c, hc, hk, hcell⟩ := hq j p hj
      exact ⟨c, hc, hk.1, hcell⟩
    · obtain ⟨j, hj, rfl⟩ := List.mem_iff_getElem.1 hy
      obtain ⟨c, hc, hk, hcell⟩ := hq j _ (List.getElem?_eq_getElem hj)
      exact hk.2

theorem opensIso {P : Program} {t : TypeId} {α β : Type} {D : Kd α} {g : α → Prop} (f : β → α) (f' : α → β) (hf : ∀ y, f (f' y) = y) (h : Opens P t D g) : Opens P t (Kd.iso D f) (fun b => g (f b)) := by
  intro H enc w base spare held fuel cs x hx
  obtain ⟨v, hk, hg⟩ := h H enc w base spare held fuel cs x hx
  refine ⟨f' v, ?_, ?_⟩
  · show D.K w (f (f' v)) cs
    rw [hf]
    exact hk
  · show g (f (f' v))
    rw [hf]
    exact hg

theorem opensStruct2 {P : Program} {t : TypeId} {α β : Type} {A : Kd α} {B : Kd β} {ga : α → Prop} {gb : β → Prop} {f0 f1 : Field} (hs : P.underlying t = some (.struct #[f0, f1])) (hC : P.cellsOf t = 2)
    (o0 : f0.offset = 0) (o1 : f1.offset = 1) (k0 : P.cellsOf f0.type = 1) (k1 : P.cellsOf f1.type = 1) (h0 : Opens P f0.type A ga) (h1 : Opens P f1.type B gb) :
    Opens P t (Kd.pair A B) (fun p => ga p.1 ∧ gb p.2) := by
  intro H enc w base spare held fuel cs x hx
  obtain ⟨xs, n, _, _, hlen, hxl, hf⟩ := DataW.trod_struct hs hx
  rw [hC] at hlen
  match cs, hlen with
  | [c0, c1], _ =>
    match xs, hxl with
    | [y0, y1], _ =>
      have g0 := hf 0 f0 rfl
      have g1 := hf 1 f1 rfl
      rw [o0, k0] at g0
      rw [o1, k1] at g1
      obtain ⟨a, ka, gga⟩ := h0 H enc w base spare held n [c0] y0 g0
      obtain ⟨b, kb, ggb⟩ := h1 H enc w base spare held n [c1] y1 g1
      exact ⟨(a, b), ⟨[c0], [c1], rfl, ka, kb⟩, gga, ggb⟩

theorem opensStruct4 {P : Program} {t : TypeId} {α β γ δ : Type} {A : Kd α} {B : Kd β} {C : Kd γ} {D : Kd δ} {ga : α → Prop} {gb : β → Prop} {gc : γ → Prop} {gd : δ → Prop} {f0 f1 f2 f3 : Field} (hs : P.underlying t = some (.struct #[f0, f1, f2, f3])) (hC : P.cellsOf t = 4)
    (o0 : f0.offset = 0) (o1 : f1.offset = 1) (o2 : f2.offset = 2) (o3 : f3.offset = 3) (k0 : P.cellsOf f0.type = 1) (k1 : P.cellsOf f1.type = 1) (k2 : P.cellsOf f2.type = 1) (k3 : P.cellsOf f3.type = 1)
    (h0 : Opens P f0.type A ga) (h1 : Opens P f1.type B gb) (h2 : Opens P f2.type C gc) (h3 : Opens P f3.type D gd) :
    Opens P t (Kd.pair A (Kd.pair B (Kd.pair C D))) (fun p => ga p.1 ∧ gb p.2.1 ∧ gc p.2.2.1 ∧ gd p.2.2.2) := by
  intro H enc w base spare held fuel cs x hx
  obtain ⟨xs, n, _, _, hlen, hxl, hf⟩ := DataW.trod_struct hs hx
  rw [hC] at hlen
  match cs, hlen with
  | [c0, c1, c2, c3], _ =>
    match xs, hxl with
    | [y0, y1, y2, y3], _ =>
      have g0 := hf 0 f0 rfl
      have g1 := hf 1 f1 rfl
      have g2 := hf 2 f2 rfl
      have g3 := hf 3 f3 rfl
      rw [o0, k0] at g0
      rw [o1, k1] at g1
      rw [o2, k2] at g2
      rw [o3, k3] at g3
      obtain ⟨a, ka, gga⟩ := h0 H enc w base spare held n [c0] y0 g0
      obtain ⟨b, kb, ggb⟩ := h1 H enc w base spare held n [c1] y1 g1
      obtain ⟨c, kc, ggc⟩ := h2 H enc w base spare held n [c2] y2 g2
      obtain ⟨d, kd, ggd⟩ := h3 H enc w base spare held n [c3] y3 g3
      exact ⟨(a, b, c, d), ⟨[c0], [c1, c2, c3], rfl, ka, ⟨[c1], [c2, c3], rfl, kb, ⟨[c2], [c3], rfl, kc, kd⟩⟩⟩, gga, ggb, ggc, ggd⟩

/-- An argument that is a slice. -/
theorem arg_slice {P : Program} {t e : TypeId} {α : Type} {D : Kd α} {g : α → Prop} (ht : P.underlying t = some (.slice e)) (hC : P.cellsOf e = D.sz) (h : Opens P e D g) {H : Type} {enc : TypeId × Value → H} {w : World} {base : Nat} {spare : Nat → Bool} {held : Bool} {r : Reach} {b0 : Nat} {v : Value} {d : DataW H} {p : List MemPlace}
    (hv : Value.okWide P w r b0 t v) (hx : DataW.Trod enc P w base spare held t v d p) :
    ∃ (A : Option Addr) (c : Nat) (l : List α), v = .slice A l.length c ∧ l.length ≤ c ∧ D.C w A l.length l ∧ l.length ≤ maxLen ∧ ∀ y ∈ l, g y := by
  obtain ⟨a, len, cap, rfl⟩ := okWide_slice ht hv
  obtain ⟨fuel, hf⟩ := hx
  obtain ⟨l, ⟨A, c, hcs, hl, hc⟩, hm, hg⟩ := opensSlice ht hC h H enc w base spare held fuel _ _ hf
  simp [Value.cells] at hcs
  obtain ⟨rfl, rfl, rfl⟩ := hcs
  exact ⟨_, _, l, rfl, hl, hc, hm, hg⟩

/-- An argument that is a struct. -/
theorem arg_struct {P : Program} {t : TypeId} {fs : Array Field} {α : Type} {D : Kd α} {g : α → Prop} (ht : P.underlying t = some (.struct fs)) (h : Opens P t D g) {H : Type} {enc : TypeId × Value → H} {w : World} {base : Nat} {spare : Nat → Bool} {held : Bool} {r : Reach} {b0 : Nat} {v : Value} {d : DataW H} {p : List MemPlace}
    (hv : Value.okWide P w r b0 t v) (hx : DataW.Trod enc P w base spare held t v d p) :
    ∃ (y : α) (cs : List Value), v = .agg cs.toArray ∧ D.K w y cs ∧ g y := by
  obtain ⟨cs, rfl, _⟩ := okWide_struct ht hv
  obtain ⟨fuel, hf⟩ := hx
  obtain ⟨y, hk, hg⟩ := h H enc w base spare held fuel _ _ hf
  exact ⟨y, _, by simp [Value.cells], hk, hg⟩

end Go.Proofs.Ythgikmgdgibimaa.Opn
