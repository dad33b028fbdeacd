/-
  TopRevoked: Slices that came in, of elements of any kind, as 'Row'. Changes that came in: a slice of them, and one by value.
-/
import Derived.Test.YtcmhgpgookiomaaGreatM04
import Derived.Test.YtcmhgpgookiomaaGreatM28
import Derived.Test.YtcmhgpgookiomaaGreatRows
import Derived.ProofKit
import Derived.OpenShut
namespace Go.Proofs.YtcmhgpgookiomaaGreat
open Go.RowKit Go.ChangeShapes Go.WideShapes Go.ChangeAt

theorem exists_list {α : Type} (n : Nat) (Q : Nat → α → Prop) (h : ∀ i, i < n → ∃ x, Q i x) : ∃ l : List α, l.length = n ∧ ∀ i x, l[i]? = some x → Q i x := by
  induction n with
  | zero => exact ⟨[], rfl, by simp⟩
  | succ n ih =>
    obtain ⟨l, h1, h2⟩ := ih (fun i hi => h i (by omega))
    obtain ⟨x, hx⟩ := h n (by omega)
    refine ⟨l ++ [x], by simp [h1], fun i y hy => ?_⟩
    by_cases hi : i < l.length
    · rw [List.getElem?_append_left hi] at hy; exact h2 i y hy
    · rw [List.getElem?_append_right (by omega)] at hy
      cases hk : i - l.length with
      | zero => rw [hk] at hy; simp at hy; subst hy; obtain rfl : i = n := by omega
                exact hx
      | succ k => rw [hk] at hy; simp at hy
theorem flat_length {α : Type} {f : α → List Value} {m : Nat} : ∀ {l : List α}, (∀ x ∈ l, (f x).length = m) → (l.flatMap f).length = l.length * m
  | [], _ => by simp
  | x :: l, h => by rw [List.flatMap_cons, List.length_append, h x (by simp), flat_length (fun y hy => h y (by simp [hy])), List.length_cons, Nat.add_mul]; omega
theorem flat_get {α : Type} {f : α → List Value} {m : Nat} (hm : 0 < m) : ∀ {l : List α}, (∀ x ∈ l, (f x).length = m) → ∀ i, (l.flatMap f)[i]? = (l[i / m]?).bind (fun x => (f x)[i % m]?)
  | [], _, i => by simp
  | x :: l, h, i => by
    have hx := h x (by simp)
    rw [List.flatMap_cons]
    by_cases hi : i < m
    · rw [List.getElem?_append_left (by omega), Nat.div_eq_of_lt hi, Nat.mod_eq_of_lt hi]
      simp
    · have ih := flat_get hm (l := l) (fun y hy => h y (by simp [hy])) (i - m)
      rw [List.getElem?_append_right (by omega), hx, ih]
      have h1 : i / m = (i - m) / m + 1 := by
        rw [show i = (i - m) + m by omega, Nat.add_div_right _ hm, show (i - m) + m - m = i - m by omega]
      have h2 : i % m = (i - m) % m := by rw [Nat.mod_eq_sub_mod (by omega)]
      rw [h1, h2, List.getElem?_cons_succ]

section
variable {H : Type} {enc : TypeId × Value → H} {P : Program} {W : World} {base : Nat} {held : Bool} {T E : TypeId} {a : Option Addr} {len cap : Nat} {d : DataW H} {p : List MemPlace}
theorem open_elems {α : Type} (f : α → List Value) (G : α → Prop) {m : Nat} (hm : 0 < m) (hT : P.underlying T = some (.slice E)) (hc : P.cellsOf E = m)
    (hel : ∀ cs' fuel y, DataW.trod enc P W base (fun _ => true) held fuel E cs' = some y → ∃ x, cs' = f x ∧ G x) (hlen : ∀ x, G x → (f x).length = m)
    (h : DataW.Trod enc P W base (fun _ => true) held T (.slice a len cap) d p) : ∃ l : List α, Row m W a len cap (l.flatMap f) ∧ l.length = len ∧ ∀ x ∈ l, G x := by
  obtain ⟨fuel, hf⟩ := h
  rcases DataW.trod_slice hT hf with ⟨hcs, _⟩ | ⟨x, l, c, elems, rest, n, _, hcs, _, hb, hl, hmx, hle, hE, _⟩
  · simp [Value.cells] at hcs
    obtain ⟨rfl, rfl, rfl⟩ := hcs
    exact ⟨[], Row.nil _ _, rfl, by simp⟩
  · simp [Value.cells] at hcs
    obtain ⟨rfl, rfl, rfl⟩ := hcs
    obtain ⟨l, hll, hq⟩ := exists_list len (fun i (e : α) => G e ∧ ∀ j u, (f e)[j]? = some u → W.cell? ((x.add (i * m)).add j) = some u) (fun i hi => by
      have h1 := hE i hi
      rw [hc, List.getElem?_eq_getElem (show i < elems.length by omega)] at h1
      obtain ⟨cs', h2, h3⟩ := Option.bind_eq_some_iff.1 h1
      obtain ⟨_, hcl, hcell⟩ := World.cells?_some h2
      obtain ⟨e, rfl, hg⟩ := hel _ _ _ h3
      exact ⟨e, hg, fun j u hu => by
        have hj : j < m := by rw [← hlen e hg]; exact (List.getElem?_eq_some_iff.1 hu).1
        rw [hcell j hj, hu]⟩)
    have hG : ∀ e ∈ l, G e := fun e he => by
      obtain ⟨i, hi⟩ := List.mem_iff_getElem?.1 he
      exact (hq i e hi).1
    have hL : ∀ e ∈ l, (f e).length = m := fun e he => hlen e (hG e he)
    refine ⟨l, ⟨hl, hmx, by rw [flat_length hL, hll], by simp, fun hn => ?_⟩, hll, hG⟩
    obtain ⟨b, off, spot⟩ := x
    have hspot : spot = none := by
      obtain ⟨e0, he0⟩ : ∃ e0, l[0]? = some e0 := ⟨_, List.getElem?_eq_getElem (by omega)⟩
      have hlen0 := hL e0 (List.mem_of_getElem? he0)
      obtain ⟨u, hu⟩ : ∃ u, (f e0)[0]? = some u := ⟨_, List.getElem?_eq_getElem (by omega)⟩
      have := World.cell?_spot ((hq 0 e0 he0).2 0 u hu)
      simpa [Addr.add] using this
    subst hspot
    refine ⟨b, off, rfl, fun i u hu => ?_⟩
    rw [flat_get hm hL] at hu
    obtain ⟨e, he, hu⟩ := Option.bind_eq_some_iff.1 hu
    have := (hq _ e he).2 _ u hu
    rw [addr_add, addr_add, show off + i / m * m + i % m = off + i by rw [Nat.add_assoc, Nat.mul_comm, Nat.div_add_mod]] at this
    exact this
end
end Go.Proofs.YtcmhgpgookiomaaGreat
namespace Go.Proofs.YtcmhgpgookiomaaGreat
open Go.RowKit Go.ChangeShapes Go.WideShapes Go.ChangeAt

def ChgOk (c : ChgP) : Prop := c.who < 4294967296 ∧ c.group < 4294967296 ∧ c.realm < 4294967296
section
variable {H : Type} {enc : TypeId × Value → H} {P : Program} {W : World} {base : Nat} {held : Bool} {T E : TypeId} {a : Option Addr} {len cap : Nat} {d : DataW H} {p : List MemPlace}
theorem chg_cells {f0 f1 f2 f3 : Field} (hE : P.underlying E = some (.struct #[f0, f1, f2, f3])) (ce : P.cellsOf E = 4) (o0 : f0.offset = 0) (o1 : f1.offset = 1) (o2 : f2.offset = 2) (o3 : f3.offset = 3) (c0 : P.cellsOf f0.type = 1) (c1 : P.cellsOf f1.type = 1) (c2 : P.cellsOf f2.type = 1) (c3 : P.cellsOf f3.type = 1)
    (i0 : P.underlying f0.type = some (.int .i64)) (i1 : P.underlying f1.type = some (.int .u32)) (i2 : P.underlying f2.type = some (.int .u32)) (i3 : P.underlying f3.type = some (.int .u32)) {cs' : List Value} {fuel : Nat} {y : DataW H × List MemPlace} (hy : DataW.trod enc P W base (fun _ => true) held fuel E cs' = some y) :
    ∃ c : ChgP, cs' = chgC c ∧ ChgOk c := by
  obtain ⟨xs, n, _, _, hl, hxl, hf⟩ := DataW.trod_struct hE hy
  have g0 := hf 0 f0 rfl
  have g1 := hf 1 f1 rfl
  have g2 := hf 2 f2 rfl
  have g3 := hf 3 f3 rfl
  rw [o0, c0] at g0
  rw [o1, c1] at g1
  rw [o2, c2] at g2
  rw [o3, c3] at g3
  obtain ⟨x0, hx0⟩ : ∃ x, xs[0]? = some x := ⟨_, List.getElem?_eq_getElem (by rw [hxl]; simp)⟩
  obtain ⟨x1, hx1⟩ : ∃ x, xs[1]? = some x := ⟨_, List.getElem?_eq_getElem (by rw [hxl]; simp)⟩
  obtain ⟨x2, hx2⟩ : ∃ x, xs[2]? = some x := ⟨_, List.getElem?_eq_getElem (by rw [hxl]; simp)⟩
  obtain ⟨x3, hx3⟩ : ∃ x, xs[3]? = some x := ⟨_, List.getElem?_eq_getElem (by rw [hxl]; simp)⟩
  rw [hx0] at g0
  rw [hx1] at g1
  rw [hx2] at g2
  rw [hx3] at g3
  obtain ⟨z0, e0, _, w0⟩ := DataW.trod_int i0 g0
  obtain ⟨z1, e1, _, w1⟩ := DataW.trod_int i1 g1
  obtain ⟨z2, e2, _, w2⟩ := DataW.trod_int i2 g2
  obtain ⟨z3, e3, _, w3⟩ := DataW.trod_int i3 g3
  have b1 := bounds_u32 w1
  have b2 := bounds_u32 w2
  have b3 := bounds_u32 w3
  rw [ce] at hl
  match cs', hl with
  | [v0, v1, v2, v3], _ =>
    simp at e0 e1 e2 e3
    subst e0
    subst e1
    subst e2
    subst e3
    refine ⟨⟨z0, z1.toNat, z2.toNat, z3.toNat⟩, ?_, by show z1.toNat < _; omega, by show z2.toNat < _; omega, by show z3.toNat < _; omega⟩
    simp only [chgC]
    rw [Int.toNat_of_nonneg b1.1, Int.toNat_of_nonneg b2.1, Int.toNat_of_nonneg b3.1]
theorem open_chgs {f0 f1 f2 f3 : Field} (hT : P.underlying T = some (.slice E)) (hE : P.underlying E = some (.struct #[f0, f1, f2, f3])) (ce : P.cellsOf E = 4) (o0 : f0.offset = 0) (o1 : f1.offset = 1) (o2 : f2.offset = 2) (o3 : f3.offset = 3) (c0 : P.cellsOf f0.type = 1) (c1 : P.cellsOf f1.type = 1) (c2 : P.cellsOf f2.type = 1) (c3 : P.cellsOf f3.type = 1)
    (i0 : P.underlying f0.type = some (.int .i64)) (i1 : P.underlying f1.type = some (.int .u32)) (i2 : P.underlying f2.type = some (.int .u32)) (i3 : P.underlying f3.type = some (.int .u32)) (h : DataW.Trod enc P W base (fun _ => true) held T (.slice a len cap) d p) :
    ∃ l : List ChgP, Row 4 W a len cap (l.flatMap chgC) ∧ l.length = len ∧ ∀ c ∈ l, ChgOk c :=
  open_elems chgC ChgOk (by decide) hT ce (fun _ _ _ hy => chg_cells hE ce o0 o1 o2 o3 c0 c1 c2 c3 i0 i1 i2 i3 hy) (fun _ _ => rfl) h
theorem open_chg {f0 f1 f2 f3 : Field} {cs : Array Value} (hE : P.underlying E = some (.struct #[f0, f1, f2, f3])) (ce : P.cellsOf E = 4) (o0 : f0.offset = 0) (o1 : f1.offset = 1) (o2 : f2.offset = 2) (o3 : f3.offset = 3) (c0 : P.cellsOf f0.type = 1) (c1 : P.cellsOf f1.type = 1) (c2 : P.cellsOf f2.type = 1) (c3 : P.cellsOf f3.type = 1)
    (i0 : P.underlying f0.type = some (.int .i64)) (i1 : P.underlying f1.type = some (.int .u32)) (i2 : P.underlying f2.type = some (.int .u32)) (i3 : P.underlying f3.type = some (.int .u32)) (h : DataW.Trod enc P W base (fun _ => true) held E (.agg cs) d p) : ∃ c : ChgP, cs = (chgC c).toArray ∧ ChgOk c := by
  obtain ⟨fuel, hy⟩ := h
  obtain ⟨c, h1, h2⟩ := chg_cells hE ce o0 o1 o2 o3 c0 c1 c2 c3 i0 i1 i2 i3 hy
  refine ⟨c, ?_, h2⟩
  rw [← h1]
  cases cs
  rfl
end
end Go.Proofs.YtcmhgpgookiomaaGreat
