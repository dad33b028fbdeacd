/-
  Slices that came in, of elements of any kind, as 'Row'.
-/
import Derived.Test.YtdopaoajbjodeaaOpenA
namespace Go.Proofs.Ytdopaoajbjodeaa
open Go.RowKit Go.ChangeShapes Go.WideShapes Go.ChangeAt

theorem exists_list {α : Type} (n : Nat) (Q : Nat → α → Prop) (h : ∀ i, i < n → ∃ x, Q i x) : ∃ l : List α, l.length = n ∧ ∀ i x, l[i]? = some x → Q i x := by
  induction n with
  | zero => exact ⟨[], rfl, by simp⟩
  | succ n ih =>
    obtain ⟨l, h1, h2⟩ := ih (fun i hi => h i (by omega))
    obtain ⟨x, hx⟩ := h n (by omega)
    refine ⟨l ++ [x], by simp [h1], fun i y hy => ?_⟩
    by_cases hi : i < l.length
    · rw [List.getElem?_append_left hi] at hy; exact h2 i y hy
    · rw [List.getElem?_append_right (by omega)] at hy
      cases hk : i - l.length with
      | zero => rw [hk] at hy; simp at hy; subst hy; obtain rfl : i = n := by omega
                exact hx
      | succ k => rw [hk] at hy; simp at hy
theorem flat_length {α : Type} {f : α → List Value} {m : Nat} : ∀ {l : List α}, (∀ x ∈ l, (f x).length = m) → (l.flatMap f).length = l.length * m
  | [], _ => by simp
  | x :: l, h => by rw [List.flatMap_cons, List.length_append, h x (by simp), flat_length (fun y hy => h y (by simp [hy])), List.length_cons, Nat.add_mul]; omega
theorem flat_get {α : Type} {f : α → List Value} {m : Nat} (hm : 0 < m) : ∀ {l : List α}, (∀ x ∈ l, (f x).length = m) → ∀ i, (l.flatMap f)[i]? = (l[i / m]?).bind (fun x => (f x)[i % m]?)
  | [], _, i => by simp
  | x :: l, h, i => by
    have hx := h x (by simp)
    rw [List.flatMap_cons]
    by_cases hi : i < m
    · rw [List.getElem?_append_left (by omega), Nat.div_eq_of_lt hi, Nat.mod_eq_of_lt hi]
      simp
    · have ih := flat_get hm (l := l) (fun y hy => h y (by simp [hy])) (i - m)
      rw [List.getElem?_append_right (by omega), hx, ih]
      have h1 : i / m = (i - m) / m + 1 := by
        rw [show i = (i - m) + m by omega, Nat.add_div_right _ hm, show (i - m) + m - m = i - m by omega]
      have h2 : i % m = (i - m) % m := by rw [Nat.mod_eq_sub_mod (by omega)]
      rw [h1, h2, List.getElem?_cons_succ]

section
variable {H : Type} {enc : TypeId × Value → H} {P : Program} {W : World} {base : Nat} {held : Bool} {T E : TypeId} {a : Option Addr} {len cap : Nat} {d : DataW H} {p : List MemPlace}
theorem open_elems {α : Type} (f : α → List Value) (G : α → Prop) {m : Nat} (hm : 0 < m) (hT : P.underlying T = some (.slice E)) (hc : P.cellsOf E = m)
    (hel : ∀ cs' fuel y, DataW.trod enc P W base (fun _ => true) held fuel E cs' = some y → ∃ x, cs' = f x ∧ G x) (hlen : ∀ x, G x → (f x).length = m)
    (h : DataW.Trod enc P W base (fun _ => true) held T (.slice a len cap) d p) : ∃ l : List α, Row m W a len cap (l.flatMap f) ∧ l.length = len ∧ ∀ x ∈ l, G x := by
  obtain ⟨fuel, hf⟩ := h
  rcases DataW.trod_slice hT hf with ⟨hcs, _⟩ | ⟨x, l, c, elems, rest, n, _, hcs, _, hb, hl, hmx, hle, hE, _⟩
  · simp [Value.cells] at hcs
    obtain ⟨rfl, rfl, rfl⟩ := hcs
    exact ⟨[], Row.nil _ _, rfl, by simp⟩
  · simp [Value.cells] at hcs
    obtain ⟨rfl, rfl, rfl⟩ := hcs
    obtain ⟨l, hll, hq⟩ := exists_list len (fun i (e : α) => G e ∧ ∀ j u, (f e)[j]? = some u → W.cell? ((x.add (i * m)).add j) = some u) (fun i hi => by
      have h1 := hE i hi
      rw [hc, List.getElem?_eq_getElem (show i < elems.length by omega)] at h1
      obtain ⟨cs', h2, h3⟩ := Option.bind_eq_some_iff.1 h1
      obtain ⟨_, hcl, hcell⟩ := World.cells?_some h2
      obtain ⟨e, rfl, hg⟩ := hel _ _ _ h3
      exact ⟨e, hg, fun j u hu => by
        have hj : j < m := by rw [← hlen e hg]; exact (List.getElem?_eq_some_iff.1 hu).1
        rw [hcell j hj, hu]⟩)
    have hG : ∀ e ∈ l, G e := fun e he => by
      obtain ⟨i, hi⟩ := List.mem_iff_getElem?.1 he
      exact (hq i e hi).1
    have hL : ∀ e ∈ l, (f e).length = m := fun e he => hlen e (hG e he)
    refine ⟨l, ⟨hl, hmx, by rw [flat_length hL, hll], by simp, fun hn => ?_⟩, hll, hG⟩
    obtain ⟨b, off, spot⟩ := x
    have hspot : spot = none := by
      obtain ⟨e0, he0⟩ : ∃ e0, l[0]? = some e0 := ⟨_, List.getElem?_eq_getElem (by omega)⟩
      have hlen0 := hL e0 (List.mem_of_getElem? he0)
      obtain ⟨u, hu⟩ : ∃ u, (f e0)[0]? = some u := ⟨_, List.getElem?_eq_getElem (by omega)⟩
      have := World.cell?_spot ((hq 0 e0 he0).2 0 u hu)
      simpa [Addr.add] using this
    subst hspot
    refine ⟨b, off, rfl, fun i u hu => ?_⟩
    rw [flat_get hm hL] at hu
    obtain ⟨e, he, hu⟩ := Option.bind_eq_some_iff.1 hu
    have := (hq _ e he).2 _ u hu
    rw [addr_add, addr_add, show off + i / m * m + i % m = off + i by rw [Nat.add_assoc, Nat.mul_comm, Nat.div_add_mod]] at this
    exact this
end
end Go.Proofs.Ytdopaoajbjodeaa
