/-
  Slices of strings and of pairs of numbers that came in, as 'Row'.
-/
import Derived.Test.YthedpnnfkmbdpaaLinF
import Derived.ProofKit
import Derived.OpenShut
import Derived.SliceStrings
import Derived.Deep.SlicePairs
namespace Go.Proofs.Ythedpnnfkmbdpaa
open Go.RowKit Go.ChangeShapes Go.WideShapes Go.ChangeAt

theorem exists_list {α : Type} (n : Nat) (Q : Nat → α → Prop) (h : ∀ i, i < n → ∃ x, Q i x) : ∃ l : List α, l.length = n ∧ ∀ i x, l[i]? = some x → Q i x := by
  induction n with
  | zero => exact ⟨[], rfl, by simp⟩
  | succ n ih =>
    obtain ⟨l, h1, h2⟩ := ih (fun i hi => h i (by omega))
    obtain ⟨x, hx⟩ := h n (by omega)
    refine ⟨l ++ [x], by simp [h1], fun i y hy => ?_⟩
    by_cases hi : i < l.length
    · rw [List.getElem?_append_left hi] at hy; exact h2 i y hy
    · rw [List.getElem?_append_right (by omega)] at hy
      cases hk : i - l.length with
      | zero => rw [hk] at hy; simp at hy; subst hy; obtain rfl : i = n := by omega
                exact hx
      | succ k => rw [hk] at hy; simp at hy
theorem ipairsC_length (l : List (Int × Int)) : (ipairsC l).length = l.length * 2 := by
  induction l with
  | nil => rfl
  | cons p t ih => rw [show ipairsC (p :: t) = ipairC p ++ ipairsC t from rfl, List.length_append, ih, List.length_cons]; simp [ipairC]; omega

section
variable {H : Type} {enc : TypeId × Value → H} {P : Program} {W : World} {base : Nat} {held : Bool} {T E : TypeId} {a : Option Addr} {len cap : Nat} {d : DataW H} {p : List MemPlace}
theorem open_strs (hT : P.underlying T = some (.slice E)) (hE : P.underlying E = some .string) (hc : P.cellsOf E = 1)
    (h : DataW.Trod enc P W base (fun _ => true) held T (.slice a len cap) d p) : ∃ ss : List ByteArray, Row 1 W a len cap (ss.map Value.string) := by
  obtain ⟨fuel, hf⟩ := h
  rcases open_strings hT hE hc hf with ⟨hcs, _⟩ | ⟨x, l, c, ss, hcs, _, hl, hm, hz, _, hcell, _⟩
  · simp [Value.cells] at hcs
    obtain ⟨rfl, rfl, rfl⟩ := hcs
    exact ⟨[], Row.nil _ _⟩
  · simp [Value.cells] at hcs
    obtain ⟨rfl, rfl, rfl⟩ := hcs
    simp only [if_true] at hz
    refine ⟨ss.take len, hl, hm, by simp; omega, by simp, fun hn => ?_⟩
    obtain ⟨b, off, spot⟩ := x
    have h0 := hcell 0 (by omega)
    have hspot : spot = none := by simpa [Addr.add] using World.cell?_spot h0
    subst hspot
    refine ⟨b, off, rfl, fun i u hu => ?_⟩
    have hi : i < len := by
      have := (List.getElem?_eq_some_iff.1 hu).1
      simp at this; omega
    have := hcell i (by omega)
    rw [addr_add] at this
    rw [this]
    rw [List.getElem?_map, List.getElem?_take, if_pos hi, List.getElem?_eq_getElem (by omega)] at hu
    simp [List.getD_eq_getElem?_getD, List.getElem?_eq_getElem (show i < ss.length by omega)] at hu ⊢
    exact hu
theorem open_prs {f0 f1 : Field} (hT : P.underlying T = some (.slice E)) (hE : P.underlying E = some (.struct #[f0, f1])) (ce : P.cellsOf E = 2) (o0 : f0.offset = 0) (o1 : f1.offset = 1) (c0 : P.cellsOf f0.type = 1) (c1 : P.cellsOf f1.type = 1)
    (i0 : P.underlying f0.type = some (.int .i64)) (i1 : P.underlying f1.type = some (.int .i64)) (h : DataW.Trod enc P W base (fun _ => true) held T (.slice a len cap) d p) :
    ∃ l : List (Int × Int), Row 2 W a len cap (ipairsC l) ∧ l.length = len ∧ ∀ q ∈ l, (-9223372036854775808 ≤ q.1 ∧ q.1 ≤ 9223372036854775807) ∧ (-9223372036854775808 ≤ q.2 ∧ q.2 ≤ 9223372036854775807) := by
  obtain ⟨fuel, hf⟩ := h
  rcases Deep.open_slice_pairs hT hE ce o0 o1 c0 c1 hf with ⟨hcs, _⟩ | ⟨x, l, c, m, n, V0, V1, D0, D1, P0, P1, hcs, _, hl, hm, hmm, _, hcell⟩
  · simp [Value.cells] at hcs
    obtain ⟨rfl, rfl, rfl⟩ := hcs
    exact ⟨[], Row.nil _ _, rfl, by simp⟩
  · simp [Value.cells] at hcs
    obtain ⟨rfl, rfl, rfl⟩ := hcs
    simp only [if_true] at hmm
    subst hmm
    obtain ⟨l, hll, hq⟩ := exists_list len (fun i (q : Int × Int) => W.cell? (x.add (i * 2)) = some (.int .i64 q.1) ∧ W.cell? (x.add (i * 2 + 1)) = some (.int .i64 q.2) ∧ (Lit.int .i64 q.1).wf = true ∧ (Lit.int .i64 q.2).wf = true) (fun i hi => by
      obtain ⟨h1, h2, h3, h4⟩ := hcell i (by omega)
      obtain ⟨z0, e0, _, w0⟩ := DataW.trod_int i0 h3
      obtain ⟨z1, e1, _, w1⟩ := DataW.trod_int i1 h4
      simp at e0 e1
      exact ⟨(z0, z1), by rw [h1, e0], by rw [h2, e1], w0, w1⟩)
    refine ⟨l, ⟨hl, hm, by rw [ipairsC_length, hll], by simp, fun hn => ?_⟩, hll, fun q hq' => ?_⟩
    · obtain ⟨b, off, spot⟩ := x
      have h0 := (hq 0 l[0] (List.getElem?_eq_getElem (by omega))).1
      have hspot : spot = none := by simpa [Addr.add] using World.cell?_spot h0
      subst hspot
      refine ⟨b, off, rfl, fun i u hu => ?_⟩
      have hi : i < len * 2 := by
        have := (List.getElem?_eq_some_iff.1 hu).1
        rw [ipairsC_length, hll] at this; exact this
      have hk : i / 2 < l.length := by omega
      have hg := ipairsC_get (List.getElem?_eq_getElem hk)
      have hc := hq _ _ (List.getElem?_eq_getElem hk)
      by_cases hi2 : i % 2 = 0
      · have e : i / 2 * 2 = i := by omega
        rw [e] at hg hc
        rw [hg.1] at hu
        cases hu
        have := hc.1
        rw [addr_add] at this; exact this
      · have e : i / 2 * 2 + 1 = i := by omega
        rw [e] at hg hc
        rw [hg.2] at hu
        cases hu
        have := hc.2.1
        rw [addr_add] at this; exact this
    · obtain ⟨i, hi⟩ := List.mem_iff_getElem?.1 hq'
      obtain ⟨_, _, w0, w1⟩ := hq i q hi
      exact ⟨bounds_i64 w0, bounds_i64 w1⟩
end
end Go.Proofs.Ythedpnnfkmbdpaa
