/-
  Slices of crashes and of deeds that came in.
-/
import Derived.Test.YthbffmdfdbfioaaOpenE
import Derived.Test.YthbffmdfdbfioaaDkA
namespace Go.Proofs.Ythbffmdfdbfioaa
open Go.RowKit Go.ChangeShapes Go.WideShapes Go.ChangeAt

/-- A deed. -/
structure Deed where
  k : Int
  i : Int
  s : List UInt8
def Deed.cells (d : Deed) : List Value := .int .i64 d.k :: .int .i64 d.i :: d.s.map u8v
def i64ok (x : Int) : Prop := -9223372036854775808 ≤ x ∧ x ≤ 9223372036854775807
def Deed.ok (d : Deed) : Prop := d.s.length = 64 ∧ i64ok d.k ∧ i64ok d.i

section
variable {H : Type} {enc : TypeId × Value → H} {P : Program} {W : World} {base : Nat} {held : Bool} {T E : TypeId} {a : Option Addr} {len cap : Nat} {d : DataW H} {p : List MemPlace}
theorem open_crs {f0 f1 : Field} (hT : P.underlying T = some (.slice E)) (hE : P.underlying E = some (.struct #[f0, f1])) (ce : P.cellsOf E = 2) (o0 : f0.offset = 0) (o1 : f1.offset = 1) (c0 : P.cellsOf f0.type = 1) (c1 : P.cellsOf f1.type = 1)
    (i0 : P.underlying f0.type = some (.int .i64)) (i1 : P.underlying f1.type = some (.int .i64)) (h : DataW.Trod enc P W base (fun _ => true) held T (.slice a len cap) d p) :
    ∃ l : List (Int × Int), Row 2 W a len cap (crC l) ∧ l.length = len ∧ ∀ q ∈ l, i64ok q.1 ∧ i64ok q.2 := by
  refine open_elems (fun c : Int × Int => [.int .i64 c.1, .int .i64 c.2]) (fun q => i64ok q.1 ∧ i64ok q.2) (by decide) hT ce (fun cs' fuel y hy => ?_) (fun _ _ => rfl) h
  obtain ⟨xs, n, _, _, hl, hxl, hf⟩ := DataW.trod_struct hE hy
  have g0 := hf 0 f0 rfl
  have g1 := hf 1 f1 rfl
  rw [o0, c0] at g0
  rw [o1, c1] at g1
  obtain ⟨x0, hx0⟩ : ∃ x, xs[0]? = some x := ⟨_, List.getElem?_eq_getElem (by rw [hxl]; simp)⟩
  obtain ⟨x1, hx1⟩ : ∃ x, xs[1]? = some x := ⟨_, List.getElem?_eq_getElem (by rw [hxl]; simp)⟩
  rw [hx0] at g0
  rw [hx1] at g1
  obtain ⟨z0, e0, _, w0⟩ := DataW.trod_int i0 g0
  obtain ⟨z1, e1, _, w1⟩ := DataW.trod_int i1 g1
  rw [ce] at hl
  match cs', hl with
  | [v0, v1], _ =>
    simp at e0 e1
    subst e0
    subst e1
    exact ⟨(z0, z1), rfl, bounds_i64 w0, bounds_i64 w1⟩
theorem open_deeds {f0 f1 f2 : Field} {E8 : TypeId} (hT : P.underlying T = some (.slice E)) (hE : P.underlying E = some (.struct #[f0, f1, f2])) (ce : P.cellsOf E = 66) (o0 : f0.offset = 0) (o1 : f1.offset = 1) (o2 : f2.offset = 2) (c0 : P.cellsOf f0.type = 1) (c1 : P.cellsOf f1.type = 1) (c2 : P.cellsOf f2.type = 64)
    (i0 : P.underlying f0.type = some (.int .i64)) (i1 : P.underlying f1.type = some (.int .i64)) (i2 : P.underlying f2.type = some (.array 64 E8)) (i8 : P.underlying E8 = some (.int .u8)) (c8 : P.cellsOf E8 = 1) (h : DataW.Trod enc P W base (fun _ => true) held T (.slice a len cap) d p) :
    ∃ l : List Deed, Row 66 W a len cap (l.flatMap Deed.cells) ∧ l.length = len ∧ ∀ q ∈ l, q.ok := by
  refine open_elems Deed.cells Deed.ok (by decide) hT ce (fun cs' fuel y hy => ?_) (fun x hx => by simp [Deed.cells, hx.1]) h
  obtain ⟨xs, n, _, _, hl, hxl, hf⟩ := DataW.trod_struct hE hy
  have g0 := hf 0 f0 rfl
  have g1 := hf 1 f1 rfl
  have g2 := hf 2 f2 rfl
  rw [o0, c0] at g0
  rw [o1, c1] at g1
  rw [o2, c2] at g2
  obtain ⟨x0, hx0⟩ : ∃ x, xs[0]? = some x := ⟨_, List.getElem?_eq_getElem (by rw [hxl]; simp)⟩
  obtain ⟨x1, hx1⟩ : ∃ x, xs[1]? = some x := ⟨_, List.getElem?_eq_getElem (by rw [hxl]; simp)⟩
  obtain ⟨x2, hx2⟩ : ∃ x, xs[2]? = some x := ⟨_, List.getElem?_eq_getElem (by rw [hxl]; simp)⟩
  rw [hx0] at g0
  rw [hx1] at g1
  rw [hx2] at g2
  obtain ⟨z0, e0, _, w0⟩ := DataW.trod_int i0 g0
  obtain ⟨z1, e1, _, w1⟩ := DataW.trod_int i1 g1
  rw [ce] at hl
  match cs', hl with
  | v0 :: v1 :: rest, hl =>
    simp at e0 e1
    subst e0
    subst e1
    have hr : rest.length = 64 := by simpa using hl
    simp only [List.drop_succ_cons, List.drop_zero] at g2
    rw [List.take_of_length_le (by omega)] at g2
    obtain ⟨l, h1, h2⟩ := open_arr8 (d := x2.1) (p := x2.2) (cs := rest.toArray) i2 i8 c8 c2 ⟨n, by simpa [Value.cells] using g2⟩
    have h3 : rest = l.map u8v := by simpa using congrArg Array.toList h1
    exact ⟨⟨z0, z1, l⟩, by rw [h3]; rfl, h2, bounds_i64 w0, bounds_i64 w1⟩
end
end Go.Proofs.Ythbffmdfdbfioaa
