/-
  Slices of slices of bytes that came in, as 'Texts'; a struct of two numbers that came in by value.
-/
import Derived.Test.YtdopaoajbjodeaaOpenE
import Derived.Test.YtdopaoajbjodeaaOpen
namespace Go.Proofs.Ytdopaoajbjodeaa
open Go.RowKit Go.ChangeShapes Go.WideShapes Go.ChangeAt

section
variable {H : Type} {enc : TypeId × Value → H} {P : Program} {W : World} {base : Nat} {held : Bool} {T E U : TypeId} {a : Option Addr} {len cap : Nat} {d : DataW H} {p : List MemPlace}
theorem open_bytess (hT : P.underlying T = some (.slice E)) (hE : P.underlying E = some (.slice U)) (hU : P.underlying U = some (.int .u8)) (cE : P.cellsOf E = 1) (cU : P.cellsOf U = 1)
    (h : DataW.Trod enc P W base (fun _ => true) held T (.slice a len cap) d p) : ∃ ls : List (List UInt8), Texts W a len cap ls := by
  obtain ⟨xs, hr, hl, hg⟩ := open_elems (fun x : Option Addr × Nat × List UInt8 => [Value.slice x.1 x.2.2.length x.2.1]) (fun x => Row 1 W x.1 x.2.2.length x.2.1 (x.2.2.map u8v)) (by decide) hT cE (fun cs' fuel y hy => by
    have key : ∀ (a' : Option Addr) (l' c' : Nat), cs' = [.slice a' l' c'] → ∃ x : Option Addr × Nat × List UInt8, cs' = [Value.slice x.1 x.2.2.length x.2.1] ∧ Row 1 W x.1 x.2.2.length x.2.1 (x.2.2.map u8v) := by
      rintro a' l' c' rfl
      obtain ⟨l, hr⟩ := open_u8s (a := a') (len := l') (cap := c') (d := y.1) (p := y.2) hE hU cU ⟨fuel, hy⟩
      have hll : l.length = l' := by have := hr.2.2.1; simpa using this
      subst hll
      exact ⟨(a', c', l), rfl, hr⟩
    rcases DataW.trod_slice hE hy with ⟨hcs, _⟩ | ⟨x, l, c, elems, rest, n, _, hcs, _⟩
    · exact key _ _ _ hcs
    · exact key _ _ _ hcs) (fun _ _ => rfl) h
  refine ⟨xs.map (fun x => x.2.2), xs.map (fun x => Value.slice x.1 x.2.2.length x.2.1), ?_, by simpa using hl.symm, fun i l hi => ?_⟩
  · have : xs.flatMap (fun x : Option Addr × Nat × List UInt8 => [Value.slice x.1 x.2.2.length x.2.1]) = xs.map (fun x => Value.slice x.1 x.2.2.length x.2.1) := by
      clear hr hl hg
      induction xs with
      | nil => rfl
      | cons x xs ih => rw [List.flatMap_cons, ih]; rfl
    rw [← this]; exact hr
  · rw [List.getElem?_map] at hi
    obtain ⟨x, hx, rfl⟩ := Option.map_eq_some_iff.1 hi
    exact ⟨x.1, x.2.1, by rw [List.getElem?_map, hx]; rfl, hg x (List.mem_of_getElem? hx)⟩
theorem open_crash {f0 f1 : Field} {cs : Array Value} (hE : P.underlying E = some (.struct #[f0, f1])) (ce : P.cellsOf E = 2) (o0 : f0.offset = 0) (o1 : f1.offset = 1) (c0 : P.cellsOf f0.type = 1) (c1 : P.cellsOf f1.type = 1)
    (i0 : P.underlying f0.type = some (.int .i64)) (i1 : P.underlying f1.type = some (.int .i64)) (h : DataW.Trod enc P W base (fun _ => true) held E (.agg cs) d p) :
    ∃ x y : Int, cs = #[.int .i64 x, .int .i64 y] ∧ (-9223372036854775808 ≤ x ∧ x ≤ 9223372036854775807) ∧ (-9223372036854775808 ≤ y ∧ y ≤ 9223372036854775807) := by
  obtain ⟨fuel, hy⟩ := h
  obtain ⟨xs, n, _, _, hl, hxl, hf⟩ := DataW.trod_struct hE hy
  have g0 := hf 0 f0 rfl
  have g1 := hf 1 f1 rfl
  rw [o0, c0] at g0
  rw [o1, c1] at g1
  obtain ⟨x0, hx0⟩ : ∃ x, xs[0]? = some x := ⟨_, List.getElem?_eq_getElem (by rw [hxl]; simp)⟩
  obtain ⟨x1, hx1⟩ : ∃ x, xs[1]? = some x := ⟨_, List.getElem?_eq_getElem (by rw [hxl]; simp)⟩
  rw [hx0] at g0
  rw [hx1] at g1
  obtain ⟨z0, e0, _, w0⟩ := DataW.trod_int i0 g0
  obtain ⟨z1, e1, _, w1⟩ := DataW.trod_int i1 g1
  rw [ce] at hl
  obtain ⟨l⟩ := cs
  simp only [Value.cells] at hl e0 e1
  match l, hl with
  | [v0, v1], _ =>
    simp at e0 e1
    subst e0
    subst e1
    exact ⟨z0, z1, rfl, bounds_i64 w0, bounds_i64 w1⟩
end
end Go.Proofs.Ytdopaoajbjodeaa
