/-
  Arrays of bytes and of words that came in by value.
-/
import Derived.Test.YtdopaoajbjodeaaSlices
import Derived.Test.YtdopaoajbjodeaaRows
import Derived.ProofKit
import Derived.OpenShut
namespace Go.Proofs.Ytdopaoajbjodeaa
open Go.RowKit Go.ChangeShapes Go.WideShapes Go.ChangeAt

section
variable {H : Type} {enc : TypeId × Value → H} {P : Program} {W : World} {base : Nat} {held : Bool} {T E : TypeId} {n : Nat} {d : DataW H} {p : List MemPlace}
theorem okWide_array {r : Reach} {v : Value} (ht : P.underlying T = some (.array n E)) (h : Value.okWide P W r base T v) : ∃ cs, v = .agg cs := by
  simp only [Value.okWide, ht] at h
  obtain ⟨cs, h1, _⟩ := h
  exact ⟨cs, h1⟩
def intIn : Value → Int
  | .int _ a => a
  | _ => 0
theorem open_arrK {k : IntKind} {cs : Array Value} (hT : P.underlying T = some (.array n E)) (hE : P.underlying E = some (.int k)) (hc : P.cellsOf E = 1) (hn : P.cellsOf T = n)
    (h : DataW.Trod enc P W base (fun _ => true) held T (.agg cs) d p) : ∃ zs : List Int, cs = (zs.map (Value.int k)).toArray ∧ zs.length = n ∧ ∀ z ∈ zs, (Lit.int k z).wf = true := by
  obtain ⟨fuel, hf⟩ := h
  obtain ⟨xs, m, _, _, hl, hxl, hel⟩ := DataW.trod_array hT hf
  simp only [Value.cells] at hl hel
  rw [hn] at hl
  have hat : ∀ i, i < n → ∃ a, cs.toList[i]? = some (.int k a) ∧ (Lit.int k a).wf = true := fun i hi => by
    have h1 := hel i hi
    rw [hc, Nat.mul_one] at h1
    obtain ⟨y, hy⟩ : ∃ y, xs[i]? = some y := ⟨_, List.getElem?_eq_getElem (by omega)⟩
    rw [hy] at h1
    obtain ⟨a, ea, _, wa⟩ := DataW.trod_int hE h1
    refine ⟨a, ?_, wa⟩
    have := congrArg (fun l : List Value => l[0]?) ea
    simpa [List.getElem?_take, List.getElem?_drop] using this
  refine ⟨cs.toList.map intIn, ?_, by simpa using hl, ?_⟩
  · apply Array.ext'
    refine List.ext_getElem? fun i => ?_
    by_cases hi : i < n
    · obtain ⟨a, ha, _⟩ := hat i hi
      simp only [List.getElem?_map, ha]
      rfl
    · rw [List.getElem?_eq_none (by omega), List.getElem?_eq_none (by simp at hl ⊢; omega)]
  · intro z hz
    obtain ⟨v, hv, rfl⟩ := List.mem_map.1 hz
    obtain ⟨i, hi, hvi⟩ := List.getElem_of_mem hv
    obtain ⟨a, ha, wa⟩ := hat i (by omega)
    rw [List.getElem?_eq_getElem hi, hvi] at ha
    cases ha
    exact wa
theorem open_arr8 {cs : Array Value} (hT : P.underlying T = some (.array n E)) (hE : P.underlying E = some (.int .u8)) (hc : P.cellsOf E = 1) (hn : P.cellsOf T = n)
    (h : DataW.Trod enc P W base (fun _ => true) held T (.agg cs) d p) : ∃ l : List UInt8, cs = (l.map u8v).toArray ∧ l.length = n := by
  obtain ⟨zs, h1, h2, hw⟩ := open_arrK hT hE hc hn h
  refine ⟨zs.map (fun z => UInt8.ofNat z.toNat), ?_, by simpa using h2⟩
  have : (zs.map (fun z => UInt8.ofNat z.toNat)).map u8v = zs.map (Value.int .u8) := by
    rw [List.map_map]
    refine List.map_congr_left fun z hz => ?_
    have := bounds_u8 (hw z hz)
    simp only [Function.comp, u8v]
    rw [UInt8.toNat_ofNat', Nat.mod_eq_of_lt (by omega)]
    congr 1; omega
  rw [this]; exact h1
theorem open_arr32 {cs : Array Value} (hT : P.underlying T = some (.array n E)) (hE : P.underlying E = some (.int .u32)) (hc : P.cellsOf E = 1) (hn : P.cellsOf T = n)
    (h : DataW.Trod enc P W base (fun _ => true) held T (.agg cs) d p) : ∃ l : List UInt32, cs = (l.map u32v).toArray ∧ l.length = n := by
  obtain ⟨zs, h1, h2, hw⟩ := open_arrK hT hE hc hn h
  refine ⟨zs.map (fun z => UInt32.ofNat z.toNat), ?_, by simpa using h2⟩
  have : (zs.map (fun z => UInt32.ofNat z.toNat)).map u32v = zs.map (Value.int .u32) := by
    rw [List.map_map]
    refine List.map_congr_left fun z hz => ?_
    have := bounds_u32 (hw z hz)
    simp only [Function.comp, u32v]
    rw [UInt32.toNat_ofNat', Nat.mod_eq_of_lt (by omega)]
    congr 1; omega
  rw [this]; exact h1
end
end Go.Proofs.Ytdopaoajbjodeaa
