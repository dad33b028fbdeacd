/-
  Slices of bytes and of words that came in, as 'Row'.
-/
import Derived.Test.YtdopaoajbjodeaaSlices
import Derived.Test.YtdopaoajbjodeaaRows
import Derived.ProofKit
import Derived.OpenShut
namespace Go.Proofs.Ytdopaoajbjodeaa
open Go.RowKit Go.ChangeShapes Go.WideShapes Go.ChangeAt

section
variable {H : Type} {enc : TypeId × Value → H} {P : Program} {W : World} {base : Nat} {held : Bool} {T E : TypeId} {a : Option Addr} {len cap : Nat} {d : DataW H} {p : List MemPlace}
theorem open_kind {k : IntKind} (hT : P.underlying T = some (.slice E)) (hE : P.underlying E = some (.int k)) (hc : P.cellsOf E = 1)
    (h : DataW.Trod enc P W base (fun _ => true) held T (.slice a len cap) d p) :
    ∃ zs : List Int, Row 1 W a len cap (zs.map (Value.int k)) ∧ ∀ z ∈ zs, (Lit.int k z).wf = true := by
  obtain ⟨fuel, hf⟩ := h
  rcases open_ints hT hE hc hf with ⟨hcs, _⟩ | ⟨x, l, c, zs, hcs, _, hl, hm, hz, _, hcell, hwz⟩
  · simp [Value.cells] at hcs
    obtain ⟨rfl, rfl, rfl⟩ := hcs
    exact ⟨[], Row.nil _ _, by simp⟩
  · simp [Value.cells] at hcs
    obtain ⟨rfl, rfl, rfl⟩ := hcs
    simp only [if_true] at hz
    refine ⟨zs.take len, ⟨hl, hm, by simp; omega, by simp, fun hn => ?_⟩, fun z hz => hwz z (List.mem_of_mem_take hz)⟩
    obtain ⟨b, off, spot⟩ := x
    have h0 := hcell 0 (by omega)
    have hspot : spot = none := by simpa [Addr.add] using World.cell?_spot h0
    subst hspot
    refine ⟨b, off, rfl, fun i u hu => ?_⟩
    have hi : i < len := by
      have := (List.getElem?_eq_some_iff.1 hu).1
      simp at this; omega
    have := hcell i (by omega)
    rw [addr_add] at this
    rw [this]
    rw [List.getElem?_map, List.getElem?_take, if_pos hi, List.getElem?_eq_getElem (by omega)] at hu
    simp [List.getD_eq_getElem?_getD, List.getElem?_eq_getElem (show i < zs.length by omega)] at hu ⊢
    exact hu
theorem open_u8s (hT : P.underlying T = some (.slice E)) (hE : P.underlying E = some (.int .u8)) (hc : P.cellsOf E = 1)
    (h : DataW.Trod enc P W base (fun _ => true) held T (.slice a len cap) d p) : ∃ l : List UInt8, Row 1 W a len cap (l.map u8v) := by
  obtain ⟨zs, hr, hw⟩ := open_kind hT hE hc h
  refine ⟨zs.map (fun z => UInt8.ofNat z.toNat), ?_⟩
  have : (zs.map (fun z => UInt8.ofNat z.toNat)).map u8v = zs.map (Value.int .u8) := by
    rw [List.map_map]
    refine List.map_congr_left fun z hz => ?_
    have := bounds_u8 (hw z hz)
    simp only [Function.comp, u8v]
    rw [UInt8.toNat_ofNat', Nat.mod_eq_of_lt (by omega)]
    congr 1; omega
  rw [this]; exact hr
theorem open_u32s (hT : P.underlying T = some (.slice E)) (hE : P.underlying E = some (.int .u32)) (hc : P.cellsOf E = 1)
    (h : DataW.Trod enc P W base (fun _ => true) held T (.slice a len cap) d p) : ∃ l : List UInt32, Row 1 W a len cap (l.map u32v) := by
  obtain ⟨zs, hr, hw⟩ := open_kind hT hE hc h
  refine ⟨zs.map (fun z => UInt32.ofNat z.toNat), ?_⟩
  have : (zs.map (fun z => UInt32.ofNat z.toNat)).map u32v = zs.map (Value.int .u32) := by
    rw [List.map_map]
    refine List.map_congr_left fun z hz => ?_
    have := bounds_u32 (hw z hz)
    simp only [Function.comp, u32v]
    rw [UInt32.toNat_ofNat', Nat.mod_eq_of_lt (by omega)]
    congr 1; omega
  rw [this]; exact hr
end
end Go.Proofs.Ytdopaoajbjodeaa
