/-
  A disk's blocks stand below the memory's end.
-/
import Derived.Test.YtdopaoajbjodeaaDkA
namespace Go.Proofs.Ytdopaoajbjodeaa
open Go.RowKit Go.Shelf

theorem DA.lts {T : TypeId} {fl : Bool} {w : World} {B gs gc : Nat} {s : DSt} (h : DA T fl w B gs gc s) : B < w.heap.size ∧ gs < w.heap.size ∧ (0 < s.cr.length → gc < w.heap.size) := by
  obtain ⟨ac, cc, cap, tl, e1, e2, e3, _⟩ := h.ex
  refine ⟨e1.lt, h.lt, fun hn => ?_⟩
  obtain ⟨b, off, rfl, hc⟩ := e2.2.2.2.2 hn
  have hb : b = gc := e3 _ rfl hn
  cases hcr : s.cr with
  | nil => rw [hcr] at hn; cases hn
  | cons q t =>
    have := World.block_lt_of_cell? w _ (hc 0 (.int .i64 q.1) (by rw [hcr]; rfl))
    rw [← hb]; exact this
end Go.Proofs.Ytdopaoajbjodeaa
