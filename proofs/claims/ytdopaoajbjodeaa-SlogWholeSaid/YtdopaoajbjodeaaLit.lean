/-
  A literal's row.
-/
import Derived.Test.YtdopaoajbjodeaaSlices
namespace Go.Proofs.Ytdopaoajbjodeaa
open Go.RowKit Go.Shelf

theorem lit_row {base : Nat} (w : World) (e : TypeId) (cs : Array Value) (n : Nat) (hm : n ≤ maxLen) (hs : cs.size = n) (hb : base ≤ w.heap.size) :
    (w.alloc (.cells cs e)).ownsRow base e 1 (.slice (some ⟨w.heap.size, 0, none⟩) n n) n cs.toList ∧ Row 1 (w.alloc (.cells cs e)) (some ⟨w.heap.size, 0, none⟩) n n cs.toList := by
  have h := World.ownsRow_lit (base := base) (e := e) (size := 1) w cs n hb hm (by simpa using hs)
  obtain ⟨_, _, h1, h2⟩ := owns_row h
  cases h1
  exact ⟨h, h2⟩

end Go.Proofs.Ytdopaoajbjodeaa
