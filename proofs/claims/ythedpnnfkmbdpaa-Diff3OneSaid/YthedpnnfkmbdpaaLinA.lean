/-
  lines.table: reading a place.
-/
import Derived.Test.YthedpnnfkmbdpaaSlices
import Derived.Test.YthedpnnfkmbdpaaRows
import Derived.Test.YthedpnnfkmbdpaaFlow
import Derived.Test.YthedpnnfkmbdpaaBytes
import Derived.Test.YthedpnnfkmbdpaaLcs
namespace Go.Proofs.Ythedpnnfkmbdpaa
open Go.RowKit Go.Shelf

/-- A table in the block B, its lengths in the block g. -/
structure Tab (w : World) (base B g : Nat) (aA aB : Option Addr) (nA cA nB cB N : Nat) (f : Nat → Nat) : Prop where
  box : w.heap[B]? = some (.cells #[.slice aA nA cA, .slice aB nB cB, .slice (some ⟨g, 0, none⟩) N N] 54 (0, 0))
  row : w.ownsRow base 55 1 (.slice (some ⟨g, 0, none⟩) N N) N ((List.range N).map fun k => .int .u16 (f k : Int))

theorem cell_of_block {w : World} {B : Nat} {cs : Array Value} {t : TypeId} {fr : Nat × Nat} (h : w.heap[B]? = some (.cells cs t fr)) (k : Nat) : w.cell? ⟨B, k, none⟩ = cs[k]? := by
  simp [World.cell?, h]
theorem Tab.ext {w w' : World} {base B g : Nat} {aA aB : Option Addr} {nA cA nB cB N : Nat} {f : Nat → Nat} (h : Tab w base B g aA aB nA cA nB cB N f) (hE : Ext w w') : Tab w' base B g aA aB nA cA nB cB N f :=
  ⟨hE.block _ _ h.box (fun h => h), hE.owns h.row⟩

set_option maxHeartbeats 1000000 in
theorem at_any (w : World) (base B g : Nat) (aA aB : Option Addr) (nA cA nB cB N : Nat) (f : Nat → Nat) (hT : Tab w base B g aA aB nA cA nB cB N f) (i j : Nat) (hij : i * (nB + 1) + j < N) (hN : N ≤ 1000000) (hB : nB ≤ 400) (hi : i ≤ 400) :
    Calls Try.prog 28 #[.pointer (some ⟨B, 0, none⟩), .int .i64 i, .int .i64 j] w fun e w' => e = .returned (.int .u16 (f (i * (nB + 1) + j) : Int)) ∧ Ext w w' := by
  have hp : i * (nB + 1) ≤ 400 * 401 := Nat.mul_le_mul hi (by omega)
  obtain ⟨p, hpe⟩ : ∃ p, i * (nB + 1) = p := ⟨_, rfl⟩
  have hpi : (i : Int) * ((nB : Int) + 1) = (p : Int) := by rw [← hpe]; push_cast; rfl
  rw [hpe] at hp hij ⊢
  have hD : ∀ x : At w.drew, Ext w x.w := fun x => ((Keep.refl _ w).drew).trans x.ext
  have c1 := fun x => cell_of_block ((hT.ext (hD x)).box) 1
  have c2 := fun x => cell_of_block ((hT.ext (hD x)).box) 2
  have c3 := fun x => (hT.ext (hD x)).row.cellAt (p + j) (by omega)
  rw [List.getElem?_map, List.getElem?_range hij] at c3
  simp only [Option.map_some] at c3
  simp at c1 c2
  obtain ⟨v, hv⟩ : ∃ v, f (p + j) = v := ⟨_, rfl⟩
  rw [hv] at c3 ⊢
  have hE0 : Ext w w.drew := (Keep.refl _ w).drew
  clear hpe hD hT hv
  refine calls_cps fun R hR => ?_
  go_enter Try.func28, Try.ntmps28
  go_wp2
  refine wp_flow (fun _ => .reads) (by kernel_rfl) (by kernel_rfl) ?_
  repeat (refine flow_r rfl rfl ?_; go_big_quiet_step (fail); refine wpQuiet_nil ?_)
  refine flow_end (fun w1 hE1 _ => ?_)
  clear c1 c2 c3
  go_wp2
  exact ⟨rfl, hE0.trans hE1⟩
end Go.Proofs.Ythedpnnfkmbdpaa
