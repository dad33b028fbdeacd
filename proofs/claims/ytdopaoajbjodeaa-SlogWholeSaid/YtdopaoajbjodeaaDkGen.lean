/-
  Operations, guarded or not, whose run is given; bytes as cells.
-/
import Derived.Test.YtdopaoajbjodeaaDkF
namespace Go.Proofs.Ytdopaoajbjodeaa
open Go.RowKit Go.Shelf

section
variable {P : Program} {ops : Array Oper} {rest : List Oper} {o : Oper} {a : Act} {w : World} {Q : Exit → Act → World → Prop}
/-- An operation, guarded or not, whose run is given. -/
theorem wpList_val {v : Value} (hr : (execOp a.eval o).run P w = .ok (.value v) w) (hw : Region.wanted o (yielded ops a.tmps) = true) (h : wpList P ops Q rest (a.put o.dst v) w) : wpList P ops Q (o :: rest) a w :=
  wpList_step fun K hK => by
    rw [if_pos hw]
    unfold Oper.wp
    rw [hr]
    exact hK _ _ h
theorem wpList_load_g (ty : TypeId) (x : Operand) (g : Nat) (t : TypeId) (cs : Array Value) {d : TypeDesc} (ho : o.op = .load ty x) (hw : Region.wanted o (yielded ops a.tmps) = true)
    (hx : a.eval x = .pointer (some ⟨g, 0, none⟩)) (hg : w.heap[g]? = some (.cells cs t (0, 0))) (hu : P.underlying ty = some d) (hd : (match d with | .struct _ | .array _ _ => true | _ => false) = true) (hi : (P.info? ty).map (·.size) = some cs.size)
    (h : wpList P ops Q rest (a.put o.dst (.agg cs)) w) : wpList P ops Q (o :: rest) a w := wpList_val (exec_load_row ho hx hg hu hd hi) hw h
end
theorem bytes_cells (l : List UInt8) {n : Nat} (hl : l.length = n) : ∀ i, i < n → ∃ a, (l.map u8v).toArray[i]? = some (.int .u8 a) := fun i hi => by
  have : i < l.length := by omega
  exact ⟨_, by simp [List.getElem?_eq_getElem this, u8v]; rfl⟩
end Go.Proofs.Ytdopaoajbjodeaa
