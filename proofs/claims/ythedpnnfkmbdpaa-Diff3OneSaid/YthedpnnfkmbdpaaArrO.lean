/-
  A block that holds an array of values of one cell each. Nothing here names the program.
-/
import Derived.Test.YthedpnnfkmbdpaaFlow
import Derived.Test.YthedpnnfkmbdpaaCopy
import Derived.Laws.Rows
import Derived.Laws.Tables
import Derived.Deep.WholeRow
namespace Go.Proofs.Ythedpnnfkmbdpaa
open Go.RowKit Go.Shelf

/-- Block b holds the cells cs. -/
def Arr (w : World) (b : Nat) (t : TypeId) (cs : List Value) : Prop := w.heap[b]? = some (.cells cs.toArray t (0, 0))
section
variable {w w' : World} {b : Nat} {t : TypeId} {cs : List Value}
theorem Arr.keep {X : Nat → Obj → Prop} (h : Arr w b t cs) (hk : Keep X w w') (hX : ¬ X b (.cells cs.toArray t (0, 0))) : Arr w' b t cs := hk.block b _ h hX
theorem Arr.ext (h : Arr w b t cs) (hk : Ext w w') : Arr w' b t cs := hk.block b _ h (fun h => h)
theorem Arr.new (w : World) (t : TypeId) (cs : List Value) : Arr (w.alloc (.cells cs.toArray t)) w.heap.size t cs := World.alloc_heap_new w _
theorem Arr.alloc (h : Arr w b t cs) (o : Obj) : Arr (w.alloc o) b t cs := h.ext ((Keep.refl _ w).alloc o)
theorem Arr.lt (h : Arr w b t cs) : b < w.heap.size := Keep.lt h
theorem Arr.cell (h : Arr w b t cs) {i : Nat} {v : Value} (hv : cs[i]? = some v) : w.cell? ⟨b, i, none⟩ = some v := by
  rw [cell_of_row _ _ i _ t (0, 0) h]
  simpa using hv
theorem Arr.row (h : Arr w b t cs) {off n c : Nat} (h1 : off + n ≤ cs.length) (h2 : n ≤ c) (h3 : c ≤ maxLen) : Row 1 w (some ⟨b, off, none⟩) n c ((cs.drop off).take n) := by
  refine ⟨h2, h3, by simp; omega, by simp, fun hn => ⟨b, off, rfl, fun i u hu => h.cell ?_⟩⟩
  rw [List.getElem?_take, List.getElem?_drop] at hu
  split at hu
  · exact hu
  · cases hu
theorem Arr.frozen (h : Arr w b t cs) (i : Nat) : w.frozen? ⟨b, i, none⟩ = false := by
  unfold Arr at h
  simp [World.frozen?, h]
theorem Arr.whole (h : Arr w b t cs) {n : Nat} (hn : cs.length = n) (h3 : n ≤ maxLen) : Row 1 w (some ⟨b, 0, none⟩) n n cs := by
  have := h.row (off := 0) (n := n) (c := n) (by omega) (Nat.le_refl _) h3
  rwa [List.drop_zero, List.take_of_length_le (by omega)] at this
theorem Arr.set (h : Arr w b t cs) (i : Nat) (v : Value) : Arr (w.setCell ⟨b, i, none⟩ v) b t (cs.set i v) := by
  unfold Arr at h ⊢
  unfold World.setCell
  simp [Array.getElem?_modify, h]
theorem Arr.setRow (h : Arr w b t cs) (cs' : List Value) : Arr (w.setRow b cs'.toArray) b t cs' := by
  unfold Arr at h ⊢
  simp [World.setRow, Array.getElem?_modify, h]
theorem keep_setRow (w : World) (b : Nat) (c : Array Value) : Keep (fun k _ => k = b) w (w.setRow b c) :=
  ⟨rfl, rfl, rfl, by simp [World.setRow], fun k o ho hx => by rw [setRow_other w b k _ (fun e => hx e)]; exact ho⟩
theorem keep_setCell (w : World) (b i : Nat) (v : Value) : Keep (fun k _ => k = b) w (w.setCell ⟨b, i, none⟩ v) := (Keep.refl _ w).setCell _ _ (fun _ _ => rfl)
/-- copy into an array. -/
theorem Arr.copy {P : Program} (h : Arr w b t cs) (dT sT ty e : TypeId) (hu : P.underlying dT = some (.slice e)) (hsz : (P.info? e).map (·.size) = some 1)
    {a : Option Addr} {m c : Nat} {xs : List Value} (hr : Row 1 w a m c xs) (h1 : ∀ v ∈ xs, v.oneCell' = true) (off dLen dCap : Nat) (hm : 0 < m) (hle : m ≤ dLen) (hfit : off + m ≤ cs.length) :
    ∃ w', (Builtin.copy_ #[dT, sT] ty #[.slice (some ⟨b, off, none⟩) dLen dCap, .slice a m c]).run P w = .ok (.int .i64 (m : Int)) w' ∧ Arr w' b t (over cs off xs) ∧ Keep (fun k _ => k = b) w w' := by
  have hcl : xs.length = m := by have := hr.2.2.1; simpa using this
  obtain ⟨b2, o2, rfl, hcell⟩ := hr.2.2.2.2 (by omega)
  have hrun := run_copy_row (P := P) w dT sT ty e b off dLen dCap ⟨b2, o2, none⟩ m c cs.toArray t xs hu hsz h (by rw [hcl]; exact (Nat.min_eq_left hle).symm) (fun j v hv => by rw [addr_add]; exact hcell j v hv) (by simp; omega) h1
  rw [hcl] at hrun
  refine ⟨_, hrun, ?_, keep_setRow _ _ _⟩
  unfold over
  rw [hcl]
  exact h.setRow _
end
theorem over_length {xs cs : List Value} {off : Nat} (h : off + cs.length ≤ xs.length) : (over xs off cs).length = xs.length := by simp [over]; omega

/-- The cells of a row, loaded. -/
theorem Row.loads {P : Program} {w : World} {b off n c : Nat} {cs : List Value} (h : Row 1 w (some ⟨b, off, none⟩) n c cs) (hn : 0 < n) : (loadCellsFrom ⟨b, off, none⟩ 0 n #[]).run P w = .ok cs.toArray w := by
  have hl : cs.length = n := by have := h.2.2.1; simpa using this
  have := run_loadCells_list (P := P) (w := w) ⟨b, off, none⟩ cs (fun j v hv => by rw [addr_add]; exact h.cell rfl hv hn)
  rw [hl] at this
  exact this
theorem Arr.loads {P : Program} {w : World} {b n : Nat} {t : TypeId} {cs : List Value} (h : Arr w b t cs) (hn : cs.length = n) : (loadCellsFrom ⟨b, 0, none⟩ 0 n #[]).run P w = .ok cs.toArray w := by
  subst hn
  exact run_loadCells_list (P := P) (w := w) ⟨b, 0, none⟩ cs (fun j v hv => by rw [addr_add, Nat.zero_add]; exact h.cell hv)
/-- An array's cells, stored. -/
theorem Arr.stores {P : Program} {w : World} {b : Nat} {t : TypeId} {cs cs' : List Value} (h : Arr w b t cs) (hn : cs'.length = cs.length) (h1 : ∀ v ∈ cs', v.oneCell' = true) : (storeCells ⟨b, 0, none⟩ cs').run P w = .ok () (w.setRow b cs'.toArray) := by
  have := run_storeCells_from (P := P) b t cs' 0 cs.toArray w h (by simp; omega) h1
  simpa using this
theorem stores_new {P : Program} {t : TypeId} {cs cs' : List Value} (hn : cs'.length = cs.length) (h1 : ∀ v ∈ cs', v.oneCell' = true) (w : World) : (storeCells ⟨w.heap.size, 0, none⟩ cs').run P (w.alloc (.cells cs.toArray t)) = .ok () (w.alloc (.cells cs'.toArray t)) := by
  rw [(Arr.new w t cs).stores hn h1, World.setRow_alloc_new]

theorem run_loadVar_cells {P : Program} (w : World) (p : Addr) (ty : TypeId) (cs : List Value) (d : TypeDesc) (hl : (loadCellsFrom p 0 cs.length #[]).run P w = .ok cs.toArray w)
    (hu : P.underlying ty = some d) (hd : (match d with | .struct _ | .array _ _ => true | _ => false) = true) (hi : (P.info? ty).map (·.size) = some cs.length) :
    (loadVar ty p).run P w = .ok (.agg cs.toArray) w := by
  cases hq : P.info? ty with
  | none => simp [hq] at hi
  | some i =>
    have hs : i.size = cs.length := by simpa [hq] using hi
    have hagg : (isAgg ty).run P w = .ok true w := by
      unfold isAgg
      cases d <;> simp_all [run_underlying hu, Result.andThen]
    have hl' : (loadCells p cs.length).run P w = .ok cs.toArray w := hl
    simp [loadVar, hagg, sizeOf, typeInfo, hq, hs, hl', Result.andThen]
/-- An array's cells, loaded from wherever they stand. -/
theorem wpList_load_cells {P : Program} {ops : Array Oper} {rest : List Oper} {o : Oper} {a : Act} {w : World} {Q : Exit → Act → World → Prop} (hgd : o.guard = none) (ty : TypeId) (x : Operand) (ho : o.op = .load ty x)
    (p : Addr) (hx : a.eval x = .pointer (some p)) (cs : List Value) (d : TypeDesc) (hl : (loadCellsFrom p 0 cs.length #[]).run P w = .ok cs.toArray w)
    (hu : P.underlying ty = some d) (hd : (match d with | .struct _ | .array _ _ => true | _ => false) = true) (hi : (P.info? ty).map (·.size) = some cs.length)
    (h : wpList P ops Q rest (a.put o.dst (.agg cs.toArray)) w) : wpList P ops Q (o :: rest) a w :=
  wpList_plain hgd fun _ hK => by
    unfold Oper.wp execOp
    simp only [ho, hx, Instr.loadAt, Instr.sureAddr, Sem.run_bind, Sem.run_pure, Result.andThen_ok, run_loadVar_cells w p ty cs d hl hu hd hi]
    exact hK _ _ h

/-- Blocks laid in a row. -/
theorem wp_laid1 {P : Program} {c : Code} {Q : Exit → Act → World → Prop} {a : Act} {w : World} {o1 : Obj}
    (h : ∀ W, Ext w W → W.heap[w.heap.size]? = some o1 → Code.wp P c Q a W) : Code.wp P c Q a (w.alloc o1) :=
  h _ ((Keep.refl _ w).alloc _) (World.alloc_heap_new w o1)
theorem wp_laid2 {P : Program} {c : Code} {Q : Exit → Act → World → Prop} {a : Act} {w : World} {o1 o2 : Obj}
    (h : ∀ W, Ext w W → W.heap[w.heap.size]? = some o1 → W.heap[w.heap.size + 1]? = some o2 → Code.wp P c Q a W) : Code.wp P c Q a ((w.alloc o1).alloc o2) := by
  have k1 := World.alloc_heap_new w o1
  have k2 := World.alloc_heap_new (w.alloc o1) o2
  simp only [World.size_alloc] at k2
  exact h _ (((Keep.refl _ w).alloc _).alloc _) (((Keep.refl (fun _ _ => False) _).alloc o2).block _ _ k1 (fun h => h)) k2
theorem wp_laid3 {P : Program} {c : Code} {Q : Exit → Act → World → Prop} {a : Act} {w : World} {o1 o2 o3 : Obj}
    (h : ∀ W, Ext w W → W.heap[w.heap.size]? = some o1 → W.heap[w.heap.size + 1]? = some o2 → W.heap[w.heap.size + 1 + 1]? = some o3 → Code.wp P c Q a W) : Code.wp P c Q a (((w.alloc o1).alloc o2).alloc o3) := by
  have k1 := World.alloc_heap_new w o1
  have k2 := World.alloc_heap_new (w.alloc o1) o2
  have k3 := World.alloc_heap_new ((w.alloc o1).alloc o2) o3
  simp only [World.size_alloc] at k2 k3
  have e : ∀ (A : World) (o : Obj), Ext A (A.alloc o) := fun A o => (Keep.refl _ A).alloc o
  exact h _ ((((Keep.refl _ w).alloc _).alloc _).alloc _) ((e _ o3).block _ _ ((e _ o2).block _ _ k1 (fun h => h)) (fun h => h)) ((e _ o3).block _ _ k2 (fun h => h)) k3

/-- Four blocks laid in a row. -/
theorem wp_laid4 {P : Program} {c : Code} {Q : Exit → Act → World → Prop} {a : Act} {w : World} {o1 o2 o3 o4 : Obj}
    (h : ∀ W, Ext w W → W.heap[w.heap.size]? = some o1 → W.heap[w.heap.size + 1]? = some o2 → W.heap[w.heap.size + 1 + 1]? = some o3 → W.heap[w.heap.size + 1 + 1 + 1]? = some o4 → Code.wp P c Q a W) :
    Code.wp P c Q a ((((w.alloc o1).alloc o2).alloc o3).alloc o4) := by
  have k1 := World.alloc_heap_new w o1
  have k2 := World.alloc_heap_new (w.alloc o1) o2
  have k3 := World.alloc_heap_new ((w.alloc o1).alloc o2) o3
  have k4 := World.alloc_heap_new (((w.alloc o1).alloc o2).alloc o3) o4
  simp only [World.size_alloc] at k2 k3 k4
  have e : ∀ (A : World) (o : Obj), Ext A (A.alloc o) := fun A o => (Keep.refl _ A).alloc o
  exact h _ (((((Keep.refl _ w).alloc _).alloc _).alloc _).alloc _) ((e _ o4).block _ _ ((e _ o3).block _ _ ((e _ o2).block _ _ k1 (fun h => h)) (fun h => h)) (fun h => h)) ((e _ o4).block _ _ ((e _ o3).block _ _ k2 (fun h => h)) (fun h => h)) ((e _ o4).block _ _ k3 (fun h => h)) k4

end Go.Proofs.Ythedpnnfkmbdpaa
