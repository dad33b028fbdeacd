/-
  A disk as plain data; a disk in memory; storing into the middle of a block. 
-/
import Derived.Test.YtdopaoajbjodeaaArr
import Derived.Test.YtdopaoajbjodeaaFlowY
import Derived.Test.YtdopaoajbjodeaaRows
namespace Go.Proofs.Ytdopaoajbjodeaa
open Go.RowKit Go.Shelf

/-- The disk's state: its sectors' bytes, how many sectors, the crashes to come, the writes since the start, whether there is power. -/
structure DSt where
  F : List UInt8
  n : Nat
  cr : List (Int × Int)
  wr : Nat
  pw : Bool
def zeros (n : Nat) : List UInt8 := List.replicate n 0
def overB (l : List UInt8) (off : Nat) (c : List UInt8) : List UInt8 := l.take off ++ c ++ l.drop (off + c.length)
def keepN (k : Int) : Nat := (min (max k 0) 64).toNat
namespace DSt
def may (s : DSt) (i : Int) : Int := if s.pw then (if i < 0 ∨ (s.n : Int) ≤ i then 130 else 0) else 131
def tears (s : DSt) : Bool := match s.cr with
  | [] => false
  | c :: _ => c.1 == (s.wr : Int)
def keep (s : DSt) : Nat := match s.cr with
  | [] => 64
  | c :: _ => keepN c.2
def put (s : DSt) (i : Nat) (b : List UInt8) : DSt := { s with F := overB s.F (i * 64) b }
def write (s : DSt) (i : Int) (b : List UInt8) : DSt :=
  if s.may i = 0 then (if s.tears then { s.put i.toNat (b.take s.keep) with pw := false } else { s.put i.toNat b with wr := s.wr + 1 }) else s
def writeE (s : DSt) (i : Int) : Int := if s.may i = 0 then (if s.tears then 131 else 0) else s.may i
def start (s : DSt) : DSt := { s with pw := true, wr := 0, cr := s.cr.tail }
def sector (s : DSt) (i : Nat) : List UInt8 := (s.F.drop (i * 64)).take 64
def read (s : DSt) (i : Int) : List UInt8 := if s.may i = 0 then s.sector i.toNat else zeros 64
end DSt
theorem overB_length {l c : List UInt8} {off : Nat} (h : off + c.length ≤ l.length) : (overB l off c).length = l.length := by simp [overB]; omega
theorem overB_map {l c : List UInt8} {off : Nat} : (overB l off c).map u8v = over (l.map u8v) off (c.map u8v) := by simp [overB, over]

def crC (l : List (Int × Int)) : List Value := l.flatMap fun c => [.int .i64 c.1, .int .i64 c.2]
theorem crC_length (l : List (Int × Int)) : (crC l).length = l.length * 2 := by
  induction l with
  | nil => rfl
  | cons p t ih => rw [show crC (p :: t) = .int .i64 p.1 :: .int .i64 p.2 :: crC t from rfl, List.length_cons, List.length_cons, ih, List.length_cons]; omega
theorem crC_one (l : List (Int × Int)) : ∀ v ∈ crC l, v.oneCell' = true := by
  intro v hv
  obtain ⟨c, _, h⟩ := List.mem_flatMap.1 hv
  simp at h
  rcases h with rfl | rfl <;> rfl

/-- A disk in the block B (a struct of the type T; its last cell fl), its sectors in the block gs (behind them tl), its crashes in the block gc. -/
structure DA (T : TypeId) (fl : Bool) (w : World) (B gs gc : Nat) (s : DSt) : Prop where
  ex : ∃ ac cc cap tl, Arr w B T [.slice (some ⟨gs, 0, none⟩) s.n cap, .slice ac s.cr.length cc, .int .i64 (s.wr : Int), .bool fl] ∧ Row 2 w ac s.cr.length cc (crC s.cr) ∧ (∀ p, ac = some p → 0 < s.cr.length → p.block = gc) ∧
    (0 < s.n → Arr w gs 60 (s.F.map u8v ++ tl)) ∧ s.n ≤ cap ∧ cap ≤ 9223372036854775807
  len : s.F.length = s.n * 64
  lt : gs < w.heap.size
  n1 : B ≠ gs
  n2 : 0 < s.cr.length → gc ≠ B
  n3 : 0 < s.cr.length → gc ≠ gs
  big : s.n ≤ 65536
theorem DA.keep {X : Nat → Obj → Prop} {T : TypeId} {fl : Bool} {w w' : World} {B gs gc : Nat} {s : DSt} (h : DA T fl w B gs gc s) (hk : Keep X w w') (h1 : ∀ o, ¬ X B o) (h2 : 0 < s.n → ∀ o, ¬ X gs o) (h3 : 0 < s.cr.length → ∀ o, ¬ X gc o) : DA T fl w' B gs gc s := by
  obtain ⟨ac, cc, cap, tl, e1, e2, e3, e4, e5, e6⟩ := h.ex
  refine ⟨⟨ac, cc, cap, tl, e1.keep hk (h1 _), ?_, e3, fun hn => (e4 hn).keep hk (h2 hn _), e5, e6⟩, h.len, Nat.lt_of_lt_of_le h.lt hk.size, h.n1, h.n2, h.n3, h.big⟩
  refine ⟨e2.1, e2.2.1, e2.2.2.1, e2.2.2.2.1, fun hn => ?_⟩
  obtain ⟨b, off, rfl, hc⟩ := e2.2.2.2.2 hn
  have hb : b = gc := e3 _ rfl hn
  exact ⟨b, off, rfl, fun i u hu => hk.cell (hc i u hu) (fun o _ _ => by show ¬ X b o; rw [hb]; exact h3 hn o)⟩
theorem DA.ext {T : TypeId} {fl : Bool} {w w' : World} {B gs gc : Nat} {s : DSt} (h : DA T fl w B gs gc s) (hk : Ext w w') : DA T fl w' B gs gc s := h.keep hk (fun _ h => h) (fun _ _ h => h) (fun _ _ h => h)

/-- Cells stored into the middle of a block. -/
theorem run_storeCells_mid {P : Program} (g : Nat) (t : TypeId) : ∀ (vs : List Value) (off i : Nat) (cur : List Value) (w : World), Arr w g t cur → off + i + vs.length ≤ cur.length → (∀ v ∈ vs, v.oneCell' = true) →
    (storeCells ⟨g, off, none⟩ vs i).run P w = .ok () (w.setRow g (over cur (off + i) vs).toArray)
  | [], off, i, cur, w, hg, hl, _ => by
    have hov : over cur (off + i) [] = cur := by unfold over; simp
    rw [hov]
    have hlt : g < w.heap.size := Keep.lt hg
    have hv : w.heap[g] = .cells cur.toArray t (0, 0) := (Array.getElem?_eq_some_iff.1 hg).2
    simp only [storeCells]
    show Result.ok () w = _
    congr 1
    unfold World.setRow
    cases w with
    | mk heap tape drawn os output =>
      congr 1
      apply Array.ext
      · simp
      · intro k h1 h2
        simp only [Array.getElem_modify]
        split
        · rename_i hk; subst hk; simp at hv; simp [hv]
        · rfl
  | v :: rest, off, i, cur, w, hg, hl, h1 => by
    have hi : off + i < cur.length := by simp at hl; omega
    have hcell : w.cell? ⟨g, off + i, none⟩ = some cur[off + i] := hg.cell (List.getElem?_eq_getElem hi)
    have hfro : w.frozen? ⟨g, off + i, none⟩ = false := hg.frozen _
    have hst : (store ((⟨g, off, none⟩ : Addr).add i) v).run P w = .ok () (w.setRow g (cur.set (off + i) v).toArray) := by
      rw [addr_add, run_store P w _ v _ (h1 v (by simp)), hcell]
      simp [hfro, setCell_eq_setRow w g (off + i) cur.toArray t (0, 0) v hg]
    have ih := run_storeCells_mid (P := P) g t rest off (i + 1) (cur.set (off + i) v) (w.setRow g (cur.set (off + i) v).toArray) (hg.setRow _) (by simp at hl ⊢; omega) (fun x hx => h1 x (by simp [hx]))
    simp only [storeCells, Sem.run_bind, hst, Result.andThen_ok, ih, setRow_setRow]
    congr 3
    unfold over
    apply List.ext_getElem?
    intro k
    simp only [List.getElem?_append, List.length_take, List.length_set, List.getElem?_take, List.getElem?_set, List.getElem?_drop, List.length_append, List.length_cons]
    rw [Nat.min_eq_left (show off + (i + 1) ≤ cur.length by omega), Nat.min_eq_left (show off + i ≤ cur.length by omega)]
    by_cases hk : k < off + i
    · simp [hk, show k < off + (i + 1) by omega, show k < off + (i + 1) + rest.length by omega, show k < off + i + (rest.length + 1) by omega, show ¬ off + i = k by omega]
    · by_cases hk2 : k = off + i
      · subst hk2
        simp [show off + i < off + (i + 1) by omega, show off + i < off + (i + 1) + rest.length by omega, hi]
      · have h3 : ¬ k < off + (i + 1) := by omega
        have e1 : k - (off + i) = (k - (off + (i + 1))) + 1 := by omega
        by_cases h4 : k < off + (i + 1) + rest.length
        · simp [hk, h3, h4, show k < off + i + (rest.length + 1) by omega, e1]
        · simp [h4, show ¬ k < off + i + (rest.length + 1) by omega, show off + (i + 1) + rest.length + (k - (off + (i + 1) + rest.length)) = k by omega, show off + i + (rest.length + 1) + (k - (off + i + (rest.length + 1))) = k by omega, show ¬ off + i = k by omega]

theorem run_storeVar_mid {P : Program} {w : World} {g off : Nat} {t ty : TypeId} {cur cells : List Value} (hg : Arr w g t cur) (hi : (P.info? ty).map (·.size) = some cells.length) (ho : off + cells.length ≤ cur.length) (h1 : ∀ v ∈ cells, v.oneCell' = true) :
    (storeVar ty ⟨g, off, none⟩ (.agg cells.toArray)).run P w = .ok () (w.setRow g (over cur off cells).toArray) := by
  have := run_storeCells_mid (P := P) g t cells off 0 cur w hg (by omega) h1
  rw [Nat.add_zero] at this
  cases hq : P.info? ty with
  | none => simp [hq] at hi
  | some i =>
    have hs : cells.length = i.size := by simp [hq] at hi; omega
    simp [storeVar, sizeOf, typeInfo, hq, Value.cells, hs, this]

section
variable {P : Program} {ops : Array Oper} {rest : List Oper} {o : Oper} {a : Act} {w : World} {Q : Exit → Act → World → Prop}
theorem wpList_store_mid (hgd : o.guard = none) (ty : TypeId) (x y : Operand) (ho : o.op = .store ty x y)
    (g off : Nat) (cells : List Value) (hx : a.eval x = .pointer (some ⟨g, off, none⟩)) (hy : a.eval y = .agg cells.toArray)
    (t : TypeId) (cur : List Value) (hg : Arr w g t cur) (hi : (P.info? ty).map (·.size) = some cells.length) (hold : off + cells.length ≤ cur.length) (h1 : ∀ v ∈ cells, v.oneCell' = true)
    (h : wpList P ops Q rest (a.put o.dst undef) (w.setRow g (over cur off cells).toArray)) : wpList P ops Q (o :: rest) a w :=
  wpList_plain hgd fun _ hK => by
    unfold Oper.wp execOp
    simp only [ho, hx, hy, Instr.storeAt, Instr.sureAddr, Sem.run_bind, Sem.run_pure, Result.andThen_ok, run_storeVar_mid hg hi hold h1]
    exact hK _ _ h
end
theorem exec_load_mid {P : Program} {w : World} {o : Oper} {a : Act} {ty : TypeId} {x : Operand} (ho : o.op = .load ty x) {p : Addr} (hx : a.eval x = .pointer (some p)) {cs : List Value} {d : TypeDesc} (hl : (loadCellsFrom p 0 cs.length #[]).run P w = .ok cs.toArray w)
    (hu : P.underlying ty = some d) (hd : (match d with | .struct _ | .array _ _ => true | _ => false) = true) (hi : (P.info? ty).map (·.size) = some cs.length) : (execOp a.eval o).run P w = .ok (.value (.agg cs.toArray)) w := by
  unfold execOp
  simp only [ho, hx, Instr.loadAt, Instr.sureAddr, Sem.run_bind, Sem.run_pure, Result.andThen_ok, run_loadVar_cells w p ty cs d hl hu hd hi]
theorem Arr.loads_mid {P : Program} {w : World} {b off n : Nat} {t : TypeId} {cs : List Value} (h : Arr w b t cs) (hn : off + n ≤ cs.length) : (loadCellsFrom ⟨b, off, none⟩ 0 n #[]).run P w = .ok ((cs.drop off).take n).toArray w := by
  have hl : ((cs.drop off).take n).length = n := by simp; omega
  have := run_loadCells_list (P := P) (w := w) ⟨b, off, none⟩ ((cs.drop off).take n) (fun j v hv => by
    rw [addr_add]
    rw [List.getElem?_take] at hv
    split at hv
    · rw [List.getElem?_drop] at hv; exact h.cell hv
    · cases hv)
  rw [hl] at this
  exact this
theorem info_sec : (Try.prog.info? 60).map (·.size) = some 64 := by kernel_rfl
theorem info_sec3 : (Try.prog.info? 60).map (fun i => (i.zero, i.size, i.bytes)) = some (some (.agg (List.replicate 64 (.int .u8 0)).toArray), 64, 64) := by kernel_rfl
end Go.Proofs.Ytdopaoajbjodeaa
