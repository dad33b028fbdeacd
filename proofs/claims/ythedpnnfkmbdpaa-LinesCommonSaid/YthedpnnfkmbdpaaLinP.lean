/-
  A table of whole numbers, row by row, each row in a block of its own; where the reference's search ends.
-/
import Derived.Test.YthedpnnfkmbdpaaLinN
namespace Go.Proofs.Ythedpnnfkmbdpaa
open Go.RowKit Go.Shelf

/-- Block b holds the cells cs. -/
def Blk (w : World) (b : Nat) (t : TypeId) (cs : List Value) : Prop := w.heap[b]? = some (.cells cs.toArray t (0, 0))
section
variable {w w' : World} {b : Nat} {t : TypeId} {cs : List Value}
theorem Blk.keep {X : Nat → Obj → Prop} (h : Blk w b t cs) (hk : Keep X w w') (hX : ¬ X b (.cells cs.toArray t (0, 0))) : Blk w' b t cs := hk.block b _ h hX
theorem Blk.ext (h : Blk w b t cs) (hk : Ext w w') : Blk w' b t cs := hk.block b _ h (fun h => h)
theorem Blk.new (w : World) (t : TypeId) (cs : List Value) : Blk (w.alloc (.cells cs.toArray t)) w.heap.size t cs := World.alloc_heap_new w _
theorem Blk.lt (h : Blk w b t cs) : b < w.heap.size := Keep.lt h
theorem Blk.cell (h : Blk w b t cs) {i : Nat} {v : Value} (hv : cs[i]? = some v) : w.cell? ⟨b, i, none⟩ = some v := by
  rw [cell_of_block h]
  simpa using hv
theorem Blk.frozen (h : Blk w b t cs) (i : Nat) : w.frozen? ⟨b, i, none⟩ = false := frozen_of_block h i
theorem Blk.set (h : Blk w b t cs) (i : Nat) (v : Value) : Blk (w.setCell ⟨b, i, none⟩ v) b t (cs.set i v) := by
  unfold Blk at h ⊢
  unfold World.setCell
  simp [Array.getElem?_modify, h]
theorem Blk.other (h : Blk w b t cs) {c i : Nat} {v : Value} (hne : b ≠ c) : Blk (w.setCell ⟨c, i, none⟩ v) b t cs :=
  (heap_setCell_other w ⟨c, i, none⟩ b v hne).trans h
end

def gridC (nB : Nat) (T : Nat → Nat) : List Value := (List.range (nB + 1)).map fun j => .int .i64 (T j : Int)
def outC (p nA nB I : Nat) : List Value := (List.range (nA + 1)).map fun i => if i < I then .slice (some ⟨p + 1 + i, 0, none⟩) (nB + 1) (nB + 1) else .slice none 0 0
theorem gridC_get {nB : Nat} {T : Nat → Nat} {j : Nat} (h : j ≤ nB) : (gridC nB T)[j]? = some (.int .i64 (T j : Int)) := by
  unfold gridC; rw [List.getElem?_map, List.getElem?_range (by omega)]; rfl
theorem outC_get {p nA nB I i : Nat} (h : i < I) (hI : I ≤ nA + 1) : (outC p nA nB I)[i]? = some (.slice (some ⟨p + 1 + i, 0, none⟩) (nB + 1) (nB + 1)) := by
  unfold outC; rw [List.getElem?_map, List.getElem?_range (by omega), Option.map_some, if_pos h]
theorem outC_nil {p nA nB I i : Nat} (h : ¬ i < I) (hI : i < nA + 1) : (outC p nA nB I)[i]? = some (.slice none 0 0) := by
  unfold outC; rw [List.getElem?_map, List.getElem?_range (by omega), Option.map_some, if_neg h]
theorem outC_set {p nA nB I : Nat} : (outC p nA nB I).set I (.slice (some ⟨p + 1 + I, 0, none⟩) (nB + 1) (nB + 1)) = outC p nA nB (I + 1) := by
  refine List.ext_getElem? fun i => ?_
  unfold outC
  rw [List.getElem?_set]
  by_cases hi : i < nA + 1
  · simp only [List.getElem?_map, List.getElem?_range hi, List.length_map, List.length_range, Option.map_some]
    by_cases h : I = i
    · subst h; simp [hi]
    · rw [if_neg h]
      by_cases h2 : i < I
      · rw [if_pos h2, if_pos (by omega)]
      · rw [if_neg h2, if_neg (by omega)]
  · rw [List.getElem?_eq_none (l := List.map _ _) (by simp; omega), List.getElem?_eq_none (l := List.map _ _) (by simp; omega)]
    simp only [List.length_map, List.length_range]
    split
    · rw [if_neg (by omega)]
    · rfl
theorem outC_zero (p nA nB : Nat) : outC p nA nB 0 = List.replicate (nA + 1) (.slice none 0 0) := by
  refine List.ext_getElem? fun i => ?_
  unfold outC
  by_cases hi : i < nA + 1
  · rw [List.getElem?_map, List.getElem?_range hi, Option.map_some, if_neg (by omega), List.getElem?_replicate, if_pos hi]
  · rw [List.getElem?_eq_none (by simp; omega), List.getElem?_eq_none (by simp; omega)]
theorem gridC_zero (nB : Nat) : gridC nB (fun _ => 0) = List.replicate (nB + 1) (.int .i64 0) := by
  refine List.ext_getElem? fun i => ?_
  unfold gridC
  by_cases hi : i < nB + 1
  · rw [List.getElem?_map, List.getElem?_range hi, Option.map_some, List.getElem?_replicate, if_pos hi]; rfl
  · rw [List.getElem?_eq_none (by simp; omega), List.getElem?_eq_none (by simp; omega)]

/-- The table: its rows' headers in block p, its rows behind it. -/
structure Grid (w : World) (p nA nB : Nat) (T : Nat → Nat → Nat) : Prop where
  out : Blk w p 31 (outC p nA nB (nA + 1))
  row : ∀ i, i ≤ nA → Blk w (p + 1 + i) 3 (gridC nB (T i))
def upd2 (T : Nat → Nat → Nat) (i j v : Nat) : Nat → Nat → Nat := fun i' j' => if i' = i ∧ j' = j then v else T i' j'
section
variable {w w' : World} {p nA nB : Nat} {T T' : Nat → Nat → Nat}
theorem Grid.ext (h : Grid w p nA nB T) (hk : Ext w w') : Grid w' p nA nB T := ⟨h.out.ext hk, fun i hi => (h.row i hi).ext hk⟩
theorem Grid.congr (h : Grid w p nA nB T) (he : ∀ i j, i ≤ nA → j ≤ nB → T i j = T' i j) : Grid w p nA nB T' := ⟨h.out, fun i hi => by
  have := h.row i hi
  rwa [show gridC nB (T i) = gridC nB (T' i) from List.map_congr_left (fun j hj => by rw [he i j hi (by have := List.mem_range.1 hj; omega)])] at this⟩
theorem Grid.head (h : Grid w p nA nB T) {i : Nat} (hi : i ≤ nA) : w.cell? ⟨p, i, none⟩ = some (.slice (some ⟨p + 1 + i, 0, none⟩) (nB + 1) (nB + 1)) := h.out.cell (outC_get (by omega) (Nat.le_refl _))
theorem Grid.at (h : Grid w p nA nB T) {i j : Nat} (hi : i ≤ nA) (hj : j ≤ nB) : w.cell? ⟨p + 1 + i, j, none⟩ = some (.int .i64 (T i j : Int)) := (h.row i hi).cell (gridC_get hj)
theorem Grid.set (h : Grid w p nA nB T) {i j : Nat} (hi : i ≤ nA) (v : Nat) : Grid (w.setCell ⟨p + 1 + i, j, none⟩ (.int .i64 (v : Int))) p nA nB (upd2 T i j v) := by
  refine ⟨h.out.other (by omega), fun i' hi' => ?_⟩
  by_cases he : i' = i
  · subst he
    have := (h.row i' hi).set j (.int .i64 (v : Int))
    rwa [show (gridC nB (T i')).set j (.int .i64 (v : Int)) = gridC nB (upd2 T i' j v i') from by
      refine List.ext_getElem? fun k => ?_
      unfold gridC upd2
      rw [List.getElem?_set]
      by_cases hk : k < nB + 1
      · simp only [List.getElem?_map, List.getElem?_range hk, List.length_map, List.length_range, Option.map_some]
        by_cases hjk : j = k
        · subst hjk; simp [hk]
        · rw [if_neg hjk, if_neg (by omega)]
      · rw [List.getElem?_eq_none (l := List.map _ _) (by simp; omega), List.getElem?_eq_none (l := List.map _ _) (by simp; omega)]
        simp only [List.length_map, List.length_range]
        split
        · rw [if_neg (by omega)]
        · rfl] at this
  · have := (h.row i' hi').other (c := p + 1 + i) (i := j) (v := .int .i64 (v : Int)) (by omega)
    rwa [show gridC nB (T i') = gridC nB (upd2 T i j v i') from List.map_congr_left (fun k _ => by unfold upd2; rw [if_neg (fun h => he h.1)])] at this
theorem upd2_upd2 (T : Nat → Nat → Nat) (i j u v : Nat) : upd2 (upd2 T i j u) i j v = upd2 T i j v := by
  funext i' j'
  unfold upd2
  split <;> rfl
theorem upd2_at (T : Nat → Nat → Nat) (i j v : Nat) : upd2 T i j v i j = v := by simp [upd2]
theorem upd2_ne (T : Nat → Nat → Nat) {i j i' j' : Nat} (v : Nat) (h : ¬ (i' = i ∧ j' = j)) : upd2 T i j v i' j' = T i' j' := by unfold upd2; rw [if_neg h]
theorem upd2_self (T : Nat → Nat → Nat) (i j : Nat) : upd2 T i j (T i j) = T := by
  funext i' j'
  unfold upd2
  split
  · rename_i h; rw [h.1, h.2]
  · rfl
end

/-- What stands in the table when the rows behind I, and of row I the places from J on, are reckoned. -/
def grF (a b : List ByteArray) (I J i j : Nat) : Nat := if I + 1 ≤ i ∨ (i = I ∧ J ≤ j) then lcsAt a b i j else 0
def grG (a b : List ByteArray) (I i j : Nat) : Nat := if I ≤ i then lcsAt a b i j else 0
theorem lcsAt_right (a b : List ByteArray) {i j : Nat} (h : b.length ≤ j) : lcsAt a b i j = 0 := by unfold lcsAt; rw [List.drop_eq_nil_of_le h, lcs_nil_right]
theorem lcsAt_left (a b : List ByteArray) {i j : Nat} (h : a.length ≤ i) : lcsAt a b i j = 0 := by unfold lcsAt; rw [List.drop_eq_nil_of_le h, lcs_nil_left]
theorem grF_full (a b : List ByteArray) {I i j nB : Nat} (hb : b.length = nB) : grG a b (I + 1) i j = grF a b I nB i j := by
  unfold grF grG
  by_cases h : I + 1 ≤ i
  · rw [if_pos h, if_pos (.inl h)]
  · rw [if_neg h]
    split
    · rw [lcsAt_right a b (by omega)]
    · rfl
theorem grF_zero (a b : List ByteArray) {I i j : Nat} : grF a b I 0 i j = grG a b I i j := by
  unfold grF grG
  by_cases h : I ≤ i
  · rw [if_pos h, if_pos (by omega)]
  · rw [if_neg h, if_neg (by omega)]
theorem grG_full (a b : List ByteArray) {I i j : Nat} (hi : a.length ≤ I) : grG a b I i j = 0 := by
  unfold grG
  split
  · exact lcsAt_left a b (by omega)
  · rfl
theorem grG_zero (a b : List ByteArray) {i j : Nat} : grG a b 0 i j = lcsAt a b i j := by unfold grG; rw [if_pos (Nat.zero_le _)]
theorem grF_step (a b : List ByteArray) {I j i' j' : Nat} : upd2 (grF a b I (j + 1)) I j (lcsAt a b I j) i' j' = grF a b I j i' j' := by
  unfold upd2 grF
  by_cases h : i' = I ∧ j' = j
  · obtain ⟨rfl, rfl⟩ := h
    rw [if_pos ⟨rfl, rfl⟩, if_pos (.inr ⟨rfl, Nat.le_refl _⟩)]
  · rw [if_neg h]
    by_cases h2 : I + 1 ≤ i' ∨ (i' = I ∧ j + 1 ≤ j')
    · rw [if_pos h2, if_pos (by omega)]
    · rw [if_neg h2, if_neg (by omega)]

/-- Whether place m of b serves. -/
def serves (a b : List ByteArray) (i : Nat) (x : ByteArray) (W m : Nat) : Prop := b[m]? = some x ∧ lcsAt a b (i + 1) (m + 1) + 1 = W
theorem begins_no {a b : List ByteArray} {i j : Nat} {x : ByteArray} (h : ∀ m, j ≤ m → m < b.length → ¬ serves a b i x (lcsAt a b i j) m) : beginsV a b i j x = none := by
  unfold beginsV
  refine beginsL_no fun k hk hh => ?_
  have hk' : j + k < b.length := by simp at hk; omega
  refine h (j + k) (by omega) hk' ⟨?_, ?_⟩
  · rw [List.getElem?_eq_getElem hk']; rw [hh.1]; simp
  · rw [← hh.2]; unfold lcsAt; rw [List.drop_drop]; rfl
theorem begins_yes {a b : List ByteArray} {i j k : Nat} {x : ByteArray} (hjk : j ≤ k) (hs : serves a b i x (lcsAt a b i j) k) (h : ∀ m, j ≤ m → m < k → ¬ serves a b i x (lcsAt a b i j) m) : beginsV a b i j x = some (k - j) := by
  have hkb : k < b.length := (List.getElem?_eq_some_iff.1 hs.1).1
  unfold beginsV
  refine beginsL_of (by simp; omega) ⟨?_, ?_⟩ (fun m hm hh => ?_)
  · have := hs.1
    rw [List.getElem?_eq_getElem hkb] at this
    have := Option.some.inj this
    rw [← this, List.getElem_drop]
    congr 1; omega
  · have := hs.2
    unfold lcsAt at this ⊢
    rw [List.drop_drop, show j + (k - j + 1) = k + 1 by omega]
    exact this
  · have hm' : j + m < b.length := by omega
    refine h (j + m) (by omega) (by omega) ⟨?_, ?_⟩
    · rw [List.getElem?_eq_getElem hm']; rw [hh.1]; simp
    · rw [← hh.2]; unfold lcsAt; rw [List.drop_drop]; rfl

/-- make of elements of one cell: the new world outright. -/
theorem wpList_make_at {P : Program} {w : World} {ops : Array Oper} {rest : List Oper} {o : Oper} {a : Act} {Q : Exit → Act → World → Prop}
    (hg : o.guard = none) (l c : Operand) (t : TypeId) (hop : o.op = Op.makeSlice t l c) (e : TypeId) (i : TypeInfo) (z : Value) (h1 : P.underlying t = some (.slice e)) (h2 : P.info? e = some i) (h3 : i.zero = some z) (h4 : i.size = 1) (h5 : z.cells = #[z])
    (kl kc : IntKind) (L C : Int) (n : Nat) (hl : a.eval l = .int kl L) (hc : a.eval c = .int kc C) (hL : L = (n : Int)) (hC : C = (n : Int)) (b2 : i.bytes * n ≤ 281474976710656) (b3 : n ≤ maxLen) (cs : List Value) (hcs : cs = List.replicate n z)
    (hK : wpList P ops Q rest (a.put o.dst (.slice (some ⟨w.heap.size, 0, none⟩) n n)) (w.alloc (.cells cs.toArray e))) :
    wpList P ops Q (o :: rest) a w := by
  refine wpList_plain hg fun K hK' => ?_
  have hr := run_make (P := P) (w := w) t e i z h1 h2 h3 kl kc n n (by omega) (Int.le_refl _) (by
    have h : ((i.bytes * n : Nat) : Int) ≤ 281474976710656 := by omega
    rwa [Int.natCast_mul] at h) (by
    have h := b3
    simp [maxLen] at h
    omega)
  simp only [Int.toNat_natCast] at hr
  rw [h4, Nat.mul_one, h5, show madeCells #[z] n = (List.replicate n z).toArray from by rw [← toList_madeCells_one]] at hr
  rw [← hcs] at hr
  subst hL
  subst hC
  unfold Oper.wp
  simp [execOp, hop, hl, hc, hr, Result.andThen]
  exact hK' _ _ hK
theorem info_slint : (Try.prog.info? 31).map (fun i => (i.zero, i.size, i.bytes)) = some (some (.slice none 0 0), 1, 24) := by kernel_rfl
end Go.Proofs.Ythedpnnfkmbdpaa
