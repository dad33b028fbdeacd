/-
  diff3.Merge.
-/
import Derived.Test.YthedpnnfkmbdpaaDfG
namespace Go.Proofs.Ythedpnnfkmbdpaa
open Go.RowKit Go.Shelf

attribute [local go_sem] Oper.semAt_some

theorem slice_mid (a : Option Addr) (n c lo hi : Nat) (h1 : lo ≤ hi) (h2 : hi ≤ n) (h3 : n ≤ c) (w : World) :
    (Instr.sliceAt 22 (.slice a n c) (some (.int .i64 (lo : Int))) (some (.int .i64 (hi : Int))) none).run Try.prog w = .ok (.slice (if c = lo then a else Option.map (fun x => x.add lo) a) (hi - lo) (c - lo)) w := by
  have h4 : hi ≤ c := by omega
  simp [Instr.sliceAt, Instr.slice, Instr.sliceBounds, Instr.sliceBound, Result.andThen, asIntOf, h1, h4]
theorem exec_slice' {P : Program} {w : World} {o : Oper} {a : Act} {ty : TypeId} {p : Operand} {lo hi mx : Option Operand} {v : Value} (ho : o.op = .slice ty p lo hi mx)
    (h : (Instr.sliceAt ty (a.eval p) (lo.map a.eval) (hi.map a.eval) (mx.map a.eval)).run P w = .ok v w) : (execOp a.eval o).run P w = .ok (.value v) w := by
  unfold execOp
  simp only [ho, Sem.run_bind, h, Result.andThen_ok, Sem.run_pure]
theorem exec_index' {P : Program} {w : World} {o : Oper} {a : Act} {ty : TypeId} {p i : Operand} {v : Value} (ho : o.op = .indexAddr ty p i)
    (h : (Instr.indexAt ty (a.eval p) (a.eval i)).run P w = .ok v w) : (execOp a.eval o).run P w = .ok (.value v) w := by
  unfold execOp
  simp [ho, h]
theorem index_strs (b off n c k : Nat) (hk : k < n) (w : World) : (Instr.indexAt 22 (.slice (some ⟨b, off, none⟩) n c) (.int .i64 (k : Int))).run Try.prog w = .ok (.pointer (some ⟨b, off + k, none⟩)) w := by
  have h1 : (0 : Int) ≤ (k : Int) ∧ (k : Int) < (n : Int) := by omega
  simp [Instr.indexAt, asIntOf, Result.andThen, h1, addr_add, hk]
theorem row_seg {a : Option Addr} {n c lo hi : Nat} {l : List ByteArray} {w : World} (h : Row 1 w a n c (l.map Value.string)) (h1 : lo ≤ hi) (h2 : hi ≤ n) : Row 1 w (if c = lo then a else Option.map (fun x => x.add lo) a) (hi - lo) (c - lo) ((segL l lo hi).map Value.string) := by
  have := h.cut h1 h2
  unfold segL
  rw [List.map_take, List.map_drop]
  simpa using this

theorem foldM_succ {x a b : List ByteArray} {st : (Nat × Nat × Nat) × List (Hunk ByteArray)} {l : List (Nat × Nat × Nat)} {k : Nat} {t : Nat × Nat × Nat} (h : l[k]? = some t) : foldM x a b st (l.take (k + 1)) = stepL x a b (foldM x a b st (l.take k)) t := by
  unfold foldM
  rw [List.take_add_one, h, List.foldl_append]
  rfl
theorem flat_step {x a b : List ByteArray} {st : (Nat × Nat × Nat) × List (Hunk ByteArray)} {t : Nat × Nat × Nat} (w1 : st.1.1 ≤ t.1) (w2 : st.1.2.1 ≤ t.2.1) (w3 : st.1.2.2 ≤ t.2.2)
    (hal : (∃ s, x[t.1]? = some s ∧ a[t.2.1]? = some s ∧ b[t.2.2]? = some s) ∨ t = (x.length, a.length, b.length)) (hF : Flat x a b st) : Flat x a b (stepL x a b st t) := by
  obtain ⟨h1, h2, h3⟩ := hF
  obtain ⟨b1, b2, b3⟩ := flat_between st.2 (segL x st.1.1 t.1) (segL a st.1.2.1 t.2.1) (segL b st.1.2.2 t.2.2)
  rw [h1, take_seg x w1] at b1
  rw [h2, take_seg a w2] at b2
  rw [h3, take_seg b w3] at b3
  rcases hal with ⟨s, s1, s2, s3⟩ | rfl
  · unfold Flat stepL lineAt
    simp only [s1]
    refine ⟨?_, ?_, ?_⟩
    · rw [flat_line (fun h => h.x) (fun _ _ _ _ _ => rfl) (fun _ => rfl), b1, take_snoc s1]
    · rw [flat_line (fun h => h.a) (fun _ _ _ _ _ => rfl) (fun _ => rfl), b2, take_snoc s2]
    · rw [flat_line (fun h => h.b) (fun _ _ _ _ _ => rfl) (fun _ => rfl), b3, take_snoc s3]
  · unfold Flat stepL lineAt
    simp only [List.getElem?_eq_none (Nat.le_refl x.length)]
    refine ⟨?_, ?_, ?_⟩
    · rw [b1, List.take_of_length_le (by simp), List.take_of_length_le (by simp)]
    · rw [b2, List.take_of_length_le (by simp), List.take_of_length_le (by simp)]
    · rw [b3, List.take_of_length_le (by simp), List.take_of_length_le (by simp)]
theorem between_len (m : List (Hunk ByteArray)) (x a b : List ByteArray) : (betweenL m x a b).length ≤ m.length + 1 := by
  unfold betweenL
  split
  · simp
  · omega
theorem line_len (m : List (Hunk ByteArray)) (s : ByteArray) : (lineL m s).length ≤ m.length + 1 := by
  unfold lineL
  split
  · simp
  · split
    · simp
    · simp
theorem foldM_ok {x a b : List ByteArray} : ∀ (l : List (Nat × Nat × Nat)) (st : (Nat × Nat × Nat) × List (Hunk ByteArray)) (k : Nat), k ≤ l.length → Ok3 x a b st.1 l → Flat x a b st → Ok3 x a b (foldM x a b st (l.take k)).1 (l.drop k) ∧ Flat x a b (foldM x a b st (l.take k)) ∧ (foldM x a b st (l.take k)).2.length ≤ st.2.length + 2 * k
  | l, st, 0, _, h1, h2 => by simpa [foldM] using ⟨h1, h2⟩
  | [], st, k + 1, hk, _, _ => by simp at hk
  | t :: l, st, k + 1, hk, hok, hF => by
    obtain ⟨w1, w2, w3, l1, l2, l3, hal, hok2⟩ := hok
    obtain ⟨i1, i2, i3⟩ := foldM_ok l (stepL x a b st t) k (by simpa using hk) hok2 (flat_step w1 w2 w3 hal hF)
    refine ⟨i1, i2, Nat.le_trans i3 ?_⟩
    have h1 := between_len st.2 (segL x st.1.1 t.1) (segL a st.1.2.1 t.2.1) (segL b st.1.2.2 t.2.2)
    have h2 : (stepL x a b st t).2.length ≤ (betweenL st.2 (segL x st.1.1 t.1) (segL a st.1.2.1 t.2.1) (segL b st.1.2.2 t.2.2)).length + 1 := by
      unfold stepL lineAt
      simp only []
      split
      · omega
      · exact line_len _ _
    omega
theorem flat_le {f : Hunk ByteArray → List ByteArray} {hs : List (Hunk ByteArray)} {h : Hunk ByteArray} (hm : h ∈ hs) : (f h).length ≤ (hs.flatMap f).length := by
  induction hs with
  | nil => cases hm
  | cons g hs ih =>
    rw [List.flatMap_cons, List.length_append]
    rcases List.mem_cons.1 hm with rfl | hm
    · omega
    · have := ih hm; omega

theorem exec_max3 {P : Program} {w : World} {o : Oper} {a : Act} {p q r : Operand} {ts : Array TypeId} {x y z : Nat} {M : Int} (ho : o.op = .call { callee := .builtin .max, args := #[p, q, r], argTypes := ts }) (hp : a.eval p = .int .i64 (x : Int)) (hq : a.eval q = .int .i64 (y : Int)) (hr : a.eval r = .int .i64 (z : Int))
    (hM : ((max (max x y) z : Nat) : Int) = M) : (execOp a.eval o).run P w = .ok (.value (.int .i64 M)) w := by
  subst hM
  simp [execOp, ho, resolve, invoke, builtin, hp, hq, hr, Builtin.max_, Builtin.max2]
  repeat' split
  all_goals first | omega | (simp [Result.andThen]; omega) | (simp [Result.andThen]; split <;> omega)
/-- An operation, guarded or not, whose run is given. -/
theorem wpList_val2 {P : Program} {ops : Array Oper} {rest : List Oper} {o : Oper} {a : Act} {w : World} {Q : Exit → Act → World → Prop} {v : Value} (hr : (execOp a.eval o).run P w = .ok (.value v) w) (hw : Region.wanted o (yielded ops a.tmps) = true) (h : wpList P ops Q rest (a.put o.dst v) w) : wpList P ops Q (o :: rest) a w :=
  wpList_step fun K hK => by
    rw [if_pos hw]
    unfold Oper.wp
    rw [hr]
    exact hK _ _ h

theorem wpListIn_store_row2 {F : Fence} {n : Nat} {P : Program} {ops : Array Oper} {rest : List Oper} {o : Oper} {a : Act} {w : World} {Q : Exit → Act → World → Prop} (hgd : o.guard = none) (ty : TypeId) (x y : Operand) (ho : o.op = .store ty x y)
    (g : Nat) (cells : Array Value) (hx : a.eval x = .pointer (some ⟨g, 0, none⟩)) (hy : a.eval y = .agg cells)
    (t : TypeId) (old : Array Value) (hg : w.heap[g]? = some (.cells old t (0, 0))) (hi : (P.info? ty).map (·.size) = some cells.size)
    (hold : old.size = cells.size) (h1 : cells.all (·.oneCell') = true)
    (h : wpListIn F n P ops Q rest (a.put o.dst undef) (w.setRow g cells)) : wpListIn F n P ops Q (o :: rest) a w := by
  refine wpListIn_plain hgd fun K hK => ?_
  unfold Oper.wpIn
  refine ⟨?_, ?_⟩
  · simp [Oper.about, ho]
  · rw [Oper.semAt_plain F _ _ (by rw [ho]; intro c hc'; cases hc')]
    unfold execOp
    simp only [ho, hx, hy, Instr.storeAt, Instr.sureAddr, Sem.run_bind, Sem.run_pure, Result.andThen_ok, run_storeVar_row w g t ty old cells hg hi hold h1]
    exact hK _ _ h

/-- Hunks in memory. -/
def HsIn (w : World) (v : Value) (hv : List HV) (hs : List (Hunk ByteArray)) : Prop :=
  w.ownsRow 0 44 4 v hs.length (hv.flatMap HV.cells) ∧ hv.length = hs.length ∧ ∀ (i : Nat) (h : Hunk ByteArray) (g : HV), hs[i]? = some h → hv[i]? = some g → HIn w g h
theorem HsIn.ext {w w' : World} {v : Value} {hv : List HV} {hs : List (Hunk ByteArray)} (h : HsIn w v hv hs) (hE : Ext w w') : HsIn w' v hv hs :=
  ⟨Ext.owns hE h.1, h.2.1, fun i a g ha hg => (h.2.2 i a g ha hg).keep hE (fun _ _ _ h => h)⟩

set_option maxRecDepth 20000 in
set_option maxHeartbeats 16000000 in
theorem merge_any (a1 a2 a3 : Option Addr) (n1 c1 n2 c2 n3 c3 : Nat) (x a b : List ByteArray) (w : World) (r1 : Row 1 w a1 n1 c1 (x.map Value.string)) (r2 : Row 1 w a2 n2 c2 (a.map Value.string)) (r3 : Row 1 w a3 n3 c3 (b.map Value.string)) (l1 : n1 ≤ 400) (l2 : n2 ≤ 400) (l3 : n3 ≤ 400) :
    Calls Try.prog 24 #[.slice a1 n1 c1, .slice a2 n2 c2, .slice a3 n3 c3] w fun e w' => ∃ v hv, e = .returned v ∧ HsIn w' v hv (mergeL x a b) ∧ Ext w w' := by
  have HX : Hid (x.length = n1) := Lib.hid (by have := r1.2.2.1; simpa using this)
  have HA : Hid (a.length = n2) := Lib.hid (by have := r2.2.2.1; simpa using this)
  have HB : Hid (b.length = n3) := Lib.hid (by have := r3.2.2.1; simpa using this)
  refine calls_cps fun R hR => ?_
  have HR := Lib.hid hR
  clear hR
  refine calls_marks Try.func24 rfl ?_
  simp only [Try.ntmps24, List.size_toArray, List.length_cons, List.length_nil, Nat.reduceAdd, Nat.reduceSub, Array.replicate_succ, Array.replicate_zero, List.push_toArray, List.append_toArray, List.nil_append, List.cons_append]
  obtain ⟨W0, hW0⟩ : ∃ y, (((((w.alloc (.cells #[.slice a1 n1 c1] 22)).alloc (.cells #[.slice a2 n2 c2] 22)).alloc (.cells #[.slice a3 n3 c3] 22)).alloc (.cells #[.slice none 0 0] 67)).alloc (.cells #[.pointer (some ⟨w.heap.size + 1 + 1 + 1, 0, none⟩)] 65)).alloc (.cells #[.int .i64 0, .int .i64 0, .int .i64 0] 69) = y := ⟨_, rfl⟩
  have HFA : Hid (Ext w W0 ∧ W0.heap.size = w.heap.size + 6 ∧ Boxed W0 w.heap.size 22 (.slice a1 n1 c1) ∧ Boxed W0 (w.heap.size + 1) 22 (.slice a2 n2 c2) ∧ Boxed W0 (w.heap.size + 1 + 1) 22 (.slice a3 n3 c3) ∧
      Arr W0 (w.heap.size + 1 + 1 + 1) 67 [.slice none 0 0] ∧ Boxed W0 (w.heap.size + 1 + 1 + 1 + 1) 65 (.pointer (some ⟨w.heap.size + 1 + 1 + 1, 0, none⟩)) ∧ Arr W0 (w.heap.size + 1 + 1 + 1 + 1 + 1) 69 [.int .i64 0, .int .i64 0, .int .i64 0]) := by
    have e : ∀ (A : World) (o : Obj), Ext A (A.alloc o) := fun A o => (Keep.refl _ A).alloc o
    have k1 := World.alloc_heap_new w (.cells #[.slice a1 n1 c1] 22)
    have k2 := World.alloc_heap_new (w.alloc (.cells #[.slice a1 n1 c1] 22)) (.cells #[.slice a2 n2 c2] 22)
    have k3 := World.alloc_heap_new ((w.alloc (.cells #[.slice a1 n1 c1] 22)).alloc (.cells #[.slice a2 n2 c2] 22)) (.cells #[.slice a3 n3 c3] 22)
    have k4 := World.alloc_heap_new (((w.alloc (.cells #[.slice a1 n1 c1] 22)).alloc (.cells #[.slice a2 n2 c2] 22)).alloc (.cells #[.slice a3 n3 c3] 22)) (.cells #[.slice none 0 0] 67)
    have k5 := World.alloc_heap_new ((((w.alloc (.cells #[.slice a1 n1 c1] 22)).alloc (.cells #[.slice a2 n2 c2] 22)).alloc (.cells #[.slice a3 n3 c3] 22)).alloc (.cells #[.slice none 0 0] 67)) (.cells #[.pointer (some ⟨w.heap.size + 1 + 1 + 1, 0, none⟩)] 65)
    have k6 := World.alloc_heap_new (((((w.alloc (.cells #[.slice a1 n1 c1] 22)).alloc (.cells #[.slice a2 n2 c2] 22)).alloc (.cells #[.slice a3 n3 c3] 22)).alloc (.cells #[.slice none 0 0] 67)).alloc (.cells #[.pointer (some ⟨w.heap.size + 1 + 1 + 1, 0, none⟩)] 65)) (.cells #[.int .i64 0, .int .i64 0, .int .i64 0] 69)
    simp only [World.size_alloc] at k2 k3 k4 k5 k6
    have up : ∀ {A : World} {b : Nat} {o : Obj} (o' : Obj), A.heap[b]? = some o → (A.alloc o').heap[b]? = some o := fun o' h => (e _ o').block _ _ h (fun h => h)
    rw [← hW0]
    exact ⟨(((((e _ _).trans (e _ _)).trans (e _ _)).trans (e _ _)).trans (e _ _)).trans (e _ _), by simp only [World.size_alloc], up _ (up _ (up _ (up _ (up _ k1)))), up _ (up _ (up _ (up _ k2))), up _ (up _ (up _ k3)), up _ (up _ k4), up _ k5, k6⟩
  have HW0 := Lib.hid hW0
  clear hW0
  obtain ⟨MX, hMX⟩ : ∃ M : Int, ((max (max n1 n2) n3 : Nat) : Int) = M := ⟨_, rfl⟩
  have hmx : ¬ (400 < MX) := by omega
  have HMX := Lib.hid hMX
  clear hMX
  go_wp2_with (first | fail | (refine wpList_val2 (exec_max3 rfl rfl rfl rfl HMX.out) rfl ?_))
  refine (anchors_any a1 a2 a3 n1 c1 n2 c2 n3 c3 _).mono ?_
  rintro e W ⟨rfl, hW⟩
  rw [HW0.out] at hW
  obtain ⟨E0, hs0, q1, q2, q3, q4, q5, q6⟩ := HFA.out
  have E1 : Ext W0 W := by rw [hW]; exact (((Keep.refl _ _).alloc _).alloc _).alloc _
  have hsW : W.heap.size = w.heap.size + 9 := by rw [hW]; simp only [World.size_alloc]; omega
  have z1 : Boxed W (w.heap.size + 6) 22 (.slice a1 n1 c1) := by
    have := World.alloc_heap_new W0 (.cells #[.slice a1 n1 c1] 22)
    rw [hs0] at this
    rw [hW]; exact Ext.boxed ((Keep.refl _ _).alloc _) (Ext.boxed ((Keep.refl _ _).alloc _) this)
  have z2 : Boxed W (w.heap.size + 7) 22 (.slice a2 n2 c2) := by
    have := World.alloc_heap_new (W0.alloc (.cells #[.slice a1 n1 c1] 22)) (.cells #[.slice a2 n2 c2] 22)
    rw [World.size_alloc, hs0] at this
    rw [hW]; exact Ext.boxed ((Keep.refl _ _).alloc _) this
  have z3 : Boxed W (w.heap.size + 8) 22 (.slice a3 n3 c3) := by
    have := World.alloc_heap_new ((W0.alloc (.cells #[.slice a1 n1 c1] 22)).alloc (.cells #[.slice a2 n2 c2] 22)) (.cells #[.slice a3 n3 c3] 22)
    rw [World.size_alloc, World.size_alloc, hs0] at this
    rw [hW]; exact this
  simp only [World.size_alloc]
  have EW := E0.trans E1
  replace q1 := Ext.boxed E1 q1
  replace q2 := Ext.boxed E1 q2
  replace q3 := Ext.boxed E1 q3
  replace q4 := q4.ext E1
  replace q5 := Ext.boxed E1 q5
  replace q6 := q6.ext E1
  clear HFA HW0 hW E0 E1 hs0
  go_wp2_with fail
  have hit := anchors1_iter (w.heap.size + 6) (w.heap.size + 7) (w.heap.size + 8) a1 a2 a3 n1 c1 n2 c2 n3 c3 x a b l1 l2 l3
  obtain ⟨L, hL⟩ : ∃ L, anchL x a b = L := ⟨_, rfl⟩
  have hok := anch_ok x a b
  rw [hL] at hit hok
  have HML : Hid (mergeL x a b = (foldM x a b ((0, 0, 0), []) (L.take L.length)).2) := Lib.hid (by unfold mergeL; rw [hL, List.take_length])
  have HFO : Hid (∀ k, k ≤ L.length → Ok3 x a b (foldM x a b ((0, 0, 0), []) (L.take k)).1 (L.drop k) ∧ Flat x a b (foldM x a b ((0, 0, 0), []) (L.take k)) ∧ (foldM x a b ((0, 0, 0), []) (L.take k)).2.length ≤ 2 * k) := Lib.hid (fun k hk => by
    have := foldM_ok L ((0, 0, 0), []) k hk hok ⟨rfl, rfl, rfl⟩
    simpa using this)
  clear hok
  have hLb : L.length ≤ 401 := by
    rw [← hL]
    unfold anchL midL
    rw [List.length_append, List.length_singleton]
    have h1 := List.length_filterMap_le (fun u => (lookL (commonL x 0 b 0) u.1).map fun k => (u.1, u.2, k)) (commonL x 0 a 0)
    rw [commonL_length] at h1
    have h2 := lcs_le_length x a
    have := HX.out
    omega
  clear hL
  refine rangeT_wp rfl (enters_of Try.func41 (by kernel_rfl) rfl) hit
    (fun b h => by rcases h with rfl | rfl | rfl <;> omega)
    (fun _ _ _ ⟨_, _, h⟩ => by rw [h]; rfl) (fun A hA => ⟨Ext.boxed hA z1, Ext.boxed hA z2, Ext.boxed hA z3, (r1.ext EW).ext hA, (r2.ext EW).ext hA, (r3.ext EW).ext hA⟩)
    (fun T k A => ∃ v hv, MIn (fun b => b = w.heap.size + 1 + 1 + 1 ∨ T ≤ b) A (w.heap.size + 1 + 1 + 1) v hv (foldM x a b ((0, 0, 0), []) (L.take k)).2 ∧
      Arr A (w.heap.size + 1 + 1 + 1 + 1 + 1) 69 [.int .i64 ((foldM x a b ((0, 0, 0), []) (L.take k)).1.1 : Int), .int .i64 ((foldM x a b ((0, 0, 0), []) (L.take k)).1.2.1 : Int), .int .i64 ((foldM x a b ((0, 0, 0), []) (L.take k)).1.2.2 : Int)] ∧
      Boxed A (w.heap.size + 1 + 1 + 1 + 1) 65 (.pointer (some ⟨w.heap.size + 1 + 1 + 1, 0, none⟩)) ∧
      Boxed A w.heap.size 22 (.slice a1 n1 c1) ∧ Boxed A (w.heap.size + 1) 22 (.slice a2 n2 c2) ∧ Boxed A (w.heap.size + 1 + 1) 22 (.slice a3 n3 c3) ∧ Ext w A ∧ W.heap.size ≤ A.heap.size)
    (fun T k A B ⟨v, hv, h1, h2, h3, h4, h5, h6, h7, h8⟩ hk => ⟨v, hv, h1.keep hk (fun _ h => by rcases h with h | h; exact h; cases h.2) (fun _ _ _ h => by rcases h with h | h; exact h; cases h.2) (fun _ _ _ h => by rcases h with h | h; exact h; cases h.2),
      h2.keep hk (fun h => by rcases h with h | h; exact h; cases h.2), hk.boxed_turn h3 id, hk.boxed_turn h4 id, hk.boxed_turn h5 id, hk.boxed_turn h6 id, h7.then_turn hk (by omega) (fun _ _ h _ => h), Nat.le_trans h8 hk.size⟩)
    (fun A hk => ⟨.slice none 0 0, [], ⟨q4.keep hk (fun h => by rcases h with h | h; exact h; cases h.2), .inl rfl, World.ownsRow_nil _ _ _ _, fun k hk => by simp [Value.ownBlock] at hk, rfl, fun i h g hh _ => by simp [foldM] at hh, List.Pairwise.nil, fun k hk => by simp at hk⟩,
      q6.keep hk (fun h => by rcases h with h | h; exact h; cases h.2), hk.boxed_turn q5 id, hk.boxed_turn q1 id, hk.boxed_turn q2 id, hk.boxed_turn q3 id, EW.then_turn hk (by omega) (fun _ _ h _ => h), hk.size⟩) ?round ?done
  case round =>
    rintro l' T k A args KN hT1 hT2 hkN ⟨v, hv, h1, h2, h3, h4, h5, h6, h7, h8⟩ ⟨t, ht, rfl⟩ hKN
    clear hit z1 z2 z3 q1 q2 q3 q4 q5 q6 EW HR HML
    obtain ⟨ok, hfl, hln⟩ := HFO.out k (by omega)
    have hst := foldM_succ (x := x) (a := a) (b := b) (st := ((0, 0, 0), [])) ht
    have hdr : L.drop k = t :: L.drop (k + 1) := by
      obtain ⟨h, rfl⟩ := List.getElem?_eq_some_iff.1 ht
      exact List.drop_eq_getElem_cons h
    rw [hdr] at ok
    obtain ⟨st, hste⟩ : ∃ st, foldM x a b ((0, 0, 0), []) (L.take k) = st := ⟨_, rfl⟩
    rw [hste] at h1 h2 ok hfl hln hst
    obtain ⟨⟨w1, w2, w3⟩, hs⟩ := st
    obtain ⟨t1, t2, t3⟩ := t
    obtain ⟨o1, o2, o3, b1, b2, b3, hal, _⟩ := ok
    simp only at o1 o2 o3 b1 b2 b3 h1 h2
    rw [HX.out] at b1
    rw [HA.out] at b2
    rw [HB.out] at b3
    have HST := Lib.hid hst
    have HFL := Lib.hid hfl
    clear hst hfl hdr ht hste
    gi_wp2
    refine ⟨Keep.of_ext ((Keep.refl _ A).alloc _), fun C hC => ?_⟩
    have eA : Ext A (A.alloc (.cells #[.int .i64 (t1 : Int), .int .i64 (t2 : Int), .int .i64 (t3 : Int)] 69)) := (Keep.refl _ A).alloc _
    have tn : ∀ {B b : Nat} {o : Obj}, o.isCells = true → ¬ turn B (fun _ => False) b o := fun ho h => by rcases h with h | h; exact h; rw [ho] at h; cases h.2
    have z10 := (Arr.new A 69 [.int .i64 (t1 : Int), .int .i64 (t2 : Int), .int .i64 (t3 : Int)]).keep hC (tn rfl)
    replace h1 := (h1.ext eA).keep hC (fun _ => tn rfl) (fun _ _ _ => tn rfl) (fun _ _ _ => tn rfl)
    replace h2 := (h2.ext eA).keep hC (tn rfl)
    replace h3 := hC.boxed_turn (Ext.boxed eA h3) id
    replace h4 := hC.boxed_turn (Ext.boxed eA h4) id
    replace h5 := hC.boxed_turn (Ext.boxed eA h5) id
    replace h6 := hC.boxed_turn (Ext.boxed eA h6) id
    replace h7 := (h7.trans eA).then_turn hC (by omega) (fun _ _ h _ => h)
    have hAs := hT2
    replace hT2 := Nat.le_trans hT2 (Nat.le_trans eA.size hC.size)
    replace h8 := Nat.le_trans h8 (Nat.le_trans eA.size hC.size)
    have g1 := h3.cell
    have g2 := h4.cell
    have g3 := h5.cell
    have g4 := h6.cell
    have g5 := h2.cell (i := 0) rfl
    have g6 := h2.cell (i := 1) rfl
    have g7 := h2.cell (i := 2) rfl
    have g8 := z10.cell (i := 0) rfl
    have g9 := z10.cell (i := 1) rfl
    have g10 := z10.cell (i := 2) rfl
    have hp10l := z10.lt
    obtain ⟨p10, hp10⟩ : ∃ p, A.heap.size = p := ⟨_, rfl⟩
    rw [hp10] at z10 g8 g9 g10 hAs hp10l ⊢
    have u1 := row_seg (r1.ext h7) o1 b1
    have u2 := row_seg (r2.ext h7) o2 b2
    have u3 := row_seg (r3.ext h7) o3 b3
    have m1 := r1.1
    have m2 := r2.1
    have m3 := r3.1
    obtain ⟨d1, hd1⟩ : ∃ y, (if c1 = w1 then a1 else Option.map (fun x => x.add w1) a1) = y := ⟨_, rfl⟩
    obtain ⟨d2, hd2⟩ : ∃ y, (if c2 = w2 then a2 else Option.map (fun x => x.add w2) a2) = y := ⟨_, rfl⟩
    obtain ⟨d3, hd3⟩ : ∃ y, (if c3 = w3 then a3 else Option.map (fun x => x.add w3) a3) = y := ⟨_, rfl⟩
    rw [hd1] at u1
    rw [hd2] at u2
    rw [hd3] at u3
    have D1 := Lib.hid hd1
    have D2 := Lib.hid hd2
    have D3 := Lib.hid hd3
    have H1 := Lib.hid h1
    clear eA tn hC hd1 hd2 hd3 hp10 h1
    gi_wp2
    have hD : ∀ q : FY.At (fun _ _ => False) C.drew, Ext C q.w := fun q => ((Keep.refl _ C).drew).trans q.ext
    have e1 := fun q => Ext.cell (hD q) g1
    have e2 := fun q => Ext.cell (hD q) g2
    have e3 := fun q => Ext.cell (hD q) g3
    have e4 := fun q => Ext.cell (hD q) g4
    have e5 := fun q => Ext.cell (hD q) g5
    have e6 := fun q => Ext.cell (hD q) g6
    have e7 := fun q => Ext.cell (hD q) g7
    have e8 := fun q => Ext.cell (hD q) g8
    have e9 := fun q => Ext.cell (hD q) g9
    have e10 := fun q => Ext.cell (hD q) g10
    refine FY.wpIn_flow (X := fun k o => (k = w.heap.size + 1 + 1 + 1 ∨ T ≤ k) ∧ MT o) (0 :: 1 :: 2 :: 3 :: 4 :: 5 :: 6 :: 7 :: 8 :: 9 :: 10 :: 11 :: 12 :: 13 :: 14 :: 15 :: 16 :: 17 :: 18 :: 19 :: [])
      (fun n => if n = 19 then .bar else .reads) (fun n => by split <;> simp) (by kernel_rfl) (by kernel_rfl) (by kernel_rfl) ?_
    iterate 6 (refine FY.flow_r rfl rfl rfl ?_; go_big_quiet_step (fail); refine wpQuiet_nil ?_)
    refine FY.flow_v (v := .slice d1 (t1 - w1) (c1 - w1)) rfl rfl rfl (fun w' _ => exec_slice' rfl (by rw [← D1.out]; exact slice_mid a1 n1 c1 w1 t1 o1 b1 m1 w')) ?_
    simp only [Act.put, List.setIfInBounds_toArray, List.set_cons_succ, List.set_cons_zero]
    iterate 5 (refine FY.flow_r rfl rfl rfl ?_; go_big_quiet_step (fail); refine wpQuiet_nil ?_)
    refine FY.flow_v (v := .slice d2 (t2 - w2) (c2 - w2)) rfl rfl rfl (fun w' _ => exec_slice' rfl (by rw [← D2.out]; exact slice_mid a2 n2 c2 w2 t2 o2 b2 m2 w')) ?_
    simp only [Act.put, List.setIfInBounds_toArray, List.set_cons_succ, List.set_cons_zero]
    iterate 5 (refine FY.flow_r rfl rfl rfl ?_; go_big_quiet_step (fail); refine wpQuiet_nil ?_)
    refine FY.flow_v (v := .slice d3 (t3 - w3) (c3 - w3)) rfl rfl rfl (fun w' _ => exec_slice' rfl (by rw [← D3.out]; exact slice_mid a3 n3 c3 w3 t3 o3 b3 m3 w')) ?_
    simp only [Act.put, List.setIfInBounds_toArray, List.set_cons_succ, List.set_cons_zero]
    refine FY.flow_bv rfl rfl rfl (by simp) (by kernel_rfl) (fun w5 hE5 _ => ?_)
    have hx5 : Ext C w5 := ((Keep.refl _ C).drew).trans hE5
    have hc := between_any (H1.out.ext hx5) (fun k hk => .inr (by have := hx5.size; omega)) (by omega) d1 d2 d3 _ _ _ _ _ _ _ _ _ (u1.ext hx5) (u2.ext hx5) (u3.ext hx5) (by omega) (by omega) (by omega)
    clear e1 e2 e3 e4 e5 e6 e7 e8 e9 e10 hD g1 g2 g3 g4 g5 g6 g7 g8 g9 g10 u1 u2 u3 hE5
    go_wp2_with fail
    refine hc.mono ?_
    rintro e w6 ⟨⟨u, rfl⟩, ⟨v6, hv6, hM6⟩, hK6⟩
    have HM6 := Lib.hid hM6
    have HK6 := Lib.hid ((Keep.of_ext hx5).trans hK6)
    clear hc hM6 hx5
    go_wp2
    refine FY.flow_end (fun D hED _ => ?_)
    have HKD := Lib.hid (HK6.out.trans (Keep.of_ext hED))
    have HMD := Lib.hid (HM6.out.ext hED)
    clear HK6 HM6 hED
    -- what the end of the round leaves
    have hend : ∀ E vE hvE, Keep (fun k o => (k = w.heap.size + 1 + 1 + 1 ∨ T ≤ k) ∧ MT o) C E → MIn (fun b => b = w.heap.size + 1 + 1 + 1 ∨ T ≤ b) E (w.heap.size + 1 + 1 + 1) vE hvE (lineAt (betweenL hs (segL x w1 t1) (segL a w2 t2) (segL b w3 t3)) x[t1]?) →
        (∀ i u, ([.int .i64 (t1 : Int), .int .i64 (t2 : Int), .int .i64 (t3 : Int)] : List Value)[i]? = some u → E.cell? ⟨p10, i, none⟩ = some u) ∧ E.heap[w.heap.size + 1 + 1 + 1 + 1 + 1]? = some (.cells #[.int .i64 (w1 : Int), .int .i64 (w2 : Int), .int .i64 (w3 : Int)] 69 (0, 0)) ∧
        E.cell? ⟨w.heap.size, 0, none⟩ = some (.slice a1 n1 c1) ∧ E.cell? ⟨w.heap.size + 1 + 1 + 1 + 1, 0, none⟩ = some (.pointer (some ⟨w.heap.size + 1 + 1 + 1, 0, none⟩)) ∧ Ext w E ∧ T ≤ E.heap.size ∧
        KN C (E.setRow (w.heap.size + 1 + 1 + 1 + 1 + 1) #[.int .i64 ((t1 : Int) + 1), .int .i64 ((t2 : Int) + 1), .int .i64 ((t3 : Int) + 1)]) := fun E vE hvE kE hM => by
      have zE := z10.keep kE (fun h => mt_not (by decide) (by decide) (by decide) h.2)
      have e2 := h2.keep kE (fun h => mt_not (by decide) (by decide) (by decide) h.2)
      have e3 := kE.boxed h3 (fun h => mt_not (by decide) (by decide) (by decide) h.2)
      have e4 := kE.boxed h4 (fun h => mt_not (by decide) (by decide) (by decide) h.2)
      have e5 := kE.boxed h5 (fun h => mt_not (by decide) (by decide) (by decide) h.2)
      have e6 := kE.boxed h6 (fun h => mt_not (by decide) (by decide) (by decide) h.2)
      have e7 : Ext w E := ((Keep.of_ext h7).trans kE).mono (fun b o ho hx => by have := Keep.lt ho; rcases hx.1 with hx | hx <;> omega)
      have kS : Keep (fun k o => k = w.heap.size + 1 + 1 + 1 + 1 + 1 ∧ ∃ cur, o = .cells cur 69 (0, 0)) E (E.setRow (w.heap.size + 1 + 1 + 1 + 1 + 1) #[.int .i64 ((t1 : Int) + 1), .int .i64 ((t2 : Int) + 1), .int .i64 ((t3 : Int) + 1)]) :=
        (keep_setRow E (w.heap.size + 1 + 1 + 1 + 1 + 1) _).mono (fun k o ho hx => ⟨hx, by subst hx; rw [show E.heap[w.heap.size + 1 + 1 + 1 + 1 + 1]? = _ from e2] at ho; cases ho; exact ⟨_, rfl⟩⟩)
      have hkk : Keep (fun b o => roundT (w.heap.size + 9 + 2) T (fun b => b = w.heap.size + 6 ∨ b = w.heap.size + 7 ∨ b = w.heap.size + 8) b o ∧ (b < w.heap.size + 9 ∨ o.isCells = true)) C (E.setRow (w.heap.size + 1 + 1 + 1 + 1 + 1) #[.int .i64 ((t1 : Int) + 1), .int .i64 ((t2 : Int) + 1), .int .i64 ((t3 : Int) + 1)]) :=
        (kE.mono (fun k o ho hx => ⟨⟨by rcases hx.1 with h | h <;> omega, by rcases hx.1 with h | h <;> omega⟩, .inr (mt_cells hx.2)⟩)).trans (kS.mono (fun k o ho hx => ⟨⟨by have := hx.1; omega, by have := hx.1; omega⟩, .inl (by have := hx.1; omega)⟩))
      refine ⟨fun i u hu => zE.cell hu, e2, e4.cell, e3.cell, e7, Nat.le_trans hT2 kE.size, hKN _ _ (by first | exact hkk | (rw [hsW]; exact hkk)) ⟨vE, hvE, ?_, ?_, ?_, ?_, ?_, ?_, ?_, ?_⟩⟩
      · rw [HST.out]
        exact hM.keep kS (fun cur hx => by obtain ⟨_, _, hx⟩ := hx; cases hx) (fun k cur _ hx => by obtain ⟨_, _, hx⟩ := hx; cases hx) (fun k cur _ hx => by obtain ⟨_, _, hx⟩ := hx; cases hx)
      · rw [HST.out]
        exact e2.setRow [.int .i64 ((t1 : Int) + 1), .int .i64 ((t2 : Int) + 1), .int .i64 ((t3 : Int) + 1)]
      · exact kS.boxed e3 (fun hx => by obtain ⟨_, _, hx⟩ := hx; cases hx)
      · exact kS.boxed e4 (fun hx => by obtain ⟨_, _, hx⟩ := hx; cases hx)
      · exact kS.boxed e5 (fun hx => by obtain ⟨_, _, hx⟩ := hx; cases hx)
      · exact kS.boxed e6 (fun hx => by obtain ⟨_, _, hx⟩ := hx; cases hx)
      · exact ((Keep.of_ext e7).trans kS).mono (fun b o ho hx => by have := Keep.lt ho; have := hx.1; omega)
      · have := kE.size; have := kS.size; omega
    have HEND := Lib.hid hend
    have hiA := Lib.hid (show (Try.prog.info? 69).map (·.size) = some 3 by kernel_rfl)
    have hone := Lib.hid (show (#[.int .i64 ((t1 : Int) + 1), .int .i64 ((t2 : Int) + 1), .int .i64 ((t3 : Int) + 1)] : Array Value).all (·.oneCell') = true by simp [Value.oneCell'])
    have hcD : Hid (∀ i u, ([.int .i64 (t1 : Int), .int .i64 (t2 : Int), .int .i64 (t3 : Int)] : List Value)[i]? = some u → D.cell? ⟨p10, i, none⟩ = some u) := Lib.hid (fun i u hu => (z10.keep HKD.out (fun h => mt_not (by decide) (by decide) (by decide) h.2)).cell hu)
    have y1 := hcD.out 0 _ rfl
    have y4 := (HKD.out.boxed h4 (fun h => mt_not (by decide) (by decide) (by decide) h.2)).cell
    have y3 := (HKD.out.boxed h3 (fun h => mt_not (by decide) (by decide) (by decide) h.2)).cell
    have hE7 : Hid (Ext w D) := Lib.hid (((Keep.of_ext h7).trans HKD.out).mono (fun b o ho hx => by have := Keep.lt ho; rcases hx.1 with hx | hx <;> omega))
    have hTD : T ≤ D.heap.size := Nat.le_trans hT2 HKD.out.size
    clear hend hKN HST z10 h2 h3 h4 h5 h6 h7
    by_cases hlt : t1 < n1
    · have hlt' : ((t1 : Int) < (n1 : Int)) := by omega
      obtain ⟨b0, off0, rfl, hc0⟩ := r1.2.2.2.2 (by omega)
      obtain ⟨s, hs1⟩ : ∃ s, x[t1]? = some s := ⟨_, List.getElem?_eq_getElem (by have := HX.out; omega)⟩
      have hcs : D.cell? ⟨b0, off0 + t1, none⟩ = some (.string s) := Ext.cell hE7.out (hc0 t1 _ (by rw [List.getElem?_map, hs1]; rfl))
      obtain ⟨fa1, fa2, fa3⟩ := flat_between hs (segL x w1 t1) (segL a w2 t2) (segL b w3 t3)
      have hFl := HFL.out
      have hlen : ∀ h ∈ betweenL hs (segL x w1 t1) (segL a w2 t2) (segL b w3 t3), h.x.length ≤ 100000 ∧ h.a.length ≤ 100000 ∧ h.b.length ≤ 100000 := fun h hm => by
        have k1 := flat_le (f := fun h => h.x) hm
        have k2 := flat_le (f := fun h => h.a) hm
        have k3 := flat_le (f := fun h => h.b) hm
        rw [fa1, hFl.1] at k1
        rw [fa2, hFl.2.1] at k2
        rw [fa3, hFl.2.2] at k3
        have l1' := HX.out
        have l2' := HA.out
        have l3' := HB.out
        simp only [List.length_append, List.length_take, segL, List.length_drop] at k1 k2 k3
        omega
      have hbl := between_len hs (segL x w1 t1) (segL a w2 t2) (segL b w3 t3)
      have HLN := Lib.hid hlen
      clear hlen fa1 fa2 fa3 hFl hc0
      gi_wp2
      have hDr : ∀ q : FY.At (fun _ _ => False) D.drew, Ext D q.w := fun q => ((Keep.refl _ D).drew).trans q.ext
      have e1 := fun q => Ext.cell (hDr q) y1
      have e3 := fun q => Ext.cell (hDr q) y3
      have e4 := fun q => Ext.cell (hDr q) y4
      have e5 := fun q => Ext.cell (hDr q) hcs
      refine FY.wpIn_flow (X := fun k o => (k = w.heap.size + 1 + 1 + 1 ∨ T ≤ k) ∧ MT o) (0 :: 1 :: 2 :: 3 :: 4 :: 5 :: 6 :: [])
        (fun n => if n = 6 then .bar else .reads) (fun n => by split <;> simp) (by kernel_rfl) (by kernel_rfl) (by kernel_rfl) ?_
      iterate 4 (refine FY.flow_r rfl rfl rfl ?_; go_big_quiet_step (fail); refine wpQuiet_nil ?_)
      refine FY.flow_v (v := .pointer (some ⟨b0, off0 + t1, none⟩)) rfl rfl rfl (fun w' _ => exec_index' rfl (index_strs b0 off0 n1 c1 t1 hlt w')) ?_
      simp only [Act.put, List.setIfInBounds_toArray, List.set_cons_succ, List.set_cons_zero]
      iterate 1 (refine FY.flow_r rfl rfl rfl ?_; go_big_quiet_step (fail); refine wpQuiet_nil ?_)
      refine FY.flow_bv rfl rfl rfl (by simp) (by kernel_rfl) (fun w5 hE5 _ => ?_)
      have hx5 : Ext D w5 := ((Keep.refl _ D).drew).trans hE5
      have hc := line_any (HMD.out.ext hx5) (fun k hk => .inr (by have := hx5.size; omega)) (by omega) HLN.out s
      clear e1 e3 e4 e5 hDr y1 y3 y4 hcs hE5
      go_wp2_with fail
      refine hc.mono ?_
      rintro e w6 ⟨⟨u, rfl⟩, ⟨v6, hv6, hM6⟩, hK6⟩
      have HM6 := Lib.hid hM6
      have HK6 := Lib.hid ((HKD.out.trans (Keep.of_ext hx5)).trans hK6)
      clear hc hM6 hx5
      go_wp2
      refine FY.flow_end (fun E hEE _ => ?_)
      obtain ⟨g1, f2, _, _, _, _, hf⟩ := HEND.out E _ _ (HK6.out.trans (Keep.of_ext hEE)) (by rw [hs1]; exact HM6.out.ext hEE)
      have y1 := g1 0 _ rfl
      have y2 := g1 1 _ rfl
      have y5 := g1 2 _ rfl
      have F2 := Lib.hid f2
      clear HEND HMD HKD hs1 f2 HM6 HK6 hEE g1
      gi_wp2_with (refine wpListIn_store_row2 ?_ 69 (.tmp 9) (.tmp 85) ?_ (w.heap.size + 1 + 1 + 1 + 1 + 1) #[.int .i64 ((t1 : Int) + 1), .int .i64 ((t2 : Int) + 1), .int .i64 ((t3 : Int) + 1)] ?_ ?_ 69 #[.int .i64 (w1 : Int), .int .i64 (w2 : Int), .int .i64 (w3 : Int)] ?_ hiA.out rfl hone.out ?_; rfl; rfl; rfl; rfl; exact F2.out)
      exact hf
    · have hlt' : ¬ ((t1 : Int) < (n1 : Int)) := by omega
      have hx0 : x[t1]? = none := List.getElem?_eq_none (by have := HX.out; omega)
      obtain ⟨_, f2, _, _, _, _, hf⟩ := HEND.out D _ _ HKD.out (by rw [hx0]; exact HMD.out)
      have y2 := hcD.out 1 _ rfl
      have y5 := hcD.out 2 _ rfl
      have F2 := Lib.hid f2
      clear HEND HMD HKD hx0 f2
      gi_wp2_with (refine wpListIn_store_row2 ?_ 69 (.tmp 9) (.tmp 85) ?_ (w.heap.size + 1 + 1 + 1 + 1 + 1) #[.int .i64 ((t1 : Int) + 1), .int .i64 ((t2 : Int) + 1), .int .i64 ((t3 : Int) + 1)] ?_ ?_ 69 #[.int .i64 (w1 : Int), .int .i64 (w2 : Int), .int .i64 (w3 : Int)] ?_ hiA.out rfl hone.out ?_; rfl; rfl; rfl; rfl; exact F2.out)
      exact hf
  case done =>
    rintro D T A hD ⟨v, hv, h1, h2, h3, h4, h5, h6, h7, h8⟩ hd
    rw [← HML.out] at h1
    have c3 := h3.cell
    have cP := h1.box.cell (i := 0) rfl
    have hfin := HR.out (.returned v) (A.putObj D (.deferred none)) ⟨v, hv, rfl, ?_, ?_⟩
    · clear h1 h2 h3 h4 h5 h6 h7 HR HML HFO
      go_wp2
      refine mark_end hd rfl (by simp [results, Try.results24, go_sem]) hfin
    · have kD : Keep (fun k o => k = D ∧ o.isCells = false) A (A.putObj D (.deferred none)) := (Keep.refl _ _).putObj _ _ (fun o ho => ⟨rfl, by rw [hd] at ho; cases ho; rfl⟩)
      exact ⟨kD.owns' h1.own (fun _ _ _ hx => by cases hx.2), h1.len, fun i c g hc hg => (h1.each i c g hc hg).keep kD (fun _ _ _ hx => by cases hx.2)⟩
    · exact h7.putObj _ _ (fun o ho => by have := Keep.lt ho; omega)
end Go.Proofs.Ythedpnnfkmbdpaa
