/-
  awake of the disk's laws.
-/
import Derived.Test.YthbffmdfdbfioaaDkF
namespace Go.Proofs.Ythbffmdfdbfioaa
open Go.RowKit Go.Shelf

attribute [local go_sem] Oper.semAt_some

section
variable {P : Program} {ops : Array Oper} {rest : List Oper} {o : Oper} {a : Act} {w : World} {Q : Exit → Act → World → Prop}
/-- An operation, guarded or not, whose run is given. -/
theorem wpList_val {v : Value} (hr : (execOp a.eval o).run P w = .ok (.value v) w) (hw : Region.wanted o (yielded ops a.tmps) = true) (h : wpList P ops Q rest (a.put o.dst v) w) : wpList P ops Q (o :: rest) a w :=
  wpList_step fun K hK => by
    rw [if_pos hw]
    unfold Oper.wp
    rw [hr]
    exact hK _ _ h
theorem wpList_load_g (ty : TypeId) (x : Operand) (g : Nat) (t : TypeId) (cs : Array Value) {d : TypeDesc} (ho : o.op = .load ty x) (hw : Region.wanted o (yielded ops a.tmps) = true)
    (hx : a.eval x = .pointer (some ⟨g, 0, none⟩)) (hg : w.heap[g]? = some (.cells cs t (0, 0))) (hu : P.underlying ty = some d) (hd : (match d with | .struct _ | .array _ _ => true | _ => false) = true) (hi : (P.info? ty).map (·.size) = some cs.size)
    (h : wpList P ops Q rest (a.put o.dst (.agg cs)) w) : wpList P ops Q (o :: rest) a w := wpList_val (exec_load_row ho hx hg hu hd hi) hw h
end
def litB (a b : Int) : Array Value := #[.int .u8 a, .int .u8 b, .int .u8 0, .int .u8 0, .int .u8 0, .int .u8 0, .int .u8 0, .int .u8 0, .int .u8 0, .int .u8 0, .int .u8 0, .int .u8 0, .int .u8 0, .int .u8 0, .int .u8 0, .int .u8 0, .int .u8 0, .int .u8 0, .int .u8 0, .int .u8 0, .int .u8 0, .int .u8 0, .int .u8 0, .int .u8 0, .int .u8 0, .int .u8 0, .int .u8 0, .int .u8 0, .int .u8 0, .int .u8 0, .int .u8 0, .int .u8 0, .int .u8 0, .int .u8 0, .int .u8 0, .int .u8 0, .int .u8 0, .int .u8 0, .int .u8 0, .int .u8 0, .int .u8 0, .int .u8 0, .int .u8 0, .int .u8 0, .int .u8 0, .int .u8 0, .int .u8 0, .int .u8 0, .int .u8 0, .int .u8 0, .int .u8 0, .int .u8 0, .int .u8 0, .int .u8 0, .int .u8 0, .int .u8 0, .int .u8 0, .int .u8 0, .int .u8 0, .int .u8 0, .int .u8 0, .int .u8 0, .int .u8 0, .int .u8 0]
theorem bytes_cells (l : List UInt8) {n : Nat} (hl : l.length = n) : ∀ i, i < n → ∃ a, (l.map u8v).toArray[i]? = some (.int .u8 a) := fun i hi => by
  have : i < l.length := by omega
  exact ⟨_, by simp [List.getElem?_eq_getElem this, u8v]; rfl⟩
theorem litB_eq : litB 7 0 = ((7 :: zeros 63).map u8v).toArray := by kernel_rfl
theorem litB_get : ∀ i, i < 64 → ∃ a, (litB 7 0)[i]? = some (.int .u8 a) := fun i hi => by
  rw [litB_eq]
  exact bytes_cells _ rfl i hi
theorem lit77 : aggB (7 :: 7 :: zeros 62) = .agg (litB 7 7) := by kernel_rfl
theorem lit70 : aggB (7 :: zeros 63) = .agg (litB 7 0) := by kernel_rfl
theorem awake_write : DSt.write ⟨zeros (1 * 64), 1, [(0, 1)], 0, true⟩ 0 (7 :: 7 :: zeros 62) = ⟨7 :: zeros 63, 1, [(0, 1)], 0, false⟩ := by kernel_rfl
theorem awake_writeE : DSt.writeE ⟨zeros (1 * 64), 1, [(0, 1)], 0, true⟩ 0 = 131 := by kernel_rfl
theorem awake_start : DSt.start ⟨7 :: zeros 63, 1, [(0, 1)], 0, false⟩ = ⟨7 :: zeros 63, 1, [], 0, true⟩ := by kernel_rfl
theorem awake_read : DSt.read ⟨7 :: zeros 63, 1, [], 0, true⟩ 0 = 7 :: zeros 63 := by kernel_rfl
theorem awake_may : DSt.may ⟨7 :: zeros 63, 1, [], 0, true⟩ 0 = 0 := by kernel_rfl

set_option maxRecDepth 20000 in
set_option maxHeartbeats 2000000 in
theorem awake13_any (w : World) : Calls Try.prog 6 #[] w fun e w' => e = .returned (.bool true) ∧ Ext w w' := by
  refine calls_cps fun R hR => ?_
  go_enter Try.func6, Try.ntmps6
  go_wp2_with fail
  have hrow : Row 2 (w.alloc (.cells #[.int .i64 0, .int .i64 1] 27)) (some ⟨w.heap.size, 0, none⟩) 1 1 (crC [(0, 1)]) := by
    obtain ⟨_, _, q1, q2⟩ := owns_row (World.ownsRow_lit (base := 0) (e := 27) (size := 2) w #[.int .i64 0, .int .i64 1] 1 (Nat.zero_le _) (by simp [maxLen]) rfl)
    cases q1; exact q2
  refine (dnew_any 1 1 (by decide) _ 1 [(0, 1)] _ hrow (by decide)).mono ?_
  rintro e w1 ⟨v, rfl, ⟨B, gs, gc, rfl, hD, hb1, hb2, hb3⟩, e1⟩
  have hE1 : Ext w w1 := ((Keep.refl _ w).alloc _).trans e1
  simp only [World.size_alloc] at hb1 hb2
  clear hrow e1
  go_wp2_with fail
  have hw := dwrite_any hD 0 (7 :: 7 :: zeros 62) rfl (by decide)
  rw [lit77, awake_write, awake_writeE] at hw
  refine hw.mono ?_
  rintro e w2 ⟨rfl, hD2, e2⟩
  clear hw hD
  have hE2 : Ext w w2 := ((Keep.of_ext hE1).trans e2).mono (fun k o ho hx => by have := Keep.lt ho; omega)
  clear hE1 e2
  go_wp2_with fail
  have hs := dstart_any hD2
  rw [awake_start] at hs
  refine hs.mono ?_
  rintro e w3 ⟨⟨v, rfl⟩, hD3, e3⟩
  have hE3 : Ext w w3 := ((Keep.of_ext hE2).trans e3).mono (fun k o ho hx => by have := Keep.lt ho; omega)
  clear hs hD2 e3 hE2
  go_wp2_with fail
  have hr := dread_any hD3 0
  rw [awake_read, awake_may, lit70] at hr
  refine hr.mono ?_
  rintro e w4 ⟨rfl, e4⟩
  have hE4 := hE3.trans e4
  clear hr hD3 hE3 e4
  have heq := fun w => run_eql_arr (P := Try.prog) (w := w) (litB 7 0) Try.underlying22 Try.underlying5 size_u8 litB_get
  obtain ⟨O, hO⟩ : ∃ O, litB 7 0 = O := ⟨_, rfl⟩
  have heq2 : ∀ w, (binOp .eql 22 (.agg O) (.agg (litB 7 0))).run Try.prog w = .ok (.bool true) w := by rw [← hO]; exact heq
  unfold litB at heq2
  have hiO := Lib.hid (show (Try.prog.info? 22).map (·.size) = some O.size by rw [info_sec, ← hO]; rfl)
  have hO2 := Lib.hid (show O.all (·.oneCell') = true by rw [← hO, litB_eq]; exact all_one _)
  have hOz := Lib.hid (show (List.replicate 64 (Value.int .u8 0)).toArray.size = O.size by rw [← hO]; rfl)
  rw [hO]
  clear hO heq
  go_wp2_with (first | (refine wpList_store_row ?_ 22 (.tmp 2) (.tmp 20) ?_ w4.heap.size O ?_ ?_ 22 (List.replicate 64 (Value.int IntKind.u8 0)).toArray ?_ hiO.out hOz.out hO2.out ?_; rfl; rfl; rfl; rfl; exact Arr.new w4 22 (List.replicate 64 (.int .u8 0)); rw [World.setRow_alloc_new]) | (refine wpList_load_g 22 (.tmp 2) w4.heap.size 22 O ?_ ?_ ?_ ?_ Try.underlying22 rfl hiO.out ?_; rfl; rfl; rfl; exact World.alloc_heap_new _ _))
  exact ⟨rfl, hE4.alloc _⟩
end Go.Proofs.Ythbffmdfdbfioaa
