/-
  The law DiskClones.
-/
import Derived.Test.YthbffmdfdbfioaaDkL
import Derived.Test.YthbffmdfdbfioaaDkG
namespace Go.Proofs.Ythbffmdfdbfioaa
open Go.RowKit Go.Shelf

attribute [local go_sem] Oper.semAt_some

set_option maxHeartbeats 1000000 in
theorem dread_nil (w : World) (i : Int) : Calls Try.prog 11 #[.pointer none, .int .i64 i] w fun e w' =>
    e = .returned (.tuple #[aggB (zeros 64), .int .i64 131]) ∧ Ext w w' := by
  unfold aggB
  obtain ⟨zz, hzz⟩ : ∃ z, (zeros 64).map u8v = z := ⟨_, rfl⟩
  have HZ := Lib.hid (show (List.replicate 64 (.int .u8 0) : List Value) = zz by rw [← hzz]; rfl)
  have HON := Lib.hid (show ((List.replicate 64 (Value.int .u8 0)).toArray).all (·.oneCell') = true by rw [HZ.out, ← hzz]; exact all_one _)
  have HI0 := Lib.hid (show (Try.prog.info? 22).map (·.size) = some (List.replicate 64 (Value.int .u8 0)).toArray.size by rw [info_sec]; rfl)
  have HZs := Lib.hid (show (Try.prog.info? 22).map (·.size) = some zz.toArray.size by rw [info_sec, ← hzz]; rfl)
  rw [hzz]
  clear hzz
  refine calls_cps fun R hR => ?_
  go_enter Try.func11, Try.ntmps11
  go_wp2_with fail
  refine (dmay_nil _ i).mono ?_; rintro e w1 ⟨rfl, e1⟩
  have hE : Ext w w1 := ((Keep.refl _ w).alloc _).trans e1
  have hZ : Arr w1 w.heap.size 22 (List.replicate 64 (.int .u8 0)) := (Arr.new w _ (List.replicate 64 (.int .u8 0))).ext e1
  have h2 := hZ.setRow (List.replicate 64 (.int .u8 0))
  unfold Arr at h2
  rw [show (some (Obj.cells (List.replicate 64 (.int .u8 0)).toArray 22 (0, 0)) : Option Obj) = some (Obj.cells zz.toArray 22 (0, 0)) by rw [HZ.out]] at h2
  have H2 := Lib.hid h2
  clear e1 h2
  go_wp2_with (refine wpList_store_row ?_ 22 (.tmp 4) (.tmp 12) ?_ w.heap.size (List.replicate 64 (Value.int .u8 0)).toArray ?_ ?_ 22 (List.replicate 64 (Value.int IntKind.u8 0)).toArray ?_ HI0.out rfl HON.out ?_; rfl; rfl; rfl; rfl; exact hZ)
  exact bodyPost_ret (results_cell_slot rfl _ _ w.heap.size 22 zz.toArray (0, 0) _ (.int .i64 131) rfl rfl H2.out Try.underlying22 rfl HZs.out) rfl (hR _ _ ⟨rfl, hE.setRow_new _ _ (Nat.le_refl _)⟩)

theorem dwrite_nil (w : World) (i : Int) (b : Array Value) : Calls Try.prog 8 #[.pointer none, .int .i64 i, .agg b] w fun e w' => e = .returned (.int .i64 131) ∧ Ext w w' := by
  refine calls_cps fun R hR => ?_
  go_enter Try.func8, Try.ntmps8
  go_wp2_with fail
  refine (dmay_nil _ i).mono ?_; rintro e w1 ⟨rfl, e1⟩
  have hE : Ext w w1 := ((Keep.refl _ w).alloc _).trans e1
  clear e1
  go_wp2
  try exact ⟨rfl, hE⟩
theorem dstart_nil (w : World) : Calls Try.prog 10 #[.pointer none] w fun e w' => (∃ v, e = .returned v) ∧ Ext w w' := by
  refine calls_cps fun R hR => ?_
  go_enter Try.func10, Try.ntmps10
  go_wp2
  exact bodyPost_ret (results_none rfl _ _ _) rfl (hR _ _ ⟨⟨_, rfl⟩, Keep.refl _ _⟩)
end Go.Proofs.Ythbffmdfdbfioaa
