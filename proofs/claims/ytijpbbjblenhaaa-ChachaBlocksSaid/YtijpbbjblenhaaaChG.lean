/-
  The law ChachaBlocks.
-/
import Derived.Test.YtijpbbjblenhaaaChE
import Derived.Test.YtijpbbjblenhaaaChF
import Derived.Test.YtijpbbjblenhaaaArrEq
namespace Go.Proofs.Ytijpbbjblenhaaa
open Go.RowKit Go.Shelf

theorem bytes_cells (l : List UInt8) {n : Nat} (hl : l.length = n) : ∀ i, i < n → ∃ a, (l.map u8v).toArray[i]? = some (.int .u8 a) := fun i hi => by
  have : i < l.length := by omega
  exact ⟨_, by simp [List.getElem?_eq_getElem this, u8v]; rfl⟩

set_option maxRecDepth 20000 in
set_option maxHeartbeats 4000000 in
theorem chachaBlocks_any (l : List UInt32) (key : List UInt8) (n : UInt32) (nonce : List UInt8) (w : World) (hl : l.length = 4) (hk : key.length = 32) (hn : nonce.length = 12) :
    Calls Try.prog 3 #[aggW l, aggB key, .int .u32 (n.toNat : Int), aggB nonce] w fun e w' => e = .returned (.bool true) ∧ Ext w w' := by
  match l, hl with
  | [l0, l1, l2, l3], _ =>
    have hb := fun w => block_any key nonce n w hk hn
    have hrb := fun w => refBlock_any key nonce n w hk hn
    have hcell := bytes_cells _ (blockL_length n hk hn)
    refine calls_cps fun R hR => ?_
    unfold aggB at hb hrb ⊢
    unfold aggW
    obtain ⟨cka, hcka⟩ : ∃ c, (key.map u8v).toArray = c := ⟨_, rfl⟩
    obtain ⟨cna, hcna⟩ : ∃ c, (nonce.map u8v).toArray = c := ⟨_, rfl⟩
    obtain ⟨O, hO⟩ : ∃ c, ((blockL key n nonce).map u8v).toArray = c := ⟨_, rfl⟩
    have hik := Lib.hid (show (Try.prog.info? 25).map (·.size) = some cka.size by rw [info_key, ← hcka]; simp [hk])
    have hin := Lib.hid (show (Try.prog.info? 26).map (·.size) = some cna.size by rw [info_nonce, ← hcna]; simp [hn])
    rw [hcka] at hb hrb ⊢
    rw [hcna] at hb hrb ⊢
    rw [hO] at hb hrb hcell
    have HC := Lib.hid hcell
    clear hcka hcna hO hk hn hcell
    have hq := fun w => quarter_any ⟨l0, l1, l2, l3⟩ w
    have hrq := fun w => refQuarter_any ⟨l0, l1, l2, l3⟩ w
    obtain ⟨⟨qa, qb, qc, qd⟩, hqe⟩ : ∃ q, quarter ⟨l0, l1, l2, l3⟩ = q := ⟨_, rfl⟩
    rw [hqe] at hq hrq
    simp only at hq hrq
    clear hqe
    have e : ∀ (A : World) (o : Obj), Ext A (A.alloc o) := fun A o => (Keep.refl _ A).alloc o
    obtain ⟨oL, hoL⟩ : ∃ o, Obj.cells #[.int .u32 (l0.toNat : Int), .int .u32 (l1.toNat : Int), .int .u32 (l2.toNat : Int), .int .u32 (l3.toNat : Int)] 23 (0, 0) = o := ⟨_, rfl⟩
    have hW1 : ∀ w1, Ext (((w.alloc oL).alloc (.cells cka 25)).alloc (.cells cna 26)) w1 → Ext w w1 ∧ w1.heap[w.heap.size]? = some oL ∧ w1.heap[w.heap.size + 1]? = some (.cells cka 25 (0, 0)) ∧ w1.heap[w.heap.size + 1 + 1]? = some (.cells cna 26 (0, 0)) := fun w1 h => by
      have k1 := World.alloc_heap_new w oL
      have k2 := World.alloc_heap_new (w.alloc oL) (.cells cka 25)
      have k3 := World.alloc_heap_new ((w.alloc oL).alloc (.cells cka 25)) (.cells cna 26)
      simp only [World.size_alloc] at k2 k3
      exact ⟨(((e _ _).trans (e _ _)).trans (e _ _)).trans h, h.block _ _ ((e _ _).block _ _ ((e _ _).block _ _ k1 (fun h => h)) (fun h => h)) (fun h => h), h.block _ _ ((e _ _).block _ _ k2 (fun h => h)) (fun h => h), h.block _ _ k3 (fun h => h)⟩
    simp only [List.map_cons, List.map_nil, u32v]
    go_enter Try.func3, Try.ntmps3
    go_wp2_with fail
    refine (awake04_any _).mono ?_; rintro e' w1 ⟨rfl, e1⟩
    obtain ⟨E1, bL, bK, bN⟩ := hW1 w1 e1
    clear hW1 e1 e
    have AL : Arr w1 w.heap.size 23 [.int .u32 (l0.toNat : Int), .int .u32 (l1.toNat : Int), .int .u32 (l2.toNat : Int), .int .u32 (l3.toNat : Int)] := by unfold Arr; rw [bL, ← hoL]
    clear hoL
    have c0 := AL.cell (i := 0) rfl
    have c1 := AL.cell (i := 1) rfl
    have c2 := AL.cell (i := 2) rfl
    have c3 := AL.cell (i := 3) rfl
    clear bL
    go_wp2_with fail
    refine (hq _).mono ?_; rintro e w2 ⟨rfl, e2⟩
    have d0 := e2.cell c0
    have d1 := e2.cell c1
    have d2 := e2.cell c2
    have d3 := e2.cell c3
    clear c0 c1 c2 c3 AL
    go_wp2_with fail
    refine (hrq _).mono ?_; rintro e _ ⟨rfl, rfl⟩
    clear d0 d1 d2 d3 hq hrq
    have E2 := E1.trans e2
    have bK2 := e2.block _ _ bK (fun h => h)
    have bN2 := e2.block _ _ bN (fun h => h)
    clear bK bN e2 E1
    go_wp2
    refine wp_flow (fun n => if n = 22 ∨ n = 26 then .grows (Is (.agg O)) (IsSh (.agg O)) else .reads) (by kernel_rfl) (by kernel_rfl) ?_
    repeat (refine flow_r rfl rfl ?_; go_big_quiet_step (fail); refine wpQuiet_nil ?_)
    refine flow_v (v := .agg cka) rfl rfl (fun w' hE => exec_load_row rfl rfl (((((Keep.refl _ w2).drew).trans hE)).block _ _ bK2 (fun h => h)) Try.underlying25 rfl hik.out) ?_
    simp only [Act.put, List.setIfInBounds_toArray, List.set_cons_succ, List.set_cons_zero]
    refine flow_r rfl rfl ?_; go_big_quiet_step (fail); refine wpQuiet_nil ?_
    refine flow_v (v := .agg cna) rfl rfl (fun w' hE => exec_load_row rfl rfl (((((Keep.refl _ w2).drew).trans hE)).block _ _ bN2 (fun h => h)) Try.underlying26 rfl hin.out) ?_
    simp only [Act.put, List.setIfInBounds_toArray, List.set_cons_succ, List.set_cons_zero]
    refine flow_g rfl rfl (by simp) ⟨_, rfl⟩ (fun _ _ _ h hE => h) (fun _ _ h => h) (fun w3 hE3 _ => ?_) (fun v hv => ?_)
    · go_wp2_with fail
      refine (hb _).mono ?_
      rintro e w4 ⟨rfl, hE4⟩
      go_wp2
      try exact rfl
    cases hv
    simp only [Act.put, List.setIfInBounds_toArray, List.set_cons_succ, List.set_cons_zero]
    refine flow_v (v := .agg cka) rfl rfl (fun w' hE => exec_load_row rfl rfl (((((Keep.refl _ w2).drew).trans hE)).block _ _ bK2 (fun h => h)) Try.underlying25 rfl hik.out) ?_
    simp only [Act.put, List.setIfInBounds_toArray, List.set_cons_succ, List.set_cons_zero]
    refine flow_r rfl rfl ?_; go_big_quiet_step (fail); refine wpQuiet_nil ?_
    refine flow_v (v := .agg cna) rfl rfl (fun w' hE => exec_load_row rfl rfl (((((Keep.refl _ w2).drew).trans hE)).block _ _ bN2 (fun h => h)) Try.underlying26 rfl hin.out) ?_
    simp only [Act.put, List.setIfInBounds_toArray, List.set_cons_succ, List.set_cons_zero]
    refine flow_g rfl rfl (by simp) ⟨_, rfl⟩ (fun _ _ _ h hE => h) (fun _ _ h => h) (fun w3 hE3 _ => ?_) (fun v hv => ?_)
    · go_wp2_with fail
      refine (hrb _).mono ?_
      rintro e w4 ⟨rfl, hE4⟩
      go_wp2
      try exact rfl
    cases hv
    simp only [Act.put, List.setIfInBounds_toArray, List.set_cons_succ, List.set_cons_zero]
    refine flow_v (v := .bool true) rfl rfl (fun w' hE => exec_eql_arr rfl rfl rfl Try.underlying30 Try.underlying5 size_u8 (by kernel_rfl) HC.out) ?_
    simp only [Act.put, List.setIfInBounds_toArray, List.set_cons_succ, List.set_cons_zero]
    repeat (refine flow_r rfl rfl ?_; go_big_quiet_step (fail); refine wpQuiet_nil ?_)
    refine flow_end (fun w9 hE9 _ => ?_)
    have hEn := E2.trans (((Keep.refl _ w2).drew).trans hE9)
    clear hb hrb
    go_wp2
    try exact ⟨rfl, hEn⟩
end Go.Proofs.Ytijpbbjblenhaaa
