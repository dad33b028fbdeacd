/-
  TopRevoked: the document's ring: add: a realm.
-/
import Derived.Test.YtcmhgpgookiomaaGreatM23
import Derived.Great.BuildSlice
namespace Go.Proofs.YtcmhgpgookiomaaGreat
open Go.RowKit Go.Shelf Go.Maps

attribute [local go_sem] Oper.semAt_some

theorem buildSlice_one {P : Program} {t e : TypeId} {z : Value} {sz bytes : Nat} (hu : P.underlying t = some (.slice e)) (hinfo : (P.info? e).map (fun i => (i.zero, i.size, i.bytes)) = some (some z, sz, bytes)) (hp : 0 < sz) (hs : sz ≤ 1000) (C : List Value) (hl : C.length = sz) (w : World) :
    (Instr.buildSlice t 1 #[(0, .agg C.toArray)]).run P w = .ok (.slice (some ⟨w.heap.size, 0, none⟩) 1 1) (w.alloc (.cells C.toArray e)) := by
  obtain ⟨i, hi, hz, hsz, _⟩ := info_parts hinfo
  have hw := Go.Great.fill_whole (s := sz) hp [.agg C.toArray] ((Array.range (1 * i.size)).map (z.cells[· % z.cells.size]!)) (by simp [Value.cells, hl]) (by simp [hsz])
  refine run_buildSlice (P := P) w t e 1 _ _ i z hu hi hz (by rw [hsz]; omega) (by rw [hsz]; omega) ?_
  rw [hsz] at hw ⊢
  simpa [Value.cells] using hw
theorem exec_buildSlice1 {P : Program} {w w' : World} {o : Oper} {a : Act} {t : TypeId} {i n : Nat} {x : Operand} {u v : Value} (ho : o.op = .buildSlice t n #[(i, x)]) (hx : a.eval x = u) (h : (Instr.buildSlice t n #[(i, u)]).run P w = .ok v w') : (execOp a.eval o).run P w = .ok (.value v) w' := by
  unfold execOp
  simp [ho, hx, h, Result.andThen]

set_option maxRecDepth 20000 in
set_option maxHeartbeats 1000000 in
theorem add39_m (X : Nat) (w : World) (k : Int) (who gr re : Nat) (g : Int) (j : Nat) :
    Calls Tryz.prog 39 #[.pointer (some ⟨X, 0, none⟩), .agg #[.int .i64 k, .int .u32 (who : Int), .int .u32 (gr : Int), .int .u32 (re : Int)], .int .i64 g, .int .i64 (j : Int)] w fun e w' => e = .returned (.int .i64 212) ∧ Ext w w' := by
  refine calls_cps fun R hR => ?_
  have HR := Lib.hid hR
  have h0 : (0 : Int) ≤ (j : Int) := by omega
  clear hR
  go_enter Tryz.func39, Tryz.ntmps39
  go_upto_region 1 with fail
  refine wp_laid1 fun W eW hG => ?_
  have hRR := HR.out (.returned (.int .i64 212)) W ⟨rfl, eW⟩
  clear HR hG eW
  go_wp2
  exact hRR
set_option maxRecDepth 20000 in
set_option maxHeartbeats 1000000 in
theorem add39_g (X : Nat) (w : World) (k : Int) (who gr re : Nat) :
    Calls Tryz.prog 39 #[.pointer (some ⟨X, 0, none⟩), .agg #[.int .i64 k, .int .u32 (who : Int), .int .u32 (gr : Int), .int .u32 (re : Int)], .int .i64 (-1), .int .i64 (-1)] w fun e w' => e = .returned (.int .i64 211) ∧ Ext w w' := by
  refine calls_cps fun R hR => ?_
  have HR := Lib.hid hR
  clear hR
  go_enter Tryz.func39, Tryz.ntmps39
  go_upto_region 1 with fail
  refine wp_laid1 fun W eW hG => ?_
  have hRR := HR.out (.returned (.int .i64 211)) W ⟨rfl, eW⟩
  clear HR hG eW
  go_wp2
  exact hRR

set_option maxRecDepth 20000 in
set_option maxHeartbeats 8000000 in
theorem add39_any {w : World} {b X : Nat} {x : RX} {s : Nat} (h : RingX w b X x s) (hB : BndX x) (hbw : b ≤ w.heap.size) (k : Int) (who gr re i n0 : Nat) (ms0 : List Nat) (hi : x.gs[i]? = some (n0, ms0)) :
    Calls Tryz.prog 39 #[.pointer (some ⟨X, 0, none⟩), .agg #[.int .i64 k, .int .u32 (who : Int), .int .u32 (gr : Int), .int .u32 (re : Int)], .int .i64 (i : Int), .int .i64 (-1)] w fun e w' => e = .returned (.int .i64 0) ∧ RingX w' b X { x with ms := x.ms ++ [(re, [gr])] } s ∧ Keep (TX b [43, 81]) w w' := by
  obtain ⟨vp, vg, vm, vs, pc, gc, mc, sc, ns, h, hns⟩ := h
  have hiG : i < x.gs.length := lt_of_get hi
  have hdraw := fun B (hB : Ext w B) => drawX_any X B (Ext.cell hB (h.cells.cell (i := 0) rfl))
  unfold aggK at hdraw
  obtain ⟨Z, hZ⟩ : ∃ Z, key0.map u8v = Z := ⟨_, rfl⟩
  rw [hZ] at hdraw
  have hZl : Z.length = 32 := by rw [← hZ, List.length_map, key0_len]
  have h1Z : ∀ u ∈ Z, u.oneCell' = true := by rw [← hZ]; exact u8v_one _
  have hiZ := Lib.hid (show (Tryz.prog.info? 51).map (·.size) = some Z.toArray.size by rw [info_key, List.size_toArray, hZl])
  have hZs := Lib.hid (show 32 = Z.toArray.size by rw [List.size_toArray, hZl])
  have h1Z' := Lib.hid (all_of h1Z)
  obtain ⟨CC, hCC⟩ : ∃ CC : Nat → List Value, (fun p => [Value.int .u32 (re : Int), Value.int .u32 0] ++ Z ++ [Value.slice (some ⟨p, 0, none⟩) 1 1]) = CC := ⟨_, rfl⟩
  have hCF : ∀ p, (CC p).length = 35 ∧ (∀ u ∈ CC p, u.oneCell' = true) ∧ (CC p)[0]? = some (u32n re) ∧ (CC p)[1]? = some (u32n 0) ∧ (CC p)[34]? = some (.slice (some ⟨p, 0, none⟩) 1 1) := fun p => by rw [← hCC]; exact secC_facts hZl h1Z re _ rfl
  have hbuild : ∀ p w, (Instr.build 81 #[(0, .int .u32 (re : Int)), (2, .agg Z.toArray), (3, .slice (some ⟨p, 0, none⟩) 1 1)]).run Tryz.prog w = .ok (.agg (CC p).toArray) w := fun p w => by rw [← hCC]; exact build_realm Z hZl re _ 1 1 w
  have HBUILD := Lib.hid hbuild
  have HCF := Lib.hid hCF
  have hiCC := Lib.hid (fun p => show (Tryz.prog.info? 81).map (·.size) = some (CC p).toArray.size by rw [size_realm, List.size_toArray, (hCF p).1])
  have hCCs := Lib.hid (fun p => show 35 = (CC p).toArray.size by rw [List.size_toArray, (hCF p).1])
  have h1CC := Lib.hid (fun p => all_of (hCF p).2.1)
  have HZF := Lib.hid (And.intro hZl h1Z)
  have h0i : (0 : Int) ≤ (i : Int) := by omega
  have HH := Lib.hid h
  have HI := Lib.hid hi
  have HB := Lib.hid hB
  have HDRAW := Lib.hid hdraw
  clear hZ hZl h1Z h hi hB hdraw hbuild hCF hCC
  refine calls_cps fun R0 hR => ?_
  have HR := Lib.hid hR
  clear hR
  go_enter Tryz.func39, Tryz.ntmps39
  go_upto_region 1 with fail
  refine wp_laid1 fun W0 eW0 hG0 => ?_
  have aC : Arr W0 w.heap.size 25 [.int .i64 k, .int .u32 (who : Int), .int .u32 (gr : Int), .int .u32 (re : Int)] := hG0
  have hd := HDRAW.out W0 eW0
  have HE0 := Lib.hid eW0
  clear hG0 eW0
  go_wp2_with fail
  refine hd.mono ?_
  rintro e1 w1 ⟨rfl, e1⟩
  clear hd
  have z2 := (aC.ext e1).cell (i := 2) rfl
  have z3 := (aC.ext e1).cell (i := 3) rfl
  have HE1 := Lib.hid (HE0.out.trans e1)
  clear e1
  go_wp2_with (first
    | (refine wpList_skip0 (o := ⟨none, .store _ _ _, _, _, _, _⟩) (w' := w1.alloc (.cells Z.toArray 51)) ?_ ?_ ?_ ?_; exact exec_store_new rfl rfl rfl hiZ.out hZs.out h1Z'.out; rfl; rfl; refine wpList_laid1 fun W eW hG => ?_; have y2 := Ext.cell eW z2; have y3 := Ext.cell eW z3; clear z2 z3)
    | (refine wpList_val (o := ⟨some 26, _, _, _, _, _⟩) (v := .agg Z.toArray) ?_ ?_ ?_; exact exec_load_row rfl rfl (show Arr W w1.heap.size 51 Z from hG) Tryz.underlying51 rfl hiZ.out; rfl)
    | (refine wpList_val (o := ⟨some 30, _, _, _, _, _⟩) (v := .agg (CC W.heap.size).toArray) ?_ ?_ ?_; exact exec_build3 rfl rfl rfl rfl (HBUILD.out _ _); rfl)
    | (refine (show wpList _ _ _ (⟨some 11, .alloc _, _, _, _, _⟩ :: _) _ (World.alloc _ _) from wpList_laid1 fun W2 eW2 hG2 => ?_))
    | (refine wpList_skip0 (o := ⟨none, .store _ _ _, _, _, _, _⟩) (w' := W2.alloc (.cells (CC W.heap.size).toArray 81)) ?_ ?_ ?_ ?_; exact exec_store_new rfl rfl rfl (hiCC.out _) (hCCs.out _) (h1CC.out _); rfl; rfl; refine wpList_laid1 fun W3 eW3 hG3 => ?_)
    | fail)
  have hp11l : w.heap.size ≤ W2.heap.size := ((HE1.out.trans eW).trans eW2).size
  obtain ⟨p11, hp11⟩ : ∃ p, W2.heap.size = p := ⟨_, rfl⟩
  obtain ⟨q, hq⟩ : ∃ p, W.heap.size = p := ⟨_, rfl⟩
  rw [hq] at hG2 hG3 ⊢
  rw [hp11] at hG3 hp11l ⊢
  obtain ⟨D, hD⟩ : ∃ D, CC q = D := ⟨_, rfl⟩
  have hDF := HCF.out q
  rw [hD] at hDF hG3 ⊢
  have aD : Arr W3 p11 81 D := hG3
  have aq : Arr W3 q 22 [u32n gr] := Arr.ext hG2 eW3
  have hU3 : URow W3 (.slice (some ⟨q, 0, none⟩) 1 1) [gr] := ⟨some ⟨q, 0, none⟩, 1, rfl, ⟨Nat.le_refl _, by simp [maxLen], rfl, by simp, fun _ => ⟨q, 0, rfl, fun i u hu => by rw [Nat.zero_add]; exact aq.cell hu⟩⟩, fun p hp => by cases hp; exact ⟨_, aq⟩⟩
  have hE3 : Ext w W3 := ((HE1.out.trans eW).trans eW2).trans eW3
  have h3 := HH.out.ext hE3
  have hX : ∀ B, Ext W3.drew B → Ext W3 B := fun B hB => ((Keep.refl _ W3).drew).trans hB
  have d3 := fun g : FY.At (fun _ _ => False) W3.drew => (h3.cells.ext (hX _ g.ext)).cell (i := 3) rfl
  have hiD := Lib.hid (show (Tryz.prog.info? 81).map (·.size) = some D.toArray.size by rw [size_realm, List.size_toArray, hDF.1])
  have HDF := Lib.hid hDF
  have HU3 := Lib.hid hU3
  have HE3 := Lib.hid hE3
  have H3 := Lib.hid h3
  have HX := Lib.hid hX
  clear hG2 hG3 eW eW2 eW3 aq hU3 hE3 h3 hX hDF hD hp11 hq hG y2 y3 aC
  refine FY.wp_flow (X := TX b [43, 81]) (0 :: 1 :: 2 :: 3 :: 4 :: 5 :: 6 :: 7 :: 8 :: 9 :: 10 :: []) (fun n => if n = 6 then .grows (OneRow 81 D) OneSh else if n = 7 ∨ n = 10 then .bar else if n = 4 ∨ n = 5 then .reads else .still) (by kernel_rfl) (by kernel_rfl) ?_
  iterate 4 (refine FY.flow_q rfl rfl rfl ?_; go_big_quiet_step (fail); refine wpQuiet_nil ?_)
  refine FY.flow_r rfl rfl rfl ?_; go_big_quiet_step (fail); refine wpQuiet_nil ?_
  refine FY.flow_v (v := .agg D.toArray) rfl rfl rfl (fun w' hE => exec_load_row rfl rfl (aD.ext (HX.out w' hE)) Tryz.underlying81 rfl hiD.out) ?_
  simp only [Act.put, List.setIfInBounds_toArray, List.set_cons_succ, List.set_cons_zero]
  clear d3
  refine FY.flow_g rfl rfl rfl (by simp) ⟨_, 0, rfl⟩ (fun v A B h hE => h.ext hE) (fun v A h => h.sh) (fun w5 hE5 _ => ?_) (fun v hv => ?_)
  · refine wpList_valw (v := .slice (some ⟨w5.heap.size, 0, none⟩) 1 1) (w' := w5.alloc (.cells D.toArray 81)) ?_ rfl (wpList_nil ?_)
    · exact exec_buildSlice1 rfl rfl (buildSlice_one Tryz.underlying39 info_realm (by omega) (by omega) D HDF.out.1 w5)
    · exact ⟨rfl, _, rfl, (Keep.refl _ w5).alloc _, _, rfl, Arr.new w5 _ _⟩
  obtain ⟨g1, rfl⟩ := hv
  simp only [Act.put, List.setIfInBounds_toArray, List.set_cons_succ, List.set_cons_zero]
  refine FY.flow_bvs rfl rfl rfl (by simp) (by kernel_rfl) (fun w5 hE5 hf => ?_)
  obtain ⟨_, q5, hAg⟩ : OneRow 81 D (.slice (some ⟨g1, 0, none⟩) 1 1) w5 := hf 6
  cases q5
  have hX5 := HX.out w5 hE5
  obtain ⟨a6, c6, w6, hrun, k6, k6', hput⟩ := (H3.out.ext hX5).appM hAg HDF.out.1 HDF.out.2.1 HDF.out.2.2.1 HDF.out.2.2.2.1 HDF.out.2.2.2.2 (HU3.out.ext hX5) (by have := HB.out.m; omega) (by have := HE3.out.size; have := hX5.size; omega)
  refine wpList_append_run hrun rfl rfl rfl rfl ?_
  refine ⟨rfl, _, rfl, k6.mono (fun _ _ _ hx => hx.mono (by decide)), ?_⟩
  simp only [Act.put, List.setIfInBounds_toArray, List.set_cons_succ, List.set_cons_zero]
  have HPUT := Lib.hid hput
  have HX5 := Lib.hid hX5
  have HK6 := Lib.hid k6
  have aD6 : Arr w6 p11 81 D := (aD.ext hX5).keep k6' (fun hx => by have := (HH.out.mo.lt p11 hx).2; omega)
  clear hrun hAg hf hX5 hE5 hput k6 k6' aD
  iterate 2 (refine FY.flow_q rfl rfl rfl ?_; go_big_quiet_step (fail); refine wpQuiet_nil ?_)
  refine FY.flow_ba rfl rfl rfl (by kernel_rfl) (fun w7 hE7 _ => ?_)
  have hE7' : Ext w6 w7 := hE7
  obtain ⟨h8, k8, f3, c3⟩ := HPUT.out w7 hE7'
  obtain ⟨w8, hw8⟩ : ∃ w8, w7.setCell ⟨X, 3, none⟩ (.slice a6 (x.ms.length + 1) c6) = w8 := ⟨_, rfl⟩
  rw [hw8] at h8 k8
  have HW8 := Lib.hid hw8
  have H8 := Lib.hid h8
  have HK8 := Lib.hid k8
  have HE7 := Lib.hid hE7'
  clear hw8 h8 k8 hE7' hE7
  go_wp2
  rw [HW8.out]
  refine ⟨HK8.out.mono (fun _ _ _ hx => hx.mono (by decide)), ?_⟩
  refine FY.flow_end (fun w9 hE9 _ => ?_)
  have hE9' : Ext w8 w9 := hE9
  have h9 := H8.out.ext hE9'
  have k39 : Keep (TX b [43, 81]) W3 w9 := ((((Keep.of_ext HX5.out).trans (HK6.out.mono (fun _ _ _ hx => hx.mono (by decide)))).trans (Keep.of_ext HE7.out)).trans (HK8.out.mono (fun _ _ _ hx => hx.mono (by decide)))).trans (Keep.of_ext hE9')
  have k09 := (Keep.of_ext (X := TX b [43, 81]) HE3.out).trans k39
  have hpX : p11 ≠ X := by have := HH.out.cells.lt; omega
  have aD9 : Arr w9 p11 81 D := ((aD6.ext HE7.out).keep (HK8.out) (TX.no (by decide))).ext hE9'
  have hi9 : ({ x with ms := x.ms ++ [(re, [gr])] } : RX).gs[i]? = some (n0, ms0) := HI.out
  obtain ⟨ag, cg, rfl, hrg⟩ := owns_row h9.go
  obtain ⟨g2, o2, C2, v2, ep2, rfl, h2l, h21, h20, h2e, _, _, h2ld⟩ := sec_struct hrg h9.gs hi9
  have hgc := hrg.1
  obtain ⟨G, hG⟩ : ∃ G, x.gs.length = G := ⟨_, rfl⟩
  have hcl := h9.cells
  rw [hG] at hcl hiG
  have hgc' : G ≤ cg := by rw [← hG]; exact hgc
  have hX : ∀ B, Ext w9.drew B → Ext w9 B := fun B hB => ((Keep.refl _ w9).drew).trans hB
  have d2 := fun g : FY.At (fun _ _ => False) w9.drew => (hcl.ext (hX _ g.ext)).cell (i := 2) rfl
  have hrd := fun B (hB : Ext w9 B) => readerX_any X B (Ext.cell hB (h9.cells.cell (i := 0) rfl)) D C2 re 0 n0 ep2 HDF.out.1 h2l HDF.out.2.2.1 HDF.out.2.2.2.1 h20 h2e
  have hi2 := Lib.hid (show (Tryz.prog.info? 84).map (·.size) = some C2.length by rw [size_group, h2l])
  have HRD := Lib.hid hrd
  have HLD2 := Lib.hid h2ld
  have HX9 := Lib.hid hX
  have H9 := Lib.hid h9
  have HK09 := Lib.hid k09
  clear hrd h2ld hX h9 k09 k39 hE9 hE9' aD6 hcl hG hrg h2l h21 h20 h2e hi9 hgc hpX c3 f3 HPUT
  go_wp2
  refine FY.wp_flow (X := fun _ _ => False) (0 :: 1 :: 2 :: 3 :: 4 :: 5 :: 6 :: 7 :: 8 :: 9 :: 10 :: []) (fun j => if j = 9 then .grows (fun v _ => v = .int .i64 0) (fun v => v = .int .i64 0) else .still) (by kernel_rfl) (by kernel_rfl) ?_
  iterate 1 (refine FY.flow_q rfl rfl rfl ?_; go_big_quiet_step (fail); refine wpQuiet_nil ?_)
  refine FY.flow_vq (v := .agg D.toArray) rfl rfl rfl (fun w' hE => exec_load_row rfl rfl (aD9.ext (HX9.out w' hE)) Tryz.underlying81 rfl hiD.out) ?_
  simp only [Act.put, List.setIfInBounds_toArray, List.set_cons_succ, List.set_cons_zero]
  iterate 6 (refine FY.flow_q rfl rfl rfl ?_; go_big_quiet_step (fail); refine wpQuiet_nil ?_)
  refine FY.flow_vq (v := .agg C2.toArray) rfl rfl rfl (fun w' hE => exec_load_mid' rfl rfl (HLD2.out w' (HX9.out w' hE)) Tryz.underlying84 rfl hi2.out) ?_
  simp only [Act.put, List.setIfInBounds_toArray, List.set_cons_succ, List.set_cons_zero]
  clear d2
  refine FY.flow_g rfl rfl rfl (by simp) ⟨_, rfl⟩ (fun _ _ _ h _ => h) (fun _ _ h => h) (fun w5 hE5 _ => ?_) (fun v hv => ?_)
  · have hcall := HRD.out w5 (HX9.out w5 hE5)
    go_wp2_with fail
    refine hcall.mono ?_
    rintro e w6 ⟨rfl, e6⟩
    clear hcall
    go_wp2
  subst hv
  simp only [Act.put, List.setIfInBounds_toArray, List.set_cons_succ, List.set_cons_zero]
  iterate 1 (refine FY.flow_q rfl rfl rfl ?_; go_big_quiet_step (fail); refine wpQuiet_nil ?_)
  refine FY.flow_end (fun wE hE _ => ?_)
  have hE' := HX9.out wE hE
  have hfin := HR.out (.returned (.int .i64 0)) wE ⟨rfl, ⟨_, _, _, _, _, _, _, _, _, H9.out.ext hE', hns⟩, HK09.out.trans (Keep.of_ext hE')⟩
  clear HR hE hE'
  go_wp2
  exact hfin
end Go.Proofs.YtcmhgpgookiomaaGreat
