/-
  TopRevoked: enrol: one is expelled. grant: a group reads no more. a group, a realm is added to a ring in memory.
-/
import Derived.Test.YtcmhgpgookiomaaGreatM01
import Derived.Test.YtcmhgpgookiomaaGreatM13
import Derived.Carry
import Derived.Deep.CutRange
namespace Go.Proofs.YtcmhgpgookiomaaGreat
open Go.RowKit Go.Shelf Go.Maps

attribute [local go_sem] Oper.semAt_some

set_option maxRecDepth 20000 in
set_option maxHeartbeats 16000000 in
theorem enrol5_any {w : World} {N R Q TB A PL : Nat} {st : St} (h : RingAt w N R Q TB A PL st) (hs : Small 12 12000 st.1) (who group realm : Nat) (hwho : who < 4294967296) (hgroup : group < 4294967296) (hrealm : realm < 4294967296) :
    Calls Tryz.prog 35 #[.pointer (some ⟨R, 0, none⟩), .agg #[.int .i64 5, .int .u32 (who : Int), .int .u32 (group : Int), .int .u32 (realm : Int)]] w fun e w' =>
      (changeP st ⟨5, who, group, realm⟩ = none → e = .returned (.int .i64 60) ∧ Keep (RgX N TB A PL) w w') ∧
      (∀ n st', changeP st ⟨5, who, group, realm⟩ = some (n, st') → e = .returned (.int .i64 (n : Int)) ∧ RingAt w' N R Q TB A PL st' ∧ Keep (RgX N TB A PL) w w') := by
  obtain ⟨b1, b2, b3, b4, b5, L4, L5, v, bv, h⟩ := h
  have HH := Lib.hid h
  have HS := Lib.hid hs
  have HRA := Lib.hid (show RingAt w N R Q TB A PL st from ⟨b1, b2, b3, b4, b5, L4, L5, v, bv, h⟩)
  have hl1 := fun A' (hE : Ext w A') => (h.ext hE).has_sec hwho
  have hl2 := fun A' (hE : Ext w A') => (h.ext hE).has_grp hgroup
  have HW := Lib.hid hwho
  have HG := Lib.hid hgroup
  have HM := Lib.hid hrealm
  have hlen1 := h.secA_len who
  have ho1 : ((secA st.1 who).map u8v).length = 32 := by rw [List.length_map, hlen1]
  unfold aggK at hl1
  obtain ⟨D1, hD1⟩ : ∃ D, (secA st.1 who).map u8v = D := ⟨_, rfl⟩
  have hone1 : D1.toArray.all (·.oneCell') = true := by rw [← hD1]; exact all_one _
  rw [hD1] at hl1 ho1
  have HI1 := Lib.hid (show (Tryz.prog.info? 51).map (·.size) = some D1.toArray.size by rw [info_key, List.size_toArray, ho1])
  have HO1 := Lib.hid (show 32 = D1.toArray.size by rw [List.size_toArray, ho1])
  have HN1 := Lib.hid hone1
  clear hlen1 ho1 hone1 hD1
  obtain ⟨hlen2, _⟩ := h.grpA_ok group
  have kc2 := kc_of (e := (grpA st.1 group).1) hlen2
  unfold keyedV at hl2
  obtain ⟨D2, hD2⟩ : ∃ D, keyedC (grpA st.1 group) = D := ⟨_, rfl⟩
  rw [show keyedC ((grpA st.1 group).1, (grpA st.1 group).2) = D2 from hD2] at kc2
  rw [hD2] at hl2
  have HI2 := Lib.hid kc2.info
  have HO2 := Lib.hid kc2.size
  have HN2 := Lib.hid kc2.one
  clear hlen2 kc2 hD2
  obtain ⟨p1, hp1⟩ : ∃ p, (getA st.1.sec who).isSome = p := ⟨_, rfl⟩
  obtain ⟨p2, hp2⟩ : ∃ p, (getA st.1.grp group).isSome = p := ⟨_, rfl⟩
  rw [hp1] at hl1
  rw [hp2] at hl2
  have HL1 := Lib.hid hl1
  have HL2 := Lib.hid hl2
  have HP1 := Lib.hid hp1
  have HP2 := Lib.hid hp2
  clear hl1 hl2 hp1 hp2 h hs hwho hgroup hrealm
  refine calls_cps fun R0 hR => ?_
  have HR := Lib.hid hR
  clear hR
  refine calls_marks Tryz.func35 rfl ?_
  simp only [Tryz.ntmps35, List.size_toArray, List.length_cons, List.length_nil, Nat.reduceAdd, Nat.reduceSub, Array.replicate_succ, Array.replicate_zero, List.push_toArray, List.append_toArray, List.nil_append, List.cons_append]
  go_wp2_with fail
  refine wp_laid3 fun W eW h1 h2 h3 => ?_
  have aR : Arr W w.heap.size 33 [.pointer (some ⟨R, 0, none⟩)] := h1
  have aC : Arr W (w.heap.size + 1) 25 [.int .i64 5, .int .u32 (who : Int), .int .u32 (group : Int), .int .u32 (realm : Int)] := h2
  have aE : Arr W (w.heap.size + 1 + 1) 44 [.int .i64 0] := h3
  have HEW := Lib.hid eW
  clear h1 h2 h3 eW
  have hX : ∀ B, Keep (fun k _ => W.heap.size ≤ k) W.drew B → Ext W B := fun B hB => (((Keep.refl (fun k _ => W.heap.size ≤ k) W).drew).trans hB).mono (fun k o ho hx => by have := Keep.lt ho; replace hx : W.heap.size ≤ k := hx; omega)
  have d0 := fun g : FX.At (fun k _ => W.heap.size ≤ k) W.drew => (aR.ext (hX _ g.ext)).cell (i := 0) rfl
  have d1 := fun g : FX.At (fun k _ => W.heap.size ≤ k) W.drew => Ext.cell (hX _ g.ext) (Ext.cell HEW.out (HH.out.cells.cell (i := 1) rfl))
  have d2 := fun g : FX.At (fun k _ => W.heap.size ≤ k) W.drew => (aC.ext (hX _ g.ext)).cell (i := 1) rfl
  have HX := Lib.hid hX
  clear hX
  refine FX.wp_flow (X := fun k _ => W.heap.size ≤ k) (fun n => if n = 10 then .grows (NewCell W.heap.size 51 32) PtrSh else if n = 11 then .bar else .reads) (by kernel_rfl) (by kernel_rfl) ?_
  iterate 6 (refine FX.flow_r rfl rfl ?_; go_big_quiet_step (fail); refine wpQuiet_nil ?_)
  refine FX.flow_v (v := .tuple #[.agg D1.toArray, .bool p1]) rfl rfl (fun w' hE => exec_lookup' rfl (HL1.out w' (HEW.out.trans (HX.out w' hE)))) ?_
  simp only [Act.put, List.setIfInBounds_toArray, List.set_cons_succ, List.set_cons_zero]
  iterate 3 (refine FX.flow_r rfl rfl ?_; go_big_quiet_step (fail); refine wpQuiet_nil ?_)
  refine FX.flow_g rfl rfl (by simp) ⟨_, 0, rfl⟩ (fun v A B h hE => h.ext hE) (fun v A h => h.sh) (fun w5 hE5 _ => ?_) (fun v hv => ?_)
  · refine wpList_valw (exec_alloc_key w5 rfl) rfl (wpList_nil ?_)
    exact ⟨rfl, _, rfl, (Keep.refl _ w5).alloc _, newCell_key (((Keep.refl _ W).drew).trans hE5)⟩
  obtain ⟨g1, rfl⟩ := hv
  simp only [Act.put, List.setIfInBounds_toArray, List.set_cons_succ, List.set_cons_zero]
  clear d0 d1 d2
  refine FX.flow_b rfl rfl (FX.bar_all (by kernel_rfl)) (fun w6 hE6 hf => ?_)
  have hnc : NewCell W.heap.size 51 32 (.pointer (some ⟨g1, 0, none⟩)) w6 := hf 10
  have hE6' : Ext W w6 := ((Keep.refl _ W).drew).trans hE6
  obtain ⟨_, C0, q, hb0, hlen0, hc0⟩ := hnc
  cases q
  have hK7 : Keep (fun k _ => W.heap.size ≤ k) w6 (w6.setRow g1 D1.toArray) := (keep_setRow w6 g1 D1.toArray).mono (fun k o _ hx => by rw [hx]; exact hb0)
  have hE7 : Ext W (w6.setRow g1 D1.toArray) := ((Keep.of_ext hE6').trans hK7).mono (fun k o ho hx => by have := Keep.lt ho; replace hx : W.heap.size ≤ k := hx; omega)
  have hsz : C0.toArray.size = D1.toArray.size := by rw [List.size_toArray, hlen0]; exact HO1.out
  have HK7 := Lib.hid hK7
  have HE7 := Lib.hid hE7
  have HSZ := Lib.hid hsz
  have HC0 := Lib.hid hc0
  clear hf hE6 hE6' hK7 hE7 hsz hc0 hlen0 hb0
  go_wp2_with (first
    | (refine wpList_skipw (o := ⟨none, .store _ _ _, _, _, _, _⟩) (w' := w6.setRow g1 D1.toArray) ?_ ?_ ?_; exact exec_store_row rfl rfl rfl HC0.out HI1.out HSZ.out HN1.out; rfl)
    | fail)
  refine ⟨HK7.out, ?_⟩
  refine FX.flow_r rfl rfl ?_; go_big_quiet_step (fail); refine wpQuiet_nil ?_
  refine FX.flow_end (fun w8 hE8 _ => ?_)
  replace hE8 : Ext W w8 := HE7.out.trans hE8
  have aR2 := aR.ext hE8
  have aC2 := aC.ext hE8
  have aE2 := aE.ext hE8
  have HEW2 := Lib.hid (HEW.out.trans hE8)
  obtain ⟨W2, hW2⟩ : ∃ W2, w8 = W2 := ⟨_, rfl⟩
  rw [hW2] at aR2 aC2 aE2 HEW2 ⊢
  clear hW2 hE8 HK7 HE7 HSZ HC0 aR aC aE HX
  have hFIN : ∀ (n : Nat) (st' : St) (w' w'' : World), RingAt w' N R Q TB A PL st' → Keep (RgX N TB A PL) w w' → Keep (ErrX w.heap.size) w' w'' → changeP st ⟨5, who, group, realm⟩ = some (n, st') → R0 (.returned (.int .i64 (n : Int))) w'' := fun n st' w' w'' h1 h2 h3 h4 => HR.out _ _ ⟨fun h => (by rw [h4] at h; cases h), fun n' st'' h => (by rw [h4] at h; cases h; exact ⟨rfl, h1.keepE h3, h2.errX h3⟩)⟩
  have hFNO : ∀ (w' w'' : World), Keep (RgX N TB A PL) w w' → Keep (ErrX w.heap.size) w' w'' → changeP st ⟨5, who, group, realm⟩ = none → R0 (.returned (.int .i64 60)) w'' := fun w' w'' h2 h3 h4 => HR.out _ _ ⟨fun _ => ⟨rfl, h2.errX h3⟩, fun n' st'' h => (by rw [h4] at h; cases h)⟩
  have FIN := Lib.hid hFIN
  have FNO := Lib.hid hFNO
  clear hFIN hFNO HR
  cases p1 with
  | false =>
    have hC : changeP st ⟨5, who, group, realm⟩ = some (210, st) := by
      unfold changeP
      simp [HP1.out]
    have c0 := aE2.cell (i := 0) rfl
    have f0 := aE2.frozen 0
    have hs1 := aE2.set 0 (.int .i64 210)
    have k9 := errX_set (B := w.heap.size) (v := .int .i64 210) aE2 (by omega)
    have hfin := FIN.out 210 st W2 _ (HRA.out.ext HEW2.out) (Keep.of_ext HEW2.out) k9 hC
    have HC := Lib.hid hC
    have cv := hs1.cell (i := 0) rfl
    clear FIN FNO k9 hC hs1 HL1 HL2
    go_wp2
    refine mark0_ret (v := .int .i64 210) rfl (by simp [results, Tryz.results35, go_sem]; rw [cv]) hfin
  | true =>
    go_wp2_with fail
    have hX : ∀ B, Keep (fun k _ => W2.heap.size ≤ k) W2.drew B → Ext W2 B := fun B hB => (((Keep.refl (fun k _ => W2.heap.size ≤ k) W2).drew).trans hB).mono (fun k o ho hx => by have := Keep.lt ho; replace hx : W2.heap.size ≤ k := hx; omega)
    have d0 := fun g : FX.At (fun k _ => W2.heap.size ≤ k) W2.drew => (aR2.ext (hX _ g.ext)).cell (i := 0) rfl
    have d1 := fun g : FX.At (fun k _ => W2.heap.size ≤ k) W2.drew => Ext.cell (hX _ g.ext) (Ext.cell HEW2.out (HH.out.cells.cell (i := 2) rfl))
    have d2 := fun g : FX.At (fun k _ => W2.heap.size ≤ k) W2.drew => (aC2.ext (hX _ g.ext)).cell (i := 2) rfl
    have HX := Lib.hid hX
    clear hX
    refine FX.wp_flow (X := fun k _ => W2.heap.size ≤ k) (fun n => if n = 10 then .grows (NewCell W2.heap.size 86 33) PtrSh else if n = 11 then .bar else .reads) (by kernel_rfl) (by kernel_rfl) ?_
    iterate 6 (refine FX.flow_r rfl rfl ?_; go_big_quiet_step (fail); refine wpQuiet_nil ?_)
    refine FX.flow_v (v := .tuple #[.agg D2.toArray, .bool p2]) rfl rfl (fun w' hE => exec_lookup' rfl (HL2.out w' (HEW2.out.trans (HX.out w' hE)))) ?_
    simp only [Act.put, List.setIfInBounds_toArray, List.set_cons_succ, List.set_cons_zero]
    iterate 3 (refine FX.flow_r rfl rfl ?_; go_big_quiet_step (fail); refine wpQuiet_nil ?_)
    refine FX.flow_g rfl rfl (by simp) ⟨_, 0, rfl⟩ (fun v A B h hE => h.ext hE) (fun v A h => h.sh) (fun w5 hE5 _ => ?_) (fun v hv => ?_)
    · refine wpList_valw (exec_alloc_keyed w5 rfl) rfl (wpList_nil ?_)
      exact ⟨rfl, _, rfl, (Keep.refl _ w5).alloc _, newCell_keyed (((Keep.refl _ W2).drew).trans hE5)⟩
    obtain ⟨g1, rfl⟩ := hv
    simp only [Act.put, List.setIfInBounds_toArray, List.set_cons_succ, List.set_cons_zero]
    clear d0 d1 d2
    refine FX.flow_b rfl rfl (FX.bar_all (by kernel_rfl)) (fun w6 hE6 hf => ?_)
    have hnc : NewCell W2.heap.size 86 33 (.pointer (some ⟨g1, 0, none⟩)) w6 := hf 10
    have hE6' : Ext W2 w6 := ((Keep.refl _ W2).drew).trans hE6
    obtain ⟨_, C0, q, hb0, hlen0, hc0⟩ := hnc
    cases q
    have hK7 : Keep (fun k _ => W2.heap.size ≤ k) w6 (w6.setRow g1 D2.toArray) := (keep_setRow w6 g1 D2.toArray).mono (fun k o _ hx => by rw [hx]; exact hb0)
    have hE7 : Ext W2 (w6.setRow g1 D2.toArray) := ((Keep.of_ext hE6').trans hK7).mono (fun k o ho hx => by have := Keep.lt ho; replace hx : W2.heap.size ≤ k := hx; omega)
    have hsz : C0.toArray.size = D2.toArray.size := by rw [List.size_toArray, hlen0]; exact HO2.out
    have HK7 := Lib.hid hK7
    have HE7 := Lib.hid hE7
    have HSZ := Lib.hid hsz
    have HC0 := Lib.hid hc0
    clear hf hE6 hE6' hK7 hE7 hsz hc0 hlen0 hb0
    go_wp2_with (first
      | (refine wpList_skipw (o := ⟨none, .store _ _ _, _, _, _, _⟩) (w' := w6.setRow g1 D2.toArray) ?_ ?_ ?_; exact exec_store_row rfl rfl rfl HC0.out HI2.out HSZ.out HN2.out; rfl)
      | fail)
    refine ⟨HK7.out, ?_⟩
    refine FX.flow_r rfl rfl ?_; go_big_quiet_step (fail); refine wpQuiet_nil ?_
    refine FX.flow_end (fun w8 hE8 _ => ?_)
    replace hE8 : Ext W2 w8 := HE7.out.trans hE8
    have aR3 := aR2.ext hE8
    have aC3 := aC2.ext hE8
    have aE3 := aE2.ext hE8
    have HEW3 := Lib.hid (HEW2.out.trans hE8)
    obtain ⟨W3, hW3⟩ : ∃ W3, w8 = W3 := ⟨_, rfl⟩
    rw [hW3] at aR3 aC3 aE3 HEW3 ⊢
    clear hW3 hE8 HK7 HE7 HSZ HC0 aR2 aC2 aE2 HX
    cases p2 with
    | false =>
      have hC : changeP st ⟨5, who, group, realm⟩ = some (211, st) := by
        unfold changeP
        simp [HP1.out, HP2.out]
      have c0 := aE3.cell (i := 0) rfl
      have f0 := aE3.frozen 0
      have hs1 := aE3.set 0 (.int .i64 211)
      have k9 := errX_set (B := w.heap.size) (v := .int .i64 211) aE3 (by omega)
      have hfin := FIN.out 211 st W3 _ (HRA.out.ext HEW3.out) (Keep.of_ext HEW3.out) k9 hC
      have HC := Lib.hid hC
      have cv := hs1.cell (i := 0) rfl
      clear FIN FNO k9 hC hs1 HL1 HL2
      go_wp2
      refine mark0_ret (v := .int .i64 211) rfl (by simp [results, Tryz.results35, go_sem]; rw [cv]) hfin
    | true =>
      obtain ⟨bm, hbm, hlm, hsm⟩ := HH.out.set_mem HG.out (HH.out.hasm group HP2.out)
      have hhas := fun A' (hE : Ext w A') => (hsm A' hE).has HW.out
      obtain ⟨p3, hp3⟩ : ∃ p, (getA (memA st.1 group) who).isSome = p := ⟨_, rfl⟩
      rw [hp3] at hhas
      have HLM := Lib.hid hlm
      have HSM := Lib.hid hsm
      have HHAS := Lib.hid hhas
      have HP3 := Lib.hid hp3
      have HBM := Lib.hid hbm
      clear hlm hsm hhas hp3 hbm
      have c4 := aC3.cell (i := 0) rfl
      go_wp2_with fail
      clear c4
      have d0 := fun g : At W3.drew => (aR3.ext (((Keep.refl _ W3).drew).trans g.ext)).cell (i := 0) rfl
      have d1 := fun g : At W3.drew => Ext.cell (((Keep.refl _ W3).drew).trans g.ext) (Ext.cell HEW3.out (HH.out.cells.cell (i := 4) rfl))
      have d2 := fun g : At W3.drew => (aC3.ext (((Keep.refl _ W3).drew).trans g.ext)).cell (i := 2) rfl
      have d3 := fun g : At W3.drew => (aC3.ext (((Keep.refl _ W3).drew).trans g.ext)).cell (i := 1) rfl
      cases p3
      all_goals
        refine wp_flow (fun _ => .reads) (by kernel_rfl) (by kernel_rfl) ?_
        iterate 6 (refine flow_r rfl rfl ?_; go_big_quiet_step (fail); refine wpQuiet_nil ?_)
        refine flow_v (v := .map (some bm)) rfl rfl (fun w' hE => exec_lookup' rfl (HLM.out w' ((HEW3.out.drew).trans hE))) ?_
        simp only [Act.put, List.setIfInBounds_toArray, List.set_cons_succ, List.set_cons_zero]
        iterate 2 (refine flow_r rfl rfl ?_; go_big_quiet_step (fail); refine wpQuiet_nil ?_)
      case false =>
        refine flow_v (v := .bool false) rfl rfl (fun w' hE => exec_lookup' rfl (HHAS.out w' ((HEW3.out.drew).trans hE))) ?_
        simp only [Act.put, List.setIfInBounds_toArray, List.set_cons_succ, List.set_cons_zero]
        iterate 2 (refine flow_r rfl rfl ?_; go_big_quiet_step (fail); refine wpQuiet_nil ?_)
        clear d0 d1 d2 d3
        refine flow_end (fun W4 hE4 _ => ?_)
        replace hE4 : Ext W3 W4 := ((Keep.refl _ W3).drew).trans hE4
        have aE4 := aE3.ext hE4
        have hC : changeP st ⟨5, who, group, realm⟩ = some (0, st) := by
          unfold changeP
          simp [HP1.out, HP2.out, HP3.out]
        have c0 := aE4.cell (i := 0) rfl
        have f0 := aE4.frozen 0
        have hs1 := aE4.set 0 (.int .i64 0)
        have k9 := errX_set (B := w.heap.size) (v := .int .i64 0) aE4 (by omega)
        have hfin := FIN.out 0 st W4 _ (HRA.out.ext (HEW3.out.trans hE4)) (Keep.of_ext (HEW3.out.trans hE4)) k9 hC
        have HC := Lib.hid hC
        have cv := hs1.cell (i := 0) rfl
        clear FIN FNO k9 hC hs1 HL1 HL2 hE4
        go_wp2
        refine mark0_ret (v := .int .i64 0) rfl (by simp [results, Tryz.results35, go_sem]; rw [cv]) hfin
      case true =>
        refine flow_v (v := .bool true) rfl rfl (fun w' hE => exec_lookup' rfl (HHAS.out w' ((HEW3.out.drew).trans hE))) ?_
        simp only [Act.put, List.setIfInBounds_toArray, List.set_cons_succ, List.set_cons_zero]
        iterate 2 (refine flow_r rfl rfl ?_; go_big_quiet_step (fail); refine wpQuiet_nil ?_)
        clear d0 d1 d2 d3
        refine flow_end (fun W4 hE4 _ => ?_)
        replace hE4 : Ext W3 W4 := ((Keep.refl _ W3).drew).trans hE4
        have aR4 := aR3.ext hE4
        have aC4 := aC3.ext hE4
        have aE4 := aE3.ext hE4
        have HEW4 := Lib.hid (HEW3.out.trans hE4)
        clear hE4 aR3 aC3 aE3
        go_wp2_with fail
        have d0 := fun g : At W4.drew => (aR4.ext (((Keep.refl _ W4).drew).trans g.ext)).cell (i := 0) rfl
        have d1 := fun g : At W4.drew => Ext.cell (((Keep.refl _ W4).drew).trans g.ext) (Ext.cell HEW4.out (HH.out.cells.cell (i := 4) rfl))
        have d2 := fun g : At W4.drew => (aC4.ext (((Keep.refl _ W4).drew).trans g.ext)).cell (i := 2) rfl
        have d3 := fun g : At W4.drew => (aC4.ext (((Keep.refl _ W4).drew).trans g.ext)).cell (i := 1) rfl
        refine wp_flow (fun n => if n = 9 then .bar else .reads) (by kernel_rfl) (by kernel_rfl) ?_
        iterate 6 (refine flow_r rfl rfl ?_; go_big_quiet_step (fail); refine wpQuiet_nil ?_)
        refine flow_v (v := .map (some bm)) rfl rfl (fun w' hE => exec_lookup' rfl (HLM.out w' ((HEW4.out.drew).trans hE))) ?_
        simp only [Act.put, List.setIfInBounds_toArray, List.set_cons_succ, List.set_cons_zero]
        iterate 2 (refine flow_r rfl rfl ?_; go_big_quiet_step (fail); refine wpQuiet_nil ?_)
        clear d0 d1 d2 d3
        refine flow_b rfl (by kernel_rfl) (fun w5 hE5 _ => ?_)
        replace hE5 : Ext W4 w5 := ((Keep.refl _ W4).drew).trans hE5
        have e5 : Ext w w5 := HEW4.out.trans hE5
        obtain ⟨w6, hrun, hm6, hk6⟩ := (HSM.out w5 e5).del (V := SetV) Tryz.underlying137 HW.out 0
        replace hrun : (Builtin.delete_ #[137, 22] 0 #[.map (some bm), .int .u32 (who : Int)]).run Tryz.prog w5 = .ok (.tuple #[]) w6 := hrun
        have hr6 := (HH.out.ext e5).turnMem HBM.out hm6 hk6
        have HRUN := Lib.hid hrun
        have hRA6 : RingAt w6 N R Q TB A PL ({ st.1 with mem := putA st.1.mem group (delA (memA st.1 group) who) }, st.2) := ⟨b1, b2, b3, b4, b5, L4, L5, v, bv, hr6⟩
        have HRA6 := Lib.hid hRA6
        have aR6 := (aR4.ext hE5).keep hk6 MapX.cells
        have aC6 := (aC4.ext hE5).keep hk6 MapX.cells
        have aE6 := (aE4.ext hE5).keep hk6 MapX.cells
        have HK6 := Lib.hid ((Keep.of_ext e5).trans (hk6.mono (fun k o _ hx => MapX.rg (N := N) (TB := TB) (A := A) (PL := PL) (HH.out.h4 _ _ HBM.out).1 hx)))
        clear hrun hm6 hk6 hr6 hRA6 e5 hE5 aR4 aC4 aE4
        go_wp2_with (first
          | (refine wpList_valw (o := ⟨none, .call _, _, _, _, _⟩) (v := .tuple #[]) (w' := w6) ?_ ?_ ?_; exact exec_delete' rfl HRUN.out; rfl)
          | fail)
        refine flow_end (fun w7 hE7 _ => ?_)
        replace hE7 : Ext w6 w7 := hE7
        have aR7 := aR6.ext hE7
        have aC7 := aC6.ext hE7
        have aE7 := aE6.ext hE7
        have HK7 := Lib.hid (HK6.out.trans (Keep.of_ext hE7))
        have HRA7 := Lib.hid (HRA6.out.ext hE7)
        obtain ⟨st6, hst6⟩ : ∃ s6 : St, (({ st.1 with mem := putA st.1.mem group (delA (memA st.1 group) who) }, st.2) : St) = s6 := ⟨_, rfl⟩
        have hS6 : Small 12 12000 st6.1 := by
          rw [← hst6]
          exact HS.out.delMem _ _ (HH.out.hasm group HP2.out)
        have hC : changeP st ⟨5, who, group, realm⟩ = (rekeyP st6 group).bind fun st => (eachP turnP (readP st.1 group) st).map fun st => (0, st) := by
          rw [← hst6]
          unfold changeP
          simp [HP1.out, HP2.out, HP3.out]
        have hing : In st6.1.grp group := by rw [← hst6]; exact HP2.out
        -- 
        rw [hst6] at HRA7
        have hcall := rekey_any HRA7.out group HG.out hing (by have := HS.out.box; rw [← hst6]; show st.1.box.length ≤ 900000; omega) (by have := hS6.grp; omega) (hS6.imem group)
        have HC := Lib.hid hC
        have HS6 := Lib.hid hS6
        have HING := Lib.hid hing
        clear hE7 HK6 HRA6 aR6 aC6 aE6 HRUN HLM HHAS HBM hC hS6 hing
        have c0 := aR7.cell (i := 0) rfl
        have c1 := aC7.cell (i := 2) rfl
        go_wp2_with fail
        refine hcall.mono ?_
        rintro e w9 ⟨hlo, hhi⟩
        clear hcall c0 c1
        cases hB : rekeyP st6 group with
        | none =>
          obtain ⟨rfl, k9⟩ := hlo hB
          have aE9 := aE7.keep k9 (RgX.cells (by decide) (by decide) (by decide))
          have hC : changeP st ⟨5, who, group, realm⟩ = none := by rw [HC.out, hB]; rfl
          have ke := errX_set (B := w.heap.size) (v := .int .i64 60) aE9 (by omega)
          have c0 := aE9.cell (i := 0) rfl
          have f0 := aE9.frozen 0
          have hs1 := aE9.set 0 (.int .i64 60)
          have cv := hs1.cell (i := 0) rfl
          have hfin := FNO.out w9 _ (HK7.out.trans k9) ke hC
          clear FIN FNO hlo hhi hB k9 hC ke hs1
          go_wp2
          refine mark0_ret (v := .int .i64 60) rfl (by simp [results, Tryz.results35, go_sem]; rw [cv]) hfin
        | some st9 =>
          obtain ⟨rfl, hr9, k9⟩ := hhi st9 hB
          have aR9 := aR7.keep k9 (RgX.cells (by decide) (by decide) (by decide))
          have aC9 := aC7.keep k9 (RgX.cells (by decide) (by decide) (by decide))
          have aE9 := aE7.keep k9 (RgX.cells (by decide) (by decide) (by decide))
          have hf9 := rekeyP_eff HS6.out.rgrp HING.out hB
          have h6b : st6.1.box.length ≤ 12000 := HS6.out.box
          have hS9 : Small 12 12012 st9.1 := HS6.out.eff (hf9.le (HS6.out.imem group))
          have h9b : st9.1.box.length ≤ 12012 := hS9.box
          have hC : changeP st ⟨5, who, group, realm⟩ = (eachP turnP (readP st9.1 group) st9).map fun st => (0, st) := by rw [HC.out, hB]; rfl
          have HC9 := Lib.hid hC
          have HK9 := Lib.hid (HK7.out.trans k9)
          have HR9 := Lib.hid hr9
          have HS9 := Lib.hid hS9
          have HB9 := Lib.hid h9b
          have HF9 := Lib.hid hf9
          clear hlo hhi hB k9 hC hr9 hS9 h9b h6b hf9 aR7 aC7 aE7 HK7 HRA7
          have c0 := aR9.cell (i := 0) rfl
          have c1 := aC9.cell (i := 2) rfl
          go_wp2_with fail
          refine (read_any w9 R group).mono ?_
          rintro e w10 ⟨rfl, hw10⟩
          clear c0 c1
          have e10 : Ext w9 w10 := by rw [hw10]; exact ((Keep.refl _ w9).alloc _).alloc _
          have q1 : Arr w10 w9.heap.size 33 [.pointer (some ⟨R, 0, none⟩)] := by rw [hw10]; exact (Arr.new w9 _ [.pointer (some ⟨R, 0, none⟩)]).alloc _
          have q2 : Arr w10 (w9.heap.size + 1) 22 [.int .u32 (group : Int)] := by
            rw [hw10]
            have := Arr.new (w9.alloc (.cells #[.pointer (some ⟨R, 0, none⟩)] 33)) 22 [.int .u32 (group : Int)]
            rwa [World.size_alloc] at this
          have aR10 := aR9.ext e10
          have aC10 := aC9.ext e10
          have aE10 := aE9.ext e10
          have hr10 := HR9.out.ext e10
          have h0 : w.heap.size ≤ w10.heap.size := by have := (HK9.out.trans (Keep.of_ext e10)).size; omega
          have HK10 := Lib.hid (HK9.out.trans (Keep.of_ext e10))
          obtain ⟨out, hout⟩ : ∃ out, (numsA st9.1.rlm).filter (rdIn st9.1.rdr group) = out := ⟨_, rfl⟩
          have hread : readP st9.1 group = out := by rw [readP_eq, hout]
          have hlow : ∀ m ∈ numsA st9.1.rlm, m < 4294967296 ∧ In st9.1.rdr m := fun m hm => by
            obtain ⟨b1', b2', b3', b4', b5', L4', L5', v', bv', hr⟩ := HR9.out
            have hi := in_nums.1 hm
            obtain ⟨y, hy⟩ := Option.isSome_iff_exists.1 hi
            exact ⟨hr.rlm.lt _ (getA_mem hy), hr.hasr m hi⟩
          have hol : out.length ≤ 12 := by
            rw [← hread]
            have := read_len st9.1 group
            have := HS9.out.rlm
            omega
          have hoin : ∀ m ∈ out, In st9.1.rlm m := fun m hm => by rw [← hread] at hm; exact read_in hm
          have holt : ∀ m ∈ out, m < 4294967296 := fun m hm => (hlow m (in_nums.2 (hoin m hm))).1
          have hit := read1_iter (N := N) (R := R) (Q := Q) (TB := TB) (A := A) (PL := PL) (C1 := w9.heap.size) (C2 := w9.heap.size + 1) (g := group) (numsA st9.1.rlm) st9.1.rdr HG.out (by rw [numsA_len]; exact HS9.out.rlm) hlow
          rw [hout] at hit
          obtain ⟨F, hF⟩ : ∃ F : St → Nat → Option St, F = turnP := ⟨_, rfl⟩
          have hFe : ∀ st x, F st x = turnP st x := fun st x => by rw [hF]
          have hstep : ∀ (k : Nat) (sk s' : St), k < out.length → Eff st9 sk (13 * k) → F sk (out.getD k 0) = some s' → Eff st9 s' (13 * (k + 1)) := fun k sk s' hk e he => by
            have hm : out.getD k 0 ∈ out := by
              rw [List.getD_eq_getElem?_getD, List.getElem?_eq_getElem hk]; exact List.getElem_mem hk
            have hrs : Rise sk.1.rlm := rise_nums e.rlm HS9.out.rrlm
            rw [hFe] at he
            exact (e.trans (turnP_eff hrs ((in_of_nums e.rlm).2 (hoin _ hm)) he)).le (by have : (rdrA sk.1 (out.getD k 0)).length ≤ 12 := by { unfold rdrA; rw [e.rdr]; exact HS9.out.irdr _ }; omega)
          have HIT := Lib.hid hit
          have HSTEP := Lib.hid hstep
          have HOL := Lib.hid hol
          have HOIN := Lib.hid hoin
          have HOLT := Lib.hid holt
          have HREAD := Lib.hid hread
          have HQ1 := Lib.hid q1
          have HQ2 := Lib.hid q2
          have HFE := Lib.hid hFe
          have hrest : ∀ k (hk : k < out.length) (sk : St), eachP F (out.drop k) sk = (F sk (out.getD k 0)).bind (eachP F (out.drop (k + 1))) := fun k hk sk => eachP_step F out k (out.getD k 0) (by rw [List.getD_eq_getElem?_getD, List.getElem?_eq_getElem hk]; rfl) sk
          have HREST := Lib.hid hrest
          clear hit hstep hol hoin holt hread q1 q2 hFe hrest hlow hout hw10 aR9 aC9 aE9 HING HP1 HP2 HP3 HSM
          go_wp2
          refine rangeR_wp rfl (enters_of Tryz.func80 (by kernel_rfl) rfl) HIT.out rfl (fun _ _ h => h.2.2.1 _ rfl) (fun _ _ h => h.2.2.2 _ rfl)
            (fun B hB => ⟨HQ1.out.ext hB, HQ2.out.ext hB, st9, hr10.ext hB, rfl⟩)
            (fun k B => ∃ sk, RingAt B N R Q TB A PL sk ∧ eachP F out st9 = eachP F (out.drop k) sk ∧ Eff st9 sk (13 * k) ∧ Arr B w.heap.size 33 [.pointer (some ⟨R, 0, none⟩)] ∧ Arr B (w.heap.size + 1) 25 [.int .i64 5, .int .u32 (who : Int), .int .u32 (group : Int), .int .u32 (realm : Int)] ∧ Arr B (w.heap.size + 1 + 1) 44 [.int .i64 0] ∧ Keep (RgX N TB A PL) w B)
            (fun k c B => c = .ret ∧ eachP F out st9 = none ∧ Arr B (w.heap.size + 1 + 1) 44 [.int .i64 60] ∧ Keep (RgX N TB A PL) w B)
            (fun k B B' ⟨sk, i1, i2, i3, i4, i5, i6, i7⟩ hk => ⟨sk, i1.keepE (errX_mark hk h0), i2, i3, i4.keep hk mark_cells, i5.keep hk mark_cells, i6.keep hk mark_cells, i7.errX (errX_mark hk h0)⟩)
            (fun k c B B' ⟨i1, i2, i3, i4⟩ hk => ⟨i1, i2, i3.keep hk mark_cells, i4.errX (errX_mark hk h0)⟩)
            (fun k B ⟨sk, i1, i2, i3, _⟩ => ⟨sk, i1, i3.rdr⟩)
            ⟨st9, hr10, by rw [List.drop_zero], Eff.refl _, aR10, aC10, aE10, HK10.out⟩ ?round ?done ?stop
          case round =>
            rintro l k B KN KX hk ⟨sk, i1, i2, i3, i4, i5, i6, i7⟩ hKN hKX
            have HKN := Lib.hid hKN
            have HKX := Lib.hid hKX
            clear hKN hKX
            obtain ⟨x, hxe⟩ : ∃ x, out.getD k 0 = x := ⟨_, rfl⟩
            simp only [hxe, u32n]
            have HXE := Lib.hid hxe
            clear hxe
            gi_wp2
            refine ⟨Keep.refl _ _, fun C hC => ?_⟩
            have hm : out.getD k 0 ∈ out := by
              rw [List.getD_eq_getElem?_getD, List.getElem?_eq_getElem hk]; exact List.getElem_mem hk
            have hx := HOLT.out _ hm
            have hin := (in_of_nums i3.rlm).2 (HOIN.out _ hm)
            have hki : k ≤ 12 := by have := HOL.out; omega
            have hbx : sk.1.box.length ≤ 13000 := by have := i3.box; have := HB9.out; omega
            have hrl : sk.1.rlm.length ≤ 12 := by rw [len_of_nums i3.rlm]; exact HS9.out.rlm
            have hrd : (rdrA sk.1 (out.getD k 0)).length ≤ 12 := by unfold rdrA; rw [i3.rdr]; exact HS9.out.irdr _
            have hcall := turn_any (i1.keepE (errX_mark hC h0)) (out.getD k 0) hx hin (by omega) (by omega) hrd
            rw [HREST.out k hk sk] at i2
            have HI2 := Lib.hid i2
            have hst := fun s' => HSTEP.out k sk s' hk i3
            have HST := Lib.hid hst
            replace i4 := i4.keep hC mark_cells
            replace i5 := i5.keep hC mark_cells
            replace i6 := i6.keep hC mark_cells
            have HI7 := Lib.hid (i7.errX (errX_mark hC h0))
            have HK := Lib.hid hk
            clear hst i1 i2 i3 i7 hin hm hx hrd hrl hbx
            rw [← HFE.out] at hcall
            rw [HXE.out] at hcall HI2 HST
            have c0 := i4.cell (i := 0) rfl
            have c1 := i5.cell (i := 2) rfl
            clear hk hC
            gi_wp2_with fail
            refine ⟨trivial, (CallsIn.inRound l (callsIn_wide.2 hcall)).mono ?_⟩
            rintro e D ⟨hlo, hhi⟩
            clear hcall c0 c1
            cases hB : F sk x with
            | none =>
              obtain ⟨rfl, k9⟩ := hlo hB
              have aE9 := i6.keep k9 (RgX.cells (by decide) (by decide) (by decide))
              have hn : eachP F out st9 = none := by rw [HI2.out, hB]; rfl
              have c0 := aE9.cell (i := 0) rfl
              have f0 := aE9.frozen 0
              have hs1 := aE9.set 0 (.int .i64 60)
              have hkd : Keep RdY C (D.setCell ⟨w.heap.size + 1 + 1, 0, none⟩ (.int .i64 60)) := (k9.mono (fun _ _ _ h => RdY.of_rg h)).trans ((keep_setCell D (w.heap.size + 1 + 1) 0 (.int .i64 60)).mono (fun k o ho hx => by
                rw [hx, show D.heap[w.heap.size + 1 + 1]? = _ from aE9] at ho
                cases ho
                exact RdY.err))
              have hfin := HKX.out .ret C _ hkd ⟨rfl, hn, hs1, (HI7.out.trans k9).errX (errX_set aE9 (by omega))⟩
              clear hlo hhi hB k9 hn hs1 hkd HKN HKX
              gi_wp2
              exact hfin
            | some s9 =>
              obtain ⟨rfl, hr9, k9⟩ := hhi s9 hB
              have hn : eachP F out st9 = eachP F (out.drop (k + 1)) s9 := by rw [HI2.out, hB]; rfl
              have hfin := HKN.out C D (k9.mono (fun _ _ _ h => RdY.of_rg h)) ⟨s9, hr9, hn, HST.out s9 hB, i4.keep k9 (RgX.cells (by decide) (by decide) (by decide)), i5.keep k9 (RgX.cells (by decide) (by decide) (by decide)), i6.keep k9 (RgX.cells (by decide) (by decide) (by decide)), HI7.out.trans k9⟩
              clear hlo hhi hB k9 hn hr9 HKN HKX
              gi_wp2
              exact hfin
          case done =>
            rintro D B hD ⟨sk, i1, i2, i3, i4, i5, i6, i7⟩ hd
            rw [eachP_end] at i2
            have hC : changeP st ⟨5, who, group, realm⟩ = some (0, sk) := by rw [HC9.out, HREAD.out, ← hF, i2]; rfl
            have h02 := aE10.lt
            have c0 := i6.cell (i := 0) rfl
            have f0 := i6.frozen 0
            have hs1 := i6.set 0 (.int .i64 0)
            have hd' : (B.setCell ⟨w.heap.size + 1 + 1, 0, none⟩ (.int .i64 0)).heap[D]? = some (.deferred (some [])) := (keep_setCell B (w.heap.size + 1 + 1) 0 (.int .i64 0)).block D _ hd (fun hx => by have hx : D = w.heap.size + 1 + 1 := hx; omega)
            have hdd : Keep (ErrX w.heap.size) B ((B.setCell ⟨w.heap.size + 1 + 1, 0, none⟩ (.int .i64 0)).putObj D (.deferred none)) := (errX_set i6 (by omega)).trans ((Keep.refl _ _).putObj _ _ (fun o ho => by rw [hd'] at ho; cases ho; exact ⟨by omega, .inr (.inl ⟨_, rfl⟩)⟩))
            have hfin := FIN.out 0 sk B _ i1 i7 hdd hC
            have cv := (hs1.keep (X := fun k _ => k = D) ((Keep.refl _ _).putObj D (.deferred none) (fun _ _ => rfl)) (fun hx => by have hx : w.heap.size + 1 + 1 = D := hx; omega)).cell (i := 0) rfl
            have HD := Lib.hid hd'
            clear hdd hd hd' FNO FIN hC i2 i1 i7 i3 hs1 h02
            go_wp2
            refine mark_ret HD.out rfl (v := .int .i64 0) (by simp [results, Tryz.results35, go_sem]; rw [cv]) hfin
          case stop =>
            rintro D c k B hD hk ⟨rfl, i2, i3, i4⟩ hd
            have hC : changeP st ⟨5, who, group, realm⟩ = none := by rw [HC9.out, HREAD.out, ← hF, i2]; rfl
            have hdd : Keep (ErrX w.heap.size) B (B.putObj D (.deferred none)) := (Keep.refl _ B).putObj _ _ (fun o ho => by rw [hd] at ho; cases ho; exact ⟨by omega, .inr (.inl ⟨_, rfl⟩)⟩)
            have hfin := FNO.out B _ i4 hdd hC
            have h02 := aE10.lt
            have cv := (i3.keep (X := fun k _ => k = D) ((Keep.refl _ B).putObj D (.deferred none) (fun _ _ => rfl)) (fun hx => by have hx : w.heap.size + 1 + 1 = D := hx; omega)).cell (i := 0) rfl
            have HD := Lib.hid hd
            clear hdd hd FNO FIN hC i2 i4
            go_wp2
            refine mark_ret HD.out rfl (v := .int .i64 60) (by simp [results, Tryz.results35, go_sem]; rw [cv]) hfin
end Go.Proofs.YtcmhgpgookiomaaGreat
namespace Go.Proofs.YtcmhgpgookiomaaGreat
open Go.RowKit Go.Shelf Go.Maps

attribute [local go_sem] Oper.semAt_some

set_option maxRecDepth 20000 in
set_option maxHeartbeats 16000000 in
theorem grant7_any {w : World} {N R Q TB A PL : Nat} {st : St} (h : RingAt w N R Q TB A PL st) (hs : Small 12 12000 st.1) (who group realm : Nat) (hwho : who < 4294967296) (hgroup : group < 4294967296) (hrealm : realm < 4294967296) :
    Calls Tryz.prog 36 #[.pointer (some ⟨R, 0, none⟩), .agg #[.int .i64 7, .int .u32 (who : Int), .int .u32 (group : Int), .int .u32 (realm : Int)]] w fun e w' =>
      (changeP st ⟨7, who, group, realm⟩ = none → e = .returned (.int .i64 60) ∧ Keep (RgX N TB A PL) w w') ∧
      (∀ n st', changeP st ⟨7, who, group, realm⟩ = some (n, st') → e = .returned (.int .i64 (n : Int)) ∧ RingAt w' N R Q TB A PL st' ∧ Keep (RgX N TB A PL) w w') := by
  obtain ⟨b1, b2, b3, b4, b5, L4, L5, v, bv, h⟩ := h
  have HH := Lib.hid h
  have HS := Lib.hid hs
  have HRA := Lib.hid (show RingAt w N R Q TB A PL st from ⟨b1, b2, b3, b4, b5, L4, L5, v, bv, h⟩)
  have hl1 := fun A' (hE : Ext w A') => (h.ext hE).has_grp hgroup
  have hl2 := fun A' (hE : Ext w A') => (h.ext hE).has_rlm hrealm
  have HW := Lib.hid hwho
  have HG := Lib.hid hgroup
  have HM := Lib.hid hrealm
  obtain ⟨hlen1, _⟩ := h.grpA_ok group
  have kc1 := kc_of (e := (grpA st.1 group).1) hlen1
  unfold keyedV at hl1
  obtain ⟨D1, hD1⟩ : ∃ D, keyedC (grpA st.1 group) = D := ⟨_, rfl⟩
  rw [show keyedC ((grpA st.1 group).1, (grpA st.1 group).2) = D1 from hD1] at kc1
  rw [hD1] at hl1
  have HI1 := Lib.hid kc1.info
  have HO1 := Lib.hid kc1.size
  have HN1 := Lib.hid kc1.one
  clear hlen1 kc1 hD1
  obtain ⟨hlen2, _⟩ := h.rlmA_ok realm
  have kc2 := kc_of (e := (rlmA st.1 realm).1) hlen2
  unfold keyedV at hl2
  obtain ⟨D2, hD2⟩ : ∃ D, keyedC (rlmA st.1 realm) = D := ⟨_, rfl⟩
  rw [show keyedC ((rlmA st.1 realm).1, (rlmA st.1 realm).2) = D2 from hD2] at kc2
  rw [hD2] at hl2
  have HI2 := Lib.hid kc2.info
  have HO2 := Lib.hid kc2.size
  have HN2 := Lib.hid kc2.one
  clear hlen2 kc2 hD2
  obtain ⟨p1, hp1⟩ : ∃ p, (getA st.1.grp group).isSome = p := ⟨_, rfl⟩
  obtain ⟨p2, hp2⟩ : ∃ p, (getA st.1.rlm realm).isSome = p := ⟨_, rfl⟩
  rw [hp1] at hl1
  rw [hp2] at hl2
  have HL1 := Lib.hid hl1
  have HL2 := Lib.hid hl2
  have HP1 := Lib.hid hp1
  have HP2 := Lib.hid hp2
  clear hl1 hl2 hp1 hp2 h hs hwho hgroup hrealm
  refine calls_cps fun R0 hR => ?_
  have HR := Lib.hid hR
  clear hR
  refine calls_marks Tryz.func36 rfl ?_
  simp only [Tryz.ntmps36, List.size_toArray, List.length_cons, List.length_nil, Nat.reduceAdd, Nat.reduceSub, Array.replicate_succ, Array.replicate_zero, List.push_toArray, List.append_toArray, List.nil_append, List.cons_append]
  go_wp2_with fail
  refine wp_laid3 fun W eW h1 h2 h3 => ?_
  have aR : Arr W w.heap.size 33 [.pointer (some ⟨R, 0, none⟩)] := h1
  have aC : Arr W (w.heap.size + 1) 25 [.int .i64 7, .int .u32 (who : Int), .int .u32 (group : Int), .int .u32 (realm : Int)] := h2
  have aE : Arr W (w.heap.size + 1 + 1) 44 [.int .i64 0] := h3
  have HEW := Lib.hid eW
  clear h1 h2 h3 eW
  have hX : ∀ B, Keep (fun k _ => W.heap.size ≤ k) W.drew B → Ext W B := fun B hB => (((Keep.refl (fun k _ => W.heap.size ≤ k) W).drew).trans hB).mono (fun k o ho hx => by have := Keep.lt ho; replace hx : W.heap.size ≤ k := hx; omega)
  have d0 := fun g : FX.At (fun k _ => W.heap.size ≤ k) W.drew => (aR.ext (hX _ g.ext)).cell (i := 0) rfl
  have d1 := fun g : FX.At (fun k _ => W.heap.size ≤ k) W.drew => Ext.cell (hX _ g.ext) (Ext.cell HEW.out (HH.out.cells.cell (i := 2) rfl))
  have d2 := fun g : FX.At (fun k _ => W.heap.size ≤ k) W.drew => (aC.ext (hX _ g.ext)).cell (i := 2) rfl
  have HX := Lib.hid hX
  clear hX
  refine FX.wp_flow (X := fun k _ => W.heap.size ≤ k) (fun n => if n = 10 then .grows (NewCell W.heap.size 86 33) PtrSh else if n = 11 then .bar else .reads) (by kernel_rfl) (by kernel_rfl) ?_
  iterate 6 (refine FX.flow_r rfl rfl ?_; go_big_quiet_step (fail); refine wpQuiet_nil ?_)
  refine FX.flow_v (v := .tuple #[.agg D1.toArray, .bool p1]) rfl rfl (fun w' hE => exec_lookup' rfl (HL1.out w' (HEW.out.trans (HX.out w' hE)))) ?_
  simp only [Act.put, List.setIfInBounds_toArray, List.set_cons_succ, List.set_cons_zero]
  iterate 3 (refine FX.flow_r rfl rfl ?_; go_big_quiet_step (fail); refine wpQuiet_nil ?_)
  refine FX.flow_g rfl rfl (by simp) ⟨_, 0, rfl⟩ (fun v A B h hE => h.ext hE) (fun v A h => h.sh) (fun w5 hE5 _ => ?_) (fun v hv => ?_)
  · refine wpList_valw (exec_alloc_keyed w5 rfl) rfl (wpList_nil ?_)
    exact ⟨rfl, _, rfl, (Keep.refl _ w5).alloc _, newCell_keyed (((Keep.refl _ W).drew).trans hE5)⟩
  obtain ⟨g1, rfl⟩ := hv
  simp only [Act.put, List.setIfInBounds_toArray, List.set_cons_succ, List.set_cons_zero]
  clear d0 d1 d2
  refine FX.flow_b rfl rfl (FX.bar_all (by kernel_rfl)) (fun w6 hE6 hf => ?_)
  have hnc : NewCell W.heap.size 86 33 (.pointer (some ⟨g1, 0, none⟩)) w6 := hf 10
  have hE6' : Ext W w6 := ((Keep.refl _ W).drew).trans hE6
  obtain ⟨_, C0, q, hb0, hlen0, hc0⟩ := hnc
  cases q
  have hK7 : Keep (fun k _ => W.heap.size ≤ k) w6 (w6.setRow g1 D1.toArray) := (keep_setRow w6 g1 D1.toArray).mono (fun k o _ hx => by rw [hx]; exact hb0)
  have hE7 : Ext W (w6.setRow g1 D1.toArray) := ((Keep.of_ext hE6').trans hK7).mono (fun k o ho hx => by have := Keep.lt ho; replace hx : W.heap.size ≤ k := hx; omega)
  have hsz : C0.toArray.size = D1.toArray.size := by rw [List.size_toArray, hlen0]; exact HO1.out
  have HK7 := Lib.hid hK7
  have HE7 := Lib.hid hE7
  have HSZ := Lib.hid hsz
  have HC0 := Lib.hid hc0
  clear hf hE6 hE6' hK7 hE7 hsz hc0 hlen0 hb0
  go_wp2_with (first
    | (refine wpList_skipw (o := ⟨none, .store _ _ _, _, _, _, _⟩) (w' := w6.setRow g1 D1.toArray) ?_ ?_ ?_; exact exec_store_row rfl rfl rfl HC0.out HI1.out HSZ.out HN1.out; rfl)
    | fail)
  refine ⟨HK7.out, ?_⟩
  refine FX.flow_r rfl rfl ?_; go_big_quiet_step (fail); refine wpQuiet_nil ?_
  refine FX.flow_end (fun w8 hE8 _ => ?_)
  replace hE8 : Ext W w8 := HE7.out.trans hE8
  have aR2 := aR.ext hE8
  have aC2 := aC.ext hE8
  have aE2 := aE.ext hE8
  have HEW2 := Lib.hid (HEW.out.trans hE8)
  obtain ⟨W2, hW2⟩ : ∃ W2, w8 = W2 := ⟨_, rfl⟩
  rw [hW2] at aR2 aC2 aE2 HEW2 ⊢
  clear hW2 hE8 HK7 HE7 HSZ HC0 aR aC aE HX
  have hFIN : ∀ (n : Nat) (st' : St) (w' w'' : World), RingAt w' N R Q TB A PL st' → Keep (RgX N TB A PL) w w' → Keep (ErrX w.heap.size) w' w'' → changeP st ⟨7, who, group, realm⟩ = some (n, st') → R0 (.returned (.int .i64 (n : Int))) w'' := fun n st' w' w'' h1 h2 h3 h4 => HR.out _ _ ⟨fun h => (by rw [h4] at h; cases h), fun n' st'' h => (by rw [h4] at h; cases h; exact ⟨rfl, h1.keepE h3, h2.errX h3⟩)⟩
  have hFNO : ∀ (w' w'' : World), Keep (RgX N TB A PL) w w' → Keep (ErrX w.heap.size) w' w'' → changeP st ⟨7, who, group, realm⟩ = none → R0 (.returned (.int .i64 60)) w'' := fun w' w'' h2 h3 h4 => HR.out _ _ ⟨fun _ => ⟨rfl, h2.errX h3⟩, fun n' st'' h => (by rw [h4] at h; cases h)⟩
  have FIN := Lib.hid hFIN
  have FNO := Lib.hid hFNO
  clear hFIN hFNO HR
  cases p1 with
  | false =>
    have hC : changeP st ⟨7, who, group, realm⟩ = some (211, st) := by
      unfold changeP
      simp [HP1.out]
    have c0 := aE2.cell (i := 0) rfl
    have f0 := aE2.frozen 0
    have hs1 := aE2.set 0 (.int .i64 211)
    have k9 := errX_set (B := w.heap.size) (v := .int .i64 211) aE2 (by omega)
    have hfin := FIN.out 211 st W2 _ (HRA.out.ext HEW2.out) (Keep.of_ext HEW2.out) k9 hC
    have HC := Lib.hid hC
    have cv := hs1.cell (i := 0) rfl
    clear FIN FNO k9 hC hs1 HL1 HL2
    go_wp2
    refine mark0_ret (v := .int .i64 211) rfl (by simp [results, Tryz.results36, go_sem]; rw [cv]) hfin
  | true =>
    go_wp2_with fail
    have hX : ∀ B, Keep (fun k _ => W2.heap.size ≤ k) W2.drew B → Ext W2 B := fun B hB => (((Keep.refl (fun k _ => W2.heap.size ≤ k) W2).drew).trans hB).mono (fun k o ho hx => by have := Keep.lt ho; replace hx : W2.heap.size ≤ k := hx; omega)
    have d0 := fun g : FX.At (fun k _ => W2.heap.size ≤ k) W2.drew => (aR2.ext (hX _ g.ext)).cell (i := 0) rfl
    have d1 := fun g : FX.At (fun k _ => W2.heap.size ≤ k) W2.drew => Ext.cell (hX _ g.ext) (Ext.cell HEW2.out (HH.out.cells.cell (i := 3) rfl))
    have d2 := fun g : FX.At (fun k _ => W2.heap.size ≤ k) W2.drew => (aC2.ext (hX _ g.ext)).cell (i := 3) rfl
    have HX := Lib.hid hX
    clear hX
    refine FX.wp_flow (X := fun k _ => W2.heap.size ≤ k) (fun n => if n = 10 then .grows (NewCell W2.heap.size 86 33) PtrSh else if n = 11 then .bar else .reads) (by kernel_rfl) (by kernel_rfl) ?_
    iterate 6 (refine FX.flow_r rfl rfl ?_; go_big_quiet_step (fail); refine wpQuiet_nil ?_)
    refine FX.flow_v (v := .tuple #[.agg D2.toArray, .bool p2]) rfl rfl (fun w' hE => exec_lookup' rfl (HL2.out w' (HEW2.out.trans (HX.out w' hE)))) ?_
    simp only [Act.put, List.setIfInBounds_toArray, List.set_cons_succ, List.set_cons_zero]
    iterate 3 (refine FX.flow_r rfl rfl ?_; go_big_quiet_step (fail); refine wpQuiet_nil ?_)
    refine FX.flow_g rfl rfl (by simp) ⟨_, 0, rfl⟩ (fun v A B h hE => h.ext hE) (fun v A h => h.sh) (fun w5 hE5 _ => ?_) (fun v hv => ?_)
    · refine wpList_valw (exec_alloc_keyed w5 rfl) rfl (wpList_nil ?_)
      exact ⟨rfl, _, rfl, (Keep.refl _ w5).alloc _, newCell_keyed (((Keep.refl _ W2).drew).trans hE5)⟩
    obtain ⟨g1, rfl⟩ := hv
    simp only [Act.put, List.setIfInBounds_toArray, List.set_cons_succ, List.set_cons_zero]
    clear d0 d1 d2
    refine FX.flow_b rfl rfl (FX.bar_all (by kernel_rfl)) (fun w6 hE6 hf => ?_)
    have hnc : NewCell W2.heap.size 86 33 (.pointer (some ⟨g1, 0, none⟩)) w6 := hf 10
    have hE6' : Ext W2 w6 := ((Keep.refl _ W2).drew).trans hE6
    obtain ⟨_, C0, q, hb0, hlen0, hc0⟩ := hnc
    cases q
    have hK7 : Keep (fun k _ => W2.heap.size ≤ k) w6 (w6.setRow g1 D2.toArray) := (keep_setRow w6 g1 D2.toArray).mono (fun k o _ hx => by rw [hx]; exact hb0)
    have hE7 : Ext W2 (w6.setRow g1 D2.toArray) := ((Keep.of_ext hE6').trans hK7).mono (fun k o ho hx => by have := Keep.lt ho; replace hx : W2.heap.size ≤ k := hx; omega)
    have hsz : C0.toArray.size = D2.toArray.size := by rw [List.size_toArray, hlen0]; exact HO2.out
    have HK7 := Lib.hid hK7
    have HE7 := Lib.hid hE7
    have HSZ := Lib.hid hsz
    have HC0 := Lib.hid hc0
    clear hf hE6 hE6' hK7 hE7 hsz hc0 hlen0 hb0
    go_wp2_with (first
      | (refine wpList_skipw (o := ⟨none, .store _ _ _, _, _, _, _⟩) (w' := w6.setRow g1 D2.toArray) ?_ ?_ ?_; exact exec_store_row rfl rfl rfl HC0.out HI2.out HSZ.out HN2.out; rfl)
      | fail)
    refine ⟨HK7.out, ?_⟩
    refine FX.flow_r rfl rfl ?_; go_big_quiet_step (fail); refine wpQuiet_nil ?_
    refine FX.flow_end (fun w8 hE8 _ => ?_)
    replace hE8 : Ext W2 w8 := HE7.out.trans hE8
    have aR3 := aR2.ext hE8
    have aC3 := aC2.ext hE8
    have aE3 := aE2.ext hE8
    have HEW3 := Lib.hid (HEW2.out.trans hE8)
    obtain ⟨W3, hW3⟩ : ∃ W3, w8 = W3 := ⟨_, rfl⟩
    rw [hW3] at aR3 aC3 aE3 HEW3 ⊢
    clear hW3 hE8 HK7 HE7 HSZ HC0 aR2 aC2 aE2 HX
    cases p2 with
    | false =>
      have hC : changeP st ⟨7, who, group, realm⟩ = some (212, st) := by
        unfold changeP
        simp [HP1.out, HP2.out]
      have c0 := aE3.cell (i := 0) rfl
      have f0 := aE3.frozen 0
      have hs1 := aE3.set 0 (.int .i64 212)
      have k9 := errX_set (B := w.heap.size) (v := .int .i64 212) aE3 (by omega)
      have hfin := FIN.out 212 st W3 _ (HRA.out.ext HEW3.out) (Keep.of_ext HEW3.out) k9 hC
      have HC := Lib.hid hC
      have cv := hs1.cell (i := 0) rfl
      clear FIN FNO k9 hC hs1 HL1 HL2
      go_wp2
      refine mark0_ret (v := .int .i64 212) rfl (by simp [results, Tryz.results36, go_sem]; rw [cv]) hfin
    | true =>
      obtain ⟨bm, hbm, hlm, hsm⟩ := HH.out.set_rdr HM.out (HH.out.hasr realm HP2.out)
      have hhas := fun A' (hE : Ext w A') => (hsm A' hE).has HG.out
      obtain ⟨p3, hp3⟩ : ∃ p, (getA (rdrA st.1 realm) group).isSome = p := ⟨_, rfl⟩
      rw [hp3] at hhas
      have HLM := Lib.hid hlm
      have HSM := Lib.hid hsm
      have HHAS := Lib.hid hhas
      have HP3 := Lib.hid hp3
      have HBM := Lib.hid hbm
      clear hlm hsm hhas hp3 hbm
      have c4 := aC3.cell (i := 0) rfl
      go_wp2_with fail
      clear c4
      have d0 := fun g : At W3.drew => (aR3.ext (((Keep.refl _ W3).drew).trans g.ext)).cell (i := 0) rfl
      have d1 := fun g : At W3.drew => Ext.cell (((Keep.refl _ W3).drew).trans g.ext) (Ext.cell HEW3.out (HH.out.cells.cell (i := 5) rfl))
      have d2 := fun g : At W3.drew => (aC3.ext (((Keep.refl _ W3).drew).trans g.ext)).cell (i := 3) rfl
      have d3 := fun g : At W3.drew => (aC3.ext (((Keep.refl _ W3).drew).trans g.ext)).cell (i := 2) rfl
      cases p3
      all_goals
        refine wp_flow (fun _ => .reads) (by kernel_rfl) (by kernel_rfl) ?_
        iterate 6 (refine flow_r rfl rfl ?_; go_big_quiet_step (fail); refine wpQuiet_nil ?_)
        refine flow_v (v := .map (some bm)) rfl rfl (fun w' hE => exec_lookup' rfl (HLM.out w' ((HEW3.out.drew).trans hE))) ?_
        simp only [Act.put, List.setIfInBounds_toArray, List.set_cons_succ, List.set_cons_zero]
        iterate 2 (refine flow_r rfl rfl ?_; go_big_quiet_step (fail); refine wpQuiet_nil ?_)
      case false =>
        refine flow_v (v := .bool false) rfl rfl (fun w' hE => exec_lookup' rfl (HHAS.out w' ((HEW3.out.drew).trans hE))) ?_
        simp only [Act.put, List.setIfInBounds_toArray, List.set_cons_succ, List.set_cons_zero]
        iterate 2 (refine flow_r rfl rfl ?_; go_big_quiet_step (fail); refine wpQuiet_nil ?_)
        clear d0 d1 d2 d3
        refine flow_end (fun W4 hE4 _ => ?_)
        replace hE4 : Ext W3 W4 := ((Keep.refl _ W3).drew).trans hE4
        have aE4 := aE3.ext hE4
        have hC : changeP st ⟨7, who, group, realm⟩ = some (0, st) := by
          unfold changeP
          simp [HP1.out, HP2.out, HP3.out]
        have c0 := aE4.cell (i := 0) rfl
        have f0 := aE4.frozen 0
        have hs1 := aE4.set 0 (.int .i64 0)
        have k9 := errX_set (B := w.heap.size) (v := .int .i64 0) aE4 (by omega)
        have hfin := FIN.out 0 st W4 _ (HRA.out.ext (HEW3.out.trans hE4)) (Keep.of_ext (HEW3.out.trans hE4)) k9 hC
        have HC := Lib.hid hC
        have cv := hs1.cell (i := 0) rfl
        clear FIN FNO k9 hC hs1 HL1 HL2 hE4
        go_wp2
        refine mark0_ret (v := .int .i64 0) rfl (by simp [results, Tryz.results36, go_sem]; rw [cv]) hfin
      case true =>
        refine flow_v (v := .bool true) rfl rfl (fun w' hE => exec_lookup' rfl (HHAS.out w' ((HEW3.out.drew).trans hE))) ?_
        simp only [Act.put, List.setIfInBounds_toArray, List.set_cons_succ, List.set_cons_zero]
        iterate 2 (refine flow_r rfl rfl ?_; go_big_quiet_step (fail); refine wpQuiet_nil ?_)
        clear d0 d1 d2 d3
        refine flow_end (fun W4 hE4 _ => ?_)
        replace hE4 : Ext W3 W4 := ((Keep.refl _ W3).drew).trans hE4
        have aR4 := aR3.ext hE4
        have aC4 := aC3.ext hE4
        have aE4 := aE3.ext hE4
        have HEW4 := Lib.hid (HEW3.out.trans hE4)
        clear hE4 aR3 aC3 aE3
        go_wp2_with fail
        have d0 := fun g : At W4.drew => (aR4.ext (((Keep.refl _ W4).drew).trans g.ext)).cell (i := 0) rfl
        have d1 := fun g : At W4.drew => Ext.cell (((Keep.refl _ W4).drew).trans g.ext) (Ext.cell HEW4.out (HH.out.cells.cell (i := 5) rfl))
        have d2 := fun g : At W4.drew => (aC4.ext (((Keep.refl _ W4).drew).trans g.ext)).cell (i := 3) rfl
        have d3 := fun g : At W4.drew => (aC4.ext (((Keep.refl _ W4).drew).trans g.ext)).cell (i := 2) rfl
        refine wp_flow (fun n => if n = 9 then .bar else .reads) (by kernel_rfl) (by kernel_rfl) ?_
        iterate 6 (refine flow_r rfl rfl ?_; go_big_quiet_step (fail); refine wpQuiet_nil ?_)
        refine flow_v (v := .map (some bm)) rfl rfl (fun w' hE => exec_lookup' rfl (HLM.out w' ((HEW4.out.drew).trans hE))) ?_
        simp only [Act.put, List.setIfInBounds_toArray, List.set_cons_succ, List.set_cons_zero]
        iterate 2 (refine flow_r rfl rfl ?_; go_big_quiet_step (fail); refine wpQuiet_nil ?_)
        clear d0 d1 d2 d3
        refine flow_b rfl (by kernel_rfl) (fun w5 hE5 _ => ?_)
        replace hE5 : Ext W4 w5 := ((Keep.refl _ W4).drew).trans hE5
        have e5 : Ext w w5 := HEW4.out.trans hE5
        obtain ⟨w6, hrun, hm6, hk6⟩ := (HSM.out w5 e5).del (V := SetV) Tryz.underlying137 HG.out 0
        replace hrun : (Builtin.delete_ #[137, 22] 0 #[.map (some bm), .int .u32 (group : Int)]).run Tryz.prog w5 = .ok (.tuple #[]) w6 := hrun
        have hr6 := (HH.out.ext e5).turnRdr HBM.out hm6 hk6
        have HRUN := Lib.hid hrun
        have hRA6 : RingAt w6 N R Q TB A PL ({ st.1 with rdr := putA st.1.rdr realm (delA (rdrA st.1 realm) group) }, st.2) := ⟨b1, b2, b3, b4, b5, L4, L5, v, bv, hr6⟩
        have HRA6 := Lib.hid hRA6
        have aR6 := (aR4.ext hE5).keep hk6 MapX.cells
        have aC6 := (aC4.ext hE5).keep hk6 MapX.cells
        have aE6 := (aE4.ext hE5).keep hk6 MapX.cells
        have HK6 := Lib.hid ((Keep.of_ext e5).trans (hk6.mono (fun k o _ hx => MapX.rg (N := N) (TB := TB) (A := A) (PL := PL) (HH.out.h5 _ _ HBM.out).1 hx)))
        clear hrun hm6 hk6 hr6 hRA6 e5 hE5 aR4 aC4 aE4
        go_wp2_with (first
          | (refine wpList_valw (o := ⟨none, .call _, _, _, _, _⟩) (v := .tuple #[]) (w' := w6) ?_ ?_ ?_; exact exec_delete' rfl HRUN.out; rfl)
          | fail)
        refine flow_end (fun w7 hE7 _ => ?_)
        replace hE7 : Ext w6 w7 := hE7
        have aR7 := aR6.ext hE7
        have aC7 := aC6.ext hE7
        have aE7 := aE6.ext hE7
        have HK7 := Lib.hid (HK6.out.trans (Keep.of_ext hE7))
        have HRA7 := Lib.hid (HRA6.out.ext hE7)
        obtain ⟨st6, hst6⟩ : ∃ s6 : St, (({ st.1 with rdr := putA st.1.rdr realm (delA (rdrA st.1 realm) group) }, st.2) : St) = s6 := ⟨_, rfl⟩
        have hS6 : Small 12 12000 st6.1 := by
          rw [← hst6]
          exact HS.out.delRdr _ _ (HH.out.hasr realm HP2.out)
        have hC : changeP st ⟨7, who, group, realm⟩ = (rekeyP st6 group).bind fun st => (eachP (fun st m => readerP st m group) (readP st.1 group) st).bind fun st => (turnP st realm).map fun st => (0, st) := by
          rw [← hst6]
          unfold changeP
          simp [HP1.out, HP2.out, HP3.out]
        have hing : In st6.1.grp group := by rw [← hst6]; exact HP1.out
        have hinr : In st6.1.rlm realm := by rw [← hst6]; exact HP2.out
        have HINR := Lib.hid hinr
        clear hinr
        rw [hst6] at HRA7
        have hcall := rekey_any HRA7.out group HG.out hing (by have := HS.out.box; rw [← hst6]; show st.1.box.length ≤ 900000; omega) (by have := hS6.grp; omega) (hS6.imem group)
        have HC := Lib.hid hC
        have HS6 := Lib.hid hS6
        have HING := Lib.hid hing
        clear hE7 HK6 HRA6 aR6 aC6 aE6 HRUN HLM HHAS HBM hC hS6 hing
        have c0 := aR7.cell (i := 0) rfl
        have c1 := aC7.cell (i := 2) rfl
        go_wp2_with fail
        refine hcall.mono ?_
        rintro e w9 ⟨hlo, hhi⟩
        clear hcall c0 c1
        cases hB : rekeyP st6 group with
        | none =>
          obtain ⟨rfl, k9⟩ := hlo hB
          have aE9 := aE7.keep k9 (RgX.cells (by decide) (by decide) (by decide))
          have hC : changeP st ⟨7, who, group, realm⟩ = none := by rw [HC.out, hB]; rfl
          have ke := errX_set (B := w.heap.size) (v := .int .i64 60) aE9 (by omega)
          have c0 := aE9.cell (i := 0) rfl
          have f0 := aE9.frozen 0
          have hs1 := aE9.set 0 (.int .i64 60)
          have cv := hs1.cell (i := 0) rfl
          have hfin := FNO.out w9 _ (HK7.out.trans k9) ke hC
          clear FIN FNO hlo hhi hB k9 hC ke hs1
          go_wp2
          refine mark0_ret (v := .int .i64 60) rfl (by simp [results, Tryz.results36, go_sem]; rw [cv]) hfin
        | some st9 =>
          obtain ⟨rfl, hr9, k9⟩ := hhi st9 hB
          have aR9 := aR7.keep k9 (RgX.cells (by decide) (by decide) (by decide))
          have aC9 := aC7.keep k9 (RgX.cells (by decide) (by decide) (by decide))
          have aE9 := aE7.keep k9 (RgX.cells (by decide) (by decide) (by decide))
          have hf9 := rekeyP_eff HS6.out.rgrp HING.out hB
          have h6b : st6.1.box.length ≤ 12000 := HS6.out.box
          have hS9 : Small 12 12012 st9.1 := HS6.out.eff (hf9.le (HS6.out.imem group))
          have h9b : st9.1.box.length ≤ 12012 := hS9.box
          have hC : changeP st ⟨7, who, group, realm⟩ = (eachP (fun st m => readerP st m group) (readP st9.1 group) st9).bind fun st => (turnP st realm).map fun st => (0, st) := by rw [HC.out, hB]; rfl
          have HC9 := Lib.hid hC
          have HK9 := Lib.hid (HK7.out.trans k9)
          have HR9 := Lib.hid hr9
          have HS9 := Lib.hid hS9
          have HB9 := Lib.hid h9b
          have HF9 := Lib.hid hf9
          clear hlo hhi hB k9 hC hr9 hS9 h9b h6b hf9 aR7 aC7 aE7 HK7 HRA7
          have c0 := aR9.cell (i := 0) rfl
          have c1 := aC9.cell (i := 2) rfl
          go_wp2_with fail
          refine (read_any w9 R group).mono ?_
          rintro e w10 ⟨rfl, hw10⟩
          clear c0 c1
          have e10 : Ext w9 w10 := by rw [hw10]; exact ((Keep.refl _ w9).alloc _).alloc _
          have q1 : Arr w10 w9.heap.size 33 [.pointer (some ⟨R, 0, none⟩)] := by rw [hw10]; exact (Arr.new w9 _ [.pointer (some ⟨R, 0, none⟩)]).alloc _
          have q2 : Arr w10 (w9.heap.size + 1) 22 [.int .u32 (group : Int)] := by
            rw [hw10]
            have := Arr.new (w9.alloc (.cells #[.pointer (some ⟨R, 0, none⟩)] 33)) 22 [.int .u32 (group : Int)]
            rwa [World.size_alloc] at this
          have aR10 := aR9.ext e10
          have aC10 := aC9.ext e10
          have aE10 := aE9.ext e10
          have hr10 := HR9.out.ext e10
          have h0 : w.heap.size ≤ w10.heap.size := by have := (HK9.out.trans (Keep.of_ext e10)).size; omega
          have HK10 := Lib.hid (HK9.out.trans (Keep.of_ext e10))
          obtain ⟨out, hout⟩ : ∃ out, (numsA st9.1.rlm).filter (rdIn st9.1.rdr group) = out := ⟨_, rfl⟩
          have hread : readP st9.1 group = out := by rw [readP_eq, hout]
          have hlow : ∀ m ∈ numsA st9.1.rlm, m < 4294967296 ∧ In st9.1.rdr m := fun m hm => by
            obtain ⟨b1', b2', b3', b4', b5', L4', L5', v', bv', hr⟩ := HR9.out
            have hi := in_nums.1 hm
            obtain ⟨y, hy⟩ := Option.isSome_iff_exists.1 hi
            exact ⟨hr.rlm.lt _ (getA_mem hy), hr.hasr m hi⟩
          have hol : out.length ≤ 12 := by
            rw [← hread]
            have := read_len st9.1 group
            have := HS9.out.rlm
            omega
          have hoin : ∀ m ∈ out, In st9.1.rlm m := fun m hm => by rw [← hread] at hm; exact read_in hm
          have holt : ∀ m ∈ out, m < 4294967296 := fun m hm => (hlow m (in_nums.2 (hoin m hm))).1
          have hit := read1_iter (N := N) (R := R) (Q := Q) (TB := TB) (A := A) (PL := PL) (C1 := w9.heap.size) (C2 := w9.heap.size + 1) (g := group) (numsA st9.1.rlm) st9.1.rdr HG.out (by rw [numsA_len]; exact HS9.out.rlm) hlow
          rw [hout] at hit
          obtain ⟨F, hF⟩ : ∃ F : St → Nat → Option St, F = fun st m => readerP st m group := ⟨_, rfl⟩
          have hFe : ∀ st x, F st x = readerP st x group := fun st x => by rw [hF]
          have hstep : ∀ (k : Nat) (sk s' : St), k < out.length → Eff st9 sk (13 * k) → F sk (out.getD k 0) = some s' → Eff st9 s' (13 * (k + 1)) := fun k sk s' hk e he => by
            have hm : out.getD k 0 ∈ out := by
              rw [List.getD_eq_getElem?_getD, List.getElem?_eq_getElem hk]; exact List.getElem_mem hk
            have hrs : Rise sk.1.rlm := rise_nums e.rlm HS9.out.rrlm
            rw [hFe] at he
            exact (e.trans (Eff.of_like (readerP_like he))).le (by omega)
          have HIT := Lib.hid hit
          have HSTEP := Lib.hid hstep
          have HOL := Lib.hid hol
          have HOIN := Lib.hid hoin
          have HOLT := Lib.hid holt
          have HREAD := Lib.hid hread
          have HQ1 := Lib.hid q1
          have HQ2 := Lib.hid q2
          have HFE := Lib.hid hFe
          have hrest : ∀ k (hk : k < out.length) (sk : St), eachP F (out.drop k) sk = (F sk (out.getD k 0)).bind (eachP F (out.drop (k + 1))) := fun k hk sk => eachP_step F out k (out.getD k 0) (by rw [List.getD_eq_getElem?_getD, List.getElem?_eq_getElem hk]; rfl) sk
          have HREST := Lib.hid hrest
          clear hit hstep hol hoin holt hread q1 q2 hFe hrest hlow hout hw10 aR9 aC9 aE9 HING HP1 HP2 HP3 HSM
          go_wp2
          refine rangeR_wp rfl (enters_of Tryz.func80 (by kernel_rfl) rfl) HIT.out rfl (fun _ _ h => h.2.2.1 _ rfl) (fun _ _ h => h.2.2.2 _ rfl)
            (fun B hB => ⟨HQ1.out.ext hB, HQ2.out.ext hB, st9, hr10.ext hB, rfl⟩)
            (fun k B => ∃ sk, RingAt B N R Q TB A PL sk ∧ eachP F out st9 = eachP F (out.drop k) sk ∧ Eff st9 sk (13 * k) ∧ Arr B w.heap.size 33 [.pointer (some ⟨R, 0, none⟩)] ∧ Arr B (w.heap.size + 1) 25 [.int .i64 7, .int .u32 (who : Int), .int .u32 (group : Int), .int .u32 (realm : Int)] ∧ Arr B (w.heap.size + 1 + 1) 44 [.int .i64 0] ∧ Keep (RgX N TB A PL) w B)
            (fun k c B => c = .ret ∧ eachP F out st9 = none ∧ Arr B (w.heap.size + 1 + 1) 44 [.int .i64 60] ∧ Keep (RgX N TB A PL) w B)
            (fun k B B' ⟨sk, i1, i2, i3, i4, i5, i6, i7⟩ hk => ⟨sk, i1.keepE (errX_mark hk h0), i2, i3, i4.keep hk mark_cells, i5.keep hk mark_cells, i6.keep hk mark_cells, i7.errX (errX_mark hk h0)⟩)
            (fun k c B B' ⟨i1, i2, i3, i4⟩ hk => ⟨i1, i2, i3.keep hk mark_cells, i4.errX (errX_mark hk h0)⟩)
            (fun k B ⟨sk, i1, i2, i3, _⟩ => ⟨sk, i1, i3.rdr⟩)
            ⟨st9, hr10, by rw [List.drop_zero], Eff.refl _, aR10, aC10, aE10, HK10.out⟩ ?round ?done ?stop
          case round =>
            rintro l k B KN KX hk ⟨sk, i1, i2, i3, i4, i5, i6, i7⟩ hKN hKX
            have HKN := Lib.hid hKN
            have HKX := Lib.hid hKX
            clear hKN hKX
            obtain ⟨x, hxe⟩ : ∃ x, out.getD k 0 = x := ⟨_, rfl⟩
            simp only [hxe, u32n]
            have HXE := Lib.hid hxe
            clear hxe
            gi_wp2
            refine ⟨Keep.refl _ _, fun C hC => ?_⟩
            have hm : out.getD k 0 ∈ out := by
              rw [List.getD_eq_getElem?_getD, List.getElem?_eq_getElem hk]; exact List.getElem_mem hk
            have hx := HOLT.out _ hm
            have hin := (in_of_nums i3.rlm).2 (HOIN.out _ hm)
            have hki : k ≤ 12 := by have := HOL.out; omega
            have hbx : sk.1.box.length ≤ 13000 := by have := i3.box; have := HB9.out; omega
            have hrl : sk.1.rlm.length ≤ 12 := by rw [len_of_nums i3.rlm]; exact HS9.out.rlm
            have hrd : (rdrA sk.1 (out.getD k 0)).length ≤ 12 := by unfold rdrA; rw [i3.rdr]; exact HS9.out.irdr _
            have hcall := reader_any (i1.keepE (errX_mark hC h0)) (out.getD k 0) group hx HG.out (by omega)
            rw [HREST.out k hk sk] at i2
            have HI2 := Lib.hid i2
            have hst := fun s' => HSTEP.out k sk s' hk i3
            have HST := Lib.hid hst
            replace i4 := i4.keep hC mark_cells
            replace i5 := i5.keep hC mark_cells
            replace i6 := i6.keep hC mark_cells
            have HI7 := Lib.hid (i7.errX (errX_mark hC h0))
            have HK := Lib.hid hk
            clear hst i1 i2 i3 i7 hin hm hx hrd hrl hbx
            rw [← HFE.out] at hcall
            rw [HXE.out] at hcall HI2 HST
            have c0 := i4.cell (i := 0) rfl
            have c1 := i5.cell (i := 2) rfl
            clear hk hC
            gi_wp2_with fail
            refine ⟨trivial, (CallsIn.inRound l (callsIn_wide.2 hcall)).mono ?_⟩
            rintro e D ⟨hlo, hhi⟩
            clear hcall c0 c1
            cases hB : F sk x with
            | none =>
              obtain ⟨rfl, k9⟩ := hlo hB
              have aE9 := i6.keep k9 (RgX.cells (by decide) (by decide) (by decide))
              have hn : eachP F out st9 = none := by rw [HI2.out, hB]; rfl
              have c0 := aE9.cell (i := 0) rfl
              have f0 := aE9.frozen 0
              have hs1 := aE9.set 0 (.int .i64 60)
              have hkd : Keep RdY C (D.setCell ⟨w.heap.size + 1 + 1, 0, none⟩ (.int .i64 60)) := (k9.mono (fun _ _ _ h => RdY.of_rg h)).trans ((keep_setCell D (w.heap.size + 1 + 1) 0 (.int .i64 60)).mono (fun k o ho hx => by
                rw [hx, show D.heap[w.heap.size + 1 + 1]? = _ from aE9] at ho
                cases ho
                exact RdY.err))
              have hfin := HKX.out .ret C _ hkd ⟨rfl, hn, hs1, (HI7.out.trans k9).errX (errX_set aE9 (by omega))⟩
              clear hlo hhi hB k9 hn hs1 hkd HKN HKX
              gi_wp2
              exact hfin
            | some s9 =>
              obtain ⟨rfl, hr9, k9⟩ := hhi s9 hB
              have hn : eachP F out st9 = eachP F (out.drop (k + 1)) s9 := by rw [HI2.out, hB]; rfl
              have hfin := HKN.out C D (k9.mono (fun _ _ _ h => RdY.of_rg h)) ⟨s9, hr9, hn, HST.out s9 hB, i4.keep k9 (RgX.cells (by decide) (by decide) (by decide)), i5.keep k9 (RgX.cells (by decide) (by decide) (by decide)), i6.keep k9 (RgX.cells (by decide) (by decide) (by decide)), HI7.out.trans k9⟩
              clear hlo hhi hB k9 hn hr9 HKN HKX
              gi_wp2
              exact hfin
          case done =>
            rintro D B hD ⟨sk, i1, i2, i3, i4, i5, i6, i7⟩ hd
            rw [eachP_end] at i2
            have hinR : In sk.1.rlm realm := (in_of_nums i3.rlm).2 ((in_of_nums HF9.out.rlm).2 HINR.out)
            have hki : 13 * out.length ≤ 156 := by have := HOL.out; omega
            have hbx : sk.1.box.length ≤ 13000 := by have := i3.box; have := HB9.out; omega
            have hrl : sk.1.rlm.length ≤ 12 := by rw [len_of_nums i3.rlm]; exact HS9.out.rlm
            have hrd : (rdrA sk.1 realm).length ≤ 12 := by unfold rdrA; rw [i3.rdr]; exact HS9.out.irdr _
            have hC : changeP st ⟨7, who, group, realm⟩ = (turnP sk realm).map fun st => (0, st) := by rw [HC9.out, HREAD.out, ← hF, i2]; rfl
            have hcall := turn_any i1 realm HM.out hinR (by omega) (by omega) hrd
            have h02 := aE10.lt
            have HC := Lib.hid hC
            have HI7 := Lib.hid i7
            have HD0 := Lib.hid hd
            have c0 := i4.cell (i := 0) rfl
            have c1 := i5.cell (i := 3) rfl
            clear hd hC i2 i1 i3 i7 hinR hki hbx hrl hrd
            go_wp2_with fail
            refine hcall.mono ?_
            rintro e w11 ⟨hlo, hhi⟩
            clear hcall c0 c1
            cases hB : turnP sk realm with
            | none =>
              obtain ⟨rfl, k9⟩ := hlo hB
              have aE9 := i6.keep k9 (RgX.cells (by decide) (by decide) (by decide))
              have hC : changeP st ⟨7, who, group, realm⟩ = none := by rw [HC.out, hB]; rfl
              have hd1 := k9.block D _ HD0.out RgX.def
              have c0 := aE9.cell (i := 0) rfl
              have f0 := aE9.frozen 0
              have hs1 := aE9.set 0 (.int .i64 60)
              have hd' : (w11.setCell ⟨w.heap.size + 1 + 1, 0, none⟩ (.int .i64 60)).heap[D]? = some (.deferred (some [])) := (keep_setCell w11 (w.heap.size + 1 + 1) 0 (.int .i64 60)).block D _ hd1 (fun hx => by have hx : D = w.heap.size + 1 + 1 := hx; omega)
              have hdd : Keep (ErrX w.heap.size) w11 ((w11.setCell ⟨w.heap.size + 1 + 1, 0, none⟩ (.int .i64 60)).putObj D (.deferred none)) := (errX_set aE9 (by omega)).trans ((Keep.refl _ _).putObj _ _ (fun o ho => by rw [hd'] at ho; cases ho; exact ⟨by omega, .inr (.inl ⟨_, rfl⟩)⟩))
              have hfin := FNO.out w11 _ (HI7.out.trans k9) hdd hC
              have cv := (hs1.keep (X := fun k _ => k = D) ((Keep.refl _ _).putObj D (.deferred none) (fun _ _ => rfl)) (fun hx => by have hx : w.heap.size + 1 + 1 = D := hx; omega)).cell (i := 0) rfl
              have HD := Lib.hid hd'
              clear hdd hd' hd1 FNO FIN hC k9 hs1 h02 hlo hhi hB
              go_wp2
              refine mark_ret HD.out rfl (v := .int .i64 60) (by simp [results, Tryz.results36, go_sem]; rw [cv]) hfin
            | some s9 =>
              obtain ⟨rfl, hr9, k9⟩ := hhi s9 hB
              have aE9 := i6.keep k9 (RgX.cells (by decide) (by decide) (by decide))
              have hC : changeP st ⟨7, who, group, realm⟩ = some (0, s9) := by rw [HC.out, hB]; rfl
              have hd1 := k9.block D _ HD0.out RgX.def
              have c0 := aE9.cell (i := 0) rfl
              have f0 := aE9.frozen 0
              have hs1 := aE9.set 0 (.int .i64 0)
              have hd' : (w11.setCell ⟨w.heap.size + 1 + 1, 0, none⟩ (.int .i64 0)).heap[D]? = some (.deferred (some [])) := (keep_setCell w11 (w.heap.size + 1 + 1) 0 (.int .i64 0)).block D _ hd1 (fun hx => by have hx : D = w.heap.size + 1 + 1 := hx; omega)
              have hdd : Keep (ErrX w.heap.size) w11 ((w11.setCell ⟨w.heap.size + 1 + 1, 0, none⟩ (.int .i64 0)).putObj D (.deferred none)) := (errX_set aE9 (by omega)).trans ((Keep.refl _ _).putObj _ _ (fun o ho => by rw [hd'] at ho; cases ho; exact ⟨by omega, .inr (.inl ⟨_, rfl⟩)⟩))
              have hfin := FIN.out 0 s9 w11 _ hr9 (HI7.out.trans k9) hdd hC
              have cv := (hs1.keep (X := fun k _ => k = D) ((Keep.refl _ _).putObj D (.deferred none) (fun _ _ => rfl)) (fun hx => by have hx : w.heap.size + 1 + 1 = D := hx; omega)).cell (i := 0) rfl
              have HD := Lib.hid hd'
              clear hdd hd' hd1 FNO FIN hC k9 hs1 h02 hlo hhi hB
              go_wp2
              refine mark_ret HD.out rfl (v := .int .i64 0) (by simp [results, Tryz.results36, go_sem]; rw [cv]) hfin
          case stop =>
            rintro D c k B hD hk ⟨rfl, i2, i3, i4⟩ hd
            have hC : changeP st ⟨7, who, group, realm⟩ = none := by rw [HC9.out, HREAD.out, ← hF, i2]; rfl
            have hdd : Keep (ErrX w.heap.size) B (B.putObj D (.deferred none)) := (Keep.refl _ B).putObj _ _ (fun o ho => by rw [hd] at ho; cases ho; exact ⟨by omega, .inr (.inl ⟨_, rfl⟩)⟩)
            have hfin := FNO.out B _ i4 hdd hC
            have h02 := aE10.lt
            have cv := (i3.keep (X := fun k _ => k = D) ((Keep.refl _ B).putObj D (.deferred none) (fun _ _ => rfl)) (fun hx => by have hx : w.heap.size + 1 + 1 = D := hx; omega)).cell (i := 0) rfl
            have HD := Lib.hid hd
            clear hdd hd FNO FIN hC i2 i4
            go_wp2
            refine mark_ret HD.out rfl (v := .int .i64 60) (by simp [results, Tryz.results36, go_sem]; rw [cv]) hfin
end Go.Proofs.YtcmhgpgookiomaaGreat
namespace Go.Proofs.YtcmhgpgookiomaaGreat
open Go.RowKit Go.Shelf Go.Maps

attribute [local go_sem] Oper.semAt_some

/-- Two maps are turned. -/
def TwoX (B C : Nat) (k : Nat) (o : Obj) : Prop := (k = B ∨ k = C) ∧ ∃ es c, o = .map es c
theorem TwoX.cells {B C k : Nat} {cur : Array Value} {t : TypeId} {fr : Nat × Nat} : ¬ TwoX B C k (.cells cur t fr) := fun h => by obtain ⟨_, _, _, h⟩ := h; cases h
theorem twoX_ne {B C b : Nat} {es : Array MapEntry} {c : Nat} (h1 : b ≠ B) (h2 : b ≠ C) : ¬ TwoX B C b (.map es c) := fun hx => by
  rcases hx.1 with h | h
  · exact h1 h
  · exact h2 h
theorem MapX.two1 {B C k : Nat} {o : Obj} (h : MapX B k o) : TwoX B C k o := ⟨.inl h.1, h.2⟩
theorem MapX.two2 {B C k : Nat} {o : Obj} (h : MapX C k o) : TwoX B C k o := ⟨.inr h.1, h.2⟩
theorem SetsAt.lt {w : World} {B : Nat} {L : List (Nat × Nat)} {M : List (Nat × List (Nat × Unit))} (h : SetsAt w B L M) {g b : Nat} (hg : getA L g = some b) : b < w.heap.size := by
  obtain ⟨s, _, hm⟩ := h.at' hg
  exact hm.below
/-- A new set. -/
theorem SetsAt.add {w w' : World} {B C b' g : Nat} {L : List (Nat × Nat)} {M : List (Nat × List (Nat × Unit))} {s : List (Nat × Unit)} (h : SetsAt w B L M) (hk : Keep (TwoX C B) w w') (hC : ∀ g b, getA L g = some b → b ≠ C) (hm : NMap w' B refV (putA L g b')) (hs : NMap w' b' SetV s) (hb : w.heap.size ≤ b') : SetsAt w' B (putA L g b') (putA M g s) := by
  have hBlt := h.map.below
  refine ⟨hm, fun g' => ?_, fun g1 g2 b h1 h2 => ?_, fun g' hg' => ?_, rise_put h.rise _ _⟩
  · rw [getA_put L g b' g' h.map.rise, getA_put M g s g' h.rise]
    by_cases e : g' = g
    · subst e
      rw [if_pos rfl, if_pos rfl]
      exact .inr ⟨b', s, rfl, rfl, hs⟩
    · rw [if_neg e, if_neg e]
      refine (h.inner g').imp id ?_
      rintro ⟨b, s', h1, h2, h3⟩
      exact ⟨b, s', h1, h2, h3.block hk (fun _ _ => twoX_ne (hC g' b h1) (fun e' => h.ne g' (e' ▸ h1)))⟩
  · rw [getA_put L g b' g1 h.map.rise] at h1
    rw [getA_put L g b' g2 h.map.rise] at h2
    split at h1 <;> split at h2
    · rename_i e1 e2; rw [e1, e2]
    · cases h1; have := h.lt h2; omega
    · cases h2; have := h.lt h1; omega
    · exact h.inj g1 g2 b h1 h2
  · rw [getA_put L g b' g' h.map.rise] at hg'
    split at hg'
    · cases hg'; omega
    · exact h.ne g' hg'
section
variable {w w' : World} {N R Q TB A PL : Nat} {r : PR} {s : SSt} {b1 b2 b3 b4 b5 : Nat} {L4 L5 : List (Nat × Nat)} {v : Value} {bv : List (BoxP × Value)}
theorem RingIn.rest2 {B C : Nat} (h : RingIn w N R Q TB A PL r s b1 b2 b3 b4 b5 L4 L5 v bv) (hB : N ≤ B) (hC : N ≤ C) (hk : Keep (TwoX B C) w w') :
    Arr w' R 75 (ringC Q b1 b2 b3 b4 b5 v) ∧ BoxesAt w' N v bv ∧ SuiteAt w' Q TB A PL s :=
  ⟨h.cells.keep hk TwoX.cells, h.box.keep hk (fun _ _ _ => TwoX.cells) (fun _ _ _ => TwoX.cells),
   h.suite.keep hk (fun _ => TwoX.cells) (fun _ => TwoX.cells) (fun _ _ => TwoX.cells) (fun _ _ => twoX_ne (by have := h.low.2.2.1; omega) (by have := h.low.2.2.1; omega)) (fun _ _ => twoX_ne (by have := h.low.2.2.2; omega) (by have := h.low.2.2.2; omega))⟩
theorem RingIn.addGrp (h : RingIn w N R Q TB A PL r s b1 b2 b3 b4 b5 L4 L5 v bv) {g b' : Nat} {x : By} {l : List (Nat × Unit)} (hk : Keep (TwoX b2 b4) w w') (hx : x.length = 32) (hm : NMap w' b2 keyedV (putA r.grp g (0, x))) (hL : NMap w' b4 refV (putA L4 g b')) (hs : NMap w' b' SetV l) (hb : w.heap.size ≤ b') :
    RingIn w' N R Q TB A PL { r with grp := putA r.grp g (0, x), mem := putA r.mem g l } s b1 b2 b3 b4 b5 (putA L4 g b') L5 v bv := by
  obtain ⟨h1, h2, h3⟩ := h.rest2 h.high.2.2.1 h.high.2.2.2.2.1 hk
  obtain ⟨d12, d13, d14, d15, d23, d24, d25, d34, d35, d45⟩ := h.dis
  have l1 := h.sec.below
  have l2 := h.grp.below
  have l3 := h.rlm.below
  have l5 := h.rdr.map.below
  have lN : N ≤ w.heap.size := by have := h.high.2.1; omega
  exact
  { h with
    cells := h1
    sec := h.sec.block hk (fun _ _ => twoX_ne d12 d14)
    grp := hm
    rlm := h.rlm.block hk (fun _ _ => twoX_ne d23.symm d34)
    mem := h.mem.add hk (fun g b hg => (h.h4 g b hg).2.2.1) hL hs hb
    rdr := h.rdr.keep hk (fun _ _ => twoX_ne d25.symm d45.symm) (fun g b _ _ hg => twoX_ne (h.h5 g b hg).2.2.1 (h.h5 g b hg).2.2.2.2)
    box := h2
    suite := h3
    h4 := fun g' b hg => by
      rw [getA_put L4 g b' g' h.mem.map.rise] at hg
      split at hg
      · cases hg; exact ⟨by omega, by omega, by omega, by omega, by omega⟩
      · exact h.h4 g' b hg
    h45 := fun g1 g2 b hg h5 => by
      rw [getA_put L4 g b' g1 h.mem.map.rise] at hg
      split at hg
      · cases hg; have := h.rdr.lt h5; omega
      · exact h.h45 g1 g2 b hg h5
    kgrp := fun p hp => by
      rcases mem_put hp with rfl | hp
      · exact ⟨hx, by have := h.suite.lt; show 0 * 32 + s.tape.length ≤ 32000; omega⟩
      · exact h.kgrp p hp
    hasm := fun g' hg => by
      rcases (in_put h.grp.rise).1 hg with e | hg
      · exact (in_put h.mem.rise).2 (.inl e)
      · exact (in_put h.mem.rise).2 (.inr (h.hasm g' hg)) }
theorem RingIn.addRlm (h : RingIn w N R Q TB A PL r s b1 b2 b3 b4 b5 L4 L5 v bv) {g b' : Nat} {x : By} {l : List (Nat × Unit)} (hk : Keep (TwoX b3 b5) w w') (hx : x.length = 32) (hm : NMap w' b3 keyedV (putA r.rlm g (0, x))) (hL : NMap w' b5 refV (putA L5 g b')) (hs : NMap w' b' SetV l) (hb : w.heap.size ≤ b') :
    RingIn w' N R Q TB A PL { r with rlm := putA r.rlm g (0, x), rdr := putA r.rdr g l } s b1 b2 b3 b4 b5 L4 (putA L5 g b') v bv := by
  obtain ⟨h1, h2, h3⟩ := h.rest2 h.high.2.2.2.1 h.high.2.2.2.2.2 hk
  obtain ⟨d12, d13, d14, d15, d23, d24, d25, d34, d35, d45⟩ := h.dis
  have l1 := h.sec.below
  have l2 := h.grp.below
  have l3 := h.rlm.below
  have l4 := h.mem.map.below
  have lN : N ≤ w.heap.size := by have := h.high.2.1; omega
  exact
  { h with
    cells := h1
    sec := h.sec.block hk (fun _ _ => twoX_ne d13 d15)
    grp := h.grp.block hk (fun _ _ => twoX_ne d23 d25)
    rlm := hm
    mem := h.mem.keep hk (fun _ _ => twoX_ne d34.symm d45) (fun g b _ _ hg => twoX_ne (h.h4 g b hg).2.2.2.1 (h.h4 g b hg).2.2.2.2)
    rdr := h.rdr.add hk (fun g b hg => (h.h5 g b hg).2.2.2.1) hL hs hb
    box := h2
    suite := h3
    h5 := fun g' b hg => by
      rw [getA_put L5 g b' g' h.rdr.map.rise] at hg
      split at hg
      · cases hg; exact ⟨by omega, by omega, by omega, by omega, by omega⟩
      · exact h.h5 g' b hg
    h45 := fun g1 g2 b hg h5 => by
      rw [getA_put L5 g b' g2 h.rdr.map.rise] at h5
      split at h5
      · cases h5; have := h.mem.lt hg; omega
      · exact h.h45 g1 g2 b hg h5
    krlm := fun p hp => by
      rcases mem_put hp with rfl | hp
      · exact ⟨hx, by have := h.suite.lt; show 0 * 32 + s.tape.length ≤ 32000; omega⟩
      · exact h.krlm p hp
    hasr := fun g' hg => by
      rcases (in_put h.rlm.rise).1 hg with e | hg
      · exact (in_put h.rdr.rise).2 (.inl e)
      · exact (in_put h.rdr.rise).2 (.inr (h.hasr g' hg)) }
end
/-! A map's entry is open: made, and not yet filled. -/
def Opened {α : Type} (t : TypeId) (B : Nat) (V : α → Value) (l : List (Nat × α)) (k : Nat) (st : Int) (w : World) : Prop := ∃ E, w.heap[B]? = some E ∧ (∃ es c, E = .map es c) ∧ ∀ (w2 : World) (v : α), w2.heap[B]? = some E →
  ∃ w3, (Instr.entryStore t (.map (some B)) (.int .i64 st) (V v)).run Tryz.prog w2 = .ok () w3 ∧ NMap w3 B V (putA l k v) ∧ Keep (MapX B) w2 w3
theorem Opened.block {α : Type} {X : Nat → Obj → Prop} {t : TypeId} {B : Nat} {V : α → Value} {l : List (Nat × α)} {k : Nat} {st : Int} {w w' : World} (h : Opened t B V l k st w) (hk : Keep X w w') (hX : ∀ es c, ¬ X B (.map es c)) : Opened t B V l k st w' := by
  obtain ⟨E, h1, ⟨es, c, rfl⟩, h3⟩ := h
  exact ⟨_, hk.block B _ h1 (hX _ _), ⟨es, c, rfl⟩, h3⟩
theorem Opened.ext {α : Type} {t : TypeId} {B : Nat} {V : α → Value} {l : List (Nat × α)} {k : Nat} {st : Int} {w w' : World} (h : Opened t B V l k st w) (hk : Ext w w') : Opened t B V l k st w' := h.block hk (fun _ _ h => h)
theorem Opened.store {α : Type} {t : TypeId} {B : Nat} {V : α → Value} {l : List (Nat × α)} {k : Nat} {st : Int} {w : World} (h : Opened t B V l k st w) (v : α) :
    ∃ w3, (Instr.entryStore t (.map (some B)) (.int .i64 st) (V v)).run Tryz.prog w = .ok () w3 ∧ NMap w3 B V (putA l k v) ∧ Keep (MapX B) w w3 := by
  obtain ⟨E, h1, _, h3⟩ := h
  exact h3 w v h1
theorem NMap.opened {α : Type} {w : World} {B : Nat} {V : α → Value} {l : List (Nat × α)} {t e : TypeId} (h : NMap w B V l) (ht : Tryz.prog.underlying t = some (.map 22 e)) (hn : l.length < maxLen) {z : Value} (hz : ∀ u, (zeroValue e).run Tryz.prog u = .ok z u) {k : Nat} (hk : k < 4294967296) :
    ∃ v0 st w1, (Instr.mapEntry t (.map (some B)) (.int .u32 (k : Int))).run Tryz.prog w = .ok (.tuple #[v0, .int .i64 st]) w1 ∧ Opened t B V l k st w1 ∧ Keep (MapX B) w w1 := by
  obtain ⟨es0, c0, hb⟩ := h.isMap
  obtain ⟨v0, st, E, w1, r1, r2, r3, r4⟩ := h.entry ht hn hz hk
  obtain ⟨S, h1, h2⟩ := h.map
  obtain ⟨st', E', w1', q1, q2, q3, _, _⟩ := h1.entry law_u32 ht hn hz (key_u32 hk)
  unfold u32n at r1 q1
  rw [r1] at q1
  cases q1
  rw [r2] at q2
  cases q2
  exact ⟨_, _, _, r1, ⟨_, r2, q3, r4⟩, r3⟩
theorem exec_makeMap' {P : Program} {w : World} {o : Oper} {a : Act} {t : TypeId} (ho : o.op = .makeMap t none) : (execOp a.eval o).run P w = .ok (.value (.map (some w.heap.size))) (w.alloc (.map #[] 0)) := by
  unfold execOp
  rw [ho]
  rfl
def FV.closedB (md : Region.Mode) (ops : Array Oper) (listed : Array Bool) : Bool := (List.range ops.size).all fun j => match ops[j]? with
  | Option.none => true
  | Option.some o => !(listed.getD j false) || o.after.all fun e => !(Region.binds md e) || listed.getD e.on false
theorem FV.closed_of {md : Region.Mode} {ops : Array Oper} {listed : Array Bool} (h : FV.closedB md ops listed = true) : FY.Closed md ops listed := fun j o ho hl e he hb => by
  have hj : j < ops.size := (Array.getElem?_eq_some_iff.1 ho).1
  have := List.all_eq_true.1 h j (List.mem_range.2 hj)
  simp only [ho, hl, Bool.not_true, Bool.false_or] at this
  have h2 := Array.all_eq_true'.1 this e he
  simpa [hb] using h2
section
variable {P : Program} {ops : Array Oper} {md : Region.Mode} {w0 : World} {X : Nat → Obj → Prop} {still : Nat → Bool} {Q : Exit → Act → World → Prop} {n k : Nat} {listed : Array Bool} {a : Act} {o : Oper} {tl : List Oper}
/-- A still operation that is ready is walked first. -/
theorem FV.first (i : Nat) (hs : Region.noSelect ops = true) (hc : FV.closedB md ops listed = true) (hB : (still i && (Region.ready md ops listed).contains i && Region.free md ops listed i) = true)
    (h : FV.flowOp X P ops w0 still i (FV.anyFlow X P ops md still Q n (listed.setIfInBounds i true)) a) : FV.anyFlow X P ops md still Q (n + 1) listed w0 a := by
  simp only [Bool.and_eq_true] at hB
  have hr : i ∈ Region.ready md ops listed := by simpa using hB.1.2
  obtain ⟨_, o, ho, _⟩ := mem_ready.1 hr
  exact FV.anyFlow_first ho (Region.noSelect_spec hs) hB.1.1 n listed w0 a (FV.closed_of hc) (Region.free_spec ho hB.2) hr h
theorem FV.stillv {v : Value} (hk0 : ops.toList.drop k = o :: tl) (ht : still k = true) (hw : Region.wanted o (yielded ops a.tmps) = true) (h1 : ∀ w, Keep X w0 w → (execOp a.eval o).run P w = .ok (.value v) w) {K : World → Act → Prop} (h : K w0 (a.put o.dst v)) : FV.flowOp X P ops w0 still k K a := by
  have hk := FY.at_of_drop hk0
  unfold FV.flowOp
  simp only [hk, ht, if_true]
  exact ⟨v, fun w hE => by unfold FY.opIs; rw [if_pos hw]; exact .inl (h1 w hE), h⟩
end
def MapsX (_ : Nat) (o : Obj) : Prop := ∃ es c, o = .map es c
theorem mapsX_cells {k : Nat} {o : Obj} (hc : o.isCells = true) : ¬ MapsX k o := fun h => by obtain ⟨_, _, rfl⟩ := h; cases hc
theorem MapsX.arr {k : Nat} {cur : Array Value} {t : TypeId} {fr : Nat × Nat} : ¬ MapsX k (.cells cur t fr) := fun h => by obtain ⟨_, _, h⟩ := h; cases h
/-- What turns a new map leaves the old ones alone. -/
theorem Keep.fresh {X : Nat → Obj → Prop} {W w x : World} {b : Nat} (h : Keep X W w) (k : Keep (MapX b) w x) (hb : W.heap.size ≤ b) : Keep X W x :=
  ⟨k.os.trans h.os, k.tape.trans h.tape, k.output.trans h.output, Nat.le_trans h.size k.size, fun i o ho hx => k.block i o (h.block i o ho hx) (fun he => by have := Keep.lt ho; have := he.1; omega)⟩
end Go.Proofs.YtcmhgpgookiomaaGreat
