/-
  TopRevoked: add: a person. add: a group.
-/
import Derived.Test.YtcmhgpgookiomaaGreatM14
namespace Go.Proofs.YtcmhgpgookiomaaGreat
open Go.RowKit Go.Shelf Go.Maps

attribute [local go_sem] Oper.semAt_some

set_option maxRecDepth 20000 in
set_option maxHeartbeats 16000000 in
theorem add1_any {w : World} {N R Q TB A PL : Nat} {st : St} (h : RingAt w N R Q TB A PL st) (hs : Small 12 12000 st.1) (who group realm : Nat) (hwho : who < 4294967296) (hgroup : group < 4294967296) (hrealm : realm < 4294967296) :
    Calls Tryz.prog 34 #[.pointer (some ⟨R, 0, none⟩), .agg #[.int .i64 1, .int .u32 (who : Int), .int .u32 (group : Int), .int .u32 (realm : Int)]] w fun e w' =>
      (changeP st ⟨1, who, group, realm⟩ = none → e = .returned (.int .i64 60) ∧ Keep (RgX N TB A PL) w w') ∧
      (∀ n st', changeP st ⟨1, who, group, realm⟩ = some (n, st') → e = .returned (.int .i64 (n : Int)) ∧ RingAt w' N R Q TB A PL st' ∧ Keep (RgX N TB A PL) w w') := by
  obtain ⟨b1, b2, b3, b4, b5, L4, L5, v, bv, h⟩ := h
  have HH := Lib.hid h
  have HS := Lib.hid hs
  have HRA := Lib.hid (show RingAt w N R Q TB A PL st from ⟨b1, b2, b3, b4, b5, L4, L5, v, bv, h⟩)
  have hl1 := fun A' (hE : Ext w A') => (h.ext hE).has_sec hwho
  have hl2 := fun A' (hE : Ext w A') => (h.ext hE).has_grp hgroup
  have hl3 := fun A' (hE : Ext w A') => (h.ext hE).has_rlm hrealm
  have hdraw := fun A' (hE : Ext w A') => draw_any (h.suite.ext hE)
  unfold aggK at hdraw
  have HDRAW := Lib.hid hdraw
  have HW := Lib.hid hwho
  have HG := Lib.hid hgroup
  have HM := Lib.hid hrealm
  have hlen1 := h.secA_len who
  have ho1 : ((secA st.1 who).map u8v).length = 32 := by rw [List.length_map, hlen1]
  unfold aggK at hl1
  obtain ⟨D1, hD1⟩ : ∃ D, (secA st.1 who).map u8v = D := ⟨_, rfl⟩
  have hone1 : D1.toArray.all (·.oneCell') = true := by rw [← hD1]; exact all_one _
  rw [hD1] at hl1 ho1
  have HI1 := Lib.hid (show (Tryz.prog.info? 51).map (·.size) = some D1.toArray.size by rw [info_key, List.size_toArray, ho1])
  have HO1 := Lib.hid (show 32 = D1.toArray.size by rw [List.size_toArray, ho1])
  have HN1 := Lib.hid hone1
  clear hlen1 ho1 hone1 hD1
  obtain ⟨hlen2, _⟩ := h.grpA_ok group
  have kc2 := kc_of (e := (grpA st.1 group).1) hlen2
  unfold keyedV at hl2
  obtain ⟨D2, hD2⟩ : ∃ D, keyedC (grpA st.1 group) = D := ⟨_, rfl⟩
  rw [show keyedC ((grpA st.1 group).1, (grpA st.1 group).2) = D2 from hD2] at kc2
  rw [hD2] at hl2
  have HI2 := Lib.hid kc2.info
  have HO2 := Lib.hid kc2.size
  have HN2 := Lib.hid kc2.one
  clear hlen2 kc2 hD2
  obtain ⟨hlen3, _⟩ := h.rlmA_ok realm
  have kc3 := kc_of (e := (rlmA st.1 realm).1) hlen3
  unfold keyedV at hl3
  obtain ⟨D3, hD3⟩ : ∃ D, keyedC (rlmA st.1 realm) = D := ⟨_, rfl⟩
  rw [show keyedC ((rlmA st.1 realm).1, (rlmA st.1 realm).2) = D3 from hD3] at kc3
  rw [hD3] at hl3
  have HI3 := Lib.hid kc3.info
  have HO3 := Lib.hid kc3.size
  have HN3 := Lib.hid kc3.one
  clear hlen3 kc3 hD3
  obtain ⟨p1, hp1⟩ : ∃ p, (getA st.1.sec who).isSome = p := ⟨_, rfl⟩
  obtain ⟨p2, hp2⟩ : ∃ p, (getA st.1.grp group).isSome = p := ⟨_, rfl⟩
  obtain ⟨p3, hp3⟩ : ∃ p, (getA st.1.rlm realm).isSome = p := ⟨_, rfl⟩
  rw [hp1] at hl1
  rw [hp2] at hl2
  rw [hp3] at hl3
  have HL1 := Lib.hid hl1
  have HL2 := Lib.hid hl2
  have HL3 := Lib.hid hl3
  have HP1 := Lib.hid hp1
  have HP2 := Lib.hid hp2
  have HP3 := Lib.hid hp3
  clear hl1 hl2 hl3 hp1 hp2 hp3 h hs hwho hgroup hrealm hdraw
  refine calls_cps fun R0 hR => ?_
  have HR := Lib.hid hR
  clear hR
  go_enter Tryz.func34, Tryz.ntmps34
  go_wp2_with fail
  refine wp_laid1 fun W eW h1 => ?_
  have aC : Arr W w.heap.size 25 [.int .i64 1, .int .u32 (who : Int), .int .u32 (group : Int), .int .u32 (realm : Int)] := h1
  have HEW := Lib.hid eW
  clear h1 eW
  have hX : ∀ B, Keep (fun k _ => W.heap.size ≤ k) W.drew B → Ext W B := fun B hB => (((Keep.refl (fun k _ => W.heap.size ≤ k) W).drew).trans hB).mono (fun k o ho hx => by have := Keep.lt ho; replace hx : W.heap.size ≤ k := hx; omega)
  have d1 := fun g : FX.At (fun k _ => W.heap.size ≤ k) W.drew => Ext.cell (hX _ g.ext) (Ext.cell HEW.out (HH.out.cells.cell (i := 1) rfl))
  have d2 := fun g : FX.At (fun k _ => W.heap.size ≤ k) W.drew => (aC.ext (hX _ g.ext)).cell (i := 1) rfl
  have HX := Lib.hid hX
  clear hX
  refine FX.wp_flow (X := fun k _ => W.heap.size ≤ k) (fun n => if n = 10 then .grows (NewCell W.heap.size 51 32) PtrSh else if n = 11 then .bar else .reads) (by kernel_rfl) (by kernel_rfl) ?_
  iterate 6 (refine FX.flow_r rfl rfl ?_; go_big_quiet_step (fail); refine wpQuiet_nil ?_)
  refine FX.flow_v (v := .tuple #[.agg D1.toArray, .bool p1]) rfl rfl (fun w' hE => exec_lookup' rfl (HL1.out w' (HEW.out.trans (HX.out w' hE)))) ?_
  simp only [Act.put, List.setIfInBounds_toArray, List.set_cons_succ, List.set_cons_zero]
  iterate 3 (refine FX.flow_r rfl rfl ?_; go_big_quiet_step (fail); refine wpQuiet_nil ?_)
  refine FX.flow_g rfl rfl (by simp) ⟨_, 0, rfl⟩ (fun v A B h hE => h.ext hE) (fun v A h => h.sh) (fun w5 hE5 _ => ?_) (fun v hv => ?_)
  · refine wpList_valw (exec_alloc_key w5 rfl) rfl (wpList_nil ?_)
    exact ⟨rfl, _, rfl, (Keep.refl _ w5).alloc _, newCell_key (((Keep.refl _ W).drew).trans hE5)⟩
  obtain ⟨g1, rfl⟩ := hv
  simp only [Act.put, List.setIfInBounds_toArray, List.set_cons_succ, List.set_cons_zero]
  clear d1 d2
  refine FX.flow_b rfl rfl (FX.bar_all (by kernel_rfl)) (fun w6 hE6 hf => ?_)
  have hnc : NewCell W.heap.size 51 32 (.pointer (some ⟨g1, 0, none⟩)) w6 := hf 10
  have hE6' : Ext W w6 := ((Keep.refl _ W).drew).trans hE6
  obtain ⟨_, C0, q, hb0, hlen0, hc0⟩ := hnc
  cases q
  have hK7 : Keep (fun k _ => W.heap.size ≤ k) w6 (w6.setRow g1 D1.toArray) := (keep_setRow w6 g1 D1.toArray).mono (fun k o _ hx => by rw [hx]; exact hb0)
  have hE7 : Ext W (w6.setRow g1 D1.toArray) := ((Keep.of_ext hE6').trans hK7).mono (fun k o ho hx => by have := Keep.lt ho; replace hx : W.heap.size ≤ k := hx; omega)
  have hsz : C0.toArray.size = D1.toArray.size := by rw [List.size_toArray, hlen0]; exact HO1.out
  have HK7 := Lib.hid hK7
  have HE7 := Lib.hid hE7
  have HSZ := Lib.hid hsz
  have HC0 := Lib.hid hc0
  clear hf hE6 hE6' hK7 hE7 hsz hc0 hlen0 hb0
  go_wp2_with (first
    | (refine wpList_skipw (o := ⟨none, .store _ _ _, _, _, _, _⟩) (w' := w6.setRow g1 D1.toArray) ?_ ?_ ?_; exact exec_store_row rfl rfl rfl HC0.out HI1.out HSZ.out HN1.out; rfl)
    | fail)
  refine ⟨HK7.out, ?_⟩
  refine FX.flow_r rfl rfl ?_; go_big_quiet_step (fail); refine wpQuiet_nil ?_
  refine FX.flow_end (fun w8 hE8 _ => ?_)
  replace hE8 : Ext W w8 := HE7.out.trans hE8
  have aC2 := aC.ext hE8
  have HEW2 := Lib.hid (HEW.out.trans hE8)
  obtain ⟨W2, hW2⟩ : ∃ W2, w8 = W2 := ⟨_, rfl⟩
  rw [hW2] at aC2 HEW2 ⊢
  clear hW2 hE8 HK7 HE7 HSZ HC0 aC HX
  go_wp2_with fail
  have hX : ∀ B, Keep (fun k _ => W2.heap.size ≤ k) W2.drew B → Ext W2 B := fun B hB => (((Keep.refl (fun k _ => W2.heap.size ≤ k) W2).drew).trans hB).mono (fun k o ho hx => by have := Keep.lt ho; replace hx : W2.heap.size ≤ k := hx; omega)
  have d1 := fun g : FX.At (fun k _ => W2.heap.size ≤ k) W2.drew => Ext.cell (hX _ g.ext) (Ext.cell HEW2.out (HH.out.cells.cell (i := 2) rfl))
  have d2 := fun g : FX.At (fun k _ => W2.heap.size ≤ k) W2.drew => (aC2.ext (hX _ g.ext)).cell (i := 2) rfl
  have HX := Lib.hid hX
  clear hX
  refine FX.wp_flow (X := fun k _ => W2.heap.size ≤ k) (fun n => if n = 10 then .grows (NewCell W2.heap.size 86 33) PtrSh else if n = 11 then .bar else .reads) (by kernel_rfl) (by kernel_rfl) ?_
  iterate 6 (refine FX.flow_r rfl rfl ?_; go_big_quiet_step (fail); refine wpQuiet_nil ?_)
  refine FX.flow_v (v := .tuple #[.agg D2.toArray, .bool p2]) rfl rfl (fun w' hE => exec_lookup' rfl (HL2.out w' (HEW2.out.trans (HX.out w' hE)))) ?_
  simp only [Act.put, List.setIfInBounds_toArray, List.set_cons_succ, List.set_cons_zero]
  iterate 3 (refine FX.flow_r rfl rfl ?_; go_big_quiet_step (fail); refine wpQuiet_nil ?_)
  refine FX.flow_g rfl rfl (by simp) ⟨_, 0, rfl⟩ (fun v A B h hE => h.ext hE) (fun v A h => h.sh) (fun w5 hE5 _ => ?_) (fun v hv => ?_)
  · refine wpList_valw (exec_alloc_keyed w5 rfl) rfl (wpList_nil ?_)
    exact ⟨rfl, _, rfl, (Keep.refl _ w5).alloc _, newCell_keyed (((Keep.refl _ W2).drew).trans hE5)⟩
  obtain ⟨g1, rfl⟩ := hv
  simp only [Act.put, List.setIfInBounds_toArray, List.set_cons_succ, List.set_cons_zero]
  clear d1 d2
  refine FX.flow_b rfl rfl (FX.bar_all (by kernel_rfl)) (fun w6 hE6 hf => ?_)
  have hnc : NewCell W2.heap.size 86 33 (.pointer (some ⟨g1, 0, none⟩)) w6 := hf 10
  have hE6' : Ext W2 w6 := ((Keep.refl _ W2).drew).trans hE6
  obtain ⟨_, C0, q, hb0, hlen0, hc0⟩ := hnc
  cases q
  have hK7 : Keep (fun k _ => W2.heap.size ≤ k) w6 (w6.setRow g1 D2.toArray) := (keep_setRow w6 g1 D2.toArray).mono (fun k o _ hx => by rw [hx]; exact hb0)
  have hE7 : Ext W2 (w6.setRow g1 D2.toArray) := ((Keep.of_ext hE6').trans hK7).mono (fun k o ho hx => by have := Keep.lt ho; replace hx : W2.heap.size ≤ k := hx; omega)
  have hsz : C0.toArray.size = D2.toArray.size := by rw [List.size_toArray, hlen0]; exact HO2.out
  have HK7 := Lib.hid hK7
  have HE7 := Lib.hid hE7
  have HSZ := Lib.hid hsz
  have HC0 := Lib.hid hc0
  clear hf hE6 hE6' hK7 hE7 hsz hc0 hlen0 hb0
  go_wp2_with (first
    | (refine wpList_skipw (o := ⟨none, .store _ _ _, _, _, _, _⟩) (w' := w6.setRow g1 D2.toArray) ?_ ?_ ?_; exact exec_store_row rfl rfl rfl HC0.out HI2.out HSZ.out HN2.out; rfl)
    | fail)
  refine ⟨HK7.out, ?_⟩
  refine FX.flow_r rfl rfl ?_; go_big_quiet_step (fail); refine wpQuiet_nil ?_
  refine FX.flow_end (fun w8 hE8 _ => ?_)
  replace hE8 : Ext W2 w8 := HE7.out.trans hE8
  have aC3 := aC2.ext hE8
  have HEW3 := Lib.hid (HEW2.out.trans hE8)
  obtain ⟨W3, hW3⟩ : ∃ W3, w8 = W3 := ⟨_, rfl⟩
  rw [hW3] at aC3 HEW3 ⊢
  clear hW3 hE8 HK7 HE7 HSZ HC0 aC2 HX
  go_wp2_with fail
  have hX : ∀ B, Keep (fun k _ => W3.heap.size ≤ k) W3.drew B → Ext W3 B := fun B hB => (((Keep.refl (fun k _ => W3.heap.size ≤ k) W3).drew).trans hB).mono (fun k o ho hx => by have := Keep.lt ho; replace hx : W3.heap.size ≤ k := hx; omega)
  have d1 := fun g : FX.At (fun k _ => W3.heap.size ≤ k) W3.drew => Ext.cell (hX _ g.ext) (Ext.cell HEW3.out (HH.out.cells.cell (i := 3) rfl))
  have d2 := fun g : FX.At (fun k _ => W3.heap.size ≤ k) W3.drew => (aC3.ext (hX _ g.ext)).cell (i := 3) rfl
  have HX := Lib.hid hX
  clear hX
  refine FX.wp_flow (X := fun k _ => W3.heap.size ≤ k) (fun n => if n = 10 then .grows (NewCell W3.heap.size 86 33) PtrSh else if n = 11 then .bar else .reads) (by kernel_rfl) (by kernel_rfl) ?_
  iterate 6 (refine FX.flow_r rfl rfl ?_; go_big_quiet_step (fail); refine wpQuiet_nil ?_)
  refine FX.flow_v (v := .tuple #[.agg D3.toArray, .bool p3]) rfl rfl (fun w' hE => exec_lookup' rfl (HL3.out w' (HEW3.out.trans (HX.out w' hE)))) ?_
  simp only [Act.put, List.setIfInBounds_toArray, List.set_cons_succ, List.set_cons_zero]
  iterate 3 (refine FX.flow_r rfl rfl ?_; go_big_quiet_step (fail); refine wpQuiet_nil ?_)
  refine FX.flow_g rfl rfl (by simp) ⟨_, 0, rfl⟩ (fun v A B h hE => h.ext hE) (fun v A h => h.sh) (fun w5 hE5 _ => ?_) (fun v hv => ?_)
  · refine wpList_valw (exec_alloc_keyed w5 rfl) rfl (wpList_nil ?_)
    exact ⟨rfl, _, rfl, (Keep.refl _ w5).alloc _, newCell_keyed (((Keep.refl _ W3).drew).trans hE5)⟩
  obtain ⟨g1, rfl⟩ := hv
  simp only [Act.put, List.setIfInBounds_toArray, List.set_cons_succ, List.set_cons_zero]
  clear d1 d2
  refine FX.flow_b rfl rfl (FX.bar_all (by kernel_rfl)) (fun w6 hE6 hf => ?_)
  have hnc : NewCell W3.heap.size 86 33 (.pointer (some ⟨g1, 0, none⟩)) w6 := hf 10
  have hE6' : Ext W3 w6 := ((Keep.refl _ W3).drew).trans hE6
  obtain ⟨_, C0, q, hb0, hlen0, hc0⟩ := hnc
  cases q
  have hK7 : Keep (fun k _ => W3.heap.size ≤ k) w6 (w6.setRow g1 D3.toArray) := (keep_setRow w6 g1 D3.toArray).mono (fun k o _ hx => by rw [hx]; exact hb0)
  have hE7 : Ext W3 (w6.setRow g1 D3.toArray) := ((Keep.of_ext hE6').trans hK7).mono (fun k o ho hx => by have := Keep.lt ho; replace hx : W3.heap.size ≤ k := hx; omega)
  have hsz : C0.toArray.size = D3.toArray.size := by rw [List.size_toArray, hlen0]; exact HO3.out
  have HK7 := Lib.hid hK7
  have HE7 := Lib.hid hE7
  have HSZ := Lib.hid hsz
  have HC0 := Lib.hid hc0
  clear hf hE6 hE6' hK7 hE7 hsz hc0 hlen0 hb0
  go_wp2_with (first
    | (refine wpList_skipw (o := ⟨none, .store _ _ _, _, _, _, _⟩) (w' := w6.setRow g1 D3.toArray) ?_ ?_ ?_; exact exec_store_row rfl rfl rfl HC0.out HI3.out HSZ.out HN3.out; rfl)
    | fail)
  refine ⟨HK7.out, ?_⟩
  refine FX.flow_r rfl rfl ?_; go_big_quiet_step (fail); refine wpQuiet_nil ?_
  refine FX.flow_end (fun w8 hE8 _ => ?_)
  replace hE8 : Ext W3 w8 := HE7.out.trans hE8
  have aC4 := aC3.ext hE8
  have HEW4 := Lib.hid (HEW3.out.trans hE8)
  obtain ⟨W4, hW4⟩ : ∃ W4, w8 = W4 := ⟨_, rfl⟩
  rw [hW4] at aC4 HEW4 ⊢
  clear hW4 hE8 HK7 HE7 HSZ HC0 aC3 HX
  have hFIN : ∀ (n : Nat) (st' : St) (w' : World), RingAt w' N R Q TB A PL st' → Keep (RgX N TB A PL) w w' → changeP st ⟨1, who, group, realm⟩ = some (n, st') → R0 (.returned (.int .i64 (n : Int))) w' := fun n st' w' h1 h2 h4 => HR.out _ _ ⟨fun h => (by rw [h4] at h; cases h), fun n' st'' h => (by rw [h4] at h; cases h; exact ⟨rfl, h1, h2⟩)⟩
  have hFNO : ∀ (w' : World), Keep (RgX N TB A PL) w w' → changeP st ⟨1, who, group, realm⟩ = none → R0 (.returned (.int .i64 60)) w' := fun w' h2 h4 => HR.out _ _ ⟨fun _ => ⟨rfl, h2⟩, fun n' st'' h => (by rw [h4] at h; cases h)⟩
  have FIN := Lib.hid hFIN
  have FNO := Lib.hid hFNO
  clear hFIN hFNO HR HL1 HL2 HL3
  cases p1 with
  | true =>
    have hC : changeP st ⟨1, who, group, realm⟩ = some (210, st) := by
      unfold changeP
      simp [HP1.out]
    have hfin := FIN.out 210 st W4 (HRA.out.ext HEW4.out) (Keep.of_ext HEW4.out) hC
    have c0 := aC4.cell (i := 0) rfl
    clear FIN FNO hC
    go_wp2
    exact hfin
  | false =>
    have c0 := aC4.cell (i := 0) rfl
    have q0 := Ext.cell HEW4.out (HH.out.cells.cell (i := 0) rfl)
    have hd := HDRAW.out W4 HEW4.out
    go_wp2_with fail
    refine hd.mono ?_
    rintro e w5 ⟨hlo, hhi⟩
    clear hd c0 q0
    cases hdr : drawP st.2 with
    | none =>
      obtain ⟨rfl, e5⟩ := hlo hdr
      have hC : changeP st ⟨1, who, group, realm⟩ = none := by
        unfold changeP
        simp [HP1.out, hdr]
      have hRR := fun w' (hE : Ext w5 w') => FNO.out w' (Keep.of_ext ((HEW4.out.trans e5).trans hE)) hC
      have HRR := Lib.hid hRR
      obtain ⟨Z, hZ⟩ : ∃ Z, key0.map u8v = Z := ⟨_, rfl⟩
      have hi := Lib.hid (show (Tryz.prog.info? 51).map (·.size) = some Z.toArray.size by rw [info_key, ← hZ]; rfl)
      have ho := Lib.hid (show 32 = Z.toArray.size by rw [← hZ]; rfl)
      have h1 := Lib.hid (show Z.toArray.all (·.oneCell') = true by rw [← hZ]; exact all_one _)
      rw [hZ]
      clear hRR hZ FIN FNO hlo hhi hdr hC e5
      go_wp2_with (first
        | (refine wpList_skip0 (o := ⟨none, .store _ _ _, _, _, _, _⟩) (w' := w5.alloc (.cells Z.toArray 51)) ?_ ?_ ?_ ?_; exact exec_store_new rfl rfl rfl hi.out ho.out h1.out; rfl; rfl; refine wpList_laid1 fun W eW hG => ?_)
        | fail)
      exact HRR.out _ eW
    | some x =>
      obtain ⟨k, s1⟩ := x
      obtain ⟨rfl, hs1, k1⟩ := hhi k s1 hdr
      obtain ⟨ht, hkl⟩ := draw_tape hdr
      have hr5 := (HH.out.ext HEW4.out).suited k1 hs1 (by omega)
      obtain ⟨O, hO⟩ : ∃ O, k.map u8v = O := ⟨_, rfl⟩
      have hOl : O.length = 32 := by rw [← hO, List.length_map, hkl]
      have hi := Lib.hid (show (Tryz.prog.info? 51).map (·.size) = some O.toArray.size by rw [info_key, List.size_toArray, hOl])
      have ho := Lib.hid (show 32 = O.toArray.size by rw [List.size_toArray, hOl])
      have h1 := Lib.hid (show O.toArray.all (·.oneCell') = true by rw [← hO]; exact all_one _)
      have aC5 := aC4.keep k1 (SuiteX.cells (by decide))
      have HK5 := Lib.hid (((Keep.of_ext HEW4.out).trans k1).mono (fun _ _ _ h => (.inl h : RgX N TB A PL _ _)))
      have HR5 := Lib.hid hr5
      have HDR := Lib.hid hdr
      have HKL := Lib.hid hkl
      have HO := Lib.hid hO
      have HOL := Lib.hid hOl
      rw [hO]
      have c0 := aC5.cell (i := 0) rfl
      clear hhi hlo hdr hs1 k1 ht hr5 hkl hO hOl
      go_wp2_with (first
        | (refine wpList_skip0 (o := ⟨none, .store _ _ _, _, _, _, _⟩) (w' := w5.alloc (.cells O.toArray 51)) ?_ ?_ ?_ ?_; exact exec_store_new rfl rfl rfl hi.out ho.out h1.out; rfl; rfl; refine wpList_laid1 fun W5 eW5 hG => ?_; have c1 := Ext.cell eW5 c0)
        | fail)
      have aK : Arr W5 w5.heap.size 51 O := hG
      have aC6 := aC5.ext eW5
      have HR6 := Lib.hid (HR5.out.ext eW5)
      have HK6 := Lib.hid (HK5.out.trans (Keep.of_ext eW5))
      have e5 := eW5
      clear hG eW5 c0 c1 aC5 aC4
      have d1 := fun g : At W5.drew => Ext.cell (((Keep.refl _ W5).drew).trans g.ext) (HR6.out.cells.cell (i := 1) rfl)
      have d2 := fun g : At W5.drew => (aC6.ext (((Keep.refl _ W5).drew).trans g.ext)).cell (i := 1) rfl
      refine wp_flow (fun n => if n = 7 then .bar else .reads) (by kernel_rfl) (by kernel_rfl) ?_
      iterate 6 (refine flow_r rfl rfl ?_; go_big_quiet_step (fail); refine wpQuiet_nil ?_)
      refine flow_v (v := .agg O.toArray) rfl rfl (fun w' hE => exec_load_row rfl rfl (aK.ext (((Keep.refl _ W5).drew).trans hE)) Tryz.underlying51 rfl hi.out) ?_
      simp only [Act.put, List.setIfInBounds_toArray, List.set_cons_succ, List.set_cons_zero]
      clear d1 d2
      refine flow_b rfl (by kernel_rfl) (fun w6 hE6 _ => ?_)
      replace hE6 : Ext W5 w6 := ((Keep.refl _ W5).drew).trans hE6
      obtain ⟨w7, hrun, hm7, hk7⟩ := (HR6.out.ext hE6).sec.put (V := aggK) Tryz.underlying71 (by have := HS.out.sec; unfold maxLen; omega) HW.out k
      unfold aggK at hrun
      rw [HO.out] at hrun
      replace hrun : (Instr.mapUpdate 71 (.map (some b1)) (.int .u32 (who : Int)) (.agg O.toArray)).run Tryz.prog w6 = .ok () w7 := hrun
      have hr7 := (HR6.out.ext hE6).putSec hk7 hm7 HKL.out
      have HRUN := Lib.hid hrun
      have hk8 : Keep (RgX N TB A PL) w w7 := (HK6.out.trans (Keep.of_ext hE6)).trans (hk7.mono (fun _ _ _ hx => MapX.rg (N := N) (TB := TB) (A := A) (PL := PL) HH.out.high.2.1 hx))
      have hra : RingAt w7 N R Q TB A PL ({ st.1 with sec := putA st.1.sec who k }, s1) := ⟨b1, b2, b3, b4, b5, L4, L5, v, bv, hr7⟩
      have hC : changeP st ⟨1, who, group, realm⟩ = some (0, ({ st.1 with sec := putA st.1.sec who k }, s1)) := by
        unfold changeP
        simp [HP1.out, HDR.out]
      have hRR := fun w' (hE : Ext w7 w') => FIN.out 0 _ w' (hra.ext hE) (hk8.trans (Keep.of_ext hE)) hC
      have HRR := Lib.hid hRR
      clear hrun hm7 hk7 hr7 hE6 hk8 hra hC hRR
      go_wp2_with (first
        | (refine wpList_skipw (o := ⟨none, .mapUpdate _ _ _ _, _, _, _, _⟩) (w' := w7) ?_ ?_ ?_; exact exec_mapUpdate' rfl HRUN.out; rfl)
        | fail)
      refine flow_end (fun w8 hE8 _ => ?_)
      have hfin := HRR.out w8 hE8
      clear FIN FNO aK aC6 hE8
      go_wp2
      exact hfin
end Go.Proofs.YtcmhgpgookiomaaGreat
namespace Go.Proofs.YtcmhgpgookiomaaGreat
open Go.RowKit Go.Shelf Go.Maps

attribute [local go_sem] Oper.semAt_some

set_option maxRecDepth 20000 in
set_option maxHeartbeats 16000000 in
theorem add2_any {w : World} {N R Q TB A PL : Nat} {st : St} (h : RingAt w N R Q TB A PL st) (hs : Small 12 12000 st.1) (who group realm : Nat) (hwho : who < 4294967296) (hgroup : group < 4294967296) (hrealm : realm < 4294967296) :
    Calls Tryz.prog 34 #[.pointer (some ⟨R, 0, none⟩), .agg #[.int .i64 2, .int .u32 (who : Int), .int .u32 (group : Int), .int .u32 (realm : Int)]] w fun e w' =>
      (changeP st ⟨2, who, group, realm⟩ = none → e = .returned (.int .i64 60) ∧ Keep (RgX N TB A PL) w w') ∧
      (∀ n st', changeP st ⟨2, who, group, realm⟩ = some (n, st') → e = .returned (.int .i64 (n : Int)) ∧ RingAt w' N R Q TB A PL st' ∧ Keep (RgX N TB A PL) w w') := by
  obtain ⟨b1, b2, b3, b4, b5, L4, L5, v, bv, h⟩ := h
  have HH := Lib.hid h
  have HS := Lib.hid hs
  have HRA := Lib.hid (show RingAt w N R Q TB A PL st from ⟨b1, b2, b3, b4, b5, L4, L5, v, bv, h⟩)
  have hl1 := fun A' (hE : Ext w A') => (h.ext hE).has_sec hwho
  have hl2 := fun A' (hE : Ext w A') => (h.ext hE).has_grp hgroup
  have hl3 := fun A' (hE : Ext w A') => (h.ext hE).has_rlm hrealm
  have hdraw := fun A' (hE : Ext w A') => draw_any (h.suite.ext hE)
  unfold aggK at hdraw
  have HDRAW := Lib.hid hdraw
  have HW := Lib.hid hwho
  have HG := Lib.hid hgroup
  have HM := Lib.hid hrealm
  have hlen1 := h.secA_len who
  have ho1 : ((secA st.1 who).map u8v).length = 32 := by rw [List.length_map, hlen1]
  unfold aggK at hl1
  obtain ⟨D1, hD1⟩ : ∃ D, (secA st.1 who).map u8v = D := ⟨_, rfl⟩
  have hone1 : D1.toArray.all (·.oneCell') = true := by rw [← hD1]; exact all_one _
  rw [hD1] at hl1 ho1
  have HI1 := Lib.hid (show (Tryz.prog.info? 51).map (·.size) = some D1.toArray.size by rw [info_key, List.size_toArray, ho1])
  have HO1 := Lib.hid (show 32 = D1.toArray.size by rw [List.size_toArray, ho1])
  have HN1 := Lib.hid hone1
  clear hlen1 ho1 hone1 hD1
  obtain ⟨hlen2, _⟩ := h.grpA_ok group
  have kc2 := kc_of (e := (grpA st.1 group).1) hlen2
  unfold keyedV at hl2
  obtain ⟨D2, hD2⟩ : ∃ D, keyedC (grpA st.1 group) = D := ⟨_, rfl⟩
  rw [show keyedC ((grpA st.1 group).1, (grpA st.1 group).2) = D2 from hD2] at kc2
  rw [hD2] at hl2
  have HI2 := Lib.hid kc2.info
  have HO2 := Lib.hid kc2.size
  have HN2 := Lib.hid kc2.one
  clear hlen2 kc2 hD2
  obtain ⟨hlen3, _⟩ := h.rlmA_ok realm
  have kc3 := kc_of (e := (rlmA st.1 realm).1) hlen3
  unfold keyedV at hl3
  obtain ⟨D3, hD3⟩ : ∃ D, keyedC (rlmA st.1 realm) = D := ⟨_, rfl⟩
  rw [show keyedC ((rlmA st.1 realm).1, (rlmA st.1 realm).2) = D3 from hD3] at kc3
  rw [hD3] at hl3
  have HI3 := Lib.hid kc3.info
  have HO3 := Lib.hid kc3.size
  have HN3 := Lib.hid kc3.one
  clear hlen3 kc3 hD3
  obtain ⟨p1, hp1⟩ : ∃ p, (getA st.1.sec who).isSome = p := ⟨_, rfl⟩
  obtain ⟨p2, hp2⟩ : ∃ p, (getA st.1.grp group).isSome = p := ⟨_, rfl⟩
  obtain ⟨p3, hp3⟩ : ∃ p, (getA st.1.rlm realm).isSome = p := ⟨_, rfl⟩
  rw [hp1] at hl1
  rw [hp2] at hl2
  rw [hp3] at hl3
  have HL1 := Lib.hid hl1
  have HL2 := Lib.hid hl2
  have HL3 := Lib.hid hl3
  have HP1 := Lib.hid hp1
  have HP2 := Lib.hid hp2
  have HP3 := Lib.hid hp3
  clear hl1 hl2 hl3 hp1 hp2 hp3 h hs hwho hgroup hrealm hdraw
  refine calls_cps fun R0 hR => ?_
  have HR := Lib.hid hR
  clear hR
  go_enter Tryz.func34, Tryz.ntmps34
  go_wp2_with fail
  refine wp_laid1 fun W eW h1 => ?_
  have aC : Arr W w.heap.size 25 [.int .i64 2, .int .u32 (who : Int), .int .u32 (group : Int), .int .u32 (realm : Int)] := h1
  have HEW := Lib.hid eW
  clear h1 eW
  have hX : ∀ B, Keep (fun k _ => W.heap.size ≤ k) W.drew B → Ext W B := fun B hB => (((Keep.refl (fun k _ => W.heap.size ≤ k) W).drew).trans hB).mono (fun k o ho hx => by have := Keep.lt ho; replace hx : W.heap.size ≤ k := hx; omega)
  have d1 := fun g : FX.At (fun k _ => W.heap.size ≤ k) W.drew => Ext.cell (hX _ g.ext) (Ext.cell HEW.out (HH.out.cells.cell (i := 1) rfl))
  have d2 := fun g : FX.At (fun k _ => W.heap.size ≤ k) W.drew => (aC.ext (hX _ g.ext)).cell (i := 1) rfl
  have HX := Lib.hid hX
  clear hX
  refine FX.wp_flow (X := fun k _ => W.heap.size ≤ k) (fun n => if n = 10 then .grows (NewCell W.heap.size 51 32) PtrSh else if n = 11 then .bar else .reads) (by kernel_rfl) (by kernel_rfl) ?_
  iterate 6 (refine FX.flow_r rfl rfl ?_; go_big_quiet_step (fail); refine wpQuiet_nil ?_)
  refine FX.flow_v (v := .tuple #[.agg D1.toArray, .bool p1]) rfl rfl (fun w' hE => exec_lookup' rfl (HL1.out w' (HEW.out.trans (HX.out w' hE)))) ?_
  simp only [Act.put, List.setIfInBounds_toArray, List.set_cons_succ, List.set_cons_zero]
  iterate 3 (refine FX.flow_r rfl rfl ?_; go_big_quiet_step (fail); refine wpQuiet_nil ?_)
  refine FX.flow_g rfl rfl (by simp) ⟨_, 0, rfl⟩ (fun v A B h hE => h.ext hE) (fun v A h => h.sh) (fun w5 hE5 _ => ?_) (fun v hv => ?_)
  · refine wpList_valw (exec_alloc_key w5 rfl) rfl (wpList_nil ?_)
    exact ⟨rfl, _, rfl, (Keep.refl _ w5).alloc _, newCell_key (((Keep.refl _ W).drew).trans hE5)⟩
  obtain ⟨g1, rfl⟩ := hv
  simp only [Act.put, List.setIfInBounds_toArray, List.set_cons_succ, List.set_cons_zero]
  clear d1 d2
  refine FX.flow_b rfl rfl (FX.bar_all (by kernel_rfl)) (fun w6 hE6 hf => ?_)
  have hnc : NewCell W.heap.size 51 32 (.pointer (some ⟨g1, 0, none⟩)) w6 := hf 10
  have hE6' : Ext W w6 := ((Keep.refl _ W).drew).trans hE6
  obtain ⟨_, C0, q, hb0, hlen0, hc0⟩ := hnc
  cases q
  have hK7 : Keep (fun k _ => W.heap.size ≤ k) w6 (w6.setRow g1 D1.toArray) := (keep_setRow w6 g1 D1.toArray).mono (fun k o _ hx => by rw [hx]; exact hb0)
  have hE7 : Ext W (w6.setRow g1 D1.toArray) := ((Keep.of_ext hE6').trans hK7).mono (fun k o ho hx => by have := Keep.lt ho; replace hx : W.heap.size ≤ k := hx; omega)
  have hsz : C0.toArray.size = D1.toArray.size := by rw [List.size_toArray, hlen0]; exact HO1.out
  have HK7 := Lib.hid hK7
  have HE7 := Lib.hid hE7
  have HSZ := Lib.hid hsz
  have HC0 := Lib.hid hc0
  clear hf hE6 hE6' hK7 hE7 hsz hc0 hlen0 hb0
  go_wp2_with (first
    | (refine wpList_skipw (o := ⟨none, .store _ _ _, _, _, _, _⟩) (w' := w6.setRow g1 D1.toArray) ?_ ?_ ?_; exact exec_store_row rfl rfl rfl HC0.out HI1.out HSZ.out HN1.out; rfl)
    | fail)
  refine ⟨HK7.out, ?_⟩
  refine FX.flow_r rfl rfl ?_; go_big_quiet_step (fail); refine wpQuiet_nil ?_
  refine FX.flow_end (fun w8 hE8 _ => ?_)
  replace hE8 : Ext W w8 := HE7.out.trans hE8
  have aC2 := aC.ext hE8
  have HEW2 := Lib.hid (HEW.out.trans hE8)
  obtain ⟨W2, hW2⟩ : ∃ W2, w8 = W2 := ⟨_, rfl⟩
  rw [hW2] at aC2 HEW2 ⊢
  clear hW2 hE8 HK7 HE7 HSZ HC0 aC HX
  go_wp2_with fail
  have hX : ∀ B, Keep (fun k _ => W2.heap.size ≤ k) W2.drew B → Ext W2 B := fun B hB => (((Keep.refl (fun k _ => W2.heap.size ≤ k) W2).drew).trans hB).mono (fun k o ho hx => by have := Keep.lt ho; replace hx : W2.heap.size ≤ k := hx; omega)
  have d1 := fun g : FX.At (fun k _ => W2.heap.size ≤ k) W2.drew => Ext.cell (hX _ g.ext) (Ext.cell HEW2.out (HH.out.cells.cell (i := 2) rfl))
  have d2 := fun g : FX.At (fun k _ => W2.heap.size ≤ k) W2.drew => (aC2.ext (hX _ g.ext)).cell (i := 2) rfl
  have HX := Lib.hid hX
  clear hX
  refine FX.wp_flow (X := fun k _ => W2.heap.size ≤ k) (fun n => if n = 10 then .grows (NewCell W2.heap.size 86 33) PtrSh else if n = 11 then .bar else .reads) (by kernel_rfl) (by kernel_rfl) ?_
  iterate 6 (refine FX.flow_r rfl rfl ?_; go_big_quiet_step (fail); refine wpQuiet_nil ?_)
  refine FX.flow_v (v := .tuple #[.agg D2.toArray, .bool p2]) rfl rfl (fun w' hE => exec_lookup' rfl (HL2.out w' (HEW2.out.trans (HX.out w' hE)))) ?_
  simp only [Act.put, List.setIfInBounds_toArray, List.set_cons_succ, List.set_cons_zero]
  iterate 3 (refine FX.flow_r rfl rfl ?_; go_big_quiet_step (fail); refine wpQuiet_nil ?_)
  refine FX.flow_g rfl rfl (by simp) ⟨_, 0, rfl⟩ (fun v A B h hE => h.ext hE) (fun v A h => h.sh) (fun w5 hE5 _ => ?_) (fun v hv => ?_)
  · refine wpList_valw (exec_alloc_keyed w5 rfl) rfl (wpList_nil ?_)
    exact ⟨rfl, _, rfl, (Keep.refl _ w5).alloc _, newCell_keyed (((Keep.refl _ W2).drew).trans hE5)⟩
  obtain ⟨g1, rfl⟩ := hv
  simp only [Act.put, List.setIfInBounds_toArray, List.set_cons_succ, List.set_cons_zero]
  clear d1 d2
  refine FX.flow_b rfl rfl (FX.bar_all (by kernel_rfl)) (fun w6 hE6 hf => ?_)
  have hnc : NewCell W2.heap.size 86 33 (.pointer (some ⟨g1, 0, none⟩)) w6 := hf 10
  have hE6' : Ext W2 w6 := ((Keep.refl _ W2).drew).trans hE6
  obtain ⟨_, C0, q, hb0, hlen0, hc0⟩ := hnc
  cases q
  have hK7 : Keep (fun k _ => W2.heap.size ≤ k) w6 (w6.setRow g1 D2.toArray) := (keep_setRow w6 g1 D2.toArray).mono (fun k o _ hx => by rw [hx]; exact hb0)
  have hE7 : Ext W2 (w6.setRow g1 D2.toArray) := ((Keep.of_ext hE6').trans hK7).mono (fun k o ho hx => by have := Keep.lt ho; replace hx : W2.heap.size ≤ k := hx; omega)
  have hsz : C0.toArray.size = D2.toArray.size := by rw [List.size_toArray, hlen0]; exact HO2.out
  have HK7 := Lib.hid hK7
  have HE7 := Lib.hid hE7
  have HSZ := Lib.hid hsz
  have HC0 := Lib.hid hc0
  clear hf hE6 hE6' hK7 hE7 hsz hc0 hlen0 hb0
  go_wp2_with (first
    | (refine wpList_skipw (o := ⟨none, .store _ _ _, _, _, _, _⟩) (w' := w6.setRow g1 D2.toArray) ?_ ?_ ?_; exact exec_store_row rfl rfl rfl HC0.out HI2.out HSZ.out HN2.out; rfl)
    | fail)
  refine ⟨HK7.out, ?_⟩
  refine FX.flow_r rfl rfl ?_; go_big_quiet_step (fail); refine wpQuiet_nil ?_
  refine FX.flow_end (fun w8 hE8 _ => ?_)
  replace hE8 : Ext W2 w8 := HE7.out.trans hE8
  have aC3 := aC2.ext hE8
  have HEW3 := Lib.hid (HEW2.out.trans hE8)
  obtain ⟨W3, hW3⟩ : ∃ W3, w8 = W3 := ⟨_, rfl⟩
  rw [hW3] at aC3 HEW3 ⊢
  clear hW3 hE8 HK7 HE7 HSZ HC0 aC2 HX
  go_wp2_with fail
  have hX : ∀ B, Keep (fun k _ => W3.heap.size ≤ k) W3.drew B → Ext W3 B := fun B hB => (((Keep.refl (fun k _ => W3.heap.size ≤ k) W3).drew).trans hB).mono (fun k o ho hx => by have := Keep.lt ho; replace hx : W3.heap.size ≤ k := hx; omega)
  have d1 := fun g : FX.At (fun k _ => W3.heap.size ≤ k) W3.drew => Ext.cell (hX _ g.ext) (Ext.cell HEW3.out (HH.out.cells.cell (i := 3) rfl))
  have d2 := fun g : FX.At (fun k _ => W3.heap.size ≤ k) W3.drew => (aC3.ext (hX _ g.ext)).cell (i := 3) rfl
  have HX := Lib.hid hX
  clear hX
  refine FX.wp_flow (X := fun k _ => W3.heap.size ≤ k) (fun n => if n = 10 then .grows (NewCell W3.heap.size 86 33) PtrSh else if n = 11 then .bar else .reads) (by kernel_rfl) (by kernel_rfl) ?_
  iterate 6 (refine FX.flow_r rfl rfl ?_; go_big_quiet_step (fail); refine wpQuiet_nil ?_)
  refine FX.flow_v (v := .tuple #[.agg D3.toArray, .bool p3]) rfl rfl (fun w' hE => exec_lookup' rfl (HL3.out w' (HEW3.out.trans (HX.out w' hE)))) ?_
  simp only [Act.put, List.setIfInBounds_toArray, List.set_cons_succ, List.set_cons_zero]
  iterate 3 (refine FX.flow_r rfl rfl ?_; go_big_quiet_step (fail); refine wpQuiet_nil ?_)
  refine FX.flow_g rfl rfl (by simp) ⟨_, 0, rfl⟩ (fun v A B h hE => h.ext hE) (fun v A h => h.sh) (fun w5 hE5 _ => ?_) (fun v hv => ?_)
  · refine wpList_valw (exec_alloc_keyed w5 rfl) rfl (wpList_nil ?_)
    exact ⟨rfl, _, rfl, (Keep.refl _ w5).alloc _, newCell_keyed (((Keep.refl _ W3).drew).trans hE5)⟩
  obtain ⟨g1, rfl⟩ := hv
  simp only [Act.put, List.setIfInBounds_toArray, List.set_cons_succ, List.set_cons_zero]
  clear d1 d2
  refine FX.flow_b rfl rfl (FX.bar_all (by kernel_rfl)) (fun w6 hE6 hf => ?_)
  have hnc : NewCell W3.heap.size 86 33 (.pointer (some ⟨g1, 0, none⟩)) w6 := hf 10
  have hE6' : Ext W3 w6 := ((Keep.refl _ W3).drew).trans hE6
  obtain ⟨_, C0, q, hb0, hlen0, hc0⟩ := hnc
  cases q
  have hK7 : Keep (fun k _ => W3.heap.size ≤ k) w6 (w6.setRow g1 D3.toArray) := (keep_setRow w6 g1 D3.toArray).mono (fun k o _ hx => by rw [hx]; exact hb0)
  have hE7 : Ext W3 (w6.setRow g1 D3.toArray) := ((Keep.of_ext hE6').trans hK7).mono (fun k o ho hx => by have := Keep.lt ho; replace hx : W3.heap.size ≤ k := hx; omega)
  have hsz : C0.toArray.size = D3.toArray.size := by rw [List.size_toArray, hlen0]; exact HO3.out
  have HK7 := Lib.hid hK7
  have HE7 := Lib.hid hE7
  have HSZ := Lib.hid hsz
  have HC0 := Lib.hid hc0
  clear hf hE6 hE6' hK7 hE7 hsz hc0 hlen0 hb0
  go_wp2_with (first
    | (refine wpList_skipw (o := ⟨none, .store _ _ _, _, _, _, _⟩) (w' := w6.setRow g1 D3.toArray) ?_ ?_ ?_; exact exec_store_row rfl rfl rfl HC0.out HI3.out HSZ.out HN3.out; rfl)
    | fail)
  refine ⟨HK7.out, ?_⟩
  refine FX.flow_r rfl rfl ?_; go_big_quiet_step (fail); refine wpQuiet_nil ?_
  refine FX.flow_end (fun w8 hE8 _ => ?_)
  replace hE8 : Ext W3 w8 := HE7.out.trans hE8
  have aC4 := aC3.ext hE8
  have HEW4 := Lib.hid (HEW3.out.trans hE8)
  obtain ⟨W4, hW4⟩ : ∃ W4, w8 = W4 := ⟨_, rfl⟩
  rw [hW4] at aC4 HEW4 ⊢
  clear hW4 hE8 HK7 HE7 HSZ HC0 aC3 HX
  have hFIN : ∀ (n : Nat) (st' : St) (w' : World), RingAt w' N R Q TB A PL st' → Keep (RgX N TB A PL) w w' → changeP st ⟨2, who, group, realm⟩ = some (n, st') → R0 (.returned (.int .i64 (n : Int))) w' := fun n st' w' h1 h2 h4 => HR.out _ _ ⟨fun h => (by rw [h4] at h; cases h), fun n' st'' h => (by rw [h4] at h; cases h; exact ⟨rfl, h1, h2⟩)⟩
  have hFNO : ∀ (w' : World), Keep (RgX N TB A PL) w w' → changeP st ⟨2, who, group, realm⟩ = none → R0 (.returned (.int .i64 60)) w' := fun w' h2 h4 => HR.out _ _ ⟨fun _ => ⟨rfl, h2⟩, fun n' st'' h => (by rw [h4] at h; cases h)⟩
  have FIN := Lib.hid hFIN
  have FNO := Lib.hid hFNO
  clear hFIN hFNO HR HL1 HL2 HL3
  cases p2 with
  | true =>
    have hC : changeP st ⟨2, who, group, realm⟩ = some (211, st) := by
      unfold changeP
      simp [HP2.out]
    have hfin := FIN.out 211 st W4 (HRA.out.ext HEW4.out) (Keep.of_ext HEW4.out) hC
    have c0 := aC4.cell (i := 0) rfl
    clear FIN FNO hC
    go_wp2
    exact hfin
  | false =>
    have c0 := aC4.cell (i := 0) rfl
    have q0 := Ext.cell HEW4.out (HH.out.cells.cell (i := 0) rfl)
    have hd := HDRAW.out W4 HEW4.out
    go_wp2_with fail
    refine hd.mono ?_
    rintro e w5 ⟨hlo, hhi⟩
    clear hd c0 q0
    cases hdr : drawP st.2 with
    | none =>
      obtain ⟨rfl, e5⟩ := hlo hdr
      have hC : changeP st ⟨2, who, group, realm⟩ = none := by
        unfold changeP
        simp [HP2.out, hdr]
      have hRR := fun w' (hE : Ext w5 w') => FNO.out w' (Keep.of_ext ((HEW4.out.trans e5).trans hE)) hC
      have HRR := Lib.hid hRR
      obtain ⟨Z, hZ⟩ : ∃ Z, key0.map u8v = Z := ⟨_, rfl⟩
      have hi := Lib.hid (show (Tryz.prog.info? 51).map (·.size) = some Z.toArray.size by rw [info_key, ← hZ]; rfl)
      have ho := Lib.hid (show 32 = Z.toArray.size by rw [← hZ]; rfl)
      have h1 := Lib.hid (show Z.toArray.all (·.oneCell') = true by rw [← hZ]; exact all_one _)
      rw [hZ]
      clear hRR hZ FIN FNO hlo hhi hdr hC e5
      go_wp2_with (first
        | (refine wpList_skip0 (o := ⟨none, .store _ _ _, _, _, _, _⟩) (w' := w5.alloc (.cells Z.toArray 51)) ?_ ?_ ?_ ?_; exact exec_store_new rfl rfl rfl hi.out ho.out h1.out; rfl; rfl; refine wpList_laid1 fun W eW hG => ?_)
        | fail)
      exact HRR.out _ eW
    | some x =>
      obtain ⟨k, s1⟩ := x
      obtain ⟨rfl, hs1, k1⟩ := hhi k s1 hdr
      obtain ⟨ht, hkl⟩ := draw_tape hdr
      have hr5 := (HH.out.ext HEW4.out).suited k1 hs1 (by omega)
      obtain ⟨O, hO⟩ : ∃ O, k.map u8v = O := ⟨_, rfl⟩
      have hOl : O.length = 32 := by rw [← hO, List.length_map, hkl]
      have hi := Lib.hid (show (Tryz.prog.info? 51).map (·.size) = some O.toArray.size by rw [info_key, List.size_toArray, hOl])
      have ho := Lib.hid (show 32 = O.toArray.size by rw [List.size_toArray, hOl])
      have h1 := Lib.hid (show O.toArray.all (·.oneCell') = true by rw [← hO]; exact all_one _)
      have aC5 := aC4.keep k1 (SuiteX.cells (by decide))
      have HK5 := Lib.hid (((Keep.of_ext HEW4.out).trans k1).mono (fun _ _ _ h => (.inl h : RgX N TB A PL _ _)))
      have HR5 := Lib.hid hr5
      have HDR := Lib.hid hdr
      have HKL := Lib.hid hkl
      have HO := Lib.hid hO
      have HOL := Lib.hid hOl
      rw [hO]
      have c0 := aC5.cell (i := 0) rfl
      clear hhi hlo hdr hs1 k1 ht hr5 hkl hO hOl
      go_wp2_with (first
        | (refine wpList_skip0 (o := ⟨none, .store _ _ _, _, _, _, _⟩) (w' := w5.alloc (.cells O.toArray 51)) ?_ ?_ ?_ ?_; exact exec_store_new rfl rfl rfl hi.out ho.out h1.out; rfl; rfl; refine wpList_laid1 fun W5 eW5 hG => ?_; have c1 := Ext.cell eW5 c0)
        | fail)
      have aK : Arr W5 w5.heap.size 51 O := hG
      have aC6 := aC5.ext eW5
      have HR6 := Lib.hid (HR5.out.ext eW5)
      have HK6 := Lib.hid (HK5.out.trans (Keep.of_ext eW5))
      have e5 := eW5
      clear hG eW5 c0 c1 aC5 aC4
      obtain ⟨st6, hst6⟩ : ∃ s6 : St, (({ st.1 with grp := putA st.1.grp group (0, k), mem := putA st.1.mem group [] }, s1) : St) = s6 := ⟨_, rfl⟩
      have HST6 := Lib.hid hst6
      clear hst6
      have hcells : ∀ w, (Instr.build 86 #[(0, .int .u32 0), (1, .agg O.toArray)]).run Tryz.prog w = .ok (.agg (keyedC (0, k)).toArray) w := fun w => by
        have := build_keyed O HOL.out 0 w
        rw [← HO.out] at this ⊢
        exact this
      obtain ⟨CN, hCN⟩ : ∃ C, keyedC (0, k) = C := ⟨_, rfl⟩
      rw [hCN] at hcells
      have HB := Lib.hid hcells
      have HCN := Lib.hid (show (keyedC (0, k)).toArray = CN.toArray by rw [hCN])
      have HLEN3 := Lib.hid (show st.1.grp.length < maxLen by have := HS.out.grp; unfold maxLen; omega)
      have HLEN5 := Lib.hid (show L4.length < maxLen by rw [HR6.out.mem.len]; have := HS.out.mem; show st.1.mem.length < maxLen; unfold maxLen; omega)
      have HTWO := Lib.hid (show ∀ k o, TwoX b2 b4 k o → RgX N TB A PL k o from fun k o h => by
        rcases h with ⟨rfl | rfl, h⟩
        · exact .inr ⟨HH.out.high.2.2.1, .inl h⟩
        · exact .inr ⟨HH.out.high.2.2.2.2.1, .inl h⟩)
      have hlt3 := HR6.out.grp.below
      have hlt5 := HR6.out.mem.map.below
      have hne35 : b2 ≠ b4 := HR6.out.dis.2.2.2.2.2.1
      clear hcells hCN
      have HC6 := Lib.hid (show changeP st ⟨2, who, group, realm⟩ = some (0, st6) by
        rw [← HST6.out]
        unfold changeP
        simp [HP2.out, HDR.out])
      go_wp2_with fail
      have hX : ∀ B, Keep MapsX W5.drew B → Keep MapsX W5 B := fun B h => ((Keep.refl _ W5).drew).trans h
      have d1 := fun g : FY.At MapsX W5.drew => (hX _ g.ext).cell (HR6.out.cells.cell (i := 2) rfl) (fun o _ hc => mapsX_cells hc)
      have d2 := fun g : FY.At MapsX W5.drew => (hX _ g.ext).cell (HR6.out.cells.cell (i := 4) rfl) (fun o _ hc => mapsX_cells hc)
      have d3 := fun g : FY.At MapsX W5.drew => (hX _ g.ext).cell (aC6.cell (i := 2) rfl) (fun o _ hc => mapsX_cells hc)
      have HX := Lib.hid hX
      clear hX
      refine FV.wp_flow (X := MapsX) 7 (0 :: 1 :: 2 :: 3 :: 4 :: 5 :: 6 :: 7 :: 8 :: 9 :: 10 :: 11 :: 12 :: 13 :: []) (fun n => !(decide (n = 14 ∨ n = 15 ∨ n = 17 ∨ n = 18 ∨ n = 20))) (by kernel_rfl) (by kernel_rfl) (by kernel_rfl) (by kernel_rfl) ?_
      iterate 12 (refine FV.flow_q rfl rfl rfl ?_; go_big_quiet_step (fail); refine wpQuiet_nil ?_)
      refine FV.flow_vq (v := .agg O.toArray) rfl rfl rfl (fun w' hE => exec_load_row rfl rfl (aK.keep (HX.out w' hE) MapsX.arr) Tryz.underlying51 rfl hi.out) ?_
      simp only [Act.put, List.setIfInBounds_toArray, List.set_cons_succ, List.set_cons_zero]
      refine FV.flow_vq (v := .agg CN.toArray) rfl rfl rfl (fun w' hE => exec_build2 rfl rfl rfl (HB.out w')) ?_
      simp only [Act.put, List.setIfInBounds_toArray, List.set_cons_succ, List.set_cons_zero]
      refine FV.flow_lead ?_
      clear d1 d2 d3
      have f3 := HR6.out.grp
      have f5 := HR6.out.mem.map
      have kW : Keep (TwoX b2 b4) W5 W5 := Keep.refl _ _
      refine FV.two (i := 14) (j := 15) (by kernel_rfl) ?_ ?_
      · refine FV.free rfl rfl (fun u1 hE => ?_)
        replace hE : Ext W5 u1 := ((Keep.refl _ W5).drew).trans hE
        refine ⟨_, _, FW.opRuns_val rfl (exec_makeMap' rfl), (Keep.refl _ u1).alloc _, ?_⟩
        have hE2 : Ext W5 (u1.alloc (.map #[] 0)) := hE.alloc _
        have lb : W5.heap.size ≤ u1.heap.size := by have h1 := kW.size; have h2 := hE.size; omega
        have fa := NMap.made u1 SetV
        replace f3 := f3.ext hE2
        replace f5 := f5.ext hE2
        replace kW := kW.trans (Keep.of_ext hE2)
        obtain ⟨bn, hbn⟩ : ∃ b, u1.heap.size = b := ⟨_, rfl⟩
        obtain ⟨x1, hx⟩ : ∃ x, u1.alloc (.map #[] 0) = x := ⟨_, rfl⟩
        rw [hbn, hx] at fa ⊢
        rw [hbn] at lb
        rw [hx] at f3 f5 kW
        clear hbn hx hE hE2
        simp only [Act.put, List.setIfInBounds_toArray, List.set_cons_succ, List.set_cons_zero]
        refine FV.one (i := 15) (by kernel_rfl) ?_
        refine FV.free rfl rfl (fun u2 hE => ?_)
        replace hE : Ext x1 u2 := hE
        obtain ⟨v3, s3, x2, r, f2, kx⟩ := (f3.ext hE).opened Tryz.underlying72 HLEN3.out zero_keyed HG.out
        refine ⟨_, _, FW.opRuns_val rfl (exec_mapEntry' rfl r), kx.mono (fun _ _ _ h => h.2), ?_⟩
        replace f5 := (f5.ext hE).block kx (fun _ _ => mapX_ne (by omega))
        replace fa := (fa.ext hE).block kx (fun _ _ => mapX_ne (by omega))
        replace kW := (kW.trans (Keep.of_ext hE)).trans (kx.mono (fun _ _ _ h => h.two1))
        clear f3
        have f3 := f2
        clear f2 r kx hE
        simp only [Act.put, List.setIfInBounds_toArray, List.set_cons_succ, List.set_cons_zero]
        refine FV.first 16 (by kernel_rfl) (by kernel_rfl) (by kernel_rfl) ?_
        refine FV.stillv (v := .int .i64 s3) rfl rfl rfl (fun _ _ => rfl) ?_
        simp only [Act.put, List.setIfInBounds_toArray, List.set_cons_succ, List.set_cons_zero]
        refine FV.one (i := 17) (by kernel_rfl) ?_
        refine FV.free rfl rfl (fun u3 hE => ?_)
        replace hE : Ext x2 u3 := hE
        obtain ⟨x3, r, f2, kx⟩ := (f3.ext hE).store (0, k)
        unfold keyedV at r
        rw [HCN.out] at r
        refine ⟨_, _, opRuns_skip rfl (exec_entryStore' rfl r), kx.mono (fun _ _ _ h => h.2), ?_⟩
        replace f5 := (f5.ext hE).block kx (fun _ _ => mapX_ne (by omega))
        replace fa := (fa.ext hE).block kx (fun _ _ => mapX_ne (by omega))
        replace kW := (kW.trans (Keep.of_ext hE)).trans (kx.mono (fun _ _ _ h => h.two1))
        clear f3
        have f3 := f2
        clear f2 r kx hE
        simp only [Act.put]
        refine FV.one (i := 18) (by kernel_rfl) ?_
        refine FV.free rfl rfl (fun u4 hE => ?_)
        replace hE : Ext x3 u4 := hE
        obtain ⟨v5, s5, x4, r, f2, kx⟩ := (f5.ext hE).opened Tryz.underlying73 HLEN5.out zero_set HG.out
        refine ⟨_, _, FW.opRuns_val rfl (exec_mapEntry' rfl r), kx.mono (fun _ _ _ h => h.2), ?_⟩
        replace f3 := (f3.ext hE).block kx (fun _ _ => mapX_ne (by omega))
        replace fa := (fa.ext hE).block kx (fun _ _ => mapX_ne (by omega))
        replace kW := (kW.trans (Keep.of_ext hE)).trans (kx.mono (fun _ _ _ h => h.two2))
        clear f5
        have f5 := f2
        clear f2 r kx hE
        simp only [Act.put, List.setIfInBounds_toArray, List.set_cons_succ, List.set_cons_zero]
        refine FV.first 19 (by kernel_rfl) (by kernel_rfl) (by kernel_rfl) ?_
        refine FV.stillv (v := .int .i64 s5) rfl rfl rfl (fun _ _ => rfl) ?_
        simp only [Act.put, List.setIfInBounds_toArray, List.set_cons_succ, List.set_cons_zero]
        refine FV.one (i := 20) (by kernel_rfl) ?_
        refine FV.free rfl rfl (fun u5 hE => ?_)
        replace hE : Ext x4 u5 := hE
        obtain ⟨x5, r, f2, kx⟩ := (f5.ext hE).store bn
        refine ⟨_, _, opRuns_skip rfl (exec_entryStore' rfl r), kx.mono (fun _ _ _ h => h.2), ?_⟩
        replace f3 := (f3.ext hE).block kx (fun _ _ => mapX_ne (by omega))
        replace fa := (fa.ext hE).block kx (fun _ _ => mapX_ne (by omega))
        replace kW := (kW.trans (Keep.of_ext hE)).trans (kx.mono (fun _ _ _ h => h.two2))
        clear f5
        have f5 := f2
        clear f2 r kx hE
        simp only [Act.put]
        refine FV.none (by kernel_rfl) (fun w9 hE9 => ?_)
        replace hE9 : Ext x5 w9 := hE9
        have hri := (HR6.out.addGrp kW HKL.out f3 f5 fa lb).ext hE9
        have hra : RingAt w9 N R Q TB A PL st6 := by rw [← HST6.out]; exact ⟨_, _, _, _, _, _, _, _, _, hri⟩
        have hkk : Keep (RgX N TB A PL) w w9 := (HK6.out.trans (kW.mono (fun _ _ _ h => HTWO.out _ _ h))).trans (Keep.of_ext hE9)
        have hfin := FIN.out 0 st6 w9 hra hkk HC6.out
        clear hri hra hkk hE9 kW f3 f5 fa FIN FNO
        go_wp2
        exact hfin
      · refine FV.free rfl rfl (fun u6 hE => ?_)
        replace hE : Ext W5 u6 := ((Keep.refl _ W5).drew).trans hE
        obtain ⟨v3, s3, x6, r, f2, kx⟩ := (f3.ext hE).opened Tryz.underlying72 HLEN3.out zero_keyed HG.out
        refine ⟨_, _, FW.opRuns_val rfl (exec_mapEntry' rfl r), kx.mono (fun _ _ _ h => h.2), ?_⟩
        replace f5 := (f5.ext hE).block kx (fun _ _ => mapX_ne (by omega))
        replace kW := (kW.trans (Keep.of_ext hE)).trans (kx.mono (fun _ _ _ h => h.two1))
        clear f3
        have f3 := f2
        clear f2 r kx hE
        simp only [Act.put, List.setIfInBounds_toArray, List.set_cons_succ, List.set_cons_zero]
        refine FV.first 16 (by kernel_rfl) (by kernel_rfl) (by kernel_rfl) ?_
        refine FV.stillv (v := .int .i64 s3) rfl rfl rfl (fun _ _ => rfl) ?_
        simp only [Act.put, List.setIfInBounds_toArray, List.set_cons_succ, List.set_cons_zero]
        refine FV.two (i := 14) (j := 17) (by kernel_rfl) ?_ ?_
        · refine FV.free rfl rfl (fun u7 hE => ?_)
          replace hE : Ext x6 u7 := hE
          refine ⟨_, _, FW.opRuns_val rfl (exec_makeMap' rfl), (Keep.refl _ u7).alloc _, ?_⟩
          have hE2 : Ext x6 (u7.alloc (.map #[] 0)) := hE.alloc _
          have lb : W5.heap.size ≤ u7.heap.size := by have h1 := kW.size; have h2 := hE.size; omega
          have fa := NMap.made u7 SetV
          replace f3 := f3.ext hE2
          replace f5 := f5.ext hE2
          replace kW := kW.trans (Keep.of_ext hE2)
          obtain ⟨bn, hbn⟩ : ∃ b, u7.heap.size = b := ⟨_, rfl⟩
          obtain ⟨x7, hx⟩ : ∃ x, u7.alloc (.map #[] 0) = x := ⟨_, rfl⟩
          rw [hbn, hx] at fa ⊢
          rw [hbn] at lb
          rw [hx] at f3 f5 kW
          clear hbn hx hE hE2
          simp only [Act.put, List.setIfInBounds_toArray, List.set_cons_succ, List.set_cons_zero]
          refine FV.one (i := 17) (by kernel_rfl) ?_
          refine FV.free rfl rfl (fun u8 hE => ?_)
          replace hE : Ext x7 u8 := hE
          obtain ⟨x8, r, f2, kx⟩ := (f3.ext hE).store (0, k)
          unfold keyedV at r
          rw [HCN.out] at r
          refine ⟨_, _, opRuns_skip rfl (exec_entryStore' rfl r), kx.mono (fun _ _ _ h => h.2), ?_⟩
          replace f5 := (f5.ext hE).block kx (fun _ _ => mapX_ne (by omega))
          replace fa := (fa.ext hE).block kx (fun _ _ => mapX_ne (by omega))
          replace kW := (kW.trans (Keep.of_ext hE)).trans (kx.mono (fun _ _ _ h => h.two1))
          clear f3
          have f3 := f2
          clear f2 r kx hE
          simp only [Act.put]
          refine FV.one (i := 18) (by kernel_rfl) ?_
          refine FV.free rfl rfl (fun u9 hE => ?_)
          replace hE : Ext x8 u9 := hE
          obtain ⟨v5, s5, x9, r, f2, kx⟩ := (f5.ext hE).opened Tryz.underlying73 HLEN5.out zero_set HG.out
          refine ⟨_, _, FW.opRuns_val rfl (exec_mapEntry' rfl r), kx.mono (fun _ _ _ h => h.2), ?_⟩
          replace f3 := (f3.ext hE).block kx (fun _ _ => mapX_ne (by omega))
          replace fa := (fa.ext hE).block kx (fun _ _ => mapX_ne (by omega))
          replace kW := (kW.trans (Keep.of_ext hE)).trans (kx.mono (fun _ _ _ h => h.two2))
          clear f5
          have f5 := f2
          clear f2 r kx hE
          simp only [Act.put, List.setIfInBounds_toArray, List.set_cons_succ, List.set_cons_zero]
          refine FV.first 19 (by kernel_rfl) (by kernel_rfl) (by kernel_rfl) ?_
          refine FV.stillv (v := .int .i64 s5) rfl rfl rfl (fun _ _ => rfl) ?_
          simp only [Act.put, List.setIfInBounds_toArray, List.set_cons_succ, List.set_cons_zero]
          refine FV.one (i := 20) (by kernel_rfl) ?_
          refine FV.free rfl rfl (fun u10 hE => ?_)
          replace hE : Ext x9 u10 := hE
          obtain ⟨x10, r, f2, kx⟩ := (f5.ext hE).store bn
          refine ⟨_, _, opRuns_skip rfl (exec_entryStore' rfl r), kx.mono (fun _ _ _ h => h.2), ?_⟩
          replace f3 := (f3.ext hE).block kx (fun _ _ => mapX_ne (by omega))
          replace fa := (fa.ext hE).block kx (fun _ _ => mapX_ne (by omega))
          replace kW := (kW.trans (Keep.of_ext hE)).trans (kx.mono (fun _ _ _ h => h.two2))
          clear f5
          have f5 := f2
          clear f2 r kx hE
          simp only [Act.put]
          refine FV.none (by kernel_rfl) (fun w9 hE9 => ?_)
          replace hE9 : Ext x10 w9 := hE9
          have hri := (HR6.out.addGrp kW HKL.out f3 f5 fa lb).ext hE9
          have hra : RingAt w9 N R Q TB A PL st6 := by rw [← HST6.out]; exact ⟨_, _, _, _, _, _, _, _, _, hri⟩
          have hkk : Keep (RgX N TB A PL) w w9 := (HK6.out.trans (kW.mono (fun _ _ _ h => HTWO.out _ _ h))).trans (Keep.of_ext hE9)
          have hfin := FIN.out 0 st6 w9 hra hkk HC6.out
          clear hri hra hkk hE9 kW f3 f5 fa FIN FNO
          go_wp2
          exact hfin
        · refine FV.free rfl rfl (fun u11 hE => ?_)
          replace hE : Ext x6 u11 := hE
          obtain ⟨x11, r, f2, kx⟩ := (f3.ext hE).store (0, k)
          unfold keyedV at r
          rw [HCN.out] at r
          refine ⟨_, _, opRuns_skip rfl (exec_entryStore' rfl r), kx.mono (fun _ _ _ h => h.2), ?_⟩
          replace f5 := (f5.ext hE).block kx (fun _ _ => mapX_ne (by omega))
          replace kW := (kW.trans (Keep.of_ext hE)).trans (kx.mono (fun _ _ _ h => h.two1))
          clear f3
          have f3 := f2
          clear f2 r kx hE
          simp only [Act.put]
          refine FV.two (i := 14) (j := 18) (by kernel_rfl) ?_ ?_
          · refine FV.free rfl rfl (fun u12 hE => ?_)
            replace hE : Ext x11 u12 := hE
            refine ⟨_, _, FW.opRuns_val rfl (exec_makeMap' rfl), (Keep.refl _ u12).alloc _, ?_⟩
            have hE2 : Ext x11 (u12.alloc (.map #[] 0)) := hE.alloc _
            have lb : W5.heap.size ≤ u12.heap.size := by have h1 := kW.size; have h2 := hE.size; omega
            have fa := NMap.made u12 SetV
            replace f3 := f3.ext hE2
            replace f5 := f5.ext hE2
            replace kW := kW.trans (Keep.of_ext hE2)
            obtain ⟨bn, hbn⟩ : ∃ b, u12.heap.size = b := ⟨_, rfl⟩
            obtain ⟨x12, hx⟩ : ∃ x, u12.alloc (.map #[] 0) = x := ⟨_, rfl⟩
            rw [hbn, hx] at fa ⊢
            rw [hbn] at lb
            rw [hx] at f3 f5 kW
            clear hbn hx hE hE2
            simp only [Act.put, List.setIfInBounds_toArray, List.set_cons_succ, List.set_cons_zero]
            refine FV.one (i := 18) (by kernel_rfl) ?_
            refine FV.free rfl rfl (fun u13 hE => ?_)
            replace hE : Ext x12 u13 := hE
            obtain ⟨v5, s5, x13, r, f2, kx⟩ := (f5.ext hE).opened Tryz.underlying73 HLEN5.out zero_set HG.out
            refine ⟨_, _, FW.opRuns_val rfl (exec_mapEntry' rfl r), kx.mono (fun _ _ _ h => h.2), ?_⟩
            replace f3 := (f3.ext hE).block kx (fun _ _ => mapX_ne (by omega))
            replace fa := (fa.ext hE).block kx (fun _ _ => mapX_ne (by omega))
            replace kW := (kW.trans (Keep.of_ext hE)).trans (kx.mono (fun _ _ _ h => h.two2))
            clear f5
            have f5 := f2
            clear f2 r kx hE
            simp only [Act.put, List.setIfInBounds_toArray, List.set_cons_succ, List.set_cons_zero]
            refine FV.first 19 (by kernel_rfl) (by kernel_rfl) (by kernel_rfl) ?_
            refine FV.stillv (v := .int .i64 s5) rfl rfl rfl (fun _ _ => rfl) ?_
            simp only [Act.put, List.setIfInBounds_toArray, List.set_cons_succ, List.set_cons_zero]
            refine FV.one (i := 20) (by kernel_rfl) ?_
            refine FV.free rfl rfl (fun u14 hE => ?_)
            replace hE : Ext x13 u14 := hE
            obtain ⟨x14, r, f2, kx⟩ := (f5.ext hE).store bn
            refine ⟨_, _, opRuns_skip rfl (exec_entryStore' rfl r), kx.mono (fun _ _ _ h => h.2), ?_⟩
            replace f3 := (f3.ext hE).block kx (fun _ _ => mapX_ne (by omega))
            replace fa := (fa.ext hE).block kx (fun _ _ => mapX_ne (by omega))
            replace kW := (kW.trans (Keep.of_ext hE)).trans (kx.mono (fun _ _ _ h => h.two2))
            clear f5
            have f5 := f2
            clear f2 r kx hE
            simp only [Act.put]
            refine FV.none (by kernel_rfl) (fun w9 hE9 => ?_)
            replace hE9 : Ext x14 w9 := hE9
            have hri := (HR6.out.addGrp kW HKL.out f3 f5 fa lb).ext hE9
            have hra : RingAt w9 N R Q TB A PL st6 := by rw [← HST6.out]; exact ⟨_, _, _, _, _, _, _, _, _, hri⟩
            have hkk : Keep (RgX N TB A PL) w w9 := (HK6.out.trans (kW.mono (fun _ _ _ h => HTWO.out _ _ h))).trans (Keep.of_ext hE9)
            have hfin := FIN.out 0 st6 w9 hra hkk HC6.out
            clear hri hra hkk hE9 kW f3 f5 fa FIN FNO
            go_wp2
            exact hfin
          · refine FV.free rfl rfl (fun u15 hE => ?_)
            replace hE : Ext x11 u15 := hE
            obtain ⟨v5, s5, x15, r, f2, kx⟩ := (f5.ext hE).opened Tryz.underlying73 HLEN5.out zero_set HG.out
            refine ⟨_, _, FW.opRuns_val rfl (exec_mapEntry' rfl r), kx.mono (fun _ _ _ h => h.2), ?_⟩
            replace f3 := (f3.ext hE).block kx (fun _ _ => mapX_ne (by omega))
            replace kW := (kW.trans (Keep.of_ext hE)).trans (kx.mono (fun _ _ _ h => h.two2))
            clear f5
            have f5 := f2
            clear f2 r kx hE
            simp only [Act.put, List.setIfInBounds_toArray, List.set_cons_succ, List.set_cons_zero]
            refine FV.first 19 (by kernel_rfl) (by kernel_rfl) (by kernel_rfl) ?_
            refine FV.stillv (v := .int .i64 s5) rfl rfl rfl (fun _ _ => rfl) ?_
            simp only [Act.put, List.setIfInBounds_toArray, List.set_cons_succ, List.set_cons_zero]
            refine FV.one (i := 14) (by kernel_rfl) ?_
            refine FV.free rfl rfl (fun u16 hE => ?_)
            replace hE : Ext x15 u16 := hE
            refine ⟨_, _, FW.opRuns_val rfl (exec_makeMap' rfl), (Keep.refl _ u16).alloc _, ?_⟩
            have hE2 : Ext x15 (u16.alloc (.map #[] 0)) := hE.alloc _
            have lb : W5.heap.size ≤ u16.heap.size := by have h1 := kW.size; have h2 := hE.size; omega
            have fa := NMap.made u16 SetV
            replace f3 := f3.ext hE2
            replace f5 := f5.ext hE2
            replace kW := kW.trans (Keep.of_ext hE2)
            obtain ⟨bn, hbn⟩ : ∃ b, u16.heap.size = b := ⟨_, rfl⟩
            obtain ⟨x16, hx⟩ : ∃ x, u16.alloc (.map #[] 0) = x := ⟨_, rfl⟩
            rw [hbn, hx] at fa ⊢
            rw [hbn] at lb
            rw [hx] at f3 f5 kW
            clear hbn hx hE hE2
            simp only [Act.put, List.setIfInBounds_toArray, List.set_cons_succ, List.set_cons_zero]
            refine FV.one (i := 20) (by kernel_rfl) ?_
            refine FV.free rfl rfl (fun u17 hE => ?_)
            replace hE : Ext x16 u17 := hE
            obtain ⟨x17, r, f2, kx⟩ := (f5.ext hE).store bn
            refine ⟨_, _, opRuns_skip rfl (exec_entryStore' rfl r), kx.mono (fun _ _ _ h => h.2), ?_⟩
            replace f3 := (f3.ext hE).block kx (fun _ _ => mapX_ne (by omega))
            replace fa := (fa.ext hE).block kx (fun _ _ => mapX_ne (by omega))
            replace kW := (kW.trans (Keep.of_ext hE)).trans (kx.mono (fun _ _ _ h => h.two2))
            clear f5
            have f5 := f2
            clear f2 r kx hE
            simp only [Act.put]
            refine FV.none (by kernel_rfl) (fun w9 hE9 => ?_)
            replace hE9 : Ext x17 w9 := hE9
            have hri := (HR6.out.addGrp kW HKL.out f3 f5 fa lb).ext hE9
            have hra : RingAt w9 N R Q TB A PL st6 := by rw [← HST6.out]; exact ⟨_, _, _, _, _, _, _, _, _, hri⟩
            have hkk : Keep (RgX N TB A PL) w w9 := (HK6.out.trans (kW.mono (fun _ _ _ h => HTWO.out _ _ h))).trans (Keep.of_ext hE9)
            have hfin := FIN.out 0 st6 w9 hra hkk HC6.out
            clear hri hra hkk hE9 kW f3 f5 fa FIN FNO
            go_wp2
            exact hfin
end Go.Proofs.YtcmhgpgookiomaaGreat
