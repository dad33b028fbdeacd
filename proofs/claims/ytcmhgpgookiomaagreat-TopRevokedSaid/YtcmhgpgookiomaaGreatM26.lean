/-
  TopRevoked: the document's ring: do: grant. the document's ring: do: revoke. the document's ring: do, whatever the change. the document's ring: note: who is a reader of what now.
-/
import Derived.Test.YtcmhgpgookiomaaGreatM24
import Derived.Test.YtcmhgpgookiomaaGreatM25
import Derived.Laws.StructEq
namespace Go.Proofs.YtcmhgpgookiomaaGreat
open Go.RowKit Go.Shelf Go.Maps

attribute [local go_sem] Oper.semAt_some

set_option maxRecDepth 20000 in
set_option maxHeartbeats 8000000 in
theorem do19_k6 {w : World} {b X : Nat} {x : RX} {s : Nat} (h : RingX w b X x s) (hB : BndX x) (hT : TightX x) (who gr re : Nat) :
    Calls Tryz.prog 19 #[.pointer (some ⟨X, 0, none⟩), .agg #[.int .i64 6, .int .u32 (who : Int), .int .u32 (gr : Int), .int .u32 (re : Int)]] w fun e w' => if (getA x.gs gr).isSome = true then if (getA x.ms re).isSome = true then ((gr ∈ rdrX x re → e = .returned (.int .i64 0) ∧ RingX w' b X x s ∧ Ext w w') ∧ (gr ∉ rdrX x re → e = .returned (.int .i64 0) ∧ RingX w' b X { x with ms := setA x.ms re (risesX (rdrX x re) gr) } s ∧ Keep (DK b) w w')) else e = .returned (.int .i64 212) ∧ Ext w w' else e = .returned (.int .i64 211) ∧ Ext w w' := by
  have HT := Lib.hid hT
  clear hT
  obtain ⟨vp, vg, vm, vs, pc, gc, mc, sc, ns, h, hns⟩ := h
  obtain ⟨PP, hPP⟩ := place_ex x.ps who
  obtain ⟨GG, hGG⟩ := place_ex (x.gs.map (·.1)) gr
  obtain ⟨MM, hMM⟩ := place_ex (x.ms.map (·.1)) re
  have HCP := Lib.hid (fun B (hE : Ext w B) => person_place (h.ext hE) hB hPP)
  have HCG := Lib.hid (fun B (hE : Ext w B) => group_place (h.ext hE) hB hGG)
  have HCM := Lib.hid (fun B (hE : Ext w B) => realm_place (h.ext hE) hB hMM)
  have HPP := Lib.hid hPP
  have HGG := Lib.hid hGG
  have HMM := Lib.hid hMM
  have HH := Lib.hid h
  have HB := Lib.hid hB
  clear hPP hGG hMM h hB
  refine calls_cps fun R0 hR => ?_
  have HR := Lib.hid hR
  clear hR
  go_enter Tryz.func19, Tryz.ntmps19
  go_upto_region 1 with fail
  refine wp_laid1 fun W0 eW0 hG0 => ?_
  have aC : Arr W0 w.heap.size 25 [.int .i64 6, .int .u32 (who : Int), .int .u32 (gr : Int), .int .u32 (re : Int)] := hG0
  have hX0 : ∀ B, Ext W0.drew B → Ext W0 B := fun B hB => ((Keep.refl _ W0).drew).trans hB
  have d1 := fun g : FY.At (fun _ _ => False) W0.drew => (aC.ext (hX0 _ g.ext)).cell (i := 1) rfl
  have d2 := fun g : FY.At (fun _ _ => False) W0.drew => (aC.ext (hX0 _ g.ext)).cell (i := 2) rfl
  have d3 := fun g : FY.At (fun _ _ => False) W0.drew => (aC.ext (hX0 _ g.ext)).cell (i := 3) rfl
  have HCP := Lib.hid (fun B (hE : Ext W0.drew B) => HCP.out B (eW0.trans (hX0 B hE)))
  have HCG := Lib.hid (fun B (hE : Ext W0.drew B) => HCG.out B (eW0.trans (hX0 B hE)))
  have HCM := Lib.hid (fun B (hE : Ext W0.drew B) => HCM.out B (eW0.trans (hX0 B hE)))
  have HE0 := Lib.hid eW0
  have HX0 := Lib.hid hX0
  have HID := Lib.hid (fun B (h : Ext W0.drew B) => h)
  clear hG0 eW0 hX0
  refine FY.wp_flow (X := fun _ _ => False) (0 :: 1 :: 2 :: 3 :: 4 :: 5 :: 6 :: 7 :: 8 :: 9 :: 10 :: 11 :: 12 :: 13 :: 14 :: []) (fun j => if j = 3 then .grows (fun v _ => v = .int .i64 PP) (fun v => v = .int .i64 PP) else if j = 7 then .grows (fun v _ => v = .int .i64 GG) (fun v => v = .int .i64 GG) else if j = 11 then .grows (fun v _ => v = .int .i64 MM) (fun v => v = .int .i64 MM) else .still) (by kernel_rfl) (by kernel_rfl) ?_
  iterate 3 (refine FY.flow_q rfl rfl rfl ?_; go_big_quiet_step (fail); refine wpQuiet_nil ?_)
  refine FY.flow_g rfl rfl rfl (by simp) ⟨_, rfl⟩ (fun _ _ _ h _ => h) (fun _ _ h => h) (fun w5 hE5 _ => ?_) (fun v hv => ?_)
  · have hcall := HCP.out w5 (HID.out w5 hE5)
    go_wp2_with fail
    refine hcall.mono ?_
    rintro e w6 ⟨rfl, rfl⟩
    clear hcall
    go_wp2
    exact Keep.refl _ _
  subst hv
  simp only [Act.put, List.setIfInBounds_toArray, List.set_cons_succ, List.set_cons_zero]
  iterate 3 (refine FY.flow_q rfl rfl rfl ?_; go_big_quiet_step (fail); refine wpQuiet_nil ?_)
  refine FY.flow_g rfl rfl rfl (by simp) ⟨_, rfl⟩ (fun _ _ _ h _ => h) (fun _ _ h => h) (fun w5 hE5 _ => ?_) (fun v hv => ?_)
  · have hcall := HCG.out w5 (HID.out w5 hE5)
    go_wp2_with fail
    refine hcall.mono ?_
    rintro e w6 ⟨rfl, rfl⟩
    clear hcall
    go_wp2
    exact Keep.refl _ _
  subst hv
  simp only [Act.put, List.setIfInBounds_toArray, List.set_cons_succ, List.set_cons_zero]
  iterate 3 (refine FY.flow_q rfl rfl rfl ?_; go_big_quiet_step (fail); refine wpQuiet_nil ?_)
  refine FY.flow_g rfl rfl rfl (by simp) ⟨_, rfl⟩ (fun _ _ _ h _ => h) (fun _ _ h => h) (fun w5 hE5 _ => ?_) (fun v hv => ?_)
  · have hcall := HCM.out w5 (HID.out w5 hE5)
    go_wp2_with fail
    refine hcall.mono ?_
    rintro e w6 ⟨rfl, rfl⟩
    clear hcall
    go_wp2
    exact Keep.refl _ _
  subst hv
  simp only [Act.put, List.setIfInBounds_toArray, List.set_cons_succ, List.set_cons_zero]
  iterate 3 (refine FY.flow_q rfl rfl rfl ?_; go_big_quiet_step (fail); refine wpQuiet_nil ?_)
  clear d1 d2 d3
  refine FY.flow_end (fun w1 hE1 _ => ?_)
  have aC1 := aC.ext (HX0.out w1 hE1)
  have z0 := aC1.cell (i := 0) rfl
  have z1 := aC1.cell (i := 1) rfl
  have z2 := aC1.cell (i := 2) rfl
  have z3 := aC1.cell (i := 3) rfl
  have HE1 := Lib.hid (HE0.out.trans (HX0.out w1 hE1))
  have H1 := Lib.hid (HH.out.ext HE1.out)
  have HC1 := Lib.hid aC1
  clear hE1 aC aC1 HCP HCG HCM HID HX0 HE0
  rcases HGG.out with ⟨i, hi, rfl, hni⟩ | ⟨hno, rfl⟩
  rotate_left
  · have hn1 : ¬ ((getA x.gs gr).isSome = true) := fun h => hno ((in_map _ _).1 h)
    have hfin := HR.out (.returned (.int .i64 211)) w1 (by rw [if_neg hn1]; exact ⟨rfl, HE1.out⟩)
    clear HR hno z1 z2 z3
    go_wp2
    exact hfin
  have hc1 : (getA x.gs gr).isSome = true := (in_map _ _).2 (List.mem_of_getElem? hi)
  rcases HMM.out with ⟨j, hj, rfl, hnj⟩ | ⟨hno, rfl⟩
  rotate_left
  · have hn2 : ¬ ((getA x.ms re).isSome = true) := fun h => hno ((in_map _ _).1 h)
    have h0i : (0 : Int) ≤ (i : Int) := by omega
    clear hi hni
    have hfin := HR.out (.returned (.int .i64 212)) w1 (by rw [if_pos hc1, if_neg hn2]; exact ⟨rfl, HE1.out⟩)
    clear HR hno z1 z2 z3
    go_wp2
    exact hfin
  have hc2 : (getA x.ms re).isSome = true := (in_map _ _).2 (List.mem_of_getElem? hj)
  have h0i : (0 : Int) ≤ (i : Int) := by omega
  have h0j : (0 : Int) ≤ (j : Int) := by omega
  have HI := Lib.hid (And.intro hi hni)
  have hjj := Lib.hid (And.intro hj hnj)
  obtain ⟨ms, hms⟩ := at_of_map hj
  have hjG : j < x.ms.length := lt_of_get hms
  obtain ⟨gg, og, cg, rfl, hog⟩ := own_form HH.out.mo (by omega)
  obtain ⟨_, _, q, hrg⟩ := owns_row H1.out.mo
  cases q
  obtain ⟨_, _, v0, q, hcv, _, hu0⟩ := sec_members hrg H1.out.ms hms
  cases q
  obtain ⟨a0, c0, rfl, hrow0, hrb0⟩ := hu0
  have hm0 : ms.length ≤ 1000 := HB.out.mg _ (List.mem_of_getElem? hms)
  obtain ⟨G, hG⟩ : ∃ G, x.ms.length = G := ⟨_, rfl⟩
  obtain ⟨L, hL⟩ : ∃ L, ms.length = L := ⟨_, rfl⟩
  have hgc : G ≤ cg := by have := hrg.1; omega
  have hcl := H1.out.cells
  rw [hG] at hcl hjG
  have HU := Lib.hid (show URow w1 (.slice a0 ms.length c0) ms from ⟨a0, c0, rfl, hrow0, hrb0⟩)
  have HROW0 := Lib.hid hrow0
  rw [hL] at hcv HROW0 hm0
  have HMS := Lib.hid hms
  have HOG := Lib.hid hog
  have HCL := Lib.hid hcl
  have HCV := Lib.hid hcv
  have HL := Lib.hid hL
  have HGE := Lib.hid hG
  clear hms hog hcl hcv hL hG hrow0 hrb0 hrg
  have HNOW := Lib.hid (show rdrX x re = ms by unfold rdrX; rw [getA_at HMS.out hjj.out.2]; rfl)
  have HC := Lib.hid (And.intro hc1 hc2)
  clear hi hni hj hnj hc1 hc2 z1 z2 z3
  by_cases hmem : gr ∈ ms
  · have hXw1 : ∀ B, Ext w1.drew B → Ext w1 B := fun B hB => (Keep.refl _ w1).trans (((Keep.refl _ w1).drew).trans hB)
    have d2 := fun g : FY.At (fun _ _ => False) w1.drew => (HCL.out.ext (hXw1 _ g.ext)).cell (i := 3) rfl
    have d34 := fun g : FY.At (fun _ _ => False) w1.drew => Ext.cell (hXw1 _ g.ext) HCV.out
    have dw := fun g : FY.At (fun _ _ => False) w1.drew => (HC1.out.ext (hXw1 _ g.ext)).cell (i := 2) rfl
    have dk := fun g : FY.At (fun _ _ => False) w1.drew => (HC1.out.ext (hXw1 _ g.ext)).cell (i := 0) rfl
    have HXw1 := Lib.hid hXw1
    clear hXw1
    have HHAS := Lib.hid (fun B (hE : Ext w1 B) => show Calls Tryz.prog 23 #[.slice a0 L c0, .int .u32 (gr : Int)] B fun e w' => e = .returned (.bool true) ∧ w' = B by
      have := has_any a0 c0 ms gr B (by rw [HL.out]; exact HROW0.out.ext hE)
      rw [HL.out] at this
      refine this.mono (fun e w' q => ?_)
      rw [show decide (gr ∈ ms) = true by simp [hmem]] at q
      exact q)
    have HMEM := Lib.hid hmem
    clear hmem
    go_wp2
    clear z0
    refine FY.wp_flow (X := fun _ _ => False) (0 :: 1 :: 2 :: 3 :: 4 :: 5 :: 6 :: 7 :: 8 :: 9 :: 10 :: 11 :: 12 :: 13 :: 14 :: []) (fun j => if j = 10 then .grows (fun v _ => v = .bool true) (fun v => v = .bool true) else .still) (by kernel_rfl) (by kernel_rfl) ?_
    iterate 10 (refine FY.flow_q rfl rfl rfl ?_; go_big_quiet_step (fail); refine wpQuiet_nil ?_)
    clear d2 d34 dw
    refine FY.flow_g rfl rfl rfl (by simp) ⟨_, rfl⟩ (fun _ _ _ h _ => h) (fun _ _ h => h) (fun w5 hE5 _ => ?_) (fun v hv => ?_)
    · have hcall := HHAS.out w5 (HXw1.out w5 hE5)
      go_wp2_with fail
      refine hcall.mono ?_
      rintro e w6 ⟨rfl, rfl⟩
      clear hcall dk
      go_wp2
      exact Keep.refl _ _
    subst hv
    simp only [Act.put, List.setIfInBounds_toArray, List.set_cons_succ, List.set_cons_zero]
    iterate 4 (refine FY.flow_q rfl rfl rfl ?_; go_big_quiet_step (fail); refine wpQuiet_nil ?_)
    clear dk
    refine FY.flow_end (fun w2 hE2 _ => ?_)
    have HE12 := Lib.hid (HXw1.out w2 hE2)
    clear hE2 HXw1
    have hfin := HR.out (.returned (.int .i64 0)) w2 (by rw [if_pos HC.out.1, if_pos HC.out.2]; exact ⟨fun _ => ⟨rfl, ⟨_, _, _, _, _, _, _, _, _, (by have := H1.out.ext HE12.out; exact this), hns⟩, HE1.out.trans HE12.out⟩, fun hh => absurd (by rw [HNOW.out]; exact HMEM.out) hh⟩)
    clear HR
    go_wp2
    exact hfin
  · have hXw1 : ∀ B, Ext w1.drew B → Ext w1 B := fun B hB => (Keep.refl _ w1).trans (((Keep.refl _ w1).drew).trans hB)
    have d2 := fun g : FY.At (fun _ _ => False) w1.drew => (HCL.out.ext (hXw1 _ g.ext)).cell (i := 3) rfl
    have d34 := fun g : FY.At (fun _ _ => False) w1.drew => Ext.cell (hXw1 _ g.ext) HCV.out
    have dw := fun g : FY.At (fun _ _ => False) w1.drew => (HC1.out.ext (hXw1 _ g.ext)).cell (i := 2) rfl
    have dk := fun g : FY.At (fun _ _ => False) w1.drew => (HC1.out.ext (hXw1 _ g.ext)).cell (i := 0) rfl
    have HXw1 := Lib.hid hXw1
    clear hXw1
    have HHAS := Lib.hid (fun B (hE : Ext w1 B) => show Calls Tryz.prog 23 #[.slice a0 L c0, .int .u32 (gr : Int)] B fun e w' => e = .returned (.bool false) ∧ w' = B by
      have := has_any a0 c0 ms gr B (by rw [HL.out]; exact HROW0.out.ext hE)
      rw [HL.out] at this
      refine this.mono (fun e w' q => ?_)
      rw [show decide (gr ∈ ms) = false by simp [hmem]] at q
      exact q)
    have HMEM := Lib.hid hmem
    clear hmem
    go_wp2
    clear z0
    refine FY.wp_flow (X := fun _ _ => False) (0 :: 1 :: 2 :: 3 :: 4 :: 5 :: 6 :: 7 :: 8 :: 9 :: 10 :: 11 :: 12 :: 13 :: 14 :: []) (fun j => if j = 10 then .grows (fun v _ => v = .bool false) (fun v => v = .bool false) else .still) (by kernel_rfl) (by kernel_rfl) ?_
    iterate 10 (refine FY.flow_q rfl rfl rfl ?_; go_big_quiet_step (fail); refine wpQuiet_nil ?_)
    clear d2 d34 dw
    refine FY.flow_g rfl rfl rfl (by simp) ⟨_, rfl⟩ (fun _ _ _ h _ => h) (fun _ _ h => h) (fun w5 hE5 _ => ?_) (fun v hv => ?_)
    · have hcall := HHAS.out w5 (HXw1.out w5 hE5)
      go_wp2_with fail
      refine hcall.mono ?_
      rintro e w6 ⟨rfl, rfl⟩
      clear hcall dk
      go_wp2
      exact Keep.refl _ _
    subst hv
    simp only [Act.put, List.setIfInBounds_toArray, List.set_cons_succ, List.set_cons_zero]
    iterate 4 (refine FY.flow_q rfl rfl rfl ?_; go_big_quiet_step (fail); refine wpQuiet_nil ?_)
    clear dk
    refine FY.flow_end (fun w2 hE2 _ => ?_)
    have HE12 := Lib.hid (HXw1.out w2 hE2)
    clear hE2 HXw1
    have z0 := (HC1.out.ext HE12.out).cell (i := 0) rfl
    go_wp2
    clear z0
    have hXw2 : ∀ B, Ext w2.drew B → Ext w1 B := fun B hB => (HE12.out).trans (((Keep.refl _ w2).drew).trans hB)
    have d2 := fun g : FY.At (fun _ _ => False) w2.drew => (HCL.out.ext (hXw2 _ g.ext)).cell (i := 3) rfl
    have d34 := fun g : FY.At (fun _ _ => False) w2.drew => Ext.cell (hXw2 _ g.ext) HCV.out
    have dw := fun g : FY.At (fun _ _ => False) w2.drew => (HC1.out.ext (hXw2 _ g.ext)).cell (i := 2) rfl
    have dk := fun g : FY.At (fun _ _ => False) w2.drew => (HC1.out.ext (hXw2 _ g.ext)).cell (i := 0) rfl
    have HXw2 := Lib.hid hXw2
    clear hXw2
    have HNEW := Lib.hid (fun B (hE : Ext w1 B) => show Calls Tryz.prog 41 #[.slice a0 L c0, .int .u32 (gr : Int)] B fun e w' => ∃ v, e = .returned v ∧ URow w' v (risesX ms gr) ∧ Ext B w' by
      have := rises_any a0 c0 ms gr B (by rw [HL.out]; exact HROW0.out.ext hE) (by have := HL.out; omega)
      rw [HL.out] at this
      refine this.mono (fun e w' q => ?_)
      obtain ⟨v, h1, h2, h3⟩ := q
      exact ⟨v, h1, URow.of_own h2, h3⟩)
    refine FY.wp_flow (X := fun _ _ => False) (0 :: 1 :: 2 :: 3 :: 4 :: 5 :: 6 :: 7 :: 8 :: 9 :: 10 :: 11 :: 12 :: 13 :: 14 :: 15 :: 16 :: 17 :: 18 :: []) (fun j => if j = 15 then .grows (fun v w' => URow w' v (risesX ms gr)) (fun v => ∃ a c, v = .slice a (risesX ms gr).length c) else if j = 18 then .last else .still) (by kernel_rfl) (by kernel_rfl) ?_
    iterate 15 (refine FY.flow_q rfl rfl rfl ?_; go_big_quiet_step (fail); refine wpQuiet_nil ?_)
    clear d2 d34 dw dk
    refine FY.flow_g rfl rfl rfl (by simp) ⟨_, none, 0, rfl⟩ (fun _ _ _ h hE => h.ext hE) (fun _ _ h => by obtain ⟨a, c, h, _⟩ := h; exact ⟨a, c, h⟩) (fun w5 hE5 _ => ?_) (fun v hv => ?_)
    · have hcall := HNEW.out w5 (HXw2.out w5 hE5)
      go_wp2_with fail
      refine hcall.mono ?_
      rintro e w6 ⟨v, rfl, hu, e6⟩
      have hu := Lib.hid hu
      have he6 := Lib.hid e6
      clear hcall e6
      go_wp2
      exact he6.out
    obtain ⟨a1, c1, rfl⟩ := hv
    simp only [Act.put, List.setIfInBounds_toArray, List.set_cons_succ, List.set_cons_zero]
    iterate 2 (refine FY.flow_q rfl rfl rfl ?_; go_big_quiet_step (fail); refine wpQuiet_nil ?_)
    refine FY.flow_l rfl rfl (by kernel_rfl) (fun w5 hE5 hf => ?_)
    have hu : URow w5 (.slice a1 (risesX ms gr).length c1) (risesX ms gr) := hf 15
    have e15 := HXw2.out w5 hE5
    have h5 := H1.out.ext e15
    have h5' : RIn w5 b X x vp vg (.slice (some ⟨gg, og, none⟩) G cg) vs pc gc mc sc ns := by have := h5; rw [HGE.out] at this; exact this
    obtain ⟨h6, k6, f6, old, c6⟩ := h5'.setM HOG.out HMS.out hu
    obtain ⟨w6, hw6⟩ : ∃ w6, w5.setCell ⟨gg, og + j * 35 + 34, none⟩ (.slice a1 (risesX ms gr).length c1) = w6 := ⟨_, rfl⟩
    rw [hw6] at h6 k6
    have HW6 := Lib.hid hw6
    have HK6 := Lib.hid (show Keep (TX b [81]) w w6 from (Keep.of_ext (HE1.out.trans e15)).trans k6)
    have H6 := Lib.hid h6
    have HU5 := Lib.hid hu
    have HC6 := Lib.hid ((HC1.out.ext e15).keep k6 (TX.no (by decide)))
    clear h5 h5' h6 k6 hf hE5 hw6 hu e15
    go_wp2
    rw [HW6.out]
    clear f6 c6
    obtain ⟨ap, cp, rfl, hrp⟩ := owns_row H6.out.go
    have hr6 : Row 35 w6 (some ⟨gg, og, none⟩) (x.ms.set j (re, risesX ms gr)).length cg (mc.set (j * 35 + 34) (.slice a1 (risesX ms gr).length c1)) := by
      obtain ⟨_, _, q, hr⟩ := owns_row H6.out.mo
      cases q
      exact hr
    have hix : (x.ms.set j (re, risesX ms gr))[j]? = some (re, risesX ms gr) := List.getElem?_set_self (by have := HGE.out; omega)
    obtain ⟨_, _, C, v2, ep, q2, hCl, hC1, hC0, hCe, _, _, hld⟩ := sec_struct hr6 H6.out.ms hix
    cases q2
    obtain ⟨gms, hgms⟩ := at_of_map HI.out.1
    obtain ⟨g3, o3, C3, v3, ep3, rfl, h3l, h31, h30, h3e, _, _, h3ld⟩ := sec_struct hrp H6.out.gs hgms
    have hip : i < x.gs.length := lt_of_get hgms
    have hcp : x.gs.length ≤ cp := hrp.1
    obtain ⟨NP, hNP⟩ : ∃ NP, x.gs.length = NP := ⟨_, rfl⟩
    have hmb := fun B (hB : Ext w6 B) => readerX_any X B (Ext.cell hB (H6.out.cells.cell (i := 0) rfl)) C C3 re ep gr ep3 hCl h3l hC0 hCe h30 h3e
    have hcl6 := H6.out.cells
    have hG6 : (x.ms.set j (re, risesX ms gr)).length = G := by rw [List.length_set, HGE.out]
    try simp only at hcl6
    rw [hNP] at hcl6 hip hcp
    have hX6 : ∀ B, Ext w6.drew B → Ext w6 B := fun B hB => ((Keep.refl _ w6).drew).trans hB
    have e2 := fun g : FY.At (fun _ _ => False) w6.drew => (hcl6.ext (hX6 _ g.ext)).cell (i := 3) rfl
    have e1 := fun g : FY.At (fun _ _ => False) w6.drew => (hcl6.ext (hX6 _ g.ext)).cell (i := 2) rfl
    try simp only [hG6] at e2 e1
    have hi1 := Lib.hid (show (Tryz.prog.info? 81).map (·.size) = some C.length by rw [size_realm, hCl])
    have hi2 := Lib.hid (show (Tryz.prog.info? 84).map (·.size) = some C3.length by rw [size_group, h3l])
    have HMB := Lib.hid hmb
    have HLD1 := Lib.hid hld
    have HLD2 := Lib.hid h3ld
    have HX6 := Lib.hid hX6
    clear hmb hld h3ld hX6 hCl hC1 hC0 hCe h3l h31 h30 hix hr6 hrp hcl6 hG6 hNP h3e hgms
    go_wp2
    refine FY.wp_flow (X := fun _ _ => False) (0 :: 1 :: 2 :: 3 :: 4 :: 5 :: 6 :: 7 :: 8 :: 9 :: 10 :: 11 :: 12 :: 13 :: 14 :: 15 :: 16 :: []) (fun j => if j = 15 then .grows (fun v _ => v = .int .i64 0) (fun v => v = .int .i64 0) else .still) (by kernel_rfl) (by kernel_rfl) ?_
    iterate 7 (refine FY.flow_q rfl rfl rfl ?_; go_big_quiet_step (fail); refine wpQuiet_nil ?_)
    refine FY.flow_vq (v := .agg C.toArray) rfl rfl rfl (fun w' hE => exec_load_mid' rfl rfl (HLD1.out w' (HX6.out w' hE)) Tryz.underlying81 rfl hi1.out) ?_
    simp only [Act.put, List.setIfInBounds_toArray, List.set_cons_succ, List.set_cons_zero]
    iterate 6 (refine FY.flow_q rfl rfl rfl ?_; go_big_quiet_step (fail); refine wpQuiet_nil ?_)
    refine FY.flow_vq (v := .agg C3.toArray) rfl rfl rfl (fun w' hE => exec_load_mid' rfl rfl (HLD2.out w' (HX6.out w' hE)) Tryz.underlying84 rfl hi2.out) ?_
    simp only [Act.put, List.setIfInBounds_toArray, List.set_cons_succ, List.set_cons_zero]
    clear e1 e2
    refine FY.flow_g rfl rfl rfl (by simp) ⟨_, rfl⟩ (fun _ _ _ h _ => h) (fun _ _ h => h) (fun w5 hE5 _ => ?_) (fun v hv => ?_)
    · have hcall := HMB.out w5 (HX6.out w5 hE5)
      go_wp2_with fail
      refine hcall.mono ?_
      rintro e w6 ⟨rfl, e6⟩
      clear hcall
      go_wp2
    subst hv
    simp only [Act.put, List.setIfInBounds_toArray, List.set_cons_succ, List.set_cons_zero]
    iterate 1 (refine FY.flow_q rfl rfl rfl ?_; go_big_quiet_step (fail); refine wpQuiet_nil ?_)
    refine FY.flow_end (fun wE hE _ => ?_)
    have hE' := HX6.out wE hE
    have hfin := HR.out (.returned (.int .i64 0)) wE (by rw [if_pos HC.out.1, if_pos HC.out.2]; exact ⟨fun hh => absurd (by rw [← HNOW.out]; exact hh) HMEM.out, fun _ => ⟨rfl, ⟨_, _, _, _, _, _, _, _, _, (by rw [HNOW.out, setA_at HMS.out hjj.out.2]; exact H6.out.ext hE'), hns⟩, ((HK6.out.mono (fun _ _ _ hx => hx.mono (by decide))).trans (Keep.of_ext hE'))⟩⟩)
    clear HR hE hE'
    go_wp2
    exact hfin
end Go.Proofs.YtcmhgpgookiomaaGreat
namespace Go.Proofs.YtcmhgpgookiomaaGreat
open Go.RowKit Go.Shelf Go.Maps

attribute [local go_sem] Oper.semAt_some

set_option maxRecDepth 20000 in
set_option maxHeartbeats 8000000 in
theorem do19_k7 {w : World} {b X : Nat} {x : RX} {s : Nat} (h : RingX w b X x s) (hB : BndX x) (hT : TightX x) (who gr re : Nat) :
    Calls Tryz.prog 19 #[.pointer (some ⟨X, 0, none⟩), .agg #[.int .i64 7, .int .u32 (who : Int), .int .u32 (gr : Int), .int .u32 (re : Int)]] w fun e w' => if (getA x.gs gr).isSome = true then if (getA x.ms re).isSome = true then ((gr ∉ rdrX x re → e = .returned (.int .i64 0) ∧ RingX w' b X x s ∧ Ext w w') ∧ (gr ∈ rdrX x re → e = .returned (.int .i64 0) ∧ RingX w' b X { x with ms := setA x.ms re (butX (rdrX x re) gr) } s ∧ Keep (DK b) w w')) else e = .returned (.int .i64 212) ∧ Ext w w' else e = .returned (.int .i64 211) ∧ Ext w w' := by
  have HT := Lib.hid hT
  clear hT
  obtain ⟨vp, vg, vm, vs, pc, gc, mc, sc, ns, h, hns⟩ := h
  obtain ⟨PP, hPP⟩ := place_ex x.ps who
  obtain ⟨GG, hGG⟩ := place_ex (x.gs.map (·.1)) gr
  obtain ⟨MM, hMM⟩ := place_ex (x.ms.map (·.1)) re
  have HCP := Lib.hid (fun B (hE : Ext w B) => person_place (h.ext hE) hB hPP)
  have HCG := Lib.hid (fun B (hE : Ext w B) => group_place (h.ext hE) hB hGG)
  have HCM := Lib.hid (fun B (hE : Ext w B) => realm_place (h.ext hE) hB hMM)
  have HPP := Lib.hid hPP
  have HGG := Lib.hid hGG
  have HMM := Lib.hid hMM
  have HH := Lib.hid h
  have HB := Lib.hid hB
  clear hPP hGG hMM h hB
  refine calls_cps fun R0 hR => ?_
  have HR := Lib.hid hR
  clear hR
  go_enter Tryz.func19, Tryz.ntmps19
  go_upto_region 1 with fail
  refine wp_laid1 fun W0 eW0 hG0 => ?_
  have aC : Arr W0 w.heap.size 25 [.int .i64 7, .int .u32 (who : Int), .int .u32 (gr : Int), .int .u32 (re : Int)] := hG0
  have hX0 : ∀ B, Ext W0.drew B → Ext W0 B := fun B hB => ((Keep.refl _ W0).drew).trans hB
  have d1 := fun g : FY.At (fun _ _ => False) W0.drew => (aC.ext (hX0 _ g.ext)).cell (i := 1) rfl
  have d2 := fun g : FY.At (fun _ _ => False) W0.drew => (aC.ext (hX0 _ g.ext)).cell (i := 2) rfl
  have d3 := fun g : FY.At (fun _ _ => False) W0.drew => (aC.ext (hX0 _ g.ext)).cell (i := 3) rfl
  have HCP := Lib.hid (fun B (hE : Ext W0.drew B) => HCP.out B (eW0.trans (hX0 B hE)))
  have HCG := Lib.hid (fun B (hE : Ext W0.drew B) => HCG.out B (eW0.trans (hX0 B hE)))
  have HCM := Lib.hid (fun B (hE : Ext W0.drew B) => HCM.out B (eW0.trans (hX0 B hE)))
  have HE0 := Lib.hid eW0
  have HX0 := Lib.hid hX0
  have HID := Lib.hid (fun B (h : Ext W0.drew B) => h)
  clear hG0 eW0 hX0
  refine FY.wp_flow (X := fun _ _ => False) (0 :: 1 :: 2 :: 3 :: 4 :: 5 :: 6 :: 7 :: 8 :: 9 :: 10 :: 11 :: 12 :: 13 :: 14 :: []) (fun j => if j = 3 then .grows (fun v _ => v = .int .i64 PP) (fun v => v = .int .i64 PP) else if j = 7 then .grows (fun v _ => v = .int .i64 GG) (fun v => v = .int .i64 GG) else if j = 11 then .grows (fun v _ => v = .int .i64 MM) (fun v => v = .int .i64 MM) else .still) (by kernel_rfl) (by kernel_rfl) ?_
  iterate 3 (refine FY.flow_q rfl rfl rfl ?_; go_big_quiet_step (fail); refine wpQuiet_nil ?_)
  refine FY.flow_g rfl rfl rfl (by simp) ⟨_, rfl⟩ (fun _ _ _ h _ => h) (fun _ _ h => h) (fun w5 hE5 _ => ?_) (fun v hv => ?_)
  · have hcall := HCP.out w5 (HID.out w5 hE5)
    go_wp2_with fail
    refine hcall.mono ?_
    rintro e w6 ⟨rfl, rfl⟩
    clear hcall
    go_wp2
    exact Keep.refl _ _
  subst hv
  simp only [Act.put, List.setIfInBounds_toArray, List.set_cons_succ, List.set_cons_zero]
  iterate 3 (refine FY.flow_q rfl rfl rfl ?_; go_big_quiet_step (fail); refine wpQuiet_nil ?_)
  refine FY.flow_g rfl rfl rfl (by simp) ⟨_, rfl⟩ (fun _ _ _ h _ => h) (fun _ _ h => h) (fun w5 hE5 _ => ?_) (fun v hv => ?_)
  · have hcall := HCG.out w5 (HID.out w5 hE5)
    go_wp2_with fail
    refine hcall.mono ?_
    rintro e w6 ⟨rfl, rfl⟩
    clear hcall
    go_wp2
    exact Keep.refl _ _
  subst hv
  simp only [Act.put, List.setIfInBounds_toArray, List.set_cons_succ, List.set_cons_zero]
  iterate 3 (refine FY.flow_q rfl rfl rfl ?_; go_big_quiet_step (fail); refine wpQuiet_nil ?_)
  refine FY.flow_g rfl rfl rfl (by simp) ⟨_, rfl⟩ (fun _ _ _ h _ => h) (fun _ _ h => h) (fun w5 hE5 _ => ?_) (fun v hv => ?_)
  · have hcall := HCM.out w5 (HID.out w5 hE5)
    go_wp2_with fail
    refine hcall.mono ?_
    rintro e w6 ⟨rfl, rfl⟩
    clear hcall
    go_wp2
    exact Keep.refl _ _
  subst hv
  simp only [Act.put, List.setIfInBounds_toArray, List.set_cons_succ, List.set_cons_zero]
  iterate 3 (refine FY.flow_q rfl rfl rfl ?_; go_big_quiet_step (fail); refine wpQuiet_nil ?_)
  clear d1 d2 d3
  refine FY.flow_end (fun w1 hE1 _ => ?_)
  have aC1 := aC.ext (HX0.out w1 hE1)
  have z0 := aC1.cell (i := 0) rfl
  have z1 := aC1.cell (i := 1) rfl
  have z2 := aC1.cell (i := 2) rfl
  have z3 := aC1.cell (i := 3) rfl
  have HE1 := Lib.hid (HE0.out.trans (HX0.out w1 hE1))
  have H1 := Lib.hid (HH.out.ext HE1.out)
  have HC1 := Lib.hid aC1
  clear hE1 aC aC1 HCP HCG HCM HID HX0 HE0
  rcases HGG.out with ⟨i, hi, rfl, hni⟩ | ⟨hno, rfl⟩
  rotate_left
  · have hn1 : ¬ ((getA x.gs gr).isSome = true) := fun h => hno ((in_map _ _).1 h)
    have hfin := HR.out (.returned (.int .i64 211)) w1 (by rw [if_neg hn1]; exact ⟨rfl, HE1.out⟩)
    clear HR hno z1 z2 z3
    go_wp2
    exact hfin
  have hc1 : (getA x.gs gr).isSome = true := (in_map _ _).2 (List.mem_of_getElem? hi)
  rcases HMM.out with ⟨j, hj, rfl, hnj⟩ | ⟨hno, rfl⟩
  rotate_left
  · have hn2 : ¬ ((getA x.ms re).isSome = true) := fun h => hno ((in_map _ _).1 h)
    have h0i : (0 : Int) ≤ (i : Int) := by omega
    clear hi hni
    have hfin := HR.out (.returned (.int .i64 212)) w1 (by rw [if_pos hc1, if_neg hn2]; exact ⟨rfl, HE1.out⟩)
    clear HR hno z1 z2 z3
    go_wp2
    exact hfin
  have hc2 : (getA x.ms re).isSome = true := (in_map _ _).2 (List.mem_of_getElem? hj)
  have h0i : (0 : Int) ≤ (i : Int) := by omega
  have h0j : (0 : Int) ≤ (j : Int) := by omega
  have HI := Lib.hid (And.intro hi hni)
  have hjj := Lib.hid (And.intro hj hnj)
  obtain ⟨ms, hms⟩ := at_of_map hj
  have hjG : j < x.ms.length := lt_of_get hms
  obtain ⟨gg, og, cg, rfl, hog⟩ := own_form HH.out.mo (by omega)
  obtain ⟨_, _, q, hrg⟩ := owns_row H1.out.mo
  cases q
  obtain ⟨_, _, v0, q, hcv, _, hu0⟩ := sec_members hrg H1.out.ms hms
  cases q
  obtain ⟨a0, c0, rfl, hrow0, hrb0⟩ := hu0
  have hm0 : ms.length ≤ 1000 := HB.out.mg _ (List.mem_of_getElem? hms)
  obtain ⟨G, hG⟩ : ∃ G, x.ms.length = G := ⟨_, rfl⟩
  obtain ⟨L, hL⟩ : ∃ L, ms.length = L := ⟨_, rfl⟩
  have hgc : G ≤ cg := by have := hrg.1; omega
  have hcl := H1.out.cells
  rw [hG] at hcl hjG
  have HU := Lib.hid (show URow w1 (.slice a0 ms.length c0) ms from ⟨a0, c0, rfl, hrow0, hrb0⟩)
  have HROW0 := Lib.hid hrow0
  rw [hL] at hcv HROW0 hm0
  have HMS := Lib.hid hms
  have HOG := Lib.hid hog
  have HCL := Lib.hid hcl
  have HCV := Lib.hid hcv
  have HL := Lib.hid hL
  have HGE := Lib.hid hG
  clear hms hog hcl hcv hL hG hrow0 hrb0 hrg
  have HNOW := Lib.hid (show rdrX x re = ms by unfold rdrX; rw [getA_at HMS.out hjj.out.2]; rfl)
  have HC := Lib.hid (And.intro hc1 hc2)
  clear hi hni hj hnj hc1 hc2 z1 z2 z3
  by_cases hmem : gr ∈ ms
  · have hXw1 : ∀ B, Ext w1.drew B → Ext w1 B := fun B hB => (Keep.refl _ w1).trans (((Keep.refl _ w1).drew).trans hB)
    have d2 := fun g : FY.At (fun _ _ => False) w1.drew => (HCL.out.ext (hXw1 _ g.ext)).cell (i := 3) rfl
    have d34 := fun g : FY.At (fun _ _ => False) w1.drew => Ext.cell (hXw1 _ g.ext) HCV.out
    have dw := fun g : FY.At (fun _ _ => False) w1.drew => (HC1.out.ext (hXw1 _ g.ext)).cell (i := 2) rfl
    have dk := fun g : FY.At (fun _ _ => False) w1.drew => (HC1.out.ext (hXw1 _ g.ext)).cell (i := 0) rfl
    have HXw1 := Lib.hid hXw1
    clear hXw1
    have HHAS := Lib.hid (fun B (hE : Ext w1 B) => show Calls Tryz.prog 23 #[.slice a0 L c0, .int .u32 (gr : Int)] B fun e w' => e = .returned (.bool true) ∧ w' = B by
      have := has_any a0 c0 ms gr B (by rw [HL.out]; exact HROW0.out.ext hE)
      rw [HL.out] at this
      refine this.mono (fun e w' q => ?_)
      rw [show decide (gr ∈ ms) = true by simp [hmem]] at q
      exact q)
    have HMEM := Lib.hid hmem
    clear hmem
    go_wp2
    clear z0
    refine FY.wp_flow (X := fun _ _ => False) (0 :: 1 :: 2 :: 3 :: 4 :: 5 :: 6 :: 7 :: 8 :: 9 :: 10 :: 11 :: 12 :: 13 :: 14 :: []) (fun j => if j = 10 then .grows (fun v _ => v = .bool true) (fun v => v = .bool true) else .still) (by kernel_rfl) (by kernel_rfl) ?_
    iterate 10 (refine FY.flow_q rfl rfl rfl ?_; go_big_quiet_step (fail); refine wpQuiet_nil ?_)
    clear d2 d34 dw
    refine FY.flow_g rfl rfl rfl (by simp) ⟨_, rfl⟩ (fun _ _ _ h _ => h) (fun _ _ h => h) (fun w5 hE5 _ => ?_) (fun v hv => ?_)
    · have hcall := HHAS.out w5 (HXw1.out w5 hE5)
      go_wp2_with fail
      refine hcall.mono ?_
      rintro e w6 ⟨rfl, rfl⟩
      clear hcall dk
      go_wp2
      exact Keep.refl _ _
    subst hv
    simp only [Act.put, List.setIfInBounds_toArray, List.set_cons_succ, List.set_cons_zero]
    iterate 4 (refine FY.flow_q rfl rfl rfl ?_; go_big_quiet_step (fail); refine wpQuiet_nil ?_)
    clear dk
    refine FY.flow_end (fun w2 hE2 _ => ?_)
    have HE12 := Lib.hid (HXw1.out w2 hE2)
    clear hE2 HXw1
    have z0 := (HC1.out.ext HE12.out).cell (i := 0) rfl
    go_wp2
    clear z0
    have hXw2 : ∀ B, Ext w2.drew B → Ext w1 B := fun B hB => (HE12.out).trans (((Keep.refl _ w2).drew).trans hB)
    have d2 := fun g : FY.At (fun _ _ => False) w2.drew => (HCL.out.ext (hXw2 _ g.ext)).cell (i := 3) rfl
    have d34 := fun g : FY.At (fun _ _ => False) w2.drew => Ext.cell (hXw2 _ g.ext) HCV.out
    have dw := fun g : FY.At (fun _ _ => False) w2.drew => (HC1.out.ext (hXw2 _ g.ext)).cell (i := 2) rfl
    have dk := fun g : FY.At (fun _ _ => False) w2.drew => (HC1.out.ext (hXw2 _ g.ext)).cell (i := 0) rfl
    have HXw2 := Lib.hid hXw2
    clear hXw2
    have HNEW := Lib.hid (fun B (hE : Ext w1 B) => show Calls Tryz.prog 43 #[.slice a0 L c0, .int .u32 (gr : Int)] B fun e w' => ∃ v, e = .returned v ∧ URow w' v (butX ms gr) ∧ Ext B w' by
      have := but_any a0 c0 ms gr B (by rw [HL.out]; exact HROW0.out.ext hE) (by have := HL.out; omega)
      rw [HL.out] at this
      refine this.mono (fun e w' q => ?_)
      obtain ⟨v, h1, h2, h3⟩ := q
      exact ⟨v, h1, URow.of_own h2, h3⟩)
    refine FY.wp_flow (X := fun _ _ => False) (0 :: 1 :: 2 :: 3 :: 4 :: 5 :: 6 :: 7 :: 8 :: 9 :: 10 :: 11 :: 12 :: 13 :: 14 :: 15 :: 16 :: 17 :: 18 :: []) (fun j => if j = 15 then .grows (fun v w' => URow w' v (butX ms gr)) (fun v => ∃ a c, v = .slice a (butX ms gr).length c) else if j = 18 then .last else .still) (by kernel_rfl) (by kernel_rfl) ?_
    iterate 15 (refine FY.flow_q rfl rfl rfl ?_; go_big_quiet_step (fail); refine wpQuiet_nil ?_)
    clear d2 d34 dw dk
    refine FY.flow_g rfl rfl rfl (by simp) ⟨_, none, 0, rfl⟩ (fun _ _ _ h hE => h.ext hE) (fun _ _ h => by obtain ⟨a, c, h, _⟩ := h; exact ⟨a, c, h⟩) (fun w5 hE5 _ => ?_) (fun v hv => ?_)
    · have hcall := HNEW.out w5 (HXw2.out w5 hE5)
      go_wp2_with fail
      refine hcall.mono ?_
      rintro e w6 ⟨v, rfl, hu, e6⟩
      have hu := Lib.hid hu
      have he6 := Lib.hid e6
      clear hcall e6
      go_wp2
      exact he6.out
    obtain ⟨a1, c1, rfl⟩ := hv
    simp only [Act.put, List.setIfInBounds_toArray, List.set_cons_succ, List.set_cons_zero]
    iterate 2 (refine FY.flow_q rfl rfl rfl ?_; go_big_quiet_step (fail); refine wpQuiet_nil ?_)
    refine FY.flow_l rfl rfl (by kernel_rfl) (fun w5 hE5 hf => ?_)
    have hu : URow w5 (.slice a1 (butX ms gr).length c1) (butX ms gr) := hf 15
    have e15 := HXw2.out w5 hE5
    have h5 := H1.out.ext e15
    have h5' : RIn w5 b X x vp vg (.slice (some ⟨gg, og, none⟩) G cg) vs pc gc mc sc ns := by have := h5; rw [HGE.out] at this; exact this
    obtain ⟨h6, k6, f6, old, c6⟩ := h5'.setM HOG.out HMS.out hu
    obtain ⟨w6, hw6⟩ : ∃ w6, w5.setCell ⟨gg, og + j * 35 + 34, none⟩ (.slice a1 (butX ms gr).length c1) = w6 := ⟨_, rfl⟩
    rw [hw6] at h6 k6
    have HW6 := Lib.hid hw6
    have HK6 := Lib.hid (show Keep (TX b [81]) w w6 from (Keep.of_ext (HE1.out.trans e15)).trans k6)
    have H6 := Lib.hid h6
    have HU5 := Lib.hid hu
    have HC6 := Lib.hid ((HC1.out.ext e15).keep k6 (TX.no (by decide)))
    clear h5 h5' h6 k6 hf hE5 hw6 hu e15
    obtain ⟨gms, hgms⟩ := at_of_map HI.out.1
    have hbx := HB.out.setM (i := j) (k := re) (ms' := butX ms gr) (by have := but_len ms gr; have := HB.out.mg _ (List.mem_of_getElem? HMS.out); simp only at this; omega)
    have htx := HT.out.setM (i := j) (k := re) (ms' := butX ms gr) (fun g hg => HT.out.m _ (List.mem_of_getElem? HMS.out) g (mem_but.1 hg).2)
    have hix : ({ x with ms := x.ms.set j (re, butX ms gr) } : RX).ms[j]? = some (re, butX ms gr) := List.getElem?_set_self (by have := HGE.out; omega)
    have hrn := renew44_any ⟨_, _, _, _, _, _, _, _, _, H6.out, hns⟩ hbx htx i gr gms hgms
    have HRN := Lib.hid hrn
    have HTN := Lib.hid (fun w7 (h7 : RingX w7 b X { x with ms := x.ms.set j (re, butX ms gr) } s) => turn45_any h7 hbx htx j re (butX ms gr) hix)
    clear hgms hbx htx hix hrn
    go_wp2_with fail
    rw [HW6.out]
    refine HRN.out.mono ?_
    rintro e7 w7 ⟨rfl, h7, k7⟩
    have hx := HTN.out w7 h7
    have HK7 := Lib.hid k7
    clear h7 k7 f6 c6
    go_wp2_with fail
    refine hx.mono ?_
    rintro e8 w8 ⟨rfl, h8, k8⟩
    clear hx
    have hfin := HR.out (.returned (.int .i64 0)) w8 (by rw [if_pos HC.out.1, if_pos HC.out.2]; exact ⟨fun hh => absurd (by rw [HNOW.out]; exact HMEM.out) hh, fun _ => ⟨rfl, (by rw [HNOW.out, setA_at HMS.out hjj.out.2]; exact h8), (((HK6.out.mono (fun _ _ _ hx => hx.mono (by decide))).trans (HK7.out.mono (fun _ _ _ hx => hx.mono (by decide)))).trans (k8.mono (fun _ _ _ hx => hx.mono (by decide))))⟩⟩)
    clear HR h8 k8
    go_wp2
    exact hfin
  · have hXw1 : ∀ B, Ext w1.drew B → Ext w1 B := fun B hB => (Keep.refl _ w1).trans (((Keep.refl _ w1).drew).trans hB)
    have d2 := fun g : FY.At (fun _ _ => False) w1.drew => (HCL.out.ext (hXw1 _ g.ext)).cell (i := 3) rfl
    have d34 := fun g : FY.At (fun _ _ => False) w1.drew => Ext.cell (hXw1 _ g.ext) HCV.out
    have dw := fun g : FY.At (fun _ _ => False) w1.drew => (HC1.out.ext (hXw1 _ g.ext)).cell (i := 2) rfl
    have dk := fun g : FY.At (fun _ _ => False) w1.drew => (HC1.out.ext (hXw1 _ g.ext)).cell (i := 0) rfl
    have HXw1 := Lib.hid hXw1
    clear hXw1
    have HHAS := Lib.hid (fun B (hE : Ext w1 B) => show Calls Tryz.prog 23 #[.slice a0 L c0, .int .u32 (gr : Int)] B fun e w' => e = .returned (.bool false) ∧ w' = B by
      have := has_any a0 c0 ms gr B (by rw [HL.out]; exact HROW0.out.ext hE)
      rw [HL.out] at this
      refine this.mono (fun e w' q => ?_)
      rw [show decide (gr ∈ ms) = false by simp [hmem]] at q
      exact q)
    have HMEM := Lib.hid hmem
    clear hmem
    go_wp2
    clear z0
    refine FY.wp_flow (X := fun _ _ => False) (0 :: 1 :: 2 :: 3 :: 4 :: 5 :: 6 :: 7 :: 8 :: 9 :: 10 :: 11 :: 12 :: 13 :: 14 :: []) (fun j => if j = 10 then .grows (fun v _ => v = .bool false) (fun v => v = .bool false) else .still) (by kernel_rfl) (by kernel_rfl) ?_
    iterate 10 (refine FY.flow_q rfl rfl rfl ?_; go_big_quiet_step (fail); refine wpQuiet_nil ?_)
    clear d2 d34 dw
    refine FY.flow_g rfl rfl rfl (by simp) ⟨_, rfl⟩ (fun _ _ _ h _ => h) (fun _ _ h => h) (fun w5 hE5 _ => ?_) (fun v hv => ?_)
    · have hcall := HHAS.out w5 (HXw1.out w5 hE5)
      go_wp2_with fail
      refine hcall.mono ?_
      rintro e w6 ⟨rfl, rfl⟩
      clear hcall dk
      go_wp2
      exact Keep.refl _ _
    subst hv
    simp only [Act.put, List.setIfInBounds_toArray, List.set_cons_succ, List.set_cons_zero]
    iterate 4 (refine FY.flow_q rfl rfl rfl ?_; go_big_quiet_step (fail); refine wpQuiet_nil ?_)
    clear dk
    refine FY.flow_end (fun w2 hE2 _ => ?_)
    have HE12 := Lib.hid (HXw1.out w2 hE2)
    clear hE2 HXw1
    have hfin := HR.out (.returned (.int .i64 0)) w2 (by rw [if_pos HC.out.1, if_pos HC.out.2]; exact ⟨fun _ => ⟨rfl, ⟨_, _, _, _, _, _, _, _, _, (by have := H1.out.ext HE12.out; exact this), hns⟩, HE1.out.trans HE12.out⟩, fun hh => absurd (by rw [← HNOW.out]; exact hh) HMEM.out⟩)
    clear HR
    go_wp2
    exact hfin
end Go.Proofs.YtcmhgpgookiomaaGreat
namespace Go.Proofs.YtcmhgpgookiomaaGreat
open Go.RowKit Go.Shelf Go.Maps

theorem do19_any {w : World} {b X : Nat} {x : RX} {s : Nat} (h : RingX w b X x s) (hB : BndX x) (hT : TightX x) (hbw : b ≤ w.heap.size) (c : ChgP) :
    Calls Tryz.prog 19 #[.pointer (some ⟨X, 0, none⟩), .agg (chgC c).toArray] w fun e w' => e = .returned (.int .i64 ((changeX x c).1 : Int)) ∧ ((changeX x c).1 = 0 → RingX w' b X (changeX x c).2 s) ∧ Keep (DK b) w w' := by
  obtain ⟨kd, who, gr, re⟩ := c
  have hsame : ∀ w', Ext w w' → RingX w' b X x s := fun w' hE => by
    obtain ⟨vp, vg, vm, vs, pc, gc, mc, sc, ns, h, hns⟩ := h
    exact ⟨vp, vg, vm, vs, pc, gc, mc, sc, ns, h.ext hE, hns⟩
  have hsub : ∀ {ts : List TypeId} {w' : World}, Keep (TX b ts) w w' → (∀ t ∈ ts, t ∈ [43, 111, 84, 81, 119]) → Keep (DK b) w w' := fun h hs => keep_dk h hs
  simp only [chgC]
  unfold changeX
  simp only
  by_cases k1 : kd = 1
  · subst k1
    rw [if_pos rfl]
    refine (do19_k1 h hB hbw who gr re).mono (fun e w' q => ?_)
    by_cases c1 : who ∈ x.ps
    · rw [if_pos c1] at q ⊢
      exact ⟨q.1, fun h => (by cases h), Keep.of_ext q.2⟩
    · rw [if_neg c1] at q ⊢
      exact ⟨q.1, fun _ => q.2.1, hsub q.2.2 (by decide)⟩
  rw [if_neg k1]
  by_cases k2 : kd = 2
  · subst k2
    rw [if_pos rfl]
    refine (do19_k2 h hB hbw who gr re).mono (fun e w' q => ?_)
    by_cases c1 : (getA x.gs gr).isSome = true
    · rw [if_pos c1] at q ⊢
      exact ⟨q.1, fun h => (by cases h), Keep.of_ext q.2⟩
    · rw [if_neg c1] at q ⊢
      exact ⟨q.1, fun _ => q.2.1, hsub q.2.2 (by decide)⟩
  rw [if_neg k2]
  by_cases k3 : kd = 3
  · subst k3
    rw [if_pos rfl]
    refine (do19_k3 h hB hbw who gr re).mono (fun e w' q => ?_)
    by_cases c1 : (getA x.ms re).isSome = true
    · rw [if_pos c1] at q ⊢
      exact ⟨q.1, fun h => (by cases h), Keep.of_ext q.2⟩
    · rw [if_neg c1] at q ⊢
      by_cases c2 : (getA x.gs gr).isSome = true
      · rw [if_pos c2] at q ⊢
        exact ⟨q.1, fun _ => q.2.1, hsub q.2.2 (by decide)⟩
      · rw [if_neg c2] at q ⊢
        exact ⟨q.1, fun h => (by cases h), Keep.of_ext q.2⟩
  rw [if_neg k3]
  by_cases k45 : kd = 4 ∨ kd = 5
  · rw [if_pos k45]
    have key : Calls Tryz.prog 19 #[.pointer (some ⟨X, 0, none⟩), .agg #[.int .i64 kd, .int .u32 (who : Int), .int .u32 (gr : Int), .int .u32 (re : Int)]] w fun e w' =>
        if who ∈ x.ps then if (getA x.gs gr).isSome = true then
          ((decide (who ∈ memX x gr) = decide (kd = 4)) → e = .returned (.int .i64 0) ∧ RingX w' b X x s ∧ Ext w w') ∧
          ((¬ decide (who ∈ memX x gr) = decide (kd = 4)) → e = .returned (.int .i64 0) ∧ (kd = 4 → RingX w' b X { x with gs := setA x.gs gr (risesX (memX x gr) who) } s) ∧ (kd ≠ 4 → RingX w' b X { x with gs := setA x.gs gr (butX (memX x gr) who) } s) ∧ Keep (DK b) w w')
        else e = .returned (.int .i64 211) ∧ Ext w w' else e = .returned (.int .i64 210) ∧ Ext w w' := by
      rcases k45 with rfl | rfl
      · refine (do19_k4 h hB hT who gr re).mono (fun e w' q => ?_)
        split
        · rename_i c1
          rw [if_pos c1] at q
          split
          · rename_i c2
            rw [if_pos c2] at q
            refine ⟨fun hh => q.1 (by simpa using hh), fun hh => ?_⟩
            obtain ⟨q1, q2, q3⟩ := q.2 (by simpa using hh)
            exact ⟨q1, fun _ => q2, fun h => absurd rfl h, q3⟩
          · rename_i c2; rw [if_neg c2] at q; exact q
        · rename_i c1; rw [if_neg c1] at q; exact q
      · refine (do19_k5 h hB hT who gr re).mono (fun e w' q => ?_)
        split
        · rename_i c1
          rw [if_pos c1] at q
          split
          · rename_i c2
            rw [if_pos c2] at q
            refine ⟨fun hh => q.1 (by simpa using hh), fun hh => ?_⟩
            obtain ⟨q1, q2, q3⟩ := q.2 (by simpa using hh)
            exact ⟨q1, fun h => absurd h (by decide), fun _ => q2, q3⟩
          · rename_i c2; rw [if_neg c2] at q; exact q
        · rename_i c1; rw [if_neg c1] at q; exact q
    refine key.mono (fun e w' q => ?_)
    by_cases c1 : who ∈ x.ps
    · rw [if_pos c1] at q ⊢
      by_cases c2 : (getA x.gs gr).isSome = true
      · rw [if_pos c2] at q ⊢
        by_cases c3 : decide (who ∈ memX x gr) = decide (kd = 4)
        · rw [if_pos c3]
          obtain ⟨q1, q2, q3⟩ := q.1 c3
          exact ⟨q1, fun _ => q2, Keep.of_ext q3⟩
        · rw [if_neg c3]
          obtain ⟨q1, q2, q3, q4⟩ := q.2 c3
          by_cases c4 : kd = 4
          · rw [if_pos c4]; exact ⟨q1, fun _ => q2 c4, q4⟩
          · rw [if_neg c4]; exact ⟨q1, fun _ => q3 c4, q4⟩
      · rw [if_neg c2] at q ⊢
        exact ⟨q.1, fun h => (by cases h), Keep.of_ext q.2⟩
    · rw [if_neg c1] at q ⊢
      exact ⟨q.1, fun h => (by cases h), Keep.of_ext q.2⟩
  rw [if_neg k45]
  by_cases k67 : kd = 6 ∨ kd = 7
  · rw [if_pos k67]
    have key : Calls Tryz.prog 19 #[.pointer (some ⟨X, 0, none⟩), .agg #[.int .i64 kd, .int .u32 (who : Int), .int .u32 (gr : Int), .int .u32 (re : Int)]] w fun e w' =>
        if (getA x.gs gr).isSome = true then if (getA x.ms re).isSome = true then
          ((decide (gr ∈ rdrX x re) = decide (kd = 6)) → e = .returned (.int .i64 0) ∧ RingX w' b X x s ∧ Ext w w') ∧
          ((¬ decide (gr ∈ rdrX x re) = decide (kd = 6)) → e = .returned (.int .i64 0) ∧ (kd = 6 → RingX w' b X { x with ms := setA x.ms re (risesX (rdrX x re) gr) } s) ∧ (kd ≠ 6 → RingX w' b X { x with ms := setA x.ms re (butX (rdrX x re) gr) } s) ∧ Keep (DK b) w w')
        else e = .returned (.int .i64 212) ∧ Ext w w' else e = .returned (.int .i64 211) ∧ Ext w w' := by
      rcases k67 with rfl | rfl
      · refine (do19_k6 h hB hT who gr re).mono (fun e w' q => ?_)
        split
        · rename_i c1
          rw [if_pos c1] at q
          split
          · rename_i c2
            rw [if_pos c2] at q
            refine ⟨fun hh => q.1 (by simpa using hh), fun hh => ?_⟩
            obtain ⟨q1, q2, q3⟩ := q.2 (by simpa using hh)
            exact ⟨q1, fun _ => q2, fun h => absurd rfl h, q3⟩
          · rename_i c2; rw [if_neg c2] at q; exact q
        · rename_i c1; rw [if_neg c1] at q; exact q
      · refine (do19_k7 h hB hT who gr re).mono (fun e w' q => ?_)
        split
        · rename_i c1
          rw [if_pos c1] at q
          split
          · rename_i c2
            rw [if_pos c2] at q
            refine ⟨fun hh => q.1 (by simpa using hh), fun hh => ?_⟩
            obtain ⟨q1, q2, q3⟩ := q.2 (by simpa using hh)
            exact ⟨q1, fun h => absurd h (by decide), fun _ => q2, q3⟩
          · rename_i c2; rw [if_neg c2] at q; exact q
        · rename_i c1; rw [if_neg c1] at q; exact q
    refine key.mono (fun e w' q => ?_)
    by_cases c1 : (getA x.gs gr).isSome = true
    · rw [if_pos c1] at q ⊢
      by_cases c2 : (getA x.ms re).isSome = true
      · rw [if_pos c2] at q ⊢
        by_cases c3 : decide (gr ∈ rdrX x re) = decide (kd = 6)
        · rw [if_pos c3]
          obtain ⟨q1, q2, q3⟩ := q.1 c3
          exact ⟨q1, fun _ => q2, Keep.of_ext q3⟩
        · rw [if_neg c3]
          obtain ⟨q1, q2, q3, q4⟩ := q.2 c3
          by_cases c4 : kd = 6
          · rw [if_pos c4]; exact ⟨q1, fun _ => q2 c4, q4⟩
          · rw [if_neg c4]; exact ⟨q1, fun _ => q3 c4, q4⟩
      · rw [if_neg c2] at q ⊢
        exact ⟨q.1, fun h => (by cases h), Keep.of_ext q.2⟩
    · rw [if_neg c1] at q ⊢
      exact ⟨q.1, fun h => (by cases h), Keep.of_ext q.2⟩
  rw [if_neg k67]
  refine (do19_k0 h hB kd ⟨k1, k2, k3, fun h => k45 (.inl h), fun h => k45 (.inr h), fun h => k67 (.inl h), fun h => k67 (.inr h)⟩ who gr re).mono (fun e w' q => ?_)
  exact ⟨q.1, fun h => (by cases h), Keep.of_ext q.2⟩
/-- Small and tight rings stay so. -/
def Sized (k : Nat) (x : RX) : Prop := x.ps.length ≤ k ∧ x.gs.length ≤ k ∧ x.ms.length ≤ k ∧ (∀ q ∈ x.gs, q.2.length ≤ k) ∧ (∀ q ∈ x.ms, q.2.length ≤ k)
theorem Sized.bnd {k : Nat} {x : RX} (h : Sized k x) (hk : k ≤ 1000) : BndX x :=
  ⟨by have := h.1; omega, by have := h.2.1; omega, by have := h.2.2.1; omega, fun q hq => by have := h.2.2.2.1 q hq; omega, fun q hq => by have := h.2.2.2.2 q hq; omega⟩
theorem Sized.mono {k k' : Nat} {x : RX} (h : Sized k x) (hk : k ≤ k') : Sized k' x :=
  ⟨by have := h.1; omega, by have := h.2.1; omega, by have := h.2.2.1; omega, fun q hq => by have := h.2.2.2.1 q hq; omega, fun q hq => by have := h.2.2.2.2 q hq; omega⟩
theorem setA_len : ∀ (l : List (Nat × List Nat)) (n : Nat) (v : List Nat), (setA l n v).length = l.length
  | [], _, _ => rfl
  | (k, q) :: l, n, v => by
    unfold setA
    split
    · rfl
    · simp [setA_len l n v]
theorem setA_mem : ∀ {l : List (Nat × List Nat)} {n : Nat} {v : List Nat} {q : Nat × List Nat}, q ∈ setA l n v → q ∈ l ∨ q = (n, v)
  | [], _, _, _, h => .inl h
  | (k, u) :: l, n, v, q, h => by
    unfold setA at h
    split at h
    · rename_i e
      subst e
      rcases List.mem_cons.1 h with rfl | h
      · exact .inr rfl
      · exact .inl (List.mem_cons_of_mem _ h)
    · rcases List.mem_cons.1 h with rfl | h
      · exact .inl (List.mem_cons_self ..)
      · rcases setA_mem h with h | h
        · exact .inl (List.mem_cons_of_mem _ h)
        · exact .inr h
theorem setA_keys : ∀ (l : List (Nat × List Nat)) (n : Nat) (v : List Nat), (setA l n v).map (·.1) = l.map (·.1)
  | [], _, _ => rfl
  | (k, q) :: l, n, v => by
    unfold setA
    split
    · rfl
    · simp [setA_keys l n v]
theorem getA_in {l : List (Nat × List Nat)} {n : Nat} {v : List Nat} (h : getA l n = some v) : (n, v) ∈ l := by
  induction l with
  | nil => cases h
  | cons p l ih =>
    obtain ⟨k, u⟩ := p
    unfold getA at h
    split at h
    · rename_i e; cases h; subst e; exact List.mem_cons_self ..
    · exact List.mem_cons_of_mem _ (ih h)
theorem getD_len {l : List (Nat × List Nat)} {n k : Nat} (h : ∀ q ∈ l, q.2.length ≤ k) : ((getA l n).getD []).length ≤ k := by
  cases hq : getA l n with
  | none => exact Nat.zero_le _
  | some v => exact h _ (getA_in hq)
theorem change_sized {x : RX} {k : Nat} (h : Sized k x) (hT : TightX x) (c : ChgP) : Sized (k + 1) (changeX x c).2 ∧ TightX (changeX x c).2 := by
  have h0 := h.mono (Nat.le_succ k)
  have hmem : ∀ n, (memX x n).length ≤ k := fun n => getD_len h.2.2.2.1
  have hrdr : ∀ n, (rdrX x n).length ≤ k := fun n => getD_len h.2.2.2.2
  have tmem : ∀ n, ∀ p ∈ memX x n, p ∈ x.ps := fun n p hp => by
    unfold memX at hp
    cases hq : getA x.gs n with
    | none => rw [hq] at hp; cases hp
    | some v => rw [hq] at hp; exact hT.g _ (getA_in hq) p hp
  have trdr : ∀ n, ∀ g ∈ rdrX x n, g ∈ x.gs.map (·.1) := fun n p hp => by
    unfold rdrX at hp
    cases hq : getA x.ms n with
    | none => rw [hq] at hp; cases hp
    | some v => rw [hq] at hp; exact hT.m _ (getA_in hq) p hp
  have setg : ∀ v : List Nat, v.length ≤ k + 1 → (∀ p ∈ v, p ∈ x.ps) → Sized (k + 1) { x with gs := setA x.gs c.group v } ∧ TightX { x with gs := setA x.gs c.group v } := fun v hv hp =>
    ⟨⟨h0.1, by show (setA x.gs c.group v).length ≤ _; rw [setA_len]; exact h0.2.1, h0.2.2.1, fun q hq => by rcases setA_mem hq with q1 | rfl; exact h0.2.2.2.1 q q1; exact hv, h0.2.2.2.2⟩,
     ⟨fun q hq => by rcases setA_mem hq with q1 | rfl; exact hT.g q q1; exact hp, fun q hq g hg => by show g ∈ (setA x.gs c.group v).map (·.1); rw [setA_keys]; exact hT.m q hq g hg⟩⟩
  have setm : ∀ v : List Nat, v.length ≤ k + 1 → (∀ p ∈ v, p ∈ x.gs.map (·.1)) → Sized (k + 1) { x with ms := setA x.ms c.realm v } ∧ TightX { x with ms := setA x.ms c.realm v } := fun v hv hp =>
    ⟨⟨h0.1, h0.2.1, by show (setA x.ms c.realm v).length ≤ _; rw [setA_len]; exact h0.2.2.1, h0.2.2.2.1, fun q hq => by rcases setA_mem hq with q1 | rfl; exact h0.2.2.2.2 q q1; exact hv⟩,
     ⟨hT.g, fun q hq => by rcases setA_mem hq with q1 | rfl; exact hT.m q q1; exact hp⟩⟩
  unfold changeX
  split
  · split
    · exact ⟨h0, hT⟩
    · exact ⟨⟨by simp; exact h.1, h0.2.1, h0.2.2.1, h0.2.2.2.1, h0.2.2.2.2⟩, ⟨fun q hq p hp => List.mem_append_left _ (hT.g q hq p hp), hT.m⟩⟩
  split
  · split
    · exact ⟨h0, hT⟩
    · exact ⟨⟨h0.1, by simp; exact h.2.1, h0.2.2.1, fun q hq => by rcases List.mem_append.1 hq with q1 | q1; exact h0.2.2.2.1 q q1; rw [List.mem_singleton.1 q1]; exact Nat.zero_le _, h0.2.2.2.2⟩,
        ⟨fun q hq p hp => (by rcases List.mem_append.1 hq with q1 | q1; exact hT.g q q1 p hp; rw [List.mem_singleton.1 q1] at hp; cases hp), fun q hq g hg => by show g ∈ List.map (fun q : Nat × List Nat => q.1) (x.gs ++ [(c.group, [])]); rw [List.map_append]; exact List.mem_append_left _ (hT.m q hq g hg)⟩⟩
  split
  · split
    · exact ⟨h0, hT⟩
    · split
      · rename_i hg
        exact ⟨⟨h0.1, h0.2.1, by simp; exact h.2.2.1, h0.2.2.2.1, fun q hq => by rcases List.mem_append.1 hq with q1 | q1; exact h0.2.2.2.2 q q1; rw [List.mem_singleton.1 q1]; simp⟩,
          ⟨hT.g, fun q hq g hg2 => by rcases List.mem_append.1 hq with q1 | q1; exact hT.m q q1 g hg2; rw [List.mem_singleton.1 q1] at hg2; rw [List.mem_singleton.1 hg2]; exact (in_map _ _).1 hg⟩⟩
      · exact ⟨h0, hT⟩
  split
  · split
    · rename_i hp
      split
      · split
        · exact ⟨h0, hT⟩
        · split
          · exact setg _ (by rw [rises_len]; have := hmem c.group; omega) (fun p hq => by rcases mem_rises.1 hq with rfl | hq; exact hp; exact tmem _ p hq)
          · exact setg _ (by have := but_len (memX x c.group) c.who; have := hmem c.group; omega) (fun p hq => tmem _ p (mem_but.1 hq).2)
      · exact ⟨h0, hT⟩
    · exact ⟨h0, hT⟩
  split
  · split
    · rename_i hg
      split
      · split
        · exact ⟨h0, hT⟩
        · split
          · exact setm _ (by rw [rises_len]; have := hrdr c.realm; omega) (fun p hq => by rcases mem_rises.1 hq with rfl | hq; exact (in_map _ _).1 hg; exact trdr _ p hq)
          · exact setm _ (by have := but_len (rdrX x c.realm) c.group; have := hrdr c.realm; omega) (fun p hq => trdr _ p (mem_but.1 hq).2)
      · exact ⟨h0, hT⟩
    · exact ⟨h0, hT⟩
  exact ⟨h0, hT⟩
end Go.Proofs.YtcmhgpgookiomaaGreat
namespace Go.Proofs.YtcmhgpgookiomaaGreat
open Go.RowKit Go.Shelf Go.Maps

attribute [local go_sem] Oper.semAt_some

theorem seen_struct {w : World} {g o n c : Nat} {l : List Nat} (hr : Row 3 w (some ⟨g, o, none⟩) n c (l.map u32n)) {i : Nat} (hi : i < n) : ∃ a b d : Nat, ∀ B, Ext w B → (loadCellsFrom ⟨g, o + i * 3, none⟩ 0 3 #[]).run Tryz.prog B = .ok #[.int .u32 (a : Int), .int .u32 (b : Int), .int .u32 (d : Int)] B := by
  have hl : l.length = n * 3 := by have := hr.2.2.1; simpa using this
  have hlen : ((l.drop (i * 3)).take 3).length = 3 := by simp; omega
  obtain ⟨L, hL⟩ : ∃ L, (l.drop (i * 3)).take 3 = L := ⟨_, rfl⟩
  rw [hL] at hlen
  match L, hlen with
  | [a, b, d], _ =>
    refine ⟨a, b, d, fun B hB => ?_⟩
    have := row_loads (P := Tryz.prog) (hr.ext hB) (by omega) (i := i * 3) (k := 3) (by omega)
    rw [← List.map_drop, ← List.map_take, hL] at this
    exact this
theorem eql_seen (a b c d e f : Nat) : ∃ t : Bool, ∀ w : World, (binOp .eql 119 (.agg #[.int .u32 (a : Int), .int .u32 (b : Int), .int .u32 (c : Int)]) (.agg #[.int .u32 (d : Int), .int .u32 (e : Int), .int .u32 (f : Int)])).run Tryz.prog w = .ok (.bool t) w := by
  refine ⟨(a : Int) == d && ((b : Int) == e && (c : Int) == f), fun w => ?_⟩
  simp [go_sem]
  by_cases h1 : (a : Int) = d <;> by_cases h2 : (b : Int) = e <;> by_cases h3 : (c : Int) = f <;> simp_all
theorem exec_eql_agg {P : Program} {w : World} {o : Oper} {a : Act} {t t' : TypeId} {x y : Operand} {xs ys : Array Value} {r : Value} (ho : o.op = .binOp .eql t x y t') (hx : a.eval x = .agg xs) (hy : a.eval y = .agg ys) (hm : P.eqGuardType P.depth t = false)
    (h : ∀ w, (binOp .eql t (.agg xs) (.agg ys)).run P w = .ok r w) : (execOp a.eval o).run P w = .ok (.value r) w := by
  unfold execOp
  simp only [ho, hx, hy, Sem.run_bind, run_eqGuard_agg (P := P) w .eql t x y xs ys hm, h w, Result.andThen_ok, Sem.run_pure]

/-- The ring but for who was seen. -/
def RIs (w0 : World) (b X : Nat) (x : RX) (vp vg vm : Value) (pc gc mc : List Value) (s : Nat) (w : World) : Prop := Keep (TX b [43, 119]) w0 w ∧ ∃ vs sc ns, RIn w b X x vp vg vm vs pc gc mc sc ns ∧ ns ≤ s
theorem RIs.ext {w0 w w' : World} {b X : Nat} {x : RX} {vp vg vm : Value} {pc gc mc : List Value} {s : Nat} (h : RIs w0 b X x vp vg vm pc gc mc s w) (hE : Ext w w') : RIs w0 b X x vp vg vm pc gc mc s w' := by
  obtain ⟨h1, vs, sc, ns, h2, h3⟩ := h
  exact ⟨h1.trans (Keep.of_ext hE), vs, sc, ns, h2.ext hE, h3⟩
theorem RIs.mono {w0 w : World} {b X : Nat} {x : RX} {vp vg vm : Value} {pc gc mc : List Value} {s s' : Nat} (h : RIs w0 b X x vp vg vm pc gc mc s w) (hs : s ≤ s') : RIs w0 b X x vp vg vm pc gc mc s' w := by
  obtain ⟨h1, vs, sc, ns, h2, h3⟩ := h
  exact ⟨h1, vs, sc, ns, h2, by omega⟩

set_option maxRecDepth 20000 in
set_option maxHeartbeats 8000000 in
theorem note20_any {w : World} {b X : Nat} {x : RX} {s : Nat} (h : RingX w b X x s) (hB : BndX x) (hbw : b ≤ w.heap.size) (hs : s + x.ms.length * x.ps.length ≤ 1000000) :
    Calls Tryz.prog 20 #[.pointer (some ⟨X, 0, none⟩)] w fun e w' => e = .returned (.tuple #[]) ∧ RingX w' b X x (s + x.ms.length * x.ps.length) ∧ Keep (DK b) w w' := by
  obtain ⟨vp, vg, vm, vs, pc, gc, mc, sc, ns, h, hns⟩ := h
  obtain ⟨am, cm, rfl, hrm⟩ := owns_row h.mo
  obtain ⟨ap, cp, rfl, hrp⟩ := owns_row h.po
  obtain ⟨M, hM⟩ : ∃ M, x.ms.length = M := ⟨_, rfl⟩
  obtain ⟨N, hN⟩ : ∃ N, x.ps.length = N := ⟨_, rfl⟩
  have c3 := h.cells.cell (i := 3) rfl
  have hmc : M ≤ cm := by have := hrm.1; omega
  have hpc : N ≤ cp := by have := hrp.1; omega
  have hM1 : M ≤ 1000 := by have := hB.m; omega
  have hN1 : N ≤ 1000 := by have := hB.p; omega
  have HR0 : Hid (RIs w b X x (.slice ap x.ps.length cp) vg (.slice am x.ms.length cm) pc gc mc s w) := Lib.hid ⟨Keep.refl _ _, _, _, _, h, hns⟩
  have hms := h.ms
  have hps := h.ps
  rw [hM, hN] at hs ⊢
  rw [hM] at c3 HR0
  rw [hN] at HR0
  have HM := Lib.hid hM
  have HN := Lib.hid hN
  have HRM := Lib.hid hrm
  have HRP := Lib.hid hrp
  have HMS := Lib.hid hms
  have HPS := Lib.hid hps
  have HB := Lib.hid hB
  clear h hM hN hrm hrp hB hns hms hps
  refine calls_cps fun R0 hR => ?_
  have HR := Lib.hid hR
  clear hR
  have HS := Lib.hid hs
  clear hs
  go_enter Tryz.func20, Tryz.ntmps20
  go_wp2
  clear c3
  go_loopw [15] (fun ix wr => ∃ k : Nat, k ≤ M ∧ ix = .int .i64 (k : Int) ∧ Hid (RIs w b X x (.slice ap N cp) vg (.slice am M cm) pc gc mc (s + k * N) wr)) (fun ix _ => M - (vI ix).toNat)
  case atStart => exact ⟨0, by omega, rfl, Lib.hid (HR0.out.mono (by omega))⟩
  case round =>
    obtain ⟨k, hk, rfl, HRI⟩ := hrel
    by_cases hlt : k < M
    · obtain ⟨⟨n, rs⟩, hp⟩ : ∃ p, x.ms[k]? = some p := ⟨_, List.getElem?_eq_getElem (by have := HM.out; omega)⟩
      obtain ⟨_, vs', sc', ns', hwr, _⟩ := HRI.out
      have hrm : Row 35 wr am x.ms.length cm mc := by
        obtain ⟨_, _, q, hr⟩ := owns_row hwr.mo
        cases q
        exact hr
      obtain ⟨gm, om, C, v, e, rfl, hCl, hC1, hC0, hCe, _, _, hld⟩ := sec_struct hrm hwr.ms hp
      have hlk := Lib.hid (hld wr (Keep.refl _ wr))
      have hiC := Lib.hid (show (Tryz.prog.info? 81).map (·.size) = some C.length by rw [size_realm, hCl])
      have hiC2 := Lib.hid (show (Tryz.prog.info? 81).map (·.size) = some C.toArray.size by rw [size_realm, List.size_toArray, hCl])
      have hCs := Lib.hid (show 35 = C.toArray.size by rw [List.size_toArray, hCl])
      have h1C := Lib.hid (all_of hC1)
      have HC0 := Lib.hid hC0
      have HCe := Lib.hid hCe
      have HCELL := Lib.hid hwr.cells
      clear hp hrm hwr hCl hC1 hC0 hCe hld
      go_wp2_with (first
        | (refine wpList_val (o := ⟨some 18, _, _, _, _, _⟩) (v := .agg C.toArray) ?_ ?_ ?_; exact exec_load_mid' rfl rfl hlk.out Tryz.underlying81 rfl hiC.out; rfl)
        | (refine wpList_skip0 (o := ⟨none, .store _ _ _, _, _, _, _⟩) (w' := wr.alloc (.cells C.toArray 81)) ?_ ?_ ?_ ?_; exact exec_store_new rfl rfl rfl hiC2.out hCs.out h1C.out; rfl; rfl; refine wpList_laid1 fun W eW hG => ?_; have c1 := (HCELL.out.ext eW).cell (i := 1) rfl)
        | fail)
      have aC : Arr W wr.heap.size 81 C := hG
      obtain ⟨p3, hp3⟩ : ∃ p, wr.heap.size = p := ⟨_, rfl⟩
      rw [hp3] at aC ⊢
      have HA := Lib.hid aC
      have HRW := Lib.hid (HRI.out.ext eW)
      clear hp3 hG aC c1 eW HCELL HRI
      go_loopw [24] (fun ix wr => ∃ kp : Nat, kp ≤ N ∧ ix = .int .i64 (kp : Int) ∧ Hid (RIs w b X x (.slice ap N cp) vg (.slice (some ⟨gm, om, none⟩) M cm) pc gc mc (s + k * N + kp) wr) ∧ Hid (Arr wr p3 81 C)) (fun ix _ => N - (vI ix).toNat)
      case atStart => exact ⟨0, by omega, rfl, HRW, HA⟩
      case round =>
        obtain ⟨kp, hkp, rfl, HRI, HAR⟩ := hrel
        by_cases hltp : kp < N
        · obtain ⟨pn, hpn⟩ : ∃ p, x.ps[kp]? = some p := ⟨_, List.getElem?_eq_getElem (by have := HN.out; omega)⟩
          obtain ⟨_, vs', sc', ns', hwr, hns'⟩ := HRI.out
          have hle : s + k * N + kp + 1 ≤ 1000000 := by
            have h1 := Nat.mul_le_mul_right N (show k + 1 ≤ M by omega)
            rw [Nat.succ_mul] at h1
            have := HS.out
            omega
          have hrp : Row 33 wr ap x.ps.length cp pc := by
            obtain ⟨_, _, q, hr⟩ := owns_row hwr.po
            cases q
            exact hr
          obtain ⟨gp, op, C3, rfl, h3l, h31, h30, h3ld⟩ := sec_person hrp hwr.ps hpn
          obtain ⟨as', cs', rfl, hrs⟩ := owns_row hwr.so
          obtain ⟨sl, hsl⟩ := hwr.ss
          rw [hsl] at hrs
          have HSROW := Lib.hid hrs
          have hlk := Lib.hid (h3ld _ (Keep.refl _ _))
          have hi3 := Lib.hid (show (Tryz.prog.info? 111).map (·.size) = some C3.length by rw [size_person, h3l])
          have hi32 := Lib.hid (show (Tryz.prog.info? 111).map (·.size) = some C3.toArray.size by rw [size_person, List.size_toArray, h3l])
          have h3s := Lib.hid (show 33 = C3.toArray.size by rw [List.size_toArray, h3l])
          have h13 := Lib.hid (all_of h31)
          have H30 := Lib.hid h30
          have HWI := Lib.hid hwr
          have hi9 := Lib.hid (show (Tryz.prog.info? 119).map (·.size) = some (#[Value.int .u32 (pn : Int), .int .u32 (n : Int), .int .u32 (e : Int)] : Array Value).size by kernel_rfl)
          have h19 := Lib.hid (show ([Value.int .u32 (pn : Int), .int .u32 (n : Int), .int .u32 (e : Int)] : List Value).toArray.all (·.oneCell') = true from all_of (fun u hu => by simp only [List.mem_cons, List.not_mem_nil, or_false] at hu; rcases hu with rfl | rfl | rfl <;> rfl))
          clear hrp h3l h31 h30 h3ld hrs hsl hwr hpn
          go_wp2_with (first
            | (refine wpList_val (o := ⟨some 27, _, _, _, _, _⟩) (v := .agg C3.toArray) ?_ ?_ ?_; exact exec_load_mid' rfl rfl hlk.out Tryz.underlying111 rfl hi3.out; rfl)
            | (refine wpList_skip0 (o := ⟨none, .store _ _ _, _, _, _, _⟩) (w' := wr.alloc (.cells C3.toArray 111)) ?_ ?_ ?_ ?_; exact exec_store_new rfl rfl rfl hi32.out h3s.out h13.out; rfl; rfl; refine wpList_laid1 fun W5 eW5 hG5 => ?_; have p0 : W5.cell? ⟨wr.heap.size, 0, none⟩ = some (.int .u32 (pn : Int)) := Arr.cell hG5 H30.out; have m0 : W5.cell? ⟨p3, 0, none⟩ = some (.int .u32 (n : Int)) := (HAR.out.ext eW5).cell HC0.out; have m1 : W5.cell? ⟨p3, 1, none⟩ = some (.int .u32 (e : Int)) := (HAR.out.ext eW5).cell HCe.out)
            | (refine wpList_skip0 (o := ⟨none, .store _ _ _, _, _, _, _⟩) (w' := W5.alloc (.cells #[.int .u32 (pn : Int), .int .u32 (n : Int), .int .u32 (e : Int)] 119)) ?_ ?_ ?_ ?_; exact exec_store_new rfl rfl rfl hi9.out rfl h19.out; rfl; rfl; refine wpList_laid1 fun W6 eW6 hG6 => ?_; have q5 := ((HWI.out.cells.ext eW5).ext eW6).cell (i := 5) rfl)
            | fail)
          have aS : Arr W6 W5.heap.size 119 [.int .u32 (pn : Int), .int .u32 (n : Int), .int .u32 (e : Int)] := hG6
          have p0' := Ext.cell eW6 p0
          have m0' := Ext.cell eW6 m0
          obtain ⟨p5, hp5⟩ : ∃ p, wr.heap.size = p := ⟨_, rfl⟩
          obtain ⟨p6, hp6⟩ : ∃ p, W5.heap.size = p := ⟨_, rfl⟩
          rw [hp5] at p0' ⊢
          rw [hp6] at aS ⊢
          have HRW6 := Lib.hid ((HRI.out.ext eW5).ext eW6)
          have HAR6 := Lib.hid ((HAR.out.ext eW5).ext eW6)
          have HWI6 := Lib.hid ((HWI.out.ext eW5).ext eW6)
          have HSR6 := Lib.hid ((HSROW.out.ext eW5).ext eW6)
          have HAS := Lib.hid aS
          have HP0 := Lib.hid p0'
          have HM0 := Lib.hid m0'
          have hsc : ns' ≤ cs' := HSROW.out.1
          have hn6 : ns' ≤ 1000000 := by omega
          clear hp5 hp6 p0 m0 p0' m0' m1 q5 hG5 hG6 aS eW5 eW6 HSROW HWI HRI HAR hlk hi3 hi32 h3s h13 H30
          go_loopw [40, 7] (fun ix fl wj => ∃ (q : Nat) (t : Bool), q ≤ ns' ∧ ix = .int .i64 (q : Int) ∧ fl = .bool t ∧ Hid (Ext W6 wj)) (fun ix _ _ => ns' - (vI ix).toNat)
          case atStart => exact ⟨0, false, by omega, rfl, rfl, Lib.hid (Keep.refl _ _)⟩
          case round =>
            obtain ⟨q, t, hq, rfl, rfl, HE⟩ := hrel
            by_cases hltq : q < ns'
            · obtain ⟨gs, os, hgs, _⟩ := HSR6.out.2.2.2.2 (by omega)
              subst hgs
              obtain ⟨a, b', d, hl9⟩ := seen_struct HSR6.out hltq
              obtain ⟨r, hr9⟩ := eql_seen a b' d pn n e
              have HL9 := Lib.hid (hl9 wr HE.out)
              have HR9 := Lib.hid hr9
              have HAS' := Lib.hid (HAS.out.ext HE.out)
              have hi0 := Lib.hid (show (Tryz.prog.info? 119).map (·.size) = some ([Value.int .u32 (a : Int), .int .u32 (b' : Int), .int .u32 (d : Int)] : List Value).length by kernel_rfl)
              have hi0' := Lib.hid (show (Tryz.prog.info? 119).map (·.size) = some (#[Value.int .u32 (a : Int), .int .u32 (b' : Int), .int .u32 (d : Int)] : Array Value).size by kernel_rfl)
              have h10 := Lib.hid (show ([Value.int .u32 (a : Int), .int .u32 (b' : Int), .int .u32 (d : Int)] : List Value).toArray.all (·.oneCell') = true from all_of (fun u hu => by simp only [List.mem_cons, List.not_mem_nil, or_false] at hu; rcases hu with rfl | rfl | rfl <;> rfl))
              clear hl9 hr9
              cases t with
              | true =>
                go_wp2_with (first
                  | (refine wpList_val (o := ⟨some 43, _, _, _, _, _⟩) (v := .agg ([Value.int .u32 (a : Int), .int .u32 (b' : Int), .int .u32 (d : Int)] : List Value).toArray) ?_ ?_ ?_; exact exec_load_mid' rfl rfl HL9.out Tryz.underlying119 rfl hi0.out; rfl)
                  | (refine wpList_skip0 (o := ⟨none, .store _ _ _, _, _, _, _⟩) (w' := wr.alloc (.cells #[.int .u32 (a : Int), .int .u32 (b' : Int), .int .u32 (d : Int)] 119)) ?_ ?_ ?_ ?_; exact exec_store_new rfl rfl rfl hi0'.out rfl h10.out; rfl; rfl; refine wpList_laid1 fun W9 eW9 hG9 => ?_)
                  | (refine wpList_val (o := ⟨some 46, _, _, _, _, _⟩) (v := .agg #[.int .u32 (a : Int), .int .u32 (b' : Int), .int .u32 (d : Int)]) ?_ ?_ ?_; exact exec_load_row rfl rfl (show Arr W9 wr.heap.size 119 [.int .u32 (a : Int), .int .u32 (b' : Int), .int .u32 (d : Int)] from hG9) Tryz.underlying119 rfl hi0'.out; rfl)
                  | (refine wpList_val (o := ⟨some 47, _, _, _, _, _⟩) (v := .agg #[.int .u32 (pn : Int), .int .u32 (n : Int), .int .u32 (e : Int)]) ?_ ?_ ?_; exact exec_load_row rfl rfl (HAS'.out.ext eW9) Tryz.underlying119 rfl hi9.out; rfl)
                  | (refine wpList_val (o := ⟨some 48, _, _, _, _, _⟩) (v := .bool r) ?_ ?_ ?_; exact exec_eql_agg rfl rfl rfl (by kernel_rfl) HR9.out; rfl)
                  | fail)
                go_roundw
                case rel => exact ⟨q + 1, true, by omega, by go_num, rfl, Lib.hid (HE.out.trans eW9)⟩
                case measure => simp [vI]; omega
              | false =>
                go_wp2_with (first
                  | (refine wpList_val (o := ⟨some 43, _, _, _, _, _⟩) (v := .agg ([Value.int .u32 (a : Int), .int .u32 (b' : Int), .int .u32 (d : Int)] : List Value).toArray) ?_ ?_ ?_; exact exec_load_mid' rfl rfl HL9.out Tryz.underlying119 rfl hi0.out; rfl)
                  | (refine wpList_skip0 (o := ⟨none, .store _ _ _, _, _, _, _⟩) (w' := wr.alloc (.cells #[.int .u32 (a : Int), .int .u32 (b' : Int), .int .u32 (d : Int)] 119)) ?_ ?_ ?_ ?_; exact exec_store_new rfl rfl rfl hi0'.out rfl h10.out; rfl; rfl; refine wpList_laid1 fun W9 eW9 hG9 => ?_)
                  | (refine wpList_val (o := ⟨some 46, _, _, _, _, _⟩) (v := .agg #[.int .u32 (a : Int), .int .u32 (b' : Int), .int .u32 (d : Int)]) ?_ ?_ ?_; exact exec_load_row rfl rfl (show Arr W9 wr.heap.size 119 [.int .u32 (a : Int), .int .u32 (b' : Int), .int .u32 (d : Int)] from hG9) Tryz.underlying119 rfl hi0'.out; rfl)
                  | (refine wpList_val (o := ⟨some 47, _, _, _, _, _⟩) (v := .agg #[.int .u32 (pn : Int), .int .u32 (n : Int), .int .u32 (e : Int)]) ?_ ?_ ?_; exact exec_load_row rfl rfl (HAS'.out.ext eW9) Tryz.underlying119 rfl hi9.out; rfl)
                  | (refine wpList_val (o := ⟨some 48, _, _, _, _, _⟩) (v := .bool r) ?_ ?_ ?_; exact exec_eql_agg rfl rfl rfl (by kernel_rfl) HR9.out; rfl)
                  | fail)
                go_roundw
                case rel => exact ⟨q + 1, r, by omega, by go_num, rfl, Lib.hid (HE.out.trans eW9)⟩
                case measure => simp [vI]; omega
            · obtain rfl : q = ns' := by omega
              cases t with
              | true =>
                go_wp2
                go_roundw
                case rel => exact ⟨kp + 1, by omega, by go_num, Lib.hid ((HRW6.out.ext HE.out).mono (by omega)), Lib.hid (HAR6.out.ext HE.out)⟩
                case measure => simp [vI]; omega
              | false =>
                have hrd := reader11_any ⟨_, _, _, _, _, _, _, _, _, HWI6.out.ext HE.out, Nat.le_refl _⟩ HB.out pn n
                have y0 := Ext.cell HE.out HP0.out
                have y1 := Ext.cell HE.out HM0.out
                go_wp2_with fail
                refine hrd.mono ?_
                rintro e7 w7 ⟨⟨r, rfl, hrr⟩, rfl⟩
                clear hrd y0 y1 hrr
                cases r with
                | false =>
                  go_wp2
                  go_roundw
                  case rel => exact ⟨kp + 1, by omega, by go_num, Lib.hid ((HRW6.out.ext HE.out).mono (by omega)), Lib.hid (HAR6.out.ext HE.out)⟩
                  case measure => simp [vI]; omega
                | true =>
                  have h7 := HWI6.out.ext HE.out
                  obtain ⟨D, hD⟩ : ∃ D, [pn, n, e].map u32n = D := ⟨_, rfl⟩
                  have aD : Arr w7 p6 119 D := by rw [← hD]; exact HAS.out.ext HE.out
                  have hDl : D.length = 3 := by rw [← hD]; rfl
                  have hiD := Lib.hid (show (Tryz.prog.info? 119).map (·.size) = some D.toArray.size by rw [List.size_toArray, hDl]; kernel_rfl)
                  have hX : ∀ B, Ext w7.drew B → Ext w7 B := fun B hB => ((Keep.refl _ w7).drew).trans hB
                  have d5 := fun g : FY.At (fun _ _ => False) w7.drew => (h7.cells.ext (hX _ g.ext)).cell (i := 5) rfl
                  have HD := Lib.hid hD
                  have HDl := Lib.hid hDl
                  have HX := Lib.hid hX
                  have H7 := Lib.hid h7
                  have hbw7 : b ≤ w7.heap.size := by have := (HRW6.out.ext HE.out).1.size; omega
                  clear hD hDl hX h7
                  go_wp2
                  refine FY.wp_flow (X := TX b [43, 119]) (0 :: 1 :: 2 :: 3 :: 4 :: 5 :: 6 :: 7 :: 8 :: 9 :: 10 :: []) (fun n => if n = 6 then .grows (OneRow 119 D) OneSh else if n = 7 ∨ n = 10 then .bar else if n = 4 ∨ n = 5 then .reads else .still) (by kernel_rfl) (by kernel_rfl) ?_
                  iterate 4 (refine FY.flow_q rfl rfl rfl ?_; go_big_quiet_step (fail); refine wpQuiet_nil ?_)
                  refine FY.flow_r rfl rfl rfl ?_; go_big_quiet_step (fail); refine wpQuiet_nil ?_
                  refine FY.flow_v (v := .agg D.toArray) rfl rfl rfl (fun w' hE => exec_load_row rfl rfl (aD.ext (HX.out w' hE)) Tryz.underlying119 rfl hiD.out) ?_
                  simp only [Act.put, List.setIfInBounds_toArray, List.set_cons_succ, List.set_cons_zero]
                  clear d5
                  refine FY.flow_g rfl rfl rfl (by simp) ⟨_, 0, rfl⟩ (fun v A B h hE => h.ext hE) (fun v A h => h.sh) (fun w5 hE5 _ => ?_) (fun v hv => ?_)
                  · refine wpList_valw (v := .slice (some ⟨w5.heap.size, 0, none⟩) 1 1) (w' := w5.alloc (.cells D.toArray 119)) ?_ rfl (wpList_nil ?_)
                    · exact exec_buildSlice1 rfl rfl (buildSlice_one Tryz.underlying41 info_seen (by omega) (by omega) D HDl.out w5)
                    · exact ⟨rfl, _, rfl, (Keep.refl _ w5).alloc _, _, rfl, Arr.new w5 _ _⟩
                  obtain ⟨g1, rfl⟩ := hv
                  simp only [Act.put, List.setIfInBounds_toArray, List.set_cons_succ, List.set_cons_zero]
                  refine FY.flow_bvs rfl rfl rfl (by simp) (by kernel_rfl) (fun w5 hE5 hf => ?_)
                  obtain ⟨_, q5, hAg⟩ : OneRow 119 D (.slice (some ⟨g1, 0, none⟩) 1 1) w5 := hf 6
                  cases q5
                  rw [← HD.out] at hAg
                  have hX5 := HX.out w5 hE5
                  obtain ⟨a6, c6, w6, hrun, k6, hput⟩ := (H7.out.ext hX5).appS hAg rfl hn6 (by have := hX5.size; omega)
                  refine wpList_append_run hrun rfl rfl rfl rfl ?_
                  refine ⟨rfl, _, rfl, k6.mono (fun _ _ _ hx => hx.mono (by decide)), ?_⟩
                  simp only [Act.put, List.setIfInBounds_toArray, List.set_cons_succ, List.set_cons_zero]
                  have HPUT := Lib.hid hput
                  have HX5 := Lib.hid hX5
                  have HK6 := Lib.hid k6
                  clear hrun hAg hf hX5 hE5 hput k6 aD
                  iterate 2 (refine FY.flow_q rfl rfl rfl ?_; go_big_quiet_step (fail); refine wpQuiet_nil ?_)
                  refine FY.flow_ba rfl rfl rfl (by kernel_rfl) (fun w8 hE8 _ => ?_)
                  have hE8' : Ext w6 w8 := hE8
                  obtain ⟨h9, k9, f5, c5⟩ := HPUT.out w8 hE8'
                  obtain ⟨w9, hw9⟩ : ∃ w9, w8.setCell ⟨X, 5, none⟩ (.slice a6 (q + 1) c6) = w9 := ⟨_, rfl⟩
                  rw [hw9] at h9 k9
                  have HW9 := Lib.hid hw9
                  have H9 := Lib.hid h9
                  have HK9 := Lib.hid k9
                  have HE8 := Lib.hid hE8'
                  clear hw9 h9 k9 hE8' hE8
                  go_wp2
                  rw [HW9.out]
                  refine ⟨HK9.out.mono (fun _ _ _ hx => hx.mono (by decide)), ?_⟩
                  refine FY.flow_end (fun wA hEA _ => ?_)
                  have hEA' : Ext w9 wA := hEA
                  have k79 : Keep (TX b [43, 119]) w7 wA := ((((Keep.of_ext HX5.out).trans (HK6.out.mono (fun _ _ _ hx => hx.mono (by decide)))).trans (Keep.of_ext HE8.out)).trans (HK9.out.mono (fun _ _ _ hx => hx.mono (by decide)))).trans (Keep.of_ext hEA')
                  have HRA : Hid (RIs w b X x (.slice (some ⟨gp, op, none⟩) N cp) vg (.slice (some ⟨gm, om, none⟩) M cm) pc gc mc (s + k * N + (kp + 1)) wA) := Lib.hid ⟨(HRW6.out.ext HE.out).1.trans k79, _, _, _, H9.out.ext hEA', by omega⟩
                  have HARA := Lib.hid ((HAR6.out.ext HE.out).keep k79 (TX.no (by decide)))
                  clear k79 hEA hEA' c5 f5
                  go_wp2
                  go_roundw
                  case rel => exact ⟨kp + 1, by omega, by go_num, HRA, HARA⟩
                  case measure => simp [vI]; omega
        · obtain rfl : kp = N := by omega
          go_wp2
          go_roundw
          case rel => exact ⟨k + 1, by omega, by go_num, Lib.hid (HRI.out.mono (by rw [Nat.succ_mul]; omega))⟩
          case measure => simp [vI]; omega
    · obtain rfl : k = M := by omega
      have hfin := HR.out (.returned (.tuple #[])) wr ⟨rfl, ⟨_, _, _, _, _, _, _, _, _, (by have := HRI.out.2.choose_spec.choose_spec.choose_spec.1; exact this), HRI.out.2.choose_spec.choose_spec.choose_spec.2⟩, keep_dk HRI.out.1 (by decide)⟩
      clear HR
      go_wp2
      exact bodyPost_end (results_none rfl _ _ _) rfl hfin
end Go.Proofs.YtcmhgpgookiomaaGreat
