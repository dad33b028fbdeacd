/-
  TopRevoked: the document's ring: do: new persons, new groups. the document's ring: do: a new realm. the document's ring: do: enrol. the document's ring: do: expel.
-/
import Derived.Test.YtcmhgpgookiomaaGreatM24
namespace Go.Proofs.YtcmhgpgookiomaaGreat
open Go.RowKit Go.Shelf Go.Maps

attribute [local go_sem] Oper.semAt_some

/-- Where a number stands in a list: its first place, or -1. -/
def Place (ks : List Nat) (n : Nat) (r : Int) : Prop := (∃ i : Nat, ks[i]? = some n ∧ r = i ∧ n ∉ ks.take i) ∨ (n ∉ ks ∧ r = -1)
theorem place_ex (ks : List Nat) (n : Nat) : ∃ r, Place ks n r := by
  by_cases h : n ∈ ks
  · obtain ⟨j, h1, h2⟩ := first_at h
    exact ⟨j, .inl ⟨j, h1, rfl, h2⟩⟩
  · exact ⟨-1, .inr ⟨h, rfl⟩⟩
theorem place_one {ks : List Nat} {n : Nat} {r r' : Int} (h : Place ks n r) (h' : Place ks n r') : r = r' := by
  rcases h with ⟨i, h1, rfl, h2⟩ | ⟨h1, rfl⟩ <;> rcases h' with ⟨j, h3, rfl, h4⟩ | ⟨h3, rfl⟩
  · rw [first_unique h1 h2 h3 h4]
  · exact absurd (List.mem_of_getElem? h1) h3
  · exact absurd (List.mem_of_getElem? h3) h1
  · rfl
theorem in_map {α : Type} (l : List (Nat × α)) (n : Nat) : In l n ↔ n ∈ l.map (·.1) := by
  induction l with
  | nil => simp [In, getA]
  | cons p l ih =>
    obtain ⟨k, v⟩ := p
    unfold In at ih ⊢
    unfold getA
    by_cases e : k = n
    · simp [e]
    · rw [if_neg e, ih]
      simp [Ne.symm e]
section
variable {w : World} {b X : Nat} {x : RX} {vp vg vm vs : Value} {pc gc mc sc : List Value} {ns n : Nat} {r : Int}
theorem person_place (h : RIn w b X x vp vg vm vs pc gc mc sc ns) (hB : BndX x) (hp : Place x.ps n r) : Calls Tryz.prog 37 #[.pointer (some ⟨X, 0, none⟩), .int .u32 (n : Int)] w fun e w' => e = .returned (.int .i64 r) ∧ w' = w := by
  obtain ⟨a, c, rfl, hr⟩ := owns_row h.po
  refine (personX_any X a c x.ps n w (by have := hB.p; omega) (h.cells.cell (i := 1) rfl) (heads33 hr h.ps)).mono (fun e w' q => ?_)
  obtain ⟨⟨r', rfl, q⟩, rfl⟩ := q
  exact ⟨by rw [place_one q hp], rfl⟩
theorem group_place (h : RIn w b X x vp vg vm vs pc gc mc sc ns) (hB : BndX x) (hp : Place (x.gs.map (·.1)) n r) : Calls Tryz.prog 22 #[.pointer (some ⟨X, 0, none⟩), .int .u32 (n : Int)] w fun e w' => e = .returned (.int .i64 r) ∧ w' = w := by
  obtain ⟨a, c, rfl, hr⟩ := owns_row h.go
  refine (groupX_any X a c (x.gs.map (·.1)) n w (by have := hB.g; simp; omega) (by simpa using h.cells.cell (i := 2) rfl) (heads_of hr h.gs)).mono (fun e w' q => ?_)
  obtain ⟨⟨r', rfl, q⟩, rfl⟩ := q
  exact ⟨by rw [place_one q hp], rfl⟩
theorem realm_place (h : RIn w b X x vp vg vm vs pc gc mc sc ns) (hB : BndX x) (hp : Place (x.ms.map (·.1)) n r) : Calls Tryz.prog 21 #[.pointer (some ⟨X, 0, none⟩), .int .u32 (n : Int)] w fun e w' => e = .returned (.int .i64 r) ∧ w' = w := by
  obtain ⟨a, c, rfl, hr⟩ := owns_row h.mo
  refine (realmX_any X a c (x.ms.map (·.1)) n w (by have := hB.m; simp; omega) (by simpa using h.cells.cell (i := 3) rfl) (heads_of hr h.ms)).mono (fun e w' q => ?_)
  obtain ⟨⟨r', rfl, q⟩, rfl⟩ := q
  exact ⟨by rw [place_one q hp], rfl⟩
end
theorem personC_facts {l : List Value} (hl : l.length = 32) (h1 : ∀ u ∈ l, u.oneCell' = true) (r : Nat) : (u32n r :: l).length = 33 ∧ (∀ u ∈ u32n r :: l, u.oneCell' = true) ∧ (u32n r :: l)[0]? = some (u32n r) :=
  ⟨by simp [hl], fun u hu => by rcases List.mem_cons.1 hu with rfl | hu; rfl; exact h1 u hu, rfl⟩

set_option maxRecDepth 20000 in
set_option maxHeartbeats 8000000 in
theorem do19_k1 {w : World} {b X : Nat} {x : RX} {s : Nat} (h : RingX w b X x s) (hB : BndX x) (hbw : b ≤ w.heap.size) (who gr re : Nat) :
    Calls Tryz.prog 19 #[.pointer (some ⟨X, 0, none⟩), .agg #[.int .i64 1, .int .u32 (who : Int), .int .u32 (gr : Int), .int .u32 (re : Int)]] w fun e w' => if who ∈ x.ps then e = .returned (.int .i64 210) ∧ Ext w w' else e = .returned (.int .i64 0) ∧ RingX w' b X { x with ps := x.ps ++ [who] } s ∧ Keep (TX b [43, 111]) w w' := by
  obtain ⟨vp, vg, vm, vs, pc, gc, mc, sc, ns, h, hns⟩ := h
  obtain ⟨PP, hPP⟩ := place_ex x.ps who
  obtain ⟨GG, hGG⟩ := place_ex (x.gs.map (·.1)) gr
  obtain ⟨MM, hMM⟩ := place_ex (x.ms.map (·.1)) re
  have HCP := Lib.hid (fun B (hE : Ext w B) => person_place (h.ext hE) hB hPP)
  have HCG := Lib.hid (fun B (hE : Ext w B) => group_place (h.ext hE) hB hGG)
  have HCM := Lib.hid (fun B (hE : Ext w B) => realm_place (h.ext hE) hB hMM)
  have HPP := Lib.hid hPP
  have HGG := Lib.hid hGG
  have HMM := Lib.hid hMM
  have HH := Lib.hid h
  have HB := Lib.hid hB
  clear hPP hGG hMM h hB
  refine calls_cps fun R0 hR => ?_
  have HR := Lib.hid hR
  clear hR
  go_enter Tryz.func19, Tryz.ntmps19
  go_upto_region 1 with fail
  refine wp_laid1 fun W0 eW0 hG0 => ?_
  have aC : Arr W0 w.heap.size 25 [.int .i64 1, .int .u32 (who : Int), .int .u32 (gr : Int), .int .u32 (re : Int)] := hG0
  have hX0 : ∀ B, Ext W0.drew B → Ext W0 B := fun B hB => ((Keep.refl _ W0).drew).trans hB
  have d1 := fun g : FY.At (fun _ _ => False) W0.drew => (aC.ext (hX0 _ g.ext)).cell (i := 1) rfl
  have d2 := fun g : FY.At (fun _ _ => False) W0.drew => (aC.ext (hX0 _ g.ext)).cell (i := 2) rfl
  have d3 := fun g : FY.At (fun _ _ => False) W0.drew => (aC.ext (hX0 _ g.ext)).cell (i := 3) rfl
  have HCP := Lib.hid (fun B (hE : Ext W0.drew B) => HCP.out B (eW0.trans (hX0 B hE)))
  have HCG := Lib.hid (fun B (hE : Ext W0.drew B) => HCG.out B (eW0.trans (hX0 B hE)))
  have HCM := Lib.hid (fun B (hE : Ext W0.drew B) => HCM.out B (eW0.trans (hX0 B hE)))
  have HE0 := Lib.hid eW0
  have HX0 := Lib.hid hX0
  have HID := Lib.hid (fun B (h : Ext W0.drew B) => h)
  clear hG0 eW0 hX0
  refine FY.wp_flow (X := fun _ _ => False) (0 :: 1 :: 2 :: 3 :: 4 :: 5 :: 6 :: 7 :: 8 :: 9 :: 10 :: 11 :: 12 :: 13 :: 14 :: []) (fun j => if j = 3 then .grows (fun v _ => v = .int .i64 PP) (fun v => v = .int .i64 PP) else if j = 7 then .grows (fun v _ => v = .int .i64 GG) (fun v => v = .int .i64 GG) else if j = 11 then .grows (fun v _ => v = .int .i64 MM) (fun v => v = .int .i64 MM) else .still) (by kernel_rfl) (by kernel_rfl) ?_
  iterate 3 (refine FY.flow_q rfl rfl rfl ?_; go_big_quiet_step (fail); refine wpQuiet_nil ?_)
  refine FY.flow_g rfl rfl rfl (by simp) ⟨_, rfl⟩ (fun _ _ _ h _ => h) (fun _ _ h => h) (fun w5 hE5 _ => ?_) (fun v hv => ?_)
  · have hcall := HCP.out w5 (HID.out w5 hE5)
    go_wp2_with fail
    refine hcall.mono ?_
    rintro e w6 ⟨rfl, rfl⟩
    clear hcall
    go_wp2
    exact Keep.refl _ _
  subst hv
  simp only [Act.put, List.setIfInBounds_toArray, List.set_cons_succ, List.set_cons_zero]
  iterate 3 (refine FY.flow_q rfl rfl rfl ?_; go_big_quiet_step (fail); refine wpQuiet_nil ?_)
  refine FY.flow_g rfl rfl rfl (by simp) ⟨_, rfl⟩ (fun _ _ _ h _ => h) (fun _ _ h => h) (fun w5 hE5 _ => ?_) (fun v hv => ?_)
  · have hcall := HCG.out w5 (HID.out w5 hE5)
    go_wp2_with fail
    refine hcall.mono ?_
    rintro e w6 ⟨rfl, rfl⟩
    clear hcall
    go_wp2
    exact Keep.refl _ _
  subst hv
  simp only [Act.put, List.setIfInBounds_toArray, List.set_cons_succ, List.set_cons_zero]
  iterate 3 (refine FY.flow_q rfl rfl rfl ?_; go_big_quiet_step (fail); refine wpQuiet_nil ?_)
  refine FY.flow_g rfl rfl rfl (by simp) ⟨_, rfl⟩ (fun _ _ _ h _ => h) (fun _ _ h => h) (fun w5 hE5 _ => ?_) (fun v hv => ?_)
  · have hcall := HCM.out w5 (HID.out w5 hE5)
    go_wp2_with fail
    refine hcall.mono ?_
    rintro e w6 ⟨rfl, rfl⟩
    clear hcall
    go_wp2
    exact Keep.refl _ _
  subst hv
  simp only [Act.put, List.setIfInBounds_toArray, List.set_cons_succ, List.set_cons_zero]
  iterate 3 (refine FY.flow_q rfl rfl rfl ?_; go_big_quiet_step (fail); refine wpQuiet_nil ?_)
  clear d1 d2 d3
  refine FY.flow_end (fun w1 hE1 _ => ?_)
  have aC1 := aC.ext (HX0.out w1 hE1)
  have z0 := aC1.cell (i := 0) rfl
  have z1 := aC1.cell (i := 1) rfl
  have z2 := aC1.cell (i := 2) rfl
  have z3 := aC1.cell (i := 3) rfl
  have HE1 := Lib.hid (HE0.out.trans (HX0.out w1 hE1))
  have H1 := Lib.hid (HH.out.ext HE1.out)
  have HC1 := Lib.hid aC1
  clear hE1 aC aC1 HCP HCG HCM HID HX0 HE0
  rcases HPP.out with ⟨i, hi, rfl, hni⟩ | ⟨hno, rfl⟩
  · have h0 : (0 : Int) ≤ (i : Int) := by omega
    have hin : who ∈ x.ps := List.mem_of_getElem? hi
    clear hi hni
    have hfin := HR.out (.returned (.int .i64 210)) w1 (by rw [if_pos hin]; exact ⟨rfl, HE1.out⟩)
    clear HR z1 z2 z3
    go_wp2
    exact hfin
  · have HNO := Lib.hid (show ¬ (who ∈ x.ps) from hno)
    obtain ⟨Z, hZ⟩ : ∃ Z, key0.map u8v = Z := ⟨_, rfl⟩
    have hZl : Z.length = 32 := by rw [← hZ, List.length_map, key0_len]
    have h1Z : ∀ u ∈ Z, u.oneCell' = true := by rw [← hZ]; exact u8v_one _
    have hiZ := Lib.hid (show (Tryz.prog.info? 51).map (·.size) = some Z.toArray.size by rw [info_key, List.size_toArray, hZl])
    have hZs := Lib.hid (show 32 = Z.toArray.size by rw [List.size_toArray, hZl])
    have h1Z' := Lib.hid (all_of h1Z)
    have hd := drawX_any X w1 (H1.out.cells.cell (i := 0) rfl)
    unfold aggK at hd
    rw [hZ] at hd
    obtain ⟨D, hD⟩ : ∃ D, (Value.int .u32 (who : Int) :: Z) = D := ⟨_, rfl⟩
    have hDF : D.length = 33 ∧ (∀ u ∈ D, u.oneCell' = true) ∧ D[0]? = some (u32n who) := by rw [← hD]; exact personC_facts hZl h1Z who
    have HBUILD := Lib.hid (fun w => show (Instr.build 111 #[(0, .int .u32 (who : Int)), (1, .agg Z.toArray)]).run Tryz.prog w = .ok (.agg D.toArray) w by rw [← hD]; exact build_person Z hZl who w)
    have HDF := Lib.hid hDF
    clear hZ hZl h1Z hD hDF hno
    go_wp2_with fail
    refine hd.mono ?_
    rintro e2 w2 ⟨rfl, e2⟩
    clear hd
    have HE2 := Lib.hid e2
    clear e2 z0 z1 z2 z3
    go_wp2_with (first
      | (refine wpList_skip0 (o := ⟨none, .store _ _ _, _, _, _, _⟩) (w' := w2.alloc (.cells Z.toArray 51)) ?_ ?_ ?_ ?_; exact exec_store_new rfl rfl rfl hiZ.out hZs.out h1Z'.out; rfl; rfl; refine wpList_laid1 fun W eW hG => ?_)
      | fail)
    have aK : Arr W w2.heap.size 51 Z := hG
    have aCW := HC1.out.ext (HE2.out.trans eW)
    have hE3 : Ext w W := (HE1.out.trans HE2.out).trans eW
    have h3 := HH.out.ext hE3
    have hX : ∀ B, Ext W.drew B → Ext W B := fun B hB => ((Keep.refl _ W).drew).trans hB
    have d3 := fun g : FY.At (fun _ _ => False) W.drew => (h3.cells.ext (hX _ g.ext)).cell (i := 1) rfl
    have d1 := fun g : FY.At (fun _ _ => False) W.drew => (aCW.ext (hX _ g.ext)).cell (i := 1) rfl
    have HE3 := Lib.hid hE3
    have H3 := Lib.hid h3
    have HX := Lib.hid hX
    clear hG eW hE3 h3 hX aCW
    refine FY.wp_flow (X := TX b [43, 111]) (0 :: 1 :: 2 :: 3 :: 4 :: 5 :: 6 :: 7 :: 8 :: 9 :: 10 :: 11 :: 12 :: 13 :: []) (fun n => if n = 9 then .grows (OneRow 111 D) OneSh else if n = 10 ∨ n = 13 then .bar else if n = 4 ∨ n = 6 ∨ n = 7 then .reads else .still) (by kernel_rfl) (by kernel_rfl) ?_
    iterate 4 (refine FY.flow_q rfl rfl rfl ?_; go_big_quiet_step (fail); refine wpQuiet_nil ?_)
    refine FY.flow_r rfl rfl rfl ?_; go_big_quiet_step (fail); refine wpQuiet_nil ?_
    iterate 1 (refine FY.flow_q rfl rfl rfl ?_; go_big_quiet_step (fail); refine wpQuiet_nil ?_)
    refine FY.flow_r rfl rfl rfl ?_; go_big_quiet_step (fail); refine wpQuiet_nil ?_
    refine FY.flow_v (v := .agg Z.toArray) rfl rfl rfl (fun w' hE => exec_load_row rfl rfl (aK.ext (HX.out w' hE)) Tryz.underlying51 rfl hiZ.out) ?_
    simp only [Act.put, List.setIfInBounds_toArray, List.set_cons_succ, List.set_cons_zero]
    refine FY.flow_vq (v := .agg D.toArray) rfl rfl rfl (fun w' _ => exec_build2 rfl rfl rfl (HBUILD.out w')) ?_
    simp only [Act.put, List.setIfInBounds_toArray, List.set_cons_succ, List.set_cons_zero]
    clear d3 d1
    refine FY.flow_g rfl rfl rfl (by simp) ⟨_, 0, rfl⟩ (fun v A B h hE => h.ext hE) (fun v A h => h.sh) (fun w5 hE5 _ => ?_) (fun v hv => ?_)
    · refine wpList_valw (v := .slice (some ⟨w5.heap.size, 0, none⟩) 1 1) (w' := w5.alloc (.cells D.toArray 111)) ?_ rfl (wpList_nil ?_)
      · exact exec_buildSlice1 rfl rfl (buildSlice_one Tryz.underlying37 info_person (by omega) (by omega) D HDF.out.1 w5)
      · exact ⟨rfl, _, rfl, (Keep.refl _ w5).alloc _, _, rfl, Arr.new w5 _ _⟩
    obtain ⟨g1, rfl⟩ := hv
    simp only [Act.put, List.setIfInBounds_toArray, List.set_cons_succ, List.set_cons_zero]
    refine FY.flow_bvs rfl rfl rfl (by simp) (by kernel_rfl) (fun w5 hE5 hf => ?_)
    obtain ⟨_, q5, hAg⟩ : OneRow 111 D (.slice (some ⟨g1, 0, none⟩) 1 1) w5 := hf 9
    cases q5
    have hX5 := HX.out w5 hE5
    obtain ⟨a6, c6, w6, hrun, k6, hput⟩ := (H3.out.ext hX5).appP hAg HDF.out.1 HDF.out.2.1 HDF.out.2.2 (by have := HB.out.p; omega) (by have := HE3.out.size; have := hX5.size; omega)
    refine wpList_append_run hrun rfl rfl rfl rfl ?_
    refine ⟨rfl, _, rfl, k6.mono (fun _ _ _ hx => hx.mono (by decide)), ?_⟩
    simp only [Act.put, List.setIfInBounds_toArray, List.set_cons_succ, List.set_cons_zero]
    have HPUT := Lib.hid hput
    have HX5 := Lib.hid hX5
    have HK6 := Lib.hid k6
    clear hrun hAg hf hX5 hE5 hput k6
    iterate 2 (refine FY.flow_q rfl rfl rfl ?_; go_big_quiet_step (fail); refine wpQuiet_nil ?_)
    refine FY.flow_ba rfl rfl rfl (by kernel_rfl) (fun w7 hE7 _ => ?_)
    have hE7' : Ext w6 w7 := hE7
    obtain ⟨h8, k8, f3, c3⟩ := HPUT.out w7 hE7'
    obtain ⟨w8, hw8⟩ : ∃ w8, w7.setCell ⟨X, 1, none⟩ (.slice a6 (x.ps.length + 1) c6) = w8 := ⟨_, rfl⟩
    rw [hw8] at h8 k8
    have HW8 := Lib.hid hw8
    have H8 := Lib.hid h8
    have HK8 := Lib.hid k8
    have HE7 := Lib.hid hE7'
    clear hw8 h8 k8 hE7' hE7
    go_wp2
    rw [HW8.out]
    refine ⟨HK8.out.mono (fun _ _ _ hx => hx.mono (by decide)), ?_⟩
    refine FY.flow_end (fun w9 hE9 _ => ?_)
    have hE9' : Ext w8 w9 := hE9
    have k39 : Keep (TX b [43, 111]) W w9 := ((((Keep.of_ext HX5.out).trans (HK6.out.mono (fun _ _ _ hx => hx.mono (by decide)))).trans (Keep.of_ext HE7.out)).trans (HK8.out.mono (fun _ _ _ hx => hx.mono (by decide)))).trans (Keep.of_ext hE9')
    have hfin := HR.out (.returned (.int .i64 0)) w9 (by rw [if_neg HNO.out]; exact ⟨rfl, ⟨_, _, _, _, _, _, _, _, _, H8.out.ext hE9', hns⟩, (Keep.of_ext HE3.out).trans k39⟩)
    clear HR k39 hE9 hE9' c3 f3
    go_wp2
    exact hfin

set_option maxRecDepth 20000 in
set_option maxHeartbeats 8000000 in
theorem do19_k2 {w : World} {b X : Nat} {x : RX} {s : Nat} (h : RingX w b X x s) (hB : BndX x) (hbw : b ≤ w.heap.size) (who gr re : Nat) :
    Calls Tryz.prog 19 #[.pointer (some ⟨X, 0, none⟩), .agg #[.int .i64 2, .int .u32 (who : Int), .int .u32 (gr : Int), .int .u32 (re : Int)]] w fun e w' => if (getA x.gs gr).isSome = true then e = .returned (.int .i64 211) ∧ Ext w w' else e = .returned (.int .i64 0) ∧ RingX w' b X { x with gs := x.gs ++ [(gr, [])] } s ∧ Keep (TX b [43, 84]) w w' := by
  obtain ⟨vp, vg, vm, vs, pc, gc, mc, sc, ns, h, hns⟩ := h
  obtain ⟨PP, hPP⟩ := place_ex x.ps who
  obtain ⟨GG, hGG⟩ := place_ex (x.gs.map (·.1)) gr
  obtain ⟨MM, hMM⟩ := place_ex (x.ms.map (·.1)) re
  have HCP := Lib.hid (fun B (hE : Ext w B) => person_place (h.ext hE) hB hPP)
  have HCG := Lib.hid (fun B (hE : Ext w B) => group_place (h.ext hE) hB hGG)
  have HCM := Lib.hid (fun B (hE : Ext w B) => realm_place (h.ext hE) hB hMM)
  have HPP := Lib.hid hPP
  have HGG := Lib.hid hGG
  have HMM := Lib.hid hMM
  have HH := Lib.hid h
  have HB := Lib.hid hB
  clear hPP hGG hMM h hB
  refine calls_cps fun R0 hR => ?_
  have HR := Lib.hid hR
  clear hR
  go_enter Tryz.func19, Tryz.ntmps19
  go_upto_region 1 with fail
  refine wp_laid1 fun W0 eW0 hG0 => ?_
  have aC : Arr W0 w.heap.size 25 [.int .i64 2, .int .u32 (who : Int), .int .u32 (gr : Int), .int .u32 (re : Int)] := hG0
  have hX0 : ∀ B, Ext W0.drew B → Ext W0 B := fun B hB => ((Keep.refl _ W0).drew).trans hB
  have d1 := fun g : FY.At (fun _ _ => False) W0.drew => (aC.ext (hX0 _ g.ext)).cell (i := 1) rfl
  have d2 := fun g : FY.At (fun _ _ => False) W0.drew => (aC.ext (hX0 _ g.ext)).cell (i := 2) rfl
  have d3 := fun g : FY.At (fun _ _ => False) W0.drew => (aC.ext (hX0 _ g.ext)).cell (i := 3) rfl
  have HCP := Lib.hid (fun B (hE : Ext W0.drew B) => HCP.out B (eW0.trans (hX0 B hE)))
  have HCG := Lib.hid (fun B (hE : Ext W0.drew B) => HCG.out B (eW0.trans (hX0 B hE)))
  have HCM := Lib.hid (fun B (hE : Ext W0.drew B) => HCM.out B (eW0.trans (hX0 B hE)))
  have HE0 := Lib.hid eW0
  have HX0 := Lib.hid hX0
  have HID := Lib.hid (fun B (h : Ext W0.drew B) => h)
  clear hG0 eW0 hX0
  refine FY.wp_flow (X := fun _ _ => False) (0 :: 1 :: 2 :: 3 :: 4 :: 5 :: 6 :: 7 :: 8 :: 9 :: 10 :: 11 :: 12 :: 13 :: 14 :: []) (fun j => if j = 3 then .grows (fun v _ => v = .int .i64 PP) (fun v => v = .int .i64 PP) else if j = 7 then .grows (fun v _ => v = .int .i64 GG) (fun v => v = .int .i64 GG) else if j = 11 then .grows (fun v _ => v = .int .i64 MM) (fun v => v = .int .i64 MM) else .still) (by kernel_rfl) (by kernel_rfl) ?_
  iterate 3 (refine FY.flow_q rfl rfl rfl ?_; go_big_quiet_step (fail); refine wpQuiet_nil ?_)
  refine FY.flow_g rfl rfl rfl (by simp) ⟨_, rfl⟩ (fun _ _ _ h _ => h) (fun _ _ h => h) (fun w5 hE5 _ => ?_) (fun v hv => ?_)
  · have hcall := HCP.out w5 (HID.out w5 hE5)
    go_wp2_with fail
    refine hcall.mono ?_
    rintro e w6 ⟨rfl, rfl⟩
    clear hcall
    go_wp2
    exact Keep.refl _ _
  subst hv
  simp only [Act.put, List.setIfInBounds_toArray, List.set_cons_succ, List.set_cons_zero]
  iterate 3 (refine FY.flow_q rfl rfl rfl ?_; go_big_quiet_step (fail); refine wpQuiet_nil ?_)
  refine FY.flow_g rfl rfl rfl (by simp) ⟨_, rfl⟩ (fun _ _ _ h _ => h) (fun _ _ h => h) (fun w5 hE5 _ => ?_) (fun v hv => ?_)
  · have hcall := HCG.out w5 (HID.out w5 hE5)
    go_wp2_with fail
    refine hcall.mono ?_
    rintro e w6 ⟨rfl, rfl⟩
    clear hcall
    go_wp2
    exact Keep.refl _ _
  subst hv
  simp only [Act.put, List.setIfInBounds_toArray, List.set_cons_succ, List.set_cons_zero]
  iterate 3 (refine FY.flow_q rfl rfl rfl ?_; go_big_quiet_step (fail); refine wpQuiet_nil ?_)
  refine FY.flow_g rfl rfl rfl (by simp) ⟨_, rfl⟩ (fun _ _ _ h _ => h) (fun _ _ h => h) (fun w5 hE5 _ => ?_) (fun v hv => ?_)
  · have hcall := HCM.out w5 (HID.out w5 hE5)
    go_wp2_with fail
    refine hcall.mono ?_
    rintro e w6 ⟨rfl, rfl⟩
    clear hcall
    go_wp2
    exact Keep.refl _ _
  subst hv
  simp only [Act.put, List.setIfInBounds_toArray, List.set_cons_succ, List.set_cons_zero]
  iterate 3 (refine FY.flow_q rfl rfl rfl ?_; go_big_quiet_step (fail); refine wpQuiet_nil ?_)
  clear d1 d2 d3
  refine FY.flow_end (fun w1 hE1 _ => ?_)
  have aC1 := aC.ext (HX0.out w1 hE1)
  have z0 := aC1.cell (i := 0) rfl
  have z1 := aC1.cell (i := 1) rfl
  have z2 := aC1.cell (i := 2) rfl
  have z3 := aC1.cell (i := 3) rfl
  have HE1 := Lib.hid (HE0.out.trans (HX0.out w1 hE1))
  have H1 := Lib.hid (HH.out.ext HE1.out)
  have HC1 := Lib.hid aC1
  clear hE1 aC aC1 HCP HCG HCM HID HX0 HE0
  rcases HGG.out with ⟨i, hi, rfl, hni⟩ | ⟨hno, rfl⟩
  · have h0 : (0 : Int) ≤ (i : Int) := by omega
    have hin : (getA x.gs gr).isSome = true := (in_map _ _).2 (List.mem_of_getElem? hi)
    clear hi hni
    have hfin := HR.out (.returned (.int .i64 211)) w1 (by rw [if_pos hin]; exact ⟨rfl, HE1.out⟩)
    clear HR z1 z2 z3
    go_wp2
    exact hfin
  · have HNO := Lib.hid (show ¬ ((getA x.gs gr).isSome = true) from fun h => hno ((in_map _ _).1 h))
    obtain ⟨Z, hZ⟩ : ∃ Z, key0.map u8v = Z := ⟨_, rfl⟩
    have hZl : Z.length = 32 := by rw [← hZ, List.length_map, key0_len]
    have h1Z : ∀ u ∈ Z, u.oneCell' = true := by rw [← hZ]; exact u8v_one _
    have hiZ := Lib.hid (show (Tryz.prog.info? 51).map (·.size) = some Z.toArray.size by rw [info_key, List.size_toArray, hZl])
    have hZs := Lib.hid (show 32 = Z.toArray.size by rw [List.size_toArray, hZl])
    have h1Z' := Lib.hid (all_of h1Z)
    have hd := drawX_any X w1 (H1.out.cells.cell (i := 0) rfl)
    unfold aggK at hd
    rw [hZ] at hd
    obtain ⟨D, hD⟩ : ∃ D, ([Value.int .u32 (gr : Int), Value.int .u32 0] ++ Z ++ [Value.slice none 0 0]) = D := ⟨_, rfl⟩
    have hDF : D.length = 35 ∧ (∀ u ∈ D, u.oneCell' = true) ∧ D[0]? = some (u32n gr) ∧ D[1]? = some (u32n 0) ∧ D[34]? = some (.slice none 0 0) := by rw [← hD]; exact secC_facts hZl h1Z gr _ rfl
    have HBUILD := Lib.hid (fun w => show (Instr.build 84 #[(0, .int .u32 (gr : Int)), (2, .agg Z.toArray)]).run Tryz.prog w = .ok (.agg D.toArray) w by rw [← hD]; exact build_group Z hZl gr w)
    have HDF := Lib.hid hDF
    clear hZ hZl h1Z hD hDF hno
    go_wp2_with fail
    refine hd.mono ?_
    rintro e2 w2 ⟨rfl, e2⟩
    clear hd
    have HE2 := Lib.hid e2
    clear e2 z0 z1 z2 z3
    go_wp2_with (first
      | (refine wpList_skip0 (o := ⟨none, .store _ _ _, _, _, _, _⟩) (w' := w2.alloc (.cells Z.toArray 51)) ?_ ?_ ?_ ?_; exact exec_store_new rfl rfl rfl hiZ.out hZs.out h1Z'.out; rfl; rfl; refine wpList_laid1 fun W eW hG => ?_)
      | fail)
    have aK : Arr W w2.heap.size 51 Z := hG
    have aCW := HC1.out.ext (HE2.out.trans eW)
    have hE3 : Ext w W := (HE1.out.trans HE2.out).trans eW
    have h3 := HH.out.ext hE3
    have hX : ∀ B, Ext W.drew B → Ext W B := fun B hB => ((Keep.refl _ W).drew).trans hB
    have d3 := fun g : FY.At (fun _ _ => False) W.drew => (h3.cells.ext (hX _ g.ext)).cell (i := 2) rfl
    have d1 := fun g : FY.At (fun _ _ => False) W.drew => (aCW.ext (hX _ g.ext)).cell (i := 2) rfl
    have HE3 := Lib.hid hE3
    have H3 := Lib.hid h3
    have HX := Lib.hid hX
    clear hG eW hE3 h3 hX aCW
    refine FY.wp_flow (X := TX b [43, 84]) (0 :: 1 :: 2 :: 3 :: 4 :: 5 :: 6 :: 7 :: 8 :: 9 :: 10 :: 11 :: 12 :: 13 :: []) (fun n => if n = 9 then .grows (OneRow 84 D) OneSh else if n = 10 ∨ n = 13 then .bar else if n = 4 ∨ n = 6 ∨ n = 7 then .reads else .still) (by kernel_rfl) (by kernel_rfl) ?_
    iterate 4 (refine FY.flow_q rfl rfl rfl ?_; go_big_quiet_step (fail); refine wpQuiet_nil ?_)
    refine FY.flow_r rfl rfl rfl ?_; go_big_quiet_step (fail); refine wpQuiet_nil ?_
    iterate 1 (refine FY.flow_q rfl rfl rfl ?_; go_big_quiet_step (fail); refine wpQuiet_nil ?_)
    refine FY.flow_r rfl rfl rfl ?_; go_big_quiet_step (fail); refine wpQuiet_nil ?_
    refine FY.flow_v (v := .agg Z.toArray) rfl rfl rfl (fun w' hE => exec_load_row rfl rfl (aK.ext (HX.out w' hE)) Tryz.underlying51 rfl hiZ.out) ?_
    simp only [Act.put, List.setIfInBounds_toArray, List.set_cons_succ, List.set_cons_zero]
    refine FY.flow_vq (v := .agg D.toArray) rfl rfl rfl (fun w' _ => exec_build2 rfl rfl rfl (HBUILD.out w')) ?_
    simp only [Act.put, List.setIfInBounds_toArray, List.set_cons_succ, List.set_cons_zero]
    clear d3 d1
    refine FY.flow_g rfl rfl rfl (by simp) ⟨_, 0, rfl⟩ (fun v A B h hE => h.ext hE) (fun v A h => h.sh) (fun w5 hE5 _ => ?_) (fun v hv => ?_)
    · refine wpList_valw (v := .slice (some ⟨w5.heap.size, 0, none⟩) 1 1) (w' := w5.alloc (.cells D.toArray 84)) ?_ rfl (wpList_nil ?_)
      · exact exec_buildSlice1 rfl rfl (buildSlice_one Tryz.underlying38 info_group (by omega) (by omega) D HDF.out.1 w5)
      · exact ⟨rfl, _, rfl, (Keep.refl _ w5).alloc _, _, rfl, Arr.new w5 _ _⟩
    obtain ⟨g1, rfl⟩ := hv
    simp only [Act.put, List.setIfInBounds_toArray, List.set_cons_succ, List.set_cons_zero]
    refine FY.flow_bvs rfl rfl rfl (by simp) (by kernel_rfl) (fun w5 hE5 hf => ?_)
    obtain ⟨_, q5, hAg⟩ : OneRow 84 D (.slice (some ⟨g1, 0, none⟩) 1 1) w5 := hf 9
    cases q5
    have hX5 := HX.out w5 hE5
    obtain ⟨a6, c6, w6, hrun, k6, hput⟩ := (H3.out.ext hX5).appG hAg HDF.out.1 HDF.out.2.1 HDF.out.2.2.1 HDF.out.2.2.2.1 HDF.out.2.2.2.2 (URow.nil _) (by have := HB.out.g; omega) (by have := HE3.out.size; have := hX5.size; omega)
    refine wpList_append_run hrun rfl rfl rfl rfl ?_
    refine ⟨rfl, _, rfl, k6.mono (fun _ _ _ hx => hx.mono (by decide)), ?_⟩
    simp only [Act.put, List.setIfInBounds_toArray, List.set_cons_succ, List.set_cons_zero]
    have HPUT := Lib.hid hput
    have HX5 := Lib.hid hX5
    have HK6 := Lib.hid k6
    clear hrun hAg hf hX5 hE5 hput k6
    iterate 2 (refine FY.flow_q rfl rfl rfl ?_; go_big_quiet_step (fail); refine wpQuiet_nil ?_)
    refine FY.flow_ba rfl rfl rfl (by kernel_rfl) (fun w7 hE7 _ => ?_)
    have hE7' : Ext w6 w7 := hE7
    obtain ⟨h8, k8, f3, c3⟩ := HPUT.out w7 hE7'
    obtain ⟨w8, hw8⟩ : ∃ w8, w7.setCell ⟨X, 2, none⟩ (.slice a6 (x.gs.length + 1) c6) = w8 := ⟨_, rfl⟩
    rw [hw8] at h8 k8
    have HW8 := Lib.hid hw8
    have H8 := Lib.hid h8
    have HK8 := Lib.hid k8
    have HE7 := Lib.hid hE7'
    clear hw8 h8 k8 hE7' hE7
    go_wp2
    rw [HW8.out]
    refine ⟨HK8.out.mono (fun _ _ _ hx => hx.mono (by decide)), ?_⟩
    refine FY.flow_end (fun w9 hE9 _ => ?_)
    have hE9' : Ext w8 w9 := hE9
    have k39 : Keep (TX b [43, 84]) W w9 := ((((Keep.of_ext HX5.out).trans (HK6.out.mono (fun _ _ _ hx => hx.mono (by decide)))).trans (Keep.of_ext HE7.out)).trans (HK8.out.mono (fun _ _ _ hx => hx.mono (by decide)))).trans (Keep.of_ext hE9')
    have hfin := HR.out (.returned (.int .i64 0)) w9 (by rw [if_neg HNO.out]; exact ⟨rfl, ⟨_, _, _, _, _, _, _, _, _, H8.out.ext hE9', hns⟩, (Keep.of_ext HE3.out).trans k39⟩)
    clear HR k39 hE9 hE9' c3 f3
    go_wp2
    exact hfin
end Go.Proofs.YtcmhgpgookiomaaGreat
namespace Go.Proofs.YtcmhgpgookiomaaGreat
open Go.RowKit Go.Shelf Go.Maps

attribute [local go_sem] Oper.semAt_some

set_option maxRecDepth 20000 in
set_option maxHeartbeats 8000000 in
theorem do19_k3 {w : World} {b X : Nat} {x : RX} {s : Nat} (h : RingX w b X x s) (hB : BndX x) (hbw : b ≤ w.heap.size) (who gr re : Nat) :
    Calls Tryz.prog 19 #[.pointer (some ⟨X, 0, none⟩), .agg #[.int .i64 3, .int .u32 (who : Int), .int .u32 (gr : Int), .int .u32 (re : Int)]] w fun e w' => if (getA x.ms re).isSome = true then e = .returned (.int .i64 212) ∧ Ext w w' else if (getA x.gs gr).isSome = true then e = .returned (.int .i64 0) ∧ RingX w' b X { x with ms := x.ms ++ [(re, [gr])] } s ∧ Keep (TX b [43, 81]) w w' else e = .returned (.int .i64 211) ∧ Ext w w' := by
  obtain ⟨vp, vg, vm, vs, pc, gc, mc, sc, ns, h, hns⟩ := h
  obtain ⟨PP, hPP⟩ := place_ex x.ps who
  obtain ⟨GG, hGG⟩ := place_ex (x.gs.map (·.1)) gr
  obtain ⟨MM, hMM⟩ := place_ex (x.ms.map (·.1)) re
  have HCP := Lib.hid (fun B (hE : Ext w B) => person_place (h.ext hE) hB hPP)
  have HCG := Lib.hid (fun B (hE : Ext w B) => group_place (h.ext hE) hB hGG)
  have HCM := Lib.hid (fun B (hE : Ext w B) => realm_place (h.ext hE) hB hMM)
  have HPP := Lib.hid hPP
  have HGG := Lib.hid hGG
  have HMM := Lib.hid hMM
  have HH := Lib.hid h
  have HB := Lib.hid hB
  clear hPP hGG hMM h hB
  refine calls_cps fun R0 hR => ?_
  have HR := Lib.hid hR
  clear hR
  go_enter Tryz.func19, Tryz.ntmps19
  go_upto_region 1 with fail
  refine wp_laid1 fun W0 eW0 hG0 => ?_
  have aC : Arr W0 w.heap.size 25 [.int .i64 3, .int .u32 (who : Int), .int .u32 (gr : Int), .int .u32 (re : Int)] := hG0
  have hX0 : ∀ B, Ext W0.drew B → Ext W0 B := fun B hB => ((Keep.refl _ W0).drew).trans hB
  have d1 := fun g : FY.At (fun _ _ => False) W0.drew => (aC.ext (hX0 _ g.ext)).cell (i := 1) rfl
  have d2 := fun g : FY.At (fun _ _ => False) W0.drew => (aC.ext (hX0 _ g.ext)).cell (i := 2) rfl
  have d3 := fun g : FY.At (fun _ _ => False) W0.drew => (aC.ext (hX0 _ g.ext)).cell (i := 3) rfl
  have HCP := Lib.hid (fun B (hE : Ext W0.drew B) => HCP.out B (eW0.trans (hX0 B hE)))
  have HCG := Lib.hid (fun B (hE : Ext W0.drew B) => HCG.out B (eW0.trans (hX0 B hE)))
  have HCM := Lib.hid (fun B (hE : Ext W0.drew B) => HCM.out B (eW0.trans (hX0 B hE)))
  have HE0 := Lib.hid eW0
  have HX0 := Lib.hid hX0
  have HID := Lib.hid (fun B (h : Ext W0.drew B) => h)
  clear hG0 eW0 hX0
  refine FY.wp_flow (X := fun _ _ => False) (0 :: 1 :: 2 :: 3 :: 4 :: 5 :: 6 :: 7 :: 8 :: 9 :: 10 :: 11 :: 12 :: 13 :: 14 :: []) (fun j => if j = 3 then .grows (fun v _ => v = .int .i64 PP) (fun v => v = .int .i64 PP) else if j = 7 then .grows (fun v _ => v = .int .i64 GG) (fun v => v = .int .i64 GG) else if j = 11 then .grows (fun v _ => v = .int .i64 MM) (fun v => v = .int .i64 MM) else .still) (by kernel_rfl) (by kernel_rfl) ?_
  iterate 3 (refine FY.flow_q rfl rfl rfl ?_; go_big_quiet_step (fail); refine wpQuiet_nil ?_)
  refine FY.flow_g rfl rfl rfl (by simp) ⟨_, rfl⟩ (fun _ _ _ h _ => h) (fun _ _ h => h) (fun w5 hE5 _ => ?_) (fun v hv => ?_)
  · have hcall := HCP.out w5 (HID.out w5 hE5)
    go_wp2_with fail
    refine hcall.mono ?_
    rintro e w6 ⟨rfl, rfl⟩
    clear hcall
    go_wp2
    exact Keep.refl _ _
  subst hv
  simp only [Act.put, List.setIfInBounds_toArray, List.set_cons_succ, List.set_cons_zero]
  iterate 3 (refine FY.flow_q rfl rfl rfl ?_; go_big_quiet_step (fail); refine wpQuiet_nil ?_)
  refine FY.flow_g rfl rfl rfl (by simp) ⟨_, rfl⟩ (fun _ _ _ h _ => h) (fun _ _ h => h) (fun w5 hE5 _ => ?_) (fun v hv => ?_)
  · have hcall := HCG.out w5 (HID.out w5 hE5)
    go_wp2_with fail
    refine hcall.mono ?_
    rintro e w6 ⟨rfl, rfl⟩
    clear hcall
    go_wp2
    exact Keep.refl _ _
  subst hv
  simp only [Act.put, List.setIfInBounds_toArray, List.set_cons_succ, List.set_cons_zero]
  iterate 3 (refine FY.flow_q rfl rfl rfl ?_; go_big_quiet_step (fail); refine wpQuiet_nil ?_)
  refine FY.flow_g rfl rfl rfl (by simp) ⟨_, rfl⟩ (fun _ _ _ h _ => h) (fun _ _ h => h) (fun w5 hE5 _ => ?_) (fun v hv => ?_)
  · have hcall := HCM.out w5 (HID.out w5 hE5)
    go_wp2_with fail
    refine hcall.mono ?_
    rintro e w6 ⟨rfl, rfl⟩
    clear hcall
    go_wp2
    exact Keep.refl _ _
  subst hv
  simp only [Act.put, List.setIfInBounds_toArray, List.set_cons_succ, List.set_cons_zero]
  iterate 3 (refine FY.flow_q rfl rfl rfl ?_; go_big_quiet_step (fail); refine wpQuiet_nil ?_)
  clear d1 d2 d3
  refine FY.flow_end (fun w1 hE1 _ => ?_)
  have aC1 := aC.ext (HX0.out w1 hE1)
  have z0 := aC1.cell (i := 0) rfl
  have z1 := aC1.cell (i := 1) rfl
  have z2 := aC1.cell (i := 2) rfl
  have z3 := aC1.cell (i := 3) rfl
  have HE1 := Lib.hid (HE0.out.trans (HX0.out w1 hE1))
  have H1 := Lib.hid (HH.out.ext HE1.out)
  have HC1 := Lib.hid aC1
  clear hE1 aC aC1 HCP HCG HCM HID HX0 HE0
  rcases HMM.out with ⟨i, hi, rfl, hni⟩ | ⟨hno, rfl⟩
  · have hin : (getA x.ms re).isSome = true := (in_map _ _).2 (List.mem_of_getElem? hi)
    clear hi hni
    have hcall := add39_m X w1 3 who gr re GG i
    clear z1 z2 z3
    go_wp2_with (first
      | (refine wpList_val (o := ⟨some 76, _, _, _, _, _⟩) (v := .agg #[.int .i64 3, .int .u32 (who : Int), .int .u32 (gr : Int), .int .u32 (re : Int)]) ?_ ?_ ?_; exact exec_load_row rfl rfl HC1.out Tryz.underlying25 rfl (by kernel_rfl); rfl)
      | fail)
    refine hcall.mono ?_
    rintro e2 w2 ⟨rfl, e2⟩
    have hfin := HR.out (.returned (.int .i64 212)) w2 (by rw [if_pos hin]; exact ⟨rfl, HE1.out.trans e2⟩)
    clear HR hcall z0
    go_wp2
    exact hfin
  · have hmn : ¬ (getA x.ms re).isSome = true := fun h => hno ((in_map _ _).1 h)
    rcases HGG.out with ⟨i, hi, rfl, hni⟩ | ⟨hno2, rfl⟩
    · obtain ⟨ms0, hms0⟩ := at_of_map hi
      have hin : (getA x.gs gr).isSome = true := (in_map _ _).2 (List.mem_of_getElem? hi)
      clear hi hni hno
      have hcall := add39_any ⟨_, _, _, _, _, _, _, _, _, H1.out, hns⟩ HB.out (Nat.le_trans hbw HE1.out.size) 3 who gr re i gr ms0 hms0
      clear z1 z2 z3
      go_wp2_with (first
        | (refine wpList_val (o := ⟨some 76, _, _, _, _, _⟩) (v := .agg #[.int .i64 3, .int .u32 (who : Int), .int .u32 (gr : Int), .int .u32 (re : Int)]) ?_ ?_ ?_; exact exec_load_row rfl rfl HC1.out Tryz.underlying25 rfl (by kernel_rfl); rfl)
        | fail)
      refine hcall.mono ?_
      rintro e2 w2 ⟨rfl, h2, k2⟩
      have hfin := HR.out (.returned (.int .i64 0)) w2 (by rw [if_neg hmn, if_pos hin]; exact ⟨rfl, h2, (Keep.of_ext HE1.out).trans k2⟩)
      clear HR hcall z0
      go_wp2
      exact hfin
    · have hgn : ¬ (getA x.gs gr).isSome = true := fun h => hno2 ((in_map _ _).1 h)
      clear hno hno2
      have hcall := add39_g X w1 3 who gr re
      clear z1 z2 z3
      go_wp2_with (first
        | (refine wpList_val (o := ⟨some 76, _, _, _, _, _⟩) (v := .agg #[.int .i64 3, .int .u32 (who : Int), .int .u32 (gr : Int), .int .u32 (re : Int)]) ?_ ?_ ?_; exact exec_load_row rfl rfl HC1.out Tryz.underlying25 rfl (by kernel_rfl); rfl)
        | fail)
      refine hcall.mono ?_
      rintro e2 w2 ⟨rfl, e2⟩
      have hfin := HR.out (.returned (.int .i64 211)) w2 (by rw [if_neg hmn, if_neg hgn]; exact ⟨rfl, HE1.out.trans e2⟩)
      clear HR hcall z0
      go_wp2
      exact hfin
end Go.Proofs.YtcmhgpgookiomaaGreat
namespace Go.Proofs.YtcmhgpgookiomaaGreat
open Go.RowKit Go.Shelf Go.Maps

attribute [local go_sem] Oper.semAt_some

theorem setA_at : ∀ {l : List (Nat × List Nat)} {j n : Nat} {u v : List Nat}, l[j]? = some (n, u) → n ∉ (l.map (·.1)).take j → setA l n v = l.set j (n, v)
  | [], _, _, _, _, h, _ => by simp at h
  | (k, q) :: l, 0, n, u, v, h, _ => by
    simp at h
    obtain ⟨rfl, rfl⟩ := h
    simp [setA]
  | (k, q) :: l, j + 1, n, u, v, h, h2 => by
    simp at h h2
    unfold setA
    rw [if_neg (fun e => h2.1 e.symm), List.set_cons_succ, setA_at h (by simpa using h2.2)]

set_option maxRecDepth 20000 in
set_option maxHeartbeats 8000000 in
theorem do19_k4 {w : World} {b X : Nat} {x : RX} {s : Nat} (h : RingX w b X x s) (hB : BndX x) (hT : TightX x) (who gr re : Nat) :
    Calls Tryz.prog 19 #[.pointer (some ⟨X, 0, none⟩), .agg #[.int .i64 4, .int .u32 (who : Int), .int .u32 (gr : Int), .int .u32 (re : Int)]] w fun e w' => if who ∈ x.ps then if (getA x.gs gr).isSome = true then ((who ∈ memX x gr → e = .returned (.int .i64 0) ∧ RingX w' b X x s ∧ Ext w w') ∧ (who ∉ memX x gr → e = .returned (.int .i64 0) ∧ RingX w' b X { x with gs := setA x.gs gr (risesX (memX x gr) who) } s ∧ Keep (DK b) w w')) else e = .returned (.int .i64 211) ∧ Ext w w' else e = .returned (.int .i64 210) ∧ Ext w w' := by
  have HT := Lib.hid hT
  clear hT
  obtain ⟨vp, vg, vm, vs, pc, gc, mc, sc, ns, h, hns⟩ := h
  obtain ⟨PP, hPP⟩ := place_ex x.ps who
  obtain ⟨GG, hGG⟩ := place_ex (x.gs.map (·.1)) gr
  obtain ⟨MM, hMM⟩ := place_ex (x.ms.map (·.1)) re
  have HCP := Lib.hid (fun B (hE : Ext w B) => person_place (h.ext hE) hB hPP)
  have HCG := Lib.hid (fun B (hE : Ext w B) => group_place (h.ext hE) hB hGG)
  have HCM := Lib.hid (fun B (hE : Ext w B) => realm_place (h.ext hE) hB hMM)
  have HPP := Lib.hid hPP
  have HGG := Lib.hid hGG
  have HMM := Lib.hid hMM
  have HH := Lib.hid h
  have HB := Lib.hid hB
  clear hPP hGG hMM h hB
  refine calls_cps fun R0 hR => ?_
  have HR := Lib.hid hR
  clear hR
  go_enter Tryz.func19, Tryz.ntmps19
  go_upto_region 1 with fail
  refine wp_laid1 fun W0 eW0 hG0 => ?_
  have aC : Arr W0 w.heap.size 25 [.int .i64 4, .int .u32 (who : Int), .int .u32 (gr : Int), .int .u32 (re : Int)] := hG0
  have hX0 : ∀ B, Ext W0.drew B → Ext W0 B := fun B hB => ((Keep.refl _ W0).drew).trans hB
  have d1 := fun g : FY.At (fun _ _ => False) W0.drew => (aC.ext (hX0 _ g.ext)).cell (i := 1) rfl
  have d2 := fun g : FY.At (fun _ _ => False) W0.drew => (aC.ext (hX0 _ g.ext)).cell (i := 2) rfl
  have d3 := fun g : FY.At (fun _ _ => False) W0.drew => (aC.ext (hX0 _ g.ext)).cell (i := 3) rfl
  have HCP := Lib.hid (fun B (hE : Ext W0.drew B) => HCP.out B (eW0.trans (hX0 B hE)))
  have HCG := Lib.hid (fun B (hE : Ext W0.drew B) => HCG.out B (eW0.trans (hX0 B hE)))
  have HCM := Lib.hid (fun B (hE : Ext W0.drew B) => HCM.out B (eW0.trans (hX0 B hE)))
  have HE0 := Lib.hid eW0
  have HX0 := Lib.hid hX0
  have HID := Lib.hid (fun B (h : Ext W0.drew B) => h)
  clear hG0 eW0 hX0
  refine FY.wp_flow (X := fun _ _ => False) (0 :: 1 :: 2 :: 3 :: 4 :: 5 :: 6 :: 7 :: 8 :: 9 :: 10 :: 11 :: 12 :: 13 :: 14 :: []) (fun j => if j = 3 then .grows (fun v _ => v = .int .i64 PP) (fun v => v = .int .i64 PP) else if j = 7 then .grows (fun v _ => v = .int .i64 GG) (fun v => v = .int .i64 GG) else if j = 11 then .grows (fun v _ => v = .int .i64 MM) (fun v => v = .int .i64 MM) else .still) (by kernel_rfl) (by kernel_rfl) ?_
  iterate 3 (refine FY.flow_q rfl rfl rfl ?_; go_big_quiet_step (fail); refine wpQuiet_nil ?_)
  refine FY.flow_g rfl rfl rfl (by simp) ⟨_, rfl⟩ (fun _ _ _ h _ => h) (fun _ _ h => h) (fun w5 hE5 _ => ?_) (fun v hv => ?_)
  · have hcall := HCP.out w5 (HID.out w5 hE5)
    go_wp2_with fail
    refine hcall.mono ?_
    rintro e w6 ⟨rfl, rfl⟩
    clear hcall
    go_wp2
    exact Keep.refl _ _
  subst hv
  simp only [Act.put, List.setIfInBounds_toArray, List.set_cons_succ, List.set_cons_zero]
  iterate 3 (refine FY.flow_q rfl rfl rfl ?_; go_big_quiet_step (fail); refine wpQuiet_nil ?_)
  refine FY.flow_g rfl rfl rfl (by simp) ⟨_, rfl⟩ (fun _ _ _ h _ => h) (fun _ _ h => h) (fun w5 hE5 _ => ?_) (fun v hv => ?_)
  · have hcall := HCG.out w5 (HID.out w5 hE5)
    go_wp2_with fail
    refine hcall.mono ?_
    rintro e w6 ⟨rfl, rfl⟩
    clear hcall
    go_wp2
    exact Keep.refl _ _
  subst hv
  simp only [Act.put, List.setIfInBounds_toArray, List.set_cons_succ, List.set_cons_zero]
  iterate 3 (refine FY.flow_q rfl rfl rfl ?_; go_big_quiet_step (fail); refine wpQuiet_nil ?_)
  refine FY.flow_g rfl rfl rfl (by simp) ⟨_, rfl⟩ (fun _ _ _ h _ => h) (fun _ _ h => h) (fun w5 hE5 _ => ?_) (fun v hv => ?_)
  · have hcall := HCM.out w5 (HID.out w5 hE5)
    go_wp2_with fail
    refine hcall.mono ?_
    rintro e w6 ⟨rfl, rfl⟩
    clear hcall
    go_wp2
    exact Keep.refl _ _
  subst hv
  simp only [Act.put, List.setIfInBounds_toArray, List.set_cons_succ, List.set_cons_zero]
  iterate 3 (refine FY.flow_q rfl rfl rfl ?_; go_big_quiet_step (fail); refine wpQuiet_nil ?_)
  clear d1 d2 d3
  refine FY.flow_end (fun w1 hE1 _ => ?_)
  have aC1 := aC.ext (HX0.out w1 hE1)
  have z0 := aC1.cell (i := 0) rfl
  have z1 := aC1.cell (i := 1) rfl
  have z2 := aC1.cell (i := 2) rfl
  have z3 := aC1.cell (i := 3) rfl
  have HE1 := Lib.hid (HE0.out.trans (HX0.out w1 hE1))
  have H1 := Lib.hid (HH.out.ext HE1.out)
  have HC1 := Lib.hid aC1
  clear hE1 aC aC1 HCP HCG HCM HID HX0 HE0
  rcases HPP.out with ⟨i, hi, rfl, hni⟩ | ⟨hno, rfl⟩
  rotate_left
  · have hn1 : ¬ (who ∈ x.ps) := hno
    have hfin := HR.out (.returned (.int .i64 210)) w1 (by rw [if_neg hn1]; exact ⟨rfl, HE1.out⟩)
    clear HR hno z1 z2 z3
    go_wp2
    exact hfin
  have hc1 : who ∈ x.ps := List.mem_of_getElem? hi
  rcases HGG.out with ⟨j, hj, rfl, hnj⟩ | ⟨hno, rfl⟩
  rotate_left
  · have hn2 : ¬ ((getA x.gs gr).isSome = true) := fun h => hno ((in_map _ _).1 h)
    have h0i : (0 : Int) ≤ (i : Int) := by omega
    clear hi hni
    have hfin := HR.out (.returned (.int .i64 211)) w1 (by rw [if_pos hc1, if_neg hn2]; exact ⟨rfl, HE1.out⟩)
    clear HR hno z1 z2 z3
    go_wp2
    exact hfin
  have hc2 : (getA x.gs gr).isSome = true := (in_map _ _).2 (List.mem_of_getElem? hj)
  have h0i : (0 : Int) ≤ (i : Int) := by omega
  have h0j : (0 : Int) ≤ (j : Int) := by omega
  have HI := Lib.hid (And.intro hi hni)
  have hjj := Lib.hid (And.intro hj hnj)
  obtain ⟨ms, hms⟩ := at_of_map hj
  have hjG : j < x.gs.length := lt_of_get hms
  obtain ⟨gg, og, cg, rfl, hog⟩ := own_form HH.out.go (by omega)
  obtain ⟨_, _, q, hrg⟩ := owns_row H1.out.go
  cases q
  obtain ⟨_, _, v0, q, hcv, _, hu0⟩ := sec_members hrg H1.out.gs hms
  cases q
  obtain ⟨a0, c0, rfl, hrow0, hrb0⟩ := hu0
  have hm0 : ms.length ≤ 1000 := HB.out.gm _ (List.mem_of_getElem? hms)
  obtain ⟨G, hG⟩ : ∃ G, x.gs.length = G := ⟨_, rfl⟩
  obtain ⟨L, hL⟩ : ∃ L, ms.length = L := ⟨_, rfl⟩
  have hgc : G ≤ cg := by have := hrg.1; omega
  have hcl := H1.out.cells
  rw [hG] at hcl hjG
  have HU := Lib.hid (show URow w1 (.slice a0 ms.length c0) ms from ⟨a0, c0, rfl, hrow0, hrb0⟩)
  have HROW0 := Lib.hid hrow0
  rw [hL] at hcv HROW0 hm0
  have HMS := Lib.hid hms
  have HOG := Lib.hid hog
  have HCL := Lib.hid hcl
  have HCV := Lib.hid hcv
  have HL := Lib.hid hL
  have HGE := Lib.hid hG
  clear hms hog hcl hcv hL hG hrow0 hrb0 hrg
  have HNOW := Lib.hid (show memX x gr = ms by unfold memX; rw [getA_at HMS.out hjj.out.2]; rfl)
  have HC := Lib.hid (And.intro hc1 hc2)
  clear hi hni hj hnj hc1 hc2 z1 z2 z3
  by_cases hmem : who ∈ ms
  · have hXw1 : ∀ B, Ext w1.drew B → Ext w1 B := fun B hB => (Keep.refl _ w1).trans (((Keep.refl _ w1).drew).trans hB)
    have d2 := fun g : FY.At (fun _ _ => False) w1.drew => (HCL.out.ext (hXw1 _ g.ext)).cell (i := 2) rfl
    have d34 := fun g : FY.At (fun _ _ => False) w1.drew => Ext.cell (hXw1 _ g.ext) HCV.out
    have dw := fun g : FY.At (fun _ _ => False) w1.drew => (HC1.out.ext (hXw1 _ g.ext)).cell (i := 1) rfl
    have dk := fun g : FY.At (fun _ _ => False) w1.drew => (HC1.out.ext (hXw1 _ g.ext)).cell (i := 0) rfl
    have HXw1 := Lib.hid hXw1
    clear hXw1
    have HHAS := Lib.hid (fun B (hE : Ext w1 B) => show Calls Tryz.prog 23 #[.slice a0 L c0, .int .u32 (who : Int)] B fun e w' => e = .returned (.bool true) ∧ w' = B by
      have := has_any a0 c0 ms who B (by rw [HL.out]; exact HROW0.out.ext hE)
      rw [HL.out] at this
      refine this.mono (fun e w' q => ?_)
      rw [show decide (who ∈ ms) = true by simp [hmem]] at q
      exact q)
    have HMEM := Lib.hid hmem
    clear hmem
    go_wp2
    clear z0
    refine FY.wp_flow (X := fun _ _ => False) (0 :: 1 :: 2 :: 3 :: 4 :: 5 :: 6 :: 7 :: 8 :: 9 :: 10 :: 11 :: 12 :: 13 :: 14 :: []) (fun j => if j = 10 then .grows (fun v _ => v = .bool true) (fun v => v = .bool true) else .still) (by kernel_rfl) (by kernel_rfl) ?_
    iterate 10 (refine FY.flow_q rfl rfl rfl ?_; go_big_quiet_step (fail); refine wpQuiet_nil ?_)
    clear d2 d34 dw
    refine FY.flow_g rfl rfl rfl (by simp) ⟨_, rfl⟩ (fun _ _ _ h _ => h) (fun _ _ h => h) (fun w5 hE5 _ => ?_) (fun v hv => ?_)
    · have hcall := HHAS.out w5 (HXw1.out w5 hE5)
      go_wp2_with fail
      refine hcall.mono ?_
      rintro e w6 ⟨rfl, rfl⟩
      clear hcall dk
      go_wp2
      exact Keep.refl _ _
    subst hv
    simp only [Act.put, List.setIfInBounds_toArray, List.set_cons_succ, List.set_cons_zero]
    iterate 4 (refine FY.flow_q rfl rfl rfl ?_; go_big_quiet_step (fail); refine wpQuiet_nil ?_)
    clear dk
    refine FY.flow_end (fun w2 hE2 _ => ?_)
    have HE12 := Lib.hid (HXw1.out w2 hE2)
    clear hE2 HXw1
    have hfin := HR.out (.returned (.int .i64 0)) w2 (by rw [if_pos HC.out.1, if_pos HC.out.2]; exact ⟨fun _ => ⟨rfl, ⟨_, _, _, _, _, _, _, _, _, (by have := H1.out.ext HE12.out; exact this), hns⟩, HE1.out.trans HE12.out⟩, fun hh => absurd (by rw [HNOW.out]; exact HMEM.out) hh⟩)
    clear HR
    go_wp2
    exact hfin
  · have hXw1 : ∀ B, Ext w1.drew B → Ext w1 B := fun B hB => (Keep.refl _ w1).trans (((Keep.refl _ w1).drew).trans hB)
    have d2 := fun g : FY.At (fun _ _ => False) w1.drew => (HCL.out.ext (hXw1 _ g.ext)).cell (i := 2) rfl
    have d34 := fun g : FY.At (fun _ _ => False) w1.drew => Ext.cell (hXw1 _ g.ext) HCV.out
    have dw := fun g : FY.At (fun _ _ => False) w1.drew => (HC1.out.ext (hXw1 _ g.ext)).cell (i := 1) rfl
    have dk := fun g : FY.At (fun _ _ => False) w1.drew => (HC1.out.ext (hXw1 _ g.ext)).cell (i := 0) rfl
    have HXw1 := Lib.hid hXw1
    clear hXw1
    have HHAS := Lib.hid (fun B (hE : Ext w1 B) => show Calls Tryz.prog 23 #[.slice a0 L c0, .int .u32 (who : Int)] B fun e w' => e = .returned (.bool false) ∧ w' = B by
      have := has_any a0 c0 ms who B (by rw [HL.out]; exact HROW0.out.ext hE)
      rw [HL.out] at this
      refine this.mono (fun e w' q => ?_)
      rw [show decide (who ∈ ms) = false by simp [hmem]] at q
      exact q)
    have HMEM := Lib.hid hmem
    clear hmem
    go_wp2
    clear z0
    refine FY.wp_flow (X := fun _ _ => False) (0 :: 1 :: 2 :: 3 :: 4 :: 5 :: 6 :: 7 :: 8 :: 9 :: 10 :: 11 :: 12 :: 13 :: 14 :: []) (fun j => if j = 10 then .grows (fun v _ => v = .bool false) (fun v => v = .bool false) else .still) (by kernel_rfl) (by kernel_rfl) ?_
    iterate 10 (refine FY.flow_q rfl rfl rfl ?_; go_big_quiet_step (fail); refine wpQuiet_nil ?_)
    clear d2 d34 dw
    refine FY.flow_g rfl rfl rfl (by simp) ⟨_, rfl⟩ (fun _ _ _ h _ => h) (fun _ _ h => h) (fun w5 hE5 _ => ?_) (fun v hv => ?_)
    · have hcall := HHAS.out w5 (HXw1.out w5 hE5)
      go_wp2_with fail
      refine hcall.mono ?_
      rintro e w6 ⟨rfl, rfl⟩
      clear hcall dk
      go_wp2
      exact Keep.refl _ _
    subst hv
    simp only [Act.put, List.setIfInBounds_toArray, List.set_cons_succ, List.set_cons_zero]
    iterate 4 (refine FY.flow_q rfl rfl rfl ?_; go_big_quiet_step (fail); refine wpQuiet_nil ?_)
    clear dk
    refine FY.flow_end (fun w2 hE2 _ => ?_)
    have HE12 := Lib.hid (HXw1.out w2 hE2)
    clear hE2 HXw1
    have z0 := (HC1.out.ext HE12.out).cell (i := 0) rfl
    go_wp2
    clear z0
    have hXw2 : ∀ B, Ext w2.drew B → Ext w1 B := fun B hB => (HE12.out).trans (((Keep.refl _ w2).drew).trans hB)
    have d2 := fun g : FY.At (fun _ _ => False) w2.drew => (HCL.out.ext (hXw2 _ g.ext)).cell (i := 2) rfl
    have d34 := fun g : FY.At (fun _ _ => False) w2.drew => Ext.cell (hXw2 _ g.ext) HCV.out
    have dw := fun g : FY.At (fun _ _ => False) w2.drew => (HC1.out.ext (hXw2 _ g.ext)).cell (i := 1) rfl
    have dk := fun g : FY.At (fun _ _ => False) w2.drew => (HC1.out.ext (hXw2 _ g.ext)).cell (i := 0) rfl
    have HXw2 := Lib.hid hXw2
    clear hXw2
    have HNEW := Lib.hid (fun B (hE : Ext w1 B) => show Calls Tryz.prog 41 #[.slice a0 L c0, .int .u32 (who : Int)] B fun e w' => ∃ v, e = .returned v ∧ URow w' v (risesX ms who) ∧ Ext B w' by
      have := rises_any a0 c0 ms who B (by rw [HL.out]; exact HROW0.out.ext hE) (by have := HL.out; omega)
      rw [HL.out] at this
      refine this.mono (fun e w' q => ?_)
      obtain ⟨v, h1, h2, h3⟩ := q
      exact ⟨v, h1, URow.of_own h2, h3⟩)
    refine FY.wp_flow (X := fun _ _ => False) (0 :: 1 :: 2 :: 3 :: 4 :: 5 :: 6 :: 7 :: 8 :: 9 :: 10 :: 11 :: 12 :: 13 :: 14 :: 15 :: 16 :: 17 :: 18 :: []) (fun j => if j = 15 then .grows (fun v w' => URow w' v (risesX ms who)) (fun v => ∃ a c, v = .slice a (risesX ms who).length c) else if j = 18 then .last else .still) (by kernel_rfl) (by kernel_rfl) ?_
    iterate 15 (refine FY.flow_q rfl rfl rfl ?_; go_big_quiet_step (fail); refine wpQuiet_nil ?_)
    clear d2 d34 dw dk
    refine FY.flow_g rfl rfl rfl (by simp) ⟨_, none, 0, rfl⟩ (fun _ _ _ h hE => h.ext hE) (fun _ _ h => by obtain ⟨a, c, h, _⟩ := h; exact ⟨a, c, h⟩) (fun w5 hE5 _ => ?_) (fun v hv => ?_)
    · have hcall := HNEW.out w5 (HXw2.out w5 hE5)
      go_wp2_with fail
      refine hcall.mono ?_
      rintro e w6 ⟨v, rfl, hu, e6⟩
      have hu := Lib.hid hu
      have he6 := Lib.hid e6
      clear hcall e6
      go_wp2
      exact he6.out
    obtain ⟨a1, c1, rfl⟩ := hv
    simp only [Act.put, List.setIfInBounds_toArray, List.set_cons_succ, List.set_cons_zero]
    iterate 2 (refine FY.flow_q rfl rfl rfl ?_; go_big_quiet_step (fail); refine wpQuiet_nil ?_)
    refine FY.flow_l rfl rfl (by kernel_rfl) (fun w5 hE5 hf => ?_)
    have hu : URow w5 (.slice a1 (risesX ms who).length c1) (risesX ms who) := hf 15
    have e15 := HXw2.out w5 hE5
    have h5 := H1.out.ext e15
    have h5' : RIn w5 b X x vp (.slice (some ⟨gg, og, none⟩) G cg) vm vs pc gc mc sc ns := by have := h5; rw [HGE.out] at this; exact this
    obtain ⟨h6, k6, f6, old, c6⟩ := h5'.setG HOG.out HMS.out hu
    obtain ⟨w6, hw6⟩ : ∃ w6, w5.setCell ⟨gg, og + j * 35 + 34, none⟩ (.slice a1 (risesX ms who).length c1) = w6 := ⟨_, rfl⟩
    rw [hw6] at h6 k6
    have HW6 := Lib.hid hw6
    have HK6 := Lib.hid (show Keep (TX b [84]) w w6 from (Keep.of_ext (HE1.out.trans e15)).trans k6)
    have H6 := Lib.hid h6
    have HU5 := Lib.hid hu
    have HC6 := Lib.hid ((HC1.out.ext e15).keep k6 (TX.no (by decide)))
    clear h5 h5' h6 k6 hf hE5 hw6 hu e15
    go_wp2
    rw [HW6.out]
    clear f6 c6
    obtain ⟨ap, cp, rfl, hrp⟩ := owns_row H6.out.po
    have hr6 : Row 35 w6 (some ⟨gg, og, none⟩) (x.gs.set j (gr, risesX ms who)).length cg (gc.set (j * 35 + 34) (.slice a1 (risesX ms who).length c1)) := by
      obtain ⟨_, _, q, hr⟩ := owns_row H6.out.go
      cases q
      exact hr
    have hix : (x.gs.set j (gr, risesX ms who))[j]? = some (gr, risesX ms who) := List.getElem?_set_self (by have := HGE.out; omega)
    obtain ⟨_, _, C, v2, ep, q2, hCl, hC1, hC0, hCe, _, _, hld⟩ := sec_struct hr6 H6.out.gs hix
    cases q2
    obtain ⟨g3, o3, C3, rfl, h3l, h31, h30, h3ld⟩ := sec_person hrp H6.out.ps HI.out.1
    have hip : i < x.ps.length := lt_of_get HI.out.1
    have hcp : x.ps.length ≤ cp := hrp.1
    obtain ⟨NP, hNP⟩ : ∃ NP, x.ps.length = NP := ⟨_, rfl⟩
    have hmb := fun B (hB : Ext w6 B) => memberX_any X B (Ext.cell hB (H6.out.cells.cell (i := 0) rfl)) C C3 gr ep who hCl h3l hC0 hCe h30
    have hcl6 := H6.out.cells
    have hG6 : (x.gs.set j (gr, risesX ms who)).length = G := by rw [List.length_set, HGE.out]
    try simp only at hcl6
    rw [hNP] at hcl6 hip hcp
    have hX6 : ∀ B, Ext w6.drew B → Ext w6 B := fun B hB => ((Keep.refl _ w6).drew).trans hB
    have e2 := fun g : FY.At (fun _ _ => False) w6.drew => (hcl6.ext (hX6 _ g.ext)).cell (i := 2) rfl
    have e1 := fun g : FY.At (fun _ _ => False) w6.drew => (hcl6.ext (hX6 _ g.ext)).cell (i := 1) rfl
    try simp only [hG6] at e2 e1
    have hi1 := Lib.hid (show (Tryz.prog.info? 84).map (·.size) = some C.length by rw [size_group, hCl])
    have hi2 := Lib.hid (show (Tryz.prog.info? 111).map (·.size) = some C3.length by rw [size_person, h3l])
    have HMB := Lib.hid hmb
    have HLD1 := Lib.hid hld
    have HLD2 := Lib.hid h3ld
    have HX6 := Lib.hid hX6
    clear hmb hld h3ld hX6 hCl hC1 hC0 hCe h3l h31 h30 hix hr6 hrp hcl6 hG6 hNP 
    go_wp2
    refine FY.wp_flow (X := fun _ _ => False) (0 :: 1 :: 2 :: 3 :: 4 :: 5 :: 6 :: 7 :: 8 :: 9 :: 10 :: 11 :: 12 :: 13 :: 14 :: 15 :: 16 :: []) (fun j => if j = 15 then .grows (fun v _ => v = .int .i64 0) (fun v => v = .int .i64 0) else .still) (by kernel_rfl) (by kernel_rfl) ?_
    iterate 7 (refine FY.flow_q rfl rfl rfl ?_; go_big_quiet_step (fail); refine wpQuiet_nil ?_)
    refine FY.flow_vq (v := .agg C.toArray) rfl rfl rfl (fun w' hE => exec_load_mid' rfl rfl (HLD1.out w' (HX6.out w' hE)) Tryz.underlying84 rfl hi1.out) ?_
    simp only [Act.put, List.setIfInBounds_toArray, List.set_cons_succ, List.set_cons_zero]
    iterate 6 (refine FY.flow_q rfl rfl rfl ?_; go_big_quiet_step (fail); refine wpQuiet_nil ?_)
    refine FY.flow_vq (v := .agg C3.toArray) rfl rfl rfl (fun w' hE => exec_load_mid' rfl rfl (HLD2.out w' (HX6.out w' hE)) Tryz.underlying111 rfl hi2.out) ?_
    simp only [Act.put, List.setIfInBounds_toArray, List.set_cons_succ, List.set_cons_zero]
    clear e1 e2
    refine FY.flow_g rfl rfl rfl (by simp) ⟨_, rfl⟩ (fun _ _ _ h _ => h) (fun _ _ h => h) (fun w5 hE5 _ => ?_) (fun v hv => ?_)
    · have hcall := HMB.out w5 (HX6.out w5 hE5)
      go_wp2_with fail
      refine hcall.mono ?_
      rintro e w6 ⟨rfl, e6⟩
      clear hcall
      go_wp2
    subst hv
    simp only [Act.put, List.setIfInBounds_toArray, List.set_cons_succ, List.set_cons_zero]
    iterate 1 (refine FY.flow_q rfl rfl rfl ?_; go_big_quiet_step (fail); refine wpQuiet_nil ?_)
    refine FY.flow_end (fun wE hE _ => ?_)
    have hE' := HX6.out wE hE
    have hfin := HR.out (.returned (.int .i64 0)) wE (by rw [if_pos HC.out.1, if_pos HC.out.2]; exact ⟨fun hh => absurd (by rw [← HNOW.out]; exact hh) HMEM.out, fun _ => ⟨rfl, ⟨_, _, _, _, _, _, _, _, _, (by rw [HNOW.out, setA_at HMS.out hjj.out.2]; exact H6.out.ext hE'), hns⟩, ((HK6.out.mono (fun _ _ _ hx => hx.mono (by decide))).trans (Keep.of_ext hE'))⟩⟩)
    clear HR hE hE'
    go_wp2
    exact hfin
end Go.Proofs.YtcmhgpgookiomaaGreat
namespace Go.Proofs.YtcmhgpgookiomaaGreat
open Go.RowKit Go.Shelf Go.Maps

attribute [local go_sem] Oper.semAt_some

set_option maxRecDepth 20000 in
set_option maxHeartbeats 8000000 in
theorem do19_k5 {w : World} {b X : Nat} {x : RX} {s : Nat} (h : RingX w b X x s) (hB : BndX x) (hT : TightX x) (who gr re : Nat) :
    Calls Tryz.prog 19 #[.pointer (some ⟨X, 0, none⟩), .agg #[.int .i64 5, .int .u32 (who : Int), .int .u32 (gr : Int), .int .u32 (re : Int)]] w fun e w' => if who ∈ x.ps then if (getA x.gs gr).isSome = true then ((who ∉ memX x gr → e = .returned (.int .i64 0) ∧ RingX w' b X x s ∧ Ext w w') ∧ (who ∈ memX x gr → e = .returned (.int .i64 0) ∧ RingX w' b X { x with gs := setA x.gs gr (butX (memX x gr) who) } s ∧ Keep (DK b) w w')) else e = .returned (.int .i64 211) ∧ Ext w w' else e = .returned (.int .i64 210) ∧ Ext w w' := by
  have HT := Lib.hid hT
  clear hT
  obtain ⟨vp, vg, vm, vs, pc, gc, mc, sc, ns, h, hns⟩ := h
  obtain ⟨PP, hPP⟩ := place_ex x.ps who
  obtain ⟨GG, hGG⟩ := place_ex (x.gs.map (·.1)) gr
  obtain ⟨MM, hMM⟩ := place_ex (x.ms.map (·.1)) re
  have HCP := Lib.hid (fun B (hE : Ext w B) => person_place (h.ext hE) hB hPP)
  have HCG := Lib.hid (fun B (hE : Ext w B) => group_place (h.ext hE) hB hGG)
  have HCM := Lib.hid (fun B (hE : Ext w B) => realm_place (h.ext hE) hB hMM)
  have HPP := Lib.hid hPP
  have HGG := Lib.hid hGG
  have HMM := Lib.hid hMM
  have HH := Lib.hid h
  have HB := Lib.hid hB
  clear hPP hGG hMM h hB
  refine calls_cps fun R0 hR => ?_
  have HR := Lib.hid hR
  clear hR
  go_enter Tryz.func19, Tryz.ntmps19
  go_upto_region 1 with fail
  refine wp_laid1 fun W0 eW0 hG0 => ?_
  have aC : Arr W0 w.heap.size 25 [.int .i64 5, .int .u32 (who : Int), .int .u32 (gr : Int), .int .u32 (re : Int)] := hG0
  have hX0 : ∀ B, Ext W0.drew B → Ext W0 B := fun B hB => ((Keep.refl _ W0).drew).trans hB
  have d1 := fun g : FY.At (fun _ _ => False) W0.drew => (aC.ext (hX0 _ g.ext)).cell (i := 1) rfl
  have d2 := fun g : FY.At (fun _ _ => False) W0.drew => (aC.ext (hX0 _ g.ext)).cell (i := 2) rfl
  have d3 := fun g : FY.At (fun _ _ => False) W0.drew => (aC.ext (hX0 _ g.ext)).cell (i := 3) rfl
  have HCP := Lib.hid (fun B (hE : Ext W0.drew B) => HCP.out B (eW0.trans (hX0 B hE)))
  have HCG := Lib.hid (fun B (hE : Ext W0.drew B) => HCG.out B (eW0.trans (hX0 B hE)))
  have HCM := Lib.hid (fun B (hE : Ext W0.drew B) => HCM.out B (eW0.trans (hX0 B hE)))
  have HE0 := Lib.hid eW0
  have HX0 := Lib.hid hX0
  have HID := Lib.hid (fun B (h : Ext W0.drew B) => h)
  clear hG0 eW0 hX0
  refine FY.wp_flow (X := fun _ _ => False) (0 :: 1 :: 2 :: 3 :: 4 :: 5 :: 6 :: 7 :: 8 :: 9 :: 10 :: 11 :: 12 :: 13 :: 14 :: []) (fun j => if j = 3 then .grows (fun v _ => v = .int .i64 PP) (fun v => v = .int .i64 PP) else if j = 7 then .grows (fun v _ => v = .int .i64 GG) (fun v => v = .int .i64 GG) else if j = 11 then .grows (fun v _ => v = .int .i64 MM) (fun v => v = .int .i64 MM) else .still) (by kernel_rfl) (by kernel_rfl) ?_
  iterate 3 (refine FY.flow_q rfl rfl rfl ?_; go_big_quiet_step (fail); refine wpQuiet_nil ?_)
  refine FY.flow_g rfl rfl rfl (by simp) ⟨_, rfl⟩ (fun _ _ _ h _ => h) (fun _ _ h => h) (fun w5 hE5 _ => ?_) (fun v hv => ?_)
  · have hcall := HCP.out w5 (HID.out w5 hE5)
    go_wp2_with fail
    refine hcall.mono ?_
    rintro e w6 ⟨rfl, rfl⟩
    clear hcall
    go_wp2
    exact Keep.refl _ _
  subst hv
  simp only [Act.put, List.setIfInBounds_toArray, List.set_cons_succ, List.set_cons_zero]
  iterate 3 (refine FY.flow_q rfl rfl rfl ?_; go_big_quiet_step (fail); refine wpQuiet_nil ?_)
  refine FY.flow_g rfl rfl rfl (by simp) ⟨_, rfl⟩ (fun _ _ _ h _ => h) (fun _ _ h => h) (fun w5 hE5 _ => ?_) (fun v hv => ?_)
  · have hcall := HCG.out w5 (HID.out w5 hE5)
    go_wp2_with fail
    refine hcall.mono ?_
    rintro e w6 ⟨rfl, rfl⟩
    clear hcall
    go_wp2
    exact Keep.refl _ _
  subst hv
  simp only [Act.put, List.setIfInBounds_toArray, List.set_cons_succ, List.set_cons_zero]
  iterate 3 (refine FY.flow_q rfl rfl rfl ?_; go_big_quiet_step (fail); refine wpQuiet_nil ?_)
  refine FY.flow_g rfl rfl rfl (by simp) ⟨_, rfl⟩ (fun _ _ _ h _ => h) (fun _ _ h => h) (fun w5 hE5 _ => ?_) (fun v hv => ?_)
  · have hcall := HCM.out w5 (HID.out w5 hE5)
    go_wp2_with fail
    refine hcall.mono ?_
    rintro e w6 ⟨rfl, rfl⟩
    clear hcall
    go_wp2
    exact Keep.refl _ _
  subst hv
  simp only [Act.put, List.setIfInBounds_toArray, List.set_cons_succ, List.set_cons_zero]
  iterate 3 (refine FY.flow_q rfl rfl rfl ?_; go_big_quiet_step (fail); refine wpQuiet_nil ?_)
  clear d1 d2 d3
  refine FY.flow_end (fun w1 hE1 _ => ?_)
  have aC1 := aC.ext (HX0.out w1 hE1)
  have z0 := aC1.cell (i := 0) rfl
  have z1 := aC1.cell (i := 1) rfl
  have z2 := aC1.cell (i := 2) rfl
  have z3 := aC1.cell (i := 3) rfl
  have HE1 := Lib.hid (HE0.out.trans (HX0.out w1 hE1))
  have H1 := Lib.hid (HH.out.ext HE1.out)
  have HC1 := Lib.hid aC1
  clear hE1 aC aC1 HCP HCG HCM HID HX0 HE0
  rcases HPP.out with ⟨i, hi, rfl, hni⟩ | ⟨hno, rfl⟩
  rotate_left
  · have hn1 : ¬ (who ∈ x.ps) := hno
    have hfin := HR.out (.returned (.int .i64 210)) w1 (by rw [if_neg hn1]; exact ⟨rfl, HE1.out⟩)
    clear HR hno z1 z2 z3
    go_wp2
    exact hfin
  have hc1 : who ∈ x.ps := List.mem_of_getElem? hi
  rcases HGG.out with ⟨j, hj, rfl, hnj⟩ | ⟨hno, rfl⟩
  rotate_left
  · have hn2 : ¬ ((getA x.gs gr).isSome = true) := fun h => hno ((in_map _ _).1 h)
    have h0i : (0 : Int) ≤ (i : Int) := by omega
    clear hi hni
    have hfin := HR.out (.returned (.int .i64 211)) w1 (by rw [if_pos hc1, if_neg hn2]; exact ⟨rfl, HE1.out⟩)
    clear HR hno z1 z2 z3
    go_wp2
    exact hfin
  have hc2 : (getA x.gs gr).isSome = true := (in_map _ _).2 (List.mem_of_getElem? hj)
  have h0i : (0 : Int) ≤ (i : Int) := by omega
  have h0j : (0 : Int) ≤ (j : Int) := by omega
  have HI := Lib.hid (And.intro hi hni)
  have hjj := Lib.hid (And.intro hj hnj)
  obtain ⟨ms, hms⟩ := at_of_map hj
  have hjG : j < x.gs.length := lt_of_get hms
  obtain ⟨gg, og, cg, rfl, hog⟩ := own_form HH.out.go (by omega)
  obtain ⟨_, _, q, hrg⟩ := owns_row H1.out.go
  cases q
  obtain ⟨_, _, v0, q, hcv, _, hu0⟩ := sec_members hrg H1.out.gs hms
  cases q
  obtain ⟨a0, c0, rfl, hrow0, hrb0⟩ := hu0
  have hm0 : ms.length ≤ 1000 := HB.out.gm _ (List.mem_of_getElem? hms)
  obtain ⟨G, hG⟩ : ∃ G, x.gs.length = G := ⟨_, rfl⟩
  obtain ⟨L, hL⟩ : ∃ L, ms.length = L := ⟨_, rfl⟩
  have hgc : G ≤ cg := by have := hrg.1; omega
  have hcl := H1.out.cells
  rw [hG] at hcl hjG
  have HU := Lib.hid (show URow w1 (.slice a0 ms.length c0) ms from ⟨a0, c0, rfl, hrow0, hrb0⟩)
  have HROW0 := Lib.hid hrow0
  rw [hL] at hcv HROW0 hm0
  have HMS := Lib.hid hms
  have HOG := Lib.hid hog
  have HCL := Lib.hid hcl
  have HCV := Lib.hid hcv
  have HL := Lib.hid hL
  have HGE := Lib.hid hG
  clear hms hog hcl hcv hL hG hrow0 hrb0 hrg
  have HNOW := Lib.hid (show memX x gr = ms by unfold memX; rw [getA_at HMS.out hjj.out.2]; rfl)
  have HC := Lib.hid (And.intro hc1 hc2)
  clear hi hni hj hnj hc1 hc2 z1 z2 z3
  by_cases hmem : who ∈ ms
  · have hXw1 : ∀ B, Ext w1.drew B → Ext w1 B := fun B hB => (Keep.refl _ w1).trans (((Keep.refl _ w1).drew).trans hB)
    have d2 := fun g : FY.At (fun _ _ => False) w1.drew => (HCL.out.ext (hXw1 _ g.ext)).cell (i := 2) rfl
    have d34 := fun g : FY.At (fun _ _ => False) w1.drew => Ext.cell (hXw1 _ g.ext) HCV.out
    have dw := fun g : FY.At (fun _ _ => False) w1.drew => (HC1.out.ext (hXw1 _ g.ext)).cell (i := 1) rfl
    have dk := fun g : FY.At (fun _ _ => False) w1.drew => (HC1.out.ext (hXw1 _ g.ext)).cell (i := 0) rfl
    have HXw1 := Lib.hid hXw1
    clear hXw1
    have HHAS := Lib.hid (fun B (hE : Ext w1 B) => show Calls Tryz.prog 23 #[.slice a0 L c0, .int .u32 (who : Int)] B fun e w' => e = .returned (.bool true) ∧ w' = B by
      have := has_any a0 c0 ms who B (by rw [HL.out]; exact HROW0.out.ext hE)
      rw [HL.out] at this
      refine this.mono (fun e w' q => ?_)
      rw [show decide (who ∈ ms) = true by simp [hmem]] at q
      exact q)
    have HMEM := Lib.hid hmem
    clear hmem
    go_wp2
    clear z0
    refine FY.wp_flow (X := fun _ _ => False) (0 :: 1 :: 2 :: 3 :: 4 :: 5 :: 6 :: 7 :: 8 :: 9 :: 10 :: 11 :: 12 :: 13 :: 14 :: []) (fun j => if j = 10 then .grows (fun v _ => v = .bool true) (fun v => v = .bool true) else .still) (by kernel_rfl) (by kernel_rfl) ?_
    iterate 10 (refine FY.flow_q rfl rfl rfl ?_; go_big_quiet_step (fail); refine wpQuiet_nil ?_)
    clear d2 d34 dw
    refine FY.flow_g rfl rfl rfl (by simp) ⟨_, rfl⟩ (fun _ _ _ h _ => h) (fun _ _ h => h) (fun w5 hE5 _ => ?_) (fun v hv => ?_)
    · have hcall := HHAS.out w5 (HXw1.out w5 hE5)
      go_wp2_with fail
      refine hcall.mono ?_
      rintro e w6 ⟨rfl, rfl⟩
      clear hcall dk
      go_wp2
      exact Keep.refl _ _
    subst hv
    simp only [Act.put, List.setIfInBounds_toArray, List.set_cons_succ, List.set_cons_zero]
    iterate 4 (refine FY.flow_q rfl rfl rfl ?_; go_big_quiet_step (fail); refine wpQuiet_nil ?_)
    clear dk
    refine FY.flow_end (fun w2 hE2 _ => ?_)
    have HE12 := Lib.hid (HXw1.out w2 hE2)
    clear hE2 HXw1
    have z0 := (HC1.out.ext HE12.out).cell (i := 0) rfl
    have z1 := (HC1.out.ext HE12.out).cell (i := 1) rfl
    have hx := expel40_any ⟨_, _, _, _, _, _, _, _, _, H1.out.ext HE12.out, hns⟩ HB.out HT.out who j gr ms HMS.out
    go_wp2_with fail
    refine hx.mono ?_
    rintro e3 w3 ⟨rfl, h3, k3⟩
    clear hx z0 z1
    have hfin := HR.out (.returned (.int .i64 0)) w3 (by rw [if_pos HC.out.1, if_pos HC.out.2]; exact ⟨fun hh => absurd (by rw [HNOW.out]; exact HMEM.out) hh, fun _ => ⟨rfl, (by rw [HNOW.out, setA_at HMS.out hjj.out.2]; exact h3), ((Keep.of_ext (HE1.out.trans HE12.out)).trans (k3.mono (fun _ _ _ hx => hx.mono (by decide))))⟩⟩)
    clear HR h3 k3
    go_wp2
    exact hfin
  · have hXw1 : ∀ B, Ext w1.drew B → Ext w1 B := fun B hB => (Keep.refl _ w1).trans (((Keep.refl _ w1).drew).trans hB)
    have d2 := fun g : FY.At (fun _ _ => False) w1.drew => (HCL.out.ext (hXw1 _ g.ext)).cell (i := 2) rfl
    have d34 := fun g : FY.At (fun _ _ => False) w1.drew => Ext.cell (hXw1 _ g.ext) HCV.out
    have dw := fun g : FY.At (fun _ _ => False) w1.drew => (HC1.out.ext (hXw1 _ g.ext)).cell (i := 1) rfl
    have dk := fun g : FY.At (fun _ _ => False) w1.drew => (HC1.out.ext (hXw1 _ g.ext)).cell (i := 0) rfl
    have HXw1 := Lib.hid hXw1
    clear hXw1
    have HHAS := Lib.hid (fun B (hE : Ext w1 B) => show Calls Tryz.prog 23 #[.slice a0 L c0, .int .u32 (who : Int)] B fun e w' => e = .returned (.bool false) ∧ w' = B by
      have := has_any a0 c0 ms who B (by rw [HL.out]; exact HROW0.out.ext hE)
      rw [HL.out] at this
      refine this.mono (fun e w' q => ?_)
      rw [show decide (who ∈ ms) = false by simp [hmem]] at q
      exact q)
    have HMEM := Lib.hid hmem
    clear hmem
    go_wp2
    clear z0
    refine FY.wp_flow (X := fun _ _ => False) (0 :: 1 :: 2 :: 3 :: 4 :: 5 :: 6 :: 7 :: 8 :: 9 :: 10 :: 11 :: 12 :: 13 :: 14 :: []) (fun j => if j = 10 then .grows (fun v _ => v = .bool false) (fun v => v = .bool false) else .still) (by kernel_rfl) (by kernel_rfl) ?_
    iterate 10 (refine FY.flow_q rfl rfl rfl ?_; go_big_quiet_step (fail); refine wpQuiet_nil ?_)
    clear d2 d34 dw
    refine FY.flow_g rfl rfl rfl (by simp) ⟨_, rfl⟩ (fun _ _ _ h _ => h) (fun _ _ h => h) (fun w5 hE5 _ => ?_) (fun v hv => ?_)
    · have hcall := HHAS.out w5 (HXw1.out w5 hE5)
      go_wp2_with fail
      refine hcall.mono ?_
      rintro e w6 ⟨rfl, rfl⟩
      clear hcall dk
      go_wp2
      exact Keep.refl _ _
    subst hv
    simp only [Act.put, List.setIfInBounds_toArray, List.set_cons_succ, List.set_cons_zero]
    iterate 4 (refine FY.flow_q rfl rfl rfl ?_; go_big_quiet_step (fail); refine wpQuiet_nil ?_)
    clear dk
    refine FY.flow_end (fun w2 hE2 _ => ?_)
    have HE12 := Lib.hid (HXw1.out w2 hE2)
    clear hE2 HXw1
    have hfin := HR.out (.returned (.int .i64 0)) w2 (by rw [if_pos HC.out.1, if_pos HC.out.2]; exact ⟨fun _ => ⟨rfl, ⟨_, _, _, _, _, _, _, _, _, (by have := H1.out.ext HE12.out; exact this), hns⟩, HE1.out.trans HE12.out⟩, fun hh => absurd (by rw [← HNOW.out]; exact hh) HMEM.out⟩)
    clear HR
    go_wp2
    exact hfin

set_option maxRecDepth 20000 in
set_option maxHeartbeats 8000000 in
theorem do19_k0 {w : World} {b X : Nat} {x : RX} {s : Nat} (h : RingX w b X x s) (hB : BndX x) (kd : Int) (hk : kd ≠ 1 ∧ kd ≠ 2 ∧ kd ≠ 3 ∧ kd ≠ 4 ∧ kd ≠ 5 ∧ kd ≠ 6 ∧ kd ≠ 7) (who gr re : Nat) :
    Calls Tryz.prog 19 #[.pointer (some ⟨X, 0, none⟩), .agg #[.int .i64 kd, .int .u32 (who : Int), .int .u32 (gr : Int), .int .u32 (re : Int)]] w fun e w' => e = .returned (.int .i64 1) ∧ Ext w w' := by
  have HK := Lib.hid hk
  clear hk
  obtain ⟨vp, vg, vm, vs, pc, gc, mc, sc, ns, h, hns⟩ := h
  obtain ⟨PP, hPP⟩ := place_ex x.ps who
  obtain ⟨GG, hGG⟩ := place_ex (x.gs.map (·.1)) gr
  obtain ⟨MM, hMM⟩ := place_ex (x.ms.map (·.1)) re
  have HCP := Lib.hid (fun B (hE : Ext w B) => person_place (h.ext hE) hB hPP)
  have HCG := Lib.hid (fun B (hE : Ext w B) => group_place (h.ext hE) hB hGG)
  have HCM := Lib.hid (fun B (hE : Ext w B) => realm_place (h.ext hE) hB hMM)
  have HPP := Lib.hid hPP
  have HGG := Lib.hid hGG
  have HMM := Lib.hid hMM
  have HH := Lib.hid h
  have HB := Lib.hid hB
  clear hPP hGG hMM h hB
  refine calls_cps fun R0 hR => ?_
  have HR := Lib.hid hR
  clear hR
  go_enter Tryz.func19, Tryz.ntmps19
  go_upto_region 1 with fail
  refine wp_laid1 fun W0 eW0 hG0 => ?_
  have aC : Arr W0 w.heap.size 25 [.int .i64 kd, .int .u32 (who : Int), .int .u32 (gr : Int), .int .u32 (re : Int)] := hG0
  have hX0 : ∀ B, Ext W0.drew B → Ext W0 B := fun B hB => ((Keep.refl _ W0).drew).trans hB
  have d1 := fun g : FY.At (fun _ _ => False) W0.drew => (aC.ext (hX0 _ g.ext)).cell (i := 1) rfl
  have d2 := fun g : FY.At (fun _ _ => False) W0.drew => (aC.ext (hX0 _ g.ext)).cell (i := 2) rfl
  have d3 := fun g : FY.At (fun _ _ => False) W0.drew => (aC.ext (hX0 _ g.ext)).cell (i := 3) rfl
  have HCP := Lib.hid (fun B (hE : Ext W0.drew B) => HCP.out B (eW0.trans (hX0 B hE)))
  have HCG := Lib.hid (fun B (hE : Ext W0.drew B) => HCG.out B (eW0.trans (hX0 B hE)))
  have HCM := Lib.hid (fun B (hE : Ext W0.drew B) => HCM.out B (eW0.trans (hX0 B hE)))
  have HE0 := Lib.hid eW0
  have HX0 := Lib.hid hX0
  have HID := Lib.hid (fun B (h : Ext W0.drew B) => h)
  clear hG0 eW0 hX0
  refine FY.wp_flow (X := fun _ _ => False) (0 :: 1 :: 2 :: 3 :: 4 :: 5 :: 6 :: 7 :: 8 :: 9 :: 10 :: 11 :: 12 :: 13 :: 14 :: []) (fun j => if j = 3 then .grows (fun v _ => v = .int .i64 PP) (fun v => v = .int .i64 PP) else if j = 7 then .grows (fun v _ => v = .int .i64 GG) (fun v => v = .int .i64 GG) else if j = 11 then .grows (fun v _ => v = .int .i64 MM) (fun v => v = .int .i64 MM) else .still) (by kernel_rfl) (by kernel_rfl) ?_
  iterate 3 (refine FY.flow_q rfl rfl rfl ?_; go_big_quiet_step (fail); refine wpQuiet_nil ?_)
  refine FY.flow_g rfl rfl rfl (by simp) ⟨_, rfl⟩ (fun _ _ _ h _ => h) (fun _ _ h => h) (fun w5 hE5 _ => ?_) (fun v hv => ?_)
  · have hcall := HCP.out w5 (HID.out w5 hE5)
    go_wp2_with fail
    refine hcall.mono ?_
    rintro e w6 ⟨rfl, rfl⟩
    clear hcall
    go_wp2
    exact Keep.refl _ _
  subst hv
  simp only [Act.put, List.setIfInBounds_toArray, List.set_cons_succ, List.set_cons_zero]
  iterate 3 (refine FY.flow_q rfl rfl rfl ?_; go_big_quiet_step (fail); refine wpQuiet_nil ?_)
  refine FY.flow_g rfl rfl rfl (by simp) ⟨_, rfl⟩ (fun _ _ _ h _ => h) (fun _ _ h => h) (fun w5 hE5 _ => ?_) (fun v hv => ?_)
  · have hcall := HCG.out w5 (HID.out w5 hE5)
    go_wp2_with fail
    refine hcall.mono ?_
    rintro e w6 ⟨rfl, rfl⟩
    clear hcall
    go_wp2
    exact Keep.refl _ _
  subst hv
  simp only [Act.put, List.setIfInBounds_toArray, List.set_cons_succ, List.set_cons_zero]
  iterate 3 (refine FY.flow_q rfl rfl rfl ?_; go_big_quiet_step (fail); refine wpQuiet_nil ?_)
  refine FY.flow_g rfl rfl rfl (by simp) ⟨_, rfl⟩ (fun _ _ _ h _ => h) (fun _ _ h => h) (fun w5 hE5 _ => ?_) (fun v hv => ?_)
  · have hcall := HCM.out w5 (HID.out w5 hE5)
    go_wp2_with fail
    refine hcall.mono ?_
    rintro e w6 ⟨rfl, rfl⟩
    clear hcall
    go_wp2
    exact Keep.refl _ _
  subst hv
  simp only [Act.put, List.setIfInBounds_toArray, List.set_cons_succ, List.set_cons_zero]
  iterate 3 (refine FY.flow_q rfl rfl rfl ?_; go_big_quiet_step (fail); refine wpQuiet_nil ?_)
  clear d1 d2 d3
  refine FY.flow_end (fun w1 hE1 _ => ?_)
  have aC1 := aC.ext (HX0.out w1 hE1)
  have z0 := aC1.cell (i := 0) rfl
  have z1 := aC1.cell (i := 1) rfl
  have z2 := aC1.cell (i := 2) rfl
  have z3 := aC1.cell (i := 3) rfl
  have HE1 := Lib.hid (HE0.out.trans (HX0.out w1 hE1))
  have H1 := Lib.hid (HH.out.ext HE1.out)
  have HC1 := Lib.hid aC1
  clear hE1 aC aC1 HCP HCG HCM HID HX0 HE0
  obtain ⟨q1, q2, q3, q4, q5, q6, q7⟩ := HK.out
  have e1 : (kd == 1) = false := by rw [beq_eq_false_iff_ne]; exact q1
  have e2 : (kd == 2) = false := by rw [beq_eq_false_iff_ne]; exact q2
  have e3 : (kd == 3) = false := by rw [beq_eq_false_iff_ne]; exact q3
  have e4 : (kd == 4) = false := by rw [beq_eq_false_iff_ne]; exact q4
  have e5 : (kd == 5) = false := by rw [beq_eq_false_iff_ne]; exact q5
  have e6 : (kd == 6) = false := by rw [beq_eq_false_iff_ne]; exact q6
  have e7 : (kd == 7) = false := by rw [beq_eq_false_iff_ne]; exact q7
  have hfin := HR.out (.returned (.int .i64 1)) w1 ⟨rfl, HE1.out⟩
  clear HR z1 z2 z3
  go_wp2
  exact hfin
end Go.Proofs.YtcmhgpgookiomaaGreat
