/-
  TopRevoked: the document's ring: rekey: a group's next epoch. the document's ring: renew: a group's next epoch, with boxes of all that it reads. the document's ring: expel: a member goes, keys turn. the document's ring: a struct is appended to one of its rows; add: a realm.
-/
import Derived.Test.YtcmhgpgookiomaaGreatM22
namespace Go.Proofs.YtcmhgpgookiomaaGreat
open Go.RowKit Go.Shelf Go.Maps

attribute [local go_sem] Oper.semAt_some

theorem heads33 {w : World} {a : Option Addr} {c : Nat} {l : List Nat} {cs : List Value} (hr : Row 33 w a l.length c cs) (hs : PSec l cs) : Heads 33 w a l := fun hn => by
  obtain ⟨g, o, rfl, hc⟩ := hr.2.2.2.2 hn
  exact ⟨g, o, rfl, fun i k hi => hc _ _ (hs.has i k hi)⟩

set_option maxRecDepth 20000 in
set_option maxHeartbeats 8000000 in
theorem rekey63_any {w : World} {b X : Nat} {x : RX} {s : Nat} (h : RingX w b X x s) (hB : BndX x) (hT : TightX x) (i n : Nat) (rs : List Nat) (hi : x.gs[i]? = some (n, rs)) :
    Calls Tryz.prog 63 #[.pointer (some ⟨X, 0, none⟩), .int .i64 (i : Int)] w fun e w' => e = .returned (.int .i64 0) ∧ RingX w' b X x s ∧ Keep (TX b [84]) w w' := by
  obtain ⟨vp, vg, vm, vs, pc, gc, mc, sc, ns, h, hns⟩ := h
  have hlm : i < x.gs.length := lt_of_get hi
  obtain ⟨gm, om, cm, rfl, hom⟩ := own_form h.go (by omega)
  obtain ⟨_, _, q, hrm⟩ := owns_row h.go
  cases q
  obtain ⟨ag, cg, rfl, hrg⟩ := owns_row h.po
  have hhg := heads33 hrg h.ps
  obtain ⟨_, _, C, v34, e, q, hCl, hC1, hC0, hCe, hC34, hU, hld⟩ := sec_struct hrm h.gs hi
  cases q
  have HOM := Lib.hid hom
  clear hom
  have hdraw := drawX_any X w (h.cells.cell (i := 0) rfl)
  unfold aggK at hdraw
  obtain ⟨Z, hZ⟩ : ∃ Z, key0.map u8v = Z := ⟨_, rfl⟩
  rw [hZ] at hdraw
  have hZl : Z.length = 32 := by rw [← hZ, List.length_map, key0_len]
  have h1Z : ∀ u ∈ Z, u.oneCell' = true := by rw [← hZ]; exact u8v_one _
  obtain ⟨M, hM⟩ : ∃ M, x.gs.length = M := ⟨_, rfl⟩
  obtain ⟨G, hG⟩ : ∃ G, x.ps.length = G := ⟨_, rfl⟩
  have hmc : M ≤ cm := by have := hrm.1; omega
  have hgc : G ≤ cg := by have := hrg.1; omega
  have hh := h
  rw [hM] at hh hlm
  rw [hG] at hh
  have hiZ := Lib.hid (show (Tryz.prog.info? 51).map (·.size) = some Z.toArray.size by rw [info_key, List.size_toArray, hZl])
  have hiZ2 := Lib.hid (show (Tryz.prog.info? 51).map (·.size) = some Z.length by rw [info_key, hZl])
  have hZs := Lib.hid (show 32 = Z.toArray.size by rw [List.size_toArray, hZl])
  have h1Z' := Lib.hid (all_of h1Z)
  have hiC := Lib.hid (show (Tryz.prog.info? 84).map (·.size) = some C.length by rw [size_group, hCl])
  have hiC2 := Lib.hid (show (Tryz.prog.info? 84).map (·.size) = some C.toArray.size by rw [size_group, List.size_toArray, hCl])
  have hCs := Lib.hid (show 35 = C.toArray.size by rw [List.size_toArray, hCl])
  have h1C := Lib.hid (all_of hC1)
  have HCF := Lib.hid (And.intro hCl (And.intro hC1 (And.intro hC0 (And.intro hCe (And.intro hC34 hU)))))
  have HZF := Lib.hid (And.intro hZl h1Z)
  have HLD := Lib.hid hld
  have HH := Lib.hid hh
  have HI := Lib.hid hi
  have HB := Lib.hid hB
  have HT := Lib.hid hT
  have HM := Lib.hid hM
  have HG := Lib.hid hG
  have HRG := Lib.hid hrg
  have HHG := Lib.hid hhg
  have c3 := hh.cells.cell (i := 2) rfl
  clear hZ hZl h1Z hCl hC1 hC0 hCe hC34 hU hld hh h hi hB hT hM hG hrg hhg hrm
  refine calls_cps fun R0 hR => ?_
  have HR := Lib.hid hR
  clear hR
  go_enter Tryz.func63, Tryz.ntmps63
  go_wp2_with fail
  refine hdraw.mono ?_
  rintro e1 w1 ⟨rfl, e1⟩
  clear hdraw
  have HE1 := Lib.hid e1
  have c3' := Ext.cell e1 c3
  have hlk := HLD.out
  clear c3 e1
  go_wp2_with (first
    | (refine wpList_skip0 (o := ⟨none, .store _ _ _, _, _, _, _⟩) (w' := w1.alloc (.cells Z.toArray 51)) ?_ ?_ ?_ ?_; exact exec_store_new rfl rfl rfl hiZ.out hZs.out h1Z'.out; rfl; rfl; refine wpList_laid1 fun W eW hG => ?_; have c3 := Ext.cell eW c3')
    | (refine wpList_val (o := ⟨some 25, _, _, _, _, _⟩) (v := .agg C.toArray) ?_ ?_ ?_; exact exec_load_mid' rfl rfl (HLD.out _ (HE1.out.trans eW)) Tryz.underlying84 rfl hiC.out; rfl)
    | (refine wpList_skip0 (o := ⟨none, .store _ _ _, _, _, _, _⟩) (w' := W.alloc (.cells C.toArray 84)) ?_ ?_ ?_ ?_; exact exec_store_new rfl rfl rfl hiC2.out hCs.out h1C.out; rfl; rfl; refine wpList_laid1 fun W2 eW2 hG2 => ?_)
    | fail)
  have eW03 : Ext w W2 := (HE1.out.trans eW).trans eW2
  have aZ : Arr W2 w1.heap.size 51 Z := Arr.ext hG eW2
  have aM : Arr W2 W.heap.size 84 C := hG2
  have hp5l : w.heap.size ≤ w1.heap.size := HE1.out.size
  have hp7 : w.heap.size ≤ W.heap.size := by have := HE1.out.size; have := eW.size; omega
  have h57 : w1.heap.size ≠ W.heap.size := by have := Keep.lt hG; omega
  obtain ⟨p5, hp5⟩ : ∃ p, w1.heap.size = p := ⟨_, rfl⟩
  obtain ⟨p7, hp7'⟩ : ∃ p, W.heap.size = p := ⟨_, rfl⟩
  rw [hp5] at aZ h57 hp5l
  rw [hp7'] at aM hp7 h57
  rw [hp5, hp7']
  have HE03 := Lib.hid eW03
  clear c3 c3' hlk hG hG2 eW eW2 eW03 hp5 hp7'
  obtain ⟨e', he'⟩ : ∃ e' : Nat, (e + 1) % 4294967296 = e' := ⟨_, rfl⟩
  have d1 : ∀ g : FY.At (fun _ _ => False) W2.drew, g.w.cell? ⟨p7, 1, none⟩ = some (.int .u32 (e : Int)) := fun g => (aM.ext (((Keep.refl _ W2).drew).trans g.ext)).cell HCF.out.2.2.2.1
  refine FY.wp_flow (X := fun k _ => k = p7) (0 :: 1 :: 2 :: 3 :: 4 :: 5 :: 6 :: 7 :: []) (fun j => if j = 5 ∨ j = 7 then .bar else if j = 1 then .reads else .still) (by kernel_rfl) (by kernel_rfl) ?_
  iterate 1 (refine FY.flow_q rfl rfl rfl ?_; go_big_quiet_step (fail); refine wpQuiet_nil ?_)
  refine FY.flow_r rfl rfl rfl ?_; go_big_quiet_step (fail); refine wpQuiet_nil ?_
  iterate 1 (refine FY.flow_q rfl rfl rfl ?_; go_big_quiet_step (fail); refine wpQuiet_nil ?_)
  refine FY.flow_vq (v := .agg Z.toArray) rfl rfl rfl (fun w' hE => exec_load_row rfl rfl (aZ.keep (((Keep.refl _ W2).drew).trans hE) h57) Tryz.underlying51 rfl hiZ.out) ?_
  simp only [Act.put, List.setIfInBounds_toArray, List.set_cons_succ, List.set_cons_zero]
  iterate 1 (refine FY.flow_q rfl rfl rfl ?_; go_big_quiet_step (fail); refine wpQuiet_nil ?_)
  clear d1
  have hee : ((e : Int) + 1) % 4294967296 = (e' : Int) := by omega
  rw [hee]
  clear hee he'
  refine FY.flow_ba rfl rfl rfl (by kernel_rfl) (fun w5 hE5 _ => ?_)
  have hX5 : Ext W2 w5 := ((Keep.refl _ W2).drew).trans hE5
  have aM5 := aM.ext hX5
  have c71 := aM5.cell HCF.out.2.2.2.1
  have f71 := aM5.frozen 1
  have aM6 := aM5.set 1 (.int .u32 (e' : Int))
  obtain ⟨w6, hw6⟩ : ∃ w6, w5.setCell ⟨p7, 1, none⟩ (.int .u32 (e' : Int)) = w6 := ⟨_, rfl⟩
  have k56 : Keep (fun k _ => k = p7) w5 w6 := by rw [← hw6]; exact keep_setCell w5 p7 1 _
  rw [hw6] at aM6
  have HW6 := Lib.hid hw6
  have HK56 := Lib.hid k56
  have HX5 := Lib.hid hX5
  clear hw6 k56 hX5 hE5 aM5 aM
  go_wp2
  rw [HW6.out]
  refine ⟨HK56.out, ?_⟩
  clear c71 f71
  iterate 1 (refine FY.flow_q rfl rfl rfl ?_; go_big_quiet_step (fail); refine wpQuiet_nil ?_)
  refine FY.flow_ba rfl rfl rfl (by kernel_rfl) (fun w7 hE7 _ => ?_)
  have aM7 := aM6.ext hE7
  have hst7 := arr_over (P := Tryz.prog) (off := 2) (C := Z) (ty := 51) aM7 hiZ2.out (by have := HCF.out.1; have := HZF.out.1; simp; omega) HZF.out.2
  have aM8 := aM7.setRow (over (C.set 1 (.int .u32 (e' : Int))) 2 Z)
  have k78 := keep_setRow w7 p7 (over (C.set 1 (.int .u32 (e' : Int))) 2 Z).toArray
  obtain ⟨w8, hw8⟩ : ∃ w8, w7.setRow p7 (over (C.set 1 (.int .u32 (e' : Int))) 2 Z).toArray = w8 := ⟨_, rfl⟩
  rw [hw8] at hst7 aM8 k78
  obtain ⟨D, hD⟩ : ∃ D, over (C.set 1 (.int .u32 (e' : Int))) 2 Z = D := ⟨_, rfl⟩
  rw [hD] at aM8
  have HST7 := Lib.hid hst7
  have HK78 := Lib.hid k78
  clear hst7 hw8 k78 aM7
  go_wp2_with (first
    | (refine wpList_skip0 (o := ⟨none, .store _ _ _, _, _, _, _⟩) (w' := w8) ?_ ?_ ?_ ?_; exact exec_store_of rfl rfl rfl HST7.out; rfl; rfl)
    | fail)
  refine ⟨HK78.out, ?_⟩
  refine FY.flow_end (fun w9 hE9 _ => ?_)
  have hfit : 2 + Z.length ≤ (C.set 1 (.int .u32 (e' : Int))).length := by have := HCF.out.1; have := HZF.out.1; simp; omega
  have hDl : D.length = 35 := by rw [← hD, over_length hfit]; simp [HCF.out.1]
  have hDo : ∀ u ∈ D, u.oneCell' = true := by
    rw [← hD]
    refine over_one (fun u hu => ?_) HZF.out.2
    rcases List.mem_or_eq_of_mem_set hu with q | rfl
    · exact HCF.out.2.1 u q
    · rfl
  have hD0 : D[0]? = some (u32n n) := by
    rw [← hD, over_get hfit, if_pos (by omega), List.getElem?_set_ne (by omega)]
    exact HCF.out.2.2.1
  have hD1 : D[1]? = some (u32n e') := by
    rw [← hD, over_get hfit, if_pos (by omega), List.getElem?_set_self (by have := HCF.out.1; omega)]
    rfl
  have hD34 : D[34]? = some v34 := by
    rw [← hD, over_get hfit, if_neg (by omega), if_neg (by have := HZF.out.1; omega), List.getElem?_set_ne (by omega)]
    exact HCF.out.2.2.2.2.1
  have aM9 := aM8.ext hE9
  have hEw9 : Ext w w9 := ((((Keep.of_ext (X := fun k _ => k = p7) (HE03.out.trans HX5.out)).trans HK56.out).trans (Keep.of_ext hE7)).trans (HK78.out.trans (Keep.of_ext hE9))).mono (fun k o ho hx => by have := Keep.lt ho; omega)
  have HDF := Lib.hid (And.intro hDl (And.intro hDo (And.intro hD0 (And.intro hD1 hD34))))
  have HEW9 := Lib.hid hEw9
  clear HK78 HST7 HK56 HW6 HX5 aM8 aM6 aZ hE7 hE9 hDl hDo hD0 hD1 hD34 hD hfit hEw9 h57
  have d3 := fun g : FY.At (fun _ _ => False) w9.drew => (HH.out.ext (HEW9.out.trans (((Keep.refl _ w9).drew).trans g.ext))).cells.cell (i := 2) rfl
  have hiD := Lib.hid (show (Tryz.prog.info? 84).map (·.size) = some D.toArray.size by rw [size_group, List.size_toArray, HDF.out.1])
  go_wp2
  refine FY.wp_flow (X := fun _ _ => False) (0 :: 1 :: 2 :: 3 :: 4 :: 5 :: 6 :: 7 :: []) (fun j => if j = 7 then .last else .still) (by kernel_rfl) (by kernel_rfl) ?_
  iterate 5 (refine FY.flow_q rfl rfl rfl ?_; go_big_quiet_step (fail); refine wpQuiet_nil ?_)
  refine FY.flow_vq (v := .agg D.toArray) rfl rfl rfl (fun w' hE => exec_load_row rfl rfl (aM9.ext (((Keep.refl _ w9).drew).trans hE)) Tryz.underlying84 rfl hiD.out) ?_
  simp only [Act.put, List.setIfInBounds_toArray, List.set_cons_succ, List.set_cons_zero]
  iterate 1 (refine FY.flow_q rfl rfl rfl ?_; go_big_quiet_step (fail); refine wpQuiet_nil ?_)
  clear d3
  refine FY.flow_l rfl rfl (by kernel_rfl) (fun w10 hE10 _ => ?_)
  have e910 : Ext w9 w10 := ((Keep.refl _ w9).drew).trans hE10
  have h10 := HH.out.ext (HEW9.out.trans e910)
  have hmo10 : w10.ownsRow b 84 35 (.slice (some ⟨gm, om, none⟩) M cm) M gc := by have := h10.go; rw [HM.out] at this; exact this
  obtain ⟨w11, hst11, hown11, hk11, hkg11⟩ := own_over' (P := Tryz.prog) (off := i * 35) (C := D) (ty := 84) HOM.out hmo10 (by rw [size_group, HDF.out.1]) (by have := HDF.out.1; omega) HDF.out.2.1
  have hgm : gm < w.heap.size := (HH.out.go.lt gm rfl).2
  have h11 := h10.putG (gs' := x.gs) (hk11.mono (fun _ _ _ hx => hx.mono (by decide))) (h10.cells.keep hk11 (TX.no (by decide))) (by rw [HM.out]; exact hown11) ((h10.gs.keep hk11 (fun _ _ => TX.no (by decide))).anew HI.out HDF.out.1 HDF.out.2.1 HDF.out.2.2.1 HDF.out.2.2.2.1 HDF.out.2.2.2.2 ((HCF.out.2.2.2.2.2.ext (HEW9.out.trans e910)).keep hk11 (fun _ _ => TX.no (by decide))))
  have aM11 : Arr w11 p7 84 D := (aM9.ext e910).keep hkg11 (by omega)
  have k011 : Keep (TX b [84]) w w11 := (Keep.of_ext (HEW9.out.trans e910)).trans hk11
  have HST11 := Lib.hid hst11
  have H11 := Lib.hid h11
  have HK011 := Lib.hid k011
  have HAM := Lib.hid aM11
  have HU11 := Lib.hid ((HCF.out.2.2.2.2.2.ext (HEW9.out.trans e910)).keep hk11 (fun _ _ => TX.no (by decide)))
  clear hst11 h11 k011 hown11 hk11 hkg11 hmo10 h10 e910 hE10 aM11 aM9 hgm
  have hu12 := HU11.out
  obtain ⟨ar, cr, hv34, hrow, _⟩ := hu12
  obtain ⟨N, hN⟩ : ∃ N, rs.length = N := ⟨_, rfl⟩
  have hN1 : N ≤ 1000 := by rw [← hN]; exact HB.out.gm _ (List.mem_of_getElem? HI.out)
  rw [hN] at hv34 hrow
  have c734 : w11.cell? ⟨p7, 34, none⟩ = some (.slice ar N cr) := by rw [← hv34]; exact HAM.out.cell HDF.out.2.2.2.2
  have HROW := Lib.hid hrow
  have HN := Lib.hid hN
  have HSG := Lib.hid (HH.out.ps)
  clear hrow hN HU11 hv34
  go_wp2_with (first
    | (refine wpList_skip0 (o := ⟨none, .store _ _ _, _, _, _, _⟩) (w' := w11) ?_ ?_ ?_ ?_; exact exec_store_of rfl rfl rfl HST11.out; rfl; rfl)
    | fail)
  clear c734
  go_loopw [42] (fun ix wr => ∃ k : Nat, k ≤ N ∧ ix = .int .i64 (k : Int) ∧ Hid (Ext w11 wr)) (fun ix _ => N - (vI ix).toNat)
  case atStart => exact ⟨0, by omega, rfl, Lib.hid (Keep.refl _ _)⟩
  case round =>
    obtain ⟨k, hk, rfl, HE⟩ := hrel
    by_cases hlt : k < N
    · obtain ⟨g, hg⟩ : ∃ g, rs[k]? = some g := ⟨_, List.getElem?_eq_getElem (by have := HN.out; omega)⟩
      obtain ⟨br, orr, rfl, hcell⟩ := HROW.out.2.2.2.2 (by omega)
      have ck := Ext.cell HE.out (hcell k (.int .u32 (g : Int)) (by rw [List.getElem?_map, hg]; rfl))
      have hgin : g ∈ x.ps := HT.out.g _ (List.mem_of_getElem? HI.out) g (List.mem_of_getElem? hg)
      have hwr := H11.out.ext HE.out
      obtain ⟨_, _, q, hrgr⟩ := owns_row hwr.po
      have hrgr' : Row 33 wr ag x.ps.length cg pc := by cases q; rw [HG.out]; rw [HG.out] at hrgr; exact hrgr
      have hhr := heads33 hrgr' hwr.ps
      have c2 := hwr.cells.cell (i := 1) rfl
      obtain ⟨jx, hjx, hnj⟩ := first_at hgin
      have hjG : jx < G := by have := lt_of_get hjx; have := HG.out; omega
      obtain ⟨g2, o2, C2, rfl, h2l, h21, h20, h2ld⟩ := sec_person hrgr' hwr.ps hjx
      have hcg := fun B (hB : Ext wr B) => personX_any X (some ⟨g2, o2, none⟩) cg x.ps g B (by have := HB.out.p; omega) (by rw [HG.out]; exact Ext.cell hB c2) (fun hn => by
        obtain ⟨b1, o1, q1, hc1⟩ := hhr hn
        exact ⟨b1, o1, q1, fun i k hi => Ext.cell hB (hc1 i k hi)⟩)
      have hcg' : ∀ B, Ext wr B → Calls Tryz.prog 37 #[.pointer (some ⟨X, 0, none⟩), .int .u32 (g : Int)] B fun e w' => e = .returned (.int .i64 (jx : Int)) ∧ w' = B := fun B hB => (hcg B hB).mono (fun e w' h => by
        obtain ⟨⟨r, rfl, h⟩, rfl⟩ := h
        rcases h with ⟨i2, h2, rfl, h3⟩ | ⟨h2, _⟩
        · rw [first_unique h2 h3 hjx hnj]; exact ⟨rfl, rfl⟩
        · exact absurd hgin h2)
      have hrd := fun B (hB : Ext wr B) => memberX_any X B (Ext.cell hB (hwr.cells.cell (i := 0) rfl)) D C2 n e' g HDF.out.1 h2l HDF.out.2.2.1 HDF.out.2.2.2.1 h20
      have d2 := fun g : FY.At (fun _ _ => False) wr.drew => (hwr.ext (((Keep.refl _ wr).drew).trans g.ext)).cells.cell (i := 1) rfl
      have aMr := HAM.out.ext HE.out
      have hi2 := Lib.hid (show (Tryz.prog.info? 111).map (·.size) = some C2.length by rw [size_person, h2l])
      have HCG := Lib.hid hcg'
      have HRD := Lib.hid hrd
      have HLD2 := Lib.hid h2ld
      have hX : ∀ B, Ext wr.drew B → Ext wr B := fun B hB => ((Keep.refl _ wr).drew).trans hB
      have HX := Lib.hid hX
      clear hcg hcg' hrd h2l h21 h20 h2ld hjx hnj hgin hg hcell hrgr hrgr' q hhr hwr c2 hX
      go_wp2
      clear ck
      refine FY.wp_flow (X := fun _ _ => False) (0 :: 1 :: 2 :: 3 :: 4 :: 5 :: 6 :: 7 :: 8 :: 9 :: 10 :: 11 :: 12 :: []) (fun j => if j = 8 then .grows (fun v _ => v = .int .i64 (jx : Int)) (fun v => v = .int .i64 (jx : Int)) else if j = 11 then .grows (fun v _ => v = .int .i64 0) (fun v => v = .int .i64 0) else .still) (by kernel_rfl) (by kernel_rfl) ?_
      iterate 1 (refine FY.flow_q rfl rfl rfl ?_; go_big_quiet_step (fail); refine wpQuiet_nil ?_)
      refine FY.flow_vq (v := .agg D.toArray) rfl rfl rfl (fun w' hE => exec_load_row rfl rfl (aMr.ext (HX.out w' hE)) Tryz.underlying84 rfl hiD.out) ?_
      simp only [Act.put, List.setIfInBounds_toArray, List.set_cons_succ, List.set_cons_zero]
      iterate 6 (refine FY.flow_q rfl rfl rfl ?_; go_big_quiet_step (fail); refine wpQuiet_nil ?_)
      clear d2
      refine FY.flow_g rfl rfl rfl (by simp) ⟨_, rfl⟩ (fun _ _ _ h _ => h) (fun _ _ h => h) (fun w5 hE5 _ => ?_) (fun v hv => ?_)
      · have hcall := HCG.out w5 (HX.out w5 hE5)
        go_wp2_with fail
        refine hcall.mono ?_
        rintro e w6 ⟨rfl, rfl⟩
        clear hcall
        go_wp2
        exact Keep.refl _ _
      subst hv
      simp only [Act.put, List.setIfInBounds_toArray, List.set_cons_succ, List.set_cons_zero]
      iterate 1 (refine FY.flow_q rfl rfl rfl ?_; go_big_quiet_step (fail); refine wpQuiet_nil ?_)
      refine FY.flow_vq (v := .agg C2.toArray) rfl rfl rfl (fun w' hE => exec_load_mid' rfl rfl (HLD2.out w' (HX.out w' hE)) Tryz.underlying111 rfl hi2.out) ?_
      simp only [Act.put, List.setIfInBounds_toArray, List.set_cons_succ, List.set_cons_zero]
      refine FY.flow_g rfl rfl rfl (by simp) ⟨_, rfl⟩ (fun _ _ _ h _ => h) (fun _ _ h => h) (fun w5 hE5 _ => ?_) (fun v hv => ?_)
      · have hcall := HRD.out w5 (HX.out w5 hE5)
        go_wp2_with fail
        refine hcall.mono ?_
        rintro e w6 ⟨rfl, e6⟩
        clear hcall
        go_wp2
      subst hv
      simp only [Act.put, List.setIfInBounds_toArray, List.set_cons_succ, List.set_cons_zero]
      iterate 1 (refine FY.flow_q rfl rfl rfl ?_; go_big_quiet_step (fail); refine wpQuiet_nil ?_)
      refine FY.flow_end (fun w5 hE5 _ => ?_)
      have HE5 := Lib.hid (HE.out.trans (HX.out w5 hE5))
      clear hE5 aMr
      go_wp2
      go_roundw
      case rel => exact ⟨k + 1, by omega, by go_num, HE5⟩
      case measure => simp [vI]; omega
    · obtain rfl : k = N := by omega
      have hfin := HR.out (.returned (.int .i64 0)) wr ⟨rfl, ⟨_, _, _, _, _, _, _, _, _, H11.out.ext HE.out, hns⟩, HK011.out.trans (Keep.of_ext HE.out)⟩
      clear HR
      go_wp2
      exact hfin
end Go.Proofs.YtcmhgpgookiomaaGreat
namespace Go.Proofs.YtcmhgpgookiomaaGreat
open Go.RowKit Go.Shelf Go.Maps

attribute [local go_sem] Oper.semAt_some

/-- Where a realm (group, person) stands: its place is known. -/
theorem realmAt_any {w : World} {b X : Nat} {x : RX} {vp vg vm vs : Value} {pc gc mc sc : List Value} {ns : Nat} (h : RIn w b X x vp vg vm vs pc gc mc sc ns) (hB : BndX x) {n j : Nat} (hj : (x.ms.map (·.1))[j]? = some n) (hnj : n ∉ (x.ms.map (·.1)).take j) :
    Calls Tryz.prog 21 #[.pointer (some ⟨X, 0, none⟩), .int .u32 (n : Int)] w fun e w' => e = .returned (.int .i64 (j : Int)) ∧ w' = w := by
  obtain ⟨am, cm, rfl, hrm⟩ := owns_row h.mo
  have c3 := h.cells.cell (i := 3) rfl
  refine (realmX_any X am cm (x.ms.map (·.1)) n w (by have := hB.m; simp; omega) (by simpa using c3) (heads_of hrm h.ms)).mono (fun e w' q => ?_)
  obtain ⟨⟨r, rfl, q⟩, rfl⟩ := q
  rcases q with ⟨i2, h2, rfl, h3⟩ | ⟨h2, _⟩
  · rw [first_unique h2 h3 hj hnj]; exact ⟨rfl, rfl⟩
  · exact absurd (List.mem_of_getElem? hj) h2

set_option maxRecDepth 20000 in
set_option maxHeartbeats 8000000 in
theorem renew44_any {w : World} {b X : Nat} {x : RX} {s : Nat} (h : RingX w b X x s) (hB : BndX x) (hT : TightX x) (i n0 : Nat) (ms0 : List Nat) (hi : x.gs[i]? = some (n0, ms0)) :
    Calls Tryz.prog 44 #[.pointer (some ⟨X, 0, none⟩), .int .i64 (i : Int)] w fun e w' => e = .returned (.int .i64 0) ∧ RingX w' b X x s ∧ Keep (TX b [84]) w w' := by
  have hrk := rekey63_any h hB hT i n0 ms0 hi
  have HI := Lib.hid hi
  have HB := Lib.hid hB
  clear hi hB h hT
  refine calls_cps fun R0 hR => ?_
  have HR := Lib.hid hR
  clear hR
  go_enter Tryz.func44, Tryz.ntmps44
  go_wp2_with fail
  refine hrk.mono ?_
  rintro e1 w1 ⟨rfl, h1, k1⟩
  clear hrk
  have hrd := reads64_any h1 HB.out i n0 ms0 HI.out
  have HK1 := Lib.hid k1
  have H1 := Lib.hid h1
  clear h1 k1
  go_wp2_with fail
  refine hrd.mono ?_
  rintro e2 w2 ⟨⟨v, l, rfl, hu, hin, hl⟩, e12⟩
  clear hrd
  obtain ⟨vp, vg, vm, vs, pc, gc, mc, sc, ns, h2, hns⟩ := H1.out
  replace h2 := h2.ext e12
  obtain ⟨al, cl, rfl, hrow, _⟩ := hu
  obtain ⟨N, hN⟩ : ∃ N, l.length = N := ⟨_, rfl⟩
  rw [hN] at hl hrow ⊢
  have HK2 := Lib.hid (HK1.out.trans (Keep.of_ext e12))
  have HROW := Lib.hid hrow
  have HN := Lib.hid hN
  have HIN := Lib.hid hin
  have H2 := Lib.hid h2
  clear hrow hN hin h2 e12 HK1 H1
  go_wp2
  go_loopw [19] (fun ix wr => ∃ k : Nat, k ≤ N ∧ ix = .int .i64 (k : Int) ∧ Hid (Ext w2 wr)) (fun ix _ => N - (vI ix).toNat)
  case atStart => exact ⟨0, by omega, rfl, Lib.hid (Keep.refl _ _)⟩
  case round =>
    obtain ⟨k, hk, rfl, HE⟩ := hrel
    by_cases hlt : k < N
    · obtain ⟨n, hn⟩ : ∃ n, l[k]? = some n := ⟨_, List.getElem?_eq_getElem (by have := HN.out; omega)⟩
      obtain ⟨br, orr, rfl, hcell⟩ := HROW.out.2.2.2.2 (by omega)
      have ck := Ext.cell HE.out (hcell k (.int .u32 (n : Int)) (by rw [List.getElem?_map, hn]; rfl))
      have hnin : n ∈ x.ms.map (·.1) := HIN.out n (List.mem_of_getElem? hn)
      have hwr := H2.out.ext HE.out
      obtain ⟨am, cm, rfl, hrm⟩ := owns_row hwr.mo
      obtain ⟨ag, cg, rfl, hrg⟩ := owns_row hwr.go
      obtain ⟨jx, hjx, hnj⟩ := first_at hnin
      obtain ⟨rs, hrs⟩ := at_of_map hjx
      have hjM : jx < x.ms.length := lt_of_get hrs
      have hiG : i < x.gs.length := lt_of_get HI.out
      have hmc : x.ms.length ≤ cm := hrm.1
      have hgc : x.gs.length ≤ cg := hrg.1
      obtain ⟨g1, o1, C1, v1, ep1, rfl, h1l, h11, h10, h1e, _, _, h1ld⟩ := sec_struct hrm hwr.ms hrs
      obtain ⟨g2, o2, C2, v2, ep2, rfl, h2l, h21, h20, h2e, _, _, h2ld⟩ := sec_struct hrg hwr.gs HI.out
      have hX : ∀ B, Ext wr.drew B → Ext wr B := fun B hB => ((Keep.refl _ wr).drew).trans hB
      have hcm := fun B (hB : Ext wr B) => realmAt_any (hwr.ext hB) HB.out hjx hnj
      have hrd := fun B (hB : Ext wr B) => readerX_any X B (Ext.cell hB (hwr.cells.cell (i := 0) rfl)) C1 C2 n ep1 n0 ep2 h1l h2l h10 h1e h20 h2e
      obtain ⟨M, hM⟩ : ∃ M, x.ms.length = M := ⟨_, rfl⟩
      obtain ⟨G, hG⟩ : ∃ G, x.gs.length = G := ⟨_, rfl⟩
      have hcl := hwr.cells
      rw [hM] at hcl hjM hmc
      rw [hG] at hcl hiG hgc
      have d2 := fun g : FY.At (fun _ _ => False) wr.drew => (hcl.ext (hX _ g.ext)).cell (i := 2) rfl
      have d3 := fun g : FY.At (fun _ _ => False) wr.drew => (hcl.ext (hX _ g.ext)).cell (i := 3) rfl
      have hi1 := Lib.hid (show (Tryz.prog.info? 81).map (·.size) = some C1.length by rw [size_realm, h1l])
      have hi2 := Lib.hid (show (Tryz.prog.info? 84).map (·.size) = some C2.length by rw [size_group, h2l])
      have HCM := Lib.hid hcm
      have HRD := Lib.hid hrd
      have HLD1 := Lib.hid h1ld
      have HLD2 := Lib.hid h2ld
      have HX := Lib.hid hX
      clear hcm hrd h1l h11 h10 h1e h1ld h2l h21 h20 h2e h2ld hrs hjx hnj hnin hn hcell hrm hrg hwr hX hM hG hcl
      go_wp2
      clear ck
      refine FY.wp_flow (X := fun _ _ => False) (0 :: 1 :: 2 :: 3 :: 4 :: 5 :: 6 :: 7 :: 8 :: 9 :: 10 :: 11 :: 12 :: 13 :: 14 :: 15 :: 16 :: 17 :: 18 :: []) (fun j => if j = 7 then .grows (fun v _ => v = .int .i64 (jx : Int)) (fun v => v = .int .i64 (jx : Int)) else if j = 17 then .grows (fun v _ => v = .int .i64 0) (fun v => v = .int .i64 0) else .still) (by kernel_rfl) (by kernel_rfl) ?_
      iterate 7 (refine FY.flow_q rfl rfl rfl ?_; go_big_quiet_step (fail); refine wpQuiet_nil ?_)
      refine FY.flow_g rfl rfl rfl (by simp) ⟨_, rfl⟩ (fun _ _ _ h _ => h) (fun _ _ h => h) (fun w5 hE5 _ => ?_) (fun v hv => ?_)
      · have hcall := HCM.out w5 (HX.out w5 hE5)
        clear d2 d3
        go_wp2_with fail
        refine hcall.mono ?_
        rintro e w6 ⟨rfl, rfl⟩
        clear hcall
        go_wp2
        exact Keep.refl _ _
      subst hv
      simp only [Act.put, List.setIfInBounds_toArray, List.set_cons_succ, List.set_cons_zero]
      iterate 1 (refine FY.flow_q rfl rfl rfl ?_; go_big_quiet_step (fail); refine wpQuiet_nil ?_)
      refine FY.flow_vq (v := .agg C1.toArray) rfl rfl rfl (fun w' hE => exec_load_mid' rfl rfl (HLD1.out w' (HX.out w' hE)) Tryz.underlying81 rfl hi1.out) ?_
      simp only [Act.put, List.setIfInBounds_toArray, List.set_cons_succ, List.set_cons_zero]
      iterate 6 (refine FY.flow_q rfl rfl rfl ?_; go_big_quiet_step (fail); refine wpQuiet_nil ?_)
      refine FY.flow_vq (v := .agg C2.toArray) rfl rfl rfl (fun w' hE => exec_load_mid' rfl rfl (HLD2.out w' (HX.out w' hE)) Tryz.underlying84 rfl hi2.out) ?_
      simp only [Act.put, List.setIfInBounds_toArray, List.set_cons_succ, List.set_cons_zero]
      clear d2 d3
      refine FY.flow_g rfl rfl rfl (by simp) ⟨_, rfl⟩ (fun _ _ _ h _ => h) (fun _ _ h => h) (fun w5 hE5 _ => ?_) (fun v hv => ?_)
      · have hcall := HRD.out w5 (HX.out w5 hE5)
        go_wp2_with fail
        refine hcall.mono ?_
        rintro e w6 ⟨rfl, e6⟩
        clear hcall
        go_wp2
      subst hv
      simp only [Act.put, List.setIfInBounds_toArray, List.set_cons_succ, List.set_cons_zero]
      iterate 1 (refine FY.flow_q rfl rfl rfl ?_; go_big_quiet_step (fail); refine wpQuiet_nil ?_)
      refine FY.flow_end (fun w5 hE5 _ => ?_)
      have HE5 := Lib.hid (HE.out.trans (HX.out w5 hE5))
      clear hE5
      go_wp2
      go_roundw
      case rel => exact ⟨k + 1, by omega, by go_num, HE5⟩
      case measure => simp [vI]; omega
    · obtain rfl : k = N := by omega
      have hfin := HR.out (.returned (.int .i64 0)) wr ⟨rfl, ⟨_, _, _, _, _, _, _, _, _, H2.out.ext HE.out, hns⟩, HK2.out.trans (Keep.of_ext HE.out)⟩
      clear HR
      go_wp2
      exact hfin
end Go.Proofs.YtcmhgpgookiomaaGreat
namespace Go.Proofs.YtcmhgpgookiomaaGreat
open Go.RowKit Go.Shelf Go.Maps

attribute [local go_sem] Oper.semAt_some

/-- A group's members are stored anew. -/
theorem RIn.setG {w : World} {b X : Nat} {x : RX} {vp vm vs v : Value} {pc gc mc sc : List Value} {ns g o n c i k : Nat} {ms ms' : List Nat} (h : RIn w b X x vp (.slice (some ⟨g, o, none⟩) n c) vm vs pc gc mc sc ns) (ho : o = 0) (hi : x.gs[i]? = some (k, ms)) (hu : URow w v ms') :
    RIn (w.setCell ⟨g, o + i * 35 + 34, none⟩ v) b X { x with gs := x.gs.set i (k, ms') } vp (.slice (some ⟨g, o, none⟩) n c) vm vs pc (gc.set (i * 35 + 34) v) mc sc ns ∧ Keep (TX b [84]) w (w.setCell ⟨g, o + i * 35 + 34, none⟩ v) ∧
      w.frozen? ⟨g, o + i * 35 + 34, none⟩ = false ∧ ∃ old, w.cell? ⟨g, o + i * 35 + 34, none⟩ = some old := by
  obtain ⟨a1, c1, q, hr⟩ := owns_row h.go
  have hn : n = x.gs.length := by cases q; rfl
  subst hn
  obtain ⟨_, _, old, q2, hc, _, _⟩ := sec_members hr h.gs hi
  rw [q2] at q
  cases q
  have hset := own_set' (j := i * 35 + 34) (u := v) ho h.go
  rw [← Nat.add_assoc] at hset
  obtain ⟨hs1, hs2⟩ := hset
  refine ⟨h.putG (hs2.mono (fun _ _ _ hx => hx.mono (by decide))) (h.cells.keep hs2 (TX.no (by decide))) (by rw [List.length_set]; exact hs1) ((h.gs.keep hs2 (fun _ _ => TX.no (by decide))).members hi (hu.keep hs2 (fun _ _ => TX.no (by decide)))), hs2, own_frozen h.go _, old, hc⟩
theorem RIn.setM {w : World} {b X : Nat} {x : RX} {vp vg vs v : Value} {pc gc mc sc : List Value} {ns g o n c i k : Nat} {ms ms' : List Nat} (h : RIn w b X x vp vg (.slice (some ⟨g, o, none⟩) n c) vs pc gc mc sc ns) (ho : o = 0) (hi : x.ms[i]? = some (k, ms)) (hu : URow w v ms') :
    RIn (w.setCell ⟨g, o + i * 35 + 34, none⟩ v) b X { x with ms := x.ms.set i (k, ms') } vp vg (.slice (some ⟨g, o, none⟩) n c) vs pc gc (mc.set (i * 35 + 34) v) sc ns ∧ Keep (TX b [81]) w (w.setCell ⟨g, o + i * 35 + 34, none⟩ v) ∧
      w.frozen? ⟨g, o + i * 35 + 34, none⟩ = false ∧ ∃ old, w.cell? ⟨g, o + i * 35 + 34, none⟩ = some old := by
  obtain ⟨a1, c1, q, hr⟩ := owns_row h.mo
  have hn : n = x.ms.length := by cases q; rfl
  subst hn
  obtain ⟨_, _, old, q2, hc, _, _⟩ := sec_members hr h.ms hi
  rw [q2] at q
  cases q
  have hset := own_set' (j := i * 35 + 34) (u := v) ho h.mo
  rw [← Nat.add_assoc] at hset
  obtain ⟨hs1, hs2⟩ := hset
  refine ⟨h.putM (hs2.mono (fun _ _ _ hx => hx.mono (by decide))) (h.cells.keep hs2 (TX.no (by decide))) (by rw [List.length_set]; exact hs1) ((h.ms.keep hs2 (fun _ _ => TX.no (by decide))).members hi (hu.keep hs2 (fun _ _ => TX.no (by decide)))), hs2, own_frozen h.mo _, old, hc⟩
theorem map_set_key {l : List (Nat × List Nat)} {i k : Nat} {ms ms' : List Nat} (hi : l[i]? = some (k, ms)) : (l.set i (k, ms')).map (·.1) = l.map (·.1) := by
  apply List.ext_getElem?
  intro j
  rw [List.getElem?_map, List.getElem?_map, List.getElem?_set]
  split
  · rename_i e
    subst e
    rw [if_pos (lt_of_get hi), hi]; rfl
  · rfl
theorem BndX.setG {x : RX} (h : BndX x) {i k : Nat} {ms' : List Nat} (hl : ms'.length ≤ 1000) : BndX { x with gs := x.gs.set i (k, ms') } :=
  ⟨h.p, by simpa using h.g, h.m, fun q hq => by
    rcases List.mem_or_eq_of_mem_set hq with q1 | rfl
    · exact h.gm q q1
    · exact hl, h.mg⟩
theorem BndX.setM {x : RX} (h : BndX x) {i k : Nat} {ms' : List Nat} (hl : ms'.length ≤ 1000) : BndX { x with ms := x.ms.set i (k, ms') } :=
  ⟨h.p, h.g, by simpa using h.m, h.gm, fun q hq => by
    rcases List.mem_or_eq_of_mem_set hq with q1 | rfl
    · exact h.mg q q1
    · exact hl⟩
theorem TightX.setG {x : RX} (h : TightX x) {i k : Nat} {ms ms' : List Nat} (hi : x.gs[i]? = some (k, ms)) (hl : ∀ p ∈ ms', p ∈ x.ps) : TightX { x with gs := x.gs.set i (k, ms') } :=
  ⟨fun q hq => by
    rcases List.mem_or_eq_of_mem_set hq with q1 | rfl
    · exact h.g q q1
    · exact hl, fun q hq g hg => by
    show g ∈ (x.gs.set i (k, ms')).map (·.1)
    rw [map_set_key hi]
    exact h.m q hq g hg⟩
theorem TightX.setM {x : RX} (h : TightX x) {i k : Nat} {ms' : List Nat} (hl : ∀ g ∈ ms', g ∈ x.gs.map (·.1)) : TightX { x with ms := x.ms.set i (k, ms') } :=
  ⟨h.g, fun q hq => by
    rcases List.mem_or_eq_of_mem_set hq with q1 | rfl
    · exact h.m q q1
    · exact hl⟩
theorem but_len (l : List Nat) (n : Nat) : (butX l n).length ≤ l.length := List.length_filter_le _ _

set_option maxRecDepth 20000 in
set_option maxHeartbeats 8000000 in
theorem expel40_any {w : World} {b X : Nat} {x : RX} {s : Nat} (h : RingX w b X x s) (hB : BndX x) (hT : TightX x) (who i n0 : Nat) (ms0 : List Nat) (hi : x.gs[i]? = some (n0, ms0)) :
    Calls Tryz.prog 40 #[.pointer (some ⟨X, 0, none⟩), .int .u32 (who : Int), .int .i64 (i : Int)] w fun e w' => e = .returned (.int .i64 0) ∧ RingX w' b X { x with gs := x.gs.set i (n0, butX ms0 who) } s ∧ Keep (TX b [84, 81]) w w' := by
  obtain ⟨vp, vg, vm, vs, pc, gc, mc, sc, ns, h, hns⟩ := h
  have hiG : i < x.gs.length := lt_of_get hi
  obtain ⟨gg, og, cg, rfl, hog⟩ := own_form h.go (by omega)
  obtain ⟨_, _, q, hrg⟩ := owns_row h.go
  cases q
  obtain ⟨_, _, v0, q, hcv, _, hu0⟩ := sec_members hrg h.gs hi
  cases q
  obtain ⟨a0, c0, rfl, hrow0, _⟩ := hu0
  have hm0 : ms0.length ≤ 1000 := hB.gm _ (List.mem_of_getElem? hi)
  have hbut := fun B (hE : Ext w B) => but_any a0 c0 ms0 who B (hrow0.ext hE) (by omega)
  have hBx := hB.setG (i := i) (k := n0) (ms' := butX ms0 who) (by have := but_len ms0 who; omega)
  have hTx := hT.setG hi (ms' := butX ms0 who) (fun p hp => hT.g _ (List.mem_of_getElem? hi) p (mem_but.1 hp).2)
  have hix : ({ x with gs := x.gs.set i (n0, butX ms0 who) } : RX).gs[i]? = some (n0, butX ms0 who) := by show (x.gs.set i (n0, butX ms0 who))[i]? = _; rw [List.getElem?_set_self hiG]
  obtain ⟨G, hG⟩ : ∃ G, x.gs.length = G := ⟨_, rfl⟩
  obtain ⟨L, hL⟩ : ∃ L, ms0.length = L := ⟨_, rfl⟩
  have hgc : G ≤ cg := by have := hrg.1; omega
  rw [hG] at h hiG
  rw [hL] at hcv hbut
  have hX : ∀ B, Ext w.drew B → Ext w B := fun B hB => ((Keep.refl _ w).drew).trans hB
  have d2 := fun g : FY.At (fun _ _ => False) w.drew => (h.cells.ext (hX _ g.ext)).cell (i := 2) rfl
  have d34 := fun g : FY.At (fun _ _ => False) w.drew => Ext.cell (hX _ g.ext) hcv
  have HH := Lib.hid h
  have HI := Lib.hid hi
  have HOG := Lib.hid hog
  have HBUT := Lib.hid hbut
  have HX := Lib.hid hX
  have HBX := Lib.hid hBx
  have HTX := Lib.hid hTx
  have HIX := Lib.hid hix
  clear h hi hog hbut hX hBx hTx hix hB hT hrow0 hrg hcv hG hL hm0
  refine calls_cps fun R0 hR => ?_
  have HR := Lib.hid hR
  clear hR
  go_enter Tryz.func40, Tryz.ntmps40
  go_wp2
  refine FY.wp_flow (X := fun _ _ => False) (0 :: 1 :: 2 :: 3 :: 4 :: 5 :: 6 :: 7 :: 8 :: 9 :: 10 :: 11 :: 12 :: 13 :: 14 :: 15 :: 16 :: 17 :: []) (fun j => if j = 14 then .grows (fun v w' => URow w' v (butX ms0 who)) (fun v => ∃ a c, v = .slice a (butX ms0 who).length c) else if j = 17 then .last else .still) (by kernel_rfl) (by kernel_rfl) ?_
  iterate 14 (refine FY.flow_q rfl rfl rfl ?_; go_big_quiet_step (fail); refine wpQuiet_nil ?_)
  clear d2 d34
  refine FY.flow_g rfl rfl rfl (by simp) ⟨_, none, 0, rfl⟩ (fun _ _ _ h hE => h.ext hE) (fun _ _ h => by obtain ⟨a, c, h, _⟩ := h; exact ⟨a, c, h⟩) (fun w5 hE5 _ => ?_) (fun v hv => ?_)
  · have hcall := HBUT.out w5 (HX.out w5 hE5)
    go_wp2_with fail
    refine hcall.mono ?_
    rintro e w6 ⟨v, rfl, hown, e6⟩
    have hu := Lib.hid (URow.of_own hown)
    have he6 := Lib.hid e6
    clear hcall hown e6
    go_wp2
    exact ⟨he6.out, hu.out⟩
  obtain ⟨a1, c1, rfl⟩ := hv
  simp only [Act.put, List.setIfInBounds_toArray, List.set_cons_succ, List.set_cons_zero]
  iterate 2 (refine FY.flow_q rfl rfl rfl ?_; go_big_quiet_step (fail); refine wpQuiet_nil ?_)
  refine FY.flow_l rfl rfl (by kernel_rfl) (fun w5 hE5 hf => ?_)
  have hu : URow w5 (.slice a1 (butX ms0 who).length c1) (butX ms0 who) := hf 14
  have h5 := HH.out.ext (HX.out w5 hE5)
  obtain ⟨h6, k6, f6, old, c6⟩ := h5.setG HOG.out HI.out hu
  obtain ⟨w6, hw6⟩ : ∃ w6, w5.setCell ⟨gg, og + i * 35 + 34, none⟩ (.slice a1 (butX ms0 who).length c1) = w6 := ⟨_, rfl⟩
  rw [hw6] at h6 k6
  have hrk := rekey63_any ⟨_, _, _, _, _, _, _, _, _, h6, hns⟩ HBX.out HTX.out i n0 _ HIX.out
  have HW6 := Lib.hid hw6
  have HK6 := Lib.hid (show Keep (TX b [84, 81]) w w6 from (Keep.of_ext (HX.out w5 hE5)).trans (k6.mono (fun _ _ _ hx => hx.mono (by decide))))
  have HRK := Lib.hid hrk
  obtain ⟨x', hx', hix'⟩ : ∃ x', ({ x with gs := x.gs.set i (n0, butX ms0 who) } : RX) = x' ∧ x'.gs[i]? = some (n0, butX ms0 who) := ⟨_, rfl, HIX.out⟩
  have HIX' := Lib.hid hix'
  rw [hx'] at HRK HR HBX HTX
  clear hu h5 h6 k6 hf hE5 hw6 hrk hx' hix' HIX
  go_wp2_with fail
  rw [HW6.out]
  refine HRK.out.mono ?_
  rintro e7 w7 ⟨rfl, h7, k7⟩
  have hrd := reads64_any h7 HBX.out i n0 _ HIX'.out
  have HK7 := Lib.hid (HK6.out.trans (k7.mono (fun _ _ _ hx => hx.mono (by decide))))
  have H7 := Lib.hid h7
  clear h7 k7 HRK HK6 HW6 f6 c6
  go_wp2_with fail
  refine hrd.mono ?_
  rintro e8 w8 ⟨⟨v, l, rfl, hu, hin, hl⟩, e12⟩
  clear hrd
  have hu' := hu
  obtain ⟨al, cl, rfl, _, _⟩ := hu'
  have h8 : RingX w8 b X x' s := by
    obtain ⟨vp, vg, vm, vs, pc, gc, mc, sc, ns, h2, hns⟩ := H7.out
    exact ⟨vp, vg, vm, vs, pc, gc, mc, sc, ns, h2.ext e12, hns⟩
  obtain ⟨N, hN⟩ : ∃ N, l.length = N := ⟨_, rfl⟩
  rw [hN] at hl hu ⊢
  have HK8 := Lib.hid (HK7.out.trans (Keep.of_ext e12))
  have HN := Lib.hid hN
  have HIN := Lib.hid hin
  have HU := Lib.hid hu
  have H8 := Lib.hid h8
  clear hN hin h8 e12 HK7 H7 hu
  go_wp2
  go_loopw [38] (fun ix wr => ∃ k : Nat, k ≤ N ∧ ix = .int .i64 (k : Int) ∧ Hid (RingX wr b X x' s) ∧ Hid (Keep (TX b [84, 81]) w wr) ∧ Hid (URow wr (.slice al N cl) l)) (fun ix _ => N - (vI ix).toNat)
  case atStart => exact ⟨0, by omega, rfl, H8, HK8, HU⟩
  case round =>
    obtain ⟨k, hk, rfl, HRX, HKR, HUR⟩ := hrel
    by_cases hlt : k < N
    · obtain ⟨n, hn⟩ : ∃ n, l[k]? = some n := ⟨_, List.getElem?_eq_getElem (by have := HN.out; omega)⟩
      obtain ⟨_, _, q, hrow, _⟩ := HUR.out
      cases q
      obtain ⟨br, orr, rfl, hcell⟩ := hrow.2.2.2.2 (by have := HN.out; omega)
      have ck := hcell k (.int .u32 (n : Int)) (by rw [List.getElem?_map, hn]; rfl)
      have hnin : n ∈ x'.ms.map (·.1) := HIN.out n (List.mem_of_getElem? hn)
      obtain ⟨jx, hjx, hnj⟩ := first_at hnin
      obtain ⟨rs, hrs⟩ := at_of_map hjx
      have hat := HRX.out
      obtain ⟨vp2, vg2, vm2, vs2, pc2, gc2, mc2, sc2, ns2, h2, hns2⟩ := hat
      have hcm := realmAt_any h2 HBX.out hjx hnj
      have htn := turn45_any HRX.out HBX.out HTX.out jx n rs hrs
      have HCM := Lib.hid hcm
      have HTN := Lib.hid htn
      clear hcm htn h2 hns2 hrs hjx hnj hnin hn hcell hrow
      go_wp2_with fail
      refine HCM.out.mono ?_
      rintro e9 w9 ⟨rfl, rfl⟩
      go_wp2_with fail
      refine HTN.out.mono ?_
      rintro e10 w10 ⟨rfl, h10, k10⟩
      have H10 := Lib.hid h10
      have HU10 := Lib.hid (HUR.out.keep k10 (fun _ _ => TX.no (by decide)))
      have HK10 := Lib.hid (HKR.out.trans (k10.mono (fun _ _ _ hx => hx.mono (by decide))))
      clear h10 k10 ck
      go_wp2
      go_roundw
      case rel => exact ⟨k + 1, by omega, by go_num, H10, HK10, HU10⟩
      case measure => simp [vI]; omega
    · obtain rfl : k = N := by omega
      have hfin := HR.out (.returned (.int .i64 0)) wr ⟨rfl, HRX.out, HKR.out⟩
      clear HR
      go_wp2
      exact hfin
end Go.Proofs.YtcmhgpgookiomaaGreat
namespace Go.Proofs.YtcmhgpgookiomaaGreat
open Go.RowKit Go.Shelf Go.Maps

attribute [local go_sem] Oper.semAt_some

set_option maxRecDepth 20000 in
theorem build_realm (l : List Value) (h : l.length = 32) (r : Nat) (a : Option Addr) (n c : Nat) (w : World) : (Instr.build 81 #[(0, .int .u32 (r : Int)), (2, .agg l.toArray), (3, .slice a n c)]).run Tryz.prog w = .ok (.agg ([Value.int .u32 (r : Int), Value.int .u32 0] ++ l ++ [Value.slice a n c]).toArray) w := by
  match l, h with
  | [b0, b1, b2, b3, b4, b5, b6, b7, b8, b9, b10, b11, b12, b13, b14, b15, b16, b17, b18, b19, b20, b21, b22, b23, b24, b25, b26, b27, b28, b29, b30, b31], _ => exact run_build w _ _ _ (by kernel_rfl)
set_option maxRecDepth 20000 in
theorem build_group (l : List Value) (h : l.length = 32) (r : Nat) (w : World) : (Instr.build 84 #[(0, .int .u32 (r : Int)), (2, .agg l.toArray)]).run Tryz.prog w = .ok (.agg ([Value.int .u32 (r : Int), Value.int .u32 0] ++ l ++ [Value.slice none 0 0]).toArray) w := by
  match l, h with
  | [b0, b1, b2, b3, b4, b5, b6, b7, b8, b9, b10, b11, b12, b13, b14, b15, b16, b17, b18, b19, b20, b21, b22, b23, b24, b25, b26, b27, b28, b29, b30, b31], _ => exact run_build w _ _ _ (by kernel_rfl)
set_option maxRecDepth 20000 in
theorem build_person (l : List Value) (h : l.length = 32) (r : Nat) (w : World) : (Instr.build 111 #[(0, .int .u32 (r : Int)), (1, .agg l.toArray)]).run Tryz.prog w = .ok (.agg (Value.int .u32 (r : Int) :: l).toArray) w := by
  match l, h with
  | [b0, b1, b2, b3, b4, b5, b6, b7, b8, b9, b10, b11, b12, b13, b14, b15, b16, b17, b18, b19, b20, b21, b22, b23, b24, b25, b26, b27, b28, b29, b30, b31], _ => exact run_build w _ _ _ (by kernel_rfl)
/-- A new group's (realm's) cells. -/
theorem secC_facts {l : List Value} (hl : l.length = 32) (h1 : ∀ u ∈ l, u.oneCell' = true) (r : Nat) (v : Value) (hv : v.oneCell' = true) : ([u32n r, u32n 0] ++ l ++ [v]).length = 35 ∧ (∀ u ∈ [u32n r, u32n 0] ++ l ++ [v], u.oneCell' = true) ∧ ([u32n r, u32n 0] ++ l ++ [v])[0]? = some (u32n r) ∧ ([u32n r, u32n 0] ++ l ++ [v])[1]? = some (u32n 0) ∧ ([u32n r, u32n 0] ++ l ++ [v])[34]? = some v := by
  refine ⟨by simp [hl], fun u hu => ?_, by simp, by simp, ?_⟩
  · rcases List.mem_append.1 hu with hu | hu
    · rcases List.mem_append.1 hu with hu | hu
      · rcases List.mem_cons.1 hu with rfl | hu
        · rfl
        · rcases List.mem_singleton.1 hu with rfl
          rfl
      · exact h1 u hu
    · rcases List.mem_singleton.1 hu with rfl
      exact hv
  · rw [List.getElem?_append_right (by simp [hl])]
    simp [hl]
/-- A slice of one struct that lies in a block of its own. -/
def OneRow (t : TypeId) (C : List Value) (v : Value) (w : World) : Prop := ∃ g, v = .slice (some ⟨g, 0, none⟩) 1 1 ∧ Arr w g t C
def OneSh (v : Value) : Prop := ∃ g, v = .slice (some ⟨g, 0, none⟩) 1 1
theorem OneRow.ext {t : TypeId} {C : List Value} {v : Value} {w w' : World} (h : OneRow t C v w) (hE : Ext w w') : OneRow t C v w' := by
  obtain ⟨g, h1, h2⟩ := h
  exact ⟨g, h1, h2.ext hE⟩
theorem OneRow.sh {t : TypeId} {C : List Value} {v : Value} {w : World} (h : OneRow t C v w) : OneSh v := by
  obtain ⟨g, h1, _⟩ := h
  exact ⟨g, h1⟩
section
variable {w : World} {b X : Nat} {x : RX} {vp vg vm vs : Value} {pc gc mc sc C : List Value} {ns g n e : Nat} {ms : List Nat} {v : Value}
theorem cell_x {i : Nat} {u : Value} {l : List Value} (hX : b ≤ X) (hc : Arr w X 43 l) (hi : i < l.length) : Arr (w.setCell ⟨X, i, none⟩ u) X 43 (l.set i u) ∧ Keep (TX b [43]) w (w.setCell ⟨X, i, none⟩ u) ∧ w.frozen? ⟨X, i, none⟩ = false ∧ w.cell? ⟨X, i, none⟩ = some l[i] :=
  ⟨hc.set i u, (Keep.refl _ w).setCell _ _ (fun o ho => by
    rw [show w.heap[X]? = _ from hc] at ho; cases ho
    exact ⟨hX, _, _, rfl, List.mem_singleton.2 rfl⟩), hc.frozen i, hc.cell (List.getElem?_eq_getElem hi)⟩
/-- A realm is appended. -/
theorem RIn.appM (h : RIn w b X x vp vg vm vs pc gc mc sc ns) (hC : Arr w g 81 C) (hl : C.length = 35) (h1 : ∀ u ∈ C, u.oneCell' = true) (h0 : C[0]? = some (u32n n)) (he : C[1]? = some (u32n e)) (hv : C[34]? = some v) (hu : URow w v ms) (hn : x.ms.length ≤ 1000000) (hb : b ≤ w.heap.size) :
    ∃ a' c' w', (Builtin.append_ #[39, 39] 39 #[vm, .slice (some ⟨g, 0, none⟩) 1 1]).run Tryz.prog w = .ok (.slice a' (x.ms.length + 1) c') w' ∧ Keep (TX b [81]) w w' ∧ Keep (fun k _ => vm.ownBlock = some k) w w' ∧
      ∀ w'', Ext w' w'' → RIn (w''.setCell ⟨X, 3, none⟩ (.slice a' (x.ms.length + 1) c')) b X { x with ms := x.ms ++ [(n, ms)] } vp vg (.slice a' (x.ms.length + 1) c') vs pc gc (mc ++ C) sc ns ∧ Keep (TX b [43]) w'' (w''.setCell ⟨X, 3, none⟩ (.slice a' (x.ms.length + 1) c')) ∧
        w''.frozen? ⟨X, 3, none⟩ = false ∧ w''.cell? ⟨X, 3, none⟩ = some vm := by
  obtain ⟨a', c', w', hrun, hown, hk, hk2⟩ := own_app (P := Tryz.prog) Tryz.underlying39 info_realm (by kernel_rfl) (by omega) (by omega) h.mo hC hl h1 hn hb
  refine ⟨a', c', w', hrun, hk, hk2, fun w'' hE => ?_⟩
  have hc := (h.cells.keep hk (TX.no (by decide))).ext hE
  obtain ⟨q1, q2, q3, q4⟩ := cell_x (i := 3) (u := .slice a' (x.ms.length + 1) c') h.low hc (by simp)
  refine ⟨h.putM (((hk.mono (fun _ _ _ hx => hx.mono (by decide))).trans (Keep.of_ext hE)).trans (q2.mono (fun _ _ _ hx => hx.mono (by decide)))) q1 ?_ ?_, q2, q3, q4⟩
  · rw [List.length_append]
    exact q2.owns' (Ext.owns hE hown) (fun _ _ _ => TX.no (by decide))
  · exact (((h.ms.keep hk (fun _ _ => TX.no (by decide))).keep hE (fun _ _ h => h)).keep q2 (fun _ _ => TX.no (by decide))).snoc hl h1 h0 he hv (((hu.keep hk (fun _ _ => TX.no (by decide))).ext hE).keep q2 (fun _ _ => TX.no (by decide)))
/-- A group is appended. -/
theorem RIn.appG (h : RIn w b X x vp vg vm vs pc gc mc sc ns) (hC : Arr w g 84 C) (hl : C.length = 35) (h1 : ∀ u ∈ C, u.oneCell' = true) (h0 : C[0]? = some (u32n n)) (he : C[1]? = some (u32n e)) (hv : C[34]? = some v) (hu : URow w v ms) (hn : x.gs.length ≤ 1000000) (hb : b ≤ w.heap.size) :
    ∃ a' c' w', (Builtin.append_ #[38, 38] 38 #[vg, .slice (some ⟨g, 0, none⟩) 1 1]).run Tryz.prog w = .ok (.slice a' (x.gs.length + 1) c') w' ∧ Keep (TX b [84]) w w' ∧
      ∀ w'', Ext w' w'' → RIn (w''.setCell ⟨X, 2, none⟩ (.slice a' (x.gs.length + 1) c')) b X { x with gs := x.gs ++ [(n, ms)] } vp (.slice a' (x.gs.length + 1) c') vm vs pc (gc ++ C) mc sc ns ∧ Keep (TX b [43]) w'' (w''.setCell ⟨X, 2, none⟩ (.slice a' (x.gs.length + 1) c')) ∧
        w''.frozen? ⟨X, 2, none⟩ = false ∧ w''.cell? ⟨X, 2, none⟩ = some vg := by
  obtain ⟨a', c', w', hrun, hown, hk, _⟩ := own_app (P := Tryz.prog) Tryz.underlying38 info_group (by kernel_rfl) (by omega) (by omega) h.go hC hl h1 hn hb
  refine ⟨a', c', w', hrun, hk, fun w'' hE => ?_⟩
  have hc := (h.cells.keep hk (TX.no (by decide))).ext hE
  obtain ⟨q1, q2, q3, q4⟩ := cell_x (i := 2) (u := .slice a' (x.gs.length + 1) c') h.low hc (by simp)
  refine ⟨h.putG (((hk.mono (fun _ _ _ hx => hx.mono (by decide))).trans (Keep.of_ext hE)).trans (q2.mono (fun _ _ _ hx => hx.mono (by decide)))) q1 ?_ ?_, q2, q3, q4⟩
  · rw [List.length_append]
    exact q2.owns' (Ext.owns hE hown) (fun _ _ _ => TX.no (by decide))
  · exact (((h.gs.keep hk (fun _ _ => TX.no (by decide))).keep hE (fun _ _ h => h)).keep q2 (fun _ _ => TX.no (by decide))).snoc hl h1 h0 he hv (((hu.keep hk (fun _ _ => TX.no (by decide))).ext hE).keep q2 (fun _ _ => TX.no (by decide)))
/-- A person is appended. -/
theorem RIn.appP (h : RIn w b X x vp vg vm vs pc gc mc sc ns) (hC : Arr w g 111 C) (hl : C.length = 33) (h1 : ∀ u ∈ C, u.oneCell' = true) (h0 : C[0]? = some (u32n n)) (hn : x.ps.length ≤ 1000000) (hb : b ≤ w.heap.size) :
    ∃ a' c' w', (Builtin.append_ #[37, 37] 37 #[vp, .slice (some ⟨g, 0, none⟩) 1 1]).run Tryz.prog w = .ok (.slice a' (x.ps.length + 1) c') w' ∧ Keep (TX b [111]) w w' ∧
      ∀ w'', Ext w' w'' → RIn (w''.setCell ⟨X, 1, none⟩ (.slice a' (x.ps.length + 1) c')) b X { x with ps := x.ps ++ [n] } (.slice a' (x.ps.length + 1) c') vg vm vs (pc ++ C) gc mc sc ns ∧ Keep (TX b [43]) w'' (w''.setCell ⟨X, 1, none⟩ (.slice a' (x.ps.length + 1) c')) ∧
        w''.frozen? ⟨X, 1, none⟩ = false ∧ w''.cell? ⟨X, 1, none⟩ = some vp := by
  obtain ⟨a', c', w', hrun, hown, hk, _⟩ := own_app (P := Tryz.prog) Tryz.underlying37 info_person (by kernel_rfl) (by omega) (by omega) h.po hC hl h1 hn hb
  refine ⟨a', c', w', hrun, hk, fun w'' hE => ?_⟩
  have hc := (h.cells.keep hk (TX.no (by decide))).ext hE
  obtain ⟨q1, q2, q3, q4⟩ := cell_x (i := 1) (u := .slice a' (x.ps.length + 1) c') h.low hc (by simp)
  refine ⟨h.putP (((hk.mono (fun _ _ _ hx => hx.mono (by decide))).trans (Keep.of_ext hE)).trans (q2.mono (fun _ _ _ hx => hx.mono (by decide)))) q1 ?_ (h.ps.snoc hl h1 h0), q2, q3, q4⟩
  rw [List.length_append]
  exact q2.owns' (Ext.owns hE hown) (fun _ _ _ => TX.no (by decide))
/-- Somebody was seen. -/
theorem RIn.appS (h : RIn w b X x vp vg vm vs pc gc mc sc ns) {l : List Nat} (hC : Arr w g 119 (l.map u32n)) (hl : l.length = 3) (hn : ns ≤ 1000000) (hb : b ≤ w.heap.size) :
    ∃ a' c' w', (Builtin.append_ #[41, 41] 41 #[vs, .slice (some ⟨g, 0, none⟩) 1 1]).run Tryz.prog w = .ok (.slice a' (ns + 1) c') w' ∧ Keep (TX b [119]) w w' ∧
      ∀ w'', Ext w' w'' → RIn (w''.setCell ⟨X, 5, none⟩ (.slice a' (ns + 1) c')) b X x vp vg vm (.slice a' (ns + 1) c') pc gc mc (sc ++ l.map u32n) (ns + 1) ∧ Keep (TX b [43]) w'' (w''.setCell ⟨X, 5, none⟩ (.slice a' (ns + 1) c')) ∧
        w''.frozen? ⟨X, 5, none⟩ = false ∧ w''.cell? ⟨X, 5, none⟩ = some vs := by
  obtain ⟨a', c', w', hrun, hown, hk, _⟩ := own_app (P := Tryz.prog) Tryz.underlying41 info_seen (by kernel_rfl) (by omega) (by omega) h.so hC (by simpa using hl) (fun u hu => by obtain ⟨_, _, rfl⟩ := List.mem_map.1 hu; rfl) hn hb
  refine ⟨a', c', w', hrun, hk, fun w'' hE => ?_⟩
  have hc := (h.cells.keep hk (TX.no (by decide))).ext hE
  obtain ⟨q1, q2, q3, q4⟩ := cell_x (i := 5) (u := .slice a' (ns + 1) c') h.low hc (by simp)
  obtain ⟨l0, hl0⟩ := h.ss
  refine ⟨h.putS (((hk.mono (fun _ _ _ hx => hx.mono (by decide))).trans (Keep.of_ext hE)).trans (q2.mono (fun _ _ _ hx => hx.mono (by decide)))) q1 ?_ ⟨l0 ++ l, by rw [hl0, List.map_append]⟩, q2, q3, q4⟩
  exact q2.owns' (Ext.owns hE hown) (fun _ _ _ => TX.no (by decide))
end
end Go.Proofs.YtcmhgpgookiomaaGreat
