/-
  TopRevoked: the document's ring: copied: a ring in memory of its own. the document's ring: Do. Open of a ring that holds nobody (whatever its suite). ring.New, whatever the suite.
-/
import Derived.Test.YtcmhgpgookiomaaGreatM20
import Derived.Test.YtcmhgpgookiomaaGreatM24
import Derived.Test.YtcmhgpgookiomaaGreatM26
namespace Go.Proofs.YtcmhgpgookiomaaGreat
open Go.RowKit Go.Shelf Go.Maps

attribute [local go_sem] Oper.semAt_some

theorem RingX.ext {w w' : World} {b X : Nat} {x : RX} {s : Nat} (h : RingX w b X x s) (hE : Ext w w') : RingX w' b X x s := by
  obtain ⟨vp, vg, vm, vs, pc, gc, mc, sc, ns, h, hns⟩ := h
  exact ⟨vp, vg, vm, vs, pc, gc, mc, sc, ns, h.ext hE, hns⟩
/-- A slice is appended to nil. -/
theorem app_nil {P : Program} {w : World} {B sz bytes n : Nat} {e t : TypeId} {z : Value} {a : Option Addr} {c : Nat} {xs : List Value} (ht : P.underlying t = some (.slice e)) (hinfo : (P.info? e).map (fun i => (i.zero, i.size, i.bytes)) = some (some z, sz, bytes)) (hzs : z.cells.size = sz) (hsz : 0 < sz) (hbt : bytes ≤ 64)
    (hr : Row sz w a n c xs) (h1 : ∀ u ∈ xs, u.oneCell' = true) (hn : n ≤ 1000000) (hB : B ≤ w.heap.size) :
    ∃ a' c' w', (Builtin.append_ #[t, t] t #[.slice none 0 0, .slice a n c]).run P w = .ok (.slice a' n c') w' ∧ w'.ownsRow B e sz (.slice a' n c') n xs ∧ Ext w w' := by
  have hby : (0 + n) * bytes ≤ 140737488355328 := Nat.le_trans (Nat.mul_le_mul (show 0 + n ≤ 1000000 by omega) hbt) (by omega)
  obtain ⟨v', w', hrun, hown, hgrow, _⟩ := run_append_row (P := P) w B t t e z sz bytes ht hinfo hzs hsz (World.ownsRow_nil w B e sz) hr h1 (by unfold maxLen; omega) hby hB
  rw [Nat.zero_add, List.nil_append] at hown
  obtain ⟨a', c', rfl, _⟩ := owns_row hown
  exact ⟨a', c', w', hrun, hown, (Keep.of_grownBy hgrow (fun k o hk ho => by simp [Value.ownBlock] at hk) : Keep (fun _ _ => False) w w')⟩
theorem sc_one {sc : List Value} (h : ∃ l : List Nat, sc = l.map u32n) : ∀ u ∈ sc, u.oneCell' = true := fun u hu => by
  obtain ⟨l, rfl⟩ := h
  obtain ⟨_, _, rfl⟩ := List.mem_map.1 hu
  rfl

set_option maxRecDepth 20000 in
set_option maxHeartbeats 8000000 in
theorem copied18_any {w : World} {b X : Nat} {x : RX} {s : Nat} (h : RingX w b X x s) (hB : BndX x) (hs : s ≤ 1000000) :
    Calls Tryz.prog 18 #[.pointer (some ⟨X, 0, none⟩)] w fun e w' => (∃ Y, e = .returned (.pointer (some ⟨Y, 0, none⟩)) ∧ RingX w' w.heap.size Y x s) ∧ Ext w w' := by
  obtain ⟨vp, vg, vm, vs, pc, gc, mc, sc, ns, h, hns⟩ := h
  obtain ⟨ap, cp, rfl, hrp⟩ := owns_row h.po
  obtain ⟨ag, cg, rfl, hrg⟩ := owns_row h.go
  obtain ⟨am, cm, rfl, hrm⟩ := owns_row h.mo
  obtain ⟨as', cs', rfl, hrs⟩ := owns_row h.so
  obtain ⟨N, hN⟩ : ∃ N, x.ps.length = N := ⟨_, rfl⟩
  obtain ⟨G, hG⟩ : ∃ G, x.gs.length = G := ⟨_, rfl⟩
  obtain ⟨M, hM⟩ : ∃ M, x.ms.length = M := ⟨_, rfl⟩
  have hcl := h.cells
  have hN1 : N ≤ 1000 := by have := hB.p; omega
  have hG1 : G ≤ 1000 := by have := hB.g; omega
  have hM1 : M ≤ 1000 := by have := hB.m; omega
  have hgc : G ≤ cg := by have := hrg.1; omega
  have hmc : M ≤ cm := by have := hrm.1; omega
  rw [hN] at hrp hcl
  rw [hG] at hcl
  rw [hM] at hcl
  obtain ⟨B0, hB0⟩ : ∃ B, w.heap.size = B := ⟨_, rfl⟩
  have hX : ∀ B, Ext w.drew B → Ext w B := fun B hB => ((Keep.refl _ w).drew).trans hB
  have d0 := fun g : FY.At (fun _ _ => False) w.drew => (hcl.ext (hX _ g.ext)).cell (i := 0) rfl
  have d1 := fun g : FY.At (fun _ _ => False) w.drew => (hcl.ext (hX _ g.ext)).cell (i := 1) rfl
  have d4 := fun g : FY.At (fun _ _ => False) w.drew => (hcl.ext (hX _ g.ext)).cell (i := 4) rfl
  have d5 := fun g : FY.At (fun _ _ => False) w.drew => (hcl.ext (hX _ g.ext)).cell (i := 5) rfl
  have HN := Lib.hid hN
  have HG := Lib.hid hG
  have HM := Lib.hid hM
  have HRP := Lib.hid hrp
  have HRG := Lib.hid hrg
  have HRM := Lib.hid hrm
  have HRS := Lib.hid hrs
  have HH := Lib.hid h
  have HB := Lib.hid hB
  have HCL := Lib.hid hcl
  have HX := Lib.hid hX
  have HB0 := Lib.hid hB0
  rw [hB0]
  clear hN hG hM hrp hrg hrm hrs h hB hcl hX hB0
  refine calls_cps fun R0 hR => ?_
  have HR := Lib.hid hR
  clear hR
  go_enter Tryz.func18, Tryz.ntmps18
  go_wp2
  refine FY.wp_flow (X := fun _ _ => False) (0 :: 1 :: 2 :: 3 :: 4 :: 5 :: 6 :: 7 :: 8 :: 9 :: 10 :: 11 :: 12 :: 13 :: 14 :: 15 :: 16 :: 17 :: 18 :: 19 :: 20 :: 21 :: []) (fun j => if j = 8 then .grows (fun v w' => w'.ownsRow B0 111 33 v N pc) (fun v => ∃ a c, v = .slice a N c) else if j = 13 then .grows (fun v _ => v = .slice none 0 0) (fun v => v = .slice none 0 0)
    else if j = 18 then .grows (fun v w' => w'.ownsRow B0 119 3 v ns sc) (fun v => ∃ a c, v = .slice a ns c) else if j = 20 then .grows (fun v w' => ∃ g, v = .pointer (some ⟨g, 0, none⟩) ∧ RingX w' B0 g ⟨x.ps, [], []⟩ s) (fun v => ∃ g, v = .pointer (some ⟨g, 0, none⟩)) else .still) (by kernel_rfl) (by kernel_rfl) ?_
  iterate 8 (refine FY.flow_q rfl rfl rfl ?_; go_big_quiet_step (fail); refine wpQuiet_nil ?_)
  refine FY.flow_g rfl rfl rfl (by simp) ⟨_, none, 0, rfl⟩ (fun _ _ _ h hE => Ext.owns hE h) (fun _ _ h => by obtain ⟨a, c, h, _⟩ := owns_row h; exact ⟨a, c, h⟩) (fun w5 hE5 _ => ?_) (fun v hv => ?_)
  · have e5 := HX.out w5 hE5
    obtain ⟨a', c', w6, hrun, hown, e6⟩ := app_nil (P := Tryz.prog) (B := B0) Tryz.underlying37 info_person (by kernel_rfl) (by omega) (by omega) (HRP.out.ext e5) HH.out.ps.one (by omega) (by have := e5.size; have := HB0.out; omega)
    refine wpList_append_run hrun rfl rfl rfl rfl ?_
    exact ⟨rfl, _, rfl, e6, hown⟩
  obtain ⟨a8, c8, rfl⟩ := hv
  simp only [Act.put, List.setIfInBounds_toArray, List.set_cons_succ, List.set_cons_zero]
  iterate 4 (refine FY.flow_q rfl rfl rfl ?_; go_big_quiet_step (fail); refine wpQuiet_nil ?_)
  refine FY.flow_g rfl rfl rfl (by simp) ⟨_, rfl⟩ (fun _ _ _ h _ => h) (fun _ _ h => h) (fun w5 hE5 _ => ?_) (fun v hv => ?_)
  · obtain ⟨ib, hib, _, _, _⟩ := info_parts info_box
    have hrun := run_append_owned_none (P := Tryz.prog) w5 B0 40 40 107 ib 6 Tryz.underlying40 hib (.slice none 0 0) 0 [] (World.ownsRow_nil _ _ _ _)
    refine wpList_append_run hrun rfl rfl rfl rfl ?_
    exact ⟨rfl, _, rfl, Keep.refl _ _, rfl⟩
  subst hv
  simp only [Act.put, List.setIfInBounds_toArray, List.set_cons_succ, List.set_cons_zero]
  iterate 4 (refine FY.flow_q rfl rfl rfl ?_; go_big_quiet_step (fail); refine wpQuiet_nil ?_)
  refine FY.flow_g rfl rfl rfl (by simp) ⟨_, none, 0, rfl⟩ (fun _ _ _ h hE => Ext.owns hE h) (fun _ _ h => by obtain ⟨a, c, h, _⟩ := owns_row h; exact ⟨a, c, h⟩) (fun w5 hE5 _ => ?_) (fun v hv => ?_)
  · have e5 := HX.out w5 hE5
    obtain ⟨a', c', w6, hrun, hown, e6⟩ := app_nil (P := Tryz.prog) (B := B0) Tryz.underlying41 info_seen (by kernel_rfl) (by omega) (by omega) (HRS.out.ext e5) (sc_one HH.out.ss) (by omega) (by have := e5.size; have := HB0.out; omega)
    refine wpList_append_run hrun rfl rfl rfl rfl ?_
    exact ⟨rfl, _, rfl, e6, hown⟩
  obtain ⟨a18, c18, rfl⟩ := hv
  simp only [Act.put, List.setIfInBounds_toArray, List.set_cons_succ, List.set_cons_zero]
  clear d0 d1 d4 d5
  iterate 1 (refine FY.flow_q rfl rfl rfl ?_; go_big_quiet_step (fail); refine wpQuiet_nil ?_)
  refine FY.flow_g rfl rfl rfl (by simp) ⟨_, 0, rfl⟩ (fun _ _ _ h hE => by obtain ⟨g, h1, h2⟩ := h; exact ⟨g, h1, h2.ext hE⟩) (fun _ _ h => by obtain ⟨g, h1, _⟩ := h; exact ⟨g, h1⟩) (fun w5 hE5 hf => ?_) (fun v hv => ?_)
  · have p8 : w5.ownsRow B0 111 33 (.slice a8 N c8) N pc := hf 8 (by kernel_rfl)
    have p18 : w5.ownsRow B0 119 3 (.slice a18 ns c18) ns sc := hf 18 (by kernel_rfl)
    have e5 := HX.out w5 hE5
    have hlow : B0 ≤ w5.heap.size := by have := e5.size; have := HB0.out; omega
    have hall : ∀ o : Obj, Ext w5 (w5.alloc o) := fun o => (Keep.refl _ w5).alloc o
    have HP8 := Lib.hid p8
    have HP18 := Lib.hid p18
    have HALL := Lib.hid hall
    clear p8 p18 hall hf e5 hE5
    go_wp2
    exact ⟨HALL.out _, _, .slice none 0 0, .slice none 0 0, _, pc, [], [], sc, ns, ⟨Arr.new w5 _ _, hlow, by rw [HN.out]; exact Ext.owns (HALL.out _) HP8.out, HH.out.ps, World.ownsRow_nil _ _ _ _, GSec.nil _, World.ownsRow_nil _ _ _ _, GSec.nil _, Ext.owns (HALL.out _) HP18.out, HH.out.ss⟩, hns⟩
  obtain ⟨Y, rfl⟩ := hv
  simp only [Act.put, List.setIfInBounds_toArray, List.set_cons_succ, List.set_cons_zero]
  iterate 1 (refine FY.flow_q rfl rfl rfl ?_; go_big_quiet_step (fail); refine wpQuiet_nil ?_)
  refine FY.flow_end (fun w1 hE1 hf => ?_)
  obtain ⟨_, q, hY⟩ : ∃ g, (Value.pointer (some ⟨Y, 0, none⟩)) = .pointer (some ⟨g, 0, none⟩) ∧ RingX w1 B0 g ⟨x.ps, [], []⟩ s := hf 20
  cases q
  have hE01 := HX.out w1 hE1
  have HE1 := Lib.hid hE01
  have HY := Lib.hid hY
  have y2 := (HCL.out.ext hE01).cell (i := 2) rfl
  clear hf hE1 hE01 hY
  go_wp2
  clear y2
  go_loopw [34] (fun ix wr => ∃ k : Nat, k ≤ G ∧ ix = .int .i64 (k : Int) ∧ Hid (Ext w wr) ∧ Hid (RingX wr B0 Y ⟨x.ps, x.gs.take k, []⟩ s)) (fun ix _ => G - (vI ix).toNat)
  case atStart => exact ⟨0, by omega, rfl, HE1, HY⟩
  case round =>
    obtain ⟨k, hk, rfl, HE, HRX⟩ := hrel
    by_cases hlt : k < G
    · obtain ⟨⟨n, ms⟩, hp⟩ : ∃ p, x.gs[k]? = some p := ⟨_, List.getElem?_eq_getElem (by have := HG.out; omega)⟩
      obtain ⟨gg, og, C, v, e, rfl, hCl, hC1, hC0, hCe, hC34, hU, hld⟩ := sec_struct HRG.out HH.out.gs hp
      obtain ⟨av, cv, rfl, hrow, hua⟩ := hU
      have hm1 : ms.length ≤ 1000 := HB.out.gm _ (List.mem_of_getElem? hp)
      have hlk := Lib.hid (hld wr HE.out)
      have hiC := Lib.hid (show (Tryz.prog.info? 84).map (·.size) = some C.length by rw [size_group, hCl])
      have hiC2 := Lib.hid (show (Tryz.prog.info? 84).map (·.size) = some C.toArray.size by rw [size_group, List.size_toArray, hCl])
      have hCs := Lib.hid (show 35 = C.toArray.size by rw [List.size_toArray, hCl])
      have h1C := Lib.hid (all_of hC1)
      have HCF := Lib.hid (And.intro hCl (And.intro hC1 (And.intro hC0 (And.intro hCe hC34))))
      have HROW := Lib.hid hrow
      have HTK := Lib.hid (show x.gs.take (k + 1) = x.gs.take k ++ [(n, ms)] by rw [List.take_add_one, hp]; rfl)
      clear hp hCl hC1 hC0 hCe hC34 hld hrow hua
      go_upto_region 5 with (first
        | (refine wpList_val (o := ⟨some 37, _, _, _, _, _⟩) (v := .agg C.toArray) ?_ ?_ ?_; exact exec_load_mid' rfl rfl hlk.out Tryz.underlying84 rfl hiC.out; rfl)
        | (refine wpList_skip0 (o := ⟨none, .store _ _ _, _, _, _, _⟩) (w' := wr.alloc (.cells C.toArray 84)) ?_ ?_ ?_ ?_; exact exec_store_new rfl rfl rfl hiC2.out hCs.out h1C.out; rfl; rfl; refine wpList_laid1 fun W eW hG => ?_)
        | fail)
      have aC : Arr W wr.heap.size 84 C := hG
      have hlow : B0 ≤ wr.heap.size := by have := HE.out.size; have := HB0.out; omega
      have eWw : Ext w W := HE.out.trans eW
      obtain ⟨p5, hp5⟩ : ∃ p, wr.heap.size = p := ⟨_, rfl⟩
      rw [hp5] at aC hlow ⊢
      obtain ⟨a2, c2, W2, hrun, hown, e2⟩ := app_nil (P := Tryz.prog) (B := B0) (w := W) Tryz.underlying79 info_u32 rfl (by omega) (by omega) (HROW.out.ext eWw) (fun u hu => by obtain ⟨_, _, rfl⟩ := List.mem_map.1 hu; rfl) (by omega) (by have := eWw.size; have := HB0.out; omega)
      have hu2 := URow.of_own hown
      have aC2 := aC.ext e2
      obtain ⟨L, hL⟩ : ∃ L, ms.length = L := ⟨_, rfl⟩
      have z34 : W.cell? ⟨p5, 34, none⟩ = some (.slice av L cv) := by rw [← hL]; exact aC.cell HCF.out.2.2.2.2
      have y34 : W2.cell? ⟨p5, 34, none⟩ = some (.slice av L cv) := by rw [← hL]; exact aC2.cell HCF.out.2.2.2.2
      have f34 := aC2.frozen 34
      have aC3 := aC2.set 34 (.slice a2 L c2)
      obtain ⟨D, hD⟩ : ∃ D, C.set 34 (.slice a2 L c2) = D := ⟨_, rfl⟩
      obtain ⟨W3, hW3⟩ : ∃ W3, W2.setCell ⟨p5, 34, none⟩ (.slice a2 L c2) = W3 := ⟨_, rfl⟩
      have k23 : Keep (fun k _ => k = p5) W2 W3 := by rw [← hW3]; exact keep_setCell W2 p5 34 _
      rw [hL] at hrun hu2
      rw [hD, hW3] at aC3
      have hp5w : wr.heap.size ≤ p5 := Nat.le_of_eq hp5
      have e03 : Ext w W3 := ((Keep.of_ext (X := fun k _ => k = p5) (eWw.trans e2)).trans k23).mono (fun k o ho hx => by have := Keep.lt ho; have := HE.out.size; replace hx : k = p5 := hx; omega)
      have er3 : Ext wr W3 := ((Keep.of_ext (X := fun k _ => k = p5) (eW.trans e2)).trans k23).mono (fun k o ho hx => by have := Keep.lt ho; replace hx : k = p5 := hx; omega)
      have hDF : D.length = 35 ∧ (∀ u ∈ D, u.oneCell' = true) ∧ D[0]? = some (u32n n) ∧ D[1]? = some (u32n e) ∧ D[34]? = some (.slice a2 L c2) := by
        rw [← hD]
        refine ⟨by simp [HCF.out.1], fun u hu => ?_, ?_, ?_, ?_⟩
        · rcases List.mem_or_eq_of_mem_set hu with q | rfl
          · exact HCF.out.2.1 u q
          · rfl
        · rw [List.getElem?_set_ne (by omega)]; exact HCF.out.2.2.1
        · rw [List.getElem?_set_ne (by omega)]; exact HCF.out.2.2.2.1
        · rw [List.getElem?_set_self (by have := HCF.out.1; omega)]
      have hu3 : URow W3 (.slice a2 L c2) ms := hu2.keep (X := fun k o => ∃ cur, o = .cells cur 84 (0, 0)) (k23.mono (fun k o ho hx => by
        replace hx : k = p5 := hx
        subst hx
        rw [show W2.heap[k]? = _ from aC2] at ho; cases ho; exact ⟨_, rfl⟩)) (fun _ _ hx => by obtain ⟨_, hx⟩ := hx; cases hx)
      have HRUN := Lib.hid hrun
      have HW3 := Lib.hid hW3
      have HDF := Lib.hid hDF
      have HE3 := Lib.hid e03
      have HRX3 := Lib.hid (HRX.out.ext er3)
      have HU3 := Lib.hid hu3
      clear hrun hW3 hDF e03 er3 hu3 hu2 k23 hown aC aC2 hG eW eWw e2 hL hD hp5 hp5w hlow
      go_wp2_with (first
        | (refine wpList_append_run (o := ⟨some 40, _, _, _, _, _⟩) HRUN.out rfl rfl rfl rfl ?_)
        | fail)
      rw [HW3.out]
      obtain ⟨vp3, vg3, vm3, vs3, pc3, gc3, mc3, sc3, ns3, h3, hns3⟩ := HRX3.out
      have hX3 : ∀ B, Ext W3.drew B → Ext W3 B := fun B hB => ((Keep.refl _ W3).drew).trans hB
      have d2 := fun g : FY.At (fun _ _ => False) W3.drew => (h3.cells.ext (hX3 _ g.ext)).cell (i := 2) rfl
      have hiD := Lib.hid (show (Tryz.prog.info? 84).map (·.size) = some D.toArray.size by rw [size_group, List.size_toArray, HDF.out.1])
      have HX3 := Lib.hid hX3
      have H3 := Lib.hid h3
      have hb3 : B0 ≤ W3.heap.size := by have := HE3.out.size; have := HB0.out; omega
      clear hX3 h3 z34 y34 f34
      refine FY.wp_flow (X := TX B0 [43, 84]) (0 :: 1 :: 2 :: 3 :: 4 :: 5 :: 6 :: 7 :: 8 :: 9 :: 10 :: []) (fun n => if n = 6 then .grows (OneRow 84 D) OneSh else if n = 7 ∨ n = 10 then .bar else if n = 4 ∨ n = 5 then .reads else .still) (by kernel_rfl) (by kernel_rfl) ?_
      iterate 4 (refine FY.flow_q rfl rfl rfl ?_; go_big_quiet_step (fail); refine wpQuiet_nil ?_)
      refine FY.flow_r rfl rfl rfl ?_; go_big_quiet_step (fail); refine wpQuiet_nil ?_
      refine FY.flow_v (v := .agg D.toArray) rfl rfl rfl (fun w' hE => exec_load_row rfl rfl (aC3.ext (HX3.out w' hE)) Tryz.underlying84 rfl hiD.out) ?_
      simp only [Act.put, List.setIfInBounds_toArray, List.set_cons_succ, List.set_cons_zero]
      clear d2
      refine FY.flow_g rfl rfl rfl (by simp) ⟨_, 0, rfl⟩ (fun v A B h hE => h.ext hE) (fun v A h => h.sh) (fun w5 hE5 _ => ?_) (fun v hv => ?_)
      · refine wpList_valw (v := .slice (some ⟨w5.heap.size, 0, none⟩) 1 1) (w' := w5.alloc (.cells D.toArray 84)) ?_ rfl (wpList_nil ?_)
        · exact exec_buildSlice1 rfl rfl (buildSlice_one Tryz.underlying38 info_group (by omega) (by omega) D HDF.out.1 w5)
        · exact ⟨rfl, _, rfl, (Keep.refl _ w5).alloc _, _, rfl, Arr.new w5 _ _⟩
      obtain ⟨g1, rfl⟩ := hv
      simp only [Act.put, List.setIfInBounds_toArray, List.set_cons_succ, List.set_cons_zero]
      refine FY.flow_bvs rfl rfl rfl (by simp) (by kernel_rfl) (fun w5 hE5 hf => ?_)
      obtain ⟨_, q5, hAg⟩ : OneRow 84 D (.slice (some ⟨g1, 0, none⟩) 1 1) w5 := hf 6
      cases q5
      have hX5 := HX3.out w5 hE5
      obtain ⟨a6, c6, w6, hrun, k6, hput⟩ := (H3.out.ext hX5).appG hAg HDF.out.1 HDF.out.2.1 HDF.out.2.2.1 HDF.out.2.2.2.1 HDF.out.2.2.2.2 (HU3.out.ext hX5) (by simp; omega) (by have := hX5.size; omega)
      refine wpList_append_run hrun rfl rfl rfl rfl ?_
      refine ⟨rfl, _, rfl, k6.mono (fun _ _ _ hx => hx.mono (by decide)), ?_⟩
      simp only [Act.put, List.setIfInBounds_toArray, List.set_cons_succ, List.set_cons_zero]
      have HPUT := Lib.hid hput
      have HX5 := Lib.hid hX5
      have HK6 := Lib.hid k6
      clear hrun hAg hf hX5 hE5 hput k6 aC3
      iterate 2 (refine FY.flow_q rfl rfl rfl ?_; go_big_quiet_step (fail); refine wpQuiet_nil ?_)
      refine FY.flow_ba rfl rfl rfl (by kernel_rfl) (fun w8 hE8 _ => ?_)
      have hE8' : Ext w6 w8 := hE8
      obtain ⟨h9, k9, f5, c5⟩ := HPUT.out w8 hE8'
      obtain ⟨LN, hLN⟩ : ∃ LN, (x.gs.take k).length + 1 = LN := ⟨_, rfl⟩
      simp only [hLN] at h9 k9 ⊢
      obtain ⟨w9, hw9⟩ : ∃ w9, w8.setCell ⟨Y, 2, none⟩ (.slice a6 LN c6) = w9 := ⟨_, rfl⟩
      rw [hw9] at h9 k9
      have HW9 := Lib.hid hw9
      have H9 := Lib.hid h9
      have HK9 := Lib.hid k9
      have HE8 := Lib.hid hE8'
      clear hw9 h9 k9 hE8' hE8 hLN
      go_wp2
      rw [HW9.out]
      refine ⟨HK9.out.mono (fun _ _ _ hx => hx.mono (by decide)), ?_⟩
      refine FY.flow_end (fun wA hEA _ => ?_)
      have hEA' : Ext w9 wA := hEA
      have k3A : Keep (TX B0 [43, 84]) W3 wA := ((((Keep.of_ext HX5.out).trans (HK6.out.mono (fun _ _ _ hx => hx.mono (by decide)))).trans (Keep.of_ext HE8.out)).trans (HK9.out.mono (fun _ _ _ hx => hx.mono (by decide)))).trans (Keep.of_ext hEA')
      have HEA : Hid (Ext w wA) := Lib.hid (((Keep.of_ext HE3.out).trans k3A).mono (fun k o ho hx => by have := Keep.lt ho; have := hx.1; have := HB0.out; omega))
      have HRA : Hid (RingX wA B0 Y ⟨x.ps, x.gs.take (k + 1), []⟩ s) := Lib.hid (by rw [HTK.out]; exact ⟨_, _, _, _, _, _, _, _, _, H9.out.ext hEA', hns3⟩)
      clear k3A hEA hEA' c5 f5
      go_wp2
      go_roundw
      case rel => exact ⟨k + 1, by omega, by go_num, HEA, HRA⟩
      case measure => simp [vI]; omega
    · obtain rfl : k = G := by omega
      have hY2 := HRX.out
      rw [List.take_of_length_le (by have := HG.out; omega)] at hY2
      have HY2 := Lib.hid hY2
      have HE2 := HE
      have y3 := (HCL.out.ext HE.out).cell (i := 3) rfl
      clear hY2 HRX HE HE1 HY
      go_wp2
      clear y3
      go_loopw [58] (fun ix wr => ∃ k : Nat, k ≤ M ∧ ix = .int .i64 (k : Int) ∧ Hid (Ext w wr) ∧ Hid (RingX wr B0 Y ⟨x.ps, x.gs, x.ms.take k⟩ s)) (fun ix _ => M - (vI ix).toNat)
      case atStart => exact ⟨0, by omega, rfl, HE2, HY2⟩
      case round =>
        obtain ⟨k, hk, rfl, HE, HRX⟩ := hrel
        by_cases hlt : k < M
        · obtain ⟨⟨n, ms⟩, hp⟩ : ∃ p, x.ms[k]? = some p := ⟨_, List.getElem?_eq_getElem (by have := HM.out; omega)⟩
          obtain ⟨gg, og, C, v, e, rfl, hCl, hC1, hC0, hCe, hC34, hU, hld⟩ := sec_struct HRM.out HH.out.ms hp
          obtain ⟨av, cv, rfl, hrow, hua⟩ := hU
          have hm1 : ms.length ≤ 1000 := HB.out.mg _ (List.mem_of_getElem? hp)
          have hlk := Lib.hid (hld wr HE.out)
          have hiC := Lib.hid (show (Tryz.prog.info? 81).map (·.size) = some C.length by rw [size_realm, hCl])
          have hiC2 := Lib.hid (show (Tryz.prog.info? 81).map (·.size) = some C.toArray.size by rw [size_realm, List.size_toArray, hCl])
          have hCs := Lib.hid (show 35 = C.toArray.size by rw [List.size_toArray, hCl])
          have h1C := Lib.hid (all_of hC1)
          have HCF := Lib.hid (And.intro hCl (And.intro hC1 (And.intro hC0 (And.intro hCe hC34))))
          have HROW := Lib.hid hrow
          have HTK := Lib.hid (show x.ms.take (k + 1) = x.ms.take k ++ [(n, ms)] by rw [List.take_add_one, hp]; rfl)
          clear hp hCl hC1 hC0 hCe hC34 hld hrow hua
          go_upto_region 11 with (first
            | (refine wpList_val (o := ⟨some 61, _, _, _, _, _⟩) (v := .agg C.toArray) ?_ ?_ ?_; exact exec_load_mid' rfl rfl hlk.out Tryz.underlying81 rfl hiC.out; rfl)
            | (refine wpList_skip0 (o := ⟨none, .store _ _ _, _, _, _, _⟩) (w' := wr.alloc (.cells C.toArray 81)) ?_ ?_ ?_ ?_; exact exec_store_new rfl rfl rfl hiC2.out hCs.out h1C.out; rfl; rfl; refine wpList_laid1 fun W eW hG => ?_)
            | fail)
          have aC : Arr W wr.heap.size 81 C := hG
          have hlow : B0 ≤ wr.heap.size := by have := HE.out.size; have := HB0.out; omega
          have eWw : Ext w W := HE.out.trans eW
          obtain ⟨p5, hp5⟩ : ∃ p, wr.heap.size = p := ⟨_, rfl⟩
          rw [hp5] at aC hlow ⊢
          obtain ⟨a2, c2, W2, hrun, hown, e2⟩ := app_nil (P := Tryz.prog) (B := B0) (w := W) Tryz.underlying79 info_u32 rfl (by omega) (by omega) (HROW.out.ext eWw) (fun u hu => by obtain ⟨_, _, rfl⟩ := List.mem_map.1 hu; rfl) (by omega) (by have := eWw.size; have := HB0.out; omega)
          have hu2 := URow.of_own hown
          have aC2 := aC.ext e2
          obtain ⟨L, hL⟩ : ∃ L, ms.length = L := ⟨_, rfl⟩
          have z34 : W.cell? ⟨p5, 34, none⟩ = some (.slice av L cv) := by rw [← hL]; exact aC.cell HCF.out.2.2.2.2
          have y34 : W2.cell? ⟨p5, 34, none⟩ = some (.slice av L cv) := by rw [← hL]; exact aC2.cell HCF.out.2.2.2.2
          have f34 := aC2.frozen 34
          have aC3 := aC2.set 34 (.slice a2 L c2)
          obtain ⟨D, hD⟩ : ∃ D, C.set 34 (.slice a2 L c2) = D := ⟨_, rfl⟩
          obtain ⟨W3, hW3⟩ : ∃ W3, W2.setCell ⟨p5, 34, none⟩ (.slice a2 L c2) = W3 := ⟨_, rfl⟩
          have k23 : Keep (fun k _ => k = p5) W2 W3 := by rw [← hW3]; exact keep_setCell W2 p5 34 _
          rw [hL] at hrun hu2
          rw [hD, hW3] at aC3
          have hp5w : wr.heap.size ≤ p5 := Nat.le_of_eq hp5
          have e03 : Ext w W3 := ((Keep.of_ext (X := fun k _ => k = p5) (eWw.trans e2)).trans k23).mono (fun k o ho hx => by have := Keep.lt ho; have := HE.out.size; replace hx : k = p5 := hx; omega)
          have er3 : Ext wr W3 := ((Keep.of_ext (X := fun k _ => k = p5) (eW.trans e2)).trans k23).mono (fun k o ho hx => by have := Keep.lt ho; replace hx : k = p5 := hx; omega)
          have hDF : D.length = 35 ∧ (∀ u ∈ D, u.oneCell' = true) ∧ D[0]? = some (u32n n) ∧ D[1]? = some (u32n e) ∧ D[34]? = some (.slice a2 L c2) := by
            rw [← hD]
            refine ⟨by simp [HCF.out.1], fun u hu => ?_, ?_, ?_, ?_⟩
            · rcases List.mem_or_eq_of_mem_set hu with q | rfl
              · exact HCF.out.2.1 u q
              · rfl
            · rw [List.getElem?_set_ne (by omega)]; exact HCF.out.2.2.1
            · rw [List.getElem?_set_ne (by omega)]; exact HCF.out.2.2.2.1
            · rw [List.getElem?_set_self (by have := HCF.out.1; omega)]
          have hu3 : URow W3 (.slice a2 L c2) ms := hu2.keep (X := fun k o => ∃ cur, o = .cells cur 81 (0, 0)) (k23.mono (fun k o ho hx => by
            replace hx : k = p5 := hx
            subst hx
            rw [show W2.heap[k]? = _ from aC2] at ho; cases ho; exact ⟨_, rfl⟩)) (fun _ _ hx => by obtain ⟨_, hx⟩ := hx; cases hx)
          have HRUN := Lib.hid hrun
          have HW3 := Lib.hid hW3
          have HDF := Lib.hid hDF
          have HE3 := Lib.hid e03
          have HRX3 := Lib.hid (HRX.out.ext er3)
          have HU3 := Lib.hid hu3
          clear hrun hW3 hDF e03 er3 hu3 hu2 k23 hown aC aC2 hG eW eWw e2 hL hD hp5 hp5w hlow
          go_wp2_with (first
            | (refine wpList_append_run (o := ⟨some 64, _, _, _, _, _⟩) HRUN.out rfl rfl rfl rfl ?_)
            | fail)
          rw [HW3.out]
          obtain ⟨vp3, vg3, vm3, vs3, pc3, gc3, mc3, sc3, ns3, h3, hns3⟩ := HRX3.out
          have hX3 : ∀ B, Ext W3.drew B → Ext W3 B := fun B hB => ((Keep.refl _ W3).drew).trans hB
          have d2 := fun g : FY.At (fun _ _ => False) W3.drew => (h3.cells.ext (hX3 _ g.ext)).cell (i := 3) rfl
          have hiD := Lib.hid (show (Tryz.prog.info? 81).map (·.size) = some D.toArray.size by rw [size_realm, List.size_toArray, HDF.out.1])
          have HX3 := Lib.hid hX3
          have H3 := Lib.hid h3
          have hb3 : B0 ≤ W3.heap.size := by have := HE3.out.size; have := HB0.out; omega
          clear hX3 h3 z34 y34 f34
          refine FY.wp_flow (X := TX B0 [43, 81]) (0 :: 1 :: 2 :: 3 :: 4 :: 5 :: 6 :: 7 :: 8 :: 9 :: 10 :: []) (fun n => if n = 6 then .grows (OneRow 81 D) OneSh else if n = 7 ∨ n = 10 then .bar else if n = 4 ∨ n = 5 then .reads else .still) (by kernel_rfl) (by kernel_rfl) ?_
          iterate 4 (refine FY.flow_q rfl rfl rfl ?_; go_big_quiet_step (fail); refine wpQuiet_nil ?_)
          refine FY.flow_r rfl rfl rfl ?_; go_big_quiet_step (fail); refine wpQuiet_nil ?_
          refine FY.flow_v (v := .agg D.toArray) rfl rfl rfl (fun w' hE => exec_load_row rfl rfl (aC3.ext (HX3.out w' hE)) Tryz.underlying81 rfl hiD.out) ?_
          simp only [Act.put, List.setIfInBounds_toArray, List.set_cons_succ, List.set_cons_zero]
          clear d2
          refine FY.flow_g rfl rfl rfl (by simp) ⟨_, 0, rfl⟩ (fun v A B h hE => h.ext hE) (fun v A h => h.sh) (fun w5 hE5 _ => ?_) (fun v hv => ?_)
          · refine wpList_valw (v := .slice (some ⟨w5.heap.size, 0, none⟩) 1 1) (w' := w5.alloc (.cells D.toArray 81)) ?_ rfl (wpList_nil ?_)
            · exact exec_buildSlice1 rfl rfl (buildSlice_one Tryz.underlying39 info_realm (by omega) (by omega) D HDF.out.1 w5)
            · exact ⟨rfl, _, rfl, (Keep.refl _ w5).alloc _, _, rfl, Arr.new w5 _ _⟩
          obtain ⟨g1, rfl⟩ := hv
          simp only [Act.put, List.setIfInBounds_toArray, List.set_cons_succ, List.set_cons_zero]
          refine FY.flow_bvs rfl rfl rfl (by simp) (by kernel_rfl) (fun w5 hE5 hf => ?_)
          obtain ⟨_, q5, hAg⟩ : OneRow 81 D (.slice (some ⟨g1, 0, none⟩) 1 1) w5 := hf 6
          cases q5
          have hX5 := HX3.out w5 hE5
          obtain ⟨a6, c6, w6, hrun, k6, _, hput⟩ := (H3.out.ext hX5).appM hAg HDF.out.1 HDF.out.2.1 HDF.out.2.2.1 HDF.out.2.2.2.1 HDF.out.2.2.2.2 (HU3.out.ext hX5) (by simp; omega) (by have := hX5.size; omega)
          refine wpList_append_run hrun rfl rfl rfl rfl ?_
          refine ⟨rfl, _, rfl, k6.mono (fun _ _ _ hx => hx.mono (by decide)), ?_⟩
          simp only [Act.put, List.setIfInBounds_toArray, List.set_cons_succ, List.set_cons_zero]
          have HPUT := Lib.hid hput
          have HX5 := Lib.hid hX5
          have HK6 := Lib.hid k6
          clear hrun hAg hf hX5 hE5 hput k6 aC3
          iterate 2 (refine FY.flow_q rfl rfl rfl ?_; go_big_quiet_step (fail); refine wpQuiet_nil ?_)
          refine FY.flow_ba rfl rfl rfl (by kernel_rfl) (fun w8 hE8 _ => ?_)
          have hE8' : Ext w6 w8 := hE8
          obtain ⟨h9, k9, f5, c5⟩ := HPUT.out w8 hE8'
          obtain ⟨LN, hLN⟩ : ∃ LN, (x.ms.take k).length + 1 = LN := ⟨_, rfl⟩
          simp only [hLN] at h9 k9 ⊢
          obtain ⟨w9, hw9⟩ : ∃ w9, w8.setCell ⟨Y, 3, none⟩ (.slice a6 LN c6) = w9 := ⟨_, rfl⟩
          rw [hw9] at h9 k9
          have HW9 := Lib.hid hw9
          have H9 := Lib.hid h9
          have HK9 := Lib.hid k9
          have HE8 := Lib.hid hE8'
          clear hw9 h9 k9 hE8' hE8 hLN
          go_wp2
          rw [HW9.out]
          refine ⟨HK9.out.mono (fun _ _ _ hx => hx.mono (by decide)), ?_⟩
          refine FY.flow_end (fun wA hEA _ => ?_)
          have hEA' : Ext w9 wA := hEA
          have k3A : Keep (TX B0 [43, 81]) W3 wA := ((((Keep.of_ext HX5.out).trans (HK6.out.mono (fun _ _ _ hx => hx.mono (by decide)))).trans (Keep.of_ext HE8.out)).trans (HK9.out.mono (fun _ _ _ hx => hx.mono (by decide)))).trans (Keep.of_ext hEA')
          have HEA : Hid (Ext w wA) := Lib.hid (((Keep.of_ext HE3.out).trans k3A).mono (fun k o ho hx => by have := Keep.lt ho; have := hx.1; have := HB0.out; omega))
          have HRA : Hid (RingX wA B0 Y ⟨x.ps, x.gs, x.ms.take (k + 1)⟩ s) := Lib.hid (by rw [HTK.out]; exact ⟨_, _, _, _, _, _, _, _, _, H9.out.ext hEA', hns3⟩)
          clear k3A hEA hEA' c5 f5
          go_wp2
          go_roundw
          case rel => exact ⟨k + 1, by omega, by go_num, HEA, HRA⟩
          case measure => simp [vI]; omega
        · obtain rfl : k = M := by omega
          have hY3 := HRX.out
          rw [List.take_of_length_le (by have := HM.out; omega)] at hY3
          have hfin := HR.out (.returned (.pointer (some ⟨Y, 0, none⟩))) wr ⟨⟨Y, rfl, hY3⟩, HE.out⟩
          clear HR hY3
          go_wp2
          exact hfin
end Go.Proofs.YtcmhgpgookiomaaGreat
namespace Go.Proofs.YtcmhgpgookiomaaGreat
open Go.RowKit Go.Shelf Go.Maps

attribute [local go_sem] Oper.semAt_some

theorem changeX_err {x : RX} {c : ChgP} (h : (changeX x c).1 ≠ 0) : (changeX x c).2 = x := by
  unfold changeX at h ⊢
  repeat' split
  all_goals first
    | rfl
    | (exfalso; simp_all)
theorem size_ring : (Tryz.prog.info? 43).map (·.size) = some 6 := by kernel_rfl

set_option maxRecDepth 20000 in
set_option maxHeartbeats 8000000 in
theorem do10_any {w : World} {R : Nat} {x : RX} {s k : Nat} (h : RingX w 0 R x s) (hS : Sized k x) (hT : TightX x) (hk : k ≤ 100) (hs : s ≤ 900000) (c : ChgP) :
    Calls Tryz.prog 10 #[.pointer (some ⟨R, 0, none⟩), .agg (chgC c).toArray] w fun e w' => e = .returned (.int .i64 ((changeX x c).1 : Int)) ∧ RingX w' 0 R (changeX x c).2 (s + 10201) ∧ Keep (fun k o => k = R ∧ ∃ cur, o = .cells cur 43 (0, 0)) w w' := by
  have hmono : ∀ {w' : World} {s' : Nat}, s ≤ s' → RingX w' 0 R x s → RingX w' 0 R x s' := fun hs h => by
    obtain ⟨vp, vg, vm, vs, pc, gc, mc, sc, ns, h, hns⟩ := h
    exact ⟨vp, vg, vm, vs, pc, gc, mc, sc, ns, h, by omega⟩
  obtain ⟨hS2, hT2⟩ := change_sized hS hT c
  have hB := hS.bnd (by omega)
  have hB2 := hS2.bnd (by omega)
  have hprod : (changeX x c).2.ms.length * (changeX x c).2.ps.length ≤ 10201 := Nat.le_trans (Nat.mul_le_mul (show _ ≤ 101 by have := hS2.2.2.1; omega) (show _ ≤ 101 by have := hS2.1; omega)) (by omega)
  have HERR := Lib.hid (fun h => @changeX_err x c h)
  obtain ⟨E, hE⟩ : ∃ E, (changeX x c).1 = E := ⟨_, rfl⟩
  obtain ⟨x2, hx2⟩ : ∃ x2, (changeX x c).2 = x2 := ⟨_, rfl⟩
  obtain ⟨C, hC⟩ : ∃ C, chgC c = C := ⟨_, rfl⟩
  have hC1 : C.length = 4 := by rw [← hC]; rfl
  have hdo := fun (w1 : World) (b Y : Nat) (h1 : RingX w1 b Y x s) (hb : b ≤ w1.heap.size) => do19_any h1 hB hT hb c
  rw [hE, hx2] at hdo
  rw [hE, hx2] at HERR
  rw [hx2] at hprod hB2
  rw [hE, hx2]
  rw [hC] at hdo ⊢
  have hcp := fun W (hW : Ext w W) => copied18_any (h.ext hW) hB (by omega)
  have HDO := Lib.hid hdo
  have HCP := Lib.hid hcp
  have HH := Lib.hid h
  have HB2 := Lib.hid hB2
  have HPR := Lib.hid hprod
  have HMONO := Lib.hid (fun (w' : World) (s' : Nat) (hs : s ≤ s') (h : RingX w' 0 R x s) => hmono hs h)
  have hiC := Lib.hid (show (Tryz.prog.info? 25).map (·.size) = some C.toArray.size by rw [List.size_toArray, hC1]; kernel_rfl)
  clear hdo hcp h hB hB2 hS hT hS2 hT2 hprod hmono hE hx2 hC hC1
  refine calls_cps fun R0 hR => ?_
  have HR := Lib.hid hR
  clear hR
  go_enter Tryz.func10, Tryz.ntmps10
  go_upto_region 1 with fail
  refine wp_laid1 fun W eW hG => ?_
  have aC : Arr W w.heap.size 25 C := hG
  have hcp := HCP.out W eW
  have HEW := Lib.hid eW
  obtain ⟨b, hb⟩ : ∃ b, W.heap.size = b := ⟨_, rfl⟩
  rw [hb] at hcp
  have HB := Lib.hid hb
  clear hG eW hb
  go_wp2_with fail
  refine hcp.mono ?_
  rintro e1 w1 ⟨⟨Y, rfl, hY⟩, e1⟩
  clear hcp
  have hdo := HDO.out w1 b Y hY (by have := e1.size; have := HB.out; omega)
  have aC1 := aC.ext e1
  have HE1 := Lib.hid (HEW.out.trans e1)
  have hb1 : b ≤ w1.heap.size := by have := e1.size; have := HB.out; omega
  clear e1 hY
  go_wp2_with (first
    | (refine wpList_val (o := ⟨some 10, _, _, _, _, _⟩) (v := .agg C.toArray) ?_ ?_ ?_; exact exec_load_row rfl rfl aC1 Tryz.underlying25 rfl hiC.out; rfl)
    | fail)
  refine hdo.mono ?_
  rintro e2 w2 ⟨rfl, h2, k2⟩
  clear hdo
  have hbw : w.heap.size ≤ b := by have := HEW.out.size; have := HB.out; omega
  have HE2 : Hid (Ext w w2) := Lib.hid (((Keep.of_ext HE1.out).trans k2).mono (fun k o ho hx => by have := Keep.lt ho; have := hx.1; omega))
  by_cases he : E = 0
  · subst he
    have H2 := Lib.hid (h2 rfl)
    have hb2 : b ≤ w2.heap.size := Nat.le_trans hb1 k2.size
    have hnt := note20_any H2.out HB2.out hb2 (by have := HPR.out; omega)
    have HK2 := Lib.hid k2
    clear k2 h2
    go_wp2_with fail
    refine hnt.mono ?_
    rintro e3 w3 ⟨rfl, h3, k3⟩
    clear hnt
    obtain ⟨vp, vg, vm, vs, pc, gc, mc, sc, ns, h3, hns⟩ := h3
    have e03 : Ext w w3 := ((Keep.of_ext HE2.out).trans k3).mono (fun k o ho hx => by have := Keep.lt ho; have := hx.1; omega)
    obtain ⟨wp, wg, wm, ws, pc0, gc0, mc0, sc0, ns0, h0, _⟩ := HH.out
    have aR := h0.cells.ext e03
    have aY := h3.cells
    obtain ⟨L, hL⟩ : ∃ L, [Value.pointer none, vp, vg, vm, .slice none 0 0, vs] = L := ⟨_, rfl⟩
    have hLl : L.length = 6 := by rw [← hL]; rfl
    have hL1 : L.toArray.all (·.oneCell') = true := all_of (fun u hu => by
      rw [← hL] at hu
      simp only [List.mem_cons, List.not_mem_nil, or_false] at hu
      obtain ⟨_, _, q1, _⟩ := owns_row h3.po
      obtain ⟨_, _, q2, _⟩ := owns_row h3.go
      obtain ⟨_, _, q3, _⟩ := owns_row h3.mo
      obtain ⟨_, _, q4, _⟩ := owns_row h3.so
      rcases hu with rfl | rfl | rfl | rfl | rfl | rfl
      · rfl
      · rw [q1]; rfl
      · rw [q2]; rfl
      · rw [q3]; rfl
      · rfl
      · rw [q4]; rfl)
    have k34 : Keep (fun k o => k = R ∧ ∃ cur, o = .cells cur 43 (0, 0)) w3 (w3.setRow R L.toArray) := (keep_setRow w3 R L.toArray).mono (fun k o ho hx => ⟨hx, by
      replace hx : k = R := hx
      subst hx
      rw [show w3.heap[k]? = _ from aR] at ho
      cases ho
      exact ⟨_, rfl⟩⟩)
    have hno : ∀ (k : Nat) (cur : Array Value) (t : TypeId), t ≠ 43 → ¬ (k = R ∧ ∃ cur', Obj.cells cur t (0, 0) = .cells cur' 43 (0, 0)) := fun k cur t ht h => by
      obtain ⟨_, _, h⟩ := h
      cases h
      exact ht rfl
    have h4 : RIn (w3.setRow R L.toArray) 0 R x2 vp vg vm vs pc gc mc sc ns :=
      ⟨by rw [hL]; exact aR.setRow L, Nat.zero_le _, ownMono (k34.owns' h3.po (fun _ _ _ => hno _ _ _ (by decide))) (Nat.zero_le _), h3.ps, ownMono (k34.owns' h3.go (fun _ _ _ => hno _ _ _ (by decide))) (Nat.zero_le _), h3.gs.keep k34 (fun _ _ => hno _ _ _ (by decide)),
       ownMono (k34.owns' h3.mo (fun _ _ _ => hno _ _ _ (by decide))) (Nat.zero_le _), h3.ms.keep k34 (fun _ _ => hno _ _ _ (by decide)), ownMono (k34.owns' h3.so (fun _ _ _ => hno _ _ _ (by decide))) (Nat.zero_le _), h3.ss⟩
    rw [hL] at aY
    have hiL := Lib.hid (show (Tryz.prog.info? 43).map (·.size) = some L.toArray.size by rw [size_ring, List.size_toArray, hLl])
    have hLs := Lib.hid (show ([Value.pointer none, wp, wg, wm, .slice none 0 0, ws] : List Value).toArray.size = L.toArray.size by rw [List.size_toArray, List.size_toArray, hLl]; rfl)
    have HL1 := Lib.hid hL1
    have hfin := HR.out (.returned (.int .i64 0)) (w3.setRow R L.toArray) ⟨rfl, ⟨_, _, _, _, _, _, _, _, _, h4, by have := HPR.out; omega⟩, (Keep.of_ext e03).trans k34⟩
    have HAR := Lib.hid aR
    have HAY := Lib.hid aY
    clear HR h4 hno k34 hL1 hL hLl e03 h0 h3 k3 aR aY
    go_wp2_with (first
      | (refine wpList_val (o := ⟨some 20, _, _, _, _, _⟩) (v := .agg L.toArray) ?_ ?_ ?_; exact exec_load_row rfl rfl HAY.out Tryz.underlying43 rfl hiL.out; rfl)
      | (refine wpList_skip0 (o := ⟨none, .store _ _ _, _, _, _, _⟩) (w' := w3.setRow R L.toArray) ?_ ?_ ?_ ?_; exact exec_store_row rfl rfl rfl HAR.out hiL.out hLs.out HL1.out; rfl; rfl)
      | fail)
    exact hfin
  · have hne : ¬ ((E : Int) = 0) := by omega
    have hne2 : ((E : Int) != 0) = true := by simp; omega
    have hfin := HR.out (.returned (.int .i64 (E : Int))) w2 ⟨rfl, by rw [HERR.out he]; exact HMONO.out w2 _ (by omega) (HH.out.ext HE2.out), Keep.of_ext HE2.out⟩
    clear HR h2 k2
    go_wp2
    exact hfin
end Go.Proofs.YtcmhgpgookiomaaGreat
namespace Go.Proofs.YtcmhgpgookiomaaGreat
open Go.RowKit Go.Shelf Go.Maps

attribute [local go_sem] Oper.semAt_some

set_option maxRecDepth 20000 in
theorem rok0_any {w : World} {R b1 : Nat} (c1 : w.cell? ⟨R, 1, none⟩ = some (.map (some b1))) : Calls Tryz.prog 15 #[.pointer (some ⟨R, 0, none⟩)] w fun e w' => e = .returned (.bool true) ∧ w' = w := by
  refine calls_cps fun R hR => ?_
  have hRR := hR (.returned (.bool true)) w ⟨rfl, rfl⟩
  have hne := fun w => run_neq_map_nil (P := Tryz.prog) w 71 _ _ (some b1) Tryz.underlying71
  simp only [Option.isNone_some, Bool.not_false] at hne
  clear hR
  go_enter Tryz.func15, Tryz.ntmps15
  go_wp2
  try exact hRR

set_option maxRecDepth 20000 in
set_option maxHeartbeats 4000000 in
theorem open210_any {w : World} {R b1 : Nat} (c1 : w.cell? ⟨R, 1, none⟩ = some (.map (some b1))) (hm : NMap w b1 aggK ([] : List (Nat × By))) (who realm epoch : Nat) (hwho : who < 4294967296) :
    Calls Tryz.prog 13 #[.pointer (some ⟨R, 0, none⟩), .int .u32 (who : Int), .int .u32 (realm : Int), .int .u32 (epoch : Int)] w fun e w' => Ext w w' ∧ e = .returned (.tuple #[aggK key0, .int .i64 210]) := by
  obtain ⟨Z, hZ⟩ : ∃ Z, key0.map u8v = Z := ⟨_, rfl⟩
  have hZl : Z.length = 32 := by rw [← hZ, List.length_map, key0_len]
  have HZE := Lib.hid (show (List.replicate 32 (Value.int .u8 0)) = Z by rw [← hZ]; rfl)
  have hiZ := Lib.hid (show (Tryz.prog.info? 51).map (·.size) = some Z.toArray.size by rw [info_key, List.size_toArray, hZl])
  have hoZ := Lib.hid (show 32 = Z.toArray.size by rw [List.size_toArray, hZl])
  have h1Z := Lib.hid (show Z.toArray.all (·.oneCell') = true by rw [← hZ]; exact all_one _)
  have HBZ := Lib.hid (show ∀ (w : World) (o : Oper) (a : Act), o.op = .build 51 #[] → (execOp a.eval o).run Tryz.prog w = .ok (.value (.agg Z.toArray)) w from fun w o a ho => by rw [← hZ]; exact exec_build_key0 w a ho)
  have hl : ∀ B, Ext w B → (Instr.lookup 71 (.map (some b1)) (.int .u32 (who : Int)) true).run Tryz.prog B = .ok (.tuple #[.agg Z.toArray, .bool false]) B := fun B hB => by
    have := (hm.ext hB).look Tryz.underlying71 (zero_key B) hwho
    unfold u32n at this
    rw [this, ← hZ]
    rfl
  have hok := fun B (hB : Ext w B) => rok0_any (Ext.cell hB c1)
  have HL := Lib.hid hl
  have HOK := Lib.hid hok
  have HC1 := Lib.hid c1
  unfold aggK
  rw [hZ]
  clear hZ hZl hl hok c1 hm
  refine calls_cps fun R0 hR => ?_
  have HR := Lib.hid hR
  clear hR
  go_enter Tryz.func13, Tryz.ntmps13
  go_upto_region 1 with fail
  refine wp_laid1 fun W eW hG => ?_
  have aZ : Arr W w.heap.size 51 Z := by rw [← HZE.out]; exact hG
  have HEW := Lib.hid eW
  have hok := HOK.out W eW
  clear hG eW
  go_wp2_with fail
  refine hok.mono ?_
  rintro e w1 ⟨rfl, rfl⟩
  clear hok
  have c1 := Ext.cell HEW.out HC1.out
  have AZ := Lib.hid aZ
  clear aZ
  go_wp2_with (first
    | (refine wpList_val (o := ⟨some 22, _, _, _, _, _⟩) (v := .tuple #[.agg Z.toArray, .bool false]) ?_ ?_ ?_; exact exec_lookup' rfl (HL.out w1 HEW.out); rfl)
    | (refine wpList_val (o := ⟨some 27, _, _, _, _, _⟩) (v := .agg Z.toArray) ?_ ?_ ?_; exact HBZ.out _ _ _ rfl; rfl)
    | (refine wpList_skip0 (o := ⟨none, .store _ _ _, _, _, _, _⟩) (w' := w1.alloc (.cells Z.toArray 51)) ?_ ?_ ?_ ?_; exact exec_store_new rfl rfl rfl hiZ.out hoZ.out h1Z.out; rfl; rfl; refine wpList_laid1 fun W2 eW2 hG2 => ?_)
    | (refine wpList_skipw (o := ⟨none, .store _ _ _, _, _, _, _⟩) (w' := W2.setRow w.heap.size Z.toArray) ?_ ?_ ?_; exact exec_store_row rfl rfl rfl (AZ.out.ext eW2) hiZ.out rfl h1Z.out; rfl)
    | fail)
  have hcell := (AZ.out.ext eW2).setRow Z
  have hkS : Ext w (W2.setRow w.heap.size Z.toArray) := ((Keep.of_ext (HEW.out.trans eW2)).trans (keep_setRow W2 w.heap.size Z.toArray)).mono (fun k o ho hx => by have := Keep.lt ho; omega)
  exact bodyPost_ret (results_cell_slot rfl _ _ w.heap.size 51 Z.toArray (0, 0) _ (.int .i64 210) rfl rfl hcell Tryz.underlying51 rfl hiZ.out) rfl (HR.out _ _ ⟨hkS, rfl⟩)
end Go.Proofs.YtcmhgpgookiomaaGreat
namespace Go.Proofs.YtcmhgpgookiomaaGreat
open Go.RowKit Go.Shelf Go.Maps

attribute [local go_sem] Oper.semAt_some

set_option maxRecDepth 20000 in
set_option maxHeartbeats 2000000 in
theorem ringNew0_any (w : World) (Q : Nat) :
    Calls Tryz.prog 8 #[.pointer (some ⟨Q, 0, none⟩)] w fun e w' => ∃ R b1, e = .returned (.pointer (some ⟨R, 0, none⟩)) ∧ w'.cell? ⟨R, 1, none⟩ = some (.map (some b1)) ∧ NMap w' b1 aggK ([] : List (Nat × By)) ∧ Ext w w' := by
  have e : ∀ (A : World) (o : Obj), Ext A (A.alloc o) := fun A o => (Keep.refl _ A).alloc o
  obtain ⟨w1, h1⟩ : ∃ w1, w.alloc (.map #[] 0) = w1 := ⟨_, rfl⟩
  obtain ⟨w2, h2⟩ : ∃ w2, w1.alloc (.map #[] 0) = w2 := ⟨_, rfl⟩
  obtain ⟨w3, h3⟩ : ∃ w3, w2.alloc (.map #[] 0) = w3 := ⟨_, rfl⟩
  obtain ⟨w4, h4⟩ : ∃ w4, w3.alloc (.map #[] 0) = w4 := ⟨_, rfl⟩
  obtain ⟨w5, h5⟩ : ∃ w5, w4.alloc (.map #[] 0) = w5 := ⟨_, rfl⟩
  obtain ⟨w6, h6⟩ : ∃ w6, w5.alloc (.cells (ringC Q w.heap.size w1.heap.size w2.heap.size w3.heap.size w4.heap.size (.slice none 0 0)).toArray 75) = w6 := ⟨_, rfl⟩
  have s1 : w1.heap.size = w.heap.size + 1 := by rw [← h1]; simp
  have s2 : w2.heap.size = w.heap.size + 2 := by rw [← h2]; simp [s1]
  have s3 : w3.heap.size = w.heap.size + 3 := by rw [← h3]; simp [s2]
  have s4 : w4.heap.size = w.heap.size + 4 := by rw [← h4]; simp [s3]
  have s5 : w5.heap.size = w.heap.size + 5 := by rw [← h5]; simp [s4]
  have x1 : Ext w w1 := by rw [← h1]; exact e _ _
  have x2 : Ext w1 w2 := by rw [← h2]; exact e _ _
  have x3 : Ext w2 w3 := by rw [← h3]; exact e _ _
  have x4 : Ext w3 w4 := by rw [← h4]; exact e _ _
  have x5 : Ext w4 w5 := by rw [← h5]; exact e _ _
  have x6 : Ext w5 w6 := by rw [← h6]; exact e _ _
  have y5 := x5.trans x6
  have y4 := x4.trans y5
  have y3 := x3.trans y4
  have y2 := x2.trans y3
  have hb : Arr w6 w5.heap.size 75 (ringC Q w.heap.size w1.heap.size w2.heap.size w3.heap.size w4.heap.size (.slice none 0 0)) := by rw [← h6]; exact Arr.new _ _ _
  have hE : Ext w w6 := x1.trans y2
  have hm : NMap w6 w.heap.size aggK ([] : List (Nat × By)) := (show NMap w1 w.heap.size aggK [] by rw [← h1]; exact NMap.made w _).ext y2
  have hc : w6.cell? ⟨w5.heap.size, 1, none⟩ = some (.map (some w.heap.size)) := hb.cell (i := 1) rfl
  rw [s1, s2, s3, s4] at h6
  rw [s5] at hc
  subst h1 h2 h3 h4 h5
  simp only [ringC] at h6
  have hmm := @run_makeMap Tryz.prog
  refine calls_cps fun R0 hR0 => ?_
  have hRR := hR0 (.returned (.pointer (some ⟨w.heap.size + 5, 0, none⟩))) w6 ⟨_, _, rfl, hc, hm, hE⟩
  have H6 := Lib.hid h6
  clear hR0 hc hm hE hb y2 y3 y4 y5 x1 x2 x3 x4 x5 x6 s1 s2 s3 s4 s5 h6 e
  go_enter Tryz.func8, Tryz.ntmps8
  go_wp2
  rw [← H6.out] at hRR
  exact hRR
end Go.Proofs.YtcmhgpgookiomaaGreat
