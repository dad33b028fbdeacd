/-
  TopRevoked: look-ups in a ring; member: the box of a group's key for a member. reader: the box of a realm's key for a group. entries of a ring in memory are put; a key of an epoch is built; plain laws on boxes. rekey: a group's next key. turn: a realm's next key.
-/
import Derived.Test.YtcmhgpgookiomaaGreatM01
import Derived.Test.YtcmhgpgookiomaaGreatM11
namespace Go.Proofs.YtcmhgpgookiomaaGreat
open Go.RowKit Go.Shelf Go.Maps

attribute [local go_sem] Oper.semAt_some

theorem zero_keyed (w : World) : (zeroValue 86).run Tryz.prog w = .ok (keyedV (0, key0)) w := by kernel_rfl
theorem zero_key (w : World) : (zeroValue 51).run Tryz.prog w = .ok (aggK key0) w := by kernel_rfl
theorem zero_set (w : World) : (zeroValue 137).run Tryz.prog w = .ok (.map none) w := by kernel_rfl
theorem zero_bool (w : World) : (zeroValue 4).run Tryz.prog w = .ok (.bool false) w := by kernel_rfl
theorem info_keyed : (Tryz.prog.info? 86).map (·.size) = some 33 := by kernel_rfl
theorem exec_store_new {P : Program} {o : Oper} {a : Act} {w : World} {ty : TypeId} {x y : Operand} (ho : o.op = .store ty x y) {cells : Array Value} (hx : a.eval x = .pointer (some ⟨w.heap.size, 0, none⟩)) (hy : a.eval y = .agg cells)
    {t : TypeId} {old : Array Value} (hi : (P.info? ty).map (·.size) = some cells.size) (hold : old.size = cells.size) (h1 : cells.all (·.oneCell') = true) :
    (execOp a.eval o).run P (w.alloc (.cells old t)) = .ok .skip (w.alloc (.cells cells t)) := by
  rw [exec_store_row (w := w.alloc (.cells old t)) ho hx hy (World.alloc_heap_new w _) hi hold h1, World.setRow_alloc_new]
theorem wpList_skip0 {P : Program} {ops : Array Oper} {rest : List Oper} {o : Oper} {a : Act} {w w' : World} {Q : Exit → Act → World → Prop} (hr : (execOp a.eval o).run P w = .ok .skip w') (hw : Region.wanted o (yielded ops a.tmps) = true) (hd : o.dst = none) (h : wpList P ops Q rest a w') : wpList P ops Q (o :: rest) a w :=
  wpList_skipw hr hw (by rw [hd]; exact h)
theorem key0_len : key0.length = 32 := by simp [key0]
theorem keyedC_len {p : Nat × By} (h : p.2.length = 32) : (keyedC p).length = 33 := by simp [keyedC, h]
theorem keyedC_one (p : Nat × By) : (keyedC p).toArray.all (·.oneCell') = true := by
  rw [List.all_toArray, List.all_eq_true]
  intro u hu
  rcases List.mem_cons.1 hu with rfl | hu
  · rfl
  · exact u8v_one _ u hu
section
variable {w : World} {N R Q TB A PL : Nat} {r : PR} {s : SSt} {b1 b2 b3 b4 b5 : Nat} {L4 L5 : List (Nat × Nat)} {v : Value} {bv : List (BoxP × Value)}
theorem RingIn.secA_len (h : RingIn w N R Q TB A PL r s b1 b2 b3 b4 b5 L4 L5 v bv) (n : Nat) : (secA r n).length = 32 := by
  unfold secA
  cases hq : getA r.sec n with
  | none => exact key0_len
  | some k => exact h.ksec _ (getA_mem hq)
theorem RingIn.grpA_ok (h : RingIn w N R Q TB A PL r s b1 b2 b3 b4 b5 L4 L5 v bv) (n : Nat) : (grpA r n).2.length = 32 ∧ (grpA r n).1 ≤ 1000 := by
  unfold grpA
  cases hq : getA r.grp n with
  | none => exact ⟨key0_len, Nat.zero_le _⟩
  | some k =>
    have := h.kgrp _ (getA_mem hq)
    exact ⟨this.1, by show k.1 ≤ 1000; have := this.2; simp only at this; omega⟩
theorem RingIn.rlmA_ok (h : RingIn w N R Q TB A PL r s b1 b2 b3 b4 b5 L4 L5 v bv) (n : Nat) : (rlmA r n).2.length = 32 ∧ (rlmA r n).1 ≤ 1000 := by
  unfold rlmA
  cases hq : getA r.rlm n with
  | none => exact ⟨key0_len, Nat.zero_le _⟩
  | some k =>
    have := h.krlm _ (getA_mem hq)
    exact ⟨this.1, by show k.1 ≤ 1000; have := this.2; simp only at this; omega⟩
theorem RingIn.look_sec (h : RingIn w N R Q TB A PL r s b1 b2 b3 b4 b5 L4 L5 v bv) {n : Nat} (hn : n < 4294967296) : (Instr.lookup 71 (.map (some b1)) (.int .u32 (n : Int)) false).run Tryz.prog w = .ok (aggK (secA r n)) w := by
  have := h.sec.look1 Tryz.underlying71 (zero_key w) hn
  unfold u32n at this
  rw [this]
  unfold secA
  cases getA r.sec n <;> rfl
theorem RingIn.look_grp (h : RingIn w N R Q TB A PL r s b1 b2 b3 b4 b5 L4 L5 v bv) {n : Nat} (hn : n < 4294967296) : (Instr.lookup 72 (.map (some b2)) (.int .u32 (n : Int)) false).run Tryz.prog w = .ok (keyedV (grpA r n)) w := by
  have := h.grp.look1 Tryz.underlying72 (zero_keyed w) hn
  unfold u32n at this
  rw [this]
  unfold grpA
  cases getA r.grp n <;> rfl
theorem RingIn.look_rlm (h : RingIn w N R Q TB A PL r s b1 b2 b3 b4 b5 L4 L5 v bv) {n : Nat} (hn : n < 4294967296) : (Instr.lookup 72 (.map (some b3)) (.int .u32 (n : Int)) false).run Tryz.prog w = .ok (keyedV (rlmA r n)) w := by
  have := h.rlm.look1 Tryz.underlying72 (zero_keyed w) hn
  unfold u32n at this
  rw [this]
  unfold rlmA
  cases getA r.rlm n <;> rfl
end
/-- The cells of a key within a key of an epoch. -/
theorem keyed_mid {w : World} {b : Nat} {p : Nat × By} {t : TypeId} (h : Arr w b t (keyedC p)) (hp : p.2.length = 32) : (loadCellsFrom ⟨b, 1, none⟩ 0 32 #[]).run Tryz.prog w = .ok (p.2.map u8v).toArray w := by
  have := h.loads_mid (P := Tryz.prog) (off := 1) (n := 32) (by rw [keyedC_len hp]; omega)
  rw [this]
  have e : (keyedC p).drop 1 = p.2.map u8v := rfl
  rw [e, List.take_of_length_le (by rw [List.length_map]; omega)]

set_option maxRecDepth 20000 in
set_option maxHeartbeats 8000000 in
theorem member_any {w : World} {N R Q TB A PL : Nat} {st : St} (h : RingAt w N R Q TB A PL st) (g who : Nat) (hg : g < 4294967296) (hw : who < 4294967296) (hbx : st.1.box.length ≤ 1000000) :
    Calls Tryz.prog 58 #[.pointer (some ⟨R, 0, none⟩), .int .u32 (g : Int), .int .u32 (who : Int)] w fun e w' =>
      (memberP st g who = none → e = .returned (.int .i64 60) ∧ Keep (RgX N TB A PL) w w') ∧
      (∀ st', memberP st g who = some st' → e = .returned (.int .i64 0) ∧ RingAt w' N R Q TB A PL st' ∧ Keep (RgX N TB A PL) w w') := by
  obtain ⟨b1, b2, b3, b4, b5, L4, L5, v, bv, h⟩ := h
  obtain ⟨hl1, hl2⟩ := h.grpA_ok g
  have hl3 := h.secA_len who
  have hbox := fun A' (hE : Ext w A') => box_any ⟨b1, b2, b3, b4, b5, L4, L5, v, bv, h.ext hE⟩ ⟨1, g, (grpA st.1 g).1, who, 0, []⟩ (secA st.1 who) (grpA st.1 g).2 hl3 hl1 hbx ⟨by show 1 < 4294967296; omega, hg, by show (grpA st.1 g).1 < 4294967296; omega, hw, by show 0 < 4294967296; omega⟩
  have hP : memberP st g who = boxP st ⟨1, g, (grpA st.1 g).1, who, 0, []⟩ (secA st.1 who) (grpA st.1 g).2 := rfl
  rw [hP]
  have hlg := h.look_grp hg
  have hls := fun A' (hE : Ext w A') => (h.ext hE).look_sec hw
  obtain ⟨G, hG⟩ : ∃ G, grpA st.1 g = G := ⟨_, rfl⟩
  obtain ⟨K, hK⟩ : ∃ G, secA st.1 who = G := ⟨_, rfl⟩
  rw [hG] at hbox hl1 hl2 hlg ⊢
  rw [hK] at hbox hl3 hls ⊢
  obtain ⟨B0, hB0⟩ : ∃ x, boxP st ⟨1, g, G.1, who, 0, []⟩ K G.2 = x := ⟨_, rfl⟩
  rw [hB0] at hbox ⊢
  clear hG hK hP hB0 hbx hg hw
  obtain ⟨ge, gk⟩ := G
  simp only at hbox hl1 hl2 hlg ⊢
  obtain ⟨C, hC⟩ : ∃ C, keyedC (ge, gk) = C := ⟨_, rfl⟩
  have hCl : C.length = 33 := by rw [← hC]; exact keyedC_len hl1
  have hiC := Lib.hid (show (Tryz.prog.info? 86).map (·.size) = some C.toArray.size by rw [info_keyed, List.size_toArray, hCl])
  have hoC := Lib.hid (show 33 = C.toArray.size by rw [List.size_toArray, hCl])
  have h1C := Lib.hid (show C.toArray.all (·.oneCell') = true by rw [← hC]; exact keyedC_one _)
  have hk0 : C[0]? = some (.int .u32 (ge : Int)) := by rw [← hC]; rfl
  obtain ⟨O, hO⟩ : ∃ O, gk.map u8v = O := ⟨_, rfl⟩
  have hOl : O.length = 32 := by rw [← hO, List.length_map]; exact hl1
  have hiO := Lib.hid (show (Tryz.prog.info? 51).map (·.size) = some O.length by rw [info_key, hOl])
  have hmid : ∀ (w' : World) (b : Nat), Arr w' b 86 C → (loadCellsFrom ⟨b, 1, none⟩ 0 O.length #[]).run Tryz.prog w' = .ok O.toArray w' := fun w' b ha => by
    rw [hOl, ← hO]
    exact keyed_mid (p := (ge, gk)) (by rw [hC]; exact ha) hl1
  unfold aggK at hbox hls
  rw [hO] at hbox
  obtain ⟨S, hS⟩ : ∃ S, K.map u8v = S := ⟨_, rfl⟩
  rw [hS] at hbox hls
  unfold keyedV at hlg
  rw [hC] at hlg
  have HLG := Lib.hid hlg
  have HLS := Lib.hid hls
  have HMID := Lib.hid hmid
  have HBOX := Lib.hid hbox
  have HH := Lib.hid h
  have HK0 := Lib.hid hk0
  have c2 := h.cells.cell (i := 2) rfl
  clear hC hCl hk0 hO hOl hS hlg hls hmid hbox h hl1 hl3
  refine calls_cps fun R0 hR => ?_
  have HR := Lib.hid hR
  clear hR
  go_enter Tryz.func58, Tryz.ntmps58
  go_wp2_with (first
    | (refine wpList_val (o := ⟨some 13, _, _, _, _, _⟩) (v := .agg C.toArray) ?_ ?_ ?_; exact exec_lookup' rfl HLG.out; rfl)
    | (refine wpList_skip0 (o := ⟨none, .store _ _ _, _, _, _, _⟩) (w' := w.alloc (.cells C.toArray 86)) ?_ ?_ ?_ ?_; exact exec_store_new rfl rfl rfl hiC.out hoC.out h1C.out; rfl; rfl; refine wpList_laid1 fun W eW hG => ?_)
    | fail)
  have aG : Arr W w.heap.size 86 C := hG
  have HEW := Lib.hid eW
  clear hG eW c2
  have d0 := fun g : At W.drew => (aG.ext (((Keep.refl _ W).drew).trans g.ext)).cell HK0.out
  have d1 := fun g : At W.drew => Ext.cell (((Keep.refl _ W).drew).trans g.ext) (Ext.cell HEW.out (HH.out.cells.cell (i := 1) rfl))
  refine wp_flow (fun n => if n = 14 then .bar else .reads) (by kernel_rfl) (by kernel_rfl) ?_
  iterate 5 (refine flow_r rfl rfl ?_; go_big_quiet_step (fail); refine wpQuiet_nil ?_)
  iterate 6 (refine flow_r rfl rfl ?_; go_big_quiet_step (fail); refine wpQuiet_nil ?_)
  refine flow_v (v := .agg S.toArray) rfl rfl (fun w' hE => exec_lookup' rfl (HLS.out w' ((HEW.out.drew).trans hE))) ?_
  simp only [Act.put, List.setIfInBounds_toArray, List.set_cons_succ, List.set_cons_zero]
  refine flow_r rfl rfl ?_; go_big_quiet_step (fail); refine wpQuiet_nil ?_
  refine flow_v (v := .agg O.toArray) rfl rfl (fun w' hE => exec_load_mid' rfl rfl (HMID.out w' _ (aG.ext (((Keep.refl _ W).drew).trans hE))) Tryz.underlying51 rfl hiO.out) ?_
  simp only [Act.put, List.setIfInBounds_toArray, List.set_cons_succ, List.set_cons_zero]
  clear d0 d1
  refine flow_b rfl (by kernel_rfl) (fun w1 hE1 _ => ?_)
  have hcall := HBOX.out w1 ((HEW.out.drew).trans hE1)
  have HE1 := Lib.hid ((HEW.out.drew).trans hE1)
  clear hE1
  go_wp2_with fail
  refine hcall.mono ?_
  rintro e w2 ⟨hlo, hhi⟩
  clear hcall
  cases B0 with
  | none =>
    obtain ⟨rfl, k2⟩ := hlo rfl
    have hRR := fun w' (hE : Ext w2 w') => HR.out (.returned (.int .i64 60)) w' ⟨fun _ => ⟨rfl, ((Keep.of_ext HE1.out).trans k2).trans (Keep.of_ext hE)⟩, fun st' h => (by cases h)⟩
    clear HR hlo hhi k2
    go_wp2
    refine flow_r rfl rfl ?_; go_big_quiet_step (fail); refine wpQuiet_nil ?_
    refine flow_end (fun w9 hE9 _ => ?_)
    have hfin := hRR w9 hE9
    clear hRR
    go_wp2
    exact hfin
  | some st2 =>
    obtain ⟨rfl, hr2, k2⟩ := hhi st2 rfl
    have hRR := fun w' (hE : Ext w2 w') => HR.out (.returned (.int .i64 0)) w' ⟨fun h => (by cases h), fun st' h => (by cases h; exact ⟨rfl, hr2.ext hE, ((Keep.of_ext HE1.out).trans k2).trans (Keep.of_ext hE)⟩)⟩
    clear HR hlo hhi k2 hr2
    go_wp2
    refine flow_r rfl rfl ?_; go_big_quiet_step (fail); refine wpQuiet_nil ?_
    refine flow_end (fun w9 hE9 _ => ?_)
    have hfin := hRR w9 hE9
    clear hRR
    go_wp2
    exact hfin
end Go.Proofs.YtcmhgpgookiomaaGreat
namespace Go.Proofs.YtcmhgpgookiomaaGreat
open Go.RowKit Go.Shelf Go.Maps

attribute [local go_sem] Oper.semAt_some

def zeroK : List Value := keyedC (0, key0)
theorem exec_alloc_keyed (w : World) {o : Oper} {a : Act} (ho : o.op = .alloc 86) : (execOp a.eval o).run Tryz.prog w = .ok (.value (.pointer (some ⟨w.heap.size, 0, none⟩))) (w.alloc (.cells zeroK.toArray 86)) := by
  unfold execOp
  rw [ho]
  kernel_rfl
/-- A keyed's cells, hidden facts of them. -/
structure KC (C : List Value) (e : Nat) (O : List Value) : Prop where
  len : C.length = 33
  info : (Tryz.prog.info? 86).map (·.size) = some C.toArray.size
  size : 33 = C.toArray.size
  one : C.toArray.all (·.oneCell') = true
  c0 : C[0]? = some (.int .u32 (e : Int))
  olen : O.length = 32
  iO : (Tryz.prog.info? 51).map (·.size) = some O.length
  mid : ∀ (w' : World) (b : Nat), Arr w' b 86 C → (loadCellsFrom ⟨b, 1, none⟩ 0 O.length #[]).run Tryz.prog w' = .ok O.toArray w'
theorem kc_of {e : Nat} {k : By} (h : k.length = 32) : KC (keyedC (e, k)) e (k.map u8v) := by
  have hl := keyedC_len (p := (e, k)) h
  have ho : (k.map u8v).length = 32 := by rw [List.length_map, h]
  exact ⟨hl, by rw [info_keyed, List.size_toArray, hl], by rw [List.size_toArray, hl], keyedC_one _, rfl, ho, by rw [info_key, ho], fun w' b ha => by rw [ho]; exact keyed_mid ha h⟩

set_option maxRecDepth 20000 in
set_option maxHeartbeats 8000000 in
theorem reader_any {w : World} {N R Q TB A PL : Nat} {st : St} (h : RingAt w N R Q TB A PL st) (m g : Nat) (hm : m < 4294967296) (hg : g < 4294967296) (hbx : st.1.box.length ≤ 1000000) :
    Calls Tryz.prog 57 #[.pointer (some ⟨R, 0, none⟩), .int .u32 (m : Int), .int .u32 (g : Int)] w fun e w' =>
      (readerP st m g = none → e = .returned (.int .i64 60) ∧ Keep (RgX N TB A PL) w w') ∧
      (∀ st', readerP st m g = some st' → e = .returned (.int .i64 0) ∧ RingAt w' N R Q TB A PL st' ∧ Keep (RgX N TB A PL) w w') := by
  obtain ⟨b1, b2, b3, b4, b5, L4, L5, v, bv, h⟩ := h
  obtain ⟨hl1, hl2⟩ := h.grpA_ok g
  obtain ⟨hl3, hl4⟩ := h.rlmA_ok m
  have hbox := fun A' (hE : Ext w A') => box_any ⟨b1, b2, b3, b4, b5, L4, L5, v, bv, h.ext hE⟩ ⟨2, m, (rlmA st.1 m).1, g, (grpA st.1 g).1, []⟩ (grpA st.1 g).2 (rlmA st.1 m).2 hl1 hl3 hbx ⟨by show 2 < 4294967296; omega, hm, by show (rlmA st.1 m).1 < 4294967296; omega, hg, by show (grpA st.1 g).1 < 4294967296; omega⟩
  have hP : readerP st m g = boxP st ⟨2, m, (rlmA st.1 m).1, g, (grpA st.1 g).1, []⟩ (grpA st.1 g).2 (rlmA st.1 m).2 := rfl
  rw [hP]
  have hlg := fun A' (hE : Ext w A') => (h.ext hE).look_grp hg
  have hlm := fun A' (hE : Ext w A') => (h.ext hE).look_rlm hm
  obtain ⟨G, hG⟩ : ∃ G, grpA st.1 g = G := ⟨_, rfl⟩
  obtain ⟨M, hM⟩ : ∃ G, rlmA st.1 m = G := ⟨_, rfl⟩
  rw [hG, hM] at hbox
  rw [hG] at hl1 hl2 hlg ⊢
  rw [hM] at hl3 hl4 hlm ⊢
  obtain ⟨B0, hB0⟩ : ∃ x, boxP st ⟨2, m, M.1, g, G.1, []⟩ G.2 M.2 = x := ⟨_, rfl⟩
  rw [hB0] at hbox ⊢
  clear hG hM hP hB0 hbx hg hm
  obtain ⟨ge, gk⟩ := G
  obtain ⟨me, mk⟩ := M
  simp only at hbox hl1 hl2 hl3 hl4 hlg hlm ⊢
  have kcG := kc_of (e := ge) hl1
  have kcM := kc_of (e := me) hl3
  unfold keyedV at hlg hlm
  unfold aggK at hbox
  obtain ⟨CG, hCG⟩ : ∃ C, keyedC (ge, gk) = C := ⟨_, rfl⟩
  obtain ⟨CM, hCM⟩ : ∃ C, keyedC (me, mk) = C := ⟨_, rfl⟩
  obtain ⟨OG, hOG⟩ : ∃ O, gk.map u8v = O := ⟨_, rfl⟩
  obtain ⟨OM, hOM⟩ : ∃ O, mk.map u8v = O := ⟨_, rfl⟩
  rw [hCG] at hlg kcG
  rw [hCM] at hlm kcM
  rw [hOG] at kcG hbox
  rw [hOM] at kcM hbox
  have HLG := Lib.hid hlg
  have HLM := Lib.hid hlm
  have HBOX := Lib.hid hbox
  have HH := Lib.hid h
  have KG := Lib.hid kcG
  have KM := Lib.hid kcM
  clear hCG hCM hOG hOM hlg hlm hbox h hl1 hl3 kcG kcM
  refine calls_cps fun R0 hR => ?_
  have HR := Lib.hid hR
  clear hR
  have d2 := fun g : FY.At (fun k _ => w.heap.size ≤ k) w.drew => (((Keep.refl (fun k _ => w.heap.size ≤ k) w).drew).trans g.ext).cell (HH.out.cells.cell (i := 2) rfl) (fun o ho _ hx => by have := HH.out.cells.lt; replace hx : w.heap.size ≤ R := hx; omega)
  have d3 := fun g : FY.At (fun k _ => w.heap.size ≤ k) w.drew => (((Keep.refl (fun k _ => w.heap.size ≤ k) w).drew).trans g.ext).cell (HH.out.cells.cell (i := 3) rfl) (fun o ho _ hx => by have := HH.out.cells.lt; replace hx : w.heap.size ≤ R := hx; omega)
  have hEx : ∀ w', Keep (fun k _ => w.heap.size ≤ k) w.drew w' → Ext w w' := fun w' hk => (((Keep.refl (fun k _ => w.heap.size ≤ k) w).drew).trans hk).mono (fun k o ho hx => by have := Keep.lt ho; replace hx : w.heap.size ≤ k := hx; omega)
  go_enter Tryz.func57, Tryz.ntmps57
  go_wp2_with fail
  refine FV.wp_flow (X := fun k _ => w.heap.size ≤ k) 4 (0 :: 1 :: 2 :: 3 :: 4 :: 5 :: 6 :: 7 :: 8 :: 9 :: 10 :: 11 :: []) (fun n => decide (n < 12)) (by kernel_rfl) (by kernel_rfl) (by kernel_rfl) (by kernel_rfl) ?_
  iterate 5 (refine FV.flow_q rfl rfl rfl ?_; go_big_quiet_step (fail); refine wpQuiet_nil ?_)
  refine FV.flow_vq (v := .agg CM.toArray) rfl rfl rfl (fun w' hE => exec_lookup' rfl (HLM.out w' (hEx w' hE))) ?_
  simp only [Act.put, List.setIfInBounds_toArray, List.set_cons_succ, List.set_cons_zero]
  iterate 5 (refine FV.flow_q rfl rfl rfl ?_; go_big_quiet_step (fail); refine wpQuiet_nil ?_)
  refine FV.flow_vq (v := .agg CG.toArray) rfl rfl rfl (fun w' hE => exec_lookup' rfl (HLG.out w' (hEx w' hE))) ?_
  simp only [Act.put, List.setIfInBounds_toArray, List.set_cons_succ, List.set_cons_zero]
  refine FV.flow_lead ?_
  clear d2 d3 hEx
  refine FV.two (i := 12) (j := 13) (by kernel_rfl) ?g1 ?g2
  case' g1 =>
    refine FV.free rfl rfl (fun w1 hE1 => ⟨_, _, FW.opRuns_val rfl (exec_alloc_keyed w1 rfl), (Keep.refl _ w1).alloc _, ?_⟩)
    have e1 : Ext w w1 := ((Keep.refl _ w).drew).trans hE1
    have l7 : w.heap.size ≤ w1.heap.size := e1.size
    have a7 := Arr.new w1 86 zeroK
    have x2 : Ext w (w1.alloc (.cells zeroK.toArray 86)) := e1.alloc _
    have s2 : w1.heap.size < (w1.alloc (.cells zeroK.toArray 86)).heap.size := by simp
    obtain ⟨p7, hp7⟩ : ∃ p, w1.heap.size = p := ⟨_, rfl⟩
    obtain ⟨w2, hw2⟩ : ∃ x, w1.alloc (.cells zeroK.toArray 86) = x := ⟨_, rfl⟩
    rw [hp7, hw2] at a7 s2 ⊢
    rw [hp7] at l7
    rw [hw2] at x2
    simp only [Act.put, List.setIfInBounds_toArray, List.set_cons_succ, List.set_cons_zero]
    clear hw2 hp7 e1 hE1
    refine FV.one (i := 13) (by kernel_rfl) ?_
    refine FV.free rfl rfl (fun w3 hE3 => ⟨_, _, FW.opRuns_val rfl (exec_alloc_keyed w3 rfl), (Keep.refl _ w3).alloc _, ?_⟩)
    have e3 : Ext w w3 := x2.trans hE3
    have l8 : w.heap.size ≤ w3.heap.size := e3.size
    have a8 := Arr.new w3 86 zeroK
    obtain ⟨p8, hp8⟩ : ∃ p, w3.heap.size = p := ⟨_, rfl⟩
    have x4 : Ext w (w3.alloc (.cells zeroK.toArray 86)) := e3.alloc _
    replace a7 := (a7.ext hE3).alloc (.cells zeroK.toArray 86)
    obtain ⟨w4, hw4⟩ : ∃ x, w3.alloc (.cells zeroK.toArray 86) = x := ⟨_, rfl⟩
    rw [hp8, hw4] at a8 ⊢
    rw [hp8] at l8
    rw [hw4] at a7 x4
    have hne : p7 ≠ p8 := by have := hE3.size; omega
    simp only [Act.put, List.setIfInBounds_toArray, List.set_cons_succ, List.set_cons_zero]
    clear hw4 hp8 e3 hE3 s2 x2
  case' g2 =>
    refine FV.free rfl rfl (fun w1 hE1 => ⟨_, _, FW.opRuns_val rfl (exec_alloc_keyed w1 rfl), (Keep.refl _ w1).alloc _, ?_⟩)
    have e1 : Ext w w1 := ((Keep.refl _ w).drew).trans hE1
    have l8 : w.heap.size ≤ w1.heap.size := e1.size
    have a8 := Arr.new w1 86 zeroK
    have x2 : Ext w (w1.alloc (.cells zeroK.toArray 86)) := e1.alloc _
    have s2 : w1.heap.size < (w1.alloc (.cells zeroK.toArray 86)).heap.size := by simp
    obtain ⟨p8, hp8⟩ : ∃ p, w1.heap.size = p := ⟨_, rfl⟩
    obtain ⟨w2, hw2⟩ : ∃ x, w1.alloc (.cells zeroK.toArray 86) = x := ⟨_, rfl⟩
    rw [hp8, hw2] at a8 s2 ⊢
    rw [hp8] at l8
    rw [hw2] at x2
    simp only [Act.put, List.setIfInBounds_toArray, List.set_cons_succ, List.set_cons_zero]
    clear hw2 hp8 e1 hE1
    refine FV.one (i := 12) (by kernel_rfl) ?_
    refine FV.free rfl rfl (fun w3 hE3 => ⟨_, _, FW.opRuns_val rfl (exec_alloc_keyed w3 rfl), (Keep.refl _ w3).alloc _, ?_⟩)
    have e3 : Ext w w3 := x2.trans hE3
    have l7 : w.heap.size ≤ w3.heap.size := e3.size
    have a7 := Arr.new w3 86 zeroK
    obtain ⟨p7, hp7⟩ : ∃ p, w3.heap.size = p := ⟨_, rfl⟩
    have x4 : Ext w (w3.alloc (.cells zeroK.toArray 86)) := e3.alloc _
    replace a8 := (a8.ext hE3).alloc (.cells zeroK.toArray 86)
    obtain ⟨w4, hw4⟩ : ∃ x, w3.alloc (.cells zeroK.toArray 86) = x := ⟨_, rfl⟩
    rw [hp7, hw4] at a7 ⊢
    rw [hp7] at l7
    rw [hw4] at a8 x4
    have hne : p7 ≠ p8 := by have := hE3.size; omega
    simp only [Act.put, List.setIfInBounds_toArray, List.set_cons_succ, List.set_cons_zero]
    clear hw4 hp7 e3 hE3 s2 x2
  all_goals
    refine FV.one (i := 14) (by kernel_rfl) ?_
    refine FV.free rfl rfl (fun w5 hE5 => ⟨_, _, opRuns_skip rfl (exec_store_row rfl rfl rfl (a7.ext hE5) KM.out.info KM.out.size KM.out.one), (keep_setRow w5 p7 CM.toArray).mono (fun k o _ hx => by rw [hx]; exact l7), ?_⟩)
    replace hE5 : Ext w4 w5 := hE5
    have c7 := (a7.ext hE5).setRow CM
    have k6 := keep_setRow w5 p7 CM.toArray
    have x6 : Ext w (w5.setRow p7 CM.toArray) := ((Keep.of_ext (x4.trans hE5)).trans k6).mono (fun k o ho hx => by have := Keep.lt ho; omega)
    have c8 := (a8.ext hE5).keep k6 (fun h => hne h.symm)
    obtain ⟨w6, hw6⟩ : ∃ x, w5.setRow p7 CM.toArray = x := ⟨_, rfl⟩
    rw [hw6] at c7 c8 x6 ⊢
    clear hw6 k6 hE5 x4 a7 a8
    refine FV.one (i := 15) (by kernel_rfl) ?_
    refine FV.free rfl rfl (fun w7 hE7 => ⟨_, _, opRuns_skip rfl (exec_store_row rfl rfl rfl (c8.ext hE7) KG.out.info KG.out.size KG.out.one), (keep_setRow w7 p8 CG.toArray).mono (fun k o _ hx => by rw [hx]; exact l8), ?_⟩)
    replace hE7 : Ext w6 w7 := hE7
    have k8 := keep_setRow w7 p8 CG.toArray
    have f8 := (c8.ext hE7).setRow CG
    have x8 : Ext w (w7.setRow p8 CG.toArray) := ((Keep.of_ext (x6.trans hE7)).trans k8).mono (fun k o ho hx => by have := Keep.lt ho; omega)
    have f7 := (c7.ext hE7).keep k8 (fun h => hne h)
    obtain ⟨w8, hw8⟩ : ∃ x, w7.setRow p8 CG.toArray = x := ⟨_, rfl⟩
    rw [hw8] at f7 f8 x8 ⊢
    clear hw8 k8 hE7 x6 c7 c8
    refine FV.none (by kernel_rfl) (fun w9 hE9 => ?_)
    replace hE9 : Ext w8 w9 := hE9
    have a7 := f7.ext hE9
    have a8 := f8.ext hE9
    have x9 := x8.trans hE9
    clear f7 f8 x8 hE9 hne
    have z7 := a7.cell KM.out.c0
    have z8 := a8.cell KG.out.c0
    have hcall := HBOX.out w9 x9
    have HX9 := Lib.hid x9
    have LM := Lib.hid (KM.out.mid w9 p7 a7)
    have LG := Lib.hid (KG.out.mid w9 p8 a8)
    clear x9 a7 a8 l7 l8
    simp only [Act.put]
    go_wp2_with (first
      | (refine wpList_val (o := ⟨some 30, _, _, _, _, _⟩) (v := .agg OG.toArray) ?_ ?_ ?_; exact exec_load_mid' rfl rfl LG.out Tryz.underlying51 rfl KG.out.iO; rfl)
      | (refine wpList_val (o := ⟨some 32, _, _, _, _, _⟩) (v := .agg OM.toArray) ?_ ?_ ?_; exact exec_load_mid' rfl rfl LM.out Tryz.underlying51 rfl KM.out.iO; rfl)
      | fail)
    refine hcall.mono ?_
    rintro e w10 ⟨hlo, hhi⟩
    clear hcall z7 z8 LM LG
    cases B0 with
    | none =>
      obtain ⟨rfl, k2⟩ := hlo rfl
      have hRR := HR.out (.returned (.int .i64 60)) w10 ⟨fun _ => ⟨rfl, (Keep.of_ext HX9.out).trans k2⟩, fun st' h => (by cases h)⟩
      clear HR hlo hhi k2
      go_wp2
      exact hRR
    | some st2 =>
      obtain ⟨rfl, hr2, k2⟩ := hhi st2 rfl
      have hRR := HR.out (.returned (.int .i64 0)) w10 ⟨fun h => (by cases h), fun st' h => (by cases h; exact ⟨rfl, hr2, (Keep.of_ext HX9.out).trans k2⟩)⟩
      clear HR hlo hhi k2 hr2
      go_wp2
      exact hRR
end Go.Proofs.YtcmhgpgookiomaaGreat
namespace Go.Proofs.YtcmhgpgookiomaaGreat
open Go.RowKit Go.Shelf Go.Maps

attribute [local go_sem] Oper.semAt_some

set_option maxRecDepth 20000 in
theorem build_keyed (l : List Value) (h : l.length = 32) (e : Nat) (w : World) : (Instr.build 86 #[(0, .int .u32 (e : Int)), (1, .agg l.toArray)]).run Tryz.prog w = .ok (.agg (Value.int .u32 (e : Int) :: l).toArray) w := by
  match l, h with
  | [b0, b1, b2, b3, b4, b5, b6, b7, b8, b9, b10, b11, b12, b13, b14, b15, b16, b17, b18, b19, b20, b21, b22, b23, b24, b25, b26, b27, b28, b29, b30, b31], _ => exact run_build w _ _ _ (by kernel_rfl)
theorem exec_build2 {P : Program} {w : World} {o : Oper} {a : Act} {t : TypeId} {i0 i1 : Nat} {x0 x1 : Operand} {v0 v1 v : Value} (ho : o.op = .build t #[(i0, x0), (i1, x1)]) (h0 : a.eval x0 = v0) (h1 : a.eval x1 = v1)
    (h : (Instr.build t #[(i0, v0), (i1, v1)]).run P w = .ok v w) : (execOp a.eval o).run P w = .ok (.value v) w := by
  unfold execOp
  simp [ho, h0, h1, h, Result.andThen]

/-- Another ring but for its boxes. -/
structure Like (r r' : PR) : Prop where
  sec : r'.sec = r.sec
  grp : r'.grp = r.grp
  rlm : r'.rlm = r.rlm
  mem : r'.mem = r.mem
  rdr : r'.rdr = r.rdr
theorem boxP_like {st st' : St} {b : BoxP} {kek k : By} (h : boxP st b kek k = some st') : Like st.1 st'.1 ∧ st'.1.box.length = st.1.box.length + 1 := by
  unfold boxP at h
  cases hw : wrapP st.2 kek k with
  | none => rw [hw] at h; cases h
  | some x => rw [hw] at h; cases h; exact ⟨⟨rfl, rfl, rfl, rfl, rfl⟩, by simp⟩
theorem memberP_like {st st' : St} {g who : Nat} (h : memberP st g who = some st') : Like st.1 st'.1 ∧ st'.1.box.length = st.1.box.length + 1 := boxP_like h
theorem readerP_like {st st' : St} {m g : Nat} (h : readerP st m g = some st') : Like st.1 st'.1 ∧ st'.1.box.length = st.1.box.length + 1 := boxP_like h
theorem eachP_step (f : St → Nat → Option St) (l : List Nat) (i n : Nat) (hi : l[i]? = some n) (st : St) : eachP f (l.drop i) st = (f st n).bind (eachP f (l.drop (i + 1))) := by
  obtain ⟨h1, h2⟩ := List.getElem?_eq_some_iff.1 hi
  rw [List.drop_eq_getElem_cons h1, h2]
  rfl
theorem eachP_end (f : St → Nat → Option St) (l : List Nat) (st : St) : eachP f (l.drop l.length) st = some st := by
  rw [List.drop_length]; rfl
theorem draw_tape {s s' : SSt} {k : By} (h : drawP s = some (k, s')) : s'.tape.length + 32 = s.tape.length ∧ k.length = 32 := by
  unfold drawP at h
  split at h
  · cases h
  · rename_i hl
    cases h
    simp only [List.length_drop, List.length_take]
    omega
section
variable {w w' : World} {N R Q TB A PL : Nat} {r : PR} {s s' : SSt} {b1 b2 b3 b4 b5 : Nat} {L4 L5 : List (Nat × Nat)} {v : Value} {bv : List (BoxP × Value)}
/-- The suite alone has turned. -/
theorem RingIn.suited (h : RingIn w N R Q TB A PL r s b1 b2 b3 b4 b5 L4 L5 v bv) (hk : Keep (SuiteX TB A PL) w w') (hs : SuiteAt w' Q TB A PL s') (ht : s'.tape.length ≤ s.tape.length) : RingIn w' N R Q TB A PL r s' b1 b2 b3 b4 b5 L4 L5 v bv := by
  have hc := h.cells.keep hk (SuiteX.cells (by decide))
  have hb := h.box.keep hk (fun _ _ _ => SuiteX.cells (by decide)) (fun _ _ _ => SuiteX.cells (by decide))
  have := h.boxed (hk.mono (fun _ _ _ hx => .inl hx)) hs hc hb ht
  rw [h.boxes] at this
  exact this
def MapX (B : Nat) (k : Nat) (o : Obj) : Prop := k = B ∧ ∃ es c, o = .map es c
theorem MapX.cells {B k : Nat} {cur : Array Value} {t : TypeId} {fr : Nat × Nat} : ¬ MapX B k (.cells cur t fr) := fun h => by obtain ⟨_, _, _, h⟩ := h; cases h
theorem MapX.rg {B k : Nat} {o : Obj} (hB : N ≤ B) (h : MapX B k o) : RgX N TB A PL k o := .inr ⟨by rw [h.1]; exact hB, .inl h.2⟩
theorem mapX_ne {B b : Nat} {es : Array MapEntry} {c : Nat} (h : b ≠ B) : ¬ MapX B b (.map es c) := fun hx => h hx.1
/-- What a turned map of the ring's own leaves as it was. -/
theorem RingIn.rest {B : Nat} (h : RingIn w N R Q TB A PL r s b1 b2 b3 b4 b5 L4 L5 v bv) (hB : N ≤ B) (hk : Keep (MapX B) w w') :
    Arr w' R 75 (ringC Q b1 b2 b3 b4 b5 v) ∧ BoxesAt w' N v bv ∧ SuiteAt w' Q TB A PL s :=
  ⟨h.cells.keep hk MapX.cells, h.box.keep hk (fun _ _ _ => MapX.cells) (fun _ _ _ => MapX.cells),
   h.suite.keep hk (fun _ => MapX.cells) (fun _ => MapX.cells) (fun _ _ => MapX.cells) (fun _ _ => mapX_ne (by have := h.low.2.2.1; omega)) (fun _ _ => mapX_ne (by have := h.low.2.2.2; omega))⟩
theorem RingIn.putSec (h : RingIn w N R Q TB A PL r s b1 b2 b3 b4 b5 L4 L5 v bv) {n : Nat} {x : By} (hk : Keep (MapX b1) w w') (hm : NMap w' b1 aggK (putA r.sec n x)) (hx : x.length = 32) :
    RingIn w' N R Q TB A PL { r with sec := putA r.sec n x } s b1 b2 b3 b4 b5 L4 L5 v bv := by
  obtain ⟨h1, h2, h3⟩ := h.rest h.high.2.1 hk
  exact
  { h with
    cells := h1
    sec := hm
    grp := h.grp.block hk (fun _ _ => mapX_ne h.dis.1.symm)
    rlm := h.rlm.block hk (fun _ _ => mapX_ne h.dis.2.1.symm)
    mem := h.mem.keep hk (fun _ _ => mapX_ne h.dis.2.2.1.symm) (fun g b _ _ hg => mapX_ne (h.h4 g b hg).2.1)
    rdr := h.rdr.keep hk (fun _ _ => mapX_ne h.dis.2.2.2.1.symm) (fun g b _ _ hg => mapX_ne (h.h5 g b hg).2.1)
    box := h2
    suite := h3
    ksec := fun p hp => by
      rcases mem_put hp with rfl | hp
      · exact hx
      · exact h.ksec p hp }
theorem RingIn.putGrp (h : RingIn w N R Q TB A PL r s b1 b2 b3 b4 b5 L4 L5 v bv) {n : Nat} {x : Nat × By} (hk : Keep (MapX b2) w w') (hm : NMap w' b2 keyedV (putA r.grp n x)) (hx : x.2.length = 32) (he : x.1 * 32 + s.tape.length ≤ 32000) (hin : In r.mem n) :
    RingIn w' N R Q TB A PL { r with grp := putA r.grp n x } s b1 b2 b3 b4 b5 L4 L5 v bv := by
  obtain ⟨h1, h2, h3⟩ := h.rest h.high.2.2.1 hk
  exact
  { h with
    cells := h1
    sec := h.sec.block hk (fun _ _ => mapX_ne h.dis.1)
    grp := hm
    rlm := h.rlm.block hk (fun _ _ => mapX_ne h.dis.2.2.2.2.1.symm)
    mem := h.mem.keep hk (fun _ _ => mapX_ne h.dis.2.2.2.2.2.1.symm) (fun g b _ _ hg => mapX_ne (h.h4 g b hg).2.2.1)
    rdr := h.rdr.keep hk (fun _ _ => mapX_ne h.dis.2.2.2.2.2.2.1.symm) (fun g b _ _ hg => mapX_ne (h.h5 g b hg).2.2.1)
    box := h2
    suite := h3
    kgrp := fun p hp => by
      rcases mem_put hp with rfl | hp
      · exact ⟨hx, he⟩
      · exact h.kgrp p hp
    hasm := fun g hg => by
      rcases (in_put h.grp.rise).1 hg with rfl | hg
      · exact hin
      · exact h.hasm g hg }
theorem RingIn.putRlm (h : RingIn w N R Q TB A PL r s b1 b2 b3 b4 b5 L4 L5 v bv) {n : Nat} {x : Nat × By} (hk : Keep (MapX b3) w w') (hm : NMap w' b3 keyedV (putA r.rlm n x)) (hx : x.2.length = 32) (he : x.1 * 32 + s.tape.length ≤ 32000) (hin : In r.rdr n) :
    RingIn w' N R Q TB A PL { r with rlm := putA r.rlm n x } s b1 b2 b3 b4 b5 L4 L5 v bv := by
  obtain ⟨h1, h2, h3⟩ := h.rest h.high.2.2.2.1 hk
  exact
  { h with
    cells := h1
    sec := h.sec.block hk (fun _ _ => mapX_ne h.dis.2.1)
    grp := h.grp.block hk (fun _ _ => mapX_ne h.dis.2.2.2.2.1)
    rlm := hm
    mem := h.mem.keep hk (fun _ _ => mapX_ne h.dis.2.2.2.2.2.2.2.1.symm) (fun g b _ _ hg => mapX_ne (h.h4 g b hg).2.2.2.1)
    rdr := h.rdr.keep hk (fun _ _ => mapX_ne h.dis.2.2.2.2.2.2.2.2.1.symm) (fun g b _ _ hg => mapX_ne (h.h5 g b hg).2.2.2.1)
    box := h2
    suite := h3
    krlm := fun p hp => by
      rcases mem_put hp with rfl | hp
      · exact ⟨hx, he⟩
      · exact h.krlm p hp
    hasr := fun g hg => by
      rcases (in_put h.rlm.rise).1 hg with rfl | hg
      · exact hin
      · exact h.hasr g hg }
theorem RingIn.next_rlm (h : RingIn w N R Q TB A PL r s b1 b2 b3 b4 b5 L4 L5 v bv) (n : Nat) (hs : 32 ≤ s.tape.length) : ((rlmA r n).1 + 1) * 32 + (s.tape.length - 32) ≤ 32000 := by
  unfold rlmA
  cases hq : getA r.rlm n with
  | none => have := h.suite.lt; simp only [Option.getD_none]; omega
  | some k => have := (h.krlm _ (getA_mem hq)).2; simp only [Option.getD_some] at this ⊢; omega
theorem RingIn.next_grp (h : RingIn w N R Q TB A PL r s b1 b2 b3 b4 b5 L4 L5 v bv) (n : Nat) (hs : 32 ≤ s.tape.length) : ((grpA r n).1 + 1) * 32 + (s.tape.length - 32) ≤ 32000 := by
  unfold grpA
  cases hq : getA r.grp n with
  | none => have := h.suite.lt; simp only [Option.getD_none]; omega
  | some k => have := (h.kgrp _ (getA_mem hq)).2; simp only [Option.getD_some] at this ⊢; omega
/-- A realm's readers, looked up. -/
theorem RingIn.look_rdr (h : RingIn w N R Q TB A PL r s b1 b2 b3 b4 b5 L4 L5 v bv) {n : Nat} (hn : n < 4294967296) (hin : In r.rdr n) : ∃ b, (Instr.lookup 73 (.map (some b5)) (.int .u32 (n : Int)) false).run Tryz.prog w = .ok (.map (some b)) w ∧ NMap w b SetV (rdrA r n) := by
  obtain ⟨s0, hs0⟩ := Option.isSome_iff_exists.1 hin
  obtain ⟨b, hb, hm⟩ := h.rdr.at hs0
  refine ⟨b, ?_, by unfold rdrA; rw [hs0]; exact hm⟩
  have := h.rdr.map.look1 Tryz.underlying73 (zero_set w) hn
  rw [hb] at this
  exact this
/-- A group's members, looked up. -/
theorem RingIn.look_mem (h : RingIn w N R Q TB A PL r s b1 b2 b3 b4 b5 L4 L5 v bv) {n : Nat} (hn : n < 4294967296) (hin : In r.mem n) : ∃ b, (Instr.lookup 73 (.map (some b4)) (.int .u32 (n : Int)) false).run Tryz.prog w = .ok (.map (some b)) w ∧ NMap w b SetV (memA r n) := by
  obtain ⟨s0, hs0⟩ := Option.isSome_iff_exists.1 hin
  obtain ⟨b, hb, hm⟩ := h.mem.at hs0
  refine ⟨b, ?_, by unfold memA; rw [hs0]; exact hm⟩
  have := h.mem.map.look1 Tryz.underlying73 (zero_set w) hn
  rw [hb] at this
  exact this
end
end Go.Proofs.YtcmhgpgookiomaaGreat
namespace Go.Proofs.YtcmhgpgookiomaaGreat
open Go.RowKit Go.Shelf Go.Maps

attribute [local go_sem] Oper.semAt_some

set_option maxRecDepth 20000 in
theorem field_keyed (l : List Value) (h : l.length = 32) (e : Nat) (w : World) : (Instr.field 86 (.agg (Value.int .u32 (e : Int) :: l).toArray) 0).run Tryz.prog w = .ok (.int .u32 (e : Int)) w := by
  match l, h with
  | [b0, b1, b2, b3, b4, b5, b6, b7, b8, b9, b10, b11, b12, b13, b14, b15, b16, b17, b18, b19, b20, b21, b22, b23, b24, b25, b26, b27, b28, b29, b30, b31], _ => refine Eq.trans (b := .ok (.int .u32 (e : Int)) w) ?_ rfl; kernel_rfl
theorem exec_field' {P : Program} {w : World} {o : Oper} {a : Act} {t : TypeId} {x : Operand} {i : Nat} {u v : Value} (ho : o.op = .field t x i) (hx : a.eval x = u) (h : (Instr.field t u i).run P w = .ok v w) : (execOp a.eval o).run P w = .ok (.value v) w := by
  unfold execOp
  simp [ho, hx, h, Result.andThen]

set_option maxRecDepth 20000 in
set_option maxHeartbeats 8000000 in
theorem rekey_any {w : World} {N R Q TB A PL : Nat} {st : St} (h : RingAt w N R Q TB A PL st) (g : Nat) (hg : g < 4294967296) (hin : In st.1.grp g) (hbx : st.1.box.length ≤ 900000) (hgl : st.1.grp.length ≤ 1000) (hsz : (memA st.1 g).length ≤ 12) :
    Calls Tryz.prog 59 #[.pointer (some ⟨R, 0, none⟩), .int .u32 (g : Int)] w fun e w' =>
      (rekeyP st g = none → e = .returned (.int .i64 60) ∧ Keep (RgX N TB A PL) w w') ∧
      (∀ st', rekeyP st g = some st' → e = .returned (.int .i64 0) ∧ RingAt w' N R Q TB A PL st' ∧ Keep (RgX N TB A PL) w w') := by
  obtain ⟨b1, b2, b3, b4, b5, L4, L5, v, bv, h⟩ := h
  have hd := draw_any h.suite
  have c0 := h.cells.cell (i := 0) rfl
  have HH := Lib.hid h
  refine calls_cps fun R0 hR => ?_
  have HR := Lib.hid hR
  clear hR h
  have HBX := Lib.hid hbx
  have HGL := Lib.hid hgl
  have HSZ := Lib.hid hsz
  clear hbx hgl hsz
  unfold aggK at hd
  go_enter Tryz.func59, Tryz.ntmps59
  go_wp2_with fail
  refine hd.mono ?_
  rintro e w1 ⟨hlo, hhi⟩
  clear hd c0
  cases hdr : drawP st.2 with
  | none =>
    obtain ⟨rfl, e1⟩ := hlo hdr
    have hn : rekeyP st g = none := by unfold rekeyP; rw [hdr]; rfl
    have hRR := fun w' (hE : Ext w1 w') => HR.out (.returned (.int .i64 60)) w' ⟨fun _ => ⟨rfl, Keep.of_ext (e1.trans hE)⟩, fun st' h => (by rw [hn] at h; cases h)⟩
    have HRR := Lib.hid hRR
    obtain ⟨Z, hZ⟩ : ∃ Z, key0.map u8v = Z := ⟨_, rfl⟩
    have hi := Lib.hid (show (Tryz.prog.info? 51).map (·.size) = some Z.toArray.size by rw [info_key, ← hZ]; rfl)
    have ho := Lib.hid (show 32 = Z.toArray.size by rw [← hZ]; rfl)
    have h1 := Lib.hid (show Z.toArray.all (·.oneCell') = true by rw [← hZ]; exact all_one _)
    rw [hZ]
    clear hRR hZ HR hlo hhi hdr hn e1
    go_wp2_with (first
      | (refine wpList_skip0 (o := ⟨none, .store _ _ _, _, _, _, _⟩) (w' := w1.alloc (.cells Z.toArray 51)) ?_ ?_ ?_ ?_; exact exec_store_new rfl rfl rfl hi.out ho.out h1.out; rfl; rfl; refine wpList_laid1 fun W eW hG => ?_)
      | fail)
    exact HRR.out _ eW
  | some x =>
    obtain ⟨k, s1⟩ := x
    obtain ⟨rfl, hs1, k1⟩ := hhi k s1 hdr
    obtain ⟨ht, hkl⟩ := draw_tape hdr
    have hr1 := HH.out.suited k1 hs1 (by omega)
    have hP : rekeyP st g = eachP (fun st who => memberP st g who) (numsA (memA st.1 g)) ({ st.1 with grp := putA st.1.grp g ((grpA st.1 g).1 + 1, k) }, s1) := by unfold rekeyP; rw [hdr]; rfl
    have hep : ((grpA st.1 g).1 + 1) * 32 + s1.tape.length ≤ 32000 := by
      have := HH.out.next_grp g (by omega)
      rwa [show s1.tape.length = st.2.tape.length - 32 by omega]
    have hlook := fun A' (hE : Ext w1 A') => (hr1.ext hE).look_grp hg
    have hput := fun A' (hE : Ext w1 A') => (hr1.ext hE).grp.put (V := keyedV) Tryz.underlying72 (by have := HGL.out; unfold maxLen; omega) hg ((grpA st.1 g).1 + 1, k)
    obtain ⟨hl1, hl2⟩ := hr1.grpA_ok g
    have kcO := kc_of (e := (grpA st.1 g).1) hl1
    have kcN := kc_of (e := (grpA st.1 g).1 + 1) hkl
    have hcells : (∀ w, (Instr.build 86 #[(0, .int .u32 (((grpA st.1 g).1 : Int) + 1)), (1, .agg (k.map u8v).toArray)]).run Tryz.prog w = .ok (.agg (keyedC ((grpA st.1 g).1 + 1, k)).toArray) w) := fun w => by
      have := build_keyed (k.map u8v) (by rw [List.length_map, hkl]) ((grpA st.1 g).1 + 1) w
      rw [Int.natCast_add, Int.natCast_one] at this
      exact this
    have hfield : ∀ w, (Instr.field 86 (.agg (keyedC (grpA st.1 g)).toArray) 0).run Tryz.prog w = .ok (.int .u32 ((grpA st.1 g).1 : Int)) w := fun w => field_keyed ((grpA st.1 g).2.map u8v) (by rw [List.length_map, hl1]) (grpA st.1 g).1 w
    have hput' : ∀ A', Ext w1 A' → ∃ w', (Instr.mapUpdate 72 (.map (some b2)) (.int .u32 (g : Int)) (.agg (keyedC ((grpA st.1 g).1 + 1, k)).toArray)).run Tryz.prog A' = .ok () w' ∧ NMap w' b2 keyedV (putA st.1.grp g ((grpA st.1 g).1 + 1, k)) ∧ Keep (MapX b2) A' w' := hput
    have hlook' : ∀ A', Ext w1 A' → (Instr.lookup 72 (.map (some b2)) (.int .u32 (g : Int)) false).run Tryz.prog A' = .ok (.agg (keyedC (grpA st.1 g)).toArray) A' := hlook
    obtain ⟨CO, hCO⟩ : ∃ C, keyedC (grpA st.1 g) = C := ⟨_, rfl⟩
    obtain ⟨CN, hCN⟩ : ∃ C, keyedC ((grpA st.1 g).1 + 1, k) = C := ⟨_, rfl⟩
    obtain ⟨O, hO⟩ : ∃ O, k.map u8v = O := ⟨_, rfl⟩
    obtain ⟨G2, hG2⟩ : ∃ G2, putA st.1.grp g ((grpA st.1 g).1 + 1, k) = G2 := ⟨_, rfl⟩
    have hgrp := fun w' (hm : NMap w' b2 keyedV G2) A' (hE : Ext w1 A') (hk : Keep (MapX b2) A' w') => (hr1.ext hE).putGrp (n := g) (x := ((grpA st.1 g).1 + 1, k)) hk (by rw [hG2]; exact hm) hkl hep (HH.out.hasm g hin)
    rw [hG2] at hgrp hP hput'
    obtain ⟨E, hE0⟩ : ∃ E, (grpA st.1 g).1 = E := ⟨_, rfl⟩
    rw [hCO] at hfield hlook'
    rw [hCN] at hcells hput'
    rw [hO] at hcells ⊢
    rw [hE0] at hcells hfield hl2
    have hOl : O.length = 32 := by rw [← hO, List.length_map, hkl]
    have hi := Lib.hid (show (Tryz.prog.info? 51).map (·.size) = some O.toArray.size by rw [info_key, List.size_toArray, hOl])
    have ho := Lib.hid (show 32 = O.toArray.size by rw [List.size_toArray, hOl])
    have h1 := Lib.hid (show O.toArray.all (·.oneCell') = true by rw [← hO]; exact all_one _)
    have HR1 := Lib.hid hr1
    have HC := Lib.hid hcells
    have HF := Lib.hid hfield
    have HPUT := Lib.hid hput'
    have HL := Lib.hid hlook'
    have HGRP := Lib.hid hgrp
    have HP := Lib.hid hP
    have HK1 := Lib.hid k1
    have HINM := Lib.hid (HH.out.hasm g hin)
    clear hlook hput hput' hlook' hcells hfield hgrp hr1 hP k1 hs1 hlo hhi ht hkl hep kcO kcN hCO hCN hO hG2 hE0 hOl hdr hin hl1
    go_wp2_with (first
      | (refine wpList_skip0 (o := ⟨none, .store _ _ _, _, _, _, _⟩) (w' := w1.alloc (.cells O.toArray 51)) ?_ ?_ ?_ ?_; exact exec_store_new rfl rfl rfl hi.out ho.out h1.out; rfl; rfl; refine wpList_laid1 fun W eW hG => ?_)
      | fail)
    have aK : Arr W w1.heap.size 51 O := hG
    have HEW := Lib.hid eW
    clear hG eW
    have d2 := fun g : At W.drew => Ext.cell (((Keep.refl _ W).drew).trans g.ext) (Ext.cell HEW.out (HR1.out.cells.cell (i := 2) rfl))
    refine wp_flow (fun n => if n = 15 then .bar else .reads) (by kernel_rfl) (by kernel_rfl) ?_
    iterate 10 (refine flow_r rfl rfl ?_; go_big_quiet_step (fail); refine wpQuiet_nil ?_)
    refine flow_v (v := .agg CO.toArray) rfl rfl (fun w' hE => exec_lookup' rfl (HL.out w' ((HEW.out.drew).trans hE))) ?_
    simp only [Act.put, List.setIfInBounds_toArray, List.set_cons_succ, List.set_cons_zero]
    refine flow_v (v := .int .u32 (E : Int)) rfl rfl (fun w' hE => exec_field' rfl rfl (HF.out w')) ?_
    simp only [Act.put, List.setIfInBounds_toArray, List.set_cons_succ, List.set_cons_zero]
    refine flow_r rfl rfl ?_; go_big_quiet_step (fail); refine wpQuiet_nil ?_
    refine flow_v (v := .agg O.toArray) rfl rfl (fun w' hE => exec_load_row rfl rfl (aK.ext (((Keep.refl _ W).drew).trans hE)) Tryz.underlying51 rfl hi.out) ?_
    simp only [Act.put, List.setIfInBounds_toArray, List.set_cons_succ, List.set_cons_zero]
    refine flow_v (v := .agg CN.toArray) rfl rfl (fun w' hE => exec_build2 rfl rfl rfl (HC.out w')) ?_
    simp only [Act.put, List.setIfInBounds_toArray, List.set_cons_succ, List.set_cons_zero]
    clear d2
    refine flow_b rfl (by kernel_rfl) (fun w2 hE2 _ => ?_)
    have e2 : Ext w1 w2 := (HEW.out.drew).trans hE2
    obtain ⟨w3, hrun, hm3, hk3⟩ := HPUT.out w2 e2
    have hr3 := HGRP.out w3 hm3 w2 e2 hk3
    have HRUN := Lib.hid hrun
    have HK3 := Lib.hid (((HK1.out.mono (fun _ _ _ h => .inl h)).trans (Keep.of_ext e2)).trans (hk3.mono (fun k o _ hx => hx.rg (TB := TB) (A := A) (PL := PL) HR1.out.high.2.2.1)))
    have HR3 := Lib.hid hr3
    clear hE2 hrun hm3 hk3 hr3 e2
    go_wp2_with (first
      | (refine wpList_skipw (o := ⟨none, .mapUpdate _ _ _ _, _, _, _, _⟩) (w' := w3) ?_ ?_ ?_; exact exec_mapUpdate' rfl HRUN.out; rfl)
      | fail)
    refine flow_end (fun w4 hE4 _ => ?_)
    obtain ⟨bm, hlm, hms⟩ := (HR3.out.ext hE4).look_mem hg HINM.out
    have c4 := (HR3.out.ext hE4).cells.cell (i := 4) rfl
    replace hms : NMap w4 bm SetV (memA st.1 g) := hms
    have hris := rising_any hms HSZ.out
    have HLM := Lib.hid hlm
    have HMS := Lib.hid hms
    have HE4 := Lib.hid hE4
    clear hlm hE4 hms
    go_wp2_with (first
      | (refine wpList_val (o := ⟨some 41, _, _, _, _, _⟩) (v := .map (some bm)) ?_ ?_ ?_; exact exec_lookup' rfl HLM.out; rfl)
      | fail)
    refine hris.mono ?_
    rintro e w5 ⟨vm, rfl, hown, e5⟩
    obtain ⟨am, cm, rfl, _⟩ := owns_row hown
    have hlts : ∀ x ∈ numsA (memA st.1 g), x < 4294967296 := fun x hx => by
      obtain ⟨p, hp, rfl⟩ := List.mem_map.1 hx
      exact HMS.out.lt p hp
    have hlen : (numsA (memA st.1 g)).length ≤ 12 := by have := HSZ.out; simpa [numsA] using this
    have hr5 : RingAt w5 N R Q TB A PL ({ st.1 with grp := G2 }, s1) := (show RingAt w3 N R Q TB A PL ({ st.1 with grp := G2 }, s1) from ⟨b1, b2, b3, b4, b5, L4, L5, v, bv, HR3.out⟩).ext (HE4.out.trans e5)
    have hb5 : ({ st.1 with grp := G2 } : PR).box.length ≤ 900000 := HBX.out
    have k5 : Keep (RgX N TB A PL) w w5 := HK3.out.trans (Keep.of_ext (HE4.out.trans e5))
    obtain ⟨F, hF⟩ : ∃ F, (fun st who => memberP st g who) = F := ⟨_, rfl⟩
    have hF' : ∀ st who, memberP st g who = F st who := fun st who => by rw [← hF]
    have hPP := HP.out
    rw [hF] at hPP
    obtain ⟨ms, hms0⟩ : ∃ ms, numsA (memA st.1 g) = ms := ⟨_, rfl⟩
    obtain ⟨st2, hst2⟩ : ∃ s2 : St, (({ st.1 with grp := G2 }, s1) : St) = s2 := ⟨_, rfl⟩
    rw [hst2, hms0] at hPP
    rw [hst2] at hr5
    replace hb5 : st2.1.box.length ≤ 900000 := by rw [← hst2]; exact hb5
    rw [hms0] at hown hlts hlen ⊢
    obtain ⟨n, hn⟩ : ∃ n, ms.length = n := ⟨_, rfl⟩
    rw [hn] at hown hlen ⊢
    have HPP := Lib.hid hPP
    have HFF := Lib.hid hF'
    have HOWN := Lib.hid hown
    have HLT := Lib.hid hlts
    have HN := Lib.hid hn
    have HR5 := Lib.hid hr5
    have HK5 := Lib.hid k5
    clear hris c4 hown e5 hlts hr5 k5 hF hF' hPP hms0 hst2 hn HMS HLM HR3 HP HK3 HE4 HINM HGRP HPUT HC HF HL HR1 HK1 aK HEW hi ho h1
    go_wp2
    go_loopw [44] (fun i wr => ∃ (j : Nat) (sj : St), j ≤ n ∧ i = .int .i64 (j : Int) ∧ Hid (RingAt wr N R Q TB A PL sj) ∧ Hid (eachP F ms st2 = eachP F (ms.drop j) sj) ∧ sj.1.box.length ≤ 900000 + j ∧ Hid (Keep (RgX N TB A PL) w5 wr)) (fun i _ => n - (vI i).toNat)
    case atStart => exact ⟨0, st2, by omega, rfl, HR5, Lib.hid (by rw [List.drop_zero]), hb5, Lib.hid (Keep.refl _ _)⟩
    case round =>
      obtain ⟨j, sj, hj, rfl, HT, HE, hbj, HKj⟩ := hrel
      by_cases hlt : j < n
      · obtain ⟨x, hx⟩ : ∃ x, ms[j]? = some x := ⟨_, List.getElem?_eq_getElem (by have := HN.out; omega)⟩
        obtain ⟨_, _, q, hrj⟩ := owns_row (HKj.out.owns' HOWN.out (fun _ _ _ => RgX.cells (by decide) (by decide) (by decide)))
        cases q
        obtain ⟨bv', ov, rfl, hcell⟩ := hrj.2.2.2.2 (by omega)
        have hxv : (ms.map u32n)[j]? = some (.int .u32 (x : Int)) := by rw [List.getElem?_map, hx]; rfl
        have ck := hcell j _ hxv
        have hcall := member_any HT.out g x hg (HLT.out x (List.mem_of_getElem? hx)) (by omega)
        rw [HFF.out] at hcall
        have hstep := HE.out
        rw [eachP_step F ms j x hx] at hstep
        have HST := Lib.hid hstep
        have HX := Lib.hid hx
        clear hstep hx hxv hcell hrj
        go_wp2_with fail
        refine hcall.mono ?_
        rintro e w6 ⟨hlo, hhi⟩
        clear hcall ck
        cases hb : F sj x with
        | none =>
          obtain ⟨rfl, k6⟩ := hlo hb
          have hn : rekeyP st g = none := by rw [HPP.out, HST.out, hb]; rfl
          have hRR := HR.out (.returned (.int .i64 60)) w6 ⟨fun _ => ⟨rfl, (HK5.out.trans HKj.out).trans k6⟩, fun st' h => (by rw [hn] at h; cases h)⟩
          clear HR hlo hhi hb hn k6
          go_wp2
          exact hRR
        | some s6 =>
          obtain ⟨rfl, hr6, k6⟩ := hhi s6 hb
          have hst6 : eachP F ms st2 = eachP F (ms.drop (j + 1)) s6 := by rw [HST.out, hb]; rfl
          have hl6 : s6.1.box.length ≤ 900000 + (j + 1) := by
            have := (memberP_like (show memberP sj g x = some s6 by rw [HFF.out]; exact hb)).2
            omega
          have HR6 := Lib.hid hr6
          have HS6 := Lib.hid hst6
          have HL6 := Lib.hid hl6
          have HK6 := Lib.hid (HKj.out.trans k6)
          clear hlo hhi hb hr6 hst6 hl6 k6
          go_wp2
          go_roundw
          case rel => exact ⟨j + 1, s6, by omega, by go_num, HR6, HS6, HL6.out, HK6⟩
          case measure => simp [vI]; omega
      · obtain rfl : j = n := by omega
        have hfin : rekeyP st g = some sj := by rw [HPP.out, HE.out, ← HN.out, eachP_end]
        have hRR := HR.out (.returned (.int .i64 0)) wr ⟨fun h => (by rw [hfin] at h; cases h), fun st' h => (by rw [hfin] at h; cases h; exact ⟨rfl, HT.out, HK5.out.trans HKj.out⟩)⟩
        clear HR hfin
        go_wp2
        exact hRR
end Go.Proofs.YtcmhgpgookiomaaGreat
namespace Go.Proofs.YtcmhgpgookiomaaGreat
open Go.RowKit Go.Shelf Go.Maps

attribute [local go_sem] Oper.semAt_some

set_option maxRecDepth 20000 in
set_option maxHeartbeats 8000000 in
theorem turn_any {w : World} {N R Q TB A PL : Nat} {st : St} (h : RingAt w N R Q TB A PL st) (m : Nat) (hg : m < 4294967296) (hin : In st.1.rlm m) (hbx : st.1.box.length ≤ 900000) (hgl : st.1.rlm.length ≤ 1000) (hsz : (rdrA st.1 m).length ≤ 12) :
    Calls Tryz.prog 61 #[.pointer (some ⟨R, 0, none⟩), .int .u32 (m : Int)] w fun e w' =>
      (turnP st m = none → e = .returned (.int .i64 60) ∧ Keep (RgX N TB A PL) w w') ∧
      (∀ st', turnP st m = some st' → e = .returned (.int .i64 0) ∧ RingAt w' N R Q TB A PL st' ∧ Keep (RgX N TB A PL) w w') := by
  obtain ⟨b1, b2, b3, b4, b5, L4, L5, v, bv, h⟩ := h
  have hd := draw_any h.suite
  have c0 := h.cells.cell (i := 0) rfl
  have HH := Lib.hid h
  refine calls_cps fun R0 hR => ?_
  have HR := Lib.hid hR
  clear hR h
  have HBX := Lib.hid hbx
  have HGL := Lib.hid hgl
  have HSZ := Lib.hid hsz
  clear hbx hgl hsz
  unfold aggK at hd
  go_enter Tryz.func61, Tryz.ntmps61
  go_wp2_with fail
  refine hd.mono ?_
  rintro e w1 ⟨hlo, hhi⟩
  clear hd c0
  cases hdr : drawP st.2 with
  | none =>
    obtain ⟨rfl, e1⟩ := hlo hdr
    have hn : turnP st m = none := by unfold turnP; rw [hdr]; rfl
    have hRR := fun w' (hE : Ext w1 w') => HR.out (.returned (.int .i64 60)) w' ⟨fun _ => ⟨rfl, Keep.of_ext (e1.trans hE)⟩, fun st' h => (by rw [hn] at h; cases h)⟩
    have HRR := Lib.hid hRR
    obtain ⟨Z, hZ⟩ : ∃ Z, key0.map u8v = Z := ⟨_, rfl⟩
    have hi := Lib.hid (show (Tryz.prog.info? 51).map (·.size) = some Z.toArray.size by rw [info_key, ← hZ]; rfl)
    have ho := Lib.hid (show 32 = Z.toArray.size by rw [← hZ]; rfl)
    have h1 := Lib.hid (show Z.toArray.all (·.oneCell') = true by rw [← hZ]; exact all_one _)
    rw [hZ]
    clear hRR hZ HR hlo hhi hdr hn e1
    go_wp2_with (first
      | (refine wpList_skip0 (o := ⟨none, .store _ _ _, _, _, _, _⟩) (w' := w1.alloc (.cells Z.toArray 51)) ?_ ?_ ?_ ?_; exact exec_store_new rfl rfl rfl hi.out ho.out h1.out; rfl; rfl; refine wpList_laid1 fun W eW hG => ?_)
      | fail)
    exact HRR.out _ eW
  | some x =>
    obtain ⟨k, s1⟩ := x
    obtain ⟨rfl, hs1, k1⟩ := hhi k s1 hdr
    obtain ⟨ht, hkl⟩ := draw_tape hdr
    have hr1 := HH.out.suited k1 hs1 (by omega)
    have hP : turnP st m = (boxP ({ st.1 with rlm := putA st.1.rlm m ((rlmA st.1 m).1 + 1, k) }, s1) ⟨3, m, (rlmA st.1 m).1 + 1, 0, (rlmA st.1 m).1, []⟩ k (rlmA st.1 m).2).bind fun st => eachP (fun st g => readerP st m g) (numsA (rdrA st.1 m)) st := by unfold turnP; rw [hdr]; rfl
    have hep : ((rlmA st.1 m).1 + 1) * 32 + s1.tape.length ≤ 32000 := by
      have := HH.out.next_rlm m (by omega)
      rwa [show s1.tape.length = st.2.tape.length - 32 by omega]
    have hlook := fun A' (hE : Ext w1 A') => (hr1.ext hE).look_rlm hg
    have hput := fun A' (hE : Ext w1 A') => (hr1.ext hE).rlm.put (V := keyedV) Tryz.underlying72 (by have := HGL.out; unfold maxLen; omega) hg ((rlmA st.1 m).1 + 1, k)
    obtain ⟨hl1, hl2⟩ := hr1.rlmA_ok m
    have kcO := kc_of (e := (rlmA st.1 m).1) hl1
    have kcN := kc_of (e := (rlmA st.1 m).1 + 1) hkl
    have hcells : (∀ w, (Instr.build 86 #[(0, .int .u32 (((rlmA st.1 m).1 : Int) + 1)), (1, .agg (k.map u8v).toArray)]).run Tryz.prog w = .ok (.agg (keyedC ((rlmA st.1 m).1 + 1, k)).toArray) w) := fun w => by
      have := build_keyed (k.map u8v) (by rw [List.length_map, hkl]) ((rlmA st.1 m).1 + 1) w
      rw [Int.natCast_add, Int.natCast_one] at this
      exact this
    have hput' : ∀ A', Ext w1 A' → ∃ w', (Instr.mapUpdate 72 (.map (some b3)) (.int .u32 (m : Int)) (.agg (keyedC ((rlmA st.1 m).1 + 1, k)).toArray)).run Tryz.prog A' = .ok () w' ∧ NMap w' b3 keyedV (putA st.1.rlm m ((rlmA st.1 m).1 + 1, k)) ∧ Keep (MapX b3) A' w' := hput
    have hlook' : ∀ A', Ext w1 A' → (Instr.lookup 72 (.map (some b3)) (.int .u32 (m : Int)) false).run Tryz.prog A' = .ok (.agg (keyedC ((rlmA st.1 m).1, (rlmA st.1 m).2)).toArray) A' := hlook
    obtain ⟨G2, hG2⟩ : ∃ G2, putA st.1.rlm m ((rlmA st.1 m).1 + 1, k) = G2 := ⟨_, rfl⟩
    have hgrp := fun w' (hm : NMap w' b3 keyedV G2) A' (hE : Ext w1 A') (hk : Keep (MapX b3) A' w') => (hr1.ext hE).putRlm (n := m) (x := ((rlmA st.1 m).1 + 1, k)) hk (by rw [hG2]; exact hm) hkl hep (HH.out.hasr m hin)
    rw [hG2] at hgrp hP hput'
    obtain ⟨E, hE0⟩ : ∃ E, (rlmA st.1 m).1 = E := ⟨_, rfl⟩
    obtain ⟨ok, hok⟩ : ∃ ok, (rlmA st.1 m).2 = ok := ⟨_, rfl⟩
    rw [hE0, hok] at hP hlook' kcO
    rw [hE0] at hcells hput' kcN hl2 hep
    rw [hok] at hl1
    have hbox := fun A' (hA : RingAt A' N R Q TB A PL ({ st.1 with rlm := G2 }, s1)) => box_any hA ⟨3, m, E + 1, 0, E, []⟩ k ok hkl hl1 (by have := HBX.out; show st.1.box.length ≤ 1000000; omega) ⟨by show 3 < 4294967296; omega, hg, by show E + 1 < 4294967296; omega, by show 0 < 4294967296; omega, by show E < 4294967296; omega⟩
    obtain ⟨B0, hB0⟩ : ∃ x, boxP ({ st.1 with rlm := G2 }, s1) ⟨3, m, E + 1, 0, E, []⟩ k ok = x := ⟨_, rfl⟩
    rw [hB0] at hP hbox
    have hlike : ∀ st2, B0 = some st2 → rdrA st2.1 m = rdrA st.1 m ∧ st2.1.box.length = st.1.box.length + 1 ∧ In st2.1.rdr m := fun st2 h => by
      obtain ⟨q1, q2⟩ := boxP_like (hB0.trans h)
      refine ⟨?_, q2, ?_⟩
      · unfold rdrA; rw [q1.rdr]
      · rw [q1.rdr]; exact HH.out.hasr m hin
    unfold aggK at hbox
    obtain ⟨CO, hCO⟩ : ∃ C, keyedC (E, ok) = C := ⟨_, rfl⟩
    obtain ⟨CN, hCN⟩ : ∃ C, keyedC (E + 1, k) = C := ⟨_, rfl⟩
    obtain ⟨O, hO⟩ : ∃ O, k.map u8v = O := ⟨_, rfl⟩
    obtain ⟨OK, hOK⟩ : ∃ O, ok.map u8v = O := ⟨_, rfl⟩
    rw [hCO] at hlook' kcO
    rw [hCN] at hcells hput' kcN
    rw [hO] at hcells hbox kcN ⊢
    rw [hOK] at hbox kcO
    have hOl : O.length = 32 := by rw [← hO, List.length_map, hkl]
    have hi := Lib.hid (show (Tryz.prog.info? 51).map (·.size) = some O.toArray.size by rw [info_key, List.size_toArray, hOl])
    have ho := Lib.hid (show 32 = O.toArray.size by rw [List.size_toArray, hOl])
    have h1 := Lib.hid (show O.toArray.all (·.oneCell') = true by rw [← hO]; exact all_one _)
    have HR1 := Lib.hid hr1
    have HC := Lib.hid hcells
    have KO := Lib.hid kcO
    have KN := Lib.hid kcN
    have HPUT := Lib.hid hput'
    have HL := Lib.hid hlook'
    have HGRP := Lib.hid hgrp
    have HP := Lib.hid hP
    have HK1 := Lib.hid k1
    have HBOX := Lib.hid hbox
    have HLIKE := Lib.hid hlike
    have c3 := fun A' (hE : Ext w1 A') => (hr1.ext hE).cells.cell (i := 3) rfl
    have HC3 := Lib.hid c3
    clear hlook hput hput' hlook' hcells hgrp hr1 hP k1 hs1 hlo hhi ht hkl hep kcO kcN hCO hCN hO hOK hG2 hE0 hok hOl hdr hin hl1 hbox hlike hB0 c3
    go_wp2_with (first
      | (refine wpList_skip0 (o := ⟨none, .store _ _ _, _, _, _, _⟩) (w' := w1.alloc (.cells O.toArray 51)) ?_ ?_ ?_ ?_; exact exec_store_new rfl rfl rfl hi.out ho.out h1.out; rfl; rfl; refine wpList_laid1 fun W eW hG => ?_; have c3 := HC3.out W eW)
      | (refine wpList_val (o := ⟨some 29, _, _, _, _, _⟩) (v := .agg CO.toArray) ?_ ?_ ?_; exact exec_lookup' rfl (HL.out W eW); rfl)
      | (refine wpList_skip0 (o := ⟨none, .store _ _ _, _, _, _, _⟩) (w' := W.alloc (.cells CO.toArray 86)) ?_ ?_ ?_ ?_; exact exec_store_new rfl rfl rfl KO.out.info KO.out.size KO.out.one; rfl; rfl; refine wpList_laid1 fun W2 eW2 hG2 => ?_; have z7 := (show Arr W2 W.heap.size 86 CO from hG2).cell KO.out.c0)
      | (refine wpList_val (o := ⟨some 33, _, _, _, _, _⟩) (v := .agg O.toArray) ?_ ?_ ?_; exact exec_load_row rfl rfl ((show Arr W w1.heap.size 51 O from hG).ext eW2) Tryz.underlying51 rfl hi.out; rfl)
      | (refine wpList_val (o := ⟨some 34, _, _, _, _, _⟩) (v := .agg CN.toArray) ?_ ?_ ?_; exact exec_build2 rfl rfl rfl (HC.out _); rfl)
      | (refine wpList_skip0 (o := ⟨none, .store _ _ _, _, _, _, _⟩) (w' := W2.alloc (.cells CN.toArray 86)) ?_ ?_ ?_ ?_; exact exec_store_new rfl rfl rfl KN.out.info KN.out.size KN.out.one; rfl; rfl; refine wpList_laid1 fun W3 eW3 hG3 => ?_)
      | fail)
    have aO : Arr W3 W.heap.size 86 CO := (show Arr W2 W.heap.size 86 CO from hG2).ext eW3
    have aN : Arr W3 W2.heap.size 86 CN := hG3
    have e13 : Ext w1 W3 := (eW.trans eW2).trans eW3
    obtain ⟨pO, hpO⟩ : ∃ p, W.heap.size = p := ⟨_, rfl⟩
    obtain ⟨pN, hpN⟩ : ∃ p, W2.heap.size = p := ⟨_, rfl⟩
    rw [hpO] at aO ⊢
    rw [hpN] at aN ⊢
    have HE13 := Lib.hid e13
    clear hG hG2 hG3 eW eW2 eW3 e13 z7 c3 hpO hpN
    have d3 := fun g : At W3.drew => HC3.out g.w (HE13.out.trans (((Keep.refl _ W3).drew).trans g.ext))
    refine wp_flow (fun n => if n = 6 then .bar else .reads) (by kernel_rfl) (by kernel_rfl) ?_
    iterate 5 (refine flow_r rfl rfl ?_; go_big_quiet_step (fail); refine wpQuiet_nil ?_)
    refine flow_v (v := .agg CN.toArray) rfl rfl (fun w' hE => exec_load_row rfl rfl (aN.ext (((Keep.refl _ W3).drew).trans hE)) Tryz.underlying86 rfl KN.out.info) ?_
    simp only [Act.put, List.setIfInBounds_toArray, List.set_cons_succ, List.set_cons_zero]
    clear d3
    refine flow_b rfl (by kernel_rfl) (fun w2 hE2 _ => ?_)
    replace hE2 : Ext W3 w2 := ((Keep.refl _ W3).drew).trans hE2
    have e2 : Ext w1 w2 := HE13.out.trans hE2
    obtain ⟨w3, hrun, hm3, hk3⟩ := HPUT.out w2 e2
    have hr3 := HGRP.out w3 hm3 w2 e2 hk3
    have HRUN := Lib.hid hrun
    have HK3 := Lib.hid (((HK1.out.mono (fun _ _ _ h => .inl h)).trans (Keep.of_ext e2)).trans (hk3.mono (fun k o _ hx => hx.rg (TB := TB) (A := A) (PL := PL) HR1.out.high.2.2.2.1)))
    have HR3 := Lib.hid hr3
    have aO3 := (aO.ext hE2).keep hk3 MapX.cells
    have aN3 := (aN.ext hE2).keep hk3 MapX.cells
    clear hE2 hrun hm3 hk3 hr3 e2 aO aN
    go_wp2_with (first
      | (refine wpList_skipw (o := ⟨none, .mapUpdate _ _ _ _, _, _, _, _⟩) (w' := w3) ?_ ?_ ?_; exact exec_mapUpdate' rfl HRUN.out; rfl)
      | fail)
    refine flow_end (fun w4 hE4 _ => ?_)
    have hr4 : RingAt w4 N R Q TB A PL ({ st.1 with rlm := G2 }, s1) := (show RingAt w3 N R Q TB A PL ({ st.1 with rlm := G2 }, s1) from ⟨b1, b2, b3, b4, b5, L4, L5, v, bv, HR3.out⟩).ext hE4
    have hcall := HBOX.out w4 hr4
    have aO4 := aO3.ext hE4
    have aN4 := aN3.ext hE4
    have zO := aO4.cell KO.out.c0
    have zN := aN4.cell KN.out.c0
    have LO := Lib.hid (KO.out.mid w4 pO aO4)
    have LN := Lib.hid (KN.out.mid w4 pN aN4)
    have HK4 := Lib.hid (HK3.out.trans (Keep.of_ext hE4))
    clear hE4 aO3 aN3 hr4 aO4 aN4
    go_wp2_with (first
      | (refine wpList_val (o := ⟨some 49, _, _, _, _, _⟩) (v := .agg O.toArray) ?_ ?_ ?_; exact exec_load_mid' rfl rfl LN.out Tryz.underlying51 rfl KN.out.iO; rfl)
      | (refine wpList_val (o := ⟨some 51, _, _, _, _, _⟩) (v := .agg OK.toArray) ?_ ?_ ?_; exact exec_load_mid' rfl rfl LO.out Tryz.underlying51 rfl KO.out.iO; rfl)
      | fail)
    refine hcall.mono ?_
    rintro e w6 ⟨hlo, hhi⟩
    clear hcall zO zN LO LN
    cases B0 with
    | none =>
      obtain ⟨rfl, k6⟩ := hlo rfl
      have hn : turnP st m = none := by rw [HP.out]; rfl
      have hRR := HR.out (.returned (.int .i64 60)) w6 ⟨fun _ => ⟨rfl, HK4.out.trans k6⟩, fun st' h => (by rw [hn] at h; cases h)⟩
      clear HR hlo hhi k6 hn
      go_wp2
      exact hRR
    | some st2 =>
      obtain ⟨rfl, ⟨b1', b2', b3', b4', b5', L4', L5', v', bv', hr6⟩, k6⟩ := hhi st2 rfl
      obtain ⟨hrd, hb5, hin2⟩ := HLIKE.out st2 rfl
      replace hb5 : st2.1.box.length ≤ 900001 := by have := HBX.out; omega
      obtain ⟨bm, hlm, hms⟩ := hr6.look_rdr hg hin2
      have c4 := hr6.cells.cell (i := 5) rfl
      have hszz : (rdrA st2.1 m).length ≤ 12 := by rw [hrd]; exact HSZ.out
      have hris := rising_any hms hszz
      have HLM := Lib.hid hlm
      have HMS := Lib.hid hms
      have HR6 := Lib.hid (show RingAt w6 N R Q TB A PL st2 from ⟨b1', b2', b3', b4', b5', L4', L5', v', bv', hr6⟩)
      have HK6 := Lib.hid (HK4.out.trans k6)
      have HRD := Lib.hid hrd
      have HIN2 := Lib.hid hin2
      have HSZZ := Lib.hid hszz
      have hPP : turnP st m = eachP (fun st g => readerP st m g) (numsA (rdrA st2.1 m)) st2 := HP.out
      have HP := Lib.hid hPP
      clear hlm hms hr6 k6 hrd hin2 hlo hhi hPP hszz
      go_wp2_with (first
        | (refine wpList_val (o := ⟨some 61, _, _, _, _, _⟩) (v := .map (some bm)) ?_ ?_ ?_; exact exec_lookup' rfl HLM.out; rfl)
        | fail)
      refine hris.mono ?_
      rintro e w7 ⟨vm, rfl, hown, e7⟩
      obtain ⟨am, cm, rfl, _⟩ := owns_row hown
      have hlts : ∀ x ∈ numsA (rdrA st2.1 m), x < 4294967296 := fun x hx => by
        obtain ⟨p, hp, rfl⟩ := List.mem_map.1 hx
        exact HMS.out.lt p hp
      have hlen : (numsA (rdrA st2.1 m)).length ≤ 12 := by have := HSZZ.out; simpa [numsA] using this
      have hr7 : RingAt w7 N R Q TB A PL st2 := HR6.out.ext e7
      have k7 : Keep (RgX N TB A PL) w w7 := HK6.out.trans (Keep.of_ext e7)
      obtain ⟨F, hF⟩ : ∃ F, (fun st who => readerP st m who) = F := ⟨_, rfl⟩
      have hF' : ∀ st who, readerP st m who = F st who := fun st who => by rw [← hF]
      have hPP := HP.out
      rw [hF] at hPP
      obtain ⟨ms, hms0⟩ : ∃ ms, numsA (rdrA st2.1 m) = ms := ⟨_, rfl⟩
      rw [hms0] at hPP
      rw [hms0] at hown hlts hlen ⊢
      obtain ⟨n, hn⟩ : ∃ n, ms.length = n := ⟨_, rfl⟩
      rw [hn] at hown hlen ⊢
      have HPP := Lib.hid hPP
      have HFF := Lib.hid hF'
      have HOWN := Lib.hid hown
      have HLT := Lib.hid hlts
      have HN := Lib.hid hn
      have HR7 := Lib.hid hr7
      have HK7 := Lib.hid k7
      clear hris c4 hown e7 hlts hr7 k7 hF hF' hPP hms0 hn HMS HLM HR3 HP HR6 HK6 HRD HIN2 HSZZ HK3 HK4 HLIKE HBOX HGRP HPUT HC KO KN HL HR1 HK1 HC3 HE13 hi ho h1
      go_wp2
      go_loopw [64] (fun i wr => ∃ (j : Nat) (sj : St), j ≤ n ∧ i = .int .i64 (j : Int) ∧ Hid (RingAt wr N R Q TB A PL sj) ∧ Hid (eachP F ms st2 = eachP F (ms.drop j) sj) ∧ sj.1.box.length ≤ 900001 + j ∧ Hid (Keep (RgX N TB A PL) w7 wr)) (fun i _ => n - (vI i).toNat)
      case atStart => exact ⟨0, st2, by omega, rfl, HR7, Lib.hid (by rw [List.drop_zero]), hb5, Lib.hid (Keep.refl _ _)⟩
      case round =>
        obtain ⟨j, sj, hj, rfl, HT, HE, hbj, HKj⟩ := hrel
        by_cases hlt : j < n
        · obtain ⟨x, hx⟩ : ∃ x, ms[j]? = some x := ⟨_, List.getElem?_eq_getElem (by have := HN.out; omega)⟩
          obtain ⟨_, _, q, hrj⟩ := owns_row (HKj.out.owns' HOWN.out (fun _ _ _ => RgX.cells (by decide) (by decide) (by decide)))
          cases q
          obtain ⟨bv', ov, rfl, hcell⟩ := hrj.2.2.2.2 (by omega)
          have hxv : (ms.map u32n)[j]? = some (.int .u32 (x : Int)) := by rw [List.getElem?_map, hx]; rfl
          have ck := hcell j _ hxv
          have hcall := reader_any HT.out m x hg (HLT.out x (List.mem_of_getElem? hx)) (by omega)
          rw [HFF.out] at hcall
          have hstep := HE.out
          rw [eachP_step F ms j x hx] at hstep
          have HST := Lib.hid hstep
          have HX := Lib.hid hx
          clear hstep hx hxv hcell hrj
          go_wp2_with fail
          refine hcall.mono ?_
          rintro e w8 ⟨hlo, hhi⟩
          clear hcall ck
          cases hb : F sj x with
          | none =>
            obtain ⟨rfl, k8⟩ := hlo hb
            have hn : turnP st m = none := by rw [HPP.out, HST.out, hb]; rfl
            have hRR := HR.out (.returned (.int .i64 60)) w8 ⟨fun _ => ⟨rfl, (HK7.out.trans HKj.out).trans k8⟩, fun st' h => (by rw [hn] at h; cases h)⟩
            clear HR hlo hhi hb hn k8
            go_wp2
            exact hRR
          | some s8 =>
            obtain ⟨rfl, hr8, k8⟩ := hhi s8 hb
            have hst8 : eachP F ms st2 = eachP F (ms.drop (j + 1)) s8 := by rw [HST.out, hb]; rfl
            have hl8 : s8.1.box.length ≤ 900001 + (j + 1) := by
              have := (readerP_like (show readerP sj m x = some s8 by rw [HFF.out]; exact hb)).2
              omega
            have HR8 := Lib.hid hr8
            have HS8 := Lib.hid hst8
            have HL8 := Lib.hid hl8
            have HK8 := Lib.hid (HKj.out.trans k8)
            clear hlo hhi hb hr8 hst8 hl8 k8
            go_wp2
            go_roundw
            case rel => exact ⟨j + 1, s8, by omega, by go_num, HR8, HS8, HL8.out, HK8⟩
            case measure => simp [vI]; omega
        · obtain rfl : j = n := by omega
          have hfin : turnP st m = some sj := by rw [HPP.out, HE.out, ← HN.out, eachP_end]
          have hRR := HR.out (.returned (.int .i64 0)) wr ⟨fun h => (by rw [hfin] at h; cases h), fun st' h => (by rw [hfin] at h; cases h; exact ⟨rfl, HT.out, HK7.out.trans HKj.out⟩)⟩
          clear HR hfin
          go_wp2
          exact hRR
end Go.Proofs.YtcmhgpgookiomaaGreat
