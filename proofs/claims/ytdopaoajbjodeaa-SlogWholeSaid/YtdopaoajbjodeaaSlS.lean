/-
  SlogAppends.
-/
import Derived.Test.YtdopaoajbjodeaaSlR
import Derived.Test.YtdopaoajbjodeaaFlowZ
namespace Go.Proofs.Ytdopaoajbjodeaa
open Go.RowKit Go.Shelf

attribute [local go_sem] Oper.semAt_some

/-- A slice of one crash, in a block of its own. -/
def CrOne (p q : Int) (v : Value) (w : World) : Prop := ∃ g, v = .slice (some ⟨g, 0, none⟩) 1 1 ∧ w.heap[g]? = some (.cells #[.int .i64 p, .int .i64 q] 36 (0, 0))
def CrOneSh (v : Value) : Prop := ∃ g, v = .slice (some ⟨g, 0, none⟩) 1 1
theorem crOne_row {w : World} {g : Nat} {p q : Int} (h : w.heap[g]? = some (.cells #[.int .i64 p, .int .i64 q] 36 (0, 0))) : Row 2 w (some ⟨g, 0, none⟩) ([(p, q)] : List (Int × Int)).length 1 (crC [(p, q)]) := by
  refine ⟨Nat.le_refl _, by simp [maxLen], rfl, by simp, fun _ => ⟨g, 0, rfl, fun i u hu => ?_⟩⟩
  rw [cell_of_row _ _ _ _ 36 (0, 0) h]
  simpa [crC] using hu
/-- The program's disk is in the block B; the reference's in v. -/
def BothV (base B : Nat) (s : DSt) (v : Value) (w : World) : Prop := ∃ gs gc B2 gs2 gc2, v = .pointer (some ⟨B2, 0, none⟩) ∧ Both14 base w B gs gc B2 gs2 gc2 s

set_option maxRecDepth 20000 in
set_option maxHeartbeats 8000000 in
theorem slogAppends_any (n size : Int) (gen : UInt32) (a : Option Addr) (m c : Nat) (ls : List (List UInt8)) (af ke : Int) (w : World) (_hn : -9223372036854775808 ≤ n ∧ n ≤ 9223372036854775807)
    (hsz : -9223372036854775808 ≤ size ∧ size ≤ 9223372036854775807) (ht : Texts w a m c ls) :
    Calls Try.prog 6 #[.int .i64 n, .int .i64 size, .int .u32 (gen.toNat : Int), .slice a m c, .agg #[.int .i64 af, .int .i64 ke]] w fun e w' => e = .returned (.bool true) ∧ Ext w w' := by
  refine calls_cps fun R hR => ?_
  go_enter Try.func6, Try.ntmps6
  go_wp2_with fail
  refine (awake14_any _).mono ?_
  rintro e w1 ⟨rfl, e1⟩
  replace e1 : Ext (w.alloc (.cells #[.int .i64 af, .int .i64 ke] 36)) w1 := e1
  have bX : w1.heap[w.heap.size]? = some (.cells #[.int .i64 af, .int .i64 ke] 36 (0, 0)) := e1.block _ _ (World.alloc_heap_new w _) (fun h => h)
  replace e1 : Ext w w1 := ((Keep.refl _ w).alloc _).trans e1
  have hsw : w.heap.size < w1.heap.size := Keep.lt bX
  by_cases h1 : 60 < n
  · go_wp2
    exact ⟨rfl, e1⟩
  obtain ⟨N, hN⟩ : ∃ N : Nat, ((min (max n 0) 65536 : Int) = (N : Int)) := ⟨(min (max n 0) 65536).toNat, by omega⟩
  have hN60 : N ≤ 60 := by omega
  have HN := Lib.hid hN
  clear hN
  go_wp2_with fail
  refine (few14_any w1 a m c ls (ht.ext e1)).mono ?_
  rintro e w2 ⟨q, rfl, hq, rfl⟩
  cases q with
  | false =>
    go_wp2
    exact ⟨rfl, e1⟩
  | true =>
  obtain ⟨hm20, hls⟩ := hq rfl
  have HLS := Lib.hid hls
  have HR := Lib.hid hR
  clear hq hls hR
  go_wp2
  have hD : ∀ g : FY.At (fun _ _ => False) w1.drew, Ext w1 g.w := fun g => ((Keep.refl _ w1).drew).trans g.ext
  obtain ⟨s0, hs0⟩ : ∃ x, (⟨zeros (N * 64), N, [(af, ke)], 0, true⟩ : DSt) = x := ⟨_, rfl⟩
  have hs0f : s0.n = N ∧ s0.cr = [(af, ke)] ∧ s0.wr = 0 ∧ s0.pw = true := by rw [← hs0]; exact ⟨rfl, rfl, rfl, rfl⟩
  have hi2 := Lib.hid (show (Try.prog.info? 36).map (·.size) = some 2 by kernel_rfl)
  have bA : Arr w1 w.heap.size 36 [.int .i64 af, .int .i64 ke] := bX
  refine FY.wp_flow (X := fun _ _ => False) (0 :: 1 :: 2 :: 3 :: 4 :: 5 :: 6 :: 7 :: 8 :: 9 :: [])
    (fun n => if n = 2 then .grows (CrOne af ke) CrOneSh else if n = 6 then .grows (CrOne af ke) CrOneSh else if n = 3 then .grows (NewDiskV w1.heap.size N [(af, ke)]) NewBoxSh else if n = 7 then .bar else .reads) (by kernel_rfl) (by kernel_rfl) ?_
  refine FY.flow_r rfl rfl rfl ?_; go_big_quiet_step (fail); refine wpQuiet_nil ?_
  refine FY.flow_v (v := .agg #[.int .i64 af, .int .i64 ke]) rfl rfl rfl (fun w' hE => exec_load_row rfl rfl (bA.ext (((Keep.refl _ w1).drew).trans hE)) Try.underlying36 rfl hi2.out) ?_
  simp only [Act.put, List.setIfInBounds_toArray, List.set_cons_succ, List.set_cons_zero]
  refine FY.flow_g rfl rfl rfl (by simp) ⟨_, 0, rfl⟩ (fun v A B ⟨g, h1, h2⟩ hE => ⟨g, h1, hE.block _ _ h2 (fun h => h)⟩) (fun v A ⟨g, h1, _⟩ => ⟨g, h1⟩) (fun w5 hE5 _ => ?_) (fun v hv => ?_)
  · go_wp2
    exact ⟨(Keep.refl _ _).alloc _, _, rfl, World.alloc_heap_new _ _⟩
  obtain ⟨g2, rfl⟩ := hv
  simp only [Act.put, List.setIfInBounds_toArray, List.set_cons_succ, List.set_cons_zero]
  refine FY.flow_g rfl rfl rfl (by simp) ⟨_, 0, rfl⟩ (fun v A B h hE => ?_) (fun v A ⟨B, _, _, h1, _⟩ => ⟨B, h1⟩) (fun w5 hE5 hf => ?_) (fun v hv => ?_)
  · obtain ⟨B', gs, gc, h1, h2, h3⟩ := h
    exact ⟨B', gs, gc, h1, h2.ext hE, h3⟩
  · obtain ⟨g', hg1, hg2⟩ : CrOne af ke _ w5 := hf 2 (by kernel_rfl)
    cases hg1
    have hc := dnew_any n N HN.out (some ⟨g2, 0, none⟩) 1 [(af, ke)] w5 (crOne_row hg2) (by simp)
    go_wp2_with fail
    refine hc.mono ?_
    rintro e w6 ⟨v, rfl, ⟨B, gs, gc, rfl, hD, q1, q2, q3⟩, hE6⟩
    go_wp2
    have hs5 := hE5.size
    have hs5' : w1.heap.size ≤ w5.heap.size := hs5
    exact ⟨B, gs, gc, rfl, hD, by omega, by omega, fun h => by have := q3 h; omega⟩
  obtain ⟨B, rfl⟩ := hv
  simp only [Act.put, List.setIfInBounds_toArray, List.set_cons_succ, List.set_cons_zero]
  refine FY.flow_r rfl rfl rfl ?_; go_big_quiet_step (fail); refine wpQuiet_nil ?_
  refine FY.flow_v (v := .agg #[.int .i64 af, .int .i64 ke]) rfl rfl rfl (fun w' hE => exec_load_row rfl rfl (bA.ext (((Keep.refl _ w1).drew).trans hE)) Try.underlying36 rfl hi2.out) ?_
  simp only [Act.put, List.setIfInBounds_toArray, List.set_cons_succ, List.set_cons_zero]
  refine FY.flow_g rfl rfl rfl (by simp) ⟨_, 0, rfl⟩ (fun v A B ⟨g, h1, h2⟩ hE => ⟨g, h1, hE.block _ _ h2 (fun h => h)⟩) (fun v A ⟨g, h1, _⟩ => ⟨g, h1⟩) (fun w5 hE5 _ => ?_) (fun v hv => ?_)
  · go_wp2
    exact ⟨(Keep.refl _ _).alloc _, _, rfl, World.alloc_heap_new _ _⟩
  obtain ⟨g6, rfl⟩ := hv
  simp only [Act.put, List.setIfInBounds_toArray, List.set_cons_succ, List.set_cons_zero]
  refine FY.flow_bv rfl rfl rfl (by simp) (by kernel_rfl) (fun w5 hE5 hf => ?_)
  obtain ⟨g', hg1, hg6⟩ : CrOne af ke _ w5 := hf 6
  cases hg1
  obtain ⟨B', gs, gc, hB', hP, q1, q2, q3⟩ : NewDiskV w1.heap.size N [(af, ke)] _ w5 := hf 3
  cases hB'
  have hc := refNew_any n N HN.out (some ⟨g6, 0, none⟩) 1 g6 [(af, ke)] w5 (crOne_row hg6) (fun p hp _ => by cases hp; rfl)
  have hE5' : Ext w w5 := e1.trans (((Keep.refl _ w1).drew).trans hE5)
  clear hf
  go_wp2_with fail
  refine hc.mono ?_
  rintro e w6 ⟨B2, gs2, rfl, hR6, q4, q5, hE6⟩
  rw [hs0] at hP hR6
  have hBo := both14_of hP hR6 hE6 ⟨q1, q2⟩ ⟨q4, q5⟩ (by rw [hs0f.2.1]; simp) hg6
  have hE6' := hE5'.trans hE6
  clear hP hR6 hc hg6
  go_wp2
  iterate 2 (refine FY.flow_r rfl rfl rfl ?_; go_big_quiet_step (fail); refine wpQuiet_nil ?_)
  refine FY.flow_end (fun W hE _ => ?_)
  have hBW := hBo.ext hE
  have hEW := hE6'.trans hE
  clear hE hE6' hBo hE5' hE6
  clear hD bA bX hi2
  obtain ⟨x1, x2, x3, x4⟩ := hs0f
  clear hs0
  have hb0 := hBW.b1
  have hsw1 : w.heap.size ≤ w1.heap.size := e1.size
  have hf := format_any hBW.p 0 size (gen.toNat : Int) (by decide) hsz (by omega)
  obtain ⟨E, hE⟩ : ∃ x, fmtE s0 0 size = x := ⟨_, rfl⟩
  rw [hE] at hf
  go_wp2_with fail
  refine hf.mono ?_
  rintro e W2 ⟨rfl, hP2, hK2⟩
  have hX2 : Keep (fun b _ => w1.heap.size ≤ b) W W2 := hK2.mono (fun b o _ hx => by rcases hx.2 with rfl | rfl; exact hb0.1; exact hb0.2.1)
  have hR2 : RD W2 B2 gs2 g6 s0 := hBW.r.keep hK2 (fun o hx => by rcases hx.2 with h | h; exact hBW.n1.1 h.symm; exact hBW.n1.2.2.1 h.symm) (fun _ o hx => by rcases hx.2 with h | h; exact hBW.n1.2.1 h.symm; exact hBW.n1.2.2.2 h.symm)
    (fun _ o hx => by rcases hx.2 with h | h; exact hBW.n3.1 h; exact hBW.n3.2.1 (by have := hx.1; omega) h)
  have hf2 := refFormat_any hR2 0 size (gen.toNat : Int) (by decide) hsz (by omega)
  rw [hE] at hf2
  have HP2 := Lib.hid hP2
  have HX2 := Lib.hid hX2
  have hs2 := hK2.size
  clear hf hP2 hR2 hK2 hX2
  go_wp2_with fail
  refine hf2.mono ?_
  rintro e W3 ⟨rfl, hR3, hK3⟩
  have hX3 : Keep (fun b _ => w1.heap.size ≤ b) W W3 := HX2.out.trans (hK3.mono (fun b o _ hx => by rcases hx.2 with rfl | rfl; exact hb0.2.2.1; exact hb0.2.2.2))
  have hE3 : Ext w W3 := ((Keep.of_ext hEW).trans hX3).mono (fun b o ho hx => by have := Keep.lt ho; omega)
  have hP3 : PD W3 B gs gc (fmtS s0 0 size) := (HP2.out).keep hK3 (fun o hx => by rcases hx.2 with h | h; exact hBW.n1.1 h; exact hBW.n1.2.1 h) (fun _ o hx => by rcases hx.2 with h | h; exact hBW.n1.2.2.1 h; exact hBW.n1.2.2.2 h)
    (fun _ o hx => by rcases hx.2 with h | h; exact hBW.n2.1 h; exact hBW.n2.2.1 h)
  have hs3 := hK3.size
  clear hf2 hK3 HX2 HP2 hX3
  by_cases hE0 : E = 0
  · subst hE0
    obtain ⟨y1, y2, y3, y4, y5⟩ := fmt_ok hE
    obtain ⟨d1, hd1⟩ : ∃ x, fmtS s0 0 size = x := ⟨_, rfl⟩
    rw [hd1] at hP3 hR3 y2 y3 y4 y5
    have hn2 : 2 ≤ N ∧ 2 ≤ size := by unfold isR at y1; simp at y1; omega
    have hB3 : Both14 w1.heap.size W3 B gs gc B2 gs2 g6 d1 := ⟨hP3, hR3, hb0, hBW.n1, ⟨hBW.n2.1, hBW.n2.2.1, by have := hBW.n2.2.2; omega⟩, ⟨hBW.n3.1, fun _ => hBW.n3.2.1 (by omega), by have := hBW.n3.2.2; omega⟩⟩
    rw [x4] at y2
    have HB3 := Lib.hid hB3
    clear hE hd1 hBW hP3 hR3 hB3
    go_wp2_with fail
    refine (open_any HB3.out.p y2 0 size gen (by decide) hsz).mono ?_
    rintro e W4 ⟨e4, hq⟩
    rcases hq with ⟨hq, _⟩ | ⟨_, LB, v, rfl, hlb, hPL, hown⟩
    · rw [y3, y1] at hq; cases hq
    go_wp2_with fail
    refine (refOpen_any (HB3.out.r.ext e4) y2 0 size gen (by decide) hsz).mono ?_
    rintro e W5 ⟨e5, hq⟩
    rcases hq with ⟨hq, _⟩ | ⟨_, LB2, v2, rfl, hlb2, hRL, hown2⟩
    · rw [y3, y1] at hq; cases hq
    have hT := two_of HB3.out (by omega) (by have := HB3.out.p.lts.1; have := hb0.1; omega) e4 e5 hlb hlb2 hPL hRL hown hown2
    have hE5 : Ext w W5 := (hE3.trans e4).trans e5
    obtain ⟨st1, hst1⟩ : ∃ x, openSt d1 (0 : Int).toNat size.toNat gen = x := ⟨_, rfl⟩
    rw [hst1] at hT
    have HT0 := Lib.hid hT
    have y5' : d1.wr ≤ 1 + 5000 * 0 := by omega
    have y3' : d1.n = N := by omega
    have y4' : d1.cr = [(af, ke)] := by rw [y4, x2]
    obtain ⟨vs, hrow, hml, htx⟩ := ht
    have HML := Lib.hid hml
    have hmc := hrow.1
    have hmx := hrow.2.1
    unfold maxLen at hmx
    have HROW := Lib.hid hrow
    have HTX := Lib.hid htx
    clear hPL hRL hT hown hown2 HB3 e4 e5 hE3 hEW hml hrow htx
    go_wp2
    go_loopw [86] (fun i wr => ∃ (k : Nat) (v v2 : Value) (st : LSt) (d : DSt), k ≤ m ∧ i = .int .i64 k ∧ Hid (Two w1.heap.size wr B gs gc LB v B2 gs2 g6 LB2 v2 st d) ∧ d.n = N ∧ d.cr = [(af, ke)] ∧ d.wr ≤ 1 + 5000 * k ∧ Ext w wr) (fun i _ => m - (intOf i).toNat)
    case atStart => exact ⟨0, v, v2, st1, d1, by omega, rfl, HT0, y3', y4', y5', hE5⟩
    case round =>
      clear HT0 y5' y3' y4' hE5 y2 y3 y4 y5 hst1
      obtain ⟨k, v, v2, st, d, hk, rfl, HT, z1, z2, z3, hE⟩ := hrel
      by_cases hlt : k < m
      · obtain ⟨l, hl⟩ : ∃ l, ls[k]? = some l := ⟨_, List.getElem?_eq_getElem (by have := HML.out; omega)⟩
        obtain ⟨ax, cx, hvx, hrx⟩ := HTX.out k l hl
        obtain ⟨bv, ov, rfl, hcell⟩ := HROW.out.2.2.2.2 (by omega)
        have ck := Ext.cell hE (hcell k _ hvx)
        have hl4 := HLS.out l (List.mem_of_getElem? hl)
        obtain ⟨lx, hlx⟩ : ∃ x, l.length = x := ⟨_, rfl⟩
        rw [hlx] at ck hrx hl4
        have hbx : ∀ p, ax = some p → 0 < lx → p.block < w.heap.size := fun p hp h0 => by
          obtain ⟨b', o', h1, h2⟩ := hrx.2.2.2.2 h0
          rw [hp] at h1; cases h1
          have hlp : 0 < l.length := by omega
          exact World.block_lt_of_cell? w _ (h2 0 (u8v l[0]) (by simp [List.getElem?_eq_getElem hlp]))
        have hap := append_any HT.out.pl HT.out.p ax lx cx l (hrx.ext hE) (by omega) (by omega)
          (fun p hp h0 => by have h1 := hbx p hp h0; have h2 := HT.out.b1; exact ⟨by omega, by omega, by omega⟩)
          (fun _ => ⟨HT.out.n4.1, fun k hk he => (HT.out.o1 k hk).2.1 he.symm⟩)
        have HCELL := Lib.hid hcell
        clear hcell
        go_wp2_with fail
        refine hap.mono ?_
        intro e w6 hq
        obtain ⟨v', rfl, hH, hK6⟩ := HT.out.first hq
        have hE6 : Ext w w6 := ((Keep.of_ext hE).trans hK6).mono (fun b o ho hx => by have := Keep.lt ho; omega)
        have hap2 := refAppend_any hH.rl hH.r ax lx cx l (hrx.ext hE6) (by omega) (by omega)
          (fun p hp h0 => by have h1 := hbx p hp h0; have h2 := hH.b2; exact ⟨by omega, by omega, by omega⟩)
          (fun _ => ⟨hH.n5.1, fun k hk he => (hH.o2 k hk).2.2.1 he.symm⟩)
        obtain ⟨AE, hAE⟩ : ∃ x, (appL st l d).1 = x := ⟨_, rfl⟩
        rw [hAE]
        have HH := Lib.hid hH
        clear hap hH hK6 hq
        go_wp2_with fail
        refine hap2.mono ?_
        intro e w7 hq
        obtain ⟨v2', rfl, hT7, hK7⟩ := HH.out.second rfl rfl hq
        have hE7 : Ext w w7 := ((Keep.of_ext hE6).trans hK7).mono (fun b o ho hx => by have := Keep.lt ho; omega)
        have hcr := appL_cr st l d
        rw [hAE]
        have HT7 := Lib.hid hT7
        clear hap2 HH hT7 hq hK7 hE6 hE HT hAE ck hvx
        go_wp2
        go_roundw
        case rel => exact ⟨k + 1, v', v2', _, _, by omega, by go_num, HT7, by rw [hcr.2.1, z1], by rw [hcr.1, z2], by have := hcr.2.2; omega, hE7⟩
        case measure => simp [intOf]; omega
      · have hT := HT.out
        have HFIN : ∀ A, Ext w A → R (.returned (.bool true)) A := fun A hA => HR.out _ _ ⟨rfl, hA⟩
        have hst := dstart_any hT.p
        have h9 := hT.pl.cells.lt
        clear HTX HLS HROW
        go_wp2_with fail
        refine hst.mono ?_
        rintro e w6 ⟨⟨u, rfl⟩, hP6, hK6⟩
        have hK6' := hT.p.turns1 hK6
        have hPL6 := hT.pl.start hK6' (by decide) (by decide) (by decide)
        have hRL6 := hT.rl.start hK6' (by decide) (by decide) (by decide)
        have hR6 := hT.r.keep hK6 (fun o hx => hT.n1.1 hx.symm) (fun _ o hx => hT.n1.2.1 hx.symm) (fun _ o hx => hT.n5.2.1 hx)
        have hE6 : Ext w w6 := ((Keep.of_ext hE).trans hK6).mono (fun b o ho hx => by have := Keep.lt ho; have := hT.b1; omega)
        have hst2 := refStart_any hR6
        have n2 : B ≠ B2 ∧ gs ≠ B2 ∧ gc ≠ B2 := ⟨hT.n1.1, hT.n2.1, hT.n4.2.1⟩
        have hb2 := hT.b2.1
        have HP6 := Lib.hid hP6
        have HPL6 := Lib.hid hPL6
        have HRL6 := Lib.hid hRL6
        have HR6 := Lib.hid hR6
        clear hst hT HT hK6 hK6' hPL6 hRL6 hP6 hR6 hE h9
        go_wp2_with fail
        refine hst2.mono ?_
        rintro e w7 ⟨⟨u, rfl⟩, hR7, hK7⟩
        have hK7' := HR6.out.turns1 hK7
        have hPL7 := HPL6.out.start hK7' (by decide) (by decide) (by decide)
        have hRL7 := HRL6.out.start hK7' (by decide) (by decide) (by decide)
        have hP7 := HP6.out.keep hK7 (fun o hx => n2.1 hx) (fun _ o hx => n2.2.1 hx) (fun _ o hx => n2.2.2 hx)
        have hE7 : Ext w w7 := ((Keep.of_ext hE6).trans hK7).mono (fun b o ho hx => by have := Keep.lt ho; omega)
        have hdn : d.start.n = N := z1
        have hdp : d.start.pw = true := rfl
        obtain ⟨D, hDe⟩ : ∃ x, d.start = x := ⟨_, rfl⟩
        rw [hDe] at hP7 hR7 hdn hdp
        have hisr : isR 0 size D.n = true := by rw [hdn, ← x1]; exact y1
        clear hst2 HP6 HPL6 HRL6 HR6 hK7 hK7' hE6 hDe hdn
        have HPL7 := Lib.hid hPL7
        have HRL7 := Lib.hid hRL7
        clear hPL7 hRL7
        go_wp2_with fail
        refine (open_any hP7 hdp 0 size gen (by decide) hsz).mono ?_
        rintro e w8 ⟨e8, hq⟩
        rcases hq with ⟨hq, _⟩ | ⟨_, LB3, v3, rfl, _, hPL3, _⟩
        · rw [hisr] at hq; cases hq
        go_wp2_with fail
        refine (refOpen_any (hR7.ext e8) hdp 0 size gen (by decide) hsz).mono ?_
        rintro e w9 ⟨e9, hq⟩
        rcases hq with ⟨hq, _⟩ | ⟨_, LB4, v4, rfl, _, hRL4, _⟩
        · rw [hisr] at hq; cases hq
        have hPL9 := (HPL7.out.ext e8).ext e9
        have hRL9 := (HRL7.out.ext e8).ext e9
        have hPL3' := hPL3.ext e9
        obtain ⟨aS, cS, rfl, htS⟩ := hRL9.slice
        obtain ⟨aT, cT, rfl, htT⟩ := hRL4.slice
        have c5 := hRL9.cells.cell (i := 5) rfl
        have c5' := hRL4.cells.cell (i := 5) rfl
        have hs1 := same14_any hPL9 aS _ cS st.recs htS
        have hs2 := fun A (hA : Ext w9 A) => same14_any (hPL3'.ext hA) aT _ cT _ (htT.ext hA)
        simp only [decide_true] at hs1 hs2
        have hE9 := (hE7.trans e8).trans e9
        obtain ⟨rl, hrl⟩ : ∃ x, (openSt D (0 : Int).toNat size.toNat gen).recs.length = x := ⟨_, rfl⟩
        rw [hrl] at hs2 c5'
        have HS2 := Lib.hid hs2
        clear hs2 hrl hPL9 hRL9 hPL3' hPL3 hRL4 htS htT HPL7 HRL7 hP7 hR7 hisr e8 HR
        go_wp2_with fail
        refine hs1.mono ?_
        rintro e wa ⟨rfl, ea⟩
        have c5a := Ext.cell ea c5'
        have hs3 := HS2.out wa ea
        have hEa := hE9.trans ea
        clear hs1 c5 c5' HS2
        go_wp2_with fail
        refine hs3.mono ?_
        rintro e wb ⟨rfl, eb⟩
        go_wp2
        exact hEa.trans eb
  · have hEb : (E != 0) = true := by simpa using hE0
    have hEF : Hid (Ext w W3) := Lib.hid hE3
    clear hP3 hR3 hBW hE
    go_wp2
    exact HR.out _ _ ⟨rfl, hEF.out⟩
end Go.Proofs.Ytdopaoajbjodeaa
