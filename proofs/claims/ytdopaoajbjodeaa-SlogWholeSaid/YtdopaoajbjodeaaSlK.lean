/-
  The reference's Append.
-/
import Derived.Test.YtdopaoajbjodeaaSlJ
import Derived.Test.YtdopaoajbjodeaaSlH
namespace Go.Proofs.Ytdopaoajbjodeaa
open Go.RowKit Go.Shelf

attribute [local go_sem] Oper.semAt_some

theorem slice_lo (a : Option Addr) (n c lo : Nat) (h : lo ≤ n) (w : World) : (Instr.sliceAt 25 (.slice a n c) (some (.int .i64 (lo : Int))) none none).run Try.prog w = .ok (.slice (if c = lo then a else Option.map (fun x => x.add lo) a) (n - lo) (c - lo)) w := by
  simp [Instr.sliceAt, Instr.slice, Instr.sliceBounds, Instr.sliceBound, Result.andThen, asIntOf, h]
theorem slice_lo' {x : Int} {lo : Nat} (hx : x = (lo : Int)) (a : Option Addr) (n c : Nat) (h : lo ≤ n) (w : World) : (Instr.sliceAt 25 (.slice a n c) (some (.int .i64 x)) none none).run Try.prog w = .ok (.slice (if c = lo then a else Option.map (fun x => x.add lo) a) (n - lo) (c - lo)) w := by
  subst hx; exact slice_lo a n c lo h w
theorem chunk_ref {l : List UInt8} {j : Nat} (h : 51 < l.length) : chunkAt 64 (l.drop (min 51 l.length)) j = (l.drop (51 + 64 * j)).take 64 := by
  unfold chunkAt
  rw [List.drop_drop, Nat.min_eq_left (by omega), Nat.mul_comm]

set_option maxRecDepth 20000 in
set_option maxHeartbeats 8000000 in
theorem refAppend_any {w : World} {LB B gs gc : Nat} {v : Value} {st : LSt} {d : DSt} (h : RL w LB B v st) (hd : RD w B gs gc d) (a : Option Addr) (m c : Nat) (l : List UInt8) (hr : Row 1 w a m c (l.map u8v)) (hm : m ≤ 1000000)
    (hw : d.wr < 4000000000000000000) (hab : ∀ p, a = some p → 0 < m → p.block ≠ B ∧ p.block ≠ gs ∧ p.block ≠ LB) (hgc : 0 < d.cr.length → gc ≠ LB ∧ ∀ k, v.ownBlock = some k → gc ≠ k) :
    Calls Try.prog 23 #[.pointer (some ⟨LB, 0, none⟩), .slice a m c] w (AppQ 52 88 [] (fun w d => RD w B gs gc d) w LB B gs v st l d) := by
  have hll : l.length = m := by have := hr.2.2.1; simpa using this
  have hmc := hr.1
  have hmx := hr.2.1
  unfold maxLen at hmx
  obtain ⟨vs, o1, o2⟩ := h.own
  obtain ⟨av, cv, rfl, _⟩ := owns_row o1
  obtain ⟨br, hbr⟩ : ∃ x, st.br = x := ⟨_, rfl⟩
  have hC := h.cells
  rw [hbr] at hC
  simp only [List.cons_append, List.nil_append] at hC
  have k0 := hC.cell (i := 0) rfl
  have k1 := hC.cell (i := 1) rfl
  have k2 := hC.cell (i := 2) rfl
  have k4 := hC.cell (i := 4) rfl
  have k6 := hC.cell (i := 6) rfl
  refine calls_cps fun R hR => ?_
  have hlt0 : LB < w.heap.size := h.cells.lt
  have hspan := fun A => refSpan_any (m : Int) A (by omega)
  rw [spanZ_nat] at hspan
  have hspl := spanN_le m
  have hend : ∀ (x : Int), appL st l d = (x, st, d) → ∀ A, Ext w A → R (.returned (.int .i64 x)) A := by
    intro x ha A hEs
    refine hR _ _ ⟨_, ?_, ?_, ?_, ?_, .inl rfl⟩
    · rw [ha]
    · rw [ha]; exact hd.ext hEs
    · rw [ha]; exact h.ext hEs
    · exact Keep.of_ext hEs
  go_enter Try.func23, Try.ntmps23
  cases br with
  | true =>
    have hf := hend 140 (by unfold appL; rw [hbr]; rfl) w (Keep.refl _ _)
    clear hend hR h hd o1 o2
    go_wp2_with fail
    refine (hspan w).mono ?_
    rintro e w1 ⟨rfl, rfl⟩
    go_wp2
    exact hf
  | false =>
    by_cases hlong : 262144 < m
    · have h0 : spanN m = 0 := spanN_zero.2 hlong
      rw [h0] at hspan
      have hf := hend 2 (by unfold appL; rw [hbr, if_neg (by simp), if_pos (by omega)]) w (Keep.refl _ _)
      clear hend hR h hd o1 o2
      go_wp2_with fail
      refine (hspan w).mono ?_
      rintro e w1 ⟨rfl, rfl⟩
      go_wp2
      exact hf
    · have hsp := spanN_pos (n := m) (by omega)
      have hreg := h.reg
      have hle := h.le
      have hfew := h.few
      obtain ⟨SN, hSN⟩ : ∃ x, spanN m = x := ⟨_, rfl⟩
      obtain ⟨at0, hat⟩ : ∃ x, st.at' = x := ⟨_, rfl⟩
      obtain ⟨nn, hnn⟩ : ∃ x, st.n = x := ⟨_, rfl⟩
      obtain ⟨fr, hfr⟩ : ∃ x, st.fr = x := ⟨_, rfl⟩
      rw [hSN] at hspan hsp hspl
      rw [hat] at k4 hle hfew
      rw [hnn] at k2 hle hreg
      rw [hfr] at k1 hreg
      have hne0 : ((SN : Int) == 0) = false := by simpa using (by omega : ¬ ((SN : Int) = 0))
      go_wp2_with fail
      refine (hspan w).mono ?_
      rintro e w1 ⟨rfl, rfl⟩
      go_wp2
      have hDs : ∀ g : FY.At (fun _ _ => False) w.drew, Ext w g.w := fun g => ((Keep.refl _ w).drew).trans g.ext
      have d2 := fun g => Ext.cell (hDs g) k2
      have d4 := fun g => Ext.cell (hDs g) k4
      clear hDs
      refine FY.wp_flow (X := fun _ _ => False) (0 :: 1 :: 2 :: 3 :: 4 :: 5 :: 6 :: 7 :: 8 :: 9 :: 10 :: 11 :: []) (fun _ => .reads) (by kernel_rfl) (by kernel_rfl) ?_
      iterate 12 (refine FY.flow_r rfl rfl rfl ?_; go_big_quiet_step (fail); refine wpQuiet_nil ?_)
      refine FY.flow_end (fun W2 hE2 _ => ?_)
      replace hE2 : Ext w W2 := ((Keep.refl _ w).drew).trans hE2
      clear d2 d4
      by_cases hfull : nn - at0 < SN
      · have hfull' : (nn : Int) - (at0 : Int) < (SN : Int) := by omega
        have hf := hend 141 (by unfold appL; rw [hbr, if_neg (by simp), if_neg (by omega), if_pos (by rw [hll, hSN, hnn, hat]; exact hfull)]) W2 hE2
        clear hend hR h hd o1 o2
        go_wp2
        exact hf
      · have hfull' : ¬ ((nn : Int) - (at0 : Int) < (SN : Int)) := by omega
        clear hend
        go_wp2
        obtain ⟨lB, lG, lC⟩ := hd.lts
        have hLBB : LB ≠ B := fun he => by
          obtain ⟨_, _, _, _, e1, _⟩ := hd.ex
          have := h.cells
          rw [he] at this
          have h2 : w.heap[B]? = _ := this
          rw [show w.heap[B]? = _ from e1] at h2
          have h3 := congrArg (fun o : Option Obj => match o with | some (.cells _ t _) => t | _ => 0) h2
          exact absurd (show (88 : Nat) = 52 from h3) (by decide)
        have hLBG : d.n ≠ 0 → LB ≠ gs := fun h0 he => by
          obtain ⟨_, _, _, _, _, _, _, e4, _⟩ := hd.ex
          have := h.cells
          rw [he] at this
          have h2 : w.heap[gs]? = _ := this
          rw [show w.heap[gs]? = _ from e4 (by omega)] at h2
          have h3 := congrArg (fun o : Option Obj => match o with | some (.cells _ t _) => t | _ => 0) h2
          exact absurd (show (60 : Nat) = 52 from h3) (by decide)
        obtain ⟨WL, hWL⟩ : ∃ x, writesL fr at0 nn st.gen.toNat st.recs.length l = x := ⟨_, rfl⟩
        have hwl64 : ∀ (k : Nat) (p : Nat × List UInt8), WL[k]? = some p → p.2.length = 64 := fun k p hp => by rw [← hWL] at hp; exact writes_64 hp
        have hWLn : WL.length = SN - 1 + (if at0 + SN < nn then 1 else 0) + 1 := by rw [← hWL, writes_len, hll, hSN]
        have hpl : ∀ A, Keep (diskX 88 B gs) w A → RL A LB B (.slice av st.recs.length cv) st := fun A hA =>
          h.keep hA (fun cur hx => by rcases hx with ⟨_, _, hx⟩ | ⟨_, _, hx⟩ <;> cases hx) (fun k cur _ hx => by rcases hx with ⟨_, _, hx⟩ | ⟨_, _, hx⟩ <;> cases hx) (fun k cur hx => by rcases hx with ⟨_, _, hx⟩ | ⟨_, _, hx⟩ <;> cases hx)
        have hplC : ∀ A, Keep (diskX 88 B gs) w A → Arr A LB 52 [.pointer (some ⟨B, 0, none⟩), .int .i64 (fr : Int), .int .i64 (nn : Int), .int .u32 (st.gen.toNat : Int), .int .i64 (at0 : Int), .slice av st.recs.length cv, .bool false] := fun A hA => by
          have := (hpl A hA).cells
          rw [hbr, hat, hnn, hfr] at this
          exact this
        have hrow : ∀ A, Keep (diskX 88 B gs) w A → Row 1 A a m c (l.map u8v) := fun A hA => by
          refine ⟨hr.1, hr.2.1, hr.2.2.1, hr.2.2.2.1, fun hn => ?_⟩
          obtain ⟨b, off, rfl, hcell⟩ := hr.2.2.2.2 hn
          obtain ⟨x1, x2, _⟩ := hab _ rfl hn
          exact ⟨b, off, rfl, fun i u hu => hA.cell (hcell i u hu) (fun o _ _ hx => by rcases hx with ⟨hx, _⟩ | ⟨hx, _⟩; exact x1 hx; exact x2 hx)⟩
        -- a write has failed
        have hfail : ∀ (k : Nat) (p : Nat × List UInt8) (A : World), WL[k]? = some p → okTo WL d k → (wS WL d k).writeE (p.1 : Int) ≠ 0 → RD A B gs gc ((wS WL d k).write (p.1 : Int) p.2) → Keep (diskX 88 B gs) w A →
            R (.returned (.int .i64 ((wS WL d k).writeE (p.1 : Int)))) (A.setCell ⟨LB, 6, none⟩ (.bool true)) := fun k p A h1 h2 h3 h4 h7 => by
          have hap : appL st l d = ((wS WL d k).writeE (p.1 : Int), { st with br := true }, (wS WL d k).write (p.1 : Int) p.2) := by
            unfold appL
            rw [hbr, if_neg (by simp), if_neg (by omega), if_neg (by rw [hll, hSN, hnn, hat]; exact hfull), hfr, hat, hnn, hWL, runW_fail h2 h1 h3, if_neg h3]
          have hwc := (write_cr (wS WL d k) (p.1 : Int) p.2).1.trans (wS_cr WL d k).1
          have hwn := (write_cr (wS WL d k) (p.1 : Int) p.2).2.2.trans (wS_cr WL d k).2.2
          have hcA := hplC A h7
          have kL : Keep (fun b o => b = LB ∧ ∃ cur, o = .cells cur 52 (0, 0)) A (A.setCell ⟨LB, 6, none⟩ (.bool true)) := (Keep.refl _ _).setCell _ _ (fun o ho => ⟨rfl, by rw [show A.heap[LB]? = _ from hcA] at ho; cases ho; exact ⟨_, rfl⟩⟩)
          have hk9 : Keep (appX 52 88 B gs LB (.slice av st.recs.length cv)) w (A.setCell ⟨LB, 6, none⟩ (.bool true)) := (h7.mono (fun b o _ h => .inl h)).trans (kL.mono (fun b o _ h => .inr (.inl h)))
          obtain ⟨vs', p1, p2⟩ := (hpl A h7).own
          refine hR _ _ ⟨.slice av st.recs.length cv, by rw [hap], ?_, ?_, hk9, .inl rfl⟩
          · rw [hap]
            refine h4.keep kL (fun o hx => hLBB hx.1.symm) (fun hn o hx => ?_) (fun hc o hx => ?_)
            · exact hLBG (by rw [hwn] at hn; omega) hx.1.symm
            · exact (hgc (by rw [hwc] at hc; exact hc)).1 hx.1
          · rw [hap]
            have hc6 := hcA.set 6 (.bool true)
            simp only [List.set_cons_succ, List.set_cons_zero] at hc6
            refine ⟨by rw [← hfr, ← hnn, ← hat] at hc6; exact hc6, ⟨vs', kL.owns' p1 (fun k cur _ hx => by obtain ⟨_, _, hx⟩ := hx; cases hx), p2.keep kL (fun k cur hx => by obtain ⟨_, _, hx⟩ := hx; cases hx)⟩, h.reg, h.le, h.few, h.short⟩
        have HFAIL := Lib.hid hfail
        have HSPAN := Lib.hid hspan
        have HRR := Lib.hid hR
        clear hfail hspan hR
        have hDs : ∀ g : FY.At (fun _ _ => False) W2.drew, Ext w g.w := fun g => hE2.trans (((Keep.refl _ W2).drew).trans g.ext)
        have d1 := fun g => Ext.cell (hDs g) k1
        have d4 := fun g => Ext.cell (hDs g) k4
        clear hDs
        refine FY.wp_flow (X := fun _ _ => False) (0 :: 1 :: 2 :: 3 :: 4 :: 5 :: 6 :: 7 :: 8 :: 9 :: []) (fun _ => .reads) (by kernel_rfl) (by kernel_rfl) ?_
        iterate 10 (refine FY.flow_r rfl rfl rfl ?_; go_big_quiet_step (fail); refine wpQuiet_nil ?_)
        refine FY.flow_end (fun W3 hE3 _ => ?_)
        replace hE3 : Ext w W3 := hE2.trans (((Keep.refl _ W2).drew).trans hE3)
        clear d1 d4 k0 k1 k2 k4 k6 hE2
        have hRD0 : Hid (RD W3 B gs gc (wS WL d 0)) := hd.ext hE3
        go_wp2
        go_loopw [7] (fun ti wr => ∃ (j : Nat), j + 1 ≤ SN ∧ ti = .int .i64 ((j : Int) + 1) ∧ Hid (RD wr B gs gc (wS WL d j)) ∧ Hid (okTo WL d j) ∧ Keep (diskX 88 B gs) w wr) (fun ti _ => SN + 1 - (intOf ti).toNat)
        case atStart => exact ⟨0, by omega, by go_num, hRD0, Lib.hid (fun j p hj _ => by omega), Keep.of_ext hE3⟩
        case round =>
          clear hRD0 hE3
          obtain ⟨j, hj, rfl, HRD, HOK, hk3⟩ := hrel
          by_cases hlt : j + 1 < SN
          · have hlt' : (j : Int) + 1 < (SN : Int) := by omega
            go_wp2
            have hlo : 51 + 64 * j < m := by
              have := hlt
              rw [← hSN] at this
              unfold spanN at this
              rw [if_neg hlong] at this
              split at this <;> omega
            refine wp_laid1 fun C1 hEc b8 => ?_
            have hk4 := hk3.trans (Keep.of_ext hEc)
            have hcut := (hrow C1 hk4).cut (lo := 51 + 64 * j) (hi := m) (by omega) (Nat.le_refl _)
            rw [Nat.mul_one, ← List.map_drop, List.take_of_length_le (by rw [List.length_map, List.length_drop]; omega)] at hcut
            obtain ⟨ac, hac⟩ : ∃ x, (if c = 51 + 64 * j then a else Option.map (fun x => x.add (51 + 64 * j)) a) = x := ⟨_, rfl⟩
            rw [hac] at hcut
            have HAC := Lib.hid hac
            obtain ⟨p8, hp8⟩ : ∃ x, wr.heap.size = x := ⟨_, rfl⟩
            rw [hp8] at b8 ⊢
            have B8 : Arr C1 p8 60 ((zeros 64).map u8v) := by rw [← F64_eq]; exact b8
            have hwa := writes_at (fr := fr) (at' := at0) (n := nn) (g := st.gen.toNat) (num := st.recs.length) (b := l) (k := j) (by rw [hll, hSN]; omega)
            rw [chunk_ref (by omega), hWL] at hwa
            have HWA := Lib.hid hwa
            clear hac hwa b8
            refine FY.wp_flow (X := fun _ _ => False) (0 :: 1 :: 2 :: 3 :: 4 :: 5 :: 6 :: 7 :: []) (fun n => if n = 7 then .last else .reads) (by kernel_rfl) (by kernel_rfl) ?_
            refine FY.flow_v rfl rfl rfl (fun w' _ => exec_slice rfl (slice_whole p8 w')) ?_
            simp only [Act.put, List.setIfInBounds_toArray, List.set_cons_succ, List.set_cons_zero]
            iterate 5 (refine FY.flow_r rfl rfl rfl ?_; go_big_quiet_step (fail); refine wpQuiet_nil ?_)
            refine FY.flow_v (v := .slice ac (m - (51 + 64 * j)) (c - (51 + 64 * j))) rfl rfl rfl (fun w' _ => exec_slice rfl (by rw [← HAC.out]; exact slice_lo' (by omega) a m c (by omega) w')) ?_
            simp only [Act.put, List.setIfInBounds_toArray, List.set_cons_succ, List.set_cons_zero]
            refine FY.flow_l rfl rfl (by kernel_rfl) (fun C2 hE2 _ => ?_)
            have hX2 : Ext C1 C2 := ((Keep.refl _ C1).drew).trans hE2
            obtain ⟨C3, hrun, B83, hK3⟩ := (B8.ext hX2).copyMin (P := Try.prog) 25 25 3 5 Try.underlying25 size_u8 (hcut.ext hX2) (u8v_one _) 0 64 64 (by simp [zeros])
            rw [← List.map_take, over_put, padTo_over _ (by rw [List.length_take]; omega)] at B83
            have hExt3 : Ext wr C3 := ((Keep.of_ext (hEc.trans hX2)).trans hK3).mono (fun k o ho hx => by have := Keep.lt ho; omega)
            obtain ⟨P2, hP2⟩ : ∃ x, padTo 64 ((l.drop (51 + 64 * j)).take 64) = x := ⟨_, rfl⟩
            have hP2l : P2.length = 64 := by rw [← hP2]; exact padTo_len64
            rw [hP2] at B83
            have hwp : WL[j]? = some (fr + at0 + (1 + j), P2) := by rw [HWA.out, hP2]
            have HWP := Lib.hid hwp
            have hk5 := hk3.trans (Keep.of_ext hExt3)
            have hRD3 : RD C3 B gs gc (wS WL d j) := (HRD.out).ext hExt3
            have hws := wS_cr WL d j
            obtain ⟨O, hO⟩ : ∃ O, (P2.map u8v).toArray = O := ⟨_, rfl⟩
            have hi1 := Lib.hid (show (Try.prog.info? 60).map (·.size) = some O.size by rw [info_sec, ← hO]; simp [hP2l])
            have HB8 := Lib.hid (show C3.heap[p8]? = some (.cells O 60 (0, 0)) by rw [← hO]; exact B83)
            have HOA := Lib.hid (show aggB P2 = .agg O by unfold aggB; rw [hO])
            have c0 := (hplC C3 hk5).cell (i := 0) rfl
            have HRD3 := Lib.hid hRD3
            have HX3 := Lib.hid hExt3
            clear hX2 hE2 hK3 B83 B8 hcut hEc hk4 hO HRD hP2 hwp hRD3 hExt3 hk3
            go_wp2_with (refine wpList_copy_run hrun rfl rfl rfl rfl ?_)
            have hDs : ∀ g : FY.At (fun _ _ => False) C3.drew, Ext C3 g.w := fun g => ((Keep.refl _ C3).drew).trans g.ext
            have d0 := fun g => Ext.cell (hDs g) c0
            clear hDs c0 hrun
            refine FY.wp_flow (X := fun _ _ => True) (0 :: 1 :: 2 :: 3 :: 4 :: 5 :: 6 :: 7 :: 8 :: 9 :: []) (fun n => if n = 8 then .bar else .reads) (by kernel_rfl) (by kernel_rfl) ?_
            simp only [Act.put, List.setIfInBounds_toArray, List.set_cons_succ, List.set_cons_zero]
            iterate 7 (refine FY.flow_r rfl rfl rfl ?_; go_big_quiet_step (fail); refine wpQuiet_nil ?_)
            refine FY.flow_v (v := .agg O) rfl rfl rfl (fun w' hE => exec_load_row rfl rfl ((((Keep.refl _ C3).drew).trans hE : Ext C3 w').block _ _ HB8.out (fun h => h)) Try.underlying60 rfl hi1.out) ?_
            simp only [Act.put, List.setIfInBounds_toArray, List.set_cons_succ, List.set_cons_zero]
            refine FY.flow_bvs rfl rfl rfl (by simp) (by kernel_rfl) (fun w5 hE5 _ => ?_)
            have hX5 : Ext C3 w5 := ((Keep.refl _ C3).drew).trans hE5
            have hc := refWrite_any ((HRD3.out).ext hX5) ((fr + at0 + (1 + j) : Nat) : Int) P2 hP2l (by omega)
            have hqq : Hid ((((fr + at0 + (1 + j) : Nat) : Int)) = (fr : Int) + (at0 : Int) + ((j : Int) + 1)) := by show _ = _; omega
            obtain ⟨E, hE⟩ : ∃ x, (wS WL d j).writeE ((fr + at0 + (1 + j) : Nat) : Int) = x := ⟨_, rfl⟩
            obtain ⟨S', hS'⟩ : ∃ x, (wS WL d j).write ((fr + at0 + (1 + j) : Nat) : Int) P2 = x := ⟨_, rfl⟩
            rw [HOA.out, hE, hS', hqq.out] at hc
            have HE := Lib.hid hE
            have HS' := Lib.hid hS'
            clear d0 hE5 hE hS'
            go_wp2_with fail
            refine hc.mono ?_
            rintro e w6 ⟨rfl, hRD6, hK⟩
            have hK6 := ((HRD3.out).ext hX5).turns hK
            have HK6 := Lib.hid (((Keep.of_ext hX5).trans hK6) : Keep (diskX 88 B gs) C3 w6)
            have HRD6 := Lib.hid hRD6
            clear hc hRD6 hK6 hX5
            have hKt : Keep (fun _ _ => True) w5 w6 := hK.mono (fun _ _ _ _ => trivial)
            clear hK
            go_wp2
            refine FY.flow_r rfl rfl rfl ?_; go_big_quiet_step (fail); refine wpQuiet_nil ?_
            refine FY.flow_end (fun D hED _ => ?_)
            replace hED : Ext w6 D := hED
            have hk7 := (hk5.trans HK6.out).trans (Keep.of_ext hED)
            have hRDD := Lib.hid ((HRD6.out).ext hED)
            by_cases hE0 : E = 0
            · have hok : Hid (okTo WL d (j + 1)) := fun i pi hi hpi => by
                by_cases hij : i = j
                · subst hij
                  rw [HWP.out] at hpi
                  cases hpi
                  rw [HE.out, hE0]
                · exact HOK.out i pi (by omega) hpi
              have hRDn : Hid (RD D B gs gc (wS WL d (j + 1))) := by
                show RD D B gs gc _
                rw [wS_succ HWP.out, HS'.out]; exact hRDD.out
              subst hE0
              clear HRD6 hRDD HK6 hk5 hKt
              go_wp2
              go_round
              case rel => exact ⟨j + 1, by omega, by go_num, hRDn, hok, hk7⟩
              case measure => simp [intOf]; omega
            · have hEb : (E != 0) = true := by simpa using hE0
              have hf := HFAIL.out j _ D HWP.out HOK.out (by rw [HE.out]; exact hE0) (by rw [HS'.out]; exact hRDD.out) hk7
              rw [HE.out] at hf
              have hcD := hplC D hk7
              have c6 := hcD.cell (i := 6) rfl
              have f6 := hcD.frozen 6
              clear HRD6 hRDD HK6 hk5 hKt hcD
              go_wp2
              exact hf
          · obtain rfl : SN = j + 1 := by omega
            have hlt' : ¬ ((j : Int) + 1 < ((j + 1 : Nat) : Int)) := by omega
            have k2 := (hplC wr hk3).cell (i := 2) rfl
            have k4 := (hplC wr hk3).cell (i := 4) rfl
            go_wp2
            have hDs : ∀ g : FY.At (fun _ _ => False) wr.drew, Ext wr g.w := fun g => ((Keep.refl _ wr).drew).trans g.ext
            have d2 := fun g => Ext.cell (hDs g) k2
            have d4 := fun g => Ext.cell (hDs g) k4
            clear hDs k2 k4
            refine FY.wp_flow (X := fun _ _ => False) (0 :: 1 :: 2 :: 3 :: 4 :: 5 :: 6 :: 7 :: 8 :: 9 :: 10 :: []) (fun _ => .reads) (by kernel_rfl) (by kernel_rfl) ?_
            iterate 11 (refine FY.flow_r rfl rfl rfl ?_; go_big_quiet_step (fail); refine wpQuiet_nil ?_)
            refine FY.flow_end (fun W4 hE4 _ => ?_)
            replace hE4 : Ext wr W4 := ((Keep.refl _ wr).drew).trans hE4
            have hkz := hk3.trans (Keep.of_ext hE4)
            have HRZ : Hid (RD W4 B gs gc (wS WL d j)) := (HRD.out).ext hE4
            have HOZ := HOK
            clear d2 d4 HRD
            by_cases hroom : at0 + (j + 1) < nn
            · have hroom' : (at0 : Int) + ((j + 1 : Nat) : Int) < (nn : Int) := by omega
              have hwm : WL[j]? = some (fr + at0 + (j + 1), zeros 64) := by rw [← hWL]; have := writes_mid (fr := fr) (at' := at0) (n := nn) (g := st.gen.toNat) (num := st.recs.length) (b := l) (by rw [hll, hSN]; exact hroom); rw [hll, hSN] at this; exact this
              have HWM := Lib.hid hwm
              have c0 := (hplC W4 hkz).cell (i := 0) rfl
              have hws := wS_cr WL d j
              have hc := refWrite_any HRZ.out ((fr + at0 + (j + 1) : Nat) : Int) (zeros 64) rfl (by omega)
              obtain ⟨E, hE⟩ : ∃ x, (wS WL d j).writeE ((fr + at0 + (j + 1) : Nat) : Int) = x := ⟨_, rfl⟩
              obtain ⟨S', hS'⟩ : ∃ x, (wS WL d j).write ((fr + at0 + (j + 1) : Nat) : Int) (zeros 64) = x := ⟨_, rfl⟩
              rw [hE, hS', aggB_zeros, show ((fr + at0 + (j + 1) : Nat) : Int) = (fr : Int) + (at0 : Int) + ((j : Int) + 1) by omega] at hc
              unfold litZ at hc
              simp only [List.replicate] at hc
              have HE1 := Lib.hid hE
              have HS1 := Lib.hid hS'
              clear hwm hE hS'
              go_wp2_with fail
              refine hc.mono ?_
              rintro e V6 ⟨rfl, hRD6, hK⟩
              have hK6 := (HRZ.out).turns hK
              have hk6 := hkz.trans hK6
              have HRD6 := Lib.hid hRD6
              clear hc hRD6 hK6 hK
              by_cases hE0 : E = 0
              · have hok : Hid (okTo WL d (j + 1)) := fun i pi hi hpi => by
                  by_cases hij : i = j
                  · subst hij
                    rw [HWM.out] at hpi
                    cases hpi
                    rw [HE1.out, hE0]
                  · exact HOZ.out i pi (by omega) hpi
                have hRDn : Hid (RD V6 B gs gc (wS WL d (j + 1))) := by
                  show RD V6 B gs gc _
                  rw [wS_succ HWM.out, HS1.out]; exact HRD6.out
                subst hE0
                clear HRD6 hws HRZ hkz c0 HOZ
                have HRZ := hRDn
                have HOZ := hok
                have hkz := hk6
                clear hRDn hok hk6
                have c0 := (hplC V6 hkz).cell (i := 0) rfl
                have c3 := (hplC V6 hkz).cell (i := 3) rfl
                have c5 := (hplC V6 hkz).cell (i := 5) rfl
                have hrz := hrow V6 hkz
                have hws := wS_cr WL d (j + 1)
                have hwl : WL[j + 1]? = some (fr + at0, firstL l st.gen.toNat st.recs.length) := by rw [← hWL]; have := writes_last (fr := fr) (at' := at0) (n := nn) (g := st.gen.toNat) (num := st.recs.length) (b := l); rw [hll, hSN, if_pos hroom] at this; exact this
                have HWL := Lib.hid hwl
                have hlen : WL.length = j + 1 + 1 := by rw [hWLn, if_pos hroom]; omega
                have HLEN := Lib.hid hlen
                clear hwl hlen
                go_wp2
                have hDs : ∀ g : FY.At (fun _ _ => False) V6.drew, Ext V6 g.w := fun g => ((Keep.refl _ V6).drew).trans g.ext
                have d0 := fun g => Ext.cell (hDs g) c0
                have d3 := fun g => Ext.cell (hDs g) c3
                have d5 := fun g => Ext.cell (hDs g) c5
                clear hDs c0 c3 c5
                refine FY.wp_flow (X := fun _ _ => True) (0 :: 1 :: 2 :: 3 :: 4 :: 5 :: 6 :: 7 :: 8 :: 9 :: 10 :: 11 :: 12 :: 13 :: 14 :: 15 :: 16 :: 17 :: [])
                  (fun n => if n = 15 then .grows (Is (aggB (firstL l st.gen.toNat st.recs.length))) (IsSh (aggB (firstL l st.gen.toNat st.recs.length))) else if n = 16 then .bar else .reads) (by kernel_rfl) (by kernel_rfl) ?_
                iterate 15 (refine FY.flow_r rfl rfl rfl ?_; go_big_quiet_step (fail); refine wpQuiet_nil ?_)
                refine FY.flow_g rfl rfl rfl (by simp) ⟨_, rfl⟩ (fun _ _ _ h hE => h) (fun _ _ h => h) (fun w5 hE5 _ => ?_) (fun v hv => ?_)
                · have hc := refFirst_any l st.gen st.recs.length a m c w5 (hrz.ext (((Keep.refl _ V6).drew).trans hE5)) (by omega) (by omega)
                  go_wp2_with fail
                  refine hc.mono ?_
                  rintro e w6 ⟨rfl, hE6⟩
                  go_wp2
                  first | exact ⟨hE6, rfl⟩ | exact rfl
                cases hv
                simp only [Act.put, List.setIfInBounds_toArray, List.set_cons_succ, List.set_cons_zero]
                refine FY.flow_bvs rfl rfl rfl (by simp) (by kernel_rfl) (fun w5 hE5 _ => ?_)
                have hX5 : Ext V6 w5 := ((Keep.refl _ V6).drew).trans hE5
                have hc := refWrite_any ((HRZ.out).ext hX5) ((fr + at0 : Nat) : Int) (firstL l st.gen.toNat st.recs.length) (firstL_length _ _ _) (by omega)
                obtain ⟨E, hE⟩ : ∃ x, (wS WL d (j + 1)).writeE ((fr + at0 : Nat) : Int) = x := ⟨_, rfl⟩
                obtain ⟨S', hS'⟩ : ∃ x, (wS WL d (j + 1)).write ((fr + at0 : Nat) : Int) (firstL l st.gen.toNat st.recs.length) = x := ⟨_, rfl⟩
                rw [hE, hS', show ((fr + at0 : Nat) : Int) = (fr : Int) + (at0 : Int) by omega] at hc
                have HE := Lib.hid hE
                have HS' := Lib.hid hS'
                clear d0 d3 d5 hE5 hE hS'
                go_wp2_with fail
                refine hc.mono ?_
                rintro e w6 ⟨rfl, hRD6, hK⟩
                have hK6 := ((HRZ.out).ext hX5).turns hK
                have HK6 := Lib.hid (((Keep.of_ext hX5).trans hK6) : Keep (diskX 88 B gs) V6 w6)
                have HRD6 := Lib.hid hRD6
                clear hc hRD6 hK6 hX5
                have hKt : Keep (fun _ _ => True) w5 w6 := hK.mono (fun _ _ _ _ => trivial)
                clear hK
                go_wp2
                refine FY.flow_r rfl rfl rfl ?_; go_big_quiet_step (fail); refine wpQuiet_nil ?_
                refine FY.flow_end (fun D hED _ => ?_)
                replace hED : Ext w6 D := hED
                have hk7 := (hkz.trans HK6.out).trans (Keep.of_ext hED)
                have hRDD := Lib.hid ((HRD6.out).ext hED)
                clear hKt
                by_cases hE0 : E = 0
                · have hok : Hid (okTo WL d (j + 1 + 1)) := fun i pi hi hpi => by
                    by_cases hij : i = j + 1
                    · subst hij
                      rw [HWL.out] at hpi
                      cases hpi
                      rw [HE.out, hE0]
                    · exact HOZ.out i pi (by omega) hpi
                  have hRDn : Hid (RD D B gs gc (wS WL d WL.length)) := by
                    show RD D B gs gc _
                    rw [HLEN.out, wS_succ HWL.out, HS'.out]; exact hRDD.out
                  have hrun := runW_ok (l := WL) (s := d) (by rw [HLEN.out]; exact hok.out)
                  have HRUN := Lib.hid hrun
                  subst hE0
                  clear HRD6 hRDD HK6 hrun hED
                  have hap : appL st l d = (0, st.took l, wS WL d WL.length) := by
                    unfold appL
                    rw [hbr, if_neg (by simp), if_neg (by omega), if_neg (by rw [hll, hSN, hnn, hat]; exact hfull), hfr, hat, hnn, hWL, HRUN.out]
                    rfl
                  have HAP := Lib.hid hap
                  have hP := hpl D hk7
                  have hcD := hplC D hk7
                  have hrD := hrow D hk7
                  have hll2 := hll
                  clear hap
                  go_wp2
                  have hXL : ∀ cur, ¬ (fun (k : Nat) (o : Obj) => (Value.slice av st.recs.length cv).ownBlock = some k ∧ ∃ cur, o = .cells cur 25 (0, 0)) LB (.cells cur 52 (0, 0)) := fun cur ⟨_, _, h⟩ => by cases h
                  have hDs : ∀ g : FY.At (fun k o => (Value.slice av st.recs.length cv).ownBlock = some k ∧ ∃ cur, o = .cells cur 25 (0, 0)) D.drew, g.w.cell? ⟨LB, 5, none⟩ = some (.slice av st.recs.length cv) := fun g => (hcD.keep (((Keep.refl _ D).drew).trans g.ext) (hXL _)).cell (i := 5) rfl
                  refine FY.wp_flow (X := fun k o => (Value.slice av st.recs.length cv).ownBlock = some k ∧ ∃ cur, o = .cells cur 25 (0, 0)) (0 :: 1 :: 2 :: 3 :: 4 :: 5 :: 6 :: 7 :: 8 :: 9 :: 10 :: 11 :: [])
                    (fun n => if n = 6 then .grows (OwnB l) (SliceN l.length) else if n = 7 then .grows (fun v w => ∃ au cu, OneOf (.slice au l.length cu) v w ∧ OwnB l (.slice au l.length cu) w) OneOfSh else if n = 8 then .bar else if n = 11 then .last else .still) (by kernel_rfl) (by kernel_rfl) ?_
                  iterate 6 (refine FY.flow_q rfl rfl rfl ?_; go_big_quiet_step (fail); refine wpQuiet_nil ?_)
                  refine FY.flow_g rfl rfl rfl (by simp) ⟨_, none, 0, rfl⟩ (fun _ _ _ h hE => hE.owns h) (fun _ _ h => by obtain ⟨a, c, q, _⟩ := owns_row h; exact ⟨a, c, q⟩) (fun w5 hE5 _ => ?_) (fun v hv => ?_)
                  · obtain ⟨v5, w6, hrun, hown, hgrow, _⟩ := run_append_row w5 0 25 25 5 _ 1 1 Try.underlying25 info_u8 rfl (by decide) (World.ownsRow_nil w5 0 5 1) (hrD.ext (((Keep.refl _ D).drew).trans hE5)) (u8v_one _) (by unfold maxLen; omega) (by omega) (Nat.zero_le _)
                    rw [Nat.zero_add, List.nil_append] at hown
                    have hE6 : Ext w5 w6 := Keep.of_grownBy hgrow (fun k o h _ => by cases h)
                    have hob : OwnB l v5 w6 := by unfold OwnB; rw [hll2]; exact hown
                    refine wpList_append_run hrun rfl rfl rfl rfl ?_
                    exact ⟨rfl, _, rfl, hE6, hob⟩
                  obtain ⟨au, cu, rfl⟩ := hv
                  simp only [Act.put, List.setIfInBounds_toArray, List.set_cons_succ, List.set_cons_zero]
                  refine FY.flow_g rfl rfl rfl (by simp) ⟨_, 0, rfl⟩ (fun v A B ⟨a1, c1, ⟨g, h1, h2⟩, h3⟩ hE => ⟨a1, c1, ⟨g, h1, h2.ext hE⟩, hE.owns h3⟩) (fun v A ⟨_, _, ⟨g, h1, _⟩, _⟩ => ⟨g, h1⟩) (fun w5 hE5 hf => ?_) (fun v hv => ?_)
                  · have HO := Lib.hid (show OwnB l (.slice au l.length cu) w5 from hf 6 (by kernel_rfl))
                    have HW := Lib.hid (lit_row (base := 0) w5 25 #[.slice au l.length cu] 1 (by simp [maxLen]) rfl (Nat.zero_le _)).2
                    have eA : Ext w5 (w5.alloc (.cells #[.slice au l.length cu] 25)) := (Keep.refl _ w5).alloc _
                    clear hf hll hll2
                    go_wp2
                    first | exact ⟨eA, au, cu, ⟨_, rfl, HW.out⟩, eA.owns HO.out⟩ | exact ⟨au, cu, ⟨_, rfl, HW.out⟩, eA.owns HO.out⟩
                  obtain ⟨g, rfl⟩ := hv
                  simp only [Act.put, List.setIfInBounds_toArray, List.set_cons_succ, List.set_cons_zero]
                  refine FY.flow_bvs rfl rfl rfl (by simp) (by kernel_rfl) (fun w7 hE7 hf => ?_)
                  obtain ⟨a1, c1, ⟨_, q, hrow7⟩, hob⟩ := hf 7
                  have hX7 : Ext D w7 := ((Keep.refl _ D).drew).trans hE7
                  cases q
                  obtain ⟨v', w8, hrun, ⟨a2, c2, rfl⟩, ⟨vs8, p1, p2⟩, hK8, hblk⟩ := run_append_rec (hP.ext hX7) hob hrow7 rfl 31
                  have hc8 := (hcD.ext hX7).keep hK8 (hXL _)
                  have hK := (Keep.of_ext hX7).trans hK8
                  clear hf
                  refine wpList_append_run hrun rfl rfl rfl rfl ?_
                  refine ⟨rfl, _, rfl, hK8, ?_⟩
                  simp only [Act.put, List.setIfInBounds_toArray, List.set_cons_succ, List.set_cons_zero]
                  clear hrun hE7 hrow7 hob hDs
                  iterate 2 (refine FY.flow_q rfl rfl rfl ?_; go_big_quiet_step (fail); refine wpQuiet_nil ?_)
                  refine FY.flow_l rfl rfl (by kernel_rfl) (fun w9 hE9 _ => ?_)
                  replace hE9 : Ext w8 w9 := hE9
                  have hc9 := hc8.ext hE9
                  have f5 := hc9.frozen 5
                  have c5 := hc9.cell (i := 5) rfl
                  have hc10 := (hc9.set 5 (.slice a2 (st.recs.length + 1) c2))
                  simp only [List.set_cons_succ, List.set_cons_zero] at hc10
                  have f4 := hc10.frozen 4
                  have c4 := hc10.cell (i := 4) rfl
                  have hc11 := hc10.set 4 (.int .i64 ((at0 : Int) + ((j + 1 : Nat) : Int)))
                  simp only [List.set_cons_succ, List.set_cons_zero] at hc11
                  have kc : Keep (fun k o => k = LB ∧ ∃ cur, o = .cells cur 52 (0, 0)) w9 ((w9.setCell ⟨LB, 5, none⟩ (.slice a2 (st.recs.length + 1) c2)).setCell ⟨LB, 4, none⟩ (.int .i64 ((at0 : Int) + ((j + 1 : Nat) : Int)))) :=
                    ((Keep.refl _ w9).setCell _ _ (fun o ho => ⟨rfl, by rw [show w9.heap[LB]? = _ from hc9] at ho; cases ho; exact ⟨_, rfl⟩⟩)).setCell _ _ (fun o ho => ⟨rfl, by rw [show w9.heap[LB]? = _ from hc9] at ho; cases ho; exact ⟨_, rfl⟩⟩)
                  have o1' := kc.owns' (hE9.owns p1) (fun k cur _ ⟨_, _, h⟩ => by cases h)
                  have o2' := (p2.keep (X := fun _ _ => False) hE9 (fun _ _ h => h)).keep kc (fun k cur ⟨_, _, h⟩ => by cases h)
                  have hKf : Keep (appX 52 88 B gs LB (.slice av st.recs.length cv)) w ((w9.setCell ⟨LB, 5, none⟩ (.slice a2 (st.recs.length + 1) c2)).setCell ⟨LB, 4, none⟩ (.int .i64 ((at0 : Int) + ((j + 1 : Nat) : Int)))) :=
                    (((hk7.mono (fun b o _ h => .inl h)).trans (hK.mono (fun b o _ h => .inr (.inr h)))).trans (Keep.of_ext hE9)).trans (kc.mono (fun b o _ h => .inr (.inl h)))
                  have hKD : Keep (fun b o => ((Value.slice av st.recs.length cv).ownBlock = some b ∧ ∃ cur, o = .cells cur 25 (0, 0)) ∨ (b = LB ∧ ∃ cur, o = .cells cur 52 (0, 0))) D ((w9.setCell ⟨LB, 5, none⟩ (.slice a2 (st.recs.length + 1) c2)).setCell ⟨LB, 4, none⟩ (.int .i64 ((at0 : Int) + ((j + 1 : Nat) : Int)))) :=
                    ((hK.mono (fun b o _ h => .inl h)).trans (Keep.of_ext hE9)).trans (kc.mono (fun b o _ h => .inr h))
                  have hf : R (.returned (.int .i64 0)) ((w9.setCell ⟨LB, 5, none⟩ (.slice a2 (st.recs.length + 1) c2)).setCell ⟨LB, 4, none⟩ (.int .i64 ((at0 : Int) + ((j + 1 : Nat) : Int)))) := by
                    have hwsN := wS_cr WL d WL.length
                    have hvB : ∀ k, (Value.slice av st.recs.length cv).ownBlock = some k → k ≠ B ∧ (d.n ≠ 0 → k ≠ gs) := fun k hk => by
                      rcases o1.2 with ⟨hv, _⟩ | ⟨g', cap, cur, hv, _, hgb, _⟩
                      · rw [hv] at hk; simp [Value.ownBlock] at hk
                      · rw [hv] at hk
                        obtain rfl : g' = k := by simpa [Value.ownBlock] using hk
                        obtain ⟨_, _, _, _, e1, _, _, e4, _⟩ := hd.ex
                        refine ⟨fun he => ?_, fun h0 he => ?_⟩
                        · rw [he, show w.heap[B]? = _ from e1] at hgb
                          have h3 := congrArg (fun o : Option Obj => match o with | some (.cells _ t _) => t | _ => 0) hgb
                          exact absurd (show (88 : Nat) = 25 from h3) (by decide)
                        · rw [he, show w.heap[gs]? = _ from e4 (by omega)] at hgb
                          have h3 := congrArg (fun o : Option Obj => match o with | some (.cells _ t _) => t | _ => 0) hgb
                          exact absurd (show (60 : Nat) = 25 from h3) (by decide)
                    refine HRR.out _ _ ⟨.slice a2 (st.recs.length + 1) c2, by rw [HAP.out], ?_, ?_, hKf, ?_⟩
                    · rw [HAP.out]
                      refine (hRDn.out).keep hKD (fun o hx => ?_) (fun hn o hx => ?_) (fun hc o hx => ?_)
                      · rcases hx with ⟨hx, _⟩ | ⟨hx, _⟩
                        · exact (hvB _ hx).1 rfl
                        · exact hLBB hx.symm
                      · rw [hwsN.2.2] at hn
                        rcases hx with ⟨hx, _⟩ | ⟨hx, _⟩
                        · exact (hvB _ hx).2 (by omega) rfl
                        · exact hLBG (by omega) hx.symm
                      · rw [hwsN.1] at hc
                        rcases hx with ⟨hx, _⟩ | ⟨hx, _⟩
                        · exact (hgc hc).2 _ hx rfl
                        · exact (hgc hc).1 hx
                    · rw [HAP.out]
                      refine ⟨?_, ⟨vs8, o1', o2'⟩, ?_, ?_, ?_, ?_⟩
                      · simp only [LSt.took, hfr, hnn, hat, hbr, hll, hSN]; exact hc11
                      · show st.fr + st.n ≤ 65536; rw [hfr, hnn]; exact hreg
                      · show st.at' + spanN l.length ≤ st.n; rw [hat, hnn, hll, hSN]; omega
                      · show (st.recs ++ [l]).length ≤ st.at' + spanN l.length; rw [hat, hll, hSN, List.length_append, List.length_singleton]; omega
                      · intro x hx
                        replace hx : x ∈ st.recs ++ [l] := hx
                        rw [List.mem_append, List.mem_singleton] at hx
                        rcases hx with hx | rfl
                        · exact h.short x hx
                        · omega
                    · rcases hblk with hb | hb
                      · exact .inl hb
                      · exact .inr (fun k hk => by rw [hb] at hk; cases hk; exact Nat.le_trans hk7.size hX7.size)
                  have HF := Lib.hid hf
                  clear hf hKf hKD o1' o2' kc hc11 hc9 hc8 hK8 hK hX7 hE9 p1 p2 hXL hP hcD hrD hRDn
                  go_wp2
                  exact HF.out
                · have hEb : (E != 0) = true := by simpa using hE0
                  have hf := HFAIL.out (j + 1) _ D HWL.out HOZ.out (by rw [HE.out]; exact hE0) (by rw [HS'.out]; exact hRDD.out) hk7
                  rw [HE.out] at hf
                  have hcD := hplC D hk7
                  have c6 := hcD.cell (i := 6) rfl
                  have f6 := hcD.frozen 6
                  clear HRD6 hRDD HK6 hcD
                  go_wp2
                  exact hf
              · have hEb : (E != 0) = true := by simpa using hE0
                have hf := HFAIL.out j _ V6 HWM.out HOZ.out (by rw [HE1.out]; exact hE0) (by rw [HS1.out]; exact HRD6.out) hk6
                rw [HE1.out] at hf
                have hcD := hplC V6 hk6
                have c6 := hcD.cell (i := 6) rfl
                have f6 := hcD.frozen 6
                clear HRD6 hcD HRZ
                go_wp2
                exact hf
            · have hroom' : ¬ ((at0 : Int) + ((j + 1 : Nat) : Int) < (nn : Int)) := by omega
              have c0 := (hplC W4 hkz).cell (i := 0) rfl
              have c3 := (hplC W4 hkz).cell (i := 3) rfl
              have c5 := (hplC W4 hkz).cell (i := 5) rfl
              have hrz := hrow W4 hkz
              have hws := wS_cr WL d (j)
              have hwl : WL[j]? = some (fr + at0, firstL l st.gen.toNat st.recs.length) := by rw [← hWL]; have := writes_last (fr := fr) (at' := at0) (n := nn) (g := st.gen.toNat) (num := st.recs.length) (b := l); rw [hll, hSN, if_neg hroom] at this; exact this
              have HWL := Lib.hid hwl
              have hlen : WL.length = j + 1 := by rw [hWLn, if_neg hroom]; omega
              have HLEN := Lib.hid hlen
              clear hwl hlen
              go_wp2
              have hDs : ∀ g : FY.At (fun _ _ => False) W4.drew, Ext W4 g.w := fun g => ((Keep.refl _ W4).drew).trans g.ext
              have d0 := fun g => Ext.cell (hDs g) c0
              have d3 := fun g => Ext.cell (hDs g) c3
              have d5 := fun g => Ext.cell (hDs g) c5
              clear hDs c0 c3 c5
              refine FY.wp_flow (X := fun _ _ => True) (0 :: 1 :: 2 :: 3 :: 4 :: 5 :: 6 :: 7 :: 8 :: 9 :: 10 :: 11 :: 12 :: 13 :: 14 :: 15 :: 16 :: 17 :: [])
                (fun n => if n = 15 then .grows (Is (aggB (firstL l st.gen.toNat st.recs.length))) (IsSh (aggB (firstL l st.gen.toNat st.recs.length))) else if n = 16 then .bar else .reads) (by kernel_rfl) (by kernel_rfl) ?_
              iterate 15 (refine FY.flow_r rfl rfl rfl ?_; go_big_quiet_step (fail); refine wpQuiet_nil ?_)
              refine FY.flow_g rfl rfl rfl (by simp) ⟨_, rfl⟩ (fun _ _ _ h hE => h) (fun _ _ h => h) (fun w5 hE5 _ => ?_) (fun v hv => ?_)
              · have hc := refFirst_any l st.gen st.recs.length a m c w5 (hrz.ext (((Keep.refl _ W4).drew).trans hE5)) (by omega) (by omega)
                go_wp2_with fail
                refine hc.mono ?_
                rintro e w6 ⟨rfl, hE6⟩
                go_wp2
                first | exact ⟨hE6, rfl⟩ | exact rfl
              cases hv
              simp only [Act.put, List.setIfInBounds_toArray, List.set_cons_succ, List.set_cons_zero]
              refine FY.flow_bvs rfl rfl rfl (by simp) (by kernel_rfl) (fun w5 hE5 _ => ?_)
              have hX5 : Ext W4 w5 := ((Keep.refl _ W4).drew).trans hE5
              have hc := refWrite_any ((HRZ.out).ext hX5) ((fr + at0 : Nat) : Int) (firstL l st.gen.toNat st.recs.length) (firstL_length _ _ _) (by omega)
              obtain ⟨E, hE⟩ : ∃ x, (wS WL d (j)).writeE ((fr + at0 : Nat) : Int) = x := ⟨_, rfl⟩
              obtain ⟨S', hS'⟩ : ∃ x, (wS WL d (j)).write ((fr + at0 : Nat) : Int) (firstL l st.gen.toNat st.recs.length) = x := ⟨_, rfl⟩
              rw [hE, hS', show ((fr + at0 : Nat) : Int) = (fr : Int) + (at0 : Int) by omega] at hc
              have HE := Lib.hid hE
              have HS' := Lib.hid hS'
              clear d0 d3 d5 hE5 hE hS'
              go_wp2_with fail
              refine hc.mono ?_
              rintro e w6 ⟨rfl, hRD6, hK⟩
              have hK6 := ((HRZ.out).ext hX5).turns hK
              have HK6 := Lib.hid (((Keep.of_ext hX5).trans hK6) : Keep (diskX 88 B gs) W4 w6)
              have HRD6 := Lib.hid hRD6
              clear hc hRD6 hK6 hX5
              have hKt : Keep (fun _ _ => True) w5 w6 := hK.mono (fun _ _ _ _ => trivial)
              clear hK
              go_wp2
              refine FY.flow_r rfl rfl rfl ?_; go_big_quiet_step (fail); refine wpQuiet_nil ?_
              refine FY.flow_end (fun D hED _ => ?_)
              replace hED : Ext w6 D := hED
              have hk7 := (hkz.trans HK6.out).trans (Keep.of_ext hED)
              have hRDD := Lib.hid ((HRD6.out).ext hED)
              clear hKt
              by_cases hE0 : E = 0
              · have hok : Hid (okTo WL d (j + 1)) := fun i pi hi hpi => by
                  by_cases hij : i = j
                  · subst hij
                    rw [HWL.out] at hpi
                    cases hpi
                    rw [HE.out, hE0]
                  · exact HOZ.out i pi (by omega) hpi
                have hRDn : Hid (RD D B gs gc (wS WL d WL.length)) := by
                  show RD D B gs gc _
                  rw [HLEN.out, wS_succ HWL.out, HS'.out]; exact hRDD.out
                have hrun := runW_ok (l := WL) (s := d) (by rw [HLEN.out]; exact hok.out)
                have HRUN := Lib.hid hrun
                subst hE0
                clear HRD6 hRDD HK6 hrun hED
                have hap : appL st l d = (0, st.took l, wS WL d WL.length) := by
                  unfold appL
                  rw [hbr, if_neg (by simp), if_neg (by omega), if_neg (by rw [hll, hSN, hnn, hat]; exact hfull), hfr, hat, hnn, hWL, HRUN.out]
                  rfl
                have HAP := Lib.hid hap
                have hP := hpl D hk7
                have hcD := hplC D hk7
                have hrD := hrow D hk7
                have hll2 := hll
                clear hap
                go_wp2
                have hXL : ∀ cur, ¬ (fun (k : Nat) (o : Obj) => (Value.slice av st.recs.length cv).ownBlock = some k ∧ ∃ cur, o = .cells cur 25 (0, 0)) LB (.cells cur 52 (0, 0)) := fun cur ⟨_, _, h⟩ => by cases h
                have hDs : ∀ g : FY.At (fun k o => (Value.slice av st.recs.length cv).ownBlock = some k ∧ ∃ cur, o = .cells cur 25 (0, 0)) D.drew, g.w.cell? ⟨LB, 5, none⟩ = some (.slice av st.recs.length cv) := fun g => (hcD.keep (((Keep.refl _ D).drew).trans g.ext) (hXL _)).cell (i := 5) rfl
                refine FY.wp_flow (X := fun k o => (Value.slice av st.recs.length cv).ownBlock = some k ∧ ∃ cur, o = .cells cur 25 (0, 0)) (0 :: 1 :: 2 :: 3 :: 4 :: 5 :: 6 :: 7 :: 8 :: 9 :: 10 :: 11 :: [])
                  (fun n => if n = 6 then .grows (OwnB l) (SliceN l.length) else if n = 7 then .grows (fun v w => ∃ au cu, OneOf (.slice au l.length cu) v w ∧ OwnB l (.slice au l.length cu) w) OneOfSh else if n = 8 then .bar else if n = 11 then .last else .still) (by kernel_rfl) (by kernel_rfl) ?_
                iterate 6 (refine FY.flow_q rfl rfl rfl ?_; go_big_quiet_step (fail); refine wpQuiet_nil ?_)
                refine FY.flow_g rfl rfl rfl (by simp) ⟨_, none, 0, rfl⟩ (fun _ _ _ h hE => hE.owns h) (fun _ _ h => by obtain ⟨a, c, q, _⟩ := owns_row h; exact ⟨a, c, q⟩) (fun w5 hE5 _ => ?_) (fun v hv => ?_)
                · obtain ⟨v5, w6, hrun, hown, hgrow, _⟩ := run_append_row w5 0 25 25 5 _ 1 1 Try.underlying25 info_u8 rfl (by decide) (World.ownsRow_nil w5 0 5 1) (hrD.ext (((Keep.refl _ D).drew).trans hE5)) (u8v_one _) (by unfold maxLen; omega) (by omega) (Nat.zero_le _)
                  rw [Nat.zero_add, List.nil_append] at hown
                  have hE6 : Ext w5 w6 := Keep.of_grownBy hgrow (fun k o h _ => by cases h)
                  have hob : OwnB l v5 w6 := by unfold OwnB; rw [hll2]; exact hown
                  refine wpList_append_run hrun rfl rfl rfl rfl ?_
                  exact ⟨rfl, _, rfl, hE6, hob⟩
                obtain ⟨au, cu, rfl⟩ := hv
                simp only [Act.put, List.setIfInBounds_toArray, List.set_cons_succ, List.set_cons_zero]
                refine FY.flow_g rfl rfl rfl (by simp) ⟨_, 0, rfl⟩ (fun v A B ⟨a1, c1, ⟨g, h1, h2⟩, h3⟩ hE => ⟨a1, c1, ⟨g, h1, h2.ext hE⟩, hE.owns h3⟩) (fun v A ⟨_, _, ⟨g, h1, _⟩, _⟩ => ⟨g, h1⟩) (fun w5 hE5 hf => ?_) (fun v hv => ?_)
                · have HO := Lib.hid (show OwnB l (.slice au l.length cu) w5 from hf 6 (by kernel_rfl))
                  have HW := Lib.hid (lit_row (base := 0) w5 25 #[.slice au l.length cu] 1 (by simp [maxLen]) rfl (Nat.zero_le _)).2
                  have eA : Ext w5 (w5.alloc (.cells #[.slice au l.length cu] 25)) := (Keep.refl _ w5).alloc _
                  clear hf hll hll2
                  go_wp2
                  first | exact ⟨eA, au, cu, ⟨_, rfl, HW.out⟩, eA.owns HO.out⟩ | exact ⟨au, cu, ⟨_, rfl, HW.out⟩, eA.owns HO.out⟩
                obtain ⟨g, rfl⟩ := hv
                simp only [Act.put, List.setIfInBounds_toArray, List.set_cons_succ, List.set_cons_zero]
                refine FY.flow_bvs rfl rfl rfl (by simp) (by kernel_rfl) (fun w7 hE7 hf => ?_)
                obtain ⟨a1, c1, ⟨_, q, hrow7⟩, hob⟩ := hf 7
                have hX7 : Ext D w7 := ((Keep.refl _ D).drew).trans hE7
                cases q
                obtain ⟨v', w8, hrun, ⟨a2, c2, rfl⟩, ⟨vs8, p1, p2⟩, hK8, hblk⟩ := run_append_rec (hP.ext hX7) hob hrow7 rfl 31
                have hc8 := (hcD.ext hX7).keep hK8 (hXL _)
                have hK := (Keep.of_ext hX7).trans hK8
                clear hf
                refine wpList_append_run hrun rfl rfl rfl rfl ?_
                refine ⟨rfl, _, rfl, hK8, ?_⟩
                simp only [Act.put, List.setIfInBounds_toArray, List.set_cons_succ, List.set_cons_zero]
                clear hrun hE7 hrow7 hob hDs
                iterate 2 (refine FY.flow_q rfl rfl rfl ?_; go_big_quiet_step (fail); refine wpQuiet_nil ?_)
                refine FY.flow_l rfl rfl (by kernel_rfl) (fun w9 hE9 _ => ?_)
                replace hE9 : Ext w8 w9 := hE9
                have hc9 := hc8.ext hE9
                have f5 := hc9.frozen 5
                have c5 := hc9.cell (i := 5) rfl
                have hc10 := (hc9.set 5 (.slice a2 (st.recs.length + 1) c2))
                simp only [List.set_cons_succ, List.set_cons_zero] at hc10
                have f4 := hc10.frozen 4
                have c4 := hc10.cell (i := 4) rfl
                have hc11 := hc10.set 4 (.int .i64 ((at0 : Int) + ((j + 1 : Nat) : Int)))
                simp only [List.set_cons_succ, List.set_cons_zero] at hc11
                have kc : Keep (fun k o => k = LB ∧ ∃ cur, o = .cells cur 52 (0, 0)) w9 ((w9.setCell ⟨LB, 5, none⟩ (.slice a2 (st.recs.length + 1) c2)).setCell ⟨LB, 4, none⟩ (.int .i64 ((at0 : Int) + ((j + 1 : Nat) : Int)))) :=
                  ((Keep.refl _ w9).setCell _ _ (fun o ho => ⟨rfl, by rw [show w9.heap[LB]? = _ from hc9] at ho; cases ho; exact ⟨_, rfl⟩⟩)).setCell _ _ (fun o ho => ⟨rfl, by rw [show w9.heap[LB]? = _ from hc9] at ho; cases ho; exact ⟨_, rfl⟩⟩)
                have o1' := kc.owns' (hE9.owns p1) (fun k cur _ ⟨_, _, h⟩ => by cases h)
                have o2' := (p2.keep (X := fun _ _ => False) hE9 (fun _ _ h => h)).keep kc (fun k cur ⟨_, _, h⟩ => by cases h)
                have hKf : Keep (appX 52 88 B gs LB (.slice av st.recs.length cv)) w ((w9.setCell ⟨LB, 5, none⟩ (.slice a2 (st.recs.length + 1) c2)).setCell ⟨LB, 4, none⟩ (.int .i64 ((at0 : Int) + ((j + 1 : Nat) : Int)))) :=
                  (((hk7.mono (fun b o _ h => .inl h)).trans (hK.mono (fun b o _ h => .inr (.inr h)))).trans (Keep.of_ext hE9)).trans (kc.mono (fun b o _ h => .inr (.inl h)))
                have hKD : Keep (fun b o => ((Value.slice av st.recs.length cv).ownBlock = some b ∧ ∃ cur, o = .cells cur 25 (0, 0)) ∨ (b = LB ∧ ∃ cur, o = .cells cur 52 (0, 0))) D ((w9.setCell ⟨LB, 5, none⟩ (.slice a2 (st.recs.length + 1) c2)).setCell ⟨LB, 4, none⟩ (.int .i64 ((at0 : Int) + ((j + 1 : Nat) : Int)))) :=
                  ((hK.mono (fun b o _ h => .inl h)).trans (Keep.of_ext hE9)).trans (kc.mono (fun b o _ h => .inr h))
                have hf : R (.returned (.int .i64 0)) ((w9.setCell ⟨LB, 5, none⟩ (.slice a2 (st.recs.length + 1) c2)).setCell ⟨LB, 4, none⟩ (.int .i64 ((at0 : Int) + ((j + 1 : Nat) : Int)))) := by
                  have hwsN := wS_cr WL d WL.length
                  have hvB : ∀ k, (Value.slice av st.recs.length cv).ownBlock = some k → k ≠ B ∧ (d.n ≠ 0 → k ≠ gs) := fun k hk => by
                    rcases o1.2 with ⟨hv, _⟩ | ⟨g', cap, cur, hv, _, hgb, _⟩
                    · rw [hv] at hk; simp [Value.ownBlock] at hk
                    · rw [hv] at hk
                      obtain rfl : g' = k := by simpa [Value.ownBlock] using hk
                      obtain ⟨_, _, _, _, e1, _, _, e4, _⟩ := hd.ex
                      refine ⟨fun he => ?_, fun h0 he => ?_⟩
                      · rw [he, show w.heap[B]? = _ from e1] at hgb
                        have h3 := congrArg (fun o : Option Obj => match o with | some (.cells _ t _) => t | _ => 0) hgb
                        exact absurd (show (88 : Nat) = 25 from h3) (by decide)
                      · rw [he, show w.heap[gs]? = _ from e4 (by omega)] at hgb
                        have h3 := congrArg (fun o : Option Obj => match o with | some (.cells _ t _) => t | _ => 0) hgb
                        exact absurd (show (60 : Nat) = 25 from h3) (by decide)
                  refine HRR.out _ _ ⟨.slice a2 (st.recs.length + 1) c2, by rw [HAP.out], ?_, ?_, hKf, ?_⟩
                  · rw [HAP.out]
                    refine (hRDn.out).keep hKD (fun o hx => ?_) (fun hn o hx => ?_) (fun hc o hx => ?_)
                    · rcases hx with ⟨hx, _⟩ | ⟨hx, _⟩
                      · exact (hvB _ hx).1 rfl
                      · exact hLBB hx.symm
                    · rw [hwsN.2.2] at hn
                      rcases hx with ⟨hx, _⟩ | ⟨hx, _⟩
                      · exact (hvB _ hx).2 (by omega) rfl
                      · exact hLBG (by omega) hx.symm
                    · rw [hwsN.1] at hc
                      rcases hx with ⟨hx, _⟩ | ⟨hx, _⟩
                      · exact (hgc hc).2 _ hx rfl
                      · exact (hgc hc).1 hx
                  · rw [HAP.out]
                    refine ⟨?_, ⟨vs8, o1', o2'⟩, ?_, ?_, ?_, ?_⟩
                    · simp only [LSt.took, hfr, hnn, hat, hbr, hll, hSN]; exact hc11
                    · show st.fr + st.n ≤ 65536; rw [hfr, hnn]; exact hreg
                    · show st.at' + spanN l.length ≤ st.n; rw [hat, hnn, hll, hSN]; omega
                    · show (st.recs ++ [l]).length ≤ st.at' + spanN l.length; rw [hat, hll, hSN, List.length_append, List.length_singleton]; omega
                    · intro x hx
                      replace hx : x ∈ st.recs ++ [l] := hx
                      rw [List.mem_append, List.mem_singleton] at hx
                      rcases hx with hx | rfl
                      · exact h.short x hx
                      · omega
                  · rcases hblk with hb | hb
                    · exact .inl hb
                    · exact .inr (fun k hk => by rw [hb] at hk; cases hk; exact Nat.le_trans hk7.size hX7.size)
                have HF := Lib.hid hf
                clear hf hKf hKD o1' o2' kc hc11 hc9 hc8 hK8 hK hX7 hE9 p1 p2 hXL hP hcD hrD hRDn
                go_wp2
                exact HF.out
              · have hEb : (E != 0) = true := by simpa using hE0
                have hf := HFAIL.out (j) _ D HWL.out HOZ.out (by rw [HE.out]; exact hE0) (by rw [HS'.out]; exact hRDD.out) hk7
                rw [HE.out] at hf
                have hcD := hplC D hk7
                have c6 := hcD.cell (i := 6) rfl
                have f6 := hcD.frozen 6
                clear HRD6 hRDD HK6 hcD
                go_wp2
                exact hf
end Go.Proofs.Ytdopaoajbjodeaa
