/-
  Whether records are small ('few'); a disk with some bytes ('Laid').
-/
import Derived.Test.YtdopaoajbjodeaaSlM
namespace Go.Proofs.Ytdopaoajbjodeaa
open Go.RowKit Go.Shelf

attribute [local go_sem] Oper.semAt_some

set_option maxHeartbeats 2000000 in
theorem few14_any (w : World) (a : Option Addr) (n c : Nat) (ls : List (List UInt8)) (h : Texts w a n c ls) :
    Calls Try.prog 20 #[.slice a n c] w fun e w' => ∃ q, e = .returned (.bool q) ∧ (q = true → n ≤ 20 ∧ ∀ x ∈ ls, x.length ≤ 400) ∧ w = w' := by
  obtain ⟨vs, hA, hl, htx⟩ := h
  have hnc := hA.1
  have hcm := hA.2.1
  unfold maxLen at hcm
  have HL := Lib.hid hl
  clear hl
  refine calls_cps fun R hR => ?_
  go_enter Try.func20, Try.ntmps20
  go_wp2
  go_loopw [7] (fun i wr => ∃ k : Nat, k ≤ n ∧ i = .int .i64 k ∧ wr = w ∧ Hid (∀ x ∈ ls.take k, x.length ≤ 400)) (fun i _ => n - (intOf i).toNat)
  case atStart => exact ⟨0, by omega, rfl, rfl, Lib.hid (by simp)⟩
  case round =>
    obtain ⟨k, hk, rfl, rfl, HX⟩ := hrel
    by_cases hlt : k < n
    · obtain ⟨ba, oa, rfl, hca⟩ := hA.2.2.2.2 (by omega)
      have hka : k < ls.length := by have := HL.out; omega
      obtain ⟨ax, cx, hvx, hrx⟩ := htx k ls[k] (List.getElem?_eq_getElem hka)
      have c1 := hca k _ hvx
      have HN : ∀ s, ls[k].length = s → s ≤ 400 → Hid (∀ x ∈ ls.take (k + 1), x.length ≤ 400) := fun s hs h => Lib.hid (by
        rw [List.take_add_one, List.getElem?_eq_getElem hka]
        intro x hx
        rcases List.mem_append.1 hx with hx | hx
        · exact HX.out x hx
        · simp at hx; subst hx; omega)
      have hxc := hrx.1
      obtain ⟨s, hs⟩ : ∃ s, ls[k].length = s := ⟨_, rfl⟩
      have HN' := HN s hs
      rw [hs] at c1 hxc
      clear hs hca hka HN HX hvx hrx
      by_cases h100 : 400 < s
      · have h100' : (400 : Int) < (s : Int) := by omega
        go_wp2
      · have h100' : ¬ ((400 : Int) < (s : Int)) := by omega
        have HX := HN' (by omega)
        clear HN'
        go_wp2
        go_roundw
        case rel => exact ⟨k + 1, by omega, by go_num, by trivial, HX⟩
        case measure => simp [intOf]; omega
    · have hall : ∀ x ∈ ls, x.length ≤ 400 := by
        have := HX.out
        rwa [List.take_of_length_le (by have := HL.out; omega)] at this
      have HA := Lib.hid hall
      clear hall HX
      by_cases h24 : n ≤ 20
      · go_wp2
        exact fun _ => HA.out
      · go_wp2
        first | omega | (intro h; omega) | (refine ⟨fun h => ?_, fun h => ?_⟩ <;> omega) | trace_state

theorem write_nil {s : DSt} (h : s.cr = []) (i : Int) (b : List UInt8) : (s.write i b).pw = s.pw := by
  unfold DSt.write
  have : s.tears = false := by unfold DSt.tears; rw [h]
  rw [this]
  split <;> rfl

/-- What Laid hands back: the program's disk and the reference's, in the same state. -/
def LaidQ (N : Nat) (w : World) (e : Ending) (w' : World) : Prop :=
  ∃ B gs gc B2 gs2 gc2 D, e = .returned (.tuple #[.pointer (some ⟨B, 0, none⟩), .pointer (some ⟨B2, 0, none⟩)]) ∧ PD w' B gs gc D ∧ RD w' B2 gs2 gc2 D ∧ D.pw = true ∧ D.n = N ∧ Ext w w'

set_option maxRecDepth 20000 in
set_option maxHeartbeats 4000000 in
theorem laid_any (N : Nat) (hN : N ≤ 60) (a : Option Addr) (m c : Nat) (l : List UInt8) (w : World) (hr : Row 1 w a m c (l.map u8v)) (hm : m ≤ 4000) :
    Calls Try.prog 17 #[.int .i64 (N : Int), .slice a m c] w (LaidQ N w) := by
  have hmc := hr.1
  have hmx := hr.2.1
  unfold maxLen at hmx
  have HLL : Hid (l.length = m) := Lib.hid (by have := hr.2.2.1; simpa using this)
  refine calls_cps fun R hR => ?_
  have hfin : ∀ B gs gc B2 gs2 gc2 D A, PD A B gs gc D → RD A B2 gs2 gc2 D → D.pw = true → D.n = N → Ext w A → R (.returned (.tuple #[.pointer (some ⟨B, 0, none⟩), .pointer (some ⟨B2, 0, none⟩)])) A := fun B gs gc B2 gs2 gc2 D A h1 h2 h3 h4 h5 => hR _ _ ⟨B, gs, gc, B2, gs2, gc2, D, rfl, h1, h2, h3, h4, h5⟩
  have HF := Lib.hid hfin
  clear hR hfin
  have hn0 : ((min (max (N : Int) 0) 65536 : Int) = (N : Int)) := by omega
  have HN0 := Lib.hid hn0
  clear hn0
  go_enter Try.func17, Try.ntmps17
  go_wp2_with fail
  refine (dnew_any N N HN0.out none 0 [] w (Row.nil 2 w) (by decide)).mono ?_
  rintro e w1 ⟨v, rfl, ⟨B, gs, gc, rfl, hD, hb1, hb2, _⟩, e1⟩
  go_wp2_with fail
  refine (refNew_any N N HN0.out none 0 0 [] w1 (Row.nil 2 w1) (by simp)).mono ?_
  rintro e w2 ⟨B2, gs2, rfl, hD2, hb3, hb4, e2⟩
  have hD' := hD.ext e2
  obtain ⟨D, hDe⟩ : ∃ x, (⟨zeros (N * 64), N, [], 0, true⟩ : DSt) = x := ⟨_, rfl⟩
  rw [hDe] at hD' hD2
  obtain ⟨x1, x2, x3, x4⟩ : D.pw = true ∧ D.n = N ∧ D.cr = [] ∧ D.wr = 0 := by rw [← hDe]; exact ⟨rfl, rfl, rfl, rfl⟩
  have HP := Lib.hid hD'
  have HQ := Lib.hid hD2
  have E2 := e1.trans e2
  obtain ⟨lB, lG, _⟩ := hD.lts
  obtain ⟨lB2, lG2, _⟩ := hD2.lts
  have hs2 : w.heap.size ≤ w2.heap.size := E2.size
  have hs12 := e2.size
  clear hD hD' hD2 hDe e1 e2
  go_wp2
  go_loopw [8] (fun i wr => ∃ (k : Nat) (D : DSt), k ≤ N ∧ i = .int .i64 k ∧ Hid (PD wr B gs gc D) ∧ Hid (RD wr B2 gs2 0 D) ∧ D.pw = true ∧ D.n = N ∧ D.cr = [] ∧ D.wr ≤ k ∧ Ext w wr ∧ w2.heap.size ≤ wr.heap.size) (fun i _ => N - (intOf i).toNat)
  case atStart => exact ⟨0, D, by omega, rfl, HP, HQ, x1, x2, x3, by omega, E2, Nat.le_refl _⟩
  case round =>
    obtain ⟨k, D, hk, rfl, HP, HQ, x1, x2, x3, x4, hE, hsz⟩ := hrel
    by_cases hlt : k < N
    · by_cases hlm : 64 * k < m
      · have hlm' : 64 * (k : Int) < (m : Int) := by omega
        go_wp2
        refine wp_laid1 fun C1 hEc b8 => ?_
        have hk4 := hE.trans hEc
        have hcut := (hr.ext hk4).cut (lo := 64 * k) (hi := m) (by omega) (Nat.le_refl _)
        rw [Nat.mul_one, ← List.map_drop, List.take_of_length_le (by rw [List.length_map, List.length_drop, HLL.out]; omega)] at hcut
        obtain ⟨ac, hac⟩ : ∃ x, (if c = 64 * k then a else Option.map (fun x => x.add (64 * k)) a) = x := ⟨_, rfl⟩
        rw [hac] at hcut
        have HAC := Lib.hid hac
        obtain ⟨p8, hp8⟩ : ∃ x, wr.heap.size = x := ⟨_, rfl⟩
        rw [hp8] at b8 ⊢
        have B8 : Arr C1 p8 60 ((zeros 64).map u8v) := by rw [← F64_eq]; exact b8
        clear hac b8
        refine FY.wp_flow (X := fun _ _ => False) (0 :: 1 :: 2 :: 3 :: 4 :: 5 :: []) (fun n => if n = 5 then .last else .reads) (by kernel_rfl) (by kernel_rfl) ?_
        refine FY.flow_v rfl rfl rfl (fun w' _ => exec_slice rfl (slice_whole p8 w')) ?_
        simp only [Act.put, List.setIfInBounds_toArray, List.set_cons_succ, List.set_cons_zero]
        iterate 3 (refine FY.flow_r rfl rfl rfl ?_; go_big_quiet_step (fail); refine wpQuiet_nil ?_)
        refine FY.flow_v (v := .slice ac (m - 64 * k) (c - 64 * k)) rfl rfl rfl (fun w' _ => exec_slice rfl (by rw [← HAC.out]; exact slice_lo' (by omega) a m c (by omega) w')) ?_
        simp only [Act.put, List.setIfInBounds_toArray, List.set_cons_succ, List.set_cons_zero]
        refine FY.flow_l rfl rfl (by kernel_rfl) (fun C2 hE2 _ => ?_)
        have hX2 : Ext C1 C2 := ((Keep.refl _ C1).drew).trans hE2
        obtain ⟨C3, hrun, B83, hK3⟩ := (B8.ext hX2).copyMin (P := Try.prog) 25 25 3 5 Try.underlying25 size_u8 (hcut.ext hX2) (u8v_one _) 0 64 64 (by simp [zeros])
        rw [← List.map_take, over_put, padTo_over _ (by rw [List.length_take]; omega)] at B83
        have hExt3 : Ext wr C3 := ((Keep.of_ext (hEc.trans hX2)).trans hK3).mono (fun k o ho hx => by have := Keep.lt ho; omega)
        obtain ⟨P2, hP2⟩ : ∃ x, padTo 64 ((l.drop (64 * k)).take 64) = x := ⟨_, rfl⟩
        have hP2l : P2.length = 64 := by rw [← hP2]; exact padTo_len64
        rw [hP2] at B83
        have HP3 := Lib.hid ((HP.out).ext hExt3)
        have HQ3 := Lib.hid ((HQ.out).ext hExt3)
        have hp3l : p8 < C3.heap.size := B83.lt
        obtain ⟨O, hO⟩ : ∃ O, (P2.map u8v).toArray = O := ⟨_, rfl⟩
        have hi1 := Lib.hid (show (Try.prog.info? 60).map (·.size) = some O.size by rw [info_sec, ← hO]; simp [hP2l])
        have HB8 := Lib.hid (show C3.heap[p8]? = some (.cells O 60 (0, 0)) by rw [← hO]; exact B83)
        have HOA := Lib.hid (show aggB P2 = .agg O by unfold aggB; rw [hO])
        have hE3 := hE.trans hExt3
        have hsz3 : w2.heap.size ≤ C3.heap.size := Nat.le_trans hsz hExt3.size
        have hc := dwrite_any (HP3.out) (k : Int) P2 hP2l (by omega)
        rw [HOA.out] at hc
        have HX3 := Lib.hid hExt3
        clear hX2 hE2 hK3 B83 B8 hcut hEc hk4 hO hP2 hExt3 HP HQ
        go_wp2_with (first | (refine wpList_copy_run hrun rfl rfl rfl rfl ?_) | (refine wpList_load_row ?_ 60 (.tmp 9) ?_ p8 ?_ 60 O (0, 0) _ ?_ Try.underlying60 rfl hi1.out ?_; rfl; rfl; rfl; exact HB8.out))
        refine hc.mono ?_
        rintro e w6 ⟨rfl, hP6, hK6⟩
        obtain ⟨EE, hEE⟩ : ∃ x, D.writeE (k : Int) = x := ⟨_, rfl⟩
        rw [hEE]
        have hQ6 : RD w6 B2 gs2 0 D := (HQ3.out).keep hK6 (fun o hx => by omega) (fun _ o hx => by omega) (fun h => by rw [x3] at h; exact absurd h (by decide))
        have HB6 := Lib.hid (show w6.heap[p8]? = some (.cells O 60 (0, 0)) from hK6.block _ _ HB8.out (fun hx => by omega))
        have hc2 := refWrite_any hQ6 (k : Int) P2 hP2l (by omega)
        rw [HOA.out, hEE] at hc2
        have hE6 : Ext w w6 := ((Keep.of_ext hE3).trans hK6).mono (fun b o ho hx => by have := Keep.lt ho; omega)
        have HP6 := Lib.hid hP6
        have hsz6 : w2.heap.size ≤ w6.heap.size := Nat.le_trans hsz3 hK6.size
        have hwc := write_cr D (k : Int) P2
        have hwp := write_nil x3 (k : Int) P2
        clear hc hP6 hQ6 hK6 hEE hE3 hrun
        go_wp2_with (first | fail | (refine wpList_load_row ?_ 60 (.tmp 9) ?_ p8 ?_ 60 O (0, 0) _ ?_ Try.underlying60 rfl hi1.out ?_; rfl; rfl; rfl; exact HB6.out))
        refine hc2.mono ?_
        rintro e w7 ⟨rfl, hQ7, hK7⟩
        have hP7 : PD w7 B gs gc (D.write (k : Int) P2) := (HP6.out).keep hK7 (fun o hx => by omega) (fun _ o hx => by omega) (fun h => by rw [hwc.1, x3] at h; exact absurd h (by decide))
        have HP7 := Lib.hid hP7
        have HQ7 := Lib.hid hQ7
        have hE7 : Ext w w7 := ((Keep.of_ext hE6).trans hK7).mono (fun b o ho hx => by have := Keep.lt ho; omega)
        have hsz7 : w2.heap.size ≤ w7.heap.size := Nat.le_trans hsz6 hK7.size
        clear hc2 hP7 hQ7 hK7 hE6
        go_wp2
        go_roundw
        case rel => exact ⟨k + 1, D.write (k : Int) P2, by omega, by go_num, HP7, HQ7, by rw [hwp, x1], by rw [hwc.2.2, x2], by rw [hwc.1, x3], by have := hwc.2.1; omega, hE7, hsz7⟩
        case measure => simp [intOf]; omega
      · have hlm' : ¬ (64 * (k : Int) < (m : Int)) := by omega
        go_wp2
        exact HF.out _ _ _ _ _ _ _ _ HP.out HQ.out x1 x2 hE
    · go_wp2
      exact HF.out _ _ _ _ _ _ _ _ HP.out HQ.out x1 x2 hE
end Go.Proofs.Ytdopaoajbjodeaa
