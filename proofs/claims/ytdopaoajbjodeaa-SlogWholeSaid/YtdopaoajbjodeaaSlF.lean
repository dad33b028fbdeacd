/-
  slog.body: a record's bytes, read.
-/
import Derived.Test.YtdopaoajbjodeaaSlE
namespace Go.Proofs.Ytdopaoajbjodeaa
open Go.RowKit Go.Shelf

attribute [local go_sem] Oper.semAt_some

/-- A record's bytes and what stands behind them: the first sector's and j more sectors'. -/
def bodyU (F : Nat → List UInt8) (t : Nat) : Nat → List UInt8
  | 0 => ((F t).drop 4).take 51
  | j + 1 => bodyU F t j ++ F (t + (j + 1))
theorem bodyU_length {F : Nat → List UInt8} {t : Nat} {j : Nat} (h : ∀ i, i ≤ j → (F (t + i)).length = 64) : (bodyU F t j).length = 51 + 64 * j := by
  induction j with
  | zero => have := h 0 (Nat.le_refl _); rw [Nat.add_zero] at this; simp [bodyU, this]
  | succ j ih =>
    rw [bodyU, List.length_append, ih (fun i hi => h i (by omega)), h (j + 1) (Nat.le_refl _)]
    omega
/-- The sectors of a log's region. -/
def secF (d : DSt) (fr : Nat) : Nat → List UInt8 := fun i => d.sector (fr + i)

theorem slice_all64 (g : Nat) (w : World) : (Instr.sliceAt 60 (.pointer (some ⟨g, 0, none⟩)) none none none).run Try.prog w = .ok (.slice (some ⟨g, 0, none⟩) 64 64) w := slice_all g w

set_option maxRecDepth 20000 in
set_option maxHeartbeats 4000000 in
theorem body_any {w : World} {LB B gs gc : Nat} {v : Value} {s : LSt} {d : DSt} (h : PL w LB B v s) (hd : PD w B gs gc d) (hp : d.pw = true) (hfr : s.fr + s.n ≤ d.n) (m : Nat) (hm : m ≤ 262144) (hroom : s.at' + spanN m ≤ s.n) :
    Calls Try.prog 31 #[.pointer (some ⟨LB, 0, none⟩), aggB (secF d s.fr s.at'), .int .i64 (m : Int)] w fun e w' =>
      (∃ a c, e = .returned (.tuple #[.slice a m c, .int .i64 0]) ∧ Row 1 w' a m c (((bodyU (secF d s.fr) s.at' (spanN m - 1)).take m).map u8v)) ∧ Ext w w' := by
  have hreg := h.reg
  have hle := h.le
  have hsp := spanN_pos hm
  have hspl := spanN_le m
  have hfits := spanN_fits hm
  have hsec : ∀ i, i < spanN m → (secF d s.fr (s.at' + i)).length = 64 := fun i hi => sector_length hd.len (by omega)
  have hread : ∀ i, i < spanN m → d.read ((s.fr : Int) + (s.at' : Int) + (i : Int)) = secF d s.fr (s.at' + i) ∧ d.may ((s.fr : Int) + (s.at' : Int) + (i : Int)) = 0 := fun i hi => by
    have hmay : d.may ((s.fr : Int) + (s.at' : Int) + (i : Int)) = 0 := by unfold DSt.may; rw [hp]; simp only [if_true]; rw [if_neg (by omega)]
    refine ⟨?_, hmay⟩
    unfold DSt.read secF
    rw [if_pos hmay]
    congr 1
    omega
  have hS0 := hsec 0 (by omega)
  rw [Nat.add_zero] at hS0
  have hrd : ∀ A (i : Nat), Ext w A → i < spanN m → Calls Try.prog 29 #[.pointer (some ⟨B, 0, none⟩), .int .i64 ((s.fr : Int) + (s.at' : Int) + (i : Int))] A fun e w' => e = .returned (.tuple #[aggB (secF d s.fr (s.at' + i)), .int .i64 0]) ∧ Ext A w' := fun A i hA hi => by
    have := dread_any (hd.ext hA) ((s.fr : Int) + (s.at' : Int) + (i : Int))
    rwa [(hread i hi).1, (hread i hi).2] at this
  have HRD := Lib.hid hrd
  have HSEC := Lib.hid hsec
  have hC := h.cells
  simp only [List.cons_append, List.nil_append] at hC
  have k0 := hC.cell (i := 0) rfl
  have k1 := hC.cell (i := 1) rfl
  have k4 := hC.cell (i := 4) rfl
  obtain ⟨F, hF⟩ : ∃ F, secF d s.fr = F := ⟨_, rfl⟩
  obtain ⟨at0, hat⟩ : ∃ x, s.at' = x := ⟨_, rfl⟩
  obtain ⟨fr, hfr2⟩ : ∃ x, s.fr = x := ⟨_, rfl⟩
  rw [hF, hat, hfr2] at HRD
  rw [hF, hat] at HSEC hS0
  rw [hat] at k4
  rw [hfr2] at k1
  rw [hF, hat]
  obtain ⟨N, hN⟩ : ∃ N, spanN m = N := ⟨_, rfl⟩
  rw [hN] at HRD HSEC hsp hspl hfits hroom ⊢
  rw [hat] at hroom hle
  rw [hfr2] at hreg
  have hs8 : s.n ≤ 65536 := by omega
  clear hrd hsec hread hC h hd hF hat hfr2
  refine calls_cps fun R hR => ?_
  unfold aggB
  obtain ⟨O, hO⟩ : ∃ O, (F at0).map u8v = O := ⟨_, rfl⟩
  have hOl : O.length = 64 := by rw [← hO, List.length_map, hS0]
  rw [hO]
  have HO := Lib.hid hO
  clear hO
  have HSP : ∀ A, Calls Try.prog 9 #[.int .i64 (m : Int)] A fun e w' => e = .returned (.int .i64 (N : Int)) ∧ A = w' := fun A => by
    have := span_any (m : Int) A (by omega)
    rwa [spanZ_nat, hN] at this
  replace HSP := Lib.hid HSP
  have HN := Lib.hid hN
  clear hN
  go_enter Try.func31, Try.ntmps31
  have hsl := slice_455 w.heap.size
  go_wp2_with fail
  have eA : Ext w (w.alloc (.cells O.toArray 60)) := (Keep.refl _ w).alloc _
  have hrow := (Arr.new w 60 O).row (off := 4) (n := 51) (c := 60) (by omega) (by decide) (by simp [maxLen])
  have hb0 : (O.drop 4).take 51 = (bodyU F at0 0).map u8v := by rw [← HO.out, ← List.map_drop, ← List.map_take]; rfl
  rw [hb0] at hrow
  refine (clone_any _ _ _ _ _ hrow (by omega)).mono ?_
  rintro e w1 ⟨u, rfl, hown, hE1⟩
  obtain ⟨ab, cb, rfl, _⟩ := owns_row hown
  replace hE1 := eA.trans hE1
  replace hown := owns_mono hown (show w.heap.size ≤ _ by simp)
  have HOWN := Lib.hid hown
  clear hrow hb0 eA hown HO
  go_wp2_with fail
  go_loopw [8, 9] (fun tb tk wr => ∃ (j : Nat) (ab : Option Addr) (cb : Nat), j + 1 ≤ N ∧ tk = .int .i64 ((j : Int) + 1) ∧ tb = .slice ab (51 + 64 * j) cb ∧ Hid (wr.ownsRow w.heap.size 5 1 tb (51 + 64 * j) ((bodyU F at0 j).map u8v)) ∧ Ext w wr) (fun _ tk _ => N + 1 - (intOf tk).toNat)
  case atStart => exact ⟨0, ab, cb, by omega, by go_num, rfl, HOWN, hE1⟩
  case round =>
    clear HOWN hE1
    obtain ⟨j, ab, cb, hj, rfl, rfl, HOW, hEw⟩ := hrel
    go_wp2_with fail
    refine ((HSP.out) _).mono ?_
    rintro e w2 ⟨rfl, rfl⟩
    by_cases hlt : j + 1 < N
    · have hlt' : (j : Int) + 1 < (N : Int) := by omega
      have hX4 : ∀ {A : World}, Keep (fun k _ => wr.heap.size ≤ k) wr A → ∀ {p : Addr} {u : Value}, w.cell? p = some u → A.cell? p = some u := fun hA p u hu => hA.cell (hEw.cell hu) (fun o ho _ => by have := World.block_lt_of_cell? w p hu; have := hEw.size; omega)
      have hD : ∀ g : FY.At (fun k _ => wr.heap.size ≤ k) wr.drew, Keep (fun k _ => wr.heap.size ≤ k) wr g.w := fun g => ((Keep.refl _ wr).drew).trans g.ext
      have d0 := fun g => hX4 (hD g) k0
      have d1 := fun g => hX4 (hD g) k1
      have d4 := fun g => hX4 (hD g) k4
      clear hD hX4
      have hsl2 := HSEC.out (j + 1) hlt
      have hrd2 := fun A hA => HRD.out A (j + 1) hA hlt
      rw [show ((j + 1 : Nat) : Int) = (j : Int) + 1 from rfl] at hrd2
      obtain ⟨O2, hO2⟩ : ∃ O, (F (at0 + (j + 1))).map u8v = O := ⟨_, rfl⟩
      have hO2l : O2.length = 64 := by rw [← hO2, List.length_map, hsl2]
      have hO21 := all_one (F (at0 + (j + 1)))
      have hbj : (bodyU F at0 j).map u8v ++ O2 = (bodyU F at0 (j + 1)).map u8v := by rw [← hO2, bodyU, List.map_append]
      unfold aggB at hrd2
      have hu81 : ∀ u ∈ O2, u.oneCell' = true := by rw [← hO2]; exact u8v_one _
      rw [hO2] at hrd2 hO21
      have HON := Lib.hid hO21
      have HU81 := Lib.hid hu81
      have HBJ := Lib.hid hbj
      have hi1 := Lib.hid (show (Try.prog.info? 60).map (·.size) = some O2.toArray.size by rw [info_sec]; simp [hO2l])
      have hz1 := Lib.hid (show F64.toArray.size = O2.toArray.size by simp [hO2l, F64])
      have HRD2 := Lib.hid hrd2
      clear hrd2 hO21 hsl2 hO2 hbj hu81
      go_wp2
      refine FY.wp_flow (X := fun k _ => wr.heap.size ≤ k) (0 :: 1 :: 2 :: 3 :: 4 :: 5 :: 6 :: 7 :: 8 :: 9 :: 10 :: 11 :: 12 :: 13 :: 14 :: 15 :: 16 :: 17 :: 18 :: 19 :: 20 :: 21 :: 22 :: 23 :: [])
        (fun n => if n = 17 then .grows (Is (.tuple #[.agg O2.toArray, .int .i64 0])) (IsSh (.tuple #[.agg O2.toArray, .int .i64 0])) else if n = 21 then .grows (fun v w' => ∃ g, v = .pointer (some ⟨g, 0, none⟩) ∧ wr.heap.size ≤ g ∧ Arr w' g 60 F64) (fun v => ∃ g, v = .pointer (some ⟨g, 0, none⟩)) else if n = 22 then .bar else .still) (by kernel_rfl) (by kernel_rfl) ?_
      iterate 17 (refine FY.flow_q rfl rfl rfl ?_; go_big_quiet_step (fail); refine wpQuiet_nil ?_)
      refine FY.flow_g rfl rfl rfl (by simp) ⟨_, rfl⟩ (fun _ _ _ h hE => h) (fun _ _ h => h) (fun w5 hE5 _ => ?_) (fun v hv => ?_)
      · have hc := HRD2.out w5 (hEw.trans (((Keep.refl _ wr).drew).trans hE5))
        go_wp2_with fail
        refine hc.mono ?_
        rintro e w6 ⟨rfl, hE6⟩
        go_wp2
        first | exact ⟨hE6, rfl⟩ | exact rfl
      cases hv
      simp only [Act.put, List.setIfInBounds_toArray, List.set_cons_succ, List.set_cons_zero]
      iterate 3 (refine FY.flow_q rfl rfl rfl ?_; go_big_quiet_step (fail); refine wpQuiet_nil ?_)
      refine FY.flow_g rfl rfl rfl (by simp) ⟨_, 0, rfl⟩ (fun v A B ⟨g, h1, h2, h3⟩ hE => ⟨g, h1, h2, h3.ext hE⟩) (fun v A ⟨g, h1, _⟩ => ⟨g, h1⟩) (fun w5 hE5 hf => ?_) (fun v hv => ?_)
      · have HE := Lib.hid (show wr.heap.size ≤ w5.heap.size from hE5.size)
        have HA := Lib.hid (Arr.new w5 60 F64)
        go_wp2
        exact ⟨(Keep.refl _ w5).alloc _, HE.out, HA.out⟩
      obtain ⟨g, rfl⟩ := hv
      simp only [Act.put, List.setIfInBounds_toArray, List.set_cons_succ, List.set_cons_zero]
      refine FY.flow_b rfl rfl rfl (by kernel_rfl) (fun w6 hE6 hf => ?_)
      obtain ⟨_, q, hge, B6⟩ := hf 21
      cases q
      replace hE6 : Ext wr w6 := ((Keep.refl _ wr).drew).trans hE6
      have hE7 : Ext wr (w6.setRow g O2.toArray) := hE6.setRow_new g _ hge
      have B7 := B6.setRow O2
      have hK7 : Keep (fun k _ => wr.heap.size ≤ k) w6 (w6.setRow g O2.toArray) := (keep_setRow w6 g O2.toArray).mono (fun k o _ h => by rw [h]; exact hge)
      refine wpList_store_row rfl 60 (.tmp 10) (.tmp 39) rfl g O2.toArray rfl rfl 60 F64.toArray B6 hi1.out hz1.out HON.out ?_
      refine ⟨rfl, rfl, hK7, ?_⟩
      clear hf hE6 hK7 B6 d0 d1 d4
      refine FY.flow_q rfl rfl rfl ?_; go_big_quiet_step (fail); refine wpQuiet_nil ?_
      refine FY.flow_end (fun w8 hE8 _ => ?_)
      have B8 := B7.ext hE8
      replace hE8 : Ext wr w8 := hE7.trans hE8
      have hrow8 := B8.whole hO2l (by simp [maxLen])
      have hE9 := hEw.trans hE8
      obtain ⟨v', w9, hrun, hown9, hgrow, _⟩ := run_append_row w8 w.heap.size 25 25 5 _ 1 1 Try.underlying25 info_u8 rfl (by decide) (hE8.owns HOW.out) hrow8 HU81.out (by unfold maxLen; omega) (by omega) hE9.size
      rw [HBJ.out] at hown9
      obtain ⟨a9, c9, rfl, _⟩ := owns_row hown9
      have hE10 : Ext w w9 := Ext.of_below (((Ext.below hE9)).grown hgrow (hE9.size) (fun k hk => ((hE8.owns HOW.out).lt k hk).1))
      have HRUN := Lib.hid hrun
      have HO9 := Lib.hid (show w9.ownsRow w.heap.size 5 1 (.slice a9 (51 + 64 * (j + 1)) c9) (51 + 64 * (j + 1)) ((bodyU F at0 (j + 1)).map u8v) from hown9)
      clear hrun hown9 hgrow hrow8 hE9 hE8 hE7 B7 hge HOW
      go_wp2_with (at_builtin; go_must (refine wpList_append_run HRUN.out rfl rfl rfl rfl ?_))
      go_round
      case rel => exact ⟨j + 1, a9, c9, by omega, by go_num, rfl, HO9, hE10⟩
      case measure => simp [intOf]; omega
    · obtain rfl : j + 1 = N := by omega
      have hlt' : ¬ ((j : Int) + 1 < ((j + 1 : Nat) : Int)) := by omega
      have hml : m ≤ 51 + 64 * j := by omega
      obtain ⟨_, _, q, hr9⟩ := owns_row HOW.out
      cases q
      have hcut := hr9.cut (lo := 0) (hi := m) (by omega) (by omega)
      rw [show (if cb = 0 then ab else Option.map (fun x => x.add (0 * 1)) ab) = ab from by rw [Nat.zero_mul]; split; rfl; cases ab <;> simp [Addr.add]] at hcut
      rw [Nat.zero_mul, List.drop_zero, Nat.mul_one, Nat.sub_zero, Nat.sub_zero, ← List.map_take] at hcut
      have hmc := hr9.1
      have hmx := hr9.2.1
      unfold maxLen at hmx
      have HF := Lib.hid (show (∃ a c, (Ending.returned (.tuple #[.slice ab m cb, .int .i64 0])) = .returned (.tuple #[.slice a m c, .int .i64 0]) ∧ Row 1 wr a m c (((bodyU F at0 (j + 1 - 1)).take m).map u8v)) ∧ Ext w wr from ⟨⟨_, _, rfl, hcut⟩, hEw⟩)
      clear hr9 hcut HOW
      go_wp2
      exact HF.out
end Go.Proofs.Ytdopaoajbjodeaa
