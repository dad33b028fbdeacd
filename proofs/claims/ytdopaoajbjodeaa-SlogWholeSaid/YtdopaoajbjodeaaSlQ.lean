/-
  SlogOpens.
-/
import Derived.Test.YtdopaoajbjodeaaSlO
import Derived.Test.YtdopaoajbjodeaaSlP
namespace Go.Proofs.Ytdopaoajbjodeaa
open Go.RowKit Go.Shelf

attribute [local go_sem] Oper.semAt_some

theorem LA.slice {T : TypeId} {ex : List Value} {w : World} {LB B : Nat} {v : Value} {s : LSt} (h : LA T ex w LB B v s) : ∃ a c, v = .slice a s.recs.length c ∧ Texts w a s.recs.length c s.recs := by
  obtain ⟨vs, o1, o2⟩ := h.own
  obtain ⟨a, c, rfl, hr⟩ := owns_row o1
  exact ⟨a, c, rfl, o2.texts hr⟩

set_option maxRecDepth 20000 in
set_option maxHeartbeats 4000000 in
theorem slogOpens_any (n : Int) (a : Option Addr) (m c : Nat) (l : List UInt8) (fr size : Int) (gen : UInt32) (w : World) (_hn : -9223372036854775808 ≤ n ∧ n ≤ 9223372036854775807) (hr : Row 1 w a m c (l.map u8v))
    (hfr : -9223372036854775808 ≤ fr ∧ fr ≤ 9223372036854775807) (hsz : -9223372036854775808 ≤ size ∧ size ≤ 9223372036854775807) :
    Calls Try.prog 5 #[.int .i64 n, .slice a m c, .int .i64 fr, .int .i64 size, .int .u32 (gen.toNat : Int)] w fun e w' => e = .returned (.bool true) ∧ Ext w w' := by
  have hmc := hr.1
  have hmx := hr.2.1
  unfold maxLen at hmx
  refine calls_cps fun R hR => ?_
  go_enter Try.func5, Try.ntmps5
  go_wp2_with fail
  refine (awake14_any w).mono ?_
  rintro e w1 ⟨rfl, e1⟩
  by_cases h1 : 60 < n
  · clear hr
    go_wp2
    exact ⟨rfl, e1⟩
  by_cases h2 : n < 0
  · clear hr
    go_wp2
    exact ⟨rfl, e1⟩
  by_cases h3 : 4000 < m
  · have h3' : (4000 : Int) < (m : Int) := by omega
    clear hr
    go_wp2
    exact ⟨rfl, e1⟩
  have h3' : ¬ ((4000 : Int) < (m : Int)) := by omega
  obtain ⟨N, rfl⟩ := Int.eq_ofNat_of_zero_le (show 0 ≤ n by omega)
  have hla := laid_any N (by omega) a m c l w1 (hr.ext e1) (by omega)
  clear hr
  go_wp2_with fail
  refine hla.mono ?_
  rintro e w2 ⟨B, gs, gc, B2, gs2, gc2, D, rfl, hP, hQ, x1, x2, e2⟩
  have E2 := e1.trans e2
  clear hla e1 e2
  go_wp2_with fail
  refine (open_any hP x1 fr size gen hfr hsz).mono ?_
  rintro e w3 ⟨e3, hq⟩
  have hQ3 := hQ.ext e3
  have E3 := E2.trans e3
  have hop2 := refOpen_any hQ3 x1 fr size gen hfr hsz
  rcases hq with ⟨hq, rfl⟩ | ⟨hq, LB, v, rfl, _, hPL, _⟩
  · go_wp2_with fail
    refine hop2.mono ?_
    rintro e w4 ⟨e4, hq2⟩
    rcases hq2 with ⟨_, rfl⟩ | ⟨hq2, _⟩
    · go_wp2
      exact ⟨rfl, E3.trans e4⟩
    · rw [hq] at hq2; cases hq2
  · go_wp2_with fail
    refine hop2.mono ?_
    rintro e w4 ⟨e4, hq2⟩
    rcases hq2 with ⟨hq2, _⟩ | ⟨_, LB2, v2, rfl, _, hRL, _⟩
    · rw [hq] at hq2; cases hq2
    have hPL4 := hPL.ext e4
    have E4 := E3.trans e4
    obtain ⟨av, cv, rfl, htx⟩ := hRL.slice
    have hsz2 : 2 ≤ size := by unfold isR at hq; simp at hq; omega
    have hstn : (openSt D fr.toNat size.toNat gen).n = size.toNat := rfl
    have hle := hRL.le
    obtain ⟨st, hst⟩ : ∃ x, openSt D fr.toNat size.toNat gen = x := ⟨_, rfl⟩
    rw [hst] at hPL4 hRL htx hstn hle
    have c5 := hRL.cells.cell (i := 5) rfl
    have c4 := hRL.cells.cell (i := 4) rfl
    have hval : (((st.n - st.at' : Nat) : Int) == size - (st.at' : Int)) = true := by simp; omega
    have HP4 := Lib.hid hPL4
    have HTX := Lib.hid htx
    have hD : ∀ g : FY.At (fun _ _ => False) w4.drew, Ext w4 g.w := fun g => ((Keep.refl _ w4).drew).trans g.ext
    have d4 := fun g => Ext.cell (hD g) c4
    have d5 := fun g => Ext.cell (hD g) c5
    clear hP hQ hQ3 hPL hPL4 hRL htx hop2 hst hq c4 c5 e3 e4 E2 E3
    go_wp2
    obtain ⟨RN, hRN⟩ : ∃ x, ((st.n - st.at' : Nat) : Int) = x := ⟨_, rfl⟩
    rw [hRN] at hval
    have HRN := Lib.hid hRN
    clear hRN
    refine FY.wp_flow (X := fun _ _ => False) (0 :: 1 :: 2 :: 3 :: 4 :: 5 :: 6 :: 7 :: 8 :: 9 :: 10 :: 11 :: 12 :: 13 :: 14 :: 15 :: 16 :: 17 :: [])
      (fun n => if n = 5 then .grows (Is (.bool true)) (IsSh (.bool true)) else if n = 8 then .grows (Is (.int .i64 RN)) (IsSh (.int .i64 RN)) else .reads) (by kernel_rfl) (by kernel_rfl) ?_
    iterate 5 (refine FY.flow_r rfl rfl rfl ?_; go_big_quiet_step (fail); refine wpQuiet_nil ?_)
    refine FY.flow_g rfl rfl rfl (by simp) ⟨_, rfl⟩ (fun _ _ _ h hE => h) (fun _ _ h => h) (fun w5 hE5 _ => ?_) (fun v hv => ?_)
    · have hx5 : Ext w4 w5 := ((Keep.refl _ w4).drew).trans hE5
      have hc := same14_any (HP4.out.ext hx5) av _ cv st.recs (HTX.out.ext hx5)
      rw [show decide (st.recs = st.recs) = true by simp] at hc
      go_wp2_with fail
      refine hc.mono ?_
      rintro e w6 ⟨rfl, hE6⟩
      go_wp2
      first | exact ⟨hE6, rfl⟩ | exact rfl
    cases hv
    simp only [Act.put, List.setIfInBounds_toArray, List.set_cons_succ, List.set_cons_zero]
    iterate 2 (refine FY.flow_r rfl rfl rfl ?_; go_big_quiet_step (fail); refine wpQuiet_nil ?_)
    refine FY.flow_g rfl rfl rfl (by simp) ⟨_, rfl⟩ (fun _ _ _ h hE => h) (fun _ _ h => h) (fun w5 hE5 _ => ?_) (fun v hv => ?_)
    · have hx5 : Ext w4 w5 := ((Keep.refl _ w4).drew).trans hE5
      have hc := room_any (HP4.out.ext hx5)
      rw [HRN.out] at hc
      go_wp2_with fail
      refine hc.mono ?_
      rintro e w6 ⟨rfl, hE6⟩
      go_wp2
      first | exact ⟨hE6, rfl⟩ | exact rfl
    cases hv
    simp only [Act.put, List.setIfInBounds_toArray, List.set_cons_succ, List.set_cons_zero]
    iterate 9 (refine FY.flow_r rfl rfl rfl ?_; go_big_quiet_step (fail); refine wpQuiet_nil ?_)
    refine FY.flow_end (fun W5 hE5 _ => ?_)
    have hx5 : Ext w W5 := E4.trans (((Keep.refl _ w4).drew).trans hE5)
    clear d4 d5 hD
    go_wp2
    exact ⟨rfl, hx5⟩
end Go.Proofs.Ytdopaoajbjodeaa
