/-
  Chapter 14's examples ('awake'); SlogSpans.
-/
import Derived.Test.YtdopaoajbjodeaaSlL
import Derived.Test.YtdopaoajbjodeaaSlK
import Derived.Lib.SlBytesConst
namespace Go.Proofs.Ytdopaoajbjodeaa
open Go.RowKit Go.Shelf

attribute [local go_sem] Oper.semAt_some

def d4 : DSt := ⟨zeros (4 * 64), 4, [], 0, true⟩
theorem aw_fmtE : fmtE d4 0 4 = 0 := by kernel_rfl
theorem aw_fmtS : (fmtS d4 0 4).pw = true ∧ (fmtS d4 0 4).n = 4 ∧ (fmtS d4 0 4).wr = 1 ∧ (fmtS d4 0 4).cr = [] := by decide +kernel
theorem aw_isR : isR 0 4 4 = true := by decide +kernel
theorem aw_open : openSt (fmtS d4 0 4) 0 4 1 = ⟨0, 4, 1, 0, [], false⟩ := by kernel_rfl
theorem aw_app : (appL ⟨0, 4, 1, 0, [], false⟩ [97] (fmtS d4 0 4)).1 = 0 ∧ (appL ⟨0, 4, 1, 0, [], false⟩ [97] (fmtS d4 0 4)).2.1.recs.length = 1 := by decide +kernel

set_option maxRecDepth 20000 in
set_option maxHeartbeats 4000000 in
theorem awake14_any (w : World) : Calls Try.prog 8 #[] w fun e w' => e = .returned (.bool true) ∧ Ext w w' := by
  refine calls_cps fun R hR => ?_
  go_enter Try.func8, Try.ntmps8
  go_wp2_with fail
  refine (dnew_any 4 4 (by decide) none 0 [] w (Row.nil 2 w) (by decide)).mono ?_
  rintro e w1 ⟨v, rfl, ⟨B, gs, gc, rfl, hD, hb1, hb2, _⟩, e1⟩
  replace hD : PD w1 B gs gc d4 := hD
  go_wp2_with fail
  have hf := format_any hD 0 4 1 (by decide) (by decide) (by decide)
  rw [aw_fmtE] at hf
  refine hf.mono ?_
  rintro e w2 ⟨rfl, hD2, e2⟩
  have hE2 : Ext w w2 := ((Keep.of_ext e1).trans e2).mono (fun k o ho hx => by have := Keep.lt ho; omega)
  obtain ⟨x1, x2, x3, x4⟩ := aw_fmtS
  clear hf e2 hD
  obtain ⟨D, hDe⟩ : ∃ x, fmtS d4 0 4 = x := ⟨_, rfl⟩
  have hop := aw_open
  have hap := aw_app
  rw [hDe] at hD2 x1 x2 x3 x4 hop hap
  clear hDe
  go_wp2_with fail
  refine (open_any hD2 x1 0 4 1 (by decide) (by decide)).mono ?_
  rintro e w3 ⟨e3, hq⟩
  rcases hq with ⟨hq, _⟩ | ⟨_, LB, v, rfl, hlb, hPL, hown⟩
  · rw [x2, aw_isR] at hq; cases hq
  replace hPL : PL w3 LB B v ⟨0, 4, 1, 0, [], false⟩ := by rw [← hop]; exact hPL
  have hE3 := hE2.trans e3
  have hs2' := hE2.size
  have hD3 := hD2.ext e3
  clear hD2 e1 e3 hop hE2
  have hs1 := fun A => span_any 51 A (by decide)
  have hs2 := fun A => span_any 52 A (by decide)
  rw [show spanZ 51 = 1 by decide] at hs1
  rw [show spanZ 52 = 2 by decide] at hs2
  go_wp2_with fail
  refine (hs1 _).mono ?_
  rintro e w4 ⟨rfl, rfl⟩
  go_wp2_with fail
  refine (hs2 _).mono ?_
  rintro e w4 ⟨rfl, rfl⟩
  go_wp2_with fail
  refine (count_any hPL).mono ?_
  rintro e w4 ⟨rfl, rfl⟩
  have hcv := Lib.run_convert_bytes_const (P := Try.prog) w3 25 5 #[.int .u8 97] 1 1 Try.underlying25 Try.underlying5
  obtain ⟨lB, lG, _⟩ := hD3.lts
  have hlL : LB < w3.heap.size := hPL.cells.lt
  have e5 : Ext w3 (w3.alloc (.cells #[.int .u8 97] 5 (1, 2))) := (Keep.refl _ w3).alloc _
  have hrow : Row 1 (w3.alloc (.cells #[.int .u8 97] 5 (1, 2))) (some ⟨w3.heap.size, 0, none⟩) 1 1 (([97] : List UInt8).map u8v) := by
    refine ⟨Nat.le_refl _, by simp [maxLen], rfl, by simp, fun _ => ⟨w3.heap.size, 0, rfl, fun i u hu => ?_⟩⟩
    rw [cell_of_row _ _ _ _ 5 (1, 2) (World.alloc_heap_new w3 _)]
    simpa [u8v] using hu
  have hap2 := append_any (hPL.ext e5) (hD3.ext e5) _ 1 1 [97] hrow (by decide) (by rw [x3]; decide) (fun p hp _ => by cases hp; exact ⟨by show w3.heap.size ≠ B; omega, by show w3.heap.size ≠ gs; omega, by show w3.heap.size ≠ LB; omega⟩) (fun hc => by rw [x4] at hc; exact absurd hc (by decide))
  go_wp2_with fail
  refine hap2.mono ?_
  rintro e w5 ⟨v', rfl, _, hPL5, hK5, _⟩
  rw [hap.1]
  have hcnt := count_any hPL5
  rw [hap.2] at hcnt
  have hE5 : Ext w w5 := ((Keep.of_ext (hE3.trans e5)).trans hK5).mono (fun k o ho hx => by
    have := Keep.lt ho
    have hs3 := hE3.size
    rcases hx with (⟨hx, _⟩ | ⟨hx, _⟩) | ⟨hx, _⟩ | ⟨hx, _⟩
    · omega
    · omega
    · omega
    · have := hown _ hx; omega)
  go_wp2_with fail
  refine hcnt.mono ?_
  rintro e w6 ⟨rfl, rfl⟩
  go_wp2
  exact ⟨rfl, hE5⟩

/-- How many sectors a record of any length takes. -/
theorem slogSpans_any (n : Int) (w : World) (hn : -9223372036854775808 ≤ n ∧ n ≤ 9223372036854775807) : Calls Try.prog 3 #[.int .i64 n] w fun e w' => e = .returned (.bool true) ∧ Ext w w' := by
  refine calls_cps fun R hR => ?_
  by_cases hmid : 1000 < n ∧ n < 261144
  · have hs := fun A => span_any n A hn
    rw [show spanZ n = 1 + (n - 51 + 63) / 64 by unfold spanZ; rw [if_neg (by omega), if_neg (by omega)]; omega] at hs
    have h1 := hmid.1
    have h2 := hmid.2
    go_enter Try.func3, Try.ntmps3
    go_wp2_with fail
    refine (awake14_any w).mono ?_
    rintro e w1 ⟨rfl, hE⟩
    have h0 : 0 ≤ n - 51 + 63 := by omega
    go_wp2_with fail
    refine (hs w1).mono ?_
    rintro e w2 ⟨rfl, rfl⟩
    go_wp2
    exact ⟨rfl, hE⟩
  · have hs := fun A => span_any n A hn
    have hs2 := fun A => refSpan_any n A hn
    obtain ⟨S, hS⟩ : ∃ x, spanZ n = x := ⟨_, rfl⟩
    rw [hS] at hs hs2
    go_enter Try.func3, Try.ntmps3
    by_cases h1 : 1000 < n
    · have h2 : ¬ n < 261144 := by omega
      go_wp2_with fail
      refine (awake14_any w).mono ?_
      rintro e w1 ⟨rfl, hE⟩
      go_wp2_with fail
      refine (hs w1).mono ?_
      rintro e w2 ⟨rfl, rfl⟩
      go_wp2_with fail
      refine (hs2 _).mono ?_
      rintro e w2 ⟨rfl, rfl⟩
      go_wp2
      exact ⟨rfl, hE⟩
    · go_wp2_with fail
      refine (awake14_any w).mono ?_
      rintro e w1 ⟨rfl, hE⟩
      go_wp2_with fail
      refine (hs w1).mono ?_
      rintro e w2 ⟨rfl, rfl⟩
      go_wp2_with fail
      refine (hs2 _).mono ?_
      rintro e w2 ⟨rfl, rfl⟩
      go_wp2
      exact ⟨rfl, hE⟩
end Go.Proofs.Ytdopaoajbjodeaa
