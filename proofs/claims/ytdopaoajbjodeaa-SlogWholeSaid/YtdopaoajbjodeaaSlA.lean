/-
  slog.Span and the reference's.
-/
import Derived.Test.YtdopaoajbjodeaaBase
import Derived.Test.YtdopaoajbjodeaaRows
namespace Go.Proofs.Ytdopaoajbjodeaa
open Go.RowKit Go.Shelf

attribute [local go_sem] Oper.semAt_some

def spanZ (n : Int) : Int := if n < 0 ∨ 262144 < n then 0 else if n ≤ 51 then 1 else 1 + (n + 12) / 64
def spanN (n : Nat) : Nat := if 262144 < n then 0 else if n ≤ 51 then 1 else 1 + (n + 12) / 64
theorem spanZ_nat (n : Nat) : spanZ (n : Int) = (spanN n : Int) := by
  unfold spanZ spanN
  by_cases h1 : 262144 < n
  · rw [if_pos (by omega), if_pos h1]; rfl
  · rw [if_neg (by omega), if_neg h1]
    by_cases h2 : n ≤ 51
    · rw [if_pos (by omega), if_pos h2]; rfl
    · rw [if_neg (by omega), if_neg h2]; omega
theorem spanN_le (n : Nat) : spanN n ≤ 4098 := by unfold spanN; split; omega; split <;> omega
theorem spanN_pos {n : Nat} (h : n ≤ 262144) : 1 ≤ spanN n := by unfold spanN; rw [if_neg (by omega)]; split <;> omega
theorem spanN_zero {n : Nat} : spanN n = 0 ↔ 262144 < n := by unfold spanN; split; (constructor <;> omega); split <;> (constructor <;> omega)
/-- A record's bytes fit into its sectors. -/
theorem spanN_fits {n : Nat} (h : n ≤ 262144) : n ≤ 51 + 64 * (spanN n - 1) := by unfold spanN; rw [if_neg (by omega)]; split <;> omega

theorem span_any (n : Int) (w : World) (hn : -9223372036854775808 ≤ n ∧ n ≤ 9223372036854775807) : Calls Try.prog 9 #[.int .i64 n] w fun e w' => e = .returned (.int .i64 (spanZ n)) ∧ w = w' := by
  refine calls_cps fun R hR => ?_
  by_cases h1 : n < 0
  · have hs : spanZ n = 0 := by unfold spanZ; rw [if_pos (.inl h1)]
    rw [hs] at hR
    go_enter Try.func9, Try.ntmps9
    go_wp2
  · by_cases h2 : 262144 < n
    · have hs : spanZ n = 0 := by unfold spanZ; rw [if_pos (.inr h2)]
      rw [hs] at hR
      go_enter Try.func9, Try.ntmps9
      go_wp2
    · by_cases h3 : n ≤ 51
      · have hs : spanZ n = 1 := by unfold spanZ; rw [if_neg (by omega), if_pos h3]
        rw [hs] at hR
        go_enter Try.func9, Try.ntmps9
        go_wp2
      · have hs : spanZ n = 1 + (n + 12) / 64 := by unfold spanZ; rw [if_neg (by omega), if_neg h3]
        have he : 1 + (n - 51 + 64 - 1) / 64 = 1 + (n + 12) / 64 := by omega
        rw [hs, ← he] at hR
        have h0 : 0 ≤ n - 51 + 64 - 1 := by omega
        clear hs he
        go_enter Try.func9, Try.ntmps9
        go_wp2
        try exact ⟨rfl, rfl⟩

theorem refSpan_any (n : Int) (w : World) (hn : -9223372036854775808 ≤ n ∧ n ≤ 9223372036854775807) : Calls Try.prog 10 #[.int .i64 n] w fun e w' => e = .returned (.int .i64 (spanZ n)) ∧ w = w' := by
  refine calls_cps fun R hR => ?_
  by_cases h1 : n < 0
  · have hs : spanZ n = 0 := by unfold spanZ; rw [if_pos (.inl h1)]
    rw [hs] at hR
    go_enter Try.func10, Try.ntmps10
    go_wp2
  · by_cases h2 : 262144 < n
    · have hs : spanZ n = 0 := by unfold spanZ; rw [if_pos (.inr h2)]
      rw [hs] at hR
      go_enter Try.func10, Try.ntmps10
      go_wp2
    · have hs : spanZ n = if n ≤ 51 then 1 else 1 + (n + 12) / 64 := by unfold spanZ; rw [if_neg (by omega)]
      have HS := Lib.hid hs
      clear hs
      go_enter Try.func10, Try.ntmps10
      go_wp2
      go_loop [0, 3] (fun tn tk => ∃ (m : Int) (j : Nat), tn = .int .i64 m ∧ tk = .int .i64 ((j : Int) + 1) ∧ m = n - 64 * j ∧ (0 < j → -13 < m) ∧ j ≤ 5000 ∧ m ≤ n) (fun tn _ => (intOf tn).toNat)
      case atStart => exact ⟨n, 0, rfl, by go_num, by omega, fun h => by omega, by omega, by omega⟩
      case round =>
        obtain ⟨m, j, rfl, rfl, hm, hj, hj5, hmn⟩ := hrel
        have HM := Lib.hid hm
        have HJ := Lib.hid hj
        clear hm hj
        by_cases hlt : 51 < m
        · go_wp2
          go_round
          case rel => exact ⟨m - 64, j + 1, rfl, by go_num, by have := HM.out; omega, fun _ => by omega, by have := HM.out; omega, by omega⟩
          case measure => simp [intOf]; omega
        · have hr : (j : Int) + 1 = spanZ n := by
            rw [HS.out]
            have := HM.out
            have := HJ.out
            split <;> omega
          rw [← hr] at hR
          clear hr
          go_wp2
          try exact ⟨rfl, rfl⟩
end Go.Proofs.Ytdopaoajbjodeaa
