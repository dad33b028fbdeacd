/-
  The law PadLong.
-/
import Derived.Test.YtafeecdpkceigaaPadC
namespace Go.Proofs.Ytafeecdpkceigaa
open Go.RowKit Go.Shelf

set_option maxHeartbeats 2000000 in
theorem padLong_any (n : Int) (w : World) (hn : -9223372036854775808 ≤ n ∧ n ≤ 9223372036854775807) :
    Calls Try.prog 7 #[.int .i64 n] w fun e w' => e = .returned (.bool true) ∧ Ext w w' := by
  by_cases h0 : n < 0
  · refine calls_cps fun R hR => ?_
    go_enter Try.func7, Try.ntmps7
    go_wp2_with fail
    refine (awake05_any _).mono ?_; rintro e w1 ⟨rfl, e1⟩
    go_wp2
    try exact ⟨rfl, e1⟩
  · by_cases h7 : 70000 < n
    · refine calls_cps fun R hR => ?_
      go_enter Try.func7, Try.ntmps7
      go_wp2_with fail
      refine (awake05_any _).mono ?_; rintro e w1 ⟨rfl, e1⟩
      go_wp2
      try exact ⟨rfl, e1⟩
    · obtain ⟨m, rfl⟩ := Int.eq_ofNat_of_zero_le (show 0 ≤ n by omega)
      obtain ⟨i0, hi, hz0, hz1, hz2⟩ := info_parts info_u8
      have hm : m ≤ 70000 := by omega
      clear hn
      by_cases h6 : 65532 < m
      · refine calls_cps fun R hR => ?_
        go_enter Try.func7, Try.ntmps7
        go_wp2_with fail
        refine (awake05_any _).mono ?_; rintro e w1 ⟨rfl, e1⟩
        go_wp2_with (first | (at_make; go_must (refine wpList_make_full _ rfl _ _ 31 rfl w1.heap.size 5 i0 _ 1 Try.underlying31 hi hz0 hz1 .i64 .i64 _ _ m rfl rfl rfl rfl (by rw [hz2]; omega) (by unfold maxLen; omega) (Nat.le_refl _) ?_); intro w2 hown2 hgrow2) | fail)
        have e2 : Ext w1 w2 := Keep.of_grownBy hgrow2 (fun k o h _ => by cases h)
        rw [show (Value.int .u8 0).cells = #[.int .u8 0] from rfl, Nat.mul_one, toList_madeCells_one, show List.replicate m (Value.int .u8 0) = (List.replicate m (0 : UInt8)).map u8v from by rw [List.map_replicate]; rfl] at hown2
        obtain ⟨_, _, q1, row2⟩ := owns_row hown2
        cases q1
        refine (padPut_long _ _ _ _ _ row2 h6).mono ?_; rintro e w3 ⟨rfl, e3⟩
        clear hown2 row2 hgrow2
        go_wp2
        exact ⟨rfl, (e1.trans e2).trans e3⟩
      · have hbk := fun w => refBucket_any m w (by omega)
        refine calls_cps fun R hR => ?_
        go_enter Try.func7, Try.ntmps7
        go_wp2_with fail
        refine (awake05_any _).mono ?_; rintro e w1 ⟨rfl, e1⟩
        go_wp2_with (first | (at_make; go_must (refine wpList_make_full _ rfl _ _ 31 rfl w1.heap.size 5 i0 _ 1 Try.underlying31 hi hz0 hz1 .i64 .i64 _ _ m rfl rfl rfl rfl (by rw [hz2]; omega) (by unfold maxLen; omega) (Nat.le_refl _) ?_); intro w2 hown2 hgrow2) | fail)
        have e2 : Ext w1 w2 := Keep.of_grownBy hgrow2 (fun k o h _ => by cases h)
        rw [show (Value.int .u8 0).cells = #[.int .u8 0] from rfl, Nat.mul_one, toList_madeCells_one, show List.replicate m (Value.int .u8 0) = (List.replicate m (0 : UInt8)).map u8v from by rw [List.map_replicate]; rfl] at hown2
        obtain ⟨_, _, q1, row2⟩ := owns_row hown2
        cases q1
        refine (padPut_any _ _ _ _ _ row2 (by omega)).mono ?_; rintro e w3 ⟨K, a', c', hK, rfl, o3, e3⟩
        rw [← hK] at hbk
        clear hown2 row2 hgrow2 o3 hK
        go_wp2_with fail
        refine (hbk _).mono ?_; rintro e w4 ⟨rfl, e4⟩
        go_wp2
        exact ⟨rfl, ((e1.trans e2).trans e3).trans e4⟩
end Go.Proofs.Ytafeecdpkceigaa
