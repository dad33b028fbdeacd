/-
  vec.Rol, tabulariumref01.Rol.
-/
import Derived.Test.YtijpbbjblenhaaaBase
import Derived.Test.YtijpbbjblenhaaaWord
import Derived.Test.YtijpbbjblenhaaaRows
namespace Go.Proofs.Ytijpbbjblenhaaa
open Go.RowKit Go.Shelf

theorem rotl_any (x k : Int) (w : World) (_hx : 0 ≤ x ∧ x ≤ 4294967295) (h0 : 0 ≤ k) (h1 : k ≤ 31) : Calls Try.prog 27 #[.int .u32 x, .int .i64 k] w fun e w' => e = .returned (.int .u32 (rol32 x k)) ∧ w = w' := by
  have hb := and31_u64 h0 h1
  go_enter Try.func27, Try.ntmps27
  go_wp2
  go_ret
  exact ⟨by unfold rol32; rw [IntKind.wrap_u32']; rfl, rfl⟩
theorem rol_any (x n : Int) (w : World) (hx : 0 ≤ x ∧ x ≤ 4294967295) (h0 : -9223372036854775808 ≤ n) (h1 : n ≤ 9223372036854775807) : Calls Try.prog 16 #[.int .u32 x, .int .i64 n] w fun e w' => e = .returned (.int .u32 (rol32 x (n % 32))) ∧ w = w' := by
  have hb := and31_i64 h0 h1
  obtain ⟨k, hk⟩ : ∃ k, k = n % 32 := ⟨_, rfl⟩
  rw [← hk] at hb ⊢
  have hk0 : 0 ≤ k := by omega
  have hk1 : k ≤ 31 := by omega
  clear hk
  go_enter Try.func16, Try.ntmps16
  go_wp2_with (go_at_call 27; refine (rotl_any _ _ _ hx hk0 hk1).mono ?_; rintro e w' ⟨rfl, rfl⟩)
  go_ret
  exact ⟨rfl, rfl⟩
theorem rol32_zero {x : Int} (h0 : 0 ≤ x) (h1 : x ≤ 4294967295) : rol32 x 0 = x := by
  obtain ⟨x, rfl⟩ := Int.eq_ofNat_of_zero_le h0
  have h := rol32_nat x 0 (by omega) (by omega)
  rw [show ((0 : Int)) = ((0 : Nat) : Int) from rfl, h]
  rw [BitVec.rotateLeft_def]
  have hm : x % 4294967296 = x := by omega
  have hs : x >>> 32 = 0 := by rw [Nat.shiftRight_eq_div_pow]; omega
  simp [hm, hs]
theorem refRol_any (x n : Int) (w : World) (hx : 0 ≤ x ∧ x ≤ 4294967295) (h0 : -9223372036854775808 ≤ n) (h1 : n ≤ 9223372036854775807) : Calls Try.prog 17 #[.int .u32 x, .int .i64 n] w fun e w' => e = .returned (.int .u32 (rol32 x (n % 32))) ∧ w = w' := by
  have hb := and31_i64 h0 h1
  obtain ⟨k, hk⟩ : ∃ k, k = n % 32 := ⟨_, rfl⟩
  rw [← hk] at hb ⊢
  have hk0 : 0 ≤ k := by omega
  have hk1 : k ≤ 31 := by omega
  clear hk
  by_cases hz : k = 0
  · subst hz
    go_enter Try.func17, Try.ntmps17
    go_wp2
    go_ret
    exact ⟨by rw [rol32_zero hx.1 hx.2]; rfl, rfl⟩
  · have hz' : (k == 0) = false := by simpa using hz
    go_enter Try.func17, Try.ntmps17
    go_wp2
    go_ret
    exact ⟨by unfold rol32; rw [IntKind.wrap_u32']; rfl, rfl⟩
end Go.Proofs.Ytijpbbjblenhaaa
