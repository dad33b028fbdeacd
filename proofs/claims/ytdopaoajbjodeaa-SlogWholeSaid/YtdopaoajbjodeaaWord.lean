/-
  Words of 32 bits as numbers: and with 31, turning, and back. No program here.
-/
import Derived.WalkKit
import Derived.Lib.Hide
namespace Go.Proofs.Ytdopaoajbjodeaa
open Go.RowKit

/-- x turned up by k (0 to 31). -/
def rol32 (x k : Int) : Int := bits .or .u32 (IntKind.u32.wrap (x * 2 ^ k.toNat)) (x / 2 ^ (32 - k).toNat)

theorem and31_nat (a : Nat) : a &&& 31 = a % 32 := Nat.and_two_pow_sub_one_eq_mod a 5
theorem and31_u64 {k : Int} (h0 : 0 ≤ k) (h1 : k ≤ 31) : bits .and .u64 k 31 = k := by
  rw [u64_and k 31 h0 (by omega) (by omega) (by omega)]
  have : (31 : Int).toNat = 31 := rfl
  rw [this, and31_nat]; omega
theorem and31_i64 {n : Int} (h0 : -9223372036854775808 ≤ n) (h1 : n ≤ 9223372036854775807) : bits .and .i64 n 31 = n % 32 := by
  have hb : IntKind.i64.bits = 64 := rfl
  have hN : (BitVec.ofInt IntKind.i64.bits n &&& BitVec.ofInt IntKind.i64.bits 31).toNat = (n % 32).toNat := by
    rw [BitVec.toNat_and]
    have h31 : (BitVec.ofInt IntKind.i64.bits 31).toNat = 31 := by decide
    rw [h31, and31_nat, BitVec.toNat_ofInt, hb]
    omega
  show IntKind.i64.wrap ((BitVec.ofInt IntKind.i64.bits n &&& BitVec.ofInt IntKind.i64.bits 31).toNat : Int) = n % 32
  rw [hN, IntKind.wrap_i64]
  omega

theorem rol32_bounds (x k : Int) : 0 ≤ rol32 x k ∧ rol32 x k ≤ 4294967295 := by
  unfold rol32 bits
  rw [IntKind.wrap_u32']
  omega
theorem rol32_nat (x k : Nat) (hx : x < 4294967296) (hk : k < 32) : rol32 x k = (((BitVec.ofNat 32 x).rotateLeft k).toNat : Int) := by
  unfold rol32
  have e1 : ((k : Int)).toNat = k := by omega
  have e2 : (32 - (k : Int)).toNat = 32 - k := by omega
  rw [e1, e2, IntKind.wrap_u32']
  have c0 : ((x : Int) * 2 ^ k) = ((x * 2 ^ k : Nat) : Int) := by push_cast; rfl
  have c1 : ((x : Int) * 2 ^ k) % 4294967296 = ((x * 2 ^ k % 4294967296 : Nat) : Int) := by rw [c0]; generalize x * 2 ^ k = y; omega
  have c2 : ((x : Int) / 2 ^ (32 - k)) = ((x / 2 ^ (32 - k) : Nat) : Int) := by push_cast; rfl
  rw [c1, c2, u32_or_nat _ _ (by omega) (Nat.lt_of_le_of_lt (Nat.div_le_self _ _) hx)]
  congr 1
  rw [BitVec.rotateLeft_def, BitVec.toNat_or, BitVec.toNat_shiftLeft, BitVec.toNat_ushiftRight, BitVec.toNat_ofNat]
  have hm : x % 2 ^ 32 = x := Nat.mod_eq_of_lt hx
  rw [hm, Nat.mod_eq_of_lt (show k < 32 from hk), Nat.shiftLeft_eq, Nat.shiftRight_eq_div_pow]
theorem rol32_back {x k : Int} (hx0 : 0 ≤ x) (hx : x ≤ 4294967295) (hk0 : 0 ≤ k) (hk : k ≤ 31) : rol32 (rol32 x k) (-k % 32) = x := by
  obtain ⟨x, rfl⟩ := Int.eq_ofNat_of_zero_le hx0
  obtain ⟨k, rfl⟩ := Int.eq_ofNat_of_zero_le hk0
  have hx' : x < 4294967296 := by omega
  have hk' : k < 32 := by omega
  obtain ⟨j, hj⟩ : ∃ j : Nat, -(k : Int) % 32 = j := ⟨(-(k : Int) % 32).toNat, by omega⟩
  have hj' : j < 32 := by omega
  rw [hj, rol32_nat x k hx' hk']
  rw [rol32_nat _ j (BitVec.isLt _) hj', BitVec.ofNat_toNat, BitVec.setWidth_eq]
  have : ((BitVec.ofNat 32 x).rotateLeft k).rotateLeft j = BitVec.ofNat 32 x := by
    apply BitVec.eq_of_getLsbD_eq
    intro i hi
    have hkj : (k = 0 ∧ j = 0) ∨ k + j = 32 := by omega
    simp only [BitVec.getLsbD_rotateLeft, Nat.mod_eq_of_lt hj', Nat.mod_eq_of_lt hk', Bool.cond_decide]
    by_cases h1 : i < j
    · rw [if_pos h1, if_neg (by omega)]
      have : 32 - j + i - k = i := by omega
      rw [this, decide_eq_true (by omega), Bool.true_and]
    · rw [if_neg h1, decide_eq_true hi, Bool.true_and]
      by_cases h2 : i - j < k
      · rw [if_pos h2]
        rw [show 32 - k + (i - j) = i from by omega]
      · rw [if_neg h2]
        have : i - j - k = i := by omega
        rw [this, decide_eq_true (by omega), Bool.true_and]
  rw [this, BitVec.toNat_ofNat, Nat.mod_eq_of_lt hx']
end Go.Proofs.Ytdopaoajbjodeaa
