/-
  tabulariumref01.Number and Put: numbers and their bytes, the lowest ahead.
-/
import Derived.Test.YtdopaoajbjodeaaVecC
import Derived.Test.YtdopaoajbjodeaaLit
import Derived.Laws.BitsAllLaws
namespace Go.Proofs.Ytdopaoajbjodeaa
open Go.RowKit Go.Shelf

/-- The number that bytes are, the lowest ahead. -/
def numL : List UInt8 → Nat
  | [] => 0
  | b :: t => b.toNat + 256 * numL t
theorem numL_lt (l : List UInt8) : numL l < 256 ^ l.length := by
  induction l with
  | nil => simp [numL]
  | cons b t ih =>
    have := b.toNat_lt
    simp only [numL, List.length_cons, Nat.pow_succ]
    omega
theorem numL_drop {l : List UInt8} {k : Nat} (h : k < l.length) : numL (l.drop k) = (l[k]).toNat + 256 * numL (l.drop (k + 1)) := by
  rw [List.drop_eq_getElem_cons h]; rfl
theorem numL_take (l : List UInt8) (k : Nat) (h : k < l.length) : numL (l.take (k + 1)) = numL (l.take k) + (l.getD k 0).toNat * 256 ^ k := by
  induction l generalizing k with
  | nil => simp at h
  | cons b t ih =>
    cases k with
    | zero => simp [numL]
    | succ k =>
      simp only [List.length_cons] at h
      have := ih k (by omega)
      simp only [List.take_succ_cons, numL, this, List.getD_cons_succ, Nat.pow_succ]
      generalize 256 ^ k = p
      rw [Nat.mul_add, Nat.mul_comm p 256, Nat.mul_left_comm 256]
      omega
theorem leN_num (l : List UInt8) (k : Nat) (h : k ≤ l.length) : leN l k = numL (l.take k) := by
  induction k with
  | zero => simp [leN, numL]
  | succ k ih => rw [leN, ih (by omega), numL_take l k (by omega)]

theorem shl8_or {v b : Nat} (hv : v < 72057594037927936) (hb : b < 256) : bits .or .u64 ((v : Int) * 256) (b : Int) = ((b + 256 * v : Nat) : Int) := by
  rw [show ((v : Int) * 256) = ((v * 256 : Nat) : Int) by omega]
  rw [u64_or_nat _ _ (by omega) (by omega)]
  rw [nat_join 8 (v * 256) b (by omega) (by omega)]
  congr 1; omega
theorem p7 : (256 : Nat) ^ 7 = 72057594037927936 := by decide

set_option maxRecDepth 20000 in
set_option maxHeartbeats 1000000 in
theorem number_any (a : Option Addr) (n c : Nat) (l : List UInt8) (w : World) (hr : Row 1 w a n c (l.map u8v)) (hn : n ≤ 8) :
    Calls Try.prog 37 #[.slice a n c] w fun e w' => e = .returned (.int .u64 (numL l : Nat)) ∧ w = w' := by
  have hll : l.length = n := by have := hr.2.2.1; simpa using this
  have HL := Lib.hid hll
  clear hll
  refine calls_cps fun R hR => ?_
  go_enter Try.func37, Try.ntmps37
  go_wp2
  go_loopw [3, 4] (fun v i wr => ∃ k : Nat, k ≤ n ∧ i = .int .i64 ((k : Int) - 1) ∧ v = .int .u64 (numL (l.drop k) : Nat) ∧ wr = w) (fun _ i _ => (intOf i + 1).toNat)
  case atStart => exact ⟨n, by omega, rfl, by rw [List.drop_eq_nil_of_le (by have := HL.out; omega)]; rfl, rfl⟩
  case round =>
    obtain ⟨k, hk, rfl, rfl, rfl⟩ := hrel
    by_cases h0 : 0 < k
    · obtain ⟨j, rfl⟩ : ∃ j, k = j + 1 := ⟨k - 1, by omega⟩
      have hj : j < l.length := by have := HL.out; omega
      obtain ⟨ba, oa, rfl, hca⟩ := hr.2.2.2.2 (by omega)
      have c1 := hca j (u8v l[j]) (by simp [hj])
      have hnum := numL_drop hj
      have hlt := numL_lt (l.drop (j + 1))
      have hlt7 : numL (l.drop (j + 1)) < 72057594037927936 := by rw [← p7]; exact Nat.lt_of_lt_of_le hlt (Nat.pow_le_pow_right (by omega) (by have := HL.out; simp; omega))
      obtain ⟨x, hx⟩ : ∃ x, l[j] = x := ⟨_, rfl⟩
      rw [hx] at c1 hnum
      have hxb := x.toNat_lt
      have hor := shl8_or hlt7 hxb
      rw [← hnum] at hor
      obtain ⟨v, hv⟩ : ∃ v, numL (l.drop (j + 1)) = v := ⟨_, rfl⟩
      obtain ⟨v2, hv2⟩ : ∃ v2, numL (l.drop j) = v2 := ⟨_, rfl⟩
      rw [hv] at hor hlt7
      rw [hv2] at hor
      obtain ⟨bx, hbx⟩ : ∃ bx, x.toNat = bx := ⟨_, rfl⟩
      simp only [u8v, hbx] at c1 hor hxb
      have hjj : ((j + 1 : Nat) : Int) - 1 = (j : Int) := by omega
      clear hnum hlt hca
      rw [hv, hjj]
      clear hjj
      go_wp2
      go_roundw
      case rel => exact ⟨j, by omega, rfl, by rw [hv2], by trivial⟩
      case measure => simp [intOf]
    · obtain rfl : k = 0 := by omega
      rw [List.drop_zero]
      go_wp2

/-- The lowest k bytes of n, the lowest ahead. -/
def putL (n k : Nat) : List UInt8 := (List.range k).map fun i => UInt8.ofNat (n / 2 ^ (8 * i))
theorem putL_length (n k : Nat) : (putL n k).length = k := by simp [putL]
theorem putL_succ (n k : Nat) : putL n (k + 1) = putL n k ++ [UInt8.ofNat (n / 2 ^ (8 * k))] := by simp [putL, List.range_succ]

set_option maxRecDepth 20000 in
set_option maxHeartbeats 1000000 in
theorem put_any (n k : Nat) (w : World) (hk : k ≤ 8) :
    Calls Try.prog 48 #[.int .u64 (n : Nat), .int .i64 (k : Nat)] w fun e w' => ∃ a c, e = .returned (.slice a k c) ∧ w'.ownsRow w.heap.size 5 1 (.slice a k c) k ((putL n k).map u8v) ∧ Ext w w' := by
  refine calls_cps fun R hR => ?_
  go_enter Try.func48, Try.ntmps48
  go_wp2
  go_loopw [5, 6] (fun v i wr => ∃ (j : Nat) (ao : Option Addr) (co : Nat), j ≤ k ∧ i = .int .i64 j ∧ v = .slice ao j co ∧ wr.ownsRow w.heap.size 5 1 (.slice ao j co) j ((putL n j).map u8v) ∧ Ext w wr) (fun _ i _ => k - (intOf i).toNat)
  case atStart => exact ⟨0, none, 0, by omega, rfl, rfl, World.ownsRow_nil _ _ _ _, Keep.refl _ _⟩
  case round =>
    obtain ⟨j, ao, co, hj, rfl, rfl, hown, hE⟩ := hrel
    by_cases hlt : j < k
    · obtain ⟨u, hu⟩ : ∃ u : Int, (n : Int) / 2 ^ (8 * j) % 256 = u := ⟨_, rfl⟩
      have huv : Value.int .u8 u = u8v (UInt8.ofNat (n / 2 ^ (8 * j))) := by
        unfold u8v
        rw [← hu, UInt8.toNat_ofNat']
        congr 1
      have HU := Lib.hid huv
      clear huv
      have hsrc := (lit_row (base := 0) wr 5 #[.int .u8 u] 1 (by simp [maxLen]) rfl (Nat.zero_le _)).2
      obtain ⟨v', w', hrun, hown', hgrow, _⟩ := run_append_row (wr.alloc (.cells #[.int .u8 u] 5)) w.heap.size 25 25 5 _ 1 1 Try.underlying25 info_u8 rfl (by decide) (hown.alloc _) hsrc (by simp [Value.oneCell']) (by unfold maxLen; omega) (by omega) (by have := hE.size; simp; omega)
      have hEw : Ext w w' := Ext.of_below (((Ext.below hE).alloc hE.size _).grown hgrow (by have := hE.size; simp; omega) (fun g hg => (hown.lt g hg).1))
      obtain ⟨a2, c2, rfl, _⟩ := owns_row hown'
      rw [show ((putL n j).map u8v) ++ (#[Value.int .u8 u] : Array Value).toList = (putL n (j + 1)).map u8v from by rw [putL_succ, List.map_append, HU.out]; rfl] at hown'
      have Hrun := Lib.hid hrun
      clear hrun hsrc
      go_wp2_with (at_builtin; go_must (refine wpList_append_run Hrun.out rfl rfl rfl rfl ?_))
      go_roundw
      case rel => exact ⟨j + 1, _, _, by omega, by go_num, rfl, hown', hEw⟩
      case measure => simp [intOf]; omega
    · obtain rfl : j = k := by omega
      go_wp2
      exact ⟨_, _, rfl, hown, hE⟩
end Go.Proofs.Ytdopaoajbjodeaa
