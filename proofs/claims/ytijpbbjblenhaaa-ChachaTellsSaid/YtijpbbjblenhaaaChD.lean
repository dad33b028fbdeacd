/-
  chacha.Block.
-/
import Derived.Test.YtijpbbjblenhaaaChC
namespace Go.Proofs.Ytijpbbjblenhaaa
open Go.RowKit Go.Shelf

def roundsL (ws : List UInt32) : Nat → List UInt32
  | 0 => ws
  | k + 1 => turnTo 1 (turnTo 0 (roundsL ws k) 4) 4
theorem roundsL_length (ws : List UInt32) : ∀ k, (roundsL ws k).length = ws.length
  | 0 => rfl
  | k + 1 => by unfold roundsL; rw [turnTo_length, turnTo_length, roundsL_length]
def addL (a b : List UInt32) : List UInt32 := List.zipWith (fun x y => x + y) a b
def blockL (key : List UInt8) (n : UInt32) (nonce : List UInt8) : List UInt8 := bytesOf (addL (roundsL (begunL key n nonce) 10) (begunL key n nonce))
theorem begunL_length {key nonce : List UInt8} (n : UInt32) (hk : key.length = 32) (hn : nonce.length = 12) : (begunL key n nonce).length = 16 := by
  simp [begunL, wordsOf_length, hk, hn, first4]
theorem addL_length {a b : List UInt32} (h : a.length = b.length) : (addL a b).length = b.length := by simp [addL, h]
theorem blockL_length {key nonce : List UInt8} (n : UInt32) (hk : key.length = 32) (hn : nonce.length = 12) : (blockL key n nonce).length = 64 := by
  unfold blockL
  rw [bytesOf_length, addL_length (by rw [roundsL_length]), begunL_length n hk hn]

theorem index_state (xs : List UInt32) (k : Nat) (hl : xs.length = 16) (hk : k < 16) (w : World) : (Instr.index 45 (.agg (xs.map u32v).toArray) (.int .i64 (k : Int))).run Try.prog w = .ok (.int .u32 ((xs.getD k 0).toNat : Int)) w := by
  obtain ⟨x, hx⟩ : ∃ x, xs[k]? = some x := ⟨_, List.getElem?_eq_getElem (by omega)⟩
  have hg : xs.getD k 0 = x := by simp [List.getD_eq_getElem?_getD, hx]
  rw [hg]
  have hk' : (0 : Int) ≤ (k : Int) ∧ (k : Int) < 16 := by omega
  simp [Instr.index, asIntOf, part, Result.andThen, hk, hx, u32v]
theorem array_block (a : Addr) (c : Nat) (w : World) : (Instr.arrayAt 30 (.slice (some a) 64 c)).run Try.prog w = .ok (.pointer (some a)) w := by
  simp [Instr.arrayAt, Result.andThen]
theorem slice_block (p j : Nat) (w : World) (hj : j + 4 ≤ 64) : (Instr.sliceAt 30 (.pointer (some ⟨p, 0, none⟩)) (some (.int .i64 (j : Int))) none none).run Try.prog w = .ok (.slice (some ⟨p, j, none⟩) (64 - j) (64 - j)) w := by
  have h1 : ¬ (64 : Nat) = j := by omega
  have h2 : j ≤ 64 := by omega
  simp [Instr.sliceAt, Instr.sliceBounds, Instr.sliceBound, Instr.sureAddr, Result.andThen, asIntOf, h1, h2, addr_add]
theorem size_u8 : (Try.prog.info? 5).map (·.size) = some 1 := by kernel_rfl
theorem info_key : (Try.prog.info? 25).map (·.size) = some 32 := by kernel_rfl
theorem info_nonce : (Try.prog.info? 26).map (·.size) = some 12 := by kernel_rfl
theorem info_block : (Try.prog.info? 30).map (·.size) = some 64 := by kernel_rfl
theorem zero_block (w : World) : (zeroValue 30).run Try.prog w = .ok (.agg (List.replicate 64 (.int .u8 0)).toArray) w := (zero_of_info (P := Try.prog) (n := 64) (by kernel_rfl)).1 w
theorem zero_state (w : World) : (zeroValue 45).run Try.prog w = .ok (.agg (List.replicate 16 (.int .u32 0)).toArray) w := (zero_of_info (P := Try.prog) (n := 16) (by kernel_rfl)).1 w

def sumTo (a b : List UInt32) (k : Nat) : List UInt32 := addL (a.take k) (b.take k) ++ a.drop k
theorem sumTo_zero (a b : List UInt32) : sumTo a b 0 = a := by simp [sumTo, addL]
theorem sumTo_all (a b : List UInt32) (n : Nat) (ha : a.length = n) (hb : b.length = n) : sumTo a b n = addL a b := by
  subst ha
  simp [sumTo, List.take_of_length_le (show b.length ≤ a.length by omega)]
theorem sumTo_length (a b : List UInt32) (k : Nat) (h : a.length = b.length) : (sumTo a b k).length = b.length := by
  simp [sumTo, addL]; omega
theorem sumTo_get (a b : List UInt32) (k : Nat) (h : a.length = b.length) (hk : k < a.length) : (sumTo a b k).getD k 0 = a.getD k 0 := by
  have : (addL (a.take k) (b.take k)).length = k := by simp [addL]; omega
  simp [sumTo, List.getD_eq_getElem?_getD, List.getElem?_append, this]
theorem sumTo_succ (a b : List UInt32) (k : Nat) (h : a.length = b.length) (hk : k < a.length) : sumTo a b (k + 1) = (sumTo a b k).set k (a.getD k 0 + b.getD k 0) := by
  have h1 : (addL (a.take k) (b.take k)).length = k := by simp [addL]; omega
  have hb : k < b.length := by omega
  refine List.ext_getElem? fun j => ?_
  rw [List.getElem?_set]
  simp only [sumTo, List.getElem?_append, h1, List.length_append, List.length_drop]
  by_cases hj : k = j
  · subst hj
    simp [addL, hk, hb, Nat.min_eq_left (show k + 1 ≤ a.length by omega), Nat.min_eq_left (show k + 1 ≤ b.length by omega)]
    omega
  · by_cases hlt : j < k
    · simp [addL, List.getElem?_zipWith, hj, hlt, show j < k + 1 by omega, List.getElem?_eq_getElem (show j < a.length by omega), List.getElem?_eq_getElem (show j < b.length by omega), Nat.min_eq_left (show k + 1 ≤ a.length by omega), Nat.min_eq_left (show k + 1 ≤ b.length by omega)]
    · simp [addL, hj, hlt, show ¬ j < k + 1 by omega, Nat.min_eq_left (show k + 1 ≤ a.length by omega), Nat.min_eq_left (show k + 1 ≤ b.length by omega)]
      congr 1; omega

/-- The first 4 i bytes of the words l, zeros behind them. -/
def outP (l : List UInt32) (i : Nat) : List Value := (bytesOf (l.take i)).map u8v ++ List.replicate (64 - 4 * i) (.int .u8 0)
theorem outP_length (l : List UInt32) (i : Nat) (hl : l.length = 16) (hi : i ≤ 16) : (outP l i).length = 64 := by
  simp [outP, bytesOf_length, hl]; omega
theorem outP_all (l : List UInt32) (hl : l.length = 16) : outP l 16 = (bytesOf l).map u8v := by
  simp [outP, List.take_of_length_le (show l.length ≤ 16 by omega)]
theorem addL_get (a b : List UInt32) (k : Nat) (h : a.length = b.length) (hk : k < a.length) : (addL a b).getD k 0 = a.getD k 0 + b.getD k 0 := by
  have hb : k < b.length := by omega
  simp [addL, List.getElem?_zipWith, hk, hb]
theorem outP_succ (l : List UInt32) (i : Nat) (hl : l.length = 16) (hi : i < 16) : over (outP l i) (4 * i) ((putL (l.getD i 0).toNat 4).map u8v) = outP l (i + 1) := by
  have h1 : ((bytesOf (l.take i)).map u8v).length = 4 * i := by simp [bytesOf_length, hl]; omega
  have h2 : l.take (i + 1) = l.take i ++ [l.getD i 0] := by
    have : i < l.length := by omega
    rw [List.take_add_one]; simp [List.getElem?_eq_getElem this]
  unfold over outP
  rw [h2, bytesOf_snoc, List.map_append, List.length_map, putL_length, List.take_left' h1, List.drop_append, h1, List.drop_of_length_le (by omega), List.drop_replicate, List.nil_append]
  congr 2
  omega
end Go.Proofs.Ytijpbbjblenhaaa
