/-
  vec.Bytes.
-/
import Derived.Test.YtdopaoajbjodeaaNum
namespace Go.Proofs.Ytdopaoajbjodeaa
open Go.RowKit Go.Shelf

/-- The bytes of words. -/
def bytesOf (ws : List UInt32) : List UInt8 := ws.flatMap fun x => putL x.toNat 4
theorem bytesOf_length (ws : List UInt32) : (bytesOf ws).length = 4 * ws.length := by
  induction ws with
  | nil => rfl
  | cons x t ih => simp only [bytesOf, List.flatMap_cons, List.length_append, putL_length, List.length_cons] at ih ⊢; omega
theorem bytesOf_snoc (ws : List UInt32) (x : UInt32) : bytesOf (ws ++ [x]) = bytesOf ws ++ putL x.toNat 4 := by simp [bytesOf, List.flatMap_append]

set_option maxRecDepth 20000 in
set_option maxHeartbeats 1000000 in
theorem bytes_any (a : Option Addr) (n c : Nat) (ws : List UInt32) (w : World) (hr : Row 1 w a n c (ws.map u32v)) (hn : n ≤ 4294967296) :
    Calls Try.prog 51 #[.slice a n c] w fun e w' => ∃ a' c', e = .returned (.slice a' (4 * n) c') ∧ w'.ownsRow w.heap.size 5 1 (.slice a' (4 * n) c') (4 * n) ((bytesOf ws).map u8v) ∧ Ext w w' := by
  have hll : ws.length = n := by have := hr.2.2.1; simpa using this
  have hmx := hr.2.1
  have hnc := hr.1
  obtain ⟨i0, hi, hz0, hz1, hz2⟩ := info_parts info_u8
  refine calls_cps fun R hR => ?_
  go_enter Try.func51, Try.ntmps51
  go_wp2_with (at_make; go_must (refine wpList_make_own _ rfl _ _ 25 rfl w.heap.size 5 i0 _ 1 Try.underlying25 hi hz0 hz1 .i64 .i64 _ (4 * n) rfl rfl (by omega) (by rw [hz2]; omega) (by unfold maxLen; omega) (Nat.le_refl _) ?_); intro w1 hown1 hgrow1)
  go_loopw [3, 12] (fun out i wr => ∃ (k : Nat) (ao : Option Addr) (co : Nat), k ≤ n ∧ i = .int .i64 k ∧ out = .slice ao (4 * k) co ∧ wr.ownsRow w.heap.size 5 1 (.slice ao (4 * k) co) (4 * k) ((bytesOf (ws.take k)).map u8v) ∧ Ext w wr) (fun _ i _ => n - (intOf i).toNat)
  case atStart => exact ⟨0, _, _, by omega, rfl, rfl, hown1, Keep.of_grownBy hgrow1 (fun k o h _ => by cases h)⟩
  case round =>
    obtain ⟨k, ao, co, hk, rfl, rfl, hown, hE⟩ := hrel
    unfold maxLen at hmx
    by_cases hlt : k < n
    · have hkl : k < ws.length := by omega
      obtain ⟨ba, oa, rfl, hca⟩ := hr.2.2.2.2 (by omega)
      have c1 := hE.cell (hca k (u32v ws[k]) (by simp [hkl]))
      have htk : ws.take (k + 1) = ws.take k ++ [ws[k]] := by rw [List.take_add_one, List.getElem?_eq_getElem hkl]; rfl
      obtain ⟨x, hx⟩ : ∃ x, (ws[k]).toNat = x := ⟨_, rfl⟩
      have hxb := (ws[k]).toNat_lt
      rw [hx] at hxb
      have hput : (putL (ws[k]).toNat 4).map u8v = [.int .u8 ((x : Int) % 256), .int .u8 ((x : Int) / 256 % 256), .int .u8 ((x : Int) / 65536 % 256), .int .u8 ((x : Int) / 16777216)] := by
        rw [hx]
        simp only [putL, List.range, List.range.loop, List.map_cons, List.map_nil, u8v, UInt8.toNat_ofNat']
        simp only [Nat.reduceMul, Nat.reducePow, Nat.pow_zero, Nat.div_one, List.cons.injEq, Value.int.injEq, true_and, and_true]
        omega
      simp only [u32v, hx] at c1
      have hsrc := (lit_row (base := 0) wr 5 #[.int .u8 ((x : Int) % 256), .int .u8 ((x : Int) / 256 % 256), .int .u8 ((x : Int) / 65536 % 256), .int .u8 ((x : Int) / 16777216)] 4 (by simp [maxLen]) rfl (Nat.zero_le _)).2
      obtain ⟨v', w', hrun, hown', hgrow, _⟩ := run_append_row (wr.alloc (.cells #[.int .u8 ((x : Int) % 256), .int .u8 ((x : Int) / 256 % 256), .int .u8 ((x : Int) / 65536 % 256), .int .u8 ((x : Int) / 16777216)] 5)) w.heap.size 25 25 5 _ 1 1 Try.underlying25 info_u8 rfl (by decide) (hown.alloc _) hsrc (by simp [Value.oneCell']) (by unfold maxLen; omega) (by omega) (by have := hE.size; simp; omega)
      have hEw : Ext w w' := Ext.of_below (((Ext.below hE).alloc hE.size _).grown hgrow (by have := hE.size; simp; omega) (fun g hg => (hown.lt g hg).1))
      rw [show 4 * k + 4 = 4 * (k + 1) by omega] at hown'
      obtain ⟨a2, c2, rfl, _⟩ := owns_row hown'
      rw [show (#[Value.int .u8 ((x : Int) % 256), .int .u8 ((x : Int) / 256 % 256), .int .u8 ((x : Int) / 65536 % 256), .int .u8 ((x : Int) / 16777216)] : Array Value).toList = (putL (ws[k]).toNat 4).map u8v from hput.symm, ← List.map_append, ← bytesOf_snoc, ← htk] at hown'
      have Hrun := Lib.hid hrun
      clear hrun hsrc hput htk hx hca
      go_wp2_with (at_builtin; go_must (refine wpList_append_run Hrun.out rfl rfl rfl rfl ?_))
      go_roundw
      case rel => exact ⟨k + 1, _, _, by omega, by go_num, rfl, hown', hEw⟩
      case measure => simp [intOf]; omega
    · obtain rfl : k = n := by omega
      rw [List.take_of_length_le (by omega)] at hown
      go_wp2
      exact ⟨_, _, rfl, hown, hE⟩
end Go.Proofs.Ytdopaoajbjodeaa
