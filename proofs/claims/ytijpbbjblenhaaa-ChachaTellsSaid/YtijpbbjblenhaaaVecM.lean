/-
  The reference's Words; vec.Bytes.
-/
import Derived.Test.YtijpbbjblenhaaaNum
import Derived.Test.YtijpbbjblenhaaaVecF
namespace Go.Proofs.Ytijpbbjblenhaaa
open Go.RowKit Go.Shelf

theorem wordAt_num {l : List UInt8} {k : Nat} (h : (chunkAt 4 l k).length = 4) : (wordAt l k).toNat = numL (chunkAt 4 l k) := by
  unfold wordAt
  have h1 := leN_num (chunkAt 4 l k) 4 (by omega)
  rw [List.take_of_length_le (by omega)] at h1
  have h2 := numL_lt (chunkAt 4 l k)
  rw [h] at h2
  have p4 : (256 : Nat) ^ 4 = 4294967296 := by decide
  rw [p4] at h2
  rw [UInt32.toNat_ofNat', h1, Nat.mod_eq_of_lt (by simpa using h2)]

set_option maxHeartbeats 1000000 in
theorem refWords_any (a : Option Addr) (len c : Nat) (l : List UInt8) (w : World) (hr : Row 1 w a len c (l.map u8v)) (hl32 : len ≤ 4294967296) :
    Calls Try.prog 21 #[.slice a len c] w fun e w' => ∃ a' c', e = .returned (.slice a' (wordsOf l).length c') ∧
      w'.ownsRow w.heap.size 22 1 (.slice a' (wordsOf l).length c') (wordsOf l).length ((wordsOf l).map u32v) ∧ Ext w w' := by
  have hll : l.length = len := by have := hr.2.2.1; simpa using this
  have hmx := hr.2.1
  have hwl : (wordsOf l).length = len / 4 := by simp [wordsOf, hll]
  rw [hwl]
  refine calls_cps fun R hR => ?_
  go_enter Try.func21, Try.ntmps21
  go_wp2
  go_loopw [0, 3] (fun b out wr => ∃ (k r rc : Nat) (a' ao : Option Addr) (co : Nat), 4 * k + r = len ∧ 4 * k + rc = c ∧ b = .slice a' r rc ∧ Row 1 w a' r rc ((l.drop (4 * k)).map u8v) ∧
      out = .slice ao k co ∧ wr.ownsRow w.heap.size 22 1 (.slice ao k co) k (((List.range k).map (wordAt l)).map u32v) ∧ Ext w wr) (fun b _ _ => match b with | .slice _ n _ => n | _ => 0)
  case atStart => exact ⟨0, len, c, a, none, 0, by omega, by omega, rfl, by simpa using hr, rfl, World.ownsRow_nil _ _ _ _, Keep.refl _ _⟩
  case round =>
    obtain ⟨k, r, rc, a', ao, co, hk, hkc, rfl, hR1, rfl, hown, hE⟩ := hrel
    have hrrc := hR1.1
    unfold maxLen at hmx
    by_cases hlt : 4 ≤ r
    · have hcl : (chunkAt 4 l k).length = 4 := by unfold chunkAt; simp; omega
      have hcut := (hR1.ext hE).cut (lo := 0) (hi := 4) (by omega) (by omega)
      rw [show (if rc = 0 then a' else Option.map (fun x => x.add (0 * 1)) a') = a' from by rw [Nat.zero_mul]; split; rfl; cases a' <;> simp [Addr.add]] at hcut
      rw [show ((List.map u8v (List.drop (4 * k) l)).drop (0 * 1)).take ((4 - 0) * 1) = (chunkAt 4 l k).map u8v from by
        unfold chunkAt; rw [Nat.zero_mul, List.drop_zero, Nat.mul_one, Nat.sub_zero, ← List.map_take, Nat.mul_comm]] at hcut
      simp only [Nat.sub_zero] at hcut
      have hrest := hR1.cut (lo := 4) (hi := r) (by omega) (by omega)
      rw [Nat.mul_one, show ((List.map u8v (List.drop (4 * k) l)).drop 4).take ((r - 4) * 1) = (l.drop (4 * (k + 1))).map u8v from by
        rw [← List.map_drop, List.drop_drop, Nat.mul_one, List.take_of_length_le (by simp [hll]; omega)]; congr 2] at hrest
      have hnum := number_any _ _ _ _ _ hcut (by omega)
      have hwn := wordAt_num hcl
      rw [← hwn] at hnum
      have hw32 := (wordAt l k).toNat_lt
      obtain ⟨x, hx⟩ : ∃ x, (wordAt l k).toNat = x := ⟨_, rfl⟩
      rw [hx] at hnum hw32
      have hsrc := (lit_row (base := 0) wr 22 #[.int .u32 (x : Int)] 1 (by simp [maxLen]) rfl (Nat.zero_le _)).2
      obtain ⟨v', w', hrun, hown', hgrow, _⟩ := run_append_row (wr.alloc (.cells #[.int .u32 (x : Int)] 22)) w.heap.size 49 49 22 _ 1 4 Try.underlying49 info_u32 rfl (by decide) (hown.alloc _) hsrc (by simp [Value.oneCell']) (by unfold maxLen; omega) (by omega) (by have := hE.size; simp; omega)
      have hEw : Ext w w' := Ext.of_below (((Ext.below hE).alloc hE.size _).grown hgrow (by have := hE.size; simp; omega) (fun g hg => (hown.lt g hg).1))
      obtain ⟨a2, c2, rfl, _⟩ := owns_row hown'
      rw [show ((List.range k).map (wordAt l)).map u32v ++ (#[Value.int .u32 (x : Int)] : Array Value).toList = ((List.range (k + 1)).map (wordAt l)).map u32v from by
        rw [List.range_succ, List.map_append, List.map_append]; simp only [List.map_cons, List.map_nil, u32v, hx]] at hown'
      have Hrun := Lib.hid hrun
      have hx4 : (x : Int) % 4294967296 = x := by omega
      clear hrun hsrc hwn hx
      by_cases hcc : rc = 4
      · rw [if_pos hcc] at hrest
        subst hcc
        obtain rfl : r = 4 := by omega
        go_wp2_with (first | (at_builtin; go_must (refine wpList_append_run Hrun.out rfl rfl rfl rfl ?_)) | fail)
        refine hnum.mono ?_; rintro e _ ⟨rfl, rfl⟩
        go_wp2_with (first | (at_builtin; go_must (refine wpList_append_run Hrun.out rfl rfl rfl rfl ?_)) | fail)
        go_roundw
        case rel => exact ⟨k + 1, _, _, _, _, _, by omega, by omega, rfl, cast (by congr 1 <;> omega) hrest, rfl, hown', hEw⟩
        case measure => simp
      · rw [if_neg hcc] at hrest
        go_wp2_with (first | (at_builtin; go_must (refine wpList_append_run Hrun.out rfl rfl rfl rfl ?_)) | fail)
        refine hnum.mono ?_; rintro e _ ⟨rfl, rfl⟩
        go_wp2_with (first | (at_builtin; go_must (refine wpList_append_run Hrun.out rfl rfl rfl rfl ?_)) | fail)
        go_roundw
        case rel => exact ⟨k + 1, _, _, _, _, _, by omega, by omega, rfl, cast (by congr 1 <;> omega) hrest, rfl, hown', hEw⟩
        case measure => simp; omega
    · have hq : len / 4 = k := by omega
      rw [hq] at hR
      go_wp2
      exact ⟨_, _, rfl, by rw [← hq] at hown ⊢; simpa [wordsOf, hll] using hown, hE⟩

/-- The bytes of words. -/
def bytesOf (ws : List UInt32) : List UInt8 := ws.flatMap fun x => putL x.toNat 4
theorem bytesOf_length (ws : List UInt32) : (bytesOf ws).length = 4 * ws.length := by
  induction ws with
  | nil => rfl
  | cons x t ih => simp only [bytesOf, List.flatMap_cons, List.length_append, putL_length, List.length_cons] at ih ⊢; omega
theorem bytesOf_snoc (ws : List UInt32) (x : UInt32) : bytesOf (ws ++ [x]) = bytesOf ws ++ putL x.toNat 4 := by simp [bytesOf, List.flatMap_append]

set_option maxHeartbeats 1000000 in
theorem bytes_any (a : Option Addr) (n c : Nat) (ws : List UInt32) (w : World) (hr : Row 1 w a n c (ws.map u32v)) (hn : n ≤ 4294967296) :
    Calls Try.prog 20 #[.slice a n c] w fun e w' => ∃ a' c', e = .returned (.slice a' (4 * n) c') ∧ w'.ownsRow w.heap.size 5 1 (.slice a' (4 * n) c') (4 * n) ((bytesOf ws).map u8v) ∧ Ext w w' := by
  have hll : ws.length = n := by have := hr.2.2.1; simpa using this
  have hmx := hr.2.1
  have hnc := hr.1
  obtain ⟨i0, hi, hz0, hz1, hz2⟩ := info_parts info_u8
  refine calls_cps fun R hR => ?_
  go_enter Try.func20, Try.ntmps20
  go_wp2_with (at_make; go_must (refine wpList_make_own _ rfl _ _ 37 rfl w.heap.size 5 i0 _ 1 Try.underlying37 hi hz0 hz1 .i64 .i64 _ (4 * n) rfl rfl (by omega) (by rw [hz2]; omega) (by unfold maxLen; omega) (Nat.le_refl _) ?_); intro w1 hown1 hgrow1)
  go_loopw [3, 12] (fun out i wr => ∃ (k : Nat) (ao : Option Addr) (co : Nat), k ≤ n ∧ i = .int .i64 k ∧ out = .slice ao (4 * k) co ∧ wr.ownsRow w.heap.size 5 1 (.slice ao (4 * k) co) (4 * k) ((bytesOf (ws.take k)).map u8v) ∧ Ext w wr) (fun _ i _ => n - (intOf i).toNat)
  case atStart => exact ⟨0, _, _, by omega, rfl, rfl, hown1, Keep.of_grownBy hgrow1 (fun k o h _ => by cases h)⟩
  case round =>
    obtain ⟨k, ao, co, hk, rfl, rfl, hown, hE⟩ := hrel
    unfold maxLen at hmx
    by_cases hlt : k < n
    · have hkl : k < ws.length := by omega
      obtain ⟨ba, oa, rfl, hca⟩ := hr.2.2.2.2 (by omega)
      have c1 := hE.cell (hca k (u32v ws[k]) (by simp [hkl]))
      have htk : ws.take (k + 1) = ws.take k ++ [ws[k]] := by rw [List.take_add_one, List.getElem?_eq_getElem hkl]; rfl
      obtain ⟨x, hx⟩ : ∃ x, (ws[k]).toNat = x := ⟨_, rfl⟩
      have hxb := (ws[k]).toNat_lt
      rw [hx] at hxb
      have hput : (putL (ws[k]).toNat 4).map u8v = [.int .u8 ((x : Int) % 256), .int .u8 ((x : Int) / 256 % 256), .int .u8 ((x : Int) / 65536 % 256), .int .u8 ((x : Int) / 16777216)] := by
        rw [hx]
        simp only [putL, List.range, List.range.loop, List.map_cons, List.map_nil, u8v, UInt8.toNat_ofNat']
        simp only [Nat.reduceMul, Nat.reducePow, Nat.pow_zero, Nat.div_one, List.cons.injEq, Value.int.injEq, true_and, and_true]
        omega
      simp only [u32v, hx] at c1
      have hsrc := (lit_row (base := 0) wr 5 #[.int .u8 ((x : Int) % 256), .int .u8 ((x : Int) / 256 % 256), .int .u8 ((x : Int) / 65536 % 256), .int .u8 ((x : Int) / 16777216)] 4 (by simp [maxLen]) rfl (Nat.zero_le _)).2
      obtain ⟨v', w', hrun, hown', hgrow, _⟩ := run_append_row (wr.alloc (.cells #[.int .u8 ((x : Int) % 256), .int .u8 ((x : Int) / 256 % 256), .int .u8 ((x : Int) / 65536 % 256), .int .u8 ((x : Int) / 16777216)] 5)) w.heap.size 37 37 5 _ 1 1 Try.underlying37 info_u8 rfl (by decide) (hown.alloc _) hsrc (by simp [Value.oneCell']) (by unfold maxLen; omega) (by omega) (by have := hE.size; simp; omega)
      have hEw : Ext w w' := Ext.of_below (((Ext.below hE).alloc hE.size _).grown hgrow (by have := hE.size; simp; omega) (fun g hg => (hown.lt g hg).1))
      rw [show 4 * k + 4 = 4 * (k + 1) by omega] at hown'
      obtain ⟨a2, c2, rfl, _⟩ := owns_row hown'
      rw [show (#[Value.int .u8 ((x : Int) % 256), .int .u8 ((x : Int) / 256 % 256), .int .u8 ((x : Int) / 65536 % 256), .int .u8 ((x : Int) / 16777216)] : Array Value).toList = (putL (ws[k]).toNat 4).map u8v from hput.symm, ← List.map_append, ← bytesOf_snoc, ← htk] at hown'
      have Hrun := Lib.hid hrun
      clear hrun hsrc hput htk hx hca
      go_wp2_with (at_builtin; go_must (refine wpList_append_run Hrun.out rfl rfl rfl rfl ?_))
      go_roundw
      case rel => exact ⟨k + 1, _, _, by omega, by go_num, rfl, hown', hEw⟩
      case measure => simp [intOf]; omega
    · obtain rfl : k = n := by omega
      rw [List.take_of_length_le (by omega)] at hown
      go_wp2
      exact ⟨_, _, rfl, hown, hE⟩
end Go.Proofs.Ytijpbbjblenhaaa
