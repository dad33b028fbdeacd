/-
  pad.Buckets, pad.Bucket, tabulariumref01.Bucket: the buckets' sizes.
-/
import Derived.Test.YtafeecdpkceigaaBase
import Derived.Test.YtafeecdpkceigaaRows
namespace Go.Proofs.Ytafeecdpkceigaa
open Go.RowKit Go.Shelf
attribute [local go_sem] Oper.semAt_some

/-- The k-th bucket. -/
def bkt (k : Nat) : Int := 32 * 2 ^ k
theorem bkt_succ (k : Nat) : bkt (k + 1) = bkt k * 2 := by unfold bkt; rw [Int.pow_succ]; omega
theorem bkt_zero : bkt 0 = 32 := rfl
theorem bkt_pos (k : Nat) : 32 ≤ bkt k := by
  induction k with
  | zero => rw [bkt_zero]; omega
  | succ k ih => rw [bkt_succ]; omega
theorem bkt_11 : bkt 11 = 65536 := rfl
theorem bkt_12 : bkt 12 = 131072 := rfl
theorem bkt_mono {j k : Nat} (h : j ≤ k) : bkt j ≤ bkt k := by
  induction h with
  | refl => omega
  | @step m h ih => rw [bkt_succ]; have := bkt_pos m; omega
theorem bkt_lt {k : Nat} (h : k < 12) : bkt k ≤ 65536 := by have := bkt_mono (show k ≤ 11 by omega); rw [bkt_11] at this; omega

set_option maxHeartbeats 1000000 in
theorem buckets1_iter : Iter Try.prog 32 #[] 12 False (fun k _ args => args = #[.int .i64 (bkt k)]) (fun _ => True) (fun _ => False) (fun _ => False) := by
  intro l J Jx W _ _ _ hY _ h0
  refine callsIn_wide.1 (callsIn_of_wp (F := Fence.wide) (n := 3) Try.func32 rfl trivial ?_ rfl)
  simp only [Try.ntmps32, List.size_toArray, List.length_cons, List.length_nil, Nat.reduceAdd, Nat.reduceSub, Array.replicate_succ, Array.replicate_zero, List.push_toArray, List.append_toArray, List.nil_append, List.cons_append]
  gi_wp2
  gi_loopw [2] (fun p wr => ∃ k : Nat, k ≤ 12 ∧ p = .int .i64 (bkt k) ∧ J k wr) (fun p _ => 131072 - (intOf p).toNat)
  case atStart => exact ⟨0, by omega, rfl, h0⟩
  case round =>
    obtain ⟨k, hk, rfl, hJk⟩ := hrel
    have hp := bkt_pos k
    by_cases hlt : k < 12
    · have hle := bkt_lt hlt
      obtain ⟨fn, tmps, assign, body, hy, hR⟩ := hY k wr _ hlt hJk rfl
      gi_wp2
      refine (roundIn_wide hR).mono ?_
      rintro e W3 (⟨rfl, hJ3, _⟩ | ⟨rfl, hJx3⟩)
      · gi_wp2
        go_roundw
        case rel => exact ⟨k + 1, by omega, by rw [bkt_succ], hJ3⟩
        case measure => simp [intOf]; omega
      · gi_wp2
        refine bodyPost_ret (results_none rfl _ _ _) rfl ?_
        exact ⟨⟨_, rfl⟩, .inr ⟨k, hlt, hJx3⟩⟩
    · obtain rfl : k = 12 := by omega
      have h12 : ¬ bkt 12 ≤ 65536 := by rw [bkt_12]; omega
      gi_wp2
      go_end0
      exact ⟨⟨_, rfl⟩, .inl hJk⟩

/-- The bucket of a length. -/
def bucket (n : Int) : Int :=
  if n < 0 ∨ 65532 < n then 0 else if n ≤ 28 then 32 else if n ≤ 60 then 64 else if n ≤ 124 then 128 else if n ≤ 252 then 256 else if n ≤ 508 then 512 else if n ≤ 1020 then 1024
  else if n ≤ 2044 then 2048 else if n ≤ 4092 then 4096 else if n ≤ 8188 then 8192 else if n ≤ 16380 then 16384 else if n ≤ 32764 then 32768 else 65536
theorem bkt_vals : bkt 0 = 32 ∧ bkt 1 = 64 ∧ bkt 2 = 128 ∧ bkt 3 = 256 ∧ bkt 4 = 512 ∧ bkt 5 = 1024 ∧ bkt 6 = 2048 ∧ bkt 7 = 4096 ∧ bkt 8 = 8192 ∧ bkt 9 = 16384 ∧ bkt 10 = 32768 ∧ bkt 11 = 65536 := by decide
set_option maxHeartbeats 2000000 in
theorem bucket_of {n : Int} {k : Nat} (h0 : 0 ≤ n) (h1 : n ≤ 65532) (hk : k < 12) (hle : n ≤ bkt k - 4) (hlt : ∀ j, j < k → bkt j - 4 < n) : bucket n = bkt k := by
  obtain ⟨b0, b1, b2, b3, b4, b5, b6, b7, b8, b9, b10, b11⟩ := bkt_vals
  unfold bucket
  rw [if_neg (by omega)]
  have hlast : k = 0 ∨ bkt (k - 1) - 4 < n := by
    by_cases hz : k = 0
    · exact .inl hz
    · exact .inr (hlt (k - 1) (by omega))
  rcases (show k = 0 ∨ k = 1 ∨ k = 2 ∨ k = 3 ∨ k = 4 ∨ k = 5 ∨ k = 6 ∨ k = 7 ∨ k = 8 ∨ k = 9 ∨ k = 10 ∨ k = 11 by omega) with rfl | rfl | rfl | rfl | rfl | rfl | rfl | rfl | rfl | rfl | rfl | rfl <;>
    simp only [Nat.reduceSub, Nat.succ_ne_self, b0, b1, b2, b3, b4, b5, b6, b7, b8, b9, b10, b11, Nat.reduceEqDiff, false_or, true_or] at hle hlast ⊢ <;>
    (repeat (first | rw [if_pos (by omega)] | rw [if_neg (by omega)]))
theorem bucket_out {n : Int} (h : n < 0 ∨ 65532 < n) : bucket n = 0 := by unfold bucket; rw [if_pos h]

theorem buckets_any (w : World) : Calls Try.prog 14 #[] w fun e w' => e = .returned (.func (.func 32) #[] #[]) ∧ w = w' := by
  go_enter Try.func14, Try.ntmps14
  go_wp2
  go_ret
  exact ⟨rfl, rfl⟩

set_option maxHeartbeats 1000000 in
theorem bucket_out_any (n : Int) (w : World) (h : n < 0 ∨ 65532 < n) : Calls Try.prog 12 #[.int .i64 n] w fun e w' => e = .returned (.int .i64 (bucket n)) ∧ Ext w w' := by
  have hE : Ext w ((w.alloc (.cells #[.int .i64 n] 3)).alloc (.cells #[.int .i64 0] 3)) := ((Keep.refl _ w).alloc _).alloc _
  have hb := Lib.hid (bucket_out h)
  rcases (show n < 0 ∨ (0 ≤ n ∧ 65532 < n) by omega) with h | ⟨h0, h⟩
  all_goals
    refine calls_marks Try.func12 rfl ?_
    simp only [Try.ntmps12, List.size_toArray, List.length_cons, List.length_nil, Nat.reduceAdd, Nat.reduceSub, Array.replicate_succ, Array.replicate_zero, List.push_toArray, List.append_toArray, List.nil_append, List.cons_append]
    go_wp2; go_step3; go_wp2
    rw [Exit.noGoto_ret]
    refine mark0_ret rfl (results_tmp rfl _ _ _) ⟨?_, hE⟩
    rw [hb.out]; rfl

set_option maxHeartbeats 1000000 in
theorem bucket_in_any (n : Int) (w : World) (h0 : 0 ≤ n) (h1 : n ≤ 65532) : Calls Try.prog 12 #[.int .i64 n] w fun e w' => e = .returned (.int .i64 (bucket n)) ∧ Ext w w' := by
  have bN := Boxed.new w 3 (.int .i64 n)
  have bF := Boxed.new (w.alloc (.cells #[.int .i64 n] 3)) 3 (.int .i64 0)
  rw [World.size_alloc] at bF
  replace bN := bN.alloc (.cells #[.int .i64 0] 3)
  have hE : Ext w ((w.alloc (.cells #[.int .i64 n] 3)).alloc (.cells #[.int .i64 0] 3)) := ((Keep.refl _ w).alloc _).alloc _
  refine calls_marks Try.func12 rfl ?_
  simp only [Try.ntmps12, List.size_toArray, List.length_cons, List.length_nil, Nat.reduceAdd, Nat.reduceSub, Array.replicate_succ, Array.replicate_zero, List.push_toArray, List.append_toArray, List.nil_append, List.cons_append]
  go_wp2; go_step3
  go_wp2_with (go_at_call 14; refine (buckets_any _).mono ?_; rintro e w' ⟨rfl, rfl⟩)
  go_step3
  go_wp2_with (go_at_call 14; refine (buckets_any _).mono ?_; rintro e w' ⟨rfl, rfl⟩)
  refine range_wp rfl (enters_of Try.func32 (by kernel_rfl) rfl) buckets1_iter (fun _ h => h.elim) (fun _ h => h.elim) (fun _ _ _ h => by rw [h]; rfl) (fun _ _ => trivial)
    (fun k A => (∀ j, j < k → bkt j - 4 < n) ∧ Boxed A w.heap.size 3 (.int .i64 n) ∧ Boxed A (w.heap.size + 1) 3 (.int .i64 0) ∧ Ext w A)
    (fun k c A => c = .exit 0 ∧ (∀ j, j < k → bkt j - 4 < n) ∧ n ≤ bkt k - 4 ∧ Boxed A (w.heap.size + 1) 3 (.int .i64 (bkt k)) ∧ Ext w A)
    (fun k A B h hk => ⟨h.1, hk.boxed_turn h.2.1 id, hk.boxed_turn h.2.2.1 id, h.2.2.2.then_turn hk (by simp; omega) (fun _ _ h _ => h)⟩)
    (fun k c A B h hk => ⟨h.1, h.2.1, h.2.2.1, hk.boxed_turn h.2.2.2.1 id, h.2.2.2.2.then_turn hk (by simp; omega) (fun _ _ h _ => h)⟩)
    (fun h => h.elim) ⟨fun j hj => by omega, bN, bF, hE⟩ ?round ?done ?stop
  case round =>
    rintro l k A args KN KX hk ⟨hj, hN, hF, hA⟩ rfl hKN hKX
    gi_wp2
    refine ⟨Keep.refl _ _, fun C hC => ?_⟩
    replace hN := hC.boxed_turn hN id
    replace hF := hC.boxed_turn hF id
    have hAC := hA.then_turn hC (by simp; omega) (fun _ _ h _ => h)
    have hpos := bkt_pos k
    have hlt := bkt_lt hk
    have cN := hN.cell
    have cF := hF.cell
    have fF := hF.frozen
    have hfin : ∀ v, Ext w (C.setCell ⟨w.heap.size + 1, 0, none⟩ v) := fun v => hAC.setCell ⟨w.heap.size + 1, 0, none⟩ v (fun o ho => by have := Keep.lt ho; simp at this; omega)
    gi_wp2
    · have hle : n ≤ bkt k - 4 := by assumption
      exact hKX _ _ _ ((Keep.refl _ _).setCell _ _ (fun o ho => ⟨id, .inl (by simp)⟩)) ⟨rfl, hj, hle, hF.set _, hfin _⟩
    · have hgt : bkt k - 4 < n := by assumption
      exact hKN _ _ (Keep.refl _ _) ⟨fun j hjk => by rcases Nat.lt_succ_iff_lt_or_eq.1 hjk with h | rfl; exact hj j h; exact hgt, hN, hF, hAC⟩
  case done =>
    rintro D A hD ⟨hj, _⟩ _
    have := hj 11 (by omega)
    rw [bkt_11] at this
    omega
  case stop =>
    rintro D c k A hD hk ⟨rfl, hj, hle, hF, hA⟩ hd
    have hr := Lib.hid (bucket_of h0 h1 hk hle hj)
    have cF := hF.cell
    go_wp2
    rw [Exit.noGoto_ret]
    refine mark_ret hd rfl (results_tmp rfl _ _ _) ⟨?_, ?_⟩
    · rw [hr.out]; rfl
    · exact hA.putObj _ _ (fun o ho => by have := Keep.lt ho; simp at hD; omega)
end Go.Proofs.Ytafeecdpkceigaa
