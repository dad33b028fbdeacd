/-
  tabulariumref01.Bucket; chapter 5's example; the law PadBuckets.
-/
import Derived.Test.YtafeecdpkceigaaPadA
import Derived.ProofKit
import Derived.OpenShut
import Derived.ChangeOld
namespace Go.Proofs.Ytafeecdpkceigaa
open Go.RowKit Go.Shelf
attribute [local go_sem] Oper.semAt_some

set_option maxHeartbeats 1000000 in
theorem refBucket_any (n : Int) (w : World) (hn : -9223372036854775808 ≤ n ∧ n ≤ 9223372036854775807) : Calls Try.prog 13 #[.int .i64 n] w fun e w' => e = .returned (.int .i64 (bucket n)) ∧ Ext w w' := by
  rcases (show n < 0 ∨ (0 ≤ n ∧ 65532 < n) ∨ (0 ≤ n ∧ n ≤ 65532) by omega) with h | ⟨h0, h⟩ | ⟨h0, h1⟩
  · have hb := Lib.hid (bucket_out (.inl h))
    go_enter Try.func13, Try.ntmps13
    go_wp2
    go_ret
    exact ⟨by rw [hb.out]; rfl, Keep.refl _ _⟩
  · have hb := Lib.hid (bucket_out (.inr h))
    go_enter Try.func13, Try.ntmps13
    go_wp2
    go_ret
    exact ⟨by rw [hb.out]; rfl, Keep.refl _ _⟩
  · go_enter Try.func13, Try.ntmps13
    go_wp2
    go_loop [3] (fun p => ∃ k : Nat, k < 12 ∧ p = .int .i64 (bkt k) ∧ ∀ j, j < k → bkt j - 4 < n) (fun p => 131072 - (intOf p).toNat)
    case atStart => exact ⟨0, by omega, rfl, fun j hj => by omega⟩
    case round =>
      obtain ⟨k, hk, rfl, hj⟩ := hrel
      have hpos := bkt_pos k
      have hlt := bkt_lt hk
      have hJ := Lib.hid hj
      clear hj
      by_cases hle : bkt k < n + 4
      · go_wp2
        go_round
        case rel =>
          refine ⟨k + 1, ?_, by rw [bkt_succ]; go_num, fun j hjk => ?_⟩
          · rcases Nat.lt_or_ge k 11 with h | h
            · omega
            · obtain rfl : k = 11 := by omega
              rw [bkt_11] at hle; omega
          · rcases Nat.lt_succ_iff_lt_or_eq.1 hjk with h | rfl
            · exact hJ.out j h
            · omega
        case measure => simp [intOf]; omega
      · go_wp2
        go_ret
        exact ⟨by rw [bucket_of h0 h1 hk (by omega) hJ.out]; rfl, Keep.refl _ _⟩

theorem bucket_any (n : Int) (w : World) : Calls Try.prog 12 #[.int .i64 n] w fun e w' => e = .returned (.int .i64 (bucket n)) ∧ Ext w w' := by
  by_cases h : n < 0 ∨ 65532 < n
  · exact bucket_out_any n w h
  · exact bucket_in_any n w (by omega) (by omega)

set_option maxHeartbeats 1000000 in
theorem awake05_any (w : World) : Calls Try.prog 11 #[] w fun e w' => e = .returned (.bool true) ∧ Ext w w' := by
  have c1 : ∀ w, Calls Try.prog 12 #[.int .i64 28] w fun e w' => e = .returned (.int .i64 32) ∧ Ext w w' := fun w => bucket_any 28 w
  have c2 : ∀ w, Calls Try.prog 12 #[.int .i64 29] w fun e w' => e = .returned (.int .i64 64) ∧ Ext w w' := fun w => bucket_any 29 w
  go_enter Try.func11, Try.ntmps11
  go_wp2_with fail
  refine (c1 _).mono ?_; rintro e w1 ⟨rfl, h1⟩
  go_wp2_with fail
  refine (c2 _).mono ?_; rintro e w2 ⟨rfl, h2⟩
  go_wp2
  go_ret
  exact ⟨rfl, h1.trans h2⟩

def hlf (k : Nat) : Int := 16 * 2 ^ k
theorem hlf_two (k : Nat) : bkt k = 2 * hlf k := by unfold bkt hlf; omega
theorem hlf_succ (k : Nat) : hlf (k + 1) = bkt k := by unfold bkt hlf; rw [Int.pow_succ]; omega
theorem hlf_12 : hlf 12 = 65536 := rfl
set_option maxHeartbeats 1000000 in
theorem padBuckets_any (n : Int) (w : World) (hn : -9223372036854775808 ≤ n ∧ n ≤ 9223372036854775807) : Calls Try.prog 3 #[.int .i64 n] w fun e w' => e = .returned (.bool true) ∧ Ext w w' := by
  refine calls_marks Try.func3 rfl ?_
  simp only [Try.ntmps3, List.size_toArray, List.length_cons, List.length_nil, Nat.reduceAdd, Nat.reduceSub, Array.replicate_succ, Array.replicate_zero, List.push_toArray, List.append_toArray, List.nil_append, List.cons_append]
  go_wp2_with fail
  refine (awake05_any _).mono ?_; rintro e w1 ⟨rfl, h1⟩
  go_wp2_with fail
  refine (bucket_any _ _).mono ?_; rintro e w2 ⟨rfl, h2⟩
  go_wp2_with fail
  refine (refBucket_any _ _ hn).mono ?_; rintro e w3 ⟨rfl, h3⟩
  go_wp2_with fail
  refine (buckets_any _).mono ?_; rintro e w' ⟨rfl, rfl⟩
  go_wp2_with fail
  have bR := Boxed.new w 4 (.bool false)
  have e3 : Ext (w.alloc (.cells #[.bool false] 4)) w3 := (h1.trans h2).trans h3
  replace bR := ((e3.boxed bR).alloc (.cells #[.int .i64 16] 3)).alloc (.cells #[.int .i64 0] 3)
  have bL := (Boxed.new w3 3 (.int .i64 16)).alloc (.cells #[.int .i64 0] 3)
  have bA := Boxed.new (w3.alloc (.cells #[.int .i64 16] 3)) 3 (.int .i64 0)
  rw [World.size_alloc] at bA
  have hs := e3.size
  rw [World.size_alloc] at hs
  have hE : Ext w ((w3.alloc (.cells #[.int .i64 16] 3)).alloc (.cells #[.int .i64 0] 3)) := ((((Keep.refl _ w).alloc _).trans e3).alloc _).alloc _
  refine range_wp rfl (enters_of Try.func32 (by kernel_rfl) rfl) buckets1_iter (fun _ h => h.elim) (fun _ h => h.elim) (fun _ _ _ h => by rw [h]; rfl) (fun _ _ => trivial)
    (fun k A => Boxed A w.heap.size 4 (.bool false) ∧ Boxed A w3.heap.size 3 (.int .i64 (hlf k)) ∧ Boxed A (w3.heap.size + 1) 3 (.int .i64 k) ∧ Ext w A)
    (fun _ _ _ => False)
    (fun k A B h hk => ⟨hk.boxed_turn h.1 id, hk.boxed_turn h.2.1 id, hk.boxed_turn h.2.2.1 id, h.2.2.2.then_turn hk (by simp; omega) (fun _ _ h _ => h)⟩)
    (fun k c A B h hk => h.elim)
    (fun h => h.elim) ⟨bR, bL, bA, hE⟩ ?round ?done ?stop
  case round =>
    rintro l k A args KN KX hk ⟨hR, hL, hA, hX⟩ rfl hKN _
    gi_wp2
    refine ⟨Keep.refl _ _, fun C hC => ?_⟩
    replace hR := hC.boxed_turn hR id
    replace hL := hC.boxed_turn hL id
    replace hA := hC.boxed_turn hA id
    have hX := hX.then_turn hC (by simp; omega) (fun _ _ h _ => h)
    have hpos := bkt_pos k
    have hlt := bkt_lt hk
    have htwo := Lib.hid (hlf_two k)
    have hhp : 0 ≤ hlf k := by have := htwo.out; omega
    have hhl : hlf k ≤ 65536 := by have := htwo.out; omega
    have hne : (bkt k != 2 * hlf k) = false := by rw [htwo.out]; simp
    have cL := hL.cell
    have fL := hL.frozen
    have cA := hA.cell
    have fA := hA.frozen
    have r1 := hA.other (show w3.heap.size + 1 ≠ w3.heap.size by omega) (.int .i64 (bkt k))
    have cA2 := r1.cell
    have fA2 := r1.frozen
    gi_wp2
    have s1 := hL.set (.int .i64 (bkt k))
    have s2 := s1.other (show w3.heap.size ≠ w3.heap.size + 1 by omega) (.int .i64 ((k : Int) + 1))
    refine hKN _ _ ?_ ⟨?_, ?_, ?_, ?_⟩
    · exact ((Keep.refl _ _).setCell _ _ (fun o ho => ⟨id, .inl (by simp; omega)⟩)).setCell _ _ (fun o ho => ⟨id, .inl (by simp)⟩)
    · exact (hR.other (by omega) _).other (by omega) _
    · rw [hlf_succ]; exact s2
    · exact r1.set _
    · exact (hX.setCell _ _ (fun o ho => by have := Keep.lt ho; simp at this; omega)).setCell _ _ (fun o ho => by have := Keep.lt ho; simp at this; omega)
  case done =>
    rintro D A hD ⟨hR, hL, hA, hX⟩ hd
    rw [hlf_12] at hL
    have cL := hL.cell
    have cA := hA.cell
    have cR := hR.cell
    have fR := hR.frozen
    simp at hD
    go_wp2
    refine mark_ret (v := .bool true) ((Below.heap_setCell _ _ _ _ (by simp; omega)).trans hd) rfl ?_ ⟨rfl, ?_⟩
    · have hR2 : Boxed ((A.setCell ⟨w.heap.size, 0, none⟩ (.bool true)).putObj D (.deferred none)) w.heap.size 4 (.bool true) :=
        (World.putObj_heap_other (by omega)).trans (hR.set (.bool true))
      have c2 := hR2.cell
      simp [results, Try.results3, go_sem]; rw [c2]
    · exact (hX.setCell _ _ (fun o ho => by have := Keep.lt ho; simp at this)).putObj _ _ (fun o ho => by have := Keep.lt ho; omega)
  case stop =>
    rintro D c k A hD hk h
    exact h.elim
end Go.Proofs.Ytafeecdpkceigaa
