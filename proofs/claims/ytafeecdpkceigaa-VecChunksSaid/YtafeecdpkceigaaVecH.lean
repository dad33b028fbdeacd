/-
  The law VecChunks.
-/
import Derived.Test.YtafeecdpkceigaaVecG
import Derived.Test.YtafeecdpkceigaaVecD
namespace Go.Proofs.Ytafeecdpkceigaa
open Go.RowKit Go.Shelf

theorem Texts.cut {w : World} {a : Option Addr} {n c m : Nat} {ls : List (List UInt8)} (h : Texts w a n c ls) (hm : m ≤ n) : Texts w a m c (ls.take m) := by
  obtain ⟨vs, hr, hn, hl⟩ := h
  have h1 := hr.cut (lo := 0) (hi := m) (by omega) hm
  simp only [Nat.sub_zero, Nat.mul_one, List.drop_zero] at h1
  rw [show (if c = 0 then a else Option.map (fun x => x.add 0) a) = a from by split; rfl; cases a <;> simp [Addr.add]] at h1
  refine ⟨vs.take m, h1, by simp; omega, fun i l hi => ?_⟩
  rw [List.getElem?_take] at hi
  split at hi
  · obtain ⟨a', c', h2, h3⟩ := hl i l hi
    exact ⟨a', c', by rw [List.getElem?_take, if_pos (by assumption)]; exact h2, h3⟩
  · cases hi

theorem sameTexts_same (a b : Option Addr) (n c d : Nat) (xs : List (List UInt8)) (w : World) (hx : Texts w a n c xs) (hy : Texts w b n d xs) :
    Calls Try.prog 20 #[.slice a n c, .slice b n d] w fun e w' => e = .returned (.bool true) ∧ Ext w w' := by
  have := sameTexts_any a b n n c d xs xs w hx hy
  simpa using this

set_option maxHeartbeats 1000000 in
theorem vecChunks_any (a : Option Addr) (len c : Nat) (l : List UInt8) (n most : Int) (w : World) (hr : Row 1 w a len c (l.map u8v)) (hn : -9223372036854775808 ≤ n ∧ n ≤ 9223372036854775807) (hm : -9223372036854775808 ≤ most ∧ most ≤ 9223372036854775807) :
    Calls Try.prog 5 #[.slice a len c, .int .i64 n, .int .i64 most] w fun e w' => e = .returned (.bool true) ∧ Ext w w' := by
  have hll : l.length = len := by have := hr.2.2.1; simpa using this
  have hlc := hr.1
  have hmx := hr.2.1
  unfold maxLen at hmx
  by_cases h500 : 500 < len
  · refine calls_cps fun R hR => ?_
    go_enter Try.func5, Try.ntmps5
    go_wp2_with fail
    refine (awake01_any _).mono ?_; rintro e w1 ⟨rfl, h1⟩
    go_wp2
  · by_cases hneg : most < 0
    · refine calls_cps fun R hR => ?_
      go_enter Try.func5, Try.ntmps5
      go_wp2_with fail
      refine (awake01_any _).mono ?_; rintro e w1 ⟨rfl, h1⟩
      go_wp2
      exact ⟨rfl, h1⟩
    · obtain ⟨m, rfl⟩ := Int.eq_ofNat_of_zero_le (show 0 ≤ most by omega)
      have hN := chunkN_le n len
      have hL : chunksL n l = (List.range (chunkN n len)).map (chunkAt n.toNat l) := by unfold chunksL; rw [hll]
      have HC := fun (w' : World) (h : Ext w w') => refChunks_any a len c n l w' hn.2 (hr.ext h) (by omega)
      have HP := fun (w' : World) (h : Ext w w') (m : Int) => pieces_any a len c n m l w' hn.2 (hr.ext h) (by omega)
      simp only [hL] at HC
      generalize chunkN n len = N at *
      obtain ⟨ls, hls⟩ : ∃ ls, (List.range N).map (chunkAt n.toNat l) = ls := ⟨_, rfl⟩
      have hp1 : pieceN 1000 N = N := by unfold pieceN; rw [if_neg (by omega)]
      refine calls_cps fun R hR => ?_
      go_enter Try.func5, Try.ntmps5
      go_wp2_with fail
      refine (awake01_any _).mono ?_; rintro e w1 ⟨rfl, h1⟩
      go_wp2_with fail
      refine (HC _ h1).mono ?_; rintro e w2 ⟨a2, c2, rfl, ⟨vs2, o2, t2⟩, e2⟩
      have T2 : Texts w2 a2 N c2 ls := by obtain ⟨_, _, q1, q2⟩ := owns_row o2; cases q1; rw [← hls]; exact t2.texts q2
      clear o2 t2
      have hcN : N ≤ c2 := by obtain ⟨_, q, _⟩ := T2; exact q.1
      have hcM : c2 ≤ 2 ^ 63 - 1 := by obtain ⟨_, q, _⟩ := T2; exact q.2.1
      have f2 := h1.trans e2
      go_wp2_with fail
      refine (HP _ f2 1000).mono ?_; rintro e w3 ⟨a3, c3, rfl, T3, e3⟩
      rw [hp1, hls] at T3
      rw [hp1]
      have f3 := f2.trans e3
      go_wp2_with fail
      refine (HP _ f3 m).mono ?_; rintro e w4 ⟨a4, c4, rfl, T4, e4⟩
      have f4 := f3.trans e4
      have T2' := (T2.ext e3).ext e4
      have T3' := T3.ext e4
      by_cases hmN : m < N
      · rw [show pieceN m N = m from by unfold pieceN; rw [if_pos (by omega)]; omega] at T4 ⊢
        have hlm : (List.range m).map (chunkAt n.toNat l) = ls.take m := by rw [← hls, ← List.map_take]; congr 1; rw [List.take_range]; congr 1; omega
        rw [hlm] at T4
        have T5 := T2'.cut (m := m) (by omega)
        go_wp2_with fail
        refine (HC _ f4).mono ?_; rintro e w5 ⟨a5, c5, rfl, ⟨vs5, o5, t5⟩, e5⟩
        have T6 : Texts w5 a5 N c5 ls := by obtain ⟨_, _, q1, q2⟩ := owns_row o5; cases q1; rw [← hls]; exact t5.texts q2
        go_wp2_with fail
        refine (sameTexts_same _ _ _ _ _ ls _ (T3'.ext e5) T6).mono ?_; rintro e w6 ⟨rfl, e6⟩
        go_wp2_with fail
        refine (sameTexts_same _ _ _ _ _ _ _ ((T4.ext e5).ext e6) ((T5.ext e5).ext e6)).mono ?_; rintro e w7 ⟨rfl, e7⟩
        go_wp2
        exact ⟨rfl, ((f4.trans e5).trans e6).trans e7⟩
      · rw [show pieceN m N = N from by unfold pieceN; rw [if_neg (by omega)]] at T4 ⊢
        rw [hls] at T4
        go_wp2_with fail
        refine (HC _ f4).mono ?_; rintro e w5 ⟨a5, c5, rfl, ⟨vs5, o5, t5⟩, e5⟩
        have T6 : Texts w5 a5 N c5 ls := by obtain ⟨_, _, q1, q2⟩ := owns_row o5; cases q1; rw [← hls]; exact t5.texts q2
        go_wp2_with fail
        refine (sameTexts_same _ _ _ _ _ ls _ (T3'.ext e5) T6).mono ?_; rintro e w6 ⟨rfl, e6⟩
        go_wp2_with fail
        refine (sameTexts_same _ _ _ _ _ _ _ ((T4.ext e5).ext e6) ((T2'.ext e5).ext e6)).mono ?_; rintro e w7 ⟨rfl, e7⟩
        go_wp2
        exact ⟨rfl, ((f4.trans e5).trans e6).trans e7⟩
end Go.Proofs.Ytafeecdpkceigaa
