/-
  pad.Put and tabulariumref01.Pad: a text filled up.
-/
import Derived.Test.YtafeecdpkceigaaPadB
import Derived.Test.YtafeecdpkceigaaVecM
import Derived.Test.YtafeecdpkceigaaCopy
namespace Go.Proofs.Ytafeecdpkceigaa
open Go.RowKit Go.Shelf

theorem owns_mono {w : World} {base base' e sz n : Nat} {v : Value} {xs : List Value} (h : w.ownsRow base e sz v n xs) (hb : base' ≤ base) : w.ownsRow base' e sz v n xs :=
  ⟨h.1, h.2.imp id (fun ⟨g, cap, cur, h1, h2, h3⟩ => ⟨g, cap, cur, h1, Nat.le_trans hb h2, h3⟩)⟩

theorem bucket_in {n : Int} (h0 : 0 ≤ n) (h1 : n ≤ 65532) : n + 4 ≤ bucket n ∧ bucket n ≤ 65536 ∧ 32 ≤ bucket n := by
  unfold bucket
  rw [if_neg (by omega)]
  repeat' split
  all_goals omega
/-- A text, filled up to K bytes. -/
def padL (l : List UInt8) (K : Nat) : List UInt8 := putL l.length 4 ++ l ++ List.replicate (K - 4 - l.length) 0
theorem padL_length {l : List UInt8} {K : Nat} (h : 4 + l.length ≤ K) : (padL l K).length = K := by simp [padL, putL_length]; omega
theorem pad_over {l : List UInt8} {K : Nat} (h : 4 + l.length ≤ K) : over (over (List.replicate K (.int .u8 0)) 0 ((putL l.length 4).map u8v)) 4 (l.map u8v) = (padL l K).map u8v := by
  have h4 := putL_length l.length 4
  unfold over padL
  rw [List.map_append, List.map_append]
  generalize putL l.length 4 = p at *
  simp only [List.take_zero, List.nil_append, List.length_map, h4, Nat.zero_add, List.drop_replicate]
  rw [List.take_append_of_le_length (by simp [h4]), List.take_of_length_le (by simp [h4]), List.drop_append, List.drop_of_length_le (by simp [h4]), List.nil_append, List.length_map, h4, List.drop_replicate, List.append_assoc, List.append_assoc]
  congr 2
  rw [List.map_replicate]
  congr 1
  omega

set_option maxHeartbeats 2000000 in
theorem padPut_any (a : Option Addr) (n c : Nat) (l : List UInt8) (w : World) (hr : Row 1 w a n c (l.map u8v)) (hn : n ≤ 65532) :
    Calls Try.prog 25 #[.slice a n c] w fun e w' => ∃ (K : Nat) (a' : Option Addr) (c' : Nat), (K : Int) = bucket n ∧ e = .returned (.tuple #[.slice a' K c', .int .i64 0]) ∧ w'.ownsRow w.heap.size 5 1 (.slice a' K c') K ((padL l K).map u8v) ∧ Ext w w' := by
  have hll : l.length = n := by have := hr.2.2.1; simpa using this
  obtain ⟨b1, b2, b3⟩ := bucket_in (n := n) (by omega) (by omega)
  obtain ⟨K, hK⟩ := Int.eq_ofNat_of_zero_le (show 0 ≤ bucket n by omega)
  have hbk := fun w => bucket_any n w
  simp only [hK] at b1 b2 b3 hbk ⊢
  have hKn : n + 4 ≤ K := by omega
  have hK1 : K ≤ 65536 := by omega
  have hK2 : 32 ≤ K := by omega
  have hpo := pad_over (l := l) (K := K) (by omega)
  rw [hll] at hpo
  have HL := Lib.hid hll
  clear b1 b2 b3 hK hll
  obtain ⟨i0, hi, hz0, hz1, hz2⟩ := info_parts info_u8
  refine calls_cps fun R hR => ?_
  go_enter Try.func25, Try.ntmps25
  go_wp2_with fail
  refine (hbk _).mono ?_; rintro e w1 ⟨rfl, e1⟩
  go_wp2_with (first | (at_make; go_must (refine wpList_make_full _ rfl _ _ 31 rfl w1.heap.size 5 i0 _ 1 Try.underlying31 hi hz0 hz1 .i64 .i64 _ _ K rfl rfl rfl rfl (by rw [hz2]; omega) (by unfold maxLen; omega) (Nat.le_refl _) ?_); intro w2 hown2 hgrow2) | fail)
  have e2 : Ext w1 w2 := Keep.of_grownBy hgrow2 (fun k o h _ => by cases h)
  rw [show (Value.int .u8 0).cells = #[.int .u8 0] from rfl, Nat.mul_one, toList_madeCells_one] at hown2
  clear hgrow2
  have hrow := (lit_row (base := 0) w2 28 #[.int .u32 (n : Int)] 1 (by simp [maxLen]) rfl (Nat.zero_le _)).2
  have hw1 : (UInt32.ofNat n).toNat = n := by rw [UInt32.toNat_ofNat']; omega
  rw [show (#[Value.int .u32 (n : Int)] : Array Value).toList = [UInt32.ofNat n].map u32v from by simp [u32v, hw1]] at hrow
  have hby := bytes_any _ _ _ _ _ hrow (by omega)
  rw [show bytesOf [UInt32.ofNat n] = putL n 4 from by simp [bytesOf, hw1]] at hby
  go_wp2_with fail
  refine hby.mono ?_; rintro e w3 ⟨a3, c3, rfl, own3, e3⟩
  clear hby hrow
  obtain ⟨_, _, q1, row3⟩ := owns_row own3
  cases q1
  have e23 : Ext w2 w3 := ((Keep.refl _ w2).alloc _).trans e3
  have o3 := e23.owns hown2
  obtain ⟨w4, hrun4, o4, g4⟩ := run_copy_owned (P := Try.prog) w3 31 31 3 Try.underlying31 (by kernel_rfl) o3 row3 (u8v_one _) 0 K K (by omega) (by omega)
  have e4 : Ext w1 w4 := Keep.grown (e2.trans e23) g4 (fun k o hk ho => by cases hk; have := Keep.lt ho; omega)
  have hr4 := (hr.ext e1).ext e4
  obtain ⟨w5, hrun5, o5, g5⟩ := run_copy_owned (P := Try.prog) w4 31 31 3 Try.underlying31 (by kernel_rfl) o4 hr4 (u8v_one _) 4 (K - 4) (K - 4) (by omega) (by omega)
  have e5 : Ext w1 w5 := Keep.grown e4 g5 (fun k o hk ho => by cases hk; have := Keep.lt ho; omega)
  rw [hpo] at o5
  clear o4 o3 hown2 own3 row3 g4 g5 hpo hr4
  go_wp2
  exact ⟨K, _, _, rfl, rfl, owns_mono o5 e1.size, e1.trans e5⟩

theorem padPut_long (a : Option Addr) (n c : Nat) (l : List UInt8) (w : World) (hr : Row 1 w a n c (l.map u8v)) (hn : 65532 < n) :
    Calls Try.prog 25 #[.slice a n c] w fun e w' => e = .returned (.tuple #[.slice none 0 0, .int .i64 2]) ∧ Ext w w' := by
  have hb := bucket_out (n := n) (.inr (by omega))
  have hbk := fun w => bucket_any n w
  simp only [hb] at hbk
  clear hb
  have hm := hr.2.1
  have hc := hr.1
  refine calls_cps fun R hR => ?_
  go_enter Try.func25, Try.ntmps25
  go_wp2_with fail
  refine (hbk _).mono ?_; rintro e w1 ⟨rfl, e1⟩
  go_wp2
  exact ⟨rfl, e1⟩

/-- A text behind its length, and j zeroes. -/
def padP (l : List UInt8) (j : Nat) : List UInt8 := putL l.length 4 ++ l ++ List.replicate j 0
theorem padP_succ (l : List UInt8) (j : Nat) : padP l (j + 1) = padP l j ++ [0] := by unfold padP; rw [List.replicate_succ', ← List.append_assoc]
set_option maxHeartbeats 2000000 in
theorem refPad_any (a : Option Addr) (n c : Nat) (l : List UInt8) (w : World) (hr : Row 1 w a n c (l.map u8v)) (hn : n ≤ 65532) :
    Calls Try.prog 29 #[.slice a n c] w fun e w' => ∃ (K : Nat) (a' : Option Addr) (c' : Nat), (K : Int) = bucket n ∧ e = .returned (.tuple #[.slice a' K c', .int .i64 0]) ∧ w'.ownsRow w.heap.size 5 1 (.slice a' K c') K ((padL l K).map u8v) ∧ Ext w w' := by
  have hll : l.length = n := by have := hr.2.2.1; simpa using this
  obtain ⟨b1, b2, b3⟩ := bucket_in (n := n) (by omega) (by omega)
  obtain ⟨K, hK⟩ := Int.eq_ofNat_of_zero_le (show 0 ≤ bucket n by omega)
  have hbk := fun w => refBucket_any n w (by omega)
  simp only [hK] at b1 b2 b3 hbk ⊢
  have hKn : n + 4 ≤ K := by omega
  have hK1 : K ≤ 65536 := by omega
  have hK2 : 32 ≤ K := by omega
  have HL := Lib.hid hll
  clear b1 b2 b3 hK hll
  have hpt : ∀ w, Calls Try.prog 23 #[.int .u64 (n : Int), .int .i64 4] w fun e w' => ∃ a c, e = .returned (.slice a 4 c) ∧ w'.ownsRow w.heap.size 5 1 (.slice a 4 c) 4 ((putL n 4).map u8v) ∧ Ext w w' := fun w => put_any n 4 w (by omega)
  refine calls_cps fun R hR => ?_
  go_enter Try.func29, Try.ntmps29
  go_wp2_with fail
  refine (hbk _).mono ?_; rintro e w1 ⟨rfl, e1⟩
  go_wp2_with fail
  refine (hpt _).mono ?_; rintro e w2 ⟨a2, c2, rfl, o2, e2⟩
  obtain ⟨v', w3, hrun, o3, hgrow, _⟩ := run_append_row w2 w1.heap.size 31 31 5 _ 1 1 Try.underlying31 info_u8 rfl (by decide) o2 ((hr.ext e1).ext e2) (u8v_one _) (by unfold maxLen; omega) (by omega) e2.size
  have e3 : Ext w1 w3 := Ext.of_below ((Ext.below e2).grown hgrow e2.size (fun g hg => (o2.lt g hg).1))
  obtain ⟨a3, c3, rfl, _⟩ := owns_row o3
  rw [← List.map_append, show putL n 4 ++ l = padP l 0 from by simp [padP, HL.out]] at o3
  have Hrun := Lib.hid hrun
  clear hrun o2 hgrow
  go_wp2_with (at_builtin; go_must (refine wpList_append_run Hrun.out rfl rfl rfl rfl ?_))
  go_loopw [5] (fun out wr => ∃ (j : Nat) (ao : Option Addr) (co : Nat), 4 + n + j ≤ K ∧ out = .slice ao (4 + n + j) co ∧ wr.ownsRow w1.heap.size 5 1 (.slice ao (4 + n + j) co) (4 + n + j) ((padP l j).map u8v) ∧ Ext w1 wr) (fun out _ => match out with | .slice _ n _ => K - n | _ => 0)
  case atStart => exact ⟨0, _, _, by omega, rfl, o3, e3⟩
  case round =>
    obtain ⟨j, ao, co, hj, rfl, hown, hE⟩ := hrel
    by_cases hlt : 4 + n + j < K
    · have hsrc := (lit_row (base := 0) wr 5 #[.int .u8 0] 1 (by simp [maxLen]) rfl (Nat.zero_le _)).2
      obtain ⟨v', w', hrun, hown', hgrow, _⟩ := run_append_row (wr.alloc (.cells #[.int .u8 0] 5)) w1.heap.size 31 31 5 _ 1 1 Try.underlying31 info_u8 rfl (by decide) (hown.alloc _) hsrc (by simp [Value.oneCell']) (by unfold maxLen; omega) (by omega) (by have := hE.size; simp; omega)
      have hEw : Ext w1 w' := Ext.of_below (((Ext.below hE).alloc hE.size _).grown hgrow (by have := hE.size; simp; omega) (fun g hg => (hown.lt g hg).1))
      obtain ⟨a4, c4, rfl, _⟩ := owns_row hown'
      rw [show ((padP l j).map u8v) ++ (#[Value.int .u8 0] : Array Value).toList = (padP l (j + 1)).map u8v from by
        rw [padP_succ, List.map_append]; rfl] at hown'
      have Hrun := Lib.hid hrun
      clear hrun hsrc
      go_wp2_with (at_builtin; go_must (refine wpList_append_run Hrun.out rfl rfl rfl rfl ?_))
      go_roundw
      case rel => exact ⟨j + 1, _, _, by omega, rfl, hown', hEw⟩
      case measure => simp; omega
    · have hj2 : 4 + n + j = K := by omega
      rw [show padP l j = padL l K from by unfold padP padL; rw [HL.out]; congr 2; omega] at hown
      rw [hj2] at hown ⊢
      go_wp2
      exact ⟨K, _, _, rfl, rfl, owns_mono hown e1.size, e1.trans hE⟩

theorem refPad_long (a : Option Addr) (n c : Nat) (l : List UInt8) (w : World) (hr : Row 1 w a n c (l.map u8v)) (hn : 65532 < n) :
    Calls Try.prog 29 #[.slice a n c] w fun e w' => e = .returned (.tuple #[.slice none 0 0, .int .i64 2]) ∧ Ext w w' := by
  have hb := bucket_out (n := n) (.inr (by omega))
  have hm := hr.2.1
  have hc := hr.1
  unfold maxLen at hm
  have hbk := fun w => refBucket_any n w (by omega)
  simp only [hb] at hbk
  clear hb
  refine calls_cps fun R hR => ?_
  go_enter Try.func29, Try.ntmps29
  go_wp2_with fail
  refine (hbk _).mono ?_; rintro e w1 ⟨rfl, e1⟩
  go_wp2
  exact ⟨rfl, e1⟩
end Go.Proofs.Ytafeecdpkceigaa
