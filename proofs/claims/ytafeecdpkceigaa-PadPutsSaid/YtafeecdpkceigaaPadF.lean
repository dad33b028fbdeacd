/-
  tabulariumref01.Unpad.
-/
import Derived.Test.YtafeecdpkceigaaPadE
import Derived.Test.YtafeecdpkceigaaVecN
namespace Go.Proofs.Ytafeecdpkceigaa
open Go.RowKit Go.Shelf

theorem pad_eq {l : List UInt8} {K : Nat} (h4 : 4 ≤ l.length) (hX : 4 + tellN l ≤ l.length) (hK : 4 + tellN l ≤ K) :
    padL ((l.drop 4).take (tellN l)) K = l ↔ (K = l.length ∧ l.drop (4 + tellN l) = List.replicate (l.length - (4 + tellN l)) 0) := by
  have hm : ((l.drop 4).take (tellN l)).length = tellN l := by simp; omega
  have h1 : putL (tellN l) 4 = l.take 4 := by
    have := putL_num (l.take 4)
    rw [show (l.take 4).length = 4 by simp; omega] at this
    exact this
  have hl : l.take 4 ++ (l.drop 4).take (tellN l) ++ l.drop (4 + tellN l) = l := by
    rw [← List.take_add, List.take_append_drop]
  unfold padL
  rw [hm, h1]
  conv => lhs; rhs; rw [← hl]
  rw [List.append_cancel_left_eq]
  constructor
  · intro h
    have hlen := congrArg List.length h
    rw [List.length_replicate, List.length_drop] at hlen
    exact ⟨by omega, by rw [← h]; congr 1⟩
  · rintro ⟨h1, h2⟩
    rw [h2]; congr 1; omega

set_option maxHeartbeats 4000000 in
theorem refUnpad_any (a : Option Addr) (n c : Nat) (l : List UInt8) (w : World) (hr : Row 1 w a n c (l.map u8v)) (hn : n ≤ 4294967296) :
    Calls Try.prog 31 #[.slice a n c] w (OfPost l w) := by
  have hll : l.length = n := by have := hr.2.2.1; simpa using this
  have hmx := hr.2.1
  have hnc := hr.1
  unfold maxLen at hmx
  refine calls_cps fun R hR => ?_
  by_cases h4 : n < 4
  · have hU : ¬ Unp l := fun h => by have := h.1; omega
    clear hll
    go_enter Try.func31, Try.ntmps31
    go_wp2
    exact ⟨Keep.refl _ _, .inr ⟨hU, rfl⟩⟩
  · have hpe := fun K => pad_eq (l := l) (K := K) (by omega)
    obtain ⟨X, hX⟩ : ∃ X, tellN l = X := ⟨_, rfl⟩
    have hUd : Unp l ↔ (4 + X ≤ n ∧ bucket X = n ∧ l.drop (4 + X) = List.replicate (n - (4 + X)) 0) := by
      unfold Unp; rw [hX, hll]
      exact ⟨fun h => h.2, fun h => ⟨by omega, h⟩⟩
    rw [hX, hll] at hpe
    have hX32 : X < 4294967296 := by
      have := numL_lt (l.take 4)
      rw [show (l.take 4).length = 4 by simp; omega] at this
      have p4 : (256 : Nat) ^ 4 = 4294967296 := by decide
      rw [← hX, ← p4]; exact this
    have hhead := hr.cut (lo := 0) (hi := 4) (by omega) (by omega)
    rw [show (if c = 0 then a else Option.map (fun x => x.add (0 * 1)) a) = a from by rw [Nat.zero_mul]; split; rfl; cases a <;> simp [Addr.add]] at hhead
    simp only [Nat.sub_zero, Nat.mul_one, List.drop_zero, ← List.map_take] at hhead
    have hnum := fun w' (h : Ext w w') => number_any _ _ _ _ _ (hhead.ext h) (by omega)
    rw [show numL (l.take 4) = X from hX] at hnum
    obtain ⟨ba, oa, rfl, hca⟩ := hr.2.2.2.2 (by omega)
    clear hca
    have HL := Lib.hid hll
    have HU := Lib.hid hUd
    have HX := Lib.hid hX
    have HP := Lib.hid hpe
    clear hll hUd hX hpe hhead
    go_enter Try.func31, Try.ntmps31
    go_wp2_with fail
    refine (hnum _ (Keep.refl _ _)).mono ?_; rintro e _ ⟨rfl, rfl⟩
    by_cases hx1 : n < 4 + X
    · have hgt : ((n : Int) - 4 < (X : Int)) := by omega
      go_wp2
      exact ⟨Keep.refl _ _, .inr ⟨fun h => by have := (HU.out.1 h).1; omega, rfl⟩⟩
    · have hgt : ¬ ((n : Int) - 4 < (X : Int)) := by omega
      obtain ⟨E, hE⟩ : ∃ E : Nat, 4 + X = E := ⟨_, rfl⟩
      have hE' : (4 + (X : Int)) = (E : Int) := by omega
      have hEn : E ≤ n := by omega
      have hE4 : 4 ≤ E := by omega
      have hEX : E - 4 = X := by omega
      by_cases hc4 : c = 4
      · subst hc4
        have hmid := hr.cut (lo := 4) (hi := E) (by omega) (by omega)
        rw [if_pos rfl, show ((List.map u8v l).drop (4 * 1)).take ((E - 4) * 1) = ((l.drop 4).take X).map u8v from by rw [← List.map_drop, ← List.map_take]; congr 2; omega, hEX] at hmid
        rw [Nat.sub_self] at hmid
        by_cases h6 : 65532 < X
        · omega
        · have hp := fun w' (h : Ext w w') => refPad_any _ _ _ _ _ (hmid.ext h) (by omega)
          go_wp2_with fail
          refine (hp _ (Keep.refl _ _)).mono ?_; rintro e w1 ⟨K, a1, c1, hK, rfl, o1, e1⟩
          clear hp
          obtain ⟨_, _, q1, r1⟩ := owns_row o1
          cases q1
          have hKX : 4 + X ≤ K := by have := (bucket_in (n := X) (by omega) (by omega)).1; omega
          have hiff := HP.out K (by omega) hKX
          have s1 := run_string_row (P := Try.prog) w1 31 9 5 Try.underlying31 Try.underlying5 Try.underlying9 r1
          have s2 := run_string_row (P := Try.prog) w1 31 9 5 Try.underlying31 Try.underlying5 Try.underlying9 (hr.ext e1)
          obtain ⟨tx, htx⟩ : ∃ tx, (⟨(padL ((l.drop 4).take X) K).toArray⟩ : ByteArray) = tx := ⟨_, rfl⟩
          obtain ⟨tl, htl⟩ : ∃ tl, (⟨l.toArray⟩ : ByteArray) = tl := ⟨_, rfl⟩
          have hbq : (tx.toList == tl.toList) = decide (padL ((l.drop 4).take X) K = l) := by rw [← htx, ← htl, toList_mk, toList_mk]; by_cases h : padL ((l.drop 4).take X) K = l <;> simp [h]
          rw [htx] at s1
          rw [htl] at s2
          clear o1 r1 hKX
          by_cases he : padL ((l.drop 4).take X) K = l
          · rw [decide_eq_true he] at hbq
            have hU : Unp l := HU.out.2 ⟨by omega, by rw [← hK, (hiff.1 he).1], (hiff.1 he).2⟩
            clear hiff he hK
            go_wp2
            exact ⟨e1, .inl ⟨hU, _, _, by rw [HX.out]; rfl, by rw [HX.out]; exact hmid.ext e1⟩⟩
          · rw [decide_eq_false he] at hbq
            have hU : ¬ Unp l := fun h => he (hiff.2 ⟨by have := (HU.out.1 h).2.1; omega, (HU.out.1 h).2.2⟩)
            clear hiff he hK
            go_wp2
            exact ⟨e1, .inr ⟨hU, rfl⟩⟩
      · skip
        have hmid := hr.cut (lo := 4) (hi := E) (by omega) (by omega)
        rw [if_neg hc4, show ((List.map u8v l).drop (4 * 1)).take ((E - 4) * 1) = ((l.drop 4).take X).map u8v from by rw [← List.map_drop, ← List.map_take]; congr 2; omega, hEX] at hmid
        rw [Option.map_some, addr_add, Nat.mul_one] at hmid
        by_cases h6 : 65532 < X
        · have hp := fun w' (h : Ext w w') => refPad_long _ _ _ _ _ (hmid.ext h) h6
          go_wp2_with fail
          refine (hp _ (Keep.refl _ _)).mono ?_; rintro e w1 ⟨rfl, e1⟩
          go_wp2
          refine ⟨e1, .inr ⟨fun h => ?_, rfl⟩⟩
          have := (HU.out.1 h).2.1
          rw [bucket_out (.inr (by omega))] at this
          omega
        · have hp := fun w' (h : Ext w w') => refPad_any _ _ _ _ _ (hmid.ext h) (by omega)
          go_wp2_with fail
          refine (hp _ (Keep.refl _ _)).mono ?_; rintro e w1 ⟨K, a1, c1, hK, rfl, o1, e1⟩
          clear hp
          obtain ⟨_, _, q1, r1⟩ := owns_row o1
          cases q1
          have hKX : 4 + X ≤ K := by have := (bucket_in (n := X) (by omega) (by omega)).1; omega
          have hiff := HP.out K (by omega) hKX
          have s1 := run_string_row (P := Try.prog) w1 31 9 5 Try.underlying31 Try.underlying5 Try.underlying9 r1
          have s2 := run_string_row (P := Try.prog) w1 31 9 5 Try.underlying31 Try.underlying5 Try.underlying9 (hr.ext e1)
          obtain ⟨tx, htx⟩ : ∃ tx, (⟨(padL ((l.drop 4).take X) K).toArray⟩ : ByteArray) = tx := ⟨_, rfl⟩
          obtain ⟨tl, htl⟩ : ∃ tl, (⟨l.toArray⟩ : ByteArray) = tl := ⟨_, rfl⟩
          have hbq : (tx.toList == tl.toList) = decide (padL ((l.drop 4).take X) K = l) := by rw [← htx, ← htl, toList_mk, toList_mk]; by_cases h : padL ((l.drop 4).take X) K = l <;> simp [h]
          rw [htx] at s1
          rw [htl] at s2
          clear o1 r1 hKX
          by_cases he : padL ((l.drop 4).take X) K = l
          · rw [decide_eq_true he] at hbq
            have hU : Unp l := HU.out.2 ⟨by omega, by rw [← hK, (hiff.1 he).1], (hiff.1 he).2⟩
            clear hiff he hK
            go_wp2
            exact ⟨e1, .inl ⟨hU, _, _, by rw [HX.out]; rfl, by rw [HX.out]; exact hmid.ext e1⟩⟩
          · rw [decide_eq_false he] at hbq
            have hU : ¬ Unp l := fun h => he (hiff.2 ⟨by have := (HU.out.1 h).2.1; omega, (HU.out.1 h).2.2⟩)
            clear hiff he hK
            go_wp2
            exact ⟨e1, .inr ⟨hU, rfl⟩⟩
end Go.Proofs.Ytafeecdpkceigaa
