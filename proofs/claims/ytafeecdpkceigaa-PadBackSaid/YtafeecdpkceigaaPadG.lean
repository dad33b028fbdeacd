/-
  The laws PadPuts and PadBack.
-/
import Derived.Test.YtafeecdpkceigaaPadF
namespace Go.Proofs.Ytafeecdpkceigaa
open Go.RowKit Go.Shelf

theorem numL_putL (n k : Nat) : numL (putL n k) = n % 256 ^ k := by
  induction k generalizing n with
  | zero => simp [putL, numL, Nat.mod_one]
  | succ k ih =>
    have e : n % 256 ^ (k + 1) = n % 256 + 256 * (n / 256 % 256 ^ k) := by rw [Nat.pow_succ, Nat.mul_comm (256 ^ k), Nat.mod_mul]
    rw [putL_cons, numL, ih, UInt8.toNat_ofNat', e]
theorem tell_pad {l : List UInt8} {K : Nat} (hl : l.length < 4294967296) : tellN (padL l K) = l.length := by
  unfold tellN padL
  have h4 := putL_length l.length 4
  rw [List.append_assoc, List.take_append_of_le_length (by omega), List.take_of_length_le (by omega), numL_putL]
  have p4 : (256 : Nat) ^ 4 = 4294967296 := by decide
  rw [p4, Nat.mod_eq_of_lt hl]
theorem mid_pad {l : List UInt8} {K : Nat} : ((padL l K).drop 4).take l.length = l := by
  unfold padL
  have h4 := putL_length l.length 4
  rw [List.append_assoc, List.drop_append, List.drop_of_length_le (by omega), h4]
  simp
theorem unp_pad {l : List UInt8} {K : Nat} (hl : l.length ≤ 65532) (hK : (K : Int) = bucket l.length) : Unp (padL l K) := by
  have hb := (bucket_in (n := l.length) (by omega) (by omega)).1
  have hlen := padL_length (l := l) (K := K) (by omega)
  have ht := tell_pad (l := l) (K := K) (by omega)
  have hpe := pad_eq (l := padL l K) (K := K) (by omega) (by omega) (by omega)
  rw [ht, mid_pad] at hpe
  have := (hpe.1 rfl).2
  refine ⟨by omega, by omega, by rw [ht, hlen, hK], by rw [ht]; exact this⟩

set_option maxHeartbeats 4000000 in
theorem padPuts_any (a : Option Addr) (n1 c1 : Nat) (l : List UInt8) (b : Option Addr) (n2 c2 : Nat) (r : List UInt8) (w : World) (h1 : Row 1 w a n1 c1 (l.map u8v)) (h2 : Row 1 w b n2 c2 (r.map u8v)) :
    Calls Try.prog 9 #[.slice a n1 c1, .slice b n2 c2] w fun e w' => e = .returned (.bool true) ∧ Ext w w' := by
  have hc1 := h1.1
  have hm1 := h1.2.1
  have hc2 := h2.1
  have hm2 := h2.2.1
  unfold maxLen at hm1 hm2
  by_cases hA : 1000 < n1
  · refine calls_cps fun R hR => ?_
    go_enter Try.func9, Try.ntmps9
    go_wp2_with fail
    refine (awake05_any _).mono ?_; rintro e w1 ⟨rfl, e1⟩
    go_wp2
    try exact ⟨rfl, e1⟩
  · by_cases hB : 3000 < n2
    · refine calls_cps fun R hR => ?_
      go_enter Try.func9, Try.ntmps9
      go_wp2_with fail
      refine (awake05_any _).mono ?_; rintro e w1 ⟨rfl, e1⟩
      go_wp2
      try exact ⟨rfl, e1⟩
    · refine calls_cps fun R hR => ?_
      go_enter Try.func9, Try.ntmps9
      go_wp2_with fail
      refine (awake05_any _).mono ?_; rintro e w1 ⟨rfl, e1⟩
      go_wp2_with fail
      refine (padPut_any _ _ _ _ _ (h1.ext e1) (by omega)).mono ?_; rintro e w2 ⟨K, ax, cx, hK, rfl, ox, e2⟩
      have f2 := e1.trans e2
      go_wp2_with fail
      refine (refPad_any _ _ _ _ _ (h1.ext f2) (by omega)).mono ?_; rintro e w3 ⟨K', ay, cy, hK', rfl, oy, e3⟩
      obtain rfl : K' = K := by omega
      have f3 := f2.trans e3
      obtain ⟨_, _, q1, rx⟩ := owns_row ox
      cases q1
      obtain ⟨_, _, q1, ry⟩ := owns_row oy
      cases q1
      clear ox oy hK hK'
      go_wp2_with fail
      refine (padOf_any _ _ _ _ _ (h2.ext f3) (by omega)).mono ?_; rintro e w4 ⟨e4, post4⟩
      have f4 := f3.trans e4
      rcases post4 with ⟨hU, ap, cp, rfl, rp⟩ | ⟨hU, rfl⟩
      · go_wp2_with fail
        refine (refUnpad_any _ _ _ _ _ (h2.ext f4) (by omega)).mono ?_; rintro e w5 ⟨e5, post5⟩
        rcases post5 with ⟨_, aq, cq, rfl, rq⟩ | ⟨hU', _⟩
        · have s1 := run_string_row (P := Try.prog) w5 31 9 5 Try.underlying31 Try.underlying5 Try.underlying9 (((rx.ext e3).ext e4).ext e5)
          have s2 := run_string_row (P := Try.prog) w5 31 9 5 Try.underlying31 Try.underlying5 Try.underlying9 ((ry.ext e4).ext e5)
          have s3 := run_string_row (P := Try.prog) w5 31 9 5 Try.underlying31 Try.underlying5 Try.underlying9 (rp.ext e5)
          have s4 := run_string_row (P := Try.prog) w5 31 9 5 Try.underlying31 Try.underlying5 Try.underlying9 rq
          generalize (⟨(padL l K').toArray⟩ : ByteArray) = tx at *
          generalize (⟨((r.drop 4).take (tellN r)).toArray⟩ : ByteArray) = ty at *
          clear rp rq rx ry
          go_wp2
          exact ⟨rfl, f4.trans e5⟩
        · exact absurd hU hU'
      · go_wp2_with fail
        refine (refUnpad_any _ _ _ _ _ (h2.ext f4) (by omega)).mono ?_; rintro e w5 ⟨e5, post5⟩
        rcases post5 with ⟨hU', _⟩ | ⟨_, rfl⟩
        · exact absurd hU' hU
        · have s1 := run_string_row (P := Try.prog) w5 31 9 5 Try.underlying31 Try.underlying5 Try.underlying9 (((rx.ext e3).ext e4).ext e5)
          have s2 := run_string_row (P := Try.prog) w5 31 9 5 Try.underlying31 Try.underlying5 Try.underlying9 ((ry.ext e4).ext e5)
          have s3 := run_string_row (P := Try.prog) w5 31 9 5 Try.underlying31 Try.underlying5 Try.underlying9 (l := []) (Row.nil 1 w5)
          generalize (⟨(padL l K').toArray⟩ : ByteArray) = tx at *
          generalize (⟨([] : List UInt8).toArray⟩ : ByteArray) = ty at *
          clear rx ry
          go_wp2
          exact ⟨rfl, f4.trans e5⟩

set_option maxHeartbeats 4000000 in
theorem padBack_any (a : Option Addr) (n1 c1 : Nat) (l : List UInt8) (w : World) (h1 : Row 1 w a n1 c1 (l.map u8v)) :
    Calls Try.prog 10 #[.slice a n1 c1] w fun e w' => e = .returned (.bool true) ∧ Ext w w' := by
  have hll : l.length = n1 := by have := h1.2.2.1; simpa using this
  have hc1 := h1.1
  have hm1 := h1.2.1
  unfold maxLen at hm1
  have HL := Lib.hid hll
  clear hll
  by_cases hA : 1000 < n1
  · refine calls_cps fun R hR => ?_
    go_enter Try.func10, Try.ntmps10
    go_wp2_with fail
    refine (awake05_any _).mono ?_; rintro e w1 ⟨rfl, e1⟩
    go_wp2
    try exact ⟨rfl, e1⟩
  · have hbk := fun w => refBucket_any n1 w (by omega)
    refine calls_cps fun R hR => ?_
    go_enter Try.func10, Try.ntmps10
    go_wp2_with fail
    refine (awake05_any _).mono ?_; rintro e w1 ⟨rfl, e1⟩
    go_wp2_with fail
    refine (padPut_any _ _ _ _ _ (h1.ext e1) (by omega)).mono ?_; rintro e w2 ⟨K, ax, cx, hK, rfl, ox, e2⟩
    rw [← hK] at hbk
    have f2 := e1.trans e2
    have hK1 : K ≤ 65536 := by have := (bucket_in (n := n1) (by omega) (by omega)).2.1; omega
    have hU := unp_pad (l := l) (K := K) (by have := HL.out; omega) (by rw [HL.out]; exact hK)
    have hT := tell_pad (l := l) (K := K) (by have := HL.out; omega)
    rw [HL.out] at hT
    have hM := mid_pad (l := l) (K := K)
    rw [HL.out] at hM
    obtain ⟨_, _, q1, rx⟩ := owns_row ox
    cases q1
    clear ox hK
    go_wp2_with fail
    refine (padOf_any _ _ _ _ _ rx (by omega)).mono ?_; rintro e w3 ⟨e3, post3⟩
    have f3 := f2.trans e3
    rcases post3 with ⟨_, ap, cp, rfl, rp⟩ | ⟨hU', _⟩
    · rw [hT] at rp ⊢
      rw [hM] at rp
      have s1 := run_string_row (P := Try.prog) w3 31 9 5 Try.underlying31 Try.underlying5 Try.underlying9 rp
      have s2 := run_string_row (P := Try.prog) w3 31 9 5 Try.underlying31 Try.underlying5 Try.underlying9 (h1.ext f3)
      generalize (⟨l.toArray⟩ : ByteArray) = tx at *
      clear rp rx hU hT hM
      go_wp2_with fail
      refine (hbk _).mono ?_; rintro e w4 ⟨rfl, e4⟩
      go_wp2
      exact ⟨rfl, f3.trans e4⟩
    · exact absurd hU hU'
end Go.Proofs.Ytafeecdpkceigaa
