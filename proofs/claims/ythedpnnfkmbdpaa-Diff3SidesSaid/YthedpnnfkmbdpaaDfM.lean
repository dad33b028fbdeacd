/-
  The law Diff3Sides.
-/
import Derived.Test.YthedpnnfkmbdpaaDfL
import Derived.Test.YthedpnnfkmbdpaaDfK
namespace Go.Proofs.Ythedpnnfkmbdpaa
open Go.RowKit Go.Shelf

attribute [local go_sem] Oper.semAt_some

set_option maxHeartbeats 2000000 in
theorem diff3Sides_any (aX : Option Addr) (nX cX : Nat) (x : List ByteArray) (aA : Option Addr) (nA cA : Nat) (a : List ByteArray) (aB : Option Addr) (nB cB : Nat) (b : List ByteArray) (w : World) (hX : Row 1 w aX nX cX (x.map Value.string)) (hA : Row 1 w aA nA cA (a.map Value.string)) (hB : Row 1 w aB nB cB (b.map Value.string)) :
    Calls Try.prog 8 #[.slice aX nX cX, .slice aA nA cA, .slice aB nB cB] w fun e w' => e = .returned (.bool true) ∧ Ext w w' := by
  have hlx : x.length = nX := by have := hX.2.2.1; simpa using this
  have hla : a.length = nA := by have := hA.2.2.1; simpa using this
  have hlb : b.length = nB := by have := hB.2.2.1; simpa using this
  have HLX := Lib.hid hlx
  have HLA := Lib.hid hla
  have HLB := Lib.hid hlb
  clear hlx hla hlb
  refine calls_cps fun R hR => ?_
  go_enter Try.func8, Try.ntmps8
  go_wp2_with fail
  refine (awake26_any _).mono ?_; rintro e w1 ⟨rfl, e1⟩
  go_wp2_with fail
  refine (few26_any _ _ _ _ x (hX.ext e1)).mono ?_; rintro e _ ⟨qx, rfl, hqx, rfl⟩
  cases qx with
  | false =>
    go_wp2
    exact ⟨rfl, e1⟩
  | true =>
  have h1 : nX ≤ 24 := (hqx rfl).1
  clear hqx
  go_wp2_with fail
  refine (few26_any _ _ _ _ a (hA.ext e1)).mono ?_; rintro e _ ⟨qx, rfl, hqx, rfl⟩
  cases qx with
  | false =>
    go_wp2
    exact ⟨rfl, e1⟩
  | true =>
  have h2 : nA ≤ 24 := (hqx rfl).1
  clear hqx
  go_wp2_with fail
  refine (few26_any _ _ _ _ b (hB.ext e1)).mono ?_; rintro e _ ⟨qx, rfl, hqx, rfl⟩
  cases qx with
  | false =>
    go_wp2
    exact ⟨rfl, e1⟩
  | true =>
  have h3 : nB ≤ 24 := (hqx rfl).1
  clear hqx
  go_wp2_with fail
  refine (merge_any aX aA aB nX cX nA cA nB cB x a b _ (hX.ext e1) (hA.ext e1) (hB.ext e1) (by omega) (by omega) (by omega)).mono ?_
  rintro e w2 ⟨v, hv, rfl, hH, e2⟩
  obtain ⟨av, cv, rfl, _⟩ := hH.row
  obtain ⟨s1, s2, s3⟩ := merge_sides x a b
  have E2 := e1.trans e2
  have hs := sides_any av _ cv hv _ w2 hH rfl (by rw [s1, HLX.out]; omega) (by rw [s2, HLA.out]; omega) (by rw [s3, HLB.out]; omega)
  rw [s1, s2, s3] at hs
  obtain ⟨N, hN⟩ : ∃ N, (mergeL x a b).length = N := ⟨_, rfl⟩
  rw [hN] at hs ⊢
  clear s1 s2 s3 hN hH
  go_wp2_with fail
  refine hs.mono ?_
  rintro e w3 ⟨v1, v2, v3, rfl, hO, e3⟩
  obtain ⟨b1, c1, rfl, r1⟩ := owns_row hO.o1
  obtain ⟨b2, c2, rfl, r2⟩ := owns_row hO.o2
  obtain ⟨b3, c3, rfl, r3⟩ := owns_row hO.o3
  rw [HLX.out] at r1 ⊢
  rw [HLA.out] at r2 ⊢
  rw [HLB.out] at r3 ⊢
  have E3 := E2.trans e3
  clear hs hO
  go_wp2_with fail
  refine (sameNames_same b1 aX nX c1 cX x w3 r1 (hX.ext E3)).mono ?_
  rintro e w4 ⟨rfl, e4⟩
  have E4 := E3.trans e4
  replace r2 := r2.ext e4
  replace r3 := r3.ext e4
  go_wp2_with fail
  refine (sameNames_same b2 aA nA c2 cA a w4 r2 (hA.ext E4)).mono ?_
  rintro e w5 ⟨rfl, e5⟩
  have E5 := E4.trans e5
  replace r3 := r3.ext e5
  go_wp2_with fail
  refine (sameNames_same b3 aB nB c3 cB b w5 r3 (hB.ext E5)).mono ?_
  rintro e w6 ⟨rfl, e6⟩
  have E6 := E5.trans e6
  clear r1 r2 r3 hX hA hB
  go_wp2
  exact ⟨rfl, E6⟩
end Go.Proofs.Ythedpnnfkmbdpaa
