/-
  The law LinesSame.
-/
import Derived.Test.YthedpnnfkmbdpaaLinH
namespace Go.Proofs.Ythedpnnfkmbdpaa
open Go.RowKit Go.Shelf

theorem isA_nil (i : Int) : isA [] i = false := rfl
theorem goneL_nil (n : Nat) : goneL [] n = List.range n := by
  unfold goneL
  rw [List.filter_eq_self]
  intro i _
  rw [isA_nil]; rfl

set_option maxRecDepth 20000 in
set_option maxHeartbeats 4000000 in
theorem linesSame_any (aA : Option Addr) (nA cA : Nat) (a : List ByteArray) (w : World) (hA : Row 1 w aA nA cA (a.map Value.string)) :
    Calls Try.prog 5 #[.slice aA nA cA] w fun e w' => e = .returned (.bool true) ∧ Ext w w' := by
  have hla : a.length = nA := by have := hA.2.2.1; simpa using this
  have hcA := hA.1
  have hmA := hA.2.1
  unfold maxLen at hmA
  have hself := commonL_self a 0
  rw [hla] at hself
  obtain ⟨L, hL⟩ : ∃ L, commonL a 0 a 0 = L := ⟨_, rfl⟩
  rw [hL] at hself
  have hget : ∀ k, k < nA → L[k]? = some (k, k) := fun k hk => by rw [hself]; simp [hk]
  have hlen : L.length = nA := by rw [hself]; simp
  have hnil := commonL_nil a 0 0
  refine calls_cps fun R hR => ?_
  go_enter Try.func5, Try.ntmps5
  go_wp2_with fail
  refine (awake25_any _).mono ?_; rintro e w1 ⟨rfl, e1⟩
  go_wp2_with fail
  refine (few25_any _ _ _ _ _ (hA.ext e1)).mono ?_; rintro e _ ⟨qa, rfl, hqa, rfl⟩
  cases qa with
  | false =>
    go_wp2
    exact ⟨rfl, e1⟩
  | true =>
    have hA24 : nA ≤ 24 := hqa rfl
    clear hqa
    have hcom := common_any w1 aA aA nA cA nA cA a a (hA.ext e1) (hA.ext e1) (by omega) (by omega)
    rw [hL, hlen] at hcom
    clear hL hlen hself hla
    go_wp2_with fail
    refine hcom.mono ?_; rintro e w2 ⟨a2, c2, rfl, o2, e2⟩
    clear hcom
    obtain ⟨_, _, q2, r2⟩ := owns_row o2
    cases q2
    have hcm := r2.1
    have hcc := r2.2.1
    unfold maxLen at hcc
    clear o2
    go_wp2
    go_loopw [18] (fun i wr => ∃ k : Nat, k ≤ nA ∧ i = .int .i64 k ∧ Ext w2 wr) (fun i _ => nA - (intOf i).toNat)
    case atStart => exact ⟨0, by omega, rfl, Keep.refl _ _⟩
    case round =>
      obtain ⟨k, hk, rfl, hE⟩ := hrel
      by_cases hlt : k < nA
      · obtain ⟨g1, g2⟩ := pairsC_get (hget k hlt)
        obtain ⟨bl, ol, rfl, hcl⟩ := r2.2.2.2.2 (by omega)
        have d1 := hE.cell (hcl _ _ g1)
        have d2 := hE.cell (hcl _ _ g2)
        rw [← Nat.add_assoc] at d2
        simp only at d1 d2
        clear g1 g2 hcl r2
        have E2 : Ext wr (wr.alloc (.cells #[.int .i64 (k : Int), .int .i64 (k : Int)] 27)) := (Keep.refl _ wr).alloc _
        go_wp2
        have hEn := hE.trans E2
        go_roundw
        case rel => exact ⟨k + 1, by omega, by go_num, hEn⟩
        case measure => simp [intOf]; omega
      · obtain rfl : k = nA := by omega
        have hs := script_any wr aA none k cA 0 0 a [] (((hA.ext e1).ext e2).ext hE) (Row.nil 1 wr) (by omega) (by omega)
        rw [hnil, goneL_nil, List.length_range] at hs
        rw [show (comeL [] 0).length = 0 from rfl] at hs
        clear hnil r2
        go_wp2_with fail
        refine hs.mono ?_; rintro e w3 ⟨b1, d1, b2, d2, rfl, _, _, e3⟩
        clear hs
        go_wp2
        exact ⟨rfl, ((e1.trans e2).trans hE).trans e3⟩
end Go.Proofs.Ythedpnnfkmbdpaa
