/-
  Chapter 1's example; the law VecRols.
-/
import Derived.Test.YtafeecdpkceigaaVecA
import Derived.Test.YtafeecdpkceigaaVecC
namespace Go.Proofs.Ytafeecdpkceigaa
open Go.RowKit Go.Shelf

theorem lit_row {base : Nat} (w : World) (e : TypeId) (cs : Array Value) (n : Nat) (hm : n ≤ maxLen) (hs : cs.size = n) (hb : base ≤ w.heap.size) :
    (w.alloc (.cells cs e)).ownsRow base e 1 (.slice (some ⟨w.heap.size, 0, none⟩) n n) n cs.toList ∧ Row 1 (w.alloc (.cells cs e)) (some ⟨w.heap.size, 0, none⟩) n n cs.toList := by
  have h := World.ownsRow_lit (base := base) (e := e) (size := 1) w cs n hb hm (by simpa using hs)
  obtain ⟨_, _, h1, h2⟩ := owns_row h
  cases h1
  exact ⟨h, h2⟩

theorem awake01_any (w : World) : Calls Try.prog 15 #[] w fun e w' => e = .returned (.bool true) ∧ Ext w w' := by
  have hw5 : wordsOf [1, 2, 3, 4, 5] = [67305985] := by decide
  have hr3 : rol32 2147483649 (1 % 32) = 3 := by decide
  have hc := words_any (some ⟨w.heap.size, 0, none⟩) 5 5 [1, 2, 3, 4, 5] _ (lit_row (base := 0) w 5 #[.int .u8 1, .int .u8 2, .int .u8 3, .int .u8 4, .int .u8 5] 5 (by simp [maxLen]) rfl (by omega)).2 (by omega)
  rw [hw5] at hc
  have h2 : ∀ w, Calls Try.prog 16 #[.int .u32 2147483649, .int .i64 1] w fun e w' => e = .returned (.int .u32 3) ∧ w = w' := fun w => by
    have := rol_any 2147483649 1 w (by omega) (by omega) (by omega)
    rwa [hr3] at this
  clear hr3 hw5
  refine calls_cps fun R hR => ?_
  go_enter Try.func15, Try.ntmps15
  go_wp2_with fail
  refine hc.mono ?_; rintro e w1 ⟨a', c', rfl, hown, hE⟩
  obtain ⟨_, _, h1, hrow⟩ := owns_row hown
  cases h1
  obtain ⟨b, off, rfl, hcell⟩ := hrow.2.2.2.2 (by simp)
  have c0 := hcell 0 _ rfl
  simp only [Nat.add_zero] at c0
  simp only [u32v] at c0
  clear hc hcell hrow
  go_wp2_with fail
  refine (h2 _).mono ?_; rintro e w2 ⟨rfl, rfl⟩
  go_wp2
  exact ⟨rfl, ((Keep.refl _ w).alloc _).trans hE⟩

theorem vecRols_any (x n : Int) (w : World) (hx : 0 ≤ x ∧ x ≤ 4294967295) (hn : -9223372036854775808 ≤ n ∧ n ≤ 9223372036854775807) :
    Calls Try.prog 4 #[.int .u32 x, .int .i64 n] w fun e w' => e = .returned (.bool true) ∧ Ext w w' := by
  have hb := and31_i64 hn.1 hn.2
  have c1 := fun w => rol_any x n w hx hn.1 hn.2
  have c2 := fun w => refRol_any x n w hx hn.1 hn.2
  obtain ⟨k, hk⟩ : ∃ k, n % 32 = k := ⟨_, rfl⟩
  rw [hk] at hb
  simp only [hk] at c1 c2
  have hk0 : 0 ≤ k := by omega
  have hk1 : k ≤ 31 := by omega
  have hkk : k % 32 = k := by omega
  have c3 := fun w => rol_any x k w hx (by omega) (by omega)
  simp only [hkk] at c3
  have hrb := rol32_bounds x k
  have c4 := fun w => rol_any (rol32 x k) (-k) w hrb (by omega) (by omega)
  simp only [rol32_back hx.1 hx.2 hk0 hk1] at c4
  clear hk hkk
  refine calls_cps fun R hR => ?_
  go_enter Try.func4, Try.ntmps4
  go_wp2_with fail
  refine (awake01_any _).mono ?_; rintro e w1 ⟨rfl, h1⟩
  go_wp2_with fail
  refine (c1 _).mono ?_; rintro e w2 ⟨rfl, rfl⟩
  go_wp2_with fail
  refine (c2 _).mono ?_; rintro e w2 ⟨rfl, rfl⟩
  go_wp2_with fail
  refine (c3 _).mono ?_; rintro e w2 ⟨rfl, rfl⟩
  go_wp2_with fail
  refine (c4 _).mono ?_; rintro e w2 ⟨rfl, rfl⟩
  go_wp2
  exact ⟨rfl, h1⟩
end Go.Proofs.Ytafeecdpkceigaa
