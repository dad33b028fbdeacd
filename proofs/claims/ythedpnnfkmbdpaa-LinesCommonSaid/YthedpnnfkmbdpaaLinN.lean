/-
  The law LinesSplits.
-/
import Derived.Test.YthedpnnfkmbdpaaLinM
import Derived.Test.YthedpnnfkmbdpaaLinK
import Derived.Test.YthedpnnfkmbdpaaLinI
import Derived.Test.YthedpnnfkmbdpaaFlowY
namespace Go.Proofs.Ythedpnnfkmbdpaa
open Go.RowKit Go.Shelf

attribute [local go_sem] Oper.semAt_some

set_option maxHeartbeats 2000000 in
theorem few25s_any (w : World) (aA : Option Addr) (n c : Nat) (a : List ByteArray) (hA : Row 1 w aA n c (a.map Value.string)) :
    Calls Try.prog 11 #[.slice aA n c] w fun e w' => ∃ q, e = .returned (.bool q) ∧ (q = true → n ≤ 24 ∧ ∀ x ∈ a, x.size ≤ 100) ∧ w = w' := by
  have hl : a.length = n := by have := hA.2.2.1; simpa using this
  have hnc := hA.1
  have hcm := hA.2.1
  unfold maxLen at hcm
  have HL := Lib.hid hl
  clear hl
  refine calls_cps fun R hR => ?_
  go_enter Try.func11, Try.ntmps11
  go_wp2
  go_loopw [7] (fun i wr => ∃ k : Nat, k ≤ n ∧ i = .int .i64 k ∧ wr = w ∧ Hid (∀ x ∈ a.take k, x.size ≤ 100)) (fun i _ => n - (intOf i).toNat)
  case atStart => exact ⟨0, by omega, rfl, rfl, Lib.hid (by simp)⟩
  case round =>
    obtain ⟨k, hk, rfl, rfl, HX⟩ := hrel
    by_cases hlt : k < n
    · obtain ⟨ba, oa, rfl, hca⟩ := hA.2.2.2.2 (by omega)
      have hka : k < a.length := by have := HL.out; omega
      have c1 := hca k (.string a[k]) (by simp [hka])
      have HN : ∀ s, a[k] = s → s.size ≤ 100 → Hid (∀ x ∈ a.take (k + 1), x.size ≤ 100) := fun s hs h => Lib.hid (by
        rw [List.take_add_one, List.getElem?_eq_getElem hka, hs]
        intro x hx
        rcases List.mem_append.1 hx with hx | hx
        · exact HX.out x hx
        · simp at hx; subst hx; exact h)
      obtain ⟨s, hs⟩ : ∃ s, a[k] = s := ⟨_, rfl⟩
      have HN' := HN s hs
      rw [hs] at c1
      clear hs hca hka HN HX
      by_cases h100 : 100 < s.size
      · go_wp2
      · have HX := HN' (by omega)
        clear HN'
        go_wp2
        go_roundw
        case rel => exact ⟨k + 1, by omega, by go_num, by trivial, HX⟩
        case measure => simp [intOf]; omega
    · have hall : ∀ x ∈ a, x.size ≤ 100 := by
        have := HX.out
        rwa [List.take_of_length_le (by have := HL.out; omega)] at this
      have HA := Lib.hid hall
      clear hall HX
      by_cases h24 : n ≤ 24
      · go_wp2
        exact fun _ => HA.out
      · go_wp2
        first | omega | (intro h; omega) | (refine ⟨fun h => ?_, fun h => ?_⟩ <;> omega) | trace_state

theorem catL_le : ∀ (l : List ByteArray), (∀ x ∈ l, x.size ≤ 100) → (catL l).length ≤ 100 * l.length
  | [], _ => by simp [catL]
  | x :: l, h => by
    have h1 := catL_le l (fun y hy => h y (List.mem_cons_of_mem _ hy))
    have h2 := h x (List.mem_cons_self ..)
    have h3 : x.data.toList.length = x.size := rfl
    have : catL (x :: l) = x.data.toList ++ catL l := by simp [catL]
    rw [this, List.length_append, List.length_cons]
    omega
def Ts (xs : List ByteArray) (v : Value) (w : World) : Prop := ∃ a c, v = .slice a xs.length c ∧ Row 1 w a xs.length c (xs.map Value.string)
def SliceN (n : Nat) (v : Value) : Prop := ∃ a c, v = .slice a n c
theorem Ts.mono {xs : List ByteArray} {v : Value} {w w' : World} (h : Ts xs v w) (hE : Ext w w') : Ts xs v w' := by
  obtain ⟨a, c, h1, h2⟩ := h
  exact ⟨a, c, h1, h2.ext hE⟩
theorem Ts.sh {xs : List ByteArray} {v : Value} {w : World} (h : Ts xs v w) : SliceN xs.length v := by obtain ⟨a, c, h1, _⟩ := h; exact ⟨a, c, h1⟩
theorem Ts.of_own {xs : List ByteArray} {w : World} {base n : Nat} {v : Value} (h : w.ownsRow base 9 1 v n (xs.map Value.string)) (hn : xs.length = n) : Ts xs v w := by
  subst hn
  obtain ⟨a, c, h1, h2⟩ := owns_row h
  exact ⟨a, c, h1, h2⟩
end Go.Proofs.Ythedpnnfkmbdpaa
