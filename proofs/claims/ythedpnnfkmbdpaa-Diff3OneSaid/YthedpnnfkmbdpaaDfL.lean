/-
  tabulariumlaw26.few, tabulariumlaw26.awake.
-/
import Derived.Test.YthedpnnfkmbdpaaDfJ
import Derived.Test.YthedpnnfkmbdpaaLinE
namespace Go.Proofs.Ythedpnnfkmbdpaa
open Go.RowKit Go.Shelf

attribute [local go_sem] Oper.semAt_some

set_option maxHeartbeats 2000000 in
theorem few26_any (w : World) (aA : Option Addr) (n c : Nat) (a : List ByteArray) (hA : Row 1 w aA n c (a.map Value.string)) :
    Calls Try.prog 23 #[.slice aA n c] w fun e w' => ∃ q, e = .returned (.bool q) ∧ (q = true → n ≤ 24 ∧ ∀ x ∈ a, x.size ≤ 100) ∧ w = w' := by
  have hl : a.length = n := by have := hA.2.2.1; simpa using this
  have hnc := hA.1
  have hcm := hA.2.1
  unfold maxLen at hcm
  have HL := Lib.hid hl
  clear hl
  refine calls_cps fun R hR => ?_
  go_enter Try.func23, Try.ntmps23
  go_wp2
  go_loopw [7] (fun i wr => ∃ k : Nat, k ≤ n ∧ i = .int .i64 k ∧ wr = w ∧ Hid (∀ x ∈ a.take k, x.size ≤ 100)) (fun i _ => n - (intOf i).toNat)
  case atStart => exact ⟨0, by omega, rfl, rfl, Lib.hid (by simp)⟩
  case round =>
    obtain ⟨k, hk, rfl, rfl, HX⟩ := hrel
    by_cases hlt : k < n
    · obtain ⟨ba, oa, rfl, hca⟩ := hA.2.2.2.2 (by omega)
      have hka : k < a.length := by have := HL.out; omega
      have c1 := hca k (.string a[k]) (by simp [hka])
      have HN : ∀ s, a[k] = s → s.size ≤ 100 → Hid (∀ x ∈ a.take (k + 1), x.size ≤ 100) := fun s hs h => Lib.hid (by
        rw [List.take_add_one, List.getElem?_eq_getElem hka, hs]
        intro x hx
        rcases List.mem_append.1 hx with hx | hx
        · exact HX.out x hx
        · simp at hx; subst hx; exact h)
      obtain ⟨s, hs⟩ : ∃ s, a[k] = s := ⟨_, rfl⟩
      have HN' := HN s hs
      rw [hs] at c1
      clear hs hca hka HN HX
      by_cases h100 : 100 < s.size
      · go_wp2
      · have HX := HN' (by omega)
        clear HN'
        go_wp2
        go_roundw
        case rel => exact ⟨k + 1, by omega, by go_num, by trivial, HX⟩
        case measure => simp [intOf]; omega
    · have hall : ∀ x ∈ a, x.size ≤ 100 := by
        have := HX.out
        rwa [List.take_of_length_le (by have := HL.out; omega)] at this
      have HA := Lib.hid hall
      clear hall HX
      by_cases h24 : n ≤ 24
      · go_wp2
        exact fun _ => HA.out
      · go_wp2
        first | omega | (intro h; omega) | (refine ⟨fun h => ?_, fun h => ?_⟩ <;> omega) | trace_state


def lit3 (a b c : UInt8) : List ByteArray := [⟨#[a]⟩, ⟨#[b]⟩, ⟨#[c]⟩]
theorem awake_merge : mergeL (lit3 120 109 122) (lit3 88 109 122) (lit3 120 109 90) = [⟨2, [⟨#[120]⟩], [⟨#[88]⟩], [⟨#[120]⟩]⟩, ⟨1, [⟨#[109]⟩], [⟨#[109]⟩], [⟨#[109]⟩]⟩, ⟨3, [⟨#[122]⟩], [⟨#[122]⟩], [⟨#[90]⟩]⟩] := by
  kernel_rfl

theorem awake26_any (w : World) : Calls Try.prog 22 #[] w fun e w' => e = .returned (.bool true) ∧ Ext w w' := by
  have r1 := (lit_row (base := 0) w 9 #[.string ⟨#[120]⟩, .string ⟨#[109]⟩, .string ⟨#[122]⟩] 3 (by simp [maxLen]) rfl (Nat.zero_le _)).2
  have r2 := (lit_row (base := 0) (w.alloc (.cells #[.string ⟨#[120]⟩, .string ⟨#[109]⟩, .string ⟨#[122]⟩] 9)) 9 #[.string ⟨#[88]⟩, .string ⟨#[109]⟩, .string ⟨#[122]⟩] 3 (by simp [maxLen]) rfl (Nat.zero_le _)).2
  have r3 := (lit_row (base := 0) ((w.alloc (.cells #[.string ⟨#[120]⟩, .string ⟨#[109]⟩, .string ⟨#[122]⟩] 9)).alloc (.cells #[.string ⟨#[88]⟩, .string ⟨#[109]⟩, .string ⟨#[122]⟩] 9)) 9 #[.string ⟨#[120]⟩, .string ⟨#[109]⟩, .string ⟨#[90]⟩] 3 (by simp [maxLen]) rfl (Nat.zero_le _)).2
  rw [World.size_alloc] at r2
  rw [World.size_alloc, World.size_alloc] at r3
  have ea : ∀ (A : World) (o : Obj), Ext A (A.alloc o) := fun A o => (Keep.refl _ A).alloc o
  have hm := merge_any _ _ _ _ _ _ _ _ _ (lit3 120 109 122) (lit3 88 109 122) (lit3 120 109 90) _ (r1.ext ((ea _ _).trans (ea _ _))) (r2.ext (ea _ _)) r3 (by omega) (by omega) (by omega)
  rw [awake_merge] at hm
  have hE0 := ((ea w (.cells #[.string ⟨#[120]⟩, .string ⟨#[109]⟩, .string ⟨#[122]⟩] 9)).trans (ea _ (.cells #[.string ⟨#[88]⟩, .string ⟨#[109]⟩, .string ⟨#[122]⟩] 9))).trans (ea _ (.cells #[.string ⟨#[120]⟩, .string ⟨#[109]⟩, .string ⟨#[90]⟩] 9))
  clear r1 r2 r3 ea
  refine calls_cps fun R hR => ?_
  go_enter Try.func22, Try.ntmps22
  go_wp2_with fail
  refine hm.mono ?_; rintro e w1 ⟨v, hv, rfl, hH, hE⟩
  obtain ⟨a, c, rfl, hr⟩ := hH.row
  simp only [List.length_cons, List.length_nil, Nat.zero_add, Nat.reduceAdd] at hr hH ⊢
  obtain ⟨b, o, _, _, _, _, _, _, _, _, _, rfl, d0, _⟩ := hH.at hr (i := 0) rfl (by omega)
  obtain ⟨b', o', _, _, _, _, _, _, _, _, _, he, d2, _⟩ := hH.at hr (i := 2) rfl (by omega)
  cases he
  have E1 := hE0.trans hE
  have ht := text_any _ _ _ _ _ w1 hH rfl (by decide) (by decide)
  rw [show textL [(⟨2, [⟨#[120]⟩], [⟨#[88]⟩], [⟨#[120]⟩]⟩ : Hunk ByteArray), ⟨1, [⟨#[109]⟩], [⟨#[109]⟩], [⟨#[109]⟩]⟩, ⟨3, [⟨#[122]⟩], [⟨#[122]⟩], [⟨#[90]⟩]⟩] = [88, 109, 90] by decide] at ht
  clear hm hE0 hE hr
  go_wp2_with fail
  refine ht.mono ?_; rintro e w2 ⟨rfl, E2⟩
  replace d0 := Ext.cell E2 d0
  replace d2 := Ext.cell E2 d2
  simp at d0 d2
  have hfin := E1.trans E2
  clear ht hH E1 E2
  go_wp2
  exact ⟨rfl, hfin⟩
end Go.Proofs.Ythedpnnfkmbdpaa
