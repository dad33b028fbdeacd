/-
  vec.Equal: whether bytes are alike.
-/
import Derived.Test.YtdopaoajbjodeaaLit
import Derived.Test.YtdopaoajbjodeaaFlow
import Derived.Test.YtdopaoajbjodeaaBytes
import Derived.Test.YtdopaoajbjodeaaRows
import Derived.Laws.BitsAllLaws
namespace Go.Proofs.Ytdopaoajbjodeaa
open Go.RowKit Go.Shelf

theorem xor_u8 (x y : UInt8) : bits .xor .u8 (x.toNat : Int) (y.toNat : Int) = ((x ^^^ y).toNat : Int) := by
  rw [u8_xor_nat _ _ x.toNat_lt y.toNat_lt, UInt8.toNat_xor]
theorem or_u8 (x y : UInt8) : bits .or .u8 (x.toNat : Int) (y.toNat : Int) = ((x ||| y).toNat : Int) := by
  rw [u8_or_nat _ _ x.toNat_lt y.toNat_lt, UInt8.toNat_or]

set_option maxRecDepth 20000 in
set_option maxHeartbeats 1000000 in
theorem equal_any (a b : Option Addr) (n1 n2 c1 c2 : Nat) (l r : List UInt8) (w : World) (h1 : Row 1 w a n1 c1 (l.map u8v)) (h2 : Row 1 w b n2 c2 (r.map u8v)) :
    Calls Try.prog 44 #[.slice a n1 c1, .slice b n2 c2] w fun e w' => e = .returned (.bool (decide (l = r))) ∧ w = w' := by
  have hl1 : l.length = n1 := by have := h1.2.2.1; simpa using this
  have hl2 : r.length = n2 := by have := h2.2.2.1; simpa using this
  have HL1 := Lib.hid hl1
  have HL2 := Lib.hid hl2
  have hc1 := h1.1
  have hm1 := h1.2.1
  have hc2 := h2.1
  have hm2 := h2.2.1
  unfold maxLen at hm1 hm2
  by_cases hne : n1 = n2
  · subst hne
    clear hl1 hl2
    have hb : ((n1 : Int) != (n1 : Int)) = false := by simp
    refine calls_cps fun R hR => ?_
    go_enter Try.func44, Try.ntmps44
    go_wp2
    go_loopw [5, 15] (fun d i wr => ∃ (k : Nat) (D : UInt8), k ≤ n1 ∧ i = .int .i64 k ∧ d = .int .u8 (D.toNat : Int) ∧ Hid (D = 0 ↔ ∀ j, j < k → l[j]? = r[j]?) ∧ wr = w) (fun _ i _ => n1 - (intOf i).toNat)
    case atStart => exact ⟨0, 0, by omega, rfl, rfl, Lib.hid (by simp), rfl⟩
    case round =>
      obtain ⟨k, D, hk, rfl, rfl, HJ, rfl⟩ := hrel
      by_cases hlt : k < n1
      · obtain ⟨ba, oa, rfl, hca⟩ := h1.2.2.2.2 (by omega)
        obtain ⟨bb, ob, rfl, hcb⟩ := h2.2.2.2.2 (by omega)
        have k1 : k < l.length := by have := HL1.out; omega
        have k2 : k < r.length := by have := HL2.out; omega
        have c1 := hca k (u8v l[k]) (by simp [k1])
        have c2 := hcb k (u8v r[k]) (by simp [k2])
        have hx8 := xor_u8 l[k] r[k]
        have hg1 := List.getElem?_eq_getElem k1
        have hg2 := List.getElem?_eq_getElem k2
        obtain ⟨x, hx⟩ : ∃ x, l[k] = x := ⟨_, rfl⟩
        obtain ⟨y, hy⟩ : ∃ y, r[k] = y := ⟨_, rfl⟩
        simp only [hx] at c1 hx8 hg1
        simp only [hy] at c2 hx8 hg2
        have ho8 := or_u8 D (x ^^^ y)
        obtain ⟨z, hz⟩ : ∃ z, x ^^^ y = z := ⟨_, rfl⟩
        rw [hz] at hx8 ho8
        obtain ⟨d', hd'⟩ : ∃ d', D ||| z = d' := ⟨_, rfl⟩
        rw [hd'] at ho8
        have HZ : Hid (d' = 0 ↔ ∀ j, j < k + 1 → l[j]? = r[j]?) := by
          show _ ↔ _
          have hiff : d' = 0 ↔ (D = 0 ∧ x = y) := by
            rw [← hd', ← hz]
            rw [UInt8.or_eq_zero_iff, UInt8.xor_eq_zero_iff]
          rw [hiff, HJ.out]
          constructor
          · rintro ⟨h1, rfl⟩ j hj
            by_cases h : j = k
            · subst h; rw [hg1, hg2]
            · exact h1 j (by omega)
          · intro h
            refine ⟨fun j hj => h j (by omega), ?_⟩
            have := h k (by omega)
            rw [hg1, hg2] at this
            simpa using this
        simp only [u8v] at c1 c2
        clear hg1 hg2 hca hcb
        go_wp2
        go_roundw
        case rel => exact ⟨k + 1, d', by omega, by go_num, rfl, HZ, by trivial⟩
        case measure => simp [intOf]; omega
      · obtain rfl : k = n1 := by omega
        have hall : (∀ j, j < k → l[j]? = r[j]?) ↔ l = r := by
          constructor
          · intro h
            refine List.ext_getElem? fun j => ?_
            by_cases hj : j < k
            · exact h j hj
            · rw [List.getElem?_eq_none (by have := HL1.out; omega), List.getElem?_eq_none (by have := HL2.out; omega)]
          · rintro rfl j _; rfl
        have hJ := HJ.out
        rw [hall] at hJ
        have hfin : decide (((D.toNat : Nat) : Int) = 0) = decide (l = r) := by
          refine decide_eq_decide.2 (Iff.trans ?_ hJ)
          rw [← UInt8.toNat_inj]
          simp
        have hfin2 : (((D.toNat : Nat) : Int) == 0) = decide (l = r) := hfin
        rw [← hfin2] at hR
        clear hall hJ hfin
        generalize hD : ((D.toNat : Nat) : Int) = DI at *
        go_wp2
  · have hf : decide (l = r) = false := by simp only [decide_eq_false_iff_not]; rintro rfl; exact hne (by omega)
    rw [hf]
    clear hf hl1 hl2
    have hb : ((n1 : Int) != (n2 : Int)) = true := by simp; omega
    refine calls_cps fun R hR => ?_
    go_enter Try.func44, Try.ntmps44
    go_wp2
end Go.Proofs.Ytdopaoajbjodeaa
