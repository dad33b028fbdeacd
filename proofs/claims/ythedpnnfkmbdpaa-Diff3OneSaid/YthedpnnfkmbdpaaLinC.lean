/-
  lines.table: where a longest list may begin.
-/
import Derived.Test.YthedpnnfkmbdpaaLinB
namespace Go.Proofs.Ythedpnnfkmbdpaa
open Go.RowKit Go.Shelf

/-- The value u. -/
def Is (u v : Value) (_ : World) : Prop := v = u
def IsSh (u v : Value) : Prop := v = u

def beginsV (a b : List ByteArray) (i j : Nat) (x : ByteArray) : Option Nat := beginsL (lcs (a.drop (i + 1))) x (lcsAt a b i j) (b.drop j)
def placeI (j : Nat) : Option Nat → Int
  | none => -1
  | some k => ((j + k : Nat) : Int)

def beginsTab (n : Nat) (u v : Value) : Kind := if n = 21 then .grows (Is u) (IsSh u) else if n = 26 then .grows (Is v) (IsSh v) else .reads

set_option maxHeartbeats 2000000 in
theorem begins_any (w : World) (base B g : Nat) (aA aB : Option Addr) (nA cA nB cB N : Nat) (a b : List ByteArray) (hT : Tab w base B g aA aB nA cA nB cB N (tabL a b nB))
    (hA : Row 1 w aA nA cA (a.map Value.string)) (hB : Row 1 w aB nB cB (b.map Value.string)) (h1 : nA ≤ 400) (h2 : nB ≤ 400) (hN : (nA + 1) * (nB + 1) = N) (i j0 : Nat) (hi : i < nA) (hj : j0 ≤ nB) (x : ByteArray) (hx : a[i]? = some x) :
    Calls Try.prog 29 #[.pointer (some ⟨B, 0, none⟩), .int .i64 i, .int .i64 j0] w fun e w' => e = .returned (.int .i64 (placeI j0 (beginsV a b i j0 x))) ∧ Ext w w' := by
  have hlA : a.length = nA := by have := hA.2.2.1; simpa using this
  have hlB : b.length = nB := by have := hB.2.2.1; simpa using this
  have bW := lcsAt_le a b i j0
  obtain ⟨W, hW⟩ : ∃ W, lcsAt a b i j0 = W := ⟨_, rfl⟩
  have HW := fun w' (h : Tab w' base B g aA aB nA cA nB cB N (tabL a b nB)) => at_int w' _ _ _ _ _ _ _ _ _ _ _ h i j0 W i j0 rfl rfl (by omega) hj hN h1 h2 (by rw [tabL_at a b i hj, hW])
  obtain ⟨ba, oa, hae, hca⟩ := hA.2.2.2.2 (by omega)
  subst hae
  have hcA := hca i (.string x) (by rw [List.getElem?_map, hx]; rfl)
  clear hca
  obtain ⟨r, hr⟩ : ∃ r, placeI j0 (beginsV a b i j0 x) = r := ⟨_, rfl⟩
  rw [hr]
  have HLA := Lib.hid hlA
  have HLB := Lib.hid hlB
  have HN := Lib.hid hN
  have HR := Lib.hid hr
  have HWW := Lib.hid hW
  clear hlA hlB hN hr hx
  rw [hW] at bW
  clear hW
  refine calls_cps fun R hR => ?_
  go_enter Try.func29, Try.ntmps29
  go_wp2
  go_loopw [7] (fun y wr => ∃ k : Nat, j0 + k ≤ nB ∧ y = .int .i64 ((j0 + k : Nat) : Int) ∧ Hid (∀ m, ∀ hm : j0 + m < b.length, m < k → ¬ (x = b[j0 + m] ∧ lcsAt a b (i + 1) (j0 + m + 1) + 1 = W)) ∧ Ext w wr) (fun y _ => nB - (intOf y).toNat)
  case atStart => exact ⟨0, by omega, rfl, Lib.hid (fun m _ h => by omega), Keep.refl _ _⟩
  case round =>
    obtain ⟨k, hk, rfl, HJ, hE⟩ := hrel
    have hTr := hT.ext hE
    have c1 := cell_of_block hTr.box 1
    simp at c1
    obtain ⟨j, hj2⟩ : ∃ j, j0 + k = j := ⟨_, rfl⟩
    rw [hj2] at hk ⊢
    by_cases hlt : j < nB
    · have hjb : j < b.length := by have := HLB.out; omega
      obtain ⟨bb, ob, hbe, hcb⟩ := (hB.ext hE).2.2.2.2 (by omega)
      have hcB := hcb j (.string b[j]) (by simp [hjb])
      have HZ := fun w' (h : Tab w' base B g (some ⟨ba, oa, none⟩) aB nA cA nB cB N (tabL a b nB)) => at_int w' _ _ _ _ _ _ _ _ _ _ _ h (i + 1) (j + 1) (lcsAt a b (i + 1) (j + 1)) ((i : Int) + 1) ((j : Int) + 1) (by omega) (by omega) (by omega) (by omega) HN.out h1 h2 (tabL_at a b (i + 1) (by omega))
      have bZ := lcsAt_le a b (i + 1) (j + 1)
      have hla := HLA.out
      rw [hla] at bZ bW
      clear hla
      subst hbe
      have hbq := bytes_beq x b[j]
      have HSB : Hid (b[j]? = some b[j]) := List.getElem?_eq_getElem hjb
      obtain ⟨Z, hZ⟩ : ∃ Z, lcsAt a b (i + 1) (j + 1) = Z := ⟨_, rfl⟩
      obtain ⟨sb, hsb⟩ : ∃ sb, b[j] = sb := ⟨_, rfl⟩
      simp only [hZ] at HZ bZ
      simp only [hsb] at hcB hbq HSB
      have hJn : ¬ (x = sb ∧ Z + 1 = W) → Hid (∀ m, ∀ hm : j0 + m < b.length, m < k + 1 → ¬ (x = b[j0 + m] ∧ lcsAt a b (i + 1) (j0 + m + 1) + 1 = W)) := fun hno m hm hlt => by
        by_cases h : m < k
        · exact HJ.out m hm h
        · obtain rfl : m = k := by omega
          subst hj2
          rw [hsb, hZ]
          exact hno
      have HZZ := Lib.hid hZ
      clear hZ hsb hcb
      go_wp2
      have hD : ∀ g : At wr.drew, Ext wr g.w := fun g => ((Keep.refl _ wr).drew).trans g.ext
      have d0 := fun g => cell_of_block ((hTr.ext (hD g)).box) 0
      have d1 := fun g => cell_of_block ((hTr.ext (hD g)).box) 1
      simp at d0 d1
      have d2 := fun g => (hE.trans (hD g)).cell hcA
      have d3 := fun g => (hD g).cell hcB
      by_cases heq : x = sb
      · rw [decide_eq_true heq] at hbq
        refine wp_flow (fun n => beginsTab n (.int .u16 (Z : Int)) (.int .u16 (W : Int))) (by kernel_rfl) (by kernel_rfl) ?_
        repeat (refine flow_r rfl rfl ?_; go_big_quiet_step (fail); refine wpQuiet_nil ?_)
        refine flow_g rfl rfl (by simp) ⟨_, rfl⟩ (fun _ _ _ h hE => h) (fun _ _ h => h) (fun w2 hE2 _ => ?_) (fun v hv => ?_)
        · have hT2 := hTr.ext ((Keep.refl _ wr).drew.trans hE2)
          clear d0 d1 d2 d3
          go_wp2_with fail
          refine (HZ _ hT2).mono ?_; rintro e w3 ⟨rfl, e3⟩
          go_wp2
          exact rfl
        cases hv
        simp only [Act.put, List.setIfInBounds_toArray, List.set_cons_succ, List.set_cons_zero]
        repeat (refine flow_r rfl rfl ?_; go_big_quiet_step (fail); refine wpQuiet_nil ?_)
        refine flow_g rfl rfl (by simp) ⟨_, rfl⟩ (fun _ _ _ h hE => h) (fun _ _ h => h) (fun w2 hE2 _ => ?_) (fun v hv => ?_)
        · have hT2 := hTr.ext ((Keep.refl _ wr).drew.trans hE2)
          clear d0 d1 d2 d3
          go_wp2_with fail
          refine (HW _ hT2).mono ?_; rintro e w3 ⟨rfl, e3⟩
          go_wp2
          exact rfl
        cases hv
        simp only [Act.put, List.setIfInBounds_toArray, List.set_cons_succ, List.set_cons_zero]
        repeat (refine flow_r rfl rfl ?_; go_big_quiet_step (fail); refine wpQuiet_nil ?_)
        refine flow_end (fun wc hEc _ => ?_)
        have hEn := (hE.trans (Keep.refl _ wr).drew).trans hEc
        clear d0 d1 d2 d3
        by_cases hZW : Z + 1 = W
        · have hzw : ((Z : Int) + 1 == (W : Int)) = true := by simp; omega
          have hrr : r = (j : Int) := by
            rw [← HR.out]
            unfold beginsV
            rw [HWW.out, beginsL_of (k := k) (by simp; omega) ⟨by simp only [List.getElem_drop]; rw [heq]; have := HSB.out; rw [List.getElem?_eq_getElem hjb] at this; simp only [hj2]; exact (Option.some.inj this).symm, by rw [List.drop_drop, show j0 + (k + 1) = j + 1 by omega]; show lcsAt a b (i + 1) (j + 1) + 1 = W; rw [HZZ.out]; exact hZW⟩ (fun m hm h => HJ.out m (by omega) hm ⟨by simpa using h.1, by have := h.2; rw [List.drop_drop] at this; exact this⟩)]
            simp only [placeI, hj2]
          subst hrr
          clear HR
          go_wp2
          exact ⟨rfl, hEn⟩
        · have hzw : ((Z : Int) + 1 == (W : Int)) = false := by simp; omega
          have hno : ¬ (x = sb ∧ Z + 1 = W) := fun h => hZW h.2
          go_wp2
          go_roundw
          case rel => exact ⟨k + 1, by omega, by go_num, hJn hno, hEn⟩
          case measure => simp [intOf]; omega
      · rw [decide_eq_false heq] at hbq
        refine wp_flow (fun _ => .reads) (by kernel_rfl) (by kernel_rfl) ?_
        repeat (first | (refine flow_r rfl rfl ?_; go_big_quiet_step (fail); refine wpQuiet_nil ?_) | (refine flow_s rfl rfl ?_; simp only [Act.put, List.setIfInBounds_toArray, List.set_cons_succ, List.set_cons_zero]))
        refine flow_end (fun wc hEc _ => ?_)
        have hEn := (hE.trans (Keep.refl _ wr).drew).trans hEc
        clear d0 d1 d2 d3
        have hno : ¬ (x = sb ∧ Z + 1 = W) := fun h => heq h.1
        go_wp2
        go_roundw
        case rel => exact ⟨k + 1, by omega, by go_num, hJn hno, hEn⟩
        case measure => simp [intOf]; omega
    · obtain rfl : j = nB := by omega
      have hrr : r = -1 := by
        rw [← HR.out]
        unfold beginsV
        rw [HWW.out, beginsL_no (fun m hm h => HJ.out m (by simp at hm; omega) (by simp at hm; have := HLB.out; omega) ⟨by simpa using h.1, by have := h.2; rw [List.drop_drop] at this; exact this⟩)]
        rfl
      subst hrr
      clear HR
      go_wp2
      exact ⟨rfl, hE⟩
end Go.Proofs.Ythedpnnfkmbdpaa
