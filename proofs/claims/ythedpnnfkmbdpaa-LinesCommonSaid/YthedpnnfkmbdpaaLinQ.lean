/-
  tabulariumref25.Common: the table, then the search.
-/
import Derived.Test.YthedpnnfkmbdpaaLinP
namespace Go.Proofs.Ythedpnnfkmbdpaa
open Go.RowKit Go.Shelf

attribute [local go_sem] Oper.semAt_some

set_option maxRecDepth 20000 in
set_option maxHeartbeats 8000000 in
theorem refCommon_any (w : World) (aA aB : Option Addr) (nA cA nB cB : Nat) (a b : List ByteArray) (hA : Row 1 w aA nA cA (a.map Value.string)) (hB : Row 1 w aB nB cB (b.map Value.string)) (h1 : nA ≤ 400) (h2 : nB ≤ 400) :
    Calls Try.prog 14 #[.slice aA nA cA, .slice aB nB cB] w fun e w' => ∃ a' c', e = .returned (.slice a' (commonL a 0 b 0).length c') ∧
      w'.ownsRow w.heap.size 27 2 (.slice a' (commonL a 0 b 0).length c') (commonL a 0 b 0).length (pairsC (commonL a 0 b 0)) ∧ Ext w w' := by
  have hlA : a.length = nA := by have := hA.2.2.1; simpa using this
  have hlB : b.length = nB := by have := hB.2.2.1; simpa using this
  have hCL : (commonL a 0 b 0).length ≤ nA := by rw [commonL_length, ← hlA]; exact lcs_le_length a b
  obtain ⟨L, hL⟩ : ∃ L, commonL a 0 b 0 = L := ⟨_, rfl⟩
  rw [hL] at hCL ⊢
  have hcA := hA.1
  have hmA := hA.2.1
  have hcB := hB.1
  have hmB := hB.2.1
  unfold maxLen at hmA hmB
  obtain ⟨i1, hi1, hz1, hy1, hx1⟩ := info_parts info_slint
  obtain ⟨i2, hi2, hz2, hy2, hx2⟩ := info_parts info_int
  have HLA := Lib.hid hlA
  have HLB := Lib.hid hlB
  have HL := Lib.hid hL
  have HCL := Lib.hid hCL
  clear hlA hlB hL hCL
  refine calls_cps fun R hR => ?_
  obtain ⟨p, hp⟩ : ∃ p, w.heap.size = p := ⟨_, rfl⟩
  have hO0 : Blk (w.alloc (.cells (outC p nA nB 0).toArray 31)) p 31 (outC p nA nB 0) := by rw [← hp]; exact Blk.new w _ _
  have hE0 : Ext w (w.alloc (.cells (outC p nA nB 0).toArray 31)) := (Keep.refl _ w).alloc _
  have hS0 : (w.alloc (.cells (outC p nA nB 0).toArray 31)).heap.size = p + 1 := by simp [hp]
  go_enter Try.func14, Try.ntmps14
  go_wp2_with (first | (at_make; go_must (refine wpList_make_at rfl _ _ 58 rfl 31 i1 _ Try.underlying58 hi1 hz1 hy1 rfl .i64 .i64 _ _ (nA + 1) rfl rfl (by omega) (by omega) (by rw [hx1]; omega) (by unfold maxLen; omega) (outC p nA nB 0) (outC_zero p nA nB) ?_); try rw [hp]) | fail)
  obtain ⟨W0, hW0⟩ : ∃ W, w.alloc (.cells (outC p nA nB 0).toArray 31) = W := ⟨_, rfl⟩
  rw [hW0] at hO0 hE0 hS0 ⊢
  clear hW0
  go_loopw [27] (fun ix wr => ∃ i : Nat, i ≤ nA + 1 ∧ ix = .int .i64 i ∧ wr.heap.size = p + 1 + i ∧ Blk wr p 31 (outC p nA nB i) ∧ (∀ i', i' < i → Blk wr (p + 1 + i') 3 (gridC nB (fun _ => 0))) ∧ Ext w wr) (fun ix _ => nA + 1 - (intOf ix).toNat)
  case atStart => exact ⟨0, by omega, rfl, by omega, hO0, fun i' h => by omega, hE0⟩
  case round =>
    clear hO0 hE0 hS0
    obtain ⟨i, hi, rfl, hsz, hO, hRows, hE⟩ := hrel
    by_cases hlt : i < nA + 1
    · have hO1 : Blk (wr.alloc (.cells (gridC nB (fun _ => 0)).toArray 3)) p 31 (outC p nA nB i) := hO.ext ((Keep.refl _ wr).alloc _)
      have c1 := hO1.cell (outC_nil (nB := nB) (p := p) (Nat.lt_irrefl i) hlt)
      have f1 := hO1.frozen i
      have hO2 : Blk ((wr.alloc (.cells (gridC nB (fun _ => 0)).toArray 3)).setCell ⟨p, i, none⟩ (.slice (some ⟨p + 1 + i, 0, none⟩) (nB + 1) (nB + 1))) p 31 (outC p nA nB (i + 1)) := by
        have := hO1.set i (.slice (some ⟨p + 1 + i, 0, none⟩) (nB + 1) (nB + 1))
        rwa [outC_set] at this
      have hR2 : ∀ i', i' < i + 1 → Blk ((wr.alloc (.cells (gridC nB (fun _ => 0)).toArray 3)).setCell ⟨p, i, none⟩ (.slice (some ⟨p + 1 + i, 0, none⟩) (nB + 1) (nB + 1))) (p + 1 + i') 3 (gridC nB (fun _ => 0)) := fun i' h' => by
        refine Blk.other ?_ (by omega)
        by_cases he : i' = i
        · subst he; rw [← hsz]; exact Blk.new wr _ _
        · exact (hRows i' (by omega)).ext ((Keep.refl _ wr).alloc _)
      have hE2 : Ext w ((wr.alloc (.cells (gridC nB (fun _ => 0)).toArray 3)).setCell ⟨p, i, none⟩ (.slice (some ⟨p + 1 + i, 0, none⟩) (nB + 1) (nB + 1))) := (hE.alloc _).setCell _ _ (fun o ho => by have := Keep.lt ho; replace this : p < w.heap.size := this; omega)
      have hsz2 : ((wr.alloc (.cells (gridC nB (fun _ => 0)).toArray 3)).setCell ⟨p, i, none⟩ (.slice (some ⟨p + 1 + i, 0, none⟩) (nB + 1) (nB + 1))).heap.size = p + 1 + (i + 1) := by simp [hsz]; omega
      clear hO hRows hO1 hE
      go_wp2_with (first | (at_make; go_must (refine wpList_make_at rfl _ _ 31 rfl 3 i2 _ Try.underlying31 hi2 hz2 hy2 rfl .i64 .i64 _ _ (nB + 1) rfl rfl (by omega) (by omega) (by rw [hx2]; omega) (by unfold maxLen; omega) (gridC nB (fun _ => 0)) (gridC_zero nB) ?_)) | fail)
      go_roundw
      case rel => exact ⟨i + 1, by omega, by go_num, hsz2, hO2, hR2, hE2⟩
      case measure => simp [intOf] <;> omega
    · obtain rfl : i = nA + 1 := by omega
      have hG : Grid wr p nA nB (grG a b nA) := by
        refine Grid.congr (T := fun _ _ => 0) ⟨hO, fun i hi => hRows i (by omega)⟩ (fun i j _ _ => (grG_full a b (by rw [HLA.out]; exact Nat.le_refl _)).symm)
      clear hO hRows hsz
      go_wp2
      rw [show ((nA + 1 : Nat) : Int) = (nA : Int) + 1 from by omega]
      go_loopw [7] (fun x wr => ∃ I : Nat, I ≤ nA ∧ x = .int .i64 ((I : Int) - 1) ∧ Grid wr p nA nB (grG a b I) ∧ Ext w wr) (fun x _ => (intOf x + 1).toNat)
      case atStart => exact ⟨nA, Nat.le_refl _, rfl, hG, hE⟩
      case round =>
        clear hG hE
        obtain ⟨I, hI, rfl, hG, hE⟩ := hrel
        by_cases h0 : 0 < I
        · obtain ⟨i, rfl⟩ : ∃ i, I = i + 1 := ⟨I - 1, by omega⟩
          have hii : ((i + 1 : Nat) : Int) - 1 = (i : Int) := by omega
          rw [hii]
          clear hii
          have hG0 : Grid wr p nA nB (grF a b i nB) := hG.congr (fun i' j' _ _ => grF_full a b HLB.out)
          clear hG
          go_wp2
          go_loopw [8] (fun y wr => ∃ J : Nat, J ≤ nB ∧ y = .int .i64 ((J : Int) - 1) ∧ Grid wr p nA nB (grF a b i J) ∧ Ext w wr) (fun y _ => (intOf y + 1).toNat)
          case atStart => exact ⟨nB, Nat.le_refl _, rfl, hG0, hE⟩
          case round =>
            clear hG0 hE
            obtain ⟨J, hJ, rfl, hG, hE⟩ := hrel
            by_cases hj0 : 0 < J
            · obtain ⟨j, rfl⟩ : ∃ j, J = j + 1 := ⟨J - 1, by omega⟩
              have hjj : ((j + 1 : Nat) : Int) - 1 = (j : Int) := by omega
              rw [hjj]
              clear hjj
              have hla := HLA.out
              have hlb := HLB.out
              have hstep := lcsAt_step (a := a) (b := b) (i := i) (j := j) (by omega) (by omega)
              have fX : grF a b i (j + 1) (i + 1) j = lcsAt a b (i + 1) j := by unfold grF; rw [if_pos (.inl (Nat.le_refl _))]
              have fY : grF a b i (j + 1) i (j + 1) = lcsAt a b i (j + 1) := by unfold grF; rw [if_pos (.inr ⟨rfl, Nat.le_refl _⟩)]
              have fZ : grF a b i (j + 1) (i + 1) (j + 1) = lcsAt a b (i + 1) (j + 1) := by unfold grF; rw [if_pos (.inl (Nat.le_refl _))]
              have hfin : ∀ w', Grid w' p nA nB (upd2 (grF a b i (j + 1)) i j (lcsAt a b i j)) → Grid w' p nA nB (grF a b i j) := fun w' h => h.congr (fun _ _ _ _ => grF_step a b)
              have bX := lcsAt_le a b (i + 1) j
              have bY := lcsAt_le a b i (j + 1)
              have bZ := lcsAt_le a b (i + 1) (j + 1)
              obtain ⟨X, hX⟩ : ∃ X, lcsAt a b (i + 1) j = X := ⟨_, rfl⟩
              obtain ⟨Y, hY⟩ : ∃ Y, lcsAt a b i (j + 1) = Y := ⟨_, rfl⟩
              obtain ⟨Z, hZ⟩ : ∃ Z, lcsAt a b (i + 1) (j + 1) = Z := ⟨_, rfl⟩
              obtain ⟨V, hV⟩ : ∃ V, lcsAt a b i j = V := ⟨_, rfl⟩
              rw [hla] at bX bY bZ
              rw [hX] at fX bX hstep
              rw [hY] at fY bY hstep
              rw [hZ] at fZ bZ hstep
              rw [hV] at hstep hfin
              obtain ⟨r0, hr0⟩ : ∃ r, p + 1 + i = r := ⟨_, rfl⟩
              obtain ⟨r1, hr1⟩ : ∃ r, p + 1 + (i + 1) = r := ⟨_, rfl⟩
              obtain ⟨T, hT⟩ : ∃ T, grF a b i (j + 1) = T := ⟨_, rfl⟩
              rw [hT] at fX fY fZ hfin hG
              obtain ⟨v0, hv0⟩ : ∃ v, T i j = v := ⟨_, rfl⟩
              have hG0 : Grid wr p nA nB (upd2 T i j v0) := by rw [← hv0, upd2_self]; exact hG
              have HG : Hid (∀ (w' : World) (v : Nat), Grid w' p nA nB (upd2 T i j v) → w'.cell? ⟨p, i, none⟩ = some (.slice (some ⟨r0, 0, none⟩) (nB + 1) (nB + 1)) ∧ w'.cell? ⟨p, i + 1, none⟩ = some (.slice (some ⟨r1, 0, none⟩) (nB + 1) (nB + 1)) ∧
                  w'.cell? ⟨r0, j, none⟩ = some (.int .i64 (v : Int)) ∧ w'.cell? ⟨r1, j, none⟩ = some (.int .i64 (X : Int)) ∧ w'.cell? ⟨r0, j + 1, none⟩ = some (.int .i64 (Y : Int)) ∧ w'.cell? ⟨r1, j + 1, none⟩ = some (.int .i64 (Z : Int)) ∧ w'.frozen? ⟨r0, j, none⟩ = false) := fun w' v h => by
                have g1 := h.head (i := i) (by omega)
                have g2 := h.head (i := i + 1) (by omega)
                have g3 := h.at (i := i) (j := j) (by omega) (by omega)
                have g4 := h.at (i := i + 1) (j := j) (by omega) (by omega)
                have g5 := h.at (i := i) (j := j + 1) (by omega) (by omega)
                have g6 := h.at (i := i + 1) (j := j + 1) (by omega) (by omega)
                have g7 := (h.row i (by omega)).frozen j
                rw [upd2_at] at g3
                rw [upd2_ne _ _ (by omega), fX] at g4
                rw [upd2_ne _ _ (by omega), fY] at g5
                rw [upd2_ne _ _ (by omega), fZ] at g6
                rw [hr0] at g1 g3 g5 g7
                rw [hr1] at g2 g4 g6
                exact ⟨g1, g2, g3, g4, g5, g6, g7⟩
              have HS : Hid (∀ (w' : World) (u v : Nat), Grid w' p nA nB (upd2 T i j u) → Grid (w'.setCell ⟨r0, j, none⟩ (.int .i64 (v : Int))) p nA nB (upd2 T i j v)) := fun w' u v h => by
                have := h.set (i := i) (j := j) (by omega) v
                rwa [upd2_upd2, hr0] at this
              have hr0p : p ≤ r0 := by omega
              have HF := Lib.hid hfin
              obtain ⟨ba, oa, rfl, hca⟩ := hA.2.2.2.2 (by omega)
              obtain ⟨bb, ob, rfl, hcb⟩ := hB.2.2.2.2 (by omega)
              have hia : i < a.length := by omega
              have hjb : j < b.length := by omega
              have hcA' := hca i (.string a[i]) (by simp [hia])
              have hcB' := hcb j (.string b[j]) (by simp [hjb])
              obtain ⟨sa, hsa⟩ : ∃ sa, a[i] = sa := ⟨_, rfl⟩
              obtain ⟨sb, hsb⟩ : ∃ sb, b[j] = sb := ⟨_, rfl⟩
              rw [hsa, hsb] at hstep
              rw [hsa] at hcA'
              rw [hsb] at hcB'
              have hbq := ba_beq sa sb
              have HSTEP := Lib.hid hstep
              have hp2 : w.heap.size ≤ p := by omega
              clear hla hlb hstep fX fY fZ hfin hX hY hZ hV hr0 hr1 hT hv0 hG hca hcb hia hjb hsa hsb
              go_wp2
              refine FY.wp_flow (X := fun _ _ => True) (0 :: 1 :: 2 :: 3 :: 4 :: 5 :: 6 :: 7 :: 8 :: 9 :: 10 :: 11 :: 12 :: 13 :: 14 :: []) (fun n => if n = 14 then .bar else .reads) (by kernel_rfl) (by kernel_rfl) ?_
              have hD : ∀ g : FY.At (fun _ _ => False) wr.drew, Ext wr g.w := fun g => ((Keep.refl _ wr).drew).trans g.ext
              have d1 := fun g => (HG.out _ _ (hG0.ext (hD g))).1
              have d2 := fun g => (HG.out _ _ (hG0.ext (hD g))).2.1
              have d3 := fun g => (HG.out _ _ (hG0.ext (hD g))).2.2.1
              have d4 := fun g => (HG.out _ _ (hG0.ext (hD g))).2.2.2.1
              have d5 := fun g => (HG.out _ _ (hG0.ext (hD g))).2.2.2.2.1
              have d6 := fun g => (HG.out _ _ (hG0.ext (hD g))).2.2.2.2.2.1
              repeat (first | (refine FY.flow_r rfl rfl rfl ?_; go_big_quiet_step (fail); refine wpQuiet_nil ?_) | (refine FY.flow_sq rfl rfl rfl ?_; simp only [Act.put, List.setIfInBounds_toArray, List.set_cons_succ, List.set_cons_zero]))
              refine FY.flow_b rfl rfl rfl (by kernel_rfl) (fun w7 hE7 _ => ?_)
              have G7 := hG0.ext (((Keep.refl _ wr).drew).trans hE7)
              obtain ⟨k1, k2, k3, k4, k5, k6, k7⟩ := HG.out _ _ G7
              have G8 := HS.out _ _ (X) G7
              have m9 := (Keep.refl (fun _ _ => True) w7).setCell ⟨r0, j, none⟩ (.int .i64 ((X : Int) : Int)) (fun _ _ => trivial)
              have e9 := (hE.trans (((Keep.refl _ wr).drew).trans hE7)).setCell ⟨r0, j, none⟩ (.int .i64 ((X : Int) : Int)) (fun o ho => by have := Keep.lt ho; replace this : r0 < w.heap.size := this; omega)
              clear hD d1 d2 d3 d4 d5 d6 hE7 G7
              go_wp2
              refine FY.flow_end (fun wa hE9 _ => ?_)
              replace hE9 : Ext _ wa := hE9
              have Ga := G8.ext hE9
              have ewa := e9.trans hE9
              clear m9 k1 k2 k3 k4 k5 k6 k7 e9 G8 hE9
              go_wp2
              refine FY.wp_flow (X := fun _ _ => True) (0 :: 1 :: 2 :: 3 :: 4 :: 5 :: 6 :: 7 :: 8 :: 9 :: 10 :: 11 :: 12 :: 13 :: 14 :: 15 :: []) (fun _ => .reads) (by kernel_rfl) (by kernel_rfl) ?_
              have hD : ∀ g : FY.At (fun _ _ => False) wa.drew, Ext wa g.w := fun g => ((Keep.refl _ wa).drew).trans g.ext
              have d1 := fun g => (HG.out _ _ (Ga.ext (hD g))).1
              have d2 := fun g => (HG.out _ _ (Ga.ext (hD g))).2.1
              have d3 := fun g => (HG.out _ _ (Ga.ext (hD g))).2.2.1
              have d4 := fun g => (HG.out _ _ (Ga.ext (hD g))).2.2.2.1
              have d5 := fun g => (HG.out _ _ (Ga.ext (hD g))).2.2.2.2.1
              have d6 := fun g => (HG.out _ _ (Ga.ext (hD g))).2.2.2.2.2.1
              repeat (first | (refine FY.flow_r rfl rfl rfl ?_; go_big_quiet_step (fail); refine wpQuiet_nil ?_) | (refine FY.flow_sq rfl rfl rfl ?_; simp only [Act.put, List.setIfInBounds_toArray, List.set_cons_succ, List.set_cons_zero]))
              refine FY.flow_end (fun wb hE9 _ => ?_)
              have hE8 : Ext wa wb := ((Keep.refl _ wa).drew).trans hE9
              have Gb := Ga.ext hE8
              have ewb := ewa.trans hE8
              clear hD d1 d2 d3 d4 d5 d6 hE8 hE9
              have xwb : Ext wr wb ∨ True := .inr trivial
              clear xwb
              by_cases hXY : X < Y
              · go_wp2
                refine FY.wp_flow (X := fun _ _ => True) (0 :: 1 :: 2 :: 3 :: 4 :: 5 :: 6 :: 7 :: 8 :: 9 :: 10 :: 11 :: 12 :: 13 :: 14 :: []) (fun n => if n = 14 then .bar else .reads) (by kernel_rfl) (by kernel_rfl) ?_
                have hD : ∀ g : FY.At (fun _ _ => False) wb.drew, Ext wb g.w := fun g => ((Keep.refl _ wb).drew).trans g.ext
                have d1 := fun g => (HG.out _ _ (Gb.ext (hD g))).1
                have d2 := fun g => (HG.out _ _ (Gb.ext (hD g))).2.1
                have d3 := fun g => (HG.out _ _ (Gb.ext (hD g))).2.2.1
                have d4 := fun g => (HG.out _ _ (Gb.ext (hD g))).2.2.2.1
                have d5 := fun g => (HG.out _ _ (Gb.ext (hD g))).2.2.2.2.1
                have d6 := fun g => (HG.out _ _ (Gb.ext (hD g))).2.2.2.2.2.1
                repeat (first | (refine FY.flow_r rfl rfl rfl ?_; go_big_quiet_step (fail); refine wpQuiet_nil ?_) | (refine FY.flow_sq rfl rfl rfl ?_; simp only [Act.put, List.setIfInBounds_toArray, List.set_cons_succ, List.set_cons_zero]))
                refine FY.flow_b rfl rfl rfl (by kernel_rfl) (fun w7 hE7 _ => ?_)
                have G7 := Gb.ext (((Keep.refl _ wb).drew).trans hE7)
                obtain ⟨k1, k2, k3, k4, k5, k6, k7⟩ := HG.out _ _ G7
                have G8 := HS.out _ _ (Y) G7
                have m9 := (Keep.refl (fun _ _ => True) w7).setCell ⟨r0, j, none⟩ (.int .i64 ((Y : Int) : Int)) (fun _ _ => trivial)
                have e9 := (ewb.trans (((Keep.refl _ wb).drew).trans hE7)).setCell ⟨r0, j, none⟩ (.int .i64 ((Y : Int) : Int)) (fun o ho => by have := Keep.lt ho; replace this : r0 < w.heap.size := this; omega)
                clear hD d1 d2 d3 d4 d5 d6 hE7 G7
                go_wp2
                refine FY.flow_end (fun wd hE9 _ => ?_)
                replace hE9 : Ext _ wd := hE9
                have Gd := G8.ext hE9
                have ewd := e9.trans hE9
                clear m9 k1 k2 k3 k4 k5 k6 k7 e9 G8 hE9
                have hMXY : max X Y = Y := by omega
                by_cases heq : sa = sb
                · have hst := HSTEP.out
                  rw [if_pos heq] at hst
                  have hd : decide (sa = sb) = true := decide_eq_true heq
                  rw [hd] at hbq
                  by_cases hZM : Y < Z + 1
                  · have hVZ : V = Z + 1 := by omega
                    have hd2 : decide ((Y : Int) < (Z : Int) + 1) = true := decide_eq_true (by omega)
                    go_wp2
                    refine FY.wp_flow (X := fun _ _ => True) (0 :: 1 :: 2 :: 3 :: 4 :: 5 :: 6 :: 7 :: 8 :: 9 :: 10 :: 11 :: 12 :: 13 :: 14 :: 15 :: 16 :: 17 :: 18 :: 19 :: 20 :: 21 :: 22 :: 23 :: 24 :: 25 :: 26 :: 27 :: 28 :: []) (fun _ => .reads) (by kernel_rfl) (by kernel_rfl) ?_
                    have hD : ∀ g : FY.At (fun _ _ => False) wd.drew, Ext wd g.w := fun g => ((Keep.refl _ wd).drew).trans g.ext
                    have d1 := fun g => (HG.out _ _ (Gd.ext (hD g))).1
                    have d2 := fun g => (HG.out _ _ (Gd.ext (hD g))).2.1
                    have d3 := fun g => (HG.out _ _ (Gd.ext (hD g))).2.2.1
                    have d4 := fun g => (HG.out _ _ (Gd.ext (hD g))).2.2.2.1
                    have d5 := fun g => (HG.out _ _ (Gd.ext (hD g))).2.2.2.2.1
                    have d6 := fun g => (HG.out _ _ (Gd.ext (hD g))).2.2.2.2.2.1
                    have d7 := fun g => (ewd.trans (hD g)).cell hcA'
                    have d8 := fun g => (ewd.trans (hD g)).cell hcB'
                    repeat (first | (refine FY.flow_r rfl rfl rfl ?_; go_big_quiet_step (fail); refine wpQuiet_nil ?_) | (refine FY.flow_sq rfl rfl rfl ?_; simp only [Act.put, List.setIfInBounds_toArray, List.set_cons_succ, List.set_cons_zero]))
                    refine FY.flow_end (fun wc hE9 _ => ?_)
                    have hE8 : Ext wd wc := ((Keep.refl _ wd).drew).trans hE9
                    have Gc := Gd.ext hE8
                    have ewc := ewd.trans hE8
                    clear hD d1 d2 d3 d4 d5 d6 hE8 hE9 d7 d8
                    go_wp2
                    refine FY.wp_flow (X := fun _ _ => True) (0 :: 1 :: 2 :: 3 :: 4 :: 5 :: 6 :: 7 :: 8 :: 9 :: 10 :: 11 :: 12 :: 13 :: 14 :: 15 :: 16 :: []) (fun n => if n = 16 then .bar else .reads) (by kernel_rfl) (by kernel_rfl) ?_
                    have hD : ∀ g : FY.At (fun _ _ => False) wc.drew, Ext wc g.w := fun g => ((Keep.refl _ wc).drew).trans g.ext
                    have d1 := fun g => (HG.out _ _ (Gc.ext (hD g))).1
                    have d2 := fun g => (HG.out _ _ (Gc.ext (hD g))).2.1
                    have d3 := fun g => (HG.out _ _ (Gc.ext (hD g))).2.2.1
                    have d4 := fun g => (HG.out _ _ (Gc.ext (hD g))).2.2.2.1
                    have d5 := fun g => (HG.out _ _ (Gc.ext (hD g))).2.2.2.2.1
                    have d6 := fun g => (HG.out _ _ (Gc.ext (hD g))).2.2.2.2.2.1
                    repeat (first | (refine FY.flow_r rfl rfl rfl ?_; go_big_quiet_step (fail); refine wpQuiet_nil ?_) | (refine FY.flow_sq rfl rfl rfl ?_; simp only [Act.put, List.setIfInBounds_toArray, List.set_cons_succ, List.set_cons_zero]))
                    refine FY.flow_b rfl rfl rfl (by kernel_rfl) (fun w7 hE7 _ => ?_)
                    have G7 := Gc.ext (((Keep.refl _ wc).drew).trans hE7)
                    obtain ⟨k1, k2, k3, k4, k5, k6, k7⟩ := HG.out _ _ G7
                    have G8 := HS.out _ _ (Z + 1) G7
                    try rw [show ((Z + 1 : Nat) : Int) = (Z : Int) + 1 by omega] at G8
                    have m9 := (Keep.refl (fun _ _ => True) w7).setCell ⟨r0, j, none⟩ (.int .i64 ((Z : Int) + 1 : Int)) (fun _ _ => trivial)
                    have e9 := (ewc.trans (((Keep.refl _ wc).drew).trans hE7)).setCell ⟨r0, j, none⟩ (.int .i64 ((Z : Int) + 1 : Int)) (fun o ho => by have := Keep.lt ho; replace this : r0 < w.heap.size := this; omega)
                    clear hD d1 d2 d3 d4 d5 d6 hE7 G7
                    go_wp2
                    refine FY.flow_end (fun we hE9 _ => ?_)
                    replace hE9 : Ext _ we := hE9
                    have Ge := G8.ext hE9
                    have ewe := e9.trans hE9
                    clear m9 k1 k2 k3 k4 k5 k6 k7 e9 G8 hE9
                    rw [← hVZ] at Ge
                    have Gn := HF.out _ Ge
                    clear Ge Gc
                    go_wp2
                    go_roundw
                    case rel => exact ⟨j, by omega, by first | rfl | go_num, Gn, ewe⟩
                    case measure => simp [intOf] <;> omega
                  · have hVZ : V = Y := by omega
                    have hd2 : decide ((Y : Int) < (Z : Int) + 1) = false := decide_eq_false (by omega)
                    go_wp2
                    refine FY.wp_flow (X := fun _ _ => True) (0 :: 1 :: 2 :: 3 :: 4 :: 5 :: 6 :: 7 :: 8 :: 9 :: 10 :: 11 :: 12 :: 13 :: 14 :: 15 :: 16 :: 17 :: 18 :: 19 :: 20 :: 21 :: 22 :: 23 :: 24 :: 25 :: 26 :: 27 :: 28 :: []) (fun _ => .reads) (by kernel_rfl) (by kernel_rfl) ?_
                    have hD : ∀ g : FY.At (fun _ _ => False) wd.drew, Ext wd g.w := fun g => ((Keep.refl _ wd).drew).trans g.ext
                    have d1 := fun g => (HG.out _ _ (Gd.ext (hD g))).1
                    have d2 := fun g => (HG.out _ _ (Gd.ext (hD g))).2.1
                    have d3 := fun g => (HG.out _ _ (Gd.ext (hD g))).2.2.1
                    have d4 := fun g => (HG.out _ _ (Gd.ext (hD g))).2.2.2.1
                    have d5 := fun g => (HG.out _ _ (Gd.ext (hD g))).2.2.2.2.1
                    have d6 := fun g => (HG.out _ _ (Gd.ext (hD g))).2.2.2.2.2.1
                    have d7 := fun g => (ewd.trans (hD g)).cell hcA'
                    have d8 := fun g => (ewd.trans (hD g)).cell hcB'
                    repeat (first | (refine FY.flow_r rfl rfl rfl ?_; go_big_quiet_step (fail); refine wpQuiet_nil ?_) | (refine FY.flow_sq rfl rfl rfl ?_; simp only [Act.put, List.setIfInBounds_toArray, List.set_cons_succ, List.set_cons_zero]))
                    refine FY.flow_end (fun wc hE9 _ => ?_)
                    have hE8 : Ext wd wc := ((Keep.refl _ wd).drew).trans hE9
                    have Gc := Gd.ext hE8
                    have ewc := ewd.trans hE8
                    clear hD d1 d2 d3 d4 d5 d6 hE8 hE9 d7 d8
                    rw [← hVZ] at Gc
                    have Gn := HF.out _ Gc
                    clear Gc
                    go_wp2
                    go_roundw
                    case rel => exact ⟨j, by omega, by first | rfl | go_num, Gn, ewc⟩
                    case measure => simp [intOf] <;> omega
                · have hst := HSTEP.out
                  rw [if_neg heq] at hst
                  have hd : decide (sa = sb) = false := decide_eq_false heq
                  rw [hd] at hbq
                  have hVZ : V = Y := by omega
                  go_wp2
                  refine FY.wp_flow (X := fun _ _ => True) (0 :: 1 :: 2 :: 3 :: 4 :: 5 :: 6 :: 7 :: 8 :: 9 :: 10 :: 11 :: 12 :: 13 :: 14 :: 15 :: 16 :: 17 :: 18 :: 19 :: 20 :: 21 :: 22 :: 23 :: 24 :: 25 :: 26 :: 27 :: 28 :: []) (fun _ => .reads) (by kernel_rfl) (by kernel_rfl) ?_
                  have hD : ∀ g : FY.At (fun _ _ => False) wd.drew, Ext wd g.w := fun g => ((Keep.refl _ wd).drew).trans g.ext
                  have d1 := fun g => (HG.out _ _ (Gd.ext (hD g))).1
                  have d2 := fun g => (HG.out _ _ (Gd.ext (hD g))).2.1
                  have d3 := fun g => (HG.out _ _ (Gd.ext (hD g))).2.2.1
                  have d4 := fun g => (HG.out _ _ (Gd.ext (hD g))).2.2.2.1
                  have d5 := fun g => (HG.out _ _ (Gd.ext (hD g))).2.2.2.2.1
                  have d6 := fun g => (HG.out _ _ (Gd.ext (hD g))).2.2.2.2.2.1
                  have d7 := fun g => (ewd.trans (hD g)).cell hcA'
                  have d8 := fun g => (ewd.trans (hD g)).cell hcB'
                  repeat (first | (refine FY.flow_r rfl rfl rfl ?_; go_big_quiet_step (fail); refine wpQuiet_nil ?_) | (refine FY.flow_sq rfl rfl rfl ?_; simp only [Act.put, List.setIfInBounds_toArray, List.set_cons_succ, List.set_cons_zero]))
                  refine FY.flow_end (fun wc hE9 _ => ?_)
                  have hE8 : Ext wd wc := ((Keep.refl _ wd).drew).trans hE9
                  have Gc := Gd.ext hE8
                  have ewc := ewd.trans hE8
                  clear hD d1 d2 d3 d4 d5 d6 hE8 hE9 d7 d8
                  rw [← hVZ] at Gc
                  have Gn := HF.out _ Gc
                  clear Gc
                  go_wp2
                  go_roundw
                  case rel => exact ⟨j, by omega, by first | rfl | go_num, Gn, ewc⟩
                  case measure => simp [intOf] <;> omega
              · have hMXY : max X Y = X := by omega
                by_cases heq : sa = sb
                · have hst := HSTEP.out
                  rw [if_pos heq] at hst
                  have hd : decide (sa = sb) = true := decide_eq_true heq
                  rw [hd] at hbq
                  by_cases hZM : X < Z + 1
                  · have hVZ : V = Z + 1 := by omega
                    have hd2 : decide ((X : Int) < (Z : Int) + 1) = true := decide_eq_true (by omega)
                    go_wp2
                    refine FY.wp_flow (X := fun _ _ => True) (0 :: 1 :: 2 :: 3 :: 4 :: 5 :: 6 :: 7 :: 8 :: 9 :: 10 :: 11 :: 12 :: 13 :: 14 :: 15 :: 16 :: 17 :: 18 :: 19 :: 20 :: 21 :: 22 :: 23 :: 24 :: 25 :: 26 :: 27 :: 28 :: []) (fun _ => .reads) (by kernel_rfl) (by kernel_rfl) ?_
                    have hD : ∀ g : FY.At (fun _ _ => False) wb.drew, Ext wb g.w := fun g => ((Keep.refl _ wb).drew).trans g.ext
                    have d1 := fun g => (HG.out _ _ (Gb.ext (hD g))).1
                    have d2 := fun g => (HG.out _ _ (Gb.ext (hD g))).2.1
                    have d3 := fun g => (HG.out _ _ (Gb.ext (hD g))).2.2.1
                    have d4 := fun g => (HG.out _ _ (Gb.ext (hD g))).2.2.2.1
                    have d5 := fun g => (HG.out _ _ (Gb.ext (hD g))).2.2.2.2.1
                    have d6 := fun g => (HG.out _ _ (Gb.ext (hD g))).2.2.2.2.2.1
                    have d7 := fun g => (ewb.trans (hD g)).cell hcA'
                    have d8 := fun g => (ewb.trans (hD g)).cell hcB'
                    repeat (first | (refine FY.flow_r rfl rfl rfl ?_; go_big_quiet_step (fail); refine wpQuiet_nil ?_) | (refine FY.flow_sq rfl rfl rfl ?_; simp only [Act.put, List.setIfInBounds_toArray, List.set_cons_succ, List.set_cons_zero]))
                    refine FY.flow_end (fun wc hE9 _ => ?_)
                    have hE8 : Ext wb wc := ((Keep.refl _ wb).drew).trans hE9
                    have Gc := Gb.ext hE8
                    have ewc := ewb.trans hE8
                    clear hD d1 d2 d3 d4 d5 d6 hE8 hE9 d7 d8
                    go_wp2
                    refine FY.wp_flow (X := fun _ _ => True) (0 :: 1 :: 2 :: 3 :: 4 :: 5 :: 6 :: 7 :: 8 :: 9 :: 10 :: 11 :: 12 :: 13 :: 14 :: 15 :: 16 :: []) (fun n => if n = 16 then .bar else .reads) (by kernel_rfl) (by kernel_rfl) ?_
                    have hD : ∀ g : FY.At (fun _ _ => False) wc.drew, Ext wc g.w := fun g => ((Keep.refl _ wc).drew).trans g.ext
                    have d1 := fun g => (HG.out _ _ (Gc.ext (hD g))).1
                    have d2 := fun g => (HG.out _ _ (Gc.ext (hD g))).2.1
                    have d3 := fun g => (HG.out _ _ (Gc.ext (hD g))).2.2.1
                    have d4 := fun g => (HG.out _ _ (Gc.ext (hD g))).2.2.2.1
                    have d5 := fun g => (HG.out _ _ (Gc.ext (hD g))).2.2.2.2.1
                    have d6 := fun g => (HG.out _ _ (Gc.ext (hD g))).2.2.2.2.2.1
                    repeat (first | (refine FY.flow_r rfl rfl rfl ?_; go_big_quiet_step (fail); refine wpQuiet_nil ?_) | (refine FY.flow_sq rfl rfl rfl ?_; simp only [Act.put, List.setIfInBounds_toArray, List.set_cons_succ, List.set_cons_zero]))
                    refine FY.flow_b rfl rfl rfl (by kernel_rfl) (fun w7 hE7 _ => ?_)
                    have G7 := Gc.ext (((Keep.refl _ wc).drew).trans hE7)
                    obtain ⟨k1, k2, k3, k4, k5, k6, k7⟩ := HG.out _ _ G7
                    have G8 := HS.out _ _ (Z + 1) G7
                    try rw [show ((Z + 1 : Nat) : Int) = (Z : Int) + 1 by omega] at G8
                    have m9 := (Keep.refl (fun _ _ => True) w7).setCell ⟨r0, j, none⟩ (.int .i64 ((Z : Int) + 1 : Int)) (fun _ _ => trivial)
                    have e9 := (ewc.trans (((Keep.refl _ wc).drew).trans hE7)).setCell ⟨r0, j, none⟩ (.int .i64 ((Z : Int) + 1 : Int)) (fun o ho => by have := Keep.lt ho; replace this : r0 < w.heap.size := this; omega)
                    clear hD d1 d2 d3 d4 d5 d6 hE7 G7
                    go_wp2
                    refine FY.flow_end (fun we hE9 _ => ?_)
                    replace hE9 : Ext _ we := hE9
                    have Ge := G8.ext hE9
                    have ewe := e9.trans hE9
                    clear m9 k1 k2 k3 k4 k5 k6 k7 e9 G8 hE9
                    rw [← hVZ] at Ge
                    have Gn := HF.out _ Ge
                    clear Ge Gc
                    go_wp2
                    go_roundw
                    case rel => exact ⟨j, by omega, by first | rfl | go_num, Gn, ewe⟩
                    case measure => simp [intOf] <;> omega
                  · have hVZ : V = X := by omega
                    have hd2 : decide ((X : Int) < (Z : Int) + 1) = false := decide_eq_false (by omega)
                    go_wp2
                    refine FY.wp_flow (X := fun _ _ => True) (0 :: 1 :: 2 :: 3 :: 4 :: 5 :: 6 :: 7 :: 8 :: 9 :: 10 :: 11 :: 12 :: 13 :: 14 :: 15 :: 16 :: 17 :: 18 :: 19 :: 20 :: 21 :: 22 :: 23 :: 24 :: 25 :: 26 :: 27 :: 28 :: []) (fun _ => .reads) (by kernel_rfl) (by kernel_rfl) ?_
                    have hD : ∀ g : FY.At (fun _ _ => False) wb.drew, Ext wb g.w := fun g => ((Keep.refl _ wb).drew).trans g.ext
                    have d1 := fun g => (HG.out _ _ (Gb.ext (hD g))).1
                    have d2 := fun g => (HG.out _ _ (Gb.ext (hD g))).2.1
                    have d3 := fun g => (HG.out _ _ (Gb.ext (hD g))).2.2.1
                    have d4 := fun g => (HG.out _ _ (Gb.ext (hD g))).2.2.2.1
                    have d5 := fun g => (HG.out _ _ (Gb.ext (hD g))).2.2.2.2.1
                    have d6 := fun g => (HG.out _ _ (Gb.ext (hD g))).2.2.2.2.2.1
                    have d7 := fun g => (ewb.trans (hD g)).cell hcA'
                    have d8 := fun g => (ewb.trans (hD g)).cell hcB'
                    repeat (first | (refine FY.flow_r rfl rfl rfl ?_; go_big_quiet_step (fail); refine wpQuiet_nil ?_) | (refine FY.flow_sq rfl rfl rfl ?_; simp only [Act.put, List.setIfInBounds_toArray, List.set_cons_succ, List.set_cons_zero]))
                    refine FY.flow_end (fun wc hE9 _ => ?_)
                    have hE8 : Ext wb wc := ((Keep.refl _ wb).drew).trans hE9
                    have Gc := Gb.ext hE8
                    have ewc := ewb.trans hE8
                    clear hD d1 d2 d3 d4 d5 d6 hE8 hE9 d7 d8
                    rw [← hVZ] at Gc
                    have Gn := HF.out _ Gc
                    clear Gc
                    go_wp2
                    go_roundw
                    case rel => exact ⟨j, by omega, by first | rfl | go_num, Gn, ewc⟩
                    case measure => simp [intOf] <;> omega
                · have hst := HSTEP.out
                  rw [if_neg heq] at hst
                  have hd : decide (sa = sb) = false := decide_eq_false heq
                  rw [hd] at hbq
                  have hVZ : V = X := by omega
                  go_wp2
                  refine FY.wp_flow (X := fun _ _ => True) (0 :: 1 :: 2 :: 3 :: 4 :: 5 :: 6 :: 7 :: 8 :: 9 :: 10 :: 11 :: 12 :: 13 :: 14 :: 15 :: 16 :: 17 :: 18 :: 19 :: 20 :: 21 :: 22 :: 23 :: 24 :: 25 :: 26 :: 27 :: 28 :: []) (fun _ => .reads) (by kernel_rfl) (by kernel_rfl) ?_
                  have hD : ∀ g : FY.At (fun _ _ => False) wb.drew, Ext wb g.w := fun g => ((Keep.refl _ wb).drew).trans g.ext
                  have d1 := fun g => (HG.out _ _ (Gb.ext (hD g))).1
                  have d2 := fun g => (HG.out _ _ (Gb.ext (hD g))).2.1
                  have d3 := fun g => (HG.out _ _ (Gb.ext (hD g))).2.2.1
                  have d4 := fun g => (HG.out _ _ (Gb.ext (hD g))).2.2.2.1
                  have d5 := fun g => (HG.out _ _ (Gb.ext (hD g))).2.2.2.2.1
                  have d6 := fun g => (HG.out _ _ (Gb.ext (hD g))).2.2.2.2.2.1
                  have d7 := fun g => (ewb.trans (hD g)).cell hcA'
                  have d8 := fun g => (ewb.trans (hD g)).cell hcB'
                  repeat (first | (refine FY.flow_r rfl rfl rfl ?_; go_big_quiet_step (fail); refine wpQuiet_nil ?_) | (refine FY.flow_sq rfl rfl rfl ?_; simp only [Act.put, List.setIfInBounds_toArray, List.set_cons_succ, List.set_cons_zero]))
                  refine FY.flow_end (fun wc hE9 _ => ?_)
                  have hE8 : Ext wb wc := ((Keep.refl _ wb).drew).trans hE9
                  have Gc := Gb.ext hE8
                  have ewc := ewb.trans hE8
                  clear hD d1 d2 d3 d4 d5 d6 hE8 hE9 d7 d8
                  rw [← hVZ] at Gc
                  have Gn := HF.out _ Gc
                  clear Gc
                  go_wp2
                  go_roundw
                  case rel => exact ⟨j, by omega, by first | rfl | go_num, Gn, ewc⟩
                  case measure => simp [intOf] <;> omega
            · obtain rfl : J = 0 := by omega
              have hGn : Grid wr p nA nB (grG a b i) := hG.congr (fun i' j' _ _ => grF_zero a b)
              clear hG
              go_wp2
              go_roundw
              case rel => exact ⟨i, by omega, by go_num, hGn, hE⟩
              case measure => simp [intOf] <;> omega
        · obtain rfl : I = 0 := by omega
          have hGn : Grid wr p nA nB (lcsAt a b) := hG.congr (fun i' j' _ _ => grG_zero a b)
          clear hG
          go_wp2
          generalize hW1 : wr = W1 at *
          clear hW1
          rw [show ((0 : Nat) : Int) - 1 = -1 from rfl]
          go_loopw [9, 10, 11] (fun out ix fr wr => ∃ (i j : Nat) (pre : List (Nat × Nat)) (ao : Option Addr) (co : Nat), i ≤ nA ∧ j ≤ nB ∧ ix = .int .i64 i ∧ fr = .int .i64 j ∧ out = .slice ao pre.length co ∧
              wr.ownsRow W1.heap.size 27 2 (.slice ao pre.length co) pre.length (pairsC pre) ∧ Hid (pre ++ commonL (a.drop i) i (b.drop j) j = L) ∧ Ext W1 wr) (fun _ ix _ _ => nA - (intOf ix).toNat)
          case atStart => exact ⟨0, 0, [], none, 0, by omega, by omega, rfl, rfl, rfl, World.ownsRow_nil _ _ _ _, Lib.hid (by have := HL.out; simpa using this), Keep.refl _ _⟩
          case round =>
            obtain ⟨i, j, pre, ao, co, hi, hj, rfl, rfl, rfl, hown, HP, hX⟩ := hrel
            by_cases hlt : i < nA
            · have hia : i < a.length := by have := HLA.out; omega
              have HXi : Hid (a[i]? = some a[i]) := List.getElem?_eq_getElem hia
              obtain ⟨x, hx⟩ : ∃ x, a[i] = x := ⟨_, rfl⟩
              rw [hx] at HXi
              clear hx hia
              have hstep := commonL_step (b := b) (j := j) HXi.out
              have bW := lcsAt_le a b i j
              have hla := HLA.out
              rw [hla] at bW
              clear hla
              have hGx := hGn.ext hX
              have c1 := hGx.head (i := i) (by omega)
              have c2 := hGx.at (i := i) (j := j) (by omega) hj
              obtain ⟨r0, hr0⟩ : ∃ r, p + 1 + i = r := ⟨_, rfl⟩
              rw [hr0] at c1 c2
              obtain ⟨W, hW⟩ : ∃ W, lcsAt a b i j = W := ⟨_, rfl⟩
              have HBN : Hid ((∀ m, j ≤ m → m < nB → ¬ serves a b i x W m) → beginsV a b i j x = none) := fun h => begins_no (fun m h1 h2 => by rw [hW]; exact h m h1 (by have := HLB.out; omega))
              have HBY : Hid (∀ k, j ≤ k → serves a b i x W k → (∀ m, j ≤ m → m < k → ¬ serves a b i x W m) → beginsV a b i j x = some (k - j)) := fun k h1 h2 h3 => begins_yes h1 (by rw [hW]; exact h2) (fun m h4 h5 => by rw [hW]; exact h3 m h4 h5)
              rw [hW] at hstep bW c2
              have HSt := Lib.hid hstep
              have HW := Lib.hid hW
              have HR0 := Lib.hid hr0
              clear hstep hGx hW hr0
              by_cases hW0 : W = 0
              · subst hW0
                have hpre : pre = L := by
                  have h1 := HP.out
                  rw [HSt.out, if_pos rfl, List.append_nil] at h1
                  exact h1
                clear HP HSt HBN HBY HW
                go_wp2
                subst hpre
                exact ⟨_, _, rfl, owns_mono hown hE.size, hE.trans hX⟩
              · have hwb : decide ((0 : Int) < (W : Int)) = true := decide_eq_true (by omega)
                go_wp2
                clear c1 c2
                go_loopw [12] (fun kx wr => ∃ k : Nat, j ≤ k ∧ k ≤ nB ∧ kx = .int .i64 k ∧ Hid (∀ m, j ≤ m → m < k → ¬ serves a b i x W m) ∧ wr.ownsRow W1.heap.size 27 2 (.slice ao pre.length co) pre.length (pairsC pre) ∧ Ext W1 wr) (fun kx _ => nB - (intOf kx).toNat)
                case atStart => exact ⟨j, by omega, hj, rfl, Lib.hid (fun m h1 h2 => by omega), hown, hX⟩
                case round =>
                  clear hown hX
                  obtain ⟨k, hjk, hkn, rfl, HK, hown, hX⟩ := hrel
                  have hGx := hGn.ext hX
                  have q1 := hGx.head (i := i) (by omega)
                  have q2 := hGx.at (i := i) (j := j) (by omega) hj
                  rw [HR0.out] at q1 q2
                  rw [HW.out] at q2
                  by_cases hkl : k < nB
                  · obtain ⟨ba, oa, rfl, hca⟩ := hA.2.2.2.2 (by omega)
                    obtain ⟨bb, ob, rfl, hcb⟩ := hB.2.2.2.2 (by omega)
                    have hkb : k < b.length := by have := HLB.out; omega
                    have hcA' := hca i (.string x) (by rw [List.getElem?_map, HXi.out]; rfl)
                    have hcB' := hcb k (.string b[k]) (by simp [hkb])
                    have HYk : Hid (b[k]? = some b[k]) := List.getElem?_eq_getElem hkb
                    obtain ⟨y, hy⟩ : ∃ y, b[k] = y := ⟨_, rfl⟩
                    rw [hy] at hcB' HYk
                    have hbq := ba_beq x y
                    have q3 := hGx.head (i := i + 1) (by omega)
                    have q4 := hGx.at (i := i + 1) (j := k + 1) (by omega) (by omega)
                    have bU := lcsAt_le a b (i + 1) (k + 1)
                    rw [HLA.out] at bU
                    obtain ⟨U, hU⟩ : ∃ U, lcsAt a b (i + 1) (k + 1) = U := ⟨_, rfl⟩
                    rw [hU] at q4 bU
                    obtain ⟨r1, hr1⟩ : ∃ r, p + 1 + (i + 1) = r := ⟨_, rfl⟩
                    rw [hr1] at q3 q4
                    have HU := Lib.hid hU
                    have HSV : Hid (x = y → U + 1 = W → serves a b i x W k) := fun h1 h2 => ⟨by rw [HYk.out, h1], by rw [HU.out]; exact h2⟩
                    have HNS : Hid (¬ (x = y ∧ U + 1 = W) → ¬ serves a b i x W k) := fun h1 h2 => h1 ⟨by have := h2.1; rw [HYk.out] at this; exact (Option.some.inj this).symm, by have := h2.2; rw [HU.out] at this; exact this⟩
                    have hwX := hE.trans hX
                    clear hca hcb hkb hy hU hr1 hGx
                    have hkd : decide ((k : Int) < (nB : Int)) = true := decide_eq_true (by omega)
                    by_cases heq : x = y
                    · have hd : decide (x = y) = true := decide_eq_true heq
                      rw [hd] at hbq
                      by_cases hUW : U + 1 = W
                      · have hue : ((U : Int) + 1 == (W : Int)) = true := by simp; omega
                        have hbv := HBY.out k hjk (HSV.out heq hUW) HK.out
                        have hst := HSt.out
                        rw [if_neg hW0, hbv] at hst
                        simp only at hst
                        rw [show j + (k - j) = k by omega] at hst
                        have HP' : Hid ((pre ++ [(i, k)]) ++ commonL (a.drop (i + 1)) (i + 1) (b.drop (k + 1)) (k + 1) = L) := by
                          have h1 := HP.out
                          rw [hst] at h1
                          rw [List.append_assoc]
                          exact h1
                        have hprl : pre.length < nA + 1 := by
                          have h1 := congrArg List.length HP'.out
                          have h2 := HCL.out
                          simp at h1; omega
                        have hke : ((k : Int) == (nB : Int)) = false := by simp; omega
                        clear HP HSt HBN HBY hbv hst HNS HSV HYk HU HK HW
                        go_wp2
                        refine FY.wp_flow (X := fun _ _ => True) (0 :: 1 :: 2 :: 3 :: 4 :: 5 :: 6 :: 7 :: 8 :: 9 :: 10 :: 11 :: 12 :: 13 :: 14 :: 15 :: 16 :: 17 :: 18 :: 19 :: 20 :: 21 :: 22 :: 23 :: 24 :: 25 :: 26 :: 27 :: 28 :: 29 :: 30 :: 31 :: 32 :: 33 :: 34 :: 35 :: []) (fun _ => .reads) (by kernel_rfl) (by kernel_rfl) ?_
                        have hD : ∀ g : FY.At (fun _ _ => False) wr.drew, Ext wr g.w := fun g => ((Keep.refl _ wr).drew).trans g.ext
                        have d1 := fun g => (hD g).cell q1
                        have d2 := fun g => (hD g).cell q2
                        have d3 := fun g => (hD g).cell q3
                        have d4 := fun g => (hD g).cell q4
                        have d5 := fun g => (hwX.trans (hD g)).cell hcA'
                        have d6 := fun g => (hwX.trans (hD g)).cell hcB'
                        repeat (first | (refine FY.flow_r rfl rfl rfl ?_; go_big_quiet_step (fail); refine wpQuiet_nil ?_) | (refine FY.flow_sq rfl rfl rfl ?_; simp only [Act.put, List.setIfInBounds_toArray, List.set_cons_succ, List.set_cons_zero]))
                        refine FY.flow_end (fun wc hE9 _ => ?_)
                        have hE8 : Ext wr wc := ((Keep.refl _ wr).drew).trans hE9
                        have hX8 := hX.trans hE8
                        have hown8 := hE8.owns hown
                        clear d1 d2 d3 d4 d5 d6 hD q1 q2 q3 q4 hcA' hcB' hown hE8 hE9 hwX
                        have hsrc : Row 2 (wc.alloc (.cells #[.int .i64 (i : Int), .int .i64 (k : Int)] 27)) (some ⟨wc.heap.size, 0, none⟩) 1 1 [.int .i64 (i : Int), .int .i64 (k : Int)] := by
                          obtain ⟨_, _, q1, q2⟩ := owns_row (World.ownsRow_lit (base := 0) (e := 27) (size := 2) wc #[.int .i64 (i : Int), .int .i64 (k : Int)] 1 (Nat.zero_le _) (by simp [maxLen]) rfl)
                          cases q1; exact q2
                        obtain ⟨v', w', hrun, hown', hgrow, _⟩ := run_append_row (wc.alloc (.cells #[.int .i64 (i : Int), .int .i64 (k : Int)] 27)) W1.heap.size 23 23 27 _ 2 16 Try.underlying23 info_pair rfl (by decide) (hown8.alloc _) hsrc (by simp [Value.oneCell']) (by unfold maxLen; omega) (by omega) (by have := hX8.size; simp; omega)
                        have hEw : Ext W1 w' := Ext.of_below (((Ext.below hX8).alloc hX8.size _).grown hgrow (by have := hX8.size; simp; omega) (fun g hg => (hown8.lt g hg).1))
                        obtain ⟨a2, c2, rfl, _⟩ := owns_row hown'
                        rw [show pairsC pre ++ [Value.int .i64 (i : Int), .int .i64 (k : Int)] = pairsC (pre ++ [(i, k)]) from by rw [pairsC_snoc]; rfl] at hown'
                        have hlen : (pre ++ [(i, k)]).length = pre.length + 1 := by simp
                        have Hrun := Lib.hid hrun
                        have hrel2 : ∃ pre' : List (Nat × Nat), Value.slice a2 (pre.length + 1) c2 = .slice a2 pre'.length c2 ∧ w'.ownsRow W1.heap.size 27 2 (.slice a2 pre'.length c2) pre'.length (pairsC pre') ∧ Hid (pre' ++ commonL (a.drop (i + 1)) (i + 1) (b.drop (k + 1)) (k + 1) = L) :=
                          ⟨pre ++ [(i, k)], by rw [hlen], by rw [hlen]; exact hown', HP'⟩
                        obtain ⟨pre', e1, e2, e3⟩ := hrel2
                        clear hlen hown' HP' hrun hsrc hgrow hown8 hX8
                        go_wp2_with (at_builtin; go_must (refine wpList_append_run Hrun.out rfl rfl rfl rfl ?_))
                        go_roundw
                        case rel => exact ⟨i + 1, k + 1, pre', a2, c2, by omega, by omega, by go_num, by go_num, by first | rfl | exact e1, e2, e3, hEw⟩
                        case measure => simp [intOf] <;> omega
                      · have hue : ((U : Int) + 1 == (W : Int)) = false := by simp; omega
                        have HK' : Hid (∀ m, j ≤ m → m < k + 1 → ¬ serves a b i x W m) := fun m h1 h2 => by
                          by_cases hm : m = k
                          · subst hm; exact HNS.out (by rintro ⟨_, h⟩; exact hUW h)
                          · exact HK.out m h1 (by omega)
                        clear HNS HSV HYk HU
                        go_wp2
                        refine FY.wp_flow (X := fun _ _ => True) (0 :: 1 :: 2 :: 3 :: 4 :: 5 :: 6 :: 7 :: 8 :: 9 :: 10 :: 11 :: 12 :: 13 :: 14 :: 15 :: 16 :: 17 :: 18 :: 19 :: 20 :: 21 :: 22 :: 23 :: 24 :: 25 :: 26 :: 27 :: 28 :: 29 :: 30 :: 31 :: 32 :: 33 :: 34 :: 35 :: []) (fun _ => .reads) (by kernel_rfl) (by kernel_rfl) ?_
                        have hD : ∀ g : FY.At (fun _ _ => False) wr.drew, Ext wr g.w := fun g => ((Keep.refl _ wr).drew).trans g.ext
                        have d1 := fun g => (hD g).cell q1
                        have d2 := fun g => (hD g).cell q2
                        have d3 := fun g => (hD g).cell q3
                        have d4 := fun g => (hD g).cell q4
                        have d5 := fun g => (hwX.trans (hD g)).cell hcA'
                        have d6 := fun g => (hwX.trans (hD g)).cell hcB'
                        repeat (first | (refine FY.flow_r rfl rfl rfl ?_; go_big_quiet_step (fail); refine wpQuiet_nil ?_) | (refine FY.flow_sq rfl rfl rfl ?_; simp only [Act.put, List.setIfInBounds_toArray, List.set_cons_succ, List.set_cons_zero]))
                        refine FY.flow_end (fun wc hE9 _ => ?_)
                        have hE8 : Ext wr wc := ((Keep.refl _ wr).drew).trans hE9
                        have hX8 := hX.trans hE8
                        have hown8 := hE8.owns hown
                        clear d1 d2 d3 d4 d5 d6 hD q1 q2 q3 q4 hcA' hcB' hown hE8 hE9 hwX
                        go_wp2
                        go_roundw
                        case rel => exact ⟨k + 1, by omega, by omega, by go_num, HK', hown8, hX8⟩
                        case measure => simp [intOf] <;> omega
                    · have hd : decide (x = y) = false := decide_eq_false heq
                      rw [hd] at hbq
                      have HK' : Hid (∀ m, j ≤ m → m < k + 1 → ¬ serves a b i x W m) := fun m h1 h2 => by
                        by_cases hm : m = k
                        · subst hm; exact HNS.out (by rintro ⟨h, _⟩; exact heq h)
                        · exact HK.out m h1 (by omega)
                      clear HNS HSV HYk HU
                      go_wp2
                      refine FY.wp_flow (X := fun _ _ => True) (0 :: 1 :: 2 :: 3 :: 4 :: 5 :: 6 :: 7 :: 8 :: 9 :: 10 :: 11 :: 12 :: 13 :: 14 :: 15 :: 16 :: 17 :: 18 :: 19 :: 20 :: 21 :: 22 :: 23 :: 24 :: 25 :: 26 :: 27 :: 28 :: 29 :: 30 :: 31 :: 32 :: 33 :: 34 :: 35 :: []) (fun _ => .reads) (by kernel_rfl) (by kernel_rfl) ?_
                      have hD : ∀ g : FY.At (fun _ _ => False) wr.drew, Ext wr g.w := fun g => ((Keep.refl _ wr).drew).trans g.ext
                      have d1 := fun g => (hD g).cell q1
                      have d2 := fun g => (hD g).cell q2
                      have d3 := fun g => (hD g).cell q3
                      have d4 := fun g => (hD g).cell q4
                      have d5 := fun g => (hwX.trans (hD g)).cell hcA'
                      have d6 := fun g => (hwX.trans (hD g)).cell hcB'
                      repeat (first | (refine FY.flow_r rfl rfl rfl ?_; go_big_quiet_step (fail); refine wpQuiet_nil ?_) | (refine FY.flow_sq rfl rfl rfl ?_; simp only [Act.put, List.setIfInBounds_toArray, List.set_cons_succ, List.set_cons_zero]))
                      refine FY.flow_end (fun wc hE9 _ => ?_)
                      have hE8 : Ext wr wc := ((Keep.refl _ wr).drew).trans hE9
                      have hX8 := hX.trans hE8
                      have hown8 := hE8.owns hown
                      clear d1 d2 d3 d4 d5 d6 hD q1 q2 q3 q4 hcA' hcB' hown hE8 hE9 hwX
                      go_wp2
                      go_roundw
                      case rel => exact ⟨k + 1, by omega, by omega, by go_num, HK', hown8, hX8⟩
                      case measure => simp [intOf] <;> omega
                  · obtain rfl : k = nB := by omega
                    have hbn := HBN.out HK.out
                    have HP' : Hid (pre ++ commonL (a.drop (i + 1)) (i + 1) (b.drop j) j = L) := by
                      have h1 := HP.out
                      rw [HSt.out, if_neg hW0, hbn] at h1
                      exact h1
                    clear hbn HBN HBY HSt HP HK q1 q2 hGx HW hwb
                    go_wp2
                    refine FY.wp_flow (X := fun _ _ => True) (0 :: 1 :: 2 :: 3 :: 4 :: 5 :: 6 :: 7 :: 8 :: 9 :: 10 :: 11 :: 12 :: 13 :: 14 :: 15 :: 16 :: 17 :: 18 :: 19 :: 20 :: 21 :: 22 :: 23 :: 24 :: 25 :: 26 :: 27 :: 28 :: 29 :: 30 :: 31 :: 32 :: 33 :: 34 :: 35 :: []) (fun _ => .reads) (by kernel_rfl) (by kernel_rfl) ?_
                    repeat (first | (refine FY.flow_r rfl rfl rfl ?_; go_big_quiet_step (fail); refine wpQuiet_nil ?_) | (refine FY.flow_sq rfl rfl rfl ?_; simp only [Act.put, List.setIfInBounds_toArray, List.set_cons_succ, List.set_cons_zero]))
                    refine FY.flow_end (fun wc hE9 _ => ?_)
                    have hE8 : Ext wr wc := ((Keep.refl _ wr).drew).trans hE9
                    have hX8 := hX.trans hE8
                    have hown8 := hE8.owns hown
                    clear hown hE8 hE9
                    go_wp2
                    go_roundw
                    case rel => exact ⟨i + 1, j, pre, ao, co, by omega, hj, by go_num, rfl, rfl, hown8, HP', hX8⟩
                    case measure => simp [intOf] <;> omega
            · obtain rfl : i = nA := by omega
              have hpre : pre = L := by
                have h1 := HP.out
                rw [List.drop_eq_nil_of_le (by have := HLA.out; omega)] at h1
                simpa [commonL] using h1
              clear HP
              subst hpre
              go_wp2
              exact ⟨_, _, rfl, owns_mono hown hE.size, hE.trans hX⟩
end Go.Proofs.Ythedpnnfkmbdpaa
