/-
  diff3: slices.Equal and slices.Clone of lines, kind, hunk.
-/
import Derived.Test.YthedpnnfkmbdpaaLinM
import Derived.Test.YthedpnnfkmbdpaaDfA
import Derived.Test.YthedpnnfkmbdpaaFlowZ
import Derived.Test.YthedpnnfkmbdpaaFlowW
namespace Go.Proofs.Ythedpnnfkmbdpaa
open Go.RowKit Go.Shelf

attribute [local go_sem] Oper.semAt_some

abbrev strV (l : List ByteArray) : List Value := l.map Value.string

set_option maxHeartbeats 2000000 in
theorem equalS_any (a b : Option Addr) (n c m d : Nat) (xs ys : List ByteArray) (w : World) (hx : Row 1 w a n c (xs.map Value.string)) (hy : Row 1 w b m d (ys.map Value.string)) :
    Calls Try.prog 33 #[.slice a n c, .slice b m d] w fun e w' => e = .returned (.bool (decide (xs = ys))) ∧ Ext w w' := by
  have hlx : xs.length = n := by have := hx.2.2.1; simpa using this
  have hly : ys.length = m := by have := hy.2.2.1; simpa using this
  have hmx := hx.2.1
  have hnc := hx.1
  unfold maxLen at hmx
  have HLX := Lib.hid hlx
  have HLY := Lib.hid hly
  clear hlx hly
  refine calls_cps fun R hR => ?_
  have HR := Lib.hid hR
  clear hR
  by_cases hne : n = m
  · subst hne
    have hb : ((n : Int) != (n : Int)) = false := by simp
    go_enter Try.func33, Try.ntmps33
    go_wp2
    go_loopw [13] (fun i wr => ∃ k : Nat, k ≤ n ∧ i = .int .i64 k ∧ Hid (∀ j, j < k → xs[j]? = ys[j]?) ∧ Ext w wr) (fun i _ => n - (intOf i).toNat)
    case atStart => exact ⟨0, by omega, rfl, Lib.hid (fun j hj => by omega), Keep.refl _ _⟩
    case round =>
      obtain ⟨k, hk, rfl, HJ, hE⟩ := hrel
      by_cases hlt : k < n
      · obtain ⟨x, hxk⟩ : ∃ x, xs[k]? = some x := ⟨_, List.getElem?_eq_getElem (by have := HLX.out; omega)⟩
        obtain ⟨y, hyk⟩ : ∃ y, ys[k]? = some y := ⟨_, List.getElem?_eq_getElem (by have := HLY.out; omega)⟩
        obtain ⟨bx, ox, rfl, hcellx⟩ := hx.2.2.2.2 (by omega)
        obtain ⟨by', oy, rfl, hcelly⟩ := hy.2.2.2.2 (by omega)
        have hD : ∀ g : FY.At (fun _ _ => False) wr.drew, Ext w g.w := fun g => (hE.drew).trans g.ext
        have c1 := fun g => Ext.cell (hD g) (hcellx k (.string x) (by rw [List.getElem?_map, hxk]; rfl))
        have c2 := fun g => Ext.cell (hD g) (hcelly k (.string y) (by rw [List.getElem?_map, hyk]; rfl))
        have hE' := hE.drew
        have HX := Lib.hid hxk
        have HY := Lib.hid hyk
        have hbq := ba_beq x y
        clear hcellx hcelly hxk hyk
        go_wp2
        refine FY.wp_flow (X := fun _ _ => False) (0 :: 1 :: 2 :: 3 :: 4 :: 5 :: 6 :: 7 :: 8 :: []) (fun _ => .reads) (by kernel_rfl) (by kernel_rfl) ?_
        iterate 9 (refine FY.flow_r rfl rfl rfl ?_; go_big_quiet_step (fail); refine wpQuiet_nil ?_)
        refine FY.flow_end (fun w1 hE1 _ => ?_)
        have hEn := hE'.trans hE1
        clear c1 c2 hD hbq
        by_cases he : x = y
        · have hd : decide (x = y) = true := by simp [he]
          try rw [hd]
          have HJ' : Hid (∀ j, j < k + 1 → xs[j]? = ys[j]?) := Lib.hid (fun j hj => by
            by_cases h : j < k
            · exact HJ.out j h
            · obtain rfl : j = k := by omega
              rw [HX.out, HY.out, he])
          clear HJ
          go_wp2
          go_round
          case rel => exact ⟨k + 1, by omega, by go_num, HJ', hEn⟩
          case measure => simp [intOf]; omega
        · have hd : decide (x = y) = false := by simp [he]
          try rw [hd]
          have hf : decide (xs = ys) = false := by
            simp only [decide_eq_false_iff_not]
            rintro rfl
            have := HX.out.symm.trans HY.out
            cases this
            exact he rfl
          have hfin := HR.out (.returned (.bool false)) w1 ⟨by rw [hf], hEn⟩
          clear HR
          go_wp2
          exact hfin
      · have hf : decide (xs = ys) = true := decide_eq_true (List.ext_getElem? fun j => by
          have h1 := HLX.out
          have h2 := HLY.out
          by_cases hj : j < k
          · exact HJ.out j hj
          · rw [List.getElem?_eq_none (by omega), List.getElem?_eq_none (by omega)])
        have hfin := HR.out (.returned (.bool true)) wr ⟨by rw [hf], hE⟩
        clear HR
        go_wp2
        exact hfin
  · have hb : ((n : Int) != (m : Int)) = true := by simp; omega
    have hf : decide (xs = ys) = false := by
      simp only [decide_eq_false_iff_not]
      rintro rfl
      have h1 := HLX.out
      have h2 := HLY.out
      omega
    have hfin := HR.out (.returned (.bool false)) w ⟨by rw [hf], Keep.refl _ _⟩
    clear HR
    go_enter Try.func33, Try.ntmps33
    go_wp2
    exact hfin

set_option maxHeartbeats 2000000 in
theorem kind_any (a1 a2 a3 : Option Addr) (n1 c1 n2 c2 n3 c3 : Nat) (x a b : List ByteArray) (w : World) (h1 : Row 1 w a1 n1 c1 (x.map Value.string)) (h2 : Row 1 w a2 n2 c2 (a.map Value.string)) (h3 : Row 1 w a3 n3 c3 (b.map Value.string)) :
    Calls Try.prog 32 #[.slice a1 n1 c1, .slice a2 n2 c2, .slice a3 n3 c3] w fun e w' => e = .returned (.int .i64 (kindL x a b)) ∧ Ext w w' := by
  refine calls_cps fun R hR => ?_
  have HR := Lib.hid hR
  clear hR
  have e1 := equalS_any a2 a3 n2 c2 n3 c3 a b w h2 h3
  go_enter Try.func32, Try.ntmps32
  go_wp2_with fail
  refine e1.mono ?_
  rintro e w1 ⟨rfl, E1⟩
  have e2 := equalS_any a3 a1 n3 c3 n1 c1 b x w1 (h3.ext E1) (h1.ext E1)
  clear e1
  by_cases q1 : a = b
  · have hfin := HR.out (.returned (.int .i64 4)) w1 ⟨by unfold kindL; rw [if_pos q1], E1⟩
    rw [decide_eq_true q1]
    clear e2 h1 h2 h3 HR
    go_wp2
    exact hfin
  · rw [decide_eq_false q1]
    go_wp2_with fail
    refine e2.mono ?_
    rintro e w2 ⟨rfl, E2⟩
    have e3 := equalS_any a2 a1 n2 c2 n1 c1 a x w2 ((h2.ext E1).ext E2) ((h1.ext E1).ext E2)
    have E12 := E1.trans E2
    clear e2
    by_cases q2 : b = x
    · have hfin := HR.out (.returned (.int .i64 2)) w2 ⟨by unfold kindL; rw [if_neg q1, if_pos q2], E12⟩
      rw [decide_eq_true q2]
      clear e3 h1 h2 h3 HR
      go_wp2
      exact hfin
    · rw [decide_eq_false q2]
      go_wp2_with fail
      refine e3.mono ?_
      rintro e w3 ⟨rfl, E3⟩
      have E123 := E12.trans E3
      clear e3 h1 h2 h3
      by_cases q3 : a = x
      · have hfin := HR.out (.returned (.int .i64 3)) w3 ⟨by unfold kindL; rw [if_neg q1, if_neg q2, if_pos q3], E123⟩
        rw [decide_eq_true q3]
        clear HR
        go_wp2
        exact hfin
      · have hfin := HR.out (.returned (.int .i64 5)) w3 ⟨by unfold kindL; rw [if_neg q1, if_neg q2, if_neg q3], E123⟩
        rw [decide_eq_false q3]
        clear HR
        go_wp2
        exact hfin

set_option maxRecDepth 20000 in
set_option maxHeartbeats 1000000 in
theorem cloneS_any (a : Option Addr) (n c : Nat) (l : List ByteArray) (w : World) (h : Row 1 w a n c (l.map Value.string)) (hn : n ≤ 1000000) :
    Calls Try.prog 40 #[.slice a n c] w fun e w' => ∃ v, e = .returned v ∧ w'.ownsRow w.heap.size 9 1 v n (l.map Value.string) ∧ Ext w w' := by
  refine calls_cps fun R hR => ?_
  have heq := fun w => Lib.run_eql_slice_nil (P := Try.prog) w 22 9 a n c 0 0 Try.underlying22
  go_enter Try.func40, Try.ntmps40
  cases a with
  | none =>
    simp only [Option.isNone_none] at heq
    have hc0 : c = 0 := h.2.2.2.1 rfl
    have hn0 : n = 0 := by have := h.1; omega
    subst hn0
    have H := Lib.hid h
    clear h hc0
    go_wp2
    exact ⟨_, rfl, ⟨by simpa using (H.out).2.2.1, .inl ⟨rfl, rfl⟩⟩, Keep.refl _ _⟩
  | some p =>
    simp only [Option.isNone_some] at heq
    have hown0 := World.ownsRow_lit (base := w.heap.size) (e := 9) (size := 1) w #[] 0 (Nat.le_refl _) (by simp [maxLen]) rfl
    have eA : Ext w (w.alloc (.cells #[] 9)) := (Keep.refl _ w).alloc _
    obtain ⟨v', w', hrun, hown', hgrow, _⟩ := run_append_row (w.alloc (.cells #[] 9)) w.heap.size 22 22 9 _ 1 16 Try.underlying22 info_str rfl (by decide) hown0 (h.ext eA) (by intro u hu; obtain ⟨x, _, rfl⟩ := List.mem_map.1 hu; rfl) (by unfold maxLen; omega) (by omega) (by simp)
    rw [Nat.zero_add, List.nil_append] at hown'
    obtain ⟨a2, c2, rfl, hr2⟩ := owns_row hown'
    have hE : Ext w w' := Keep.grown eA hgrow (fun k o hk ho => by cases hk; have := Keep.lt ho; simp at this)
    have Hrun := Lib.hid hrun
    have HB := Lib.hid hown'
    clear hrun hown0 hown' h hr2
    go_wp2_with (at_builtin; go_must (refine wpList_append_run Hrun.out rfl rfl rfl rfl ?_))
    exact ⟨_, rfl, HB.out, hE⟩
end Go.Proofs.Ythedpnnfkmbdpaa
