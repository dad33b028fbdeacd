/-
  lines.Script, walked.
-/
import Derived.Test.YthedpnnfkmbdpaaLinG
import Derived.Test.YthedpnnfkmbdpaaFlowX
namespace Go.Proofs.Ythedpnnfkmbdpaa
open Go.RowKit Go.Shelf Go.Maps

set_option maxHeartbeats 4000000 in
theorem script_any (w : World) (aA aB : Option Addr) (nA cA nB cB : Nat) (a b : List ByteArray) (hA : Row 1 w aA nA cA (a.map Value.string)) (hB : Row 1 w aB nB cB (b.map Value.string)) (h1 : nA ≤ 400) (h2 : nB ≤ 400) :
    Calls Try.prog 15 #[.slice aA nA cA, .slice aB nB cB] w fun e w' => ∃ a1 c1 a2 c2, e = .returned (.tuple #[.slice a1 (goneL (commonL a 0 b 0) nA).length c1, .slice a2 (comeL (commonL a 0 b 0) nB).length c2]) ∧
      Row 1 w' a1 (goneL (commonL a 0 b 0) nA).length c1 (natsC (goneL (commonL a 0 b 0) nA)) ∧ Row 1 w' a2 (comeL (commonL a 0 b 0) nB).length c2 (natsC (comeL (commonL a 0 b 0) nB)) ∧ Ext w w' := by
  have hlA : a.length = nA := by have := hA.2.2.1; simpa using this
  have hlB : b.length = nB := by have := hB.2.2.1; simpa using this
  have hCL : (commonL a 0 b 0).length ≤ nA := by rw [commonL_length, ← hlA]; exact lcs_le_length a b
  have hmm := @run_makeMap Try.prog
  have E0 : Ext w ((w.alloc (.map #[] 0)).alloc (.map #[] 0)) := ((Keep.refl _ w).alloc _).alloc _
  have hcom := common_any _ aA aB nA cA nB cB a b (hA.ext E0) (hB.ext E0) h1 h2
  have m1 : BMap Try.prog 3 4 ((w.alloc (.map #[] 0)).alloc (.map #[] 0)) w.heap.size 0 (fun _ => false) := (BMap.made _ _ _ w).ext ((Keep.refl _ _).alloc _)
  have m2 : BMap Try.prog 3 4 ((w.alloc (.map #[] 0)).alloc (.map #[] 0)) (w.heap.size + 1) 0 (fun _ => false) := by
    have := BMap.made Try.prog 3 4 (w.alloc (.map #[] 0)); rw [World.size_alloc] at this; exact this
  obtain ⟨L, hL⟩ : ∃ L, commonL a 0 b 0 = L := ⟨_, rfl⟩
  rw [hL] at hCL hcom ⊢
  refine calls_cps fun R hR => ?_
  go_enter Try.func15, Try.ntmps15
  go_wp2_with fail
  refine hcom.mono ?_; rintro e w1 ⟨a1, c1, rfl, o1, e1⟩
  go_wp2
  obtain ⟨_, _, q1, r1⟩ := owns_row o1
  cases q1
  have hrise : L.Pairwise (fun p q => p.1 < q.1 ∧ p.2 < q.2) := by rw [← hL]; exact commonL_rises _ _ _ _
  have hbnd : ∀ p ∈ L, p.1 < nA ∧ p.2 < nB := fun p hp => by
    rw [← hL] at hp
    have := commonL_lt _ _ _ _ p hp
    rw [hlA, hlB] at this; omega
  have hLc := r1.1
  have hLm := r1.2.1
  unfold maxLen at hLm
  have e01 := E0.trans e1
  replace m1 := m1.ext e1
  replace m2 := m2.ext e1
  have hw1 : w.heap.size + 2 ≤ w1.heap.size := by have := e1.size; simp at this; omega
  obtain ⟨N, hN⟩ : ∃ N, L.length = N := ⟨_, rfl⟩
  have HL := Lib.hid hL
  have HN := Lib.hid hN
  rw [hN] at r1 hCL hLc ⊢
  clear hL hN hcom o1 hlA hlB
  go_loopw [18] (fun ix wr => ∃ k : Nat, k ≤ N ∧ ix = .int .i64 k ∧ BMap Try.prog 3 4 wr w.heap.size k (isA (L.take k)) ∧ BMap Try.prog 3 4 wr (w.heap.size + 1) k (isB (L.take k)) ∧ Row 2 wr a1 N c1 (pairsC L) ∧ Ext w wr ∧ w.heap.size + 2 ≤ wr.heap.size) (fun ix _ => N - (intOf ix).toNat)
  case atStart => exact ⟨0, by omega, rfl, m1, m2, r1, e01, hw1⟩
  case round =>
    clear m1 m2 r1 e01 hw1
    obtain ⟨k, hk, rfl, m1, m2, r1, hE, hw1⟩ := hrel
    by_cases hlt : k < N
    · have hkl : k < L.length := by have := HN.out; omega
      have hpk := List.getElem?_eq_getElem hkl
      obtain ⟨g1, g2⟩ := pairsC_get hpk
      obtain ⟨fr1, fr2⟩ := fresh_of_rises hrise hpk
      obtain ⟨bd1, bd2⟩ := hbnd _ (List.getElem_mem hkl)
      obtain ⟨bl, ol, rfl, hcl⟩ := r1.2.2.2.2 (by omega)
      have d1 := hcl _ _ g1
      have d2 := hcl _ _ g2
      rw [← Nat.add_assoc] at d2
      obtain ⟨p, hp⟩ : ∃ p, L[k] = p := ⟨_, rfl⟩
      obtain ⟨p1, p2⟩ := p
      rw [hp] at d1 d2 fr1 fr2 hpk bd1 bd2
      simp only at d1 d2 fr1 fr2 bd1 bd2
      clear g1 g2 hcl hp hkl
      go_wp2
      have E2 : Ext wr (wr.alloc (.cells #[.int .i64 (p1 : Int), .int .i64 (p2 : Int)] 27)) := (Keep.refl _ wr).alloc _
      have hbox : (wr.alloc (.cells #[.int .i64 (p1 : Int), .int .i64 (p2 : Int)] 27)).heap[wr.heap.size]? = some (.cells #[.int .i64 (p1 : Int), .int .i64 (p2 : Int)] 27 (0, 0)) := World.alloc_heap_new wr _
      obtain ⟨W2, hW2⟩ : ∃ W2, wr.alloc (.cells #[.int .i64 (p1 : Int), .int .i64 (p2 : Int)] 27) = W2 := ⟨_, rfl⟩
      rw [hW2] at E2 hbox ⊢
      clear hW2
      replace m1 := m1.ext E2
      replace m2 := m2.ext E2
      replace r1 := r1.ext E2
      replace hE := hE.trans E2
      obtain ⟨old, hold⟩ : ∃ old, W2.heap[w.heap.size]? = some old := by obtain ⟨D, ⟨es, c, hb, _⟩, _⟩ := m1; exact ⟨_, hb⟩
      have wf1 : (Lit.int .i64 (p1 : Int)).wf = true := WalkArith.wf_i64 (by omega)
      have wf2 : (Lit.int .i64 (p2 : Int)).wf = true := WalkArith.wf_i64 (by omega)
      have hbump : isA (L.take (k + 1)) = fun q => q == ((p1 : Nat) : Int) || isA (L.take k) q := by
        rw [List.take_add_one, hpk]; exact isA_snoc _ (p1, p2)
      have hbumpB : isB (L.take (k + 1)) = fun q => q == ((p2 : Nat) : Int) || isB (L.take k) q := by
        rw [List.take_add_one, hpk]; exact isB_snoc _ (p1, p2)
      have hk400 : k + 1 ≤ 400 := by omega
      refine FX.wp_flow (X := fun b _ => b = w.heap.size) (fun n => if n = 6 then .bar else if n = 7 then .last else .reads) (by kernel_rfl) (by kernel_rfl) ?_
      have hD : ∀ g : FX.At (fun b _ => b = w.heap.size) W2.drew, Keep (fun b _ => b = w.heap.size) W2 g.w := fun g => ((Keep.refl _ W2).drew).trans g.ext
      have c1' := fun g => cell_of_block ((hD g).block _ _ hbox (fun h => by omega)) 0
      have c2' := fun g => cell_of_block ((hD g).block _ _ hbox (fun h => by omega)) 1
      simp at c1' c2'
      repeat (refine FX.flow_r rfl rfl ?_; go_big_quiet_step (fail); refine wpQuiet_nil ?_)
      refine FX.flow_b rfl rfl (fun i hi hne => ?_) (fun w3 hE3 _ => ?_)
      · have hi8 : i < 8 := hi
        rcases (show i = 0 ∨ i = 1 ∨ i = 2 ∨ i = 3 ∨ i = 4 ∨ i = 5 ∨ i = 7 by omega) with rfl | rfl | rfl | rfl | rfl | rfl | rfl
        all_goals first | exact .inl (.inr ⟨by omega, rfl⟩) | exact .inr (by kernel_rfl)
      · obtain ⟨w4, hrun4, m4, g4⟩ := (m1.ext ((Keep.refl _ W2).drew.trans hE3)).put Try.underlying59 Try.underlying3 Try.underlying4 (by unfold maxLen; omega) wf1
        rw [← hbump] at m4
        have m2' := ((m2.ext ((Keep.refl _ W2).drew.trans hE3))).kept g4 (by simp)
        have r1' := (r1.ext ((Keep.refl _ W2).drew.trans hE3)).keep (Keep.of_grownBy (X := fun b _ => b = w.heap.size) g4 (fun k o h _ => by cases h; rfl)) (fun p o hp ho hc hX => by
          obtain ⟨D, ⟨es, clock, hb, _⟩, _⟩ := m1.ext ((Keep.refl _ W2).drew.trans hE3)
          rw [hX, hb] at ho; cases ho; cases hc)
        clear c1' c2' hD
        go_wp2
        refine ⟨Keep.of_grownBy g4 (fun k o h _ => by cases h; rfl), ?_⟩
        refine FX.flow_l rfl (by kernel_rfl) (fun w5 hE5 _ => ?_)
        obtain ⟨w6, hrun6, m6, g6⟩ := (m2'.ext hE5).put Try.underlying59 Try.underlying3 Try.underlying4 (by unfold maxLen; omega) wf2
        rw [← hbumpB] at m6
        have m4' := (m4.ext hE5).kept g6 (by simp)
        have r5 := (r1'.ext hE5).keep (Keep.of_grownBy (X := fun b _ => b = w.heap.size + 1) g6 (fun k o h _ => by cases h; rfl)) (fun p o hp ho hc hX => by
          obtain ⟨D, ⟨es, clock, hb, _⟩, _⟩ := m2'.ext hE5
          rw [hX, hb] at ho; cases ho; cases hc)
        have hE6 : Ext w w6 := ((((hE.trans ((Keep.refl _ W2).drew.trans hE3)).grown g4 (fun k o hk ho => by cases hk; have := Keep.lt ho; omega)).trans hE5).grown g6 (fun k o hk ho => by cases hk; have := Keep.lt ho; omega))
        have hw6 : w.heap.size + 2 ≤ w6.heap.size := by
          have a1 := E2.size
          have a2 := hE3.size
          have a3 := g4.size
          have a4 := hE5.size
          have a5 := g6.size
          simp at a2
          omega
        clear m1 m2 m2' m4 r1 r1' hE hbox hold hrun4 g4 g6 hE3 hE5 E2 hbump hbumpB fr1 fr2 d1 d2
        go_wp2
        go_roundw
        case rel => exact ⟨k + 1, by omega, by go_num, m4', m6, r5, hE6, hw6⟩
        case measure => simp [intOf]; omega
    · obtain rfl : k = N := by omega
      rw [show L.take k = L from by rw [← HN.out]; exact List.take_length] at m1 m2

      obtain ⟨WA, rfl⟩ : ∃ x, x = wr := ⟨_, rfl⟩
      clear r1 hLc hlt hmm
      go_wp2
      go_loopw [4, 31] (fun out ix wr => ∃ (i : Nat) (ao : Option Addr) (co : Nat), i ≤ nA ∧ ix = .int .i64 i ∧ out = .slice ao (goneL L i).length co ∧ wr.ownsRow WA.heap.size 3 1 (.slice ao (goneL L i).length co) (goneL L i).length (natsC (goneL L i)) ∧ Ext WA wr) (fun _ ix _ => nA - (intOf ix).toNat)
      case atStart => exact ⟨0, none, 0, by omega, rfl, rfl, World.ownsRow_nil _ _ _ _, Keep.refl _ _⟩
      case round =>
        obtain ⟨i, ao, co, hi, rfl, rfl, hown, hX⟩ := hrel
        by_cases hlt : i < nA
        · have hlook := (m1.ext hX).look Try.underlying59 Try.underlying3 Try.underlying4 (zero_bool wr) (i := (i : Int)) (WalkArith.wf_i64 (by omega))
          have hsucc := goneL_succ L i
          have hgl := goneL_length L i
          cases hb : isA L i with
          | true =>
            rw [hb] at hlook hsucc
            simp only [if_true, List.append_nil] at hsucc
            clear hb
            rw [← hsucc] at hown ⊢
            clear hsucc
            go_wp2
            go_roundw
            case rel => exact ⟨i + 1, ao, co, by omega, by go_num, rfl, hown, hX⟩
            case measure => simp [intOf]; omega
          | false =>
            rw [hb] at hlook hsucc
            clear hb
            have hsrc : Row 1 (wr.alloc (.cells #[.int .i64 (i : Int)] 3)) (some ⟨wr.heap.size, 0, none⟩) 1 1 [.int .i64 (i : Int)] := by
              obtain ⟨_, _, q1, q2⟩ := owns_row (World.ownsRow_lit (base := 0) (e := 3) (size := 1) wr #[.int .i64 (i : Int)] 1 (Nat.zero_le _) (by simp [maxLen]) rfl)
              cases q1; exact q2
            obtain ⟨v', w', hrun, hown', hgrow, _⟩ := run_append_row (wr.alloc (.cells #[.int .i64 (i : Int)] 3)) WA.heap.size 31 31 3 _ 1 8 Try.underlying31 info_int rfl (by decide) (hown.alloc _) hsrc (by simp [Value.oneCell']) (by unfold maxLen; omega) (by omega) (by have := hX.size; simp; omega)
            have hEw : Ext WA w' := Ext.of_below (((Ext.below hX).alloc hX.size _).grown hgrow (by have := hX.size; simp; omega) (fun g hg => (hown.lt g hg).1))
            obtain ⟨a2, c2, rfl, _⟩ := owns_row hown'
            have hLe : (goneL L i).length + 1 = (goneL L (i + 1)).length := by rw [hsucc]; simp
            have hCe : natsC (goneL L i) ++ [Value.int .i64 (i : Int)] = natsC (goneL L (i + 1)) := by rw [hsucc]; simp [natsC]
            rw [hCe, hLe] at hown'
            have Hrun := Lib.hid hrun
            rw [hLe] at Hrun
            clear hrun hsrc hCe hLe hsucc
            go_wp2_with (at_builtin; go_must (refine wpList_append_run Hrun.out rfl rfl rfl rfl ?_))
            go_roundw
            case rel => exact ⟨i + 1, a2, c2, by omega, by go_num, rfl, hown', hEw⟩
            case measure => simp [intOf]; omega
        · obtain rfl : i = nA := by omega
          obtain ⟨WB, rfl⟩ : ∃ x, x = wr := ⟨_, rfl⟩
          replace m2 := m2.ext hX
          go_wp2
          go_loopw [5, 45] (fun out ix wr => ∃ (j : Nat) (aq : Option Addr) (cq : Nat), j ≤ nB ∧ ix = .int .i64 j ∧ out = .slice aq (comeL L j).length cq ∧ wr.ownsRow WB.heap.size 3 1 (.slice aq (comeL L j).length cq) (comeL L j).length (natsC (comeL L j)) ∧ Ext WB wr) (fun _ ix _ => nB - (intOf ix).toNat)
          case atStart => exact ⟨0, none, 0, by omega, rfl, rfl, World.ownsRow_nil _ _ _ _, Keep.refl _ _⟩
          case round =>
            obtain ⟨j, aq, cq, hj, rfl, rfl, hown2, hX2⟩ := hrel
            by_cases hlt : j < nB
            · have hlook := (m2.ext hX2).look Try.underlying59 Try.underlying3 Try.underlying4 (zero_bool wr) (i := (j : Int)) (WalkArith.wf_i64 (by omega))
              have hsucc := comeL_succ L j
              have hgl := comeL_length L j
              cases hb : isB L j with
              | true =>
                rw [hb] at hlook hsucc
                simp only [if_true, List.append_nil] at hsucc
                clear hb
                rw [← hsucc] at hown2 ⊢
                clear hsucc
                go_wp2
                go_roundw
                case rel => exact ⟨j + 1, aq, cq, by omega, by go_num, rfl, hown2, hX2⟩
                case measure => simp [intOf]; omega
              | false =>
                rw [hb] at hlook hsucc
                clear hb
                have hsrc : Row 1 (wr.alloc (.cells #[.int .i64 (j : Int)] 3)) (some ⟨wr.heap.size, 0, none⟩) 1 1 [.int .i64 (j : Int)] := by
                  obtain ⟨_, _, q1, q2⟩ := owns_row (World.ownsRow_lit (base := 0) (e := 3) (size := 1) wr #[.int .i64 (j : Int)] 1 (Nat.zero_le _) (by simp [maxLen]) rfl)
                  cases q1; exact q2
                obtain ⟨v', w', hrun, hown', hgrow, _⟩ := run_append_row (wr.alloc (.cells #[.int .i64 (j : Int)] 3)) WB.heap.size 31 31 3 _ 1 8 Try.underlying31 info_int rfl (by decide) (hown2.alloc _) hsrc (by simp [Value.oneCell']) (by unfold maxLen; omega) (by omega) (by have := hX2.size; simp; omega)
                have hEw : Ext WB w' := Ext.of_below (((Ext.below hX2).alloc hX2.size _).grown hgrow (by have := hX2.size; simp; omega) (fun g hg => (hown2.lt g hg).1))
                obtain ⟨a2, c2, rfl, _⟩ := owns_row hown'
                have hLe : (comeL L j).length + 1 = (comeL L (j + 1)).length := by rw [hsucc]; simp
                have hCe : natsC (comeL L j) ++ [Value.int .i64 (j : Int)] = natsC (comeL L (j + 1)) := by rw [hsucc]; simp [natsC]
                rw [hCe, hLe] at hown'
                have Hrun := Lib.hid hrun
                rw [hLe] at Hrun
                clear hrun hsrc hCe hLe hsucc
                go_wp2_with (at_builtin; go_must (refine wpList_append_run Hrun.out rfl rfl rfl rfl ?_))
                go_roundw
                case rel => exact ⟨j + 1, a2, c2, by omega, by go_num, rfl, hown', hEw⟩
                case measure => simp [intOf]; omega
            · obtain rfl : j = nB := by omega
              go_wp2
              obtain ⟨_, _, q1, s1⟩ := owns_row (hX2.owns hown)
              cases q1
              obtain ⟨_, _, q2, s2⟩ := owns_row hown2
              cases q2
              exact ⟨ao, co, aq, cq, rfl, s1, s2, (hE.trans hX).trans hX2⟩
end Go.Proofs.Ythedpnnfkmbdpaa
