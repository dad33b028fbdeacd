/-
  lines.Common.
-/
import Derived.Test.YthedpnnfkmbdpaaLinC
namespace Go.Proofs.Ythedpnnfkmbdpaa
open Go.RowKit Go.Shelf

theorem info_pair : (Try.prog.info? 27).map (fun i => (i.zero, i.size, i.bytes)) = some (some (.agg #[.int .i64 0, .int .i64 0]), 2, 16) := by kernel_rfl

/-- Pairs as cells. -/
def pairC (p : Nat × Nat) : List Value := [.int .i64 (p.1 : Int), .int .i64 (p.2 : Int)]
def pairsC (l : List (Nat × Nat)) : List Value := l.flatMap pairC
theorem pairsC_length (l : List (Nat × Nat)) : (pairsC l).length = l.length * 2 := by
  induction l with
  | nil => rfl
  | cons p t ih => rw [show pairsC (p :: t) = pairC p ++ pairsC t from rfl, List.length_append, ih, List.length_cons]; simp [pairC]; omega
theorem pairsC_snoc (l : List (Nat × Nat)) (p : Nat × Nat) : pairsC (l ++ [p]) = pairsC l ++ pairC p := by simp [pairsC, List.flatMap_append]

theorem owns_mono {w : World} {base base' e sz n : Nat} {v : Value} {xs : List Value} (h : w.ownsRow base e sz v n xs) (hb : base' ≤ base) : w.ownsRow base' e sz v n xs :=
  ⟨h.1, h.2.imp id (fun ⟨g, cap, cur, h1, h2, h3⟩ => ⟨g, cap, cur, h1, Nat.le_trans hb h2, h3⟩)⟩

theorem commonL_step {a b : List ByteArray} {i j : Nat} {x : ByteArray} (hx : a[i]? = some x) :
    commonL (a.drop i) i (b.drop j) j = if lcsAt a b i j = 0 then [] else match beginsV a b i j x with
      | none => commonL (a.drop (i + 1)) (i + 1) (b.drop j) j
      | some k => (i, j + k) :: commonL (a.drop (i + 1)) (i + 1) (b.drop (j + k + 1)) (j + k + 1) := by
  obtain ⟨h1, h2⟩ := List.getElem?_eq_some_iff.1 hx
  have e : a.drop i = x :: a.drop (i + 1) := by rw [List.drop_eq_getElem_cons h1, h2]
  unfold lcsAt beginsV lcsAt
  rw [e]
  simp only [commonL, List.drop_drop, Nat.add_assoc]
  rfl
theorem beginsV_lt {a b : List ByteArray} {i j k : Nat} {x : ByteArray} (h : beginsV a b i j x = some k) : j + k < b.length := by
  obtain ⟨h1, _⟩ := beginsL_some h
  simp at h1; omega

set_option maxHeartbeats 2000000 in
theorem common_any (w : World) (aA aB : Option Addr) (nA cA nB cB : Nat) (a b : List ByteArray) (hA : Row 1 w aA nA cA (a.map Value.string)) (hB : Row 1 w aB nB cB (b.map Value.string)) (h1 : nA ≤ 400) (h2 : nB ≤ 400) :
    Calls Try.prog 12 #[.slice aA nA cA, .slice aB nB cB] w fun e w' => ∃ a' c', e = .returned (.slice a' (commonL a 0 b 0).length c') ∧
      w'.ownsRow w.heap.size 27 2 (.slice a' (commonL a 0 b 0).length c') (commonL a 0 b 0).length (pairsC (commonL a 0 b 0)) ∧ Ext w w' := by
  have hlA : a.length = nA := by have := hA.2.2.1; simpa using this
  have hlB : b.length = nB := by have := hB.2.2.1; simpa using this
  have hCL : (commonL a 0 b 0).length ≤ nA := by rw [commonL_length, ← hlA]; exact lcs_le_length a b
  obtain ⟨L, hL⟩ : ∃ L, commonL a 0 b 0 = L := ⟨_, rfl⟩
  rw [hL] at hCL ⊢
  have hAB : ∀ p, aA = some p → 0 < nA → p.block ≠ w.heap.size := fun p hp h0 => by
    obtain ⟨bb, ob, h3, h4⟩ := hA.2.2.2.2 h0
    rw [hp] at h3; cases h3
    have := World.block_lt_of_cell? w _ (h4 0 _ (List.getElem?_eq_getElem (by simp; omega)))
    simp at this ⊢; omega
  have hBB : ∀ p, aB = some p → 0 < nB → p.block ≠ w.heap.size := fun p hp h0 => by
    obtain ⟨bb, ob, h3, h4⟩ := hB.2.2.2.2 h0
    rw [hp] at h3; cases h3
    have := World.block_lt_of_cell? w _ (h4 0 _ (List.getElem?_eq_getElem (by simp; omega)))
    simp at this ⊢; omega
  have hE1 : Ext w (w.alloc (.cells #[.slice aA nA cA, .slice aB nB cB, .slice none 0 0] 54)) := (Keep.refl _ w).alloc _
  have hbox : (w.alloc (.cells #[.slice aA nA cA, .slice aB nB cB, .slice none 0 0] 54)).heap[w.heap.size]? = some (.cells #[.slice aA nA cA, .slice aB nB cB, .slice none 0 0] 54 (0, 0)) := World.alloc_heap_new w _
  have hfill := fill_any _ w.heap.size aA aB nA cA nB cB a b hbox (hA.ext hE1) (hB.ext hE1) h1 h2 hAB hBB
  have hCm := hA.1
  have hCm2 := hA.2.1
  have HLA := Lib.hid hlA
  have HLB := Lib.hid hlB
  have HL := Lib.hid hL
  clear hlA hlB hL hbox
  refine calls_cps fun R hR => ?_
  go_enter Try.func12, Try.ntmps12
  go_wp2; go_step3
  go_wp2_with fail
  refine hfill.mono ?_; rintro e w1 ⟨rfl, hT, hK⟩
  go_wp2
  go_step3
  have hE : Ext w w1 := ((Keep.of_ext hE1).trans hK).mono (fun k o ho hx => by have := Keep.lt ho; replace hx : k = w.heap.size := hx; omega)
  have hA1 := hA.ext hE
  have hB1 := hB.ext hE
  clear hK hfill hE1 hAB hBB
  obtain ⟨bs, hbs⟩ : ∃ bs, (w.alloc (.cells #[.slice aA nA cA, .slice aB nB cB, .slice none 0 0] 54)).heap.size = bs := ⟨_, rfl⟩
  rw [hbs] at hT
  clear hbs
  go_wp2
  go_loopw [6, 7, 26] (fun out fr ix wr => ∃ (i j : Nat) (pre : List (Nat × Nat)) (ao : Option Addr) (co : Nat), i ≤ nA ∧ j ≤ nB ∧ ix = .int .i64 i ∧ fr = .int .i64 j ∧ out = .slice ao pre.length co ∧
      wr.ownsRow w1.heap.size 27 2 (.slice ao pre.length co) pre.length (pairsC pre) ∧ Hid (pre ++ commonL (a.drop i) i (b.drop j) j = L) ∧ Ext w1 wr) (fun _ _ ix _ => nA - (intOf ix).toNat)
  case atStart => exact ⟨0, 0, [], none, 0, by omega, by omega, rfl, rfl, rfl, World.ownsRow_nil _ _ _ _, HL.out, Keep.refl _ _⟩
  case round =>
    obtain ⟨i, j, pre, ao, co, hi, hj, rfl, rfl, rfl, hown, HP, hX⟩ := hrel
    unfold maxLen at hCm2
    by_cases hlt : i < nA
    · have hia : i < a.length := by have := HLA.out; omega
      have HXi : Hid (a[i]? = some a[i]) := List.getElem?_eq_getElem hia
      obtain ⟨x, hx⟩ : ∃ x, a[i] = x := ⟨_, rfl⟩
      rw [hx] at HXi
      clear hx hia
      have hstep := commonL_step (b := b) (j := j) HXi.out
      have bW := lcsAt_le a b i j
      have hla := HLA.out
      rw [hla] at bW
      clear hla
      obtain ⟨W, hW⟩ : ∃ W, lcsAt a b i j = W := ⟨_, rfl⟩
      have HW := fun w' (h : Tab w' bs w.heap.size bs aA aB nA cA nB cB ((nA + 1) * (nB + 1)) (tabL a b nB)) => at_int w' _ _ _ _ _ _ _ _ _ _ _ h i j W i j rfl rfl (by omega) hj rfl h1 h2 (by rw [tabL_at a b i hj, hW])
      have HBg := fun w' (h : Tab w' bs w.heap.size bs aA aB nA cA nB cB ((nA + 1) * (nB + 1)) (tabL a b nB)) (hE : Ext w1 w') => begins_any w' _ _ _ aA aB nA cA nB cB _ a b h (hA1.ext hE) (hB1.ext hE) h1 h2 rfl i j hlt hj x HXi.out
      rw [hW] at hstep bW
      have hTr := hT.ext hX
      have HSt := Lib.hid hstep
      clear hstep hW
      go_wp2_with fail
      refine (HW _ hTr).mono ?_; rintro e wa ⟨rfl, ea⟩
      have hTa := hTr.ext ea
      have hXa := hX.trans ea
      by_cases hW0 : W = 0
      · subst hW0
        have hpre : pre = L := by
          have h1 := HP.out
          rw [HSt.out, if_pos rfl, List.append_nil] at h1
          exact h1
        clear HP HSt HBg
        go_wp2
        subst hpre
        exact ⟨_, _, rfl, owns_mono (ea.owns hown) hE.size, hE.trans hXa⟩
      · have hwb : ((W : Int) == 0) = false := by simp; omega
        go_wp2_with fail
        refine (HBg _ hTa hXa).mono ?_; rintro e wb ⟨rfl, eb⟩
        have hXb := hXa.trans eb
        have hownb := eb.owns (ea.owns hown)
        have hst := HSt.out
        rw [if_neg hW0] at hst
        cases hbv : beginsV a b i j x with
        | none =>
          rw [hbv] at hst
          have HP' : Hid (pre ++ commonL (a.drop (i + 1)) (i + 1) (b.drop j) j = L) := by
            have h1 := HP.out
            rw [hst] at h1
            exact h1
          clear HP HSt HBg hst hbv
          simp only [placeI]
          go_wp2
          go_roundw
          case rel => exact ⟨i + 1, j, pre, ao, co, by omega, hj, by go_num, rfl, rfl, hownb, HP', hXb⟩
          case measure => simp [intOf]; omega
        | some k =>
          have hkl := beginsV_lt hbv
          rw [HLB.out] at hkl
          rw [hbv] at hst
          have HP' : Hid ((pre ++ [(i, j + k)]) ++ commonL (a.drop (i + 1)) (i + 1) (b.drop (j + k + 1)) (j + k + 1) = L) := by
            have h1 := HP.out
            rw [hst] at h1
            rw [List.append_assoc]
            exact h1
          clear HP HSt HBg hst hbv
          simp only [placeI]
          have hprl : pre.length < nA + 1 := by
            have h1 := congrArg List.length HP'.out
            simp at h1; omega
          obtain ⟨m, hm⟩ : ∃ m, j + k = m := ⟨_, rfl⟩
          rw [hm] at HP' hkl ⊢
          have hsrc : Row 2 (wb.alloc (.cells #[.int .i64 (i : Int), .int .i64 (m : Int)] 27)) (some ⟨wb.heap.size, 0, none⟩) 1 1 [.int .i64 (i : Int), .int .i64 (m : Int)] := by
            obtain ⟨_, _, q1, q2⟩ := owns_row (World.ownsRow_lit (base := 0) (e := 27) (size := 2) wb #[.int .i64 (i : Int), .int .i64 (m : Int)] 1 (Nat.zero_le _) (by simp [maxLen]) rfl)
            cases q1; exact q2
          obtain ⟨v', w', hrun, hown', hgrow, _⟩ := run_append_row (wb.alloc (.cells #[.int .i64 (i : Int), .int .i64 (m : Int)] 27)) w1.heap.size 23 23 27 _ 2 16 Try.underlying23 info_pair rfl (by decide) (hownb.alloc _) hsrc (by simp [Value.oneCell']) (by unfold maxLen; omega) (by omega) (by have := hXb.size; simp; omega)
          have hEw : Ext w1 w' := Ext.of_below (((Ext.below hXb).alloc hXb.size _).grown hgrow (by have := hXb.size; simp; omega) (fun g hg => (hownb.lt g hg).1))
          obtain ⟨a2, c2, rfl, _⟩ := owns_row hown'
          rw [show pairsC pre ++ [Value.int .i64 (i : Int), .int .i64 (m : Int)] = pairsC (pre ++ [(i, m)]) from by rw [pairsC_snoc]; rfl] at hown'
          have hlen : (pre ++ [(i, m)]).length = pre.length + 1 := by simp
          have Hrun := Lib.hid hrun
          clear hrun hsrc hm
          have hrel2 : ∃ pre' : List (Nat × Nat), Value.slice a2 (pre.length + 1) c2 = .slice a2 pre'.length c2 ∧ w'.ownsRow w1.heap.size 27 2 (.slice a2 pre'.length c2) pre'.length (pairsC pre') ∧ Hid (pre' ++ commonL (a.drop (i + 1)) (i + 1) (b.drop (m + 1)) (m + 1) = L) :=
            ⟨pre ++ [(i, m)], by rw [hlen], by rw [hlen]; exact hown', HP'⟩
          obtain ⟨pre', e1, e2, e3⟩ := hrel2
          clear hlen hown' HP'
          go_wp2_with (at_builtin; go_must (refine wpList_append_run Hrun.out rfl rfl rfl rfl ?_))
          go_roundw
          case rel => exact ⟨i + 1, m + 1, pre', a2, c2, by omega, by omega, by go_num, by go_num, rfl, e2, e3, hEw⟩
          case measure => simp [intOf]; omega
    · obtain rfl : i = nA := by omega
      have hpre : pre = L := by
        have h1 := HP.out
        rw [List.drop_eq_nil_of_le (by have := HLA.out; omega)] at h1
        simpa [commonL] using h1
      clear HP
      subst hpre
      go_wp2
      exact ⟨_, _, rfl, owns_mono hown hE.size, hE.trans hX⟩
end Go.Proofs.Ythedpnnfkmbdpaa
