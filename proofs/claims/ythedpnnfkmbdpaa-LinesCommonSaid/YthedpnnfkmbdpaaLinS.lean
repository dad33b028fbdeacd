/-
  The law LinesCommon.
-/
import Derived.Test.YthedpnnfkmbdpaaLinR
namespace Go.Proofs.Ythedpnnfkmbdpaa
open Go.RowKit Go.Shelf

attribute [local go_sem] Oper.semAt_some

set_option maxRecDepth 20000 in
set_option maxHeartbeats 4000000 in
theorem linesCommon_any (aA : Option Addr) (nA cA : Nat) (a : List ByteArray) (aB : Option Addr) (nB cB : Nat) (b : List ByteArray) (w : World) (hA : Row 1 w aA nA cA (a.map Value.string)) (hB : Row 1 w aB nB cB (b.map Value.string)) :
    Calls Try.prog 4 #[.slice aA nA cA, .slice aB nB cB] w fun e w' => e = .returned (.bool true) ∧ Ext w w' := by
  have hcA := hA.1
  have hmA := hA.2.1
  have hcB := hB.1
  have hmB := hB.2.1
  unfold maxLen at hmA hmB
  refine calls_cps fun R hR => ?_
  go_enter Try.func4, Try.ntmps4
  go_wp2_with fail
  refine (awake25_any _).mono ?_; rintro e w1 ⟨rfl, e1⟩
  go_wp2_with fail
  refine (few25_any _ _ _ _ _ (hA.ext e1)).mono ?_; rintro e _ ⟨qa, rfl, hqa, rfl⟩
  cases qa with
  | false =>
    go_wp2
    exact ⟨rfl, e1⟩
  | true =>
  have hA24 : nA ≤ 24 := hqa rfl
  clear hqa
  go_wp2_with fail
  refine (few25_any _ _ _ _ _ (hB.ext e1)).mono ?_; rintro e _ ⟨qb, rfl, hqb, rfl⟩
  cases qb with
  | false =>
    go_wp2
    exact ⟨rfl, e1⟩
  | true =>
  have hB24 : nB ≤ 24 := hqb rfl
  clear hqb
  have hcom := common_any w1 aA aB nA cA nB cB a b (hA.ext e1) (hB.ext e1) (by omega) (by omega)
  have href := fun w2 (e2 : Ext w w2) => refCommon_any w2 aA aB nA cA nB cB a b (hA.ext e2) (hB.ext e2) (by omega) (by omega)
  have hscr := fun w2 (e2 : Ext w w2) => script_any w2 aA aB nA cA nB cB a b (hA.ext e2) (hB.ext e2) (by omega) (by omega)
  have hris := commonL_rises a 0 b 0
  have hCL : (commonL a 0 b 0).length ≤ nA := by
    have hlA : a.length = nA := by have := hA.2.2.1; simpa using this
    rw [commonL_length, ← hlA]; exact lcs_le_length a b
  obtain ⟨L, hL⟩ : ∃ L, commonL a 0 b 0 = L := ⟨_, rfl⟩
  rw [hL] at hcom href hscr hris hCL
  clear hL
  obtain ⟨N, hN⟩ : ∃ N, L.length = N := ⟨_, rfl⟩
  rw [hN] at hcom href hCL
  have HN := Lib.hid hN
  have HRA := Lib.hid (aS_rises hris)
  have HRB := Lib.hid (bS_rises hris)
  clear hN hris
  obtain ⟨GN, hGN⟩ : ∃ n, (goneL L nA).length = n := ⟨_, rfl⟩
  obtain ⟨CN, hCN⟩ : ∃ n, (comeL L nB).length = n := ⟨_, rfl⟩
  have hGN2 := goneL_length L nA
  have hCN2 := comeL_length L nB
  rw [hGN] at hscr hGN2
  rw [hCN] at hscr hCN2
  have HGN := Lib.hid hGN
  have HCN := Lib.hid hCN
  clear hGN hCN
  have HSCR := Lib.hid hscr
  clear hscr
  go_wp2_with fail
  refine hcom.mono ?_; rintro e w2 ⟨a2, c2, rfl, o2, e2⟩
  clear hcom
  obtain ⟨_, _, q2, r2⟩ := owns_row o2
  cases q2
  have E2 := e1.trans e2
  have hcm := r2.1
  have hcc := r2.2.1
  unfold maxLen at hcc
  have href' := href w2 E2
  clear o2 href
  go_wp2_with fail
  refine href'.mono ?_; rintro e w3 ⟨a3, c3, rfl, o3, e3⟩
  clear href'
  obtain ⟨_, _, q3, r3⟩ := owns_row o3
  cases q3
  have E3 := E2.trans e3
  have hsame := samePairs_same a2 a3 N c2 c3 L w3 (r2.ext e3) r3
  clear o3 r3
  go_wp2_with fail
  refine hsame.mono ?_; rintro e w4 ⟨rfl, e4⟩
  clear hsame
  have E4 := E3.trans e4
  have hs := HSCR.out w4 E4
  clear HSCR
  go_wp2_with fail
  refine hs.mono ?_; rintro e w5 ⟨b1, d1, b2, d2, rfl, rG, rC, e5⟩
  clear hs
  have E5 := E4.trans e5
  have rL := r2.ext ((e3.trans e4).trans e5)
  have hgm := rG.1
  have hgc := rG.2.1
  have hcm2 := rC.1
  have hcc2 := rC.2.1
  unfold maxLen at hgc hcc2
  clear r2 e1 e2 e3 e4 e5 E2 E3 E4
  go_wp2
  go_loopw [8, 10, 40] (fun jx kx ix wr => ∃ x k i : Nat, x ≤ nA ∧ ix = .int .i64 x ∧ kx = .int .i64 k ∧ jx = .int .i64 i ∧ k ≤ N ∧ i ≤ x ∧ i ≤ GN ∧ Hid (∀ _ : Unit, Below' (aS L) x k ∧ i = (goneL L x).length) ∧ Ext w5 wr) (fun _ _ ix _ => nA - (intOf ix).toNat)
  case atStart => exact ⟨0, 0, 0, by omega, rfl, rfl, rfl, by omega, by omega, by omega, Lib.hid (fun _ => ⟨below_zero _, rfl⟩), Keep.refl _ _⟩
  case round =>
    obtain ⟨x, k, i, hx, rfl, rfl, rfl, hk, hi, hig, HP, hE⟩ := hrel
    by_cases hlt : x < nA
    · obtain ⟨hb, hil⟩ := HP.out ()
      by_cases hkN : k < N
      · obtain ⟨p, hpk⟩ : ∃ p, L[k]? = some p := ⟨_, List.getElem?_eq_getElem (by have := HN.out; omega)⟩
        have hFk : (aS L)[k]? = some p.1 := by unfold aS; rw [List.getElem?_map, hpk]; rfl
        obtain ⟨g1, g2⟩ := pairsC_get hpk
        obtain ⟨bl, ol, rfl, hcl⟩ := rL.2.2.2.2 (by omega)
        have cl := hE.cell (hcl _ _ g1)
        try rw [← Nat.add_assoc] at cl
        obtain ⟨v, hv⟩ : ∃ v, p.1 = v := ⟨_, rfl⟩
        rw [hv] at cl hFk
        try simp only at cl
        clear g1 g2 hcl hv hpk
        by_cases hvx : v = x
        · subst hvx
          have hb2 := below_hit HRA.out hb hFk
          have hmem : v ∈ aS L := List.mem_of_getElem? hFk
          have hg2 := gone_hit hmem
          have HP' : Hid (∀ _ : Unit, Below' (aS L) (v + 1) (k + 1) ∧ i = (goneL L (v + 1)).length) := fun _ => ⟨hb2, by rw [hg2]; exact hil⟩
          clear hb hil hb2 hmem hg2 hFk HP
          go_wp2
          go_roundw
          case rel => exact ⟨v + 1, k + 1, i, by omega, by go_num, by go_num, rfl, by omega, by omega, hig, HP', hE⟩
          case measure => simp [intOf] <;> omega
        · have hd2 : ((v : Int) == (x : Int)) = false := by simp; omega
          obtain ⟨hb2, hni⟩ := below_miss HRA.out hb (by rw [hFk]; simp; omega)
          obtain ⟨hl2, hget⟩ := gone_miss (n := nA) hlt hni
          have hi2 : i < GN := by
            have := (List.getElem?_eq_some_iff.1 hget).1
            rw [HGN.out] at this; omega
          rw [← hil] at hget
          obtain ⟨bg, og, rfl, hcg⟩ := rG.2.2.2.2 (by omega)
          have cg := hE.cell (hcg i (.int .i64 (x : Int)) (by unfold natsC; rw [List.getElem?_map, hget]; rfl))
          have HP' : Hid (∀ _ : Unit, Below' (aS L) (x + 1) k ∧ i + 1 = (goneL L (x + 1)).length) := fun _ => ⟨hb2, by rw [hl2, hil]⟩
          clear hb hil hb2 hni hl2 hget hcg HP
          clear hFk
          go_wp2
          go_roundw
          case rel => exact ⟨x + 1, k, i + 1, by omega, by go_num, rfl, by go_num, hk, by omega, by omega, HP', hE⟩
          case measure => simp [intOf] <;> omega
      · have hFk : (aS L)[k]? ≠ some x := by
          rw [List.getElem?_eq_none (by unfold aS; rw [List.length_map]; have := HN.out; omega)]; simp
        have hkd : decide ((k : Int) < (N : Int)) = false := decide_eq_false (by omega)
        obtain ⟨hb2, hni⟩ := below_miss HRA.out hb hFk
        obtain ⟨hl2, hget⟩ := gone_miss (n := nA) hlt hni
        have hi2 : i < GN := by
          have := (List.getElem?_eq_some_iff.1 hget).1
          rw [HGN.out] at this; omega
        rw [← hil] at hget
        obtain ⟨bg, og, rfl, hcg⟩ := rG.2.2.2.2 (by omega)
        have cg := hE.cell (hcg i (.int .i64 (x : Int)) (by unfold natsC; rw [List.getElem?_map, hget]; rfl))
        have HP' : Hid (∀ _ : Unit, Below' (aS L) (x + 1) k ∧ i + 1 = (goneL L (x + 1)).length) := fun _ => ⟨hb2, by rw [hl2, hil]⟩
        clear hb hil hb2 hni hl2 hget hcg HP
        clear hFk
        go_wp2
        go_roundw
        case rel => exact ⟨x + 1, k, i + 1, by omega, by go_num, rfl, by go_num, hk, by omega, by omega, HP', hE⟩
        case measure => simp [intOf] <;> omega
    · obtain rfl : x = nA := by omega
      have hil : i = GN := by have := (HP.out ()).2; rw [HGN.out] at this; exact this
      subst hil
      clear HP HRA HGN rG
      have hEW := hE
      go_wp2
      go_loopw [9, 10, 75] (fun jx kx ix wr => ∃ x k i : Nat, x ≤ nB ∧ ix = .int .i64 x ∧ kx = .int .i64 k ∧ jx = .int .i64 i ∧ k ≤ N ∧ i ≤ x ∧ i ≤ CN ∧ Hid (∀ _ : Unit, Below' (bS L) x k ∧ i = (comeL L x).length) ∧ Ext w5 wr) (fun _ _ ix _ => nB - (intOf ix).toNat)
      case atStart => exact ⟨0, 0, 0, by omega, rfl, rfl, rfl, by omega, by omega, by omega, Lib.hid (fun _ => ⟨below_zero _, rfl⟩), hEW⟩
      case round =>
        obtain ⟨x, k, i, hx, rfl, rfl, rfl, hk, hi, hig, HP, hE⟩ := hrel
        by_cases hlt : x < nB
        · obtain ⟨hb, hil⟩ := HP.out ()
          by_cases hkN : k < N
          · obtain ⟨p, hpk⟩ : ∃ p, L[k]? = some p := ⟨_, List.getElem?_eq_getElem (by have := HN.out; omega)⟩
            have hFk : (bS L)[k]? = some p.2 := by unfold bS; rw [List.getElem?_map, hpk]; rfl
            obtain ⟨g1, g2⟩ := pairsC_get hpk
            obtain ⟨bl, ol, rfl, hcl⟩ := rL.2.2.2.2 (by omega)
            have cl := hE.cell (hcl _ _ g2)
            try rw [← Nat.add_assoc] at cl
            obtain ⟨v, hv⟩ : ∃ v, p.2 = v := ⟨_, rfl⟩
            rw [hv] at cl hFk
            try simp only at cl
            clear g1 g2 hcl hv hpk
            by_cases hvx : v = x
            · subst hvx
              have hb2 := below_hit HRB.out hb hFk
              have hmem : v ∈ bS L := List.mem_of_getElem? hFk
              have hg2 := come_hit hmem
              have HP' : Hid (∀ _ : Unit, Below' (bS L) (v + 1) (k + 1) ∧ i = (comeL L (v + 1)).length) := fun _ => ⟨hb2, by rw [hg2]; exact hil⟩
              clear hb hil hb2 hmem hg2 hFk HP
              go_wp2
              go_roundw
              case rel => exact ⟨v + 1, k + 1, i, by omega, by go_num, by go_num, rfl, by omega, by omega, hig, HP', hE⟩
              case measure => simp [intOf] <;> omega
            · have hd2 : ((v : Int) == (x : Int)) = false := by simp; omega
              obtain ⟨hb2, hni⟩ := below_miss HRB.out hb (by rw [hFk]; simp; omega)
              obtain ⟨hl2, hget⟩ := come_miss (n := nB) hlt hni
              have hi2 : i < CN := by
                have := (List.getElem?_eq_some_iff.1 hget).1
                rw [HCN.out] at this; omega
              rw [← hil] at hget
              obtain ⟨bg, og, rfl, hcg⟩ := rC.2.2.2.2 (by omega)
              have cg := hE.cell (hcg i (.int .i64 (x : Int)) (by unfold natsC; rw [List.getElem?_map, hget]; rfl))
              have HP' : Hid (∀ _ : Unit, Below' (bS L) (x + 1) k ∧ i + 1 = (comeL L (x + 1)).length) := fun _ => ⟨hb2, by rw [hl2, hil]⟩
              clear hb hil hb2 hni hl2 hget hcg HP
              clear hFk
              go_wp2
              go_roundw
              case rel => exact ⟨x + 1, k, i + 1, by omega, by go_num, rfl, by go_num, hk, by omega, by omega, HP', hE⟩
              case measure => simp [intOf] <;> omega
          · have hFk : (bS L)[k]? ≠ some x := by
              rw [List.getElem?_eq_none (by unfold bS; rw [List.length_map]; have := HN.out; omega)]; simp
            have hkd : decide ((k : Int) < (N : Int)) = false := decide_eq_false (by omega)
            obtain ⟨hb2, hni⟩ := below_miss HRB.out hb hFk
            obtain ⟨hl2, hget⟩ := come_miss (n := nB) hlt hni
            have hi2 : i < CN := by
              have := (List.getElem?_eq_some_iff.1 hget).1
              rw [HCN.out] at this; omega
            rw [← hil] at hget
            obtain ⟨bg, og, rfl, hcg⟩ := rC.2.2.2.2 (by omega)
            have cg := hE.cell (hcg i (.int .i64 (x : Int)) (by unfold natsC; rw [List.getElem?_map, hget]; rfl))
            have HP' : Hid (∀ _ : Unit, Below' (bS L) (x + 1) k ∧ i + 1 = (comeL L (x + 1)).length) := fun _ => ⟨hb2, by rw [hl2, hil]⟩
            clear hb hil hb2 hni hl2 hget hcg HP
            clear hFk
            go_wp2
            go_roundw
            case rel => exact ⟨x + 1, k, i + 1, by omega, by go_num, rfl, by go_num, hk, by omega, by omega, HP', hE⟩
            case measure => simp [intOf] <;> omega
        · obtain rfl : x = nB := by omega
          have hil : i = CN := by have := (HP.out ()).2; rw [HCN.out] at this; exact this
          subst hil
          clear HP
          go_wp2
          exact ⟨rfl, E5.trans hE⟩
end Go.Proofs.Ythedpnnfkmbdpaa
