/-
  The law Diff3Mutual.
-/
import Derived.Test.YthedpnnfkmbdpaaDfL
import Derived.Test.YthedpnnfkmbdpaaFlowY
namespace Go.Proofs.Ythedpnnfkmbdpaa
open Go.RowKit Go.Shelf

attribute [local go_sem] Oper.semAt_some

set_option maxRecDepth 20000 in
set_option maxHeartbeats 4000000 in
theorem diff3Mutual_any (aX : Option Addr) (nX cX : Nat) (x : List ByteArray) (aA : Option Addr) (nA cA : Nat) (a : List ByteArray) (aB : Option Addr) (nB cB : Nat) (b : List ByteArray) (w : World) (hX : Row 1 w aX nX cX (x.map Value.string)) (hA : Row 1 w aA nA cA (a.map Value.string)) (hB : Row 1 w aB nB cB (b.map Value.string)) :
    Calls Try.prog 7 #[.slice aX nX cX, .slice aA nA cA, .slice aB nB cB] w fun e w' => e = .returned (.bool true) ∧ Ext w w' := by
  refine calls_cps fun R hR => ?_
  go_enter Try.func7, Try.ntmps7
  go_wp2_with fail
  refine (awake26_any _).mono ?_; rintro e w1 ⟨rfl, e1⟩
  go_wp2_with fail
  refine (few26_any _ _ _ _ x (hX.ext e1)).mono ?_; rintro e _ ⟨qx, rfl, hqx, rfl⟩
  cases qx with
  | false =>
    go_wp2
    exact ⟨rfl, e1⟩
  | true =>
  have h1 : nX ≤ 24 := (hqx rfl).1
  clear hqx
  go_wp2_with fail
  refine (few26_any _ _ _ _ a (hA.ext e1)).mono ?_; rintro e _ ⟨qx, rfl, hqx, rfl⟩
  cases qx with
  | false =>
    go_wp2
    exact ⟨rfl, e1⟩
  | true =>
  have h2 : nA ≤ 24 := (hqx rfl).1
  clear hqx
  go_wp2_with fail
  refine (few26_any _ _ _ _ b (hB.ext e1)).mono ?_; rintro e _ ⟨qx, rfl, hqx, rfl⟩
  cases qx with
  | false =>
    go_wp2
    exact ⟨rfl, e1⟩
  | true =>
  have h3 : nB ≤ 24 := (hqx rfl).1
  clear hqx
  go_wp2_with fail
  refine (merge_any aX aA aB nX cX nA cA nB cB x a b _ (hX.ext e1) (hA.ext e1) (hB.ext e1) (by omega) (by omega) (by omega)).mono ?_
  rintro e w2 ⟨v, hv, rfl, hH, e2⟩
  obtain ⟨av, cv, rfl, hr⟩ := hH.row
  have E2 := e1.trans e2
  obtain ⟨N, hN⟩ : ∃ N, (mergeL x a b).length = N := ⟨_, rfl⟩
  rw [hN] at hr hH ⊢
  have HN := Lib.hid hN
  clear hN
  go_wp2_with fail
  refine (merge_any aX aB aA nX cX nB cB nA cA x b a _ (hX.ext E2) (hB.ext E2) (hA.ext E2) (by omega) (by omega) (by omega)).mono ?_
  rintro e w3 ⟨v', hv', rfl, hH', e3⟩
  obtain ⟨av', cv', rfl, hr'⟩ := hH'.row
  have hlen : (mergeL x b a).length = N := by rw [merge_swap, List.length_map]; exact HN.out
  rw [hlen] at hr' hH' ⊢
  have E3 := E2.trans e3
  have h3H := hH.ext e3
  have hr3 := hr.ext e3
  have hcv := hr3.1
  have hmv := hr3.2.1
  have hcv' := hr'.1
  unfold maxLen at hmv
  have HH := Lib.hid h3H
  have HH' := Lib.hid hH'
  have HR3 := Lib.hid hr3
  have HR3' := Lib.hid hr'
  clear hH hr h3H hH' hr3 hr' hlen e2 e3 E2 hX hA hB
  go_wp2
  go_loopw [41] (fun i wr => ∃ k : Nat, k ≤ N ∧ i = .int .i64 k ∧ Ext w3 wr) (fun i _ => N - (intOf i).toNat)
  case atStart => exact ⟨0, by omega, rfl, Keep.refl _ _⟩
  case round =>
    obtain ⟨k, hk, rfl, hE⟩ := hrel
    by_cases hlt : k < N
    · obtain ⟨u, hu⟩ : ∃ u, (mergeL x a b)[k]? = some u := ⟨_, List.getElem?_eq_getElem (by have := HN.out; omega)⟩
      have hu' : (mergeL x b a)[k]? = some (swapH u) := by rw [merge_swap, List.getElem?_map, hu]; rfl
      obtain ⟨p, o, a1, n1, c1, a2, n2, c2, a3, n3, c3, rfl, d0, d1, d2, d3, _, r2, r3⟩ := HH.out.at HR3.out hu hlt
      obtain ⟨p', o', a1', n1', c1', a2', n2', c2', a3', n3', c3', rfl, d0', d1', d2', d3', _, r2', r3'⟩ := HH'.out.at HR3'.out hu' hlt
      obtain ⟨kk, ux, ua, ub⟩ := u
      simp only [swapH] at d0' r2' r3'
      simp only at d0 r2 r3
      obtain rfl : ua.length = n2 := by have := r2.2.2.1; simpa using this
      obtain rfl : ub.length = n3 := by have := r3.2.2.1; simpa using this
      obtain rfl : ub.length = n2' := by have := r2'.2.2.1; simpa using this
      obtain rfl : ua.length = n3' := by have := r3'.2.2.1; simpa using this
      have c0 := Ext.cell hE d0
      have hD : ∀ g : At wr.drew, Ext w3 g.w := fun g => (hE.drew).trans g.ext
      have f0' := fun g => Ext.cell (hD g) d0'
      have f2 := fun g => Ext.cell (hD g) d2
      have f3 := fun g => Ext.cell (hD g) d3
      have f2' := fun g => Ext.cell (hD g) d2'
      have f3' := fun g => Ext.cell (hD g) d3'
      have hs1 : ∀ w', Ext w3 w' → Calls Try.prog 18 #[.slice a2 ua.length c2, .slice a3' ua.length c3'] w' fun e w'' => e = .returned (.bool true) ∧ Ext w' w'' := fun w' h => sameNames_same a2 a3' _ c2 c3' ua w' (r2.ext h) (r3'.ext h)
      have hs2 : ∀ w', Ext w3 w' → Calls Try.prog 18 #[.slice a3 ub.length c3, .slice a2' ub.length c2'] w' fun e w'' => e = .returned (.bool true) ∧ Ext w' w'' := fun w' h => sameNames_same a3 a2' _ c3 c2' ub w' (r3.ext h) (r2'.ext h)
      have HS1 := Lib.hid hs1
      have HS2 := Lib.hid hs2
      have hE' := hE.drew
      clear d0 d1 d2 d3 d0' d1' d2' d3' r2 r3 r2' r3' hs1 hs2 hu hu'
      by_cases hk2 : kk = 2
      case' pos =>
        subst hk2
        rw [show swapK 2 = 3 from rfl] at f0'
      case' neg => by_cases hk3 : kk = 3
      case' pos =>
        subst hk3
        rw [show swapK 3 = 2 from rfl] at f0'
      case' neg =>
        have hq2 : (kk == 2) = false := by simpa using hk2
        have hq3 : (kk == 3) = false := by simpa using hk3
        have hqk : (kk != kk) = false := by simp
        rw [show swapK kk = kk from by unfold swapK; rw [if_neg hk2, if_neg hk3]] at f0'
      all_goals
        clear HH HH' HR3 HR3'
        go_wp2
        refine wp_flow (fun n => if n = 18 ∨ n = 32 then .grows (IsV (.bool true)) (IsVS (.bool true)) else .reads) (by kernel_rfl) (by kernel_rfl) ?_
        iterate 18 (refine flow_r rfl rfl ?_; go_big_quiet_step (fail); refine wpQuiet_nil ?_)
        refine flow_g rfl rfl (by simp) ⟨_, rfl⟩ (fun _ _ _ h hE => h) (fun _ _ h => h) (fun w5 hE5 hf => ?_) (fun v hv => ?_)
        · have hcl := HS1.out w5 (hE'.trans hE5)
          go_wp2_with fail
          refine hcl.mono ?_
          rintro e w6 ⟨rfl, hE6⟩
          go_wp2
          first | exact ⟨hE6, rfl⟩ | exact rfl
        cases hv
        simp only [Act.put, List.setIfInBounds_toArray, List.set_cons_succ, List.set_cons_zero]
        iterate 13 (refine flow_r rfl rfl ?_; go_big_quiet_step (fail); refine wpQuiet_nil ?_)
        refine flow_g rfl rfl (by simp) ⟨_, rfl⟩ (fun _ _ _ h hE => h) (fun _ _ h => h) (fun w5 hE5 hf => ?_) (fun v hv => ?_)
        · have hcl := HS2.out w5 (hE'.trans hE5)
          go_wp2_with fail
          refine hcl.mono ?_
          rintro e w6 ⟨rfl, hE6⟩
          go_wp2
          first | exact ⟨hE6, rfl⟩ | exact rfl
        cases hv
        simp only [Act.put, List.setIfInBounds_toArray, List.set_cons_succ, List.set_cons_zero]
        iterate 2 (refine flow_r rfl rfl ?_; go_big_quiet_step (fail); refine wpQuiet_nil ?_)
        refine flow_end (fun w7 hE7 _ => ?_)
        have hEn := hE'.trans hE7
        clear hE' hE7 f0' f2 f3 f2' f3' hD c0
        go_wp2
        go_roundw
        case rel => exact ⟨k + 1, by omega, by go_num, hEn⟩
        case measure => simp [intOf]; omega
    · obtain rfl : k = N := by omega
      go_wp2
      exact ⟨rfl, E3.trans hE⟩
end Go.Proofs.Ythedpnnfkmbdpaa
