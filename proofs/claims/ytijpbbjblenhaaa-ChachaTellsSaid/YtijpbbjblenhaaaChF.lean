/-
  tabulariumref01.Block.
-/
import Derived.Test.YtijpbbjblenhaaaChD
namespace Go.Proofs.Ytijpbbjblenhaaa
open Go.RowKit Go.Shelf

theorem info_words : (Try.prog.info? 44).map (·.size) = some 16 := by kernel_rfl

set_option maxRecDepth 20000 in
set_option maxHeartbeats 4000000 in
theorem refBlock_any (key nonce : List UInt8) (n : UInt32) (w : World) (hk : key.length = 32) (hn : nonce.length = 12) :
    Calls Try.prog 12 #[aggB key, .int .u32 (n.toNat : Int), aggB nonce] w fun e w' => e = .returned (aggB (blockL key n nonce)) ∧ Ext w w' := by
  have hfl := begunL_length n hk hn
  obtain ⟨out, hout⟩ : ∃ x, blockL key n nonce = x := ⟨_, rfl⟩
  obtain ⟨fs, hfs⟩ : ∃ x, begunL key n nonce = x := ⟨_, rfl⟩
  have hout2 : bytesOf (addL (roundsL fs 10) fs) = out := by rw [← hout, ← hfs]; rfl
  rw [hfs] at hfl
  rw [hout]
  have HO := Lib.hid (fun _ : Unit => hout2)
  have HFL := Lib.hid hfl
  clear hout hfl hout2
  unfold begunL at hfs
  have hwk : (wordsOf key).length = 8 := by rw [wordsOf_length, hk]
  have hwn : (wordsOf nonce).length = 3 := by rw [wordsOf_length, hn]
  have HP := Lib.hid (begun_plain (wordsOf key) (wordsOf nonce) n hwk hwn)
  have HK := Lib.hid (show (key.map u8v).length = 32 by simpa using hk)
  have HN := Lib.hid (show (nonce.map u8v).length = 12 by simpa using hn)
  obtain ⟨kw, hkw⟩ : ∃ x, wordsOf key = x := ⟨_, rfl⟩
  obtain ⟨nw, hnw⟩ : ∃ x, wordsOf nonce = x := ⟨_, rfl⟩
  rw [hkw, hnw] at HP hfs
  rw [hkw] at hwk
  rw [hnw] at hwn
  have wk : ∀ a c w, Row 1 w a 32 c (key.map u8v) → Calls Try.prog 21 #[.slice a 32 c] w fun e w' => ∃ a' c', e = .returned (.slice a' 8 c') ∧ Row 1 w' a' 8 c' (kw.map u32v) ∧ Ext w w' := fun a c w h => by
    refine (refWords_any a 32 c key w h (by omega)).mono ?_
    rintro e w' ⟨a', c', rfl, h1, h2⟩
    rw [hkw, hwk] at h1 ⊢
    obtain ⟨_, _, q, h3⟩ := owns_row h1
    cases q
    exact ⟨_, _, rfl, h3, h2⟩
  have wn : ∀ a c w, Row 1 w a 12 c (nonce.map u8v) → Calls Try.prog 21 #[.slice a 12 c] w fun e w' => ∃ a' c', e = .returned (.slice a' 3 c') ∧ Row 1 w' a' 3 c' (nw.map u32v) ∧ Ext w w' := fun a c w h => by
    refine (refWords_any a 12 c nonce w h (by omega)).mono ?_
    rintro e w' ⟨a', c', rfl, h1, h2⟩
    rw [hnw, hwn] at h1 ⊢
    obtain ⟨_, _, q, h3⟩ := owns_row h1
    cases q
    exact ⟨_, _, rfl, h3, h2⟩
  clear hkw hnw hk hn
  rw [hfs] at HP
  clear hfs
  refine calls_cps fun R hR => ?_
  unfold aggB at hR ⊢
  obtain ⟨ck, hck⟩ : ∃ c, key.map u8v = c := ⟨_, rfl⟩
  obtain ⟨cn, hcn⟩ : ∃ c, nonce.map u8v = c := ⟨_, rfl⟩
  rw [hck] at HK wk ⊢
  rw [hcn] at HN wn ⊢
  obtain ⟨cka, hcka⟩ : ∃ c, ck.toArray = c := ⟨_, rfl⟩
  obtain ⟨cna, hcna⟩ : ∃ c, cn.toArray = c := ⟨_, rfl⟩
  rw [hcka, hcna]
  have HKA := Lib.hid hcka
  have HNA := Lib.hid hcna
  clear hcka hcna hck hcn
  go_enter Try.func12, Try.ntmps12
  go_wp2
  refine wp_laid4 fun W hE b1 b2 b3 b4 => ?_
  have B1 : Arr W w.heap.size 25 ck := by unfold Arr; rw [HKA.out]; exact b1
  have B2 : Arr W (w.heap.size + 1) 26 cn := by unfold Arr; rw [HNA.out]; exact b2
  have B3 : Arr W (w.heap.size + 1 + 1) 30 (List.replicate 64 (.int .u8 0)) := b3
  have B4 : Arr W (w.heap.size + 1 + 1 + 1) 44 F16 := b4
  clear b1 b2 b3 b4
  refine wp_flow (fun n => if n = 2 then .grows (Ws kw) (SliceN kw.length) else if n = 3 then .last else .reads) (by kernel_rfl) (by kernel_rfl) ?_
  repeat (refine flow_r rfl rfl ?_; go_big_quiet_step (fail); refine wpQuiet_nil ?_)
  refine flow_g rfl rfl (by simp) ⟨_, none, 0, rfl⟩ (fun _ _ _ h hE => h.mono hE) (fun _ _ h => h.sh) (fun w2 hE2 _ => ?_) (fun v hv => ?_)
  · have hr := (B1.ext (((Keep.refl _ W).drew).trans hE2)).whole HK.out (by decide)
    go_wp2_with fail
    refine (wk _ _ _ hr).mono ?_
    rintro e w3 ⟨a', c', rfl, hrow, hE3⟩
    have hB : Ws kw (.slice a' 8 c') w3 := by rw [← hwk] at hrow ⊢; exact ⟨a', c', rfl, hrow⟩
    go_wp2
    try exact ⟨hE3, hB⟩
  obtain ⟨av, cv, rfl⟩ := hv
  simp only [Act.put, List.setIfInBounds_toArray, List.set_cons_succ, List.set_cons_zero]
  refine flow_l rfl (by kernel_rfl) (fun w2 hE2 hf => ?_)
  have hW : Ws kw (.slice av kw.length cv) w2 := hf 2
  clear hf
  obtain ⟨_, _, q, hrow⟩ := hW
  cases q
  rw [hwk] at hrow ⊢
  have hX2 := ((Keep.refl _ W).drew).trans hE2
  obtain ⟨w3, hrun, B43, hK3⟩ := (B4.ext hX2).copy 49 49 3 22 Try.underlying49 size_u32 hrow (u32v_one kw) 4 12 12 (by decide) (by decide) (by decide)
  have hE3 : Ext w w3 := ((Keep.of_ext (hE.trans hX2)).trans hK3).mono (fun k o ho hx => by have := Keep.lt ho; omega)
  have B23 := (B2.ext hX2).keep hK3 (by omega)
  have B33 := (B3.ext hX2).keep hK3 (by omega)
  have hl43 : (over F16 4 (kw.map u32v)).length = 16 := by rw [over_length (by rw [List.length_map, hwk]; decide)]; rfl
  obtain ⟨F2, hF2⟩ : ∃ F, over F16 4 (kw.map u32v) = F := ⟨_, rfl⟩
  rw [hF2] at B43 HP hl43
  obtain ⟨x12, hx12⟩ : ∃ x, F2[12]? = some x := ⟨_, List.getElem?_eq_getElem (by omega)⟩
  have c12 := B43.cell hx12
  have f12 := B43.frozen 12
  clear hE2 hrow hF2 B1 B2 B3 B4 hX2 hK3 hE hx12
  go_wp2
  have B44 := B43.set 12 (.int .u32 (n.toNat : Int))
  have hK4 := keep_setCell w3 (w.heap.size + 1 + 1 + 1) 12 (.int .u32 (n.toNat : Int))
  have B24 := B23.keep hK4 (by omega)
  have B34 := B33.keep hK4 (by omega)
  have hE4 : Ext w _ := ((Keep.of_ext hE3).trans hK4).mono (fun k o ho hx => by have := Keep.lt ho; omega)
  obtain ⟨W4, hW4⟩ : ∃ W, w3.setCell ⟨w.heap.size + 1 + 1 + 1, 12, none⟩ (.int .u32 (n.toNat : Int)) = W := ⟨_, rfl⟩
  rw [hW4] at B44 B24 B34 hE4 ⊢
  have hl44 : (F2.set 12 (.int .u32 (n.toNat : Int))).length = 16 := by simpa using hl43
  obtain ⟨F3, hF3⟩ : ∃ F, F2.set 12 (.int .u32 (n.toNat : Int)) = F := ⟨_, rfl⟩
  rw [hF3] at B44 HP hl44
  clear hW4 hF3 hK4 B43 B23 B33 hE3 c12 f12 hl43
  refine wp_flow (fun n => if n = 2 then .grows (Ws nw) (SliceN nw.length) else if n = 3 then .last else .reads) (by kernel_rfl) (by kernel_rfl) ?_
  repeat (refine flow_r rfl rfl ?_; go_big_quiet_step (fail); refine wpQuiet_nil ?_)
  refine flow_g rfl rfl (by simp) ⟨_, none, 0, rfl⟩ (fun _ _ _ h hE => h.mono hE) (fun _ _ h => h.sh) (fun w2 hE2 _ => ?_) (fun v hv => ?_)
  · have hr := (B24.ext (((Keep.refl _ W4).drew).trans hE2)).whole HN.out (by decide)
    go_wp2_with fail
    refine (wn _ _ _ hr).mono ?_
    rintro e w3 ⟨a', c', rfl, hrow, hE3⟩
    have hB : Ws nw (.slice a' 3 c') w3 := by rw [← hwn] at hrow ⊢; exact ⟨a', c', rfl, hrow⟩
    go_wp2
    try exact ⟨hE3, hB⟩
  obtain ⟨av, cv, rfl⟩ := hv
  simp only [Act.put, List.setIfInBounds_toArray, List.set_cons_succ, List.set_cons_zero]
  refine flow_l rfl (by kernel_rfl) (fun w5 hE5 hf => ?_)
  have hW : Ws nw (.slice av nw.length cv) w5 := hf 2
  clear hf
  obtain ⟨_, _, q, hrow⟩ := hW
  cases q
  rw [hwn] at hrow ⊢
  have hX2 := ((Keep.refl _ W4).drew).trans hE5
  obtain ⟨w6, hrun, B46, hK6⟩ := (B44.ext hX2).copy 49 49 3 22 Try.underlying49 size_u32 hrow (u32v_one nw) 13 3 3 (by decide) (by decide) (by omega)
  rw [HP.out] at B46
  have hE6 : Ext w w6 := ((Keep.of_ext (hE4.trans hX2)).trans hK6).mono (fun k o ho hx => by have := Keep.lt ho; omega)
  have B36 := (B34.ext hX2).keep hK6 (by omega)
  clear hE5 hrow B24 B34 B44 hE4 hX2 hK6
  have hF0 : ∃ F, fs.map u32v = F := ⟨_, rfl⟩
  obtain ⟨F, hF⟩ := hF0
  rw [hF] at B46
  have hFl : F.length = 16 := by rw [← hF, List.length_map, HFL.out]
  have hF1 : ∀ v ∈ F, v.oneCell' = true := by rw [← hF]; exact u32v_one fs
  have HF := Lib.hid hF
  have hi16 := Lib.hid (show (Try.prog.info? 44).map (·.size) = some F.toArray.size by rw [info_words]; simp [hFl])
  have hiZ := Lib.hid (show (List.replicate 16 (Value.int IntKind.u32 0)).toArray.size = F.toArray.size by simp [hFl])
  have hF1' := Lib.hid (show F.toArray.all (·.oneCell') = true by
    rw [Array.all_eq_true_iff_forall_mem]
    intro v hv
    exact hF1 v (by simpa using hv))
  clear hF hFl hF1 HKA HNA HK HN wk wn hwk hwn
  go_wp2_with (first | (refine wpList_load_row ?_ 44 (.tmp 7) ?_ (w.heap.size + 1 + 1 + 1) ?_ 44 F.toArray (0, 0) _ ?_ Try.underlying44 rfl hi16.out ?_; rfl; rfl; rfl; exact B46) |
    (refine wpList_store_row ?_ 44 (.tmp 8) (.tmp 28) ?_ w6.heap.size F.toArray ?_ ?_ 44 (List.replicate 16 (Value.int IntKind.u32 0)).toArray ?_ hi16.out hiZ.out hF1'.out ?_; rfl; rfl; rfl; rfl; exact Arr.new _ 44 (List.replicate 16 (.int .u32 0)); rw [World.setRow_alloc_new]))
  refine wp_laid1 fun W hE b8 => ?_
  have B8 : Arr W w6.heap.size 44 (fs.map u32v) := by rw [HF.out]; exact b8
  have B7 := B46.ext hE
  have B6 := B36.ext hE
  have E2 := hE6.trans hE
  have h7 := B46.lt
  have h0 := hE6.size
  obtain ⟨p8, hp8⟩ : ∃ p, w6.heap.size = p := ⟨_, rfl⟩
  rw [hp8] at B8 h7 h0 ⊢
  clear b8 hE hp8 B36 B46 hE6 hiZ hF1' hi16
  go_loopw [9] (fun ix wr => ∃ k : Nat, k ≤ 10 ∧ ix = .int .i64 k ∧ Arr wr p8 44 ((roundsL fs k).map u32v) ∧ Keep (fun k _ => k = p8) W wr) (fun ix _ => 10 - (intOf ix).toNat)
  case atStart => exact ⟨0, by omega, rfl, B8, Keep.refl _ _⟩
  case round =>
    clear B8
    obtain ⟨k, hk, rfl, B8, hK⟩ := hrel
    by_cases hlt : k < 10
    · have hl1 : (roundsL fs k).length = 16 := by rw [roundsL_length, HFL.out]
      have hZ' : turnTo 1 (turnTo 0 (roundsL fs k) 4) 4 = roundsL fs (k + 1) := rfl
      obtain ⟨X, hX⟩ : ∃ X, roundsL fs k = X := ⟨_, rfl⟩
      rw [hX] at hZ' hl1 B8
      obtain ⟨Y, hY⟩ : ∃ Y, turnTo 0 X 4 = Y := ⟨_, rfl⟩
      have hl2 : Y.length = 16 := by rw [← hY, turnTo_length, hl1]
      rw [hY] at hZ'
      have HZ := Lib.hid (fun _ : Unit => hZ')
      have HY := Lib.hid (fun _ : Unit => hY)
      have HL1 := Lib.hid hl1
      have HL2 := Lib.hid hl2
      clear hX hZ' hY hl1 hl2
      have hdk : decide ((k : Int) < 10) = true := by simp; omega
      go_wp2
      go_loopw [10] (fun ix wr => ∃ i : Nat, i ≤ 4 ∧ ix = .int .i64 i ∧ Arr wr p8 44 ((turnTo 0 X i).map u32v) ∧ Keep (fun k _ => k = p8) W wr) (fun ix _ => 4 - (intOf ix).toNat)
      case atStart => exact ⟨0, by omega, rfl, B8, hK⟩
      case round =>
        clear B8 hK
        obtain ⟨i, hi, rfl, hB, hK⟩ := hrel
        by_cases hlt : i < 4
        · obtain ⟨J1, hJ1⟩ : ∃ J : Nat, 4 + i = J := ⟨_, rfl⟩
          obtain ⟨J2, hJ2⟩ : ∃ J : Nat, 8 + i = J := ⟨_, rfl⟩
          obtain ⟨J3, hJ3⟩ : ∃ J : Nat, 12 + i = J := ⟨_, rfl⟩
          have hs : turnTo 0 X (i + 1) = qAt (turnTo 0 X i) i J1 J2 J3 := by
            show qAt (turnTo 0 X i) i (4 + (i + 0) % 4) (8 + (i + 2 * 0) % 4) (12 + (i + 3 * 0) % 4) = _
            rw [show 4 + (i + 0) % 4 = J1 by omega, show 8 + (i + 2 * 0) % 4 = J2 by omega, show 12 + (i + 3 * 0) % 4 = J3 by omega]
          have hi1 : (4 + (i : Int)) = (J1 : Int) := by omega
          have hi2 : (8 + (i : Int)) = (J2 : Int) := by omega
          have hi3 : (12 + (i : Int)) = (J3 : Int) := by omega
          have hb1 : J1 < 16 := by omega
          have hb2 : J2 < 16 := by omega
          have hb3 : J3 < 16 := by omega
          have hxl : (turnTo 0 X i).length = 16 := by rw [turnTo_length, HL1.out]
          obtain ⟨xs', hxs'⟩ : ∃ x, turnTo 0 X (i + 1) = x := ⟨_, rfl⟩
          obtain ⟨xs, hxs⟩ : ∃ x, turnTo 0 X i = x := ⟨_, rfl⟩
          rw [hxs] at hs hB hxl
          rw [hxs'] at hs
          have HS := Lib.hid hs
          have HX := Lib.hid hxl
          have HXS := Lib.hid (fun _ : Unit => hxs')
          clear hJ1 hJ2 hJ3 hs hxs hxl hxs'
          have hgetv : ∀ j, j < 16 → (xs.map u32v)[j]? = some (.int .u32 ((xs.getD j 0).toNat : Int)) := fun j hj => by
            have : j < xs.length := by have := HX.out; omega
            simp [List.getElem?_eq_getElem this, u32v]
          have hD : ∀ g : FY.At (fun _ _ => False) wr.drew, Ext wr g.w := fun g => ((Keep.refl _ wr).drew).trans g.ext
          have c0 := fun g => (hB.ext (hD g)).cell (hgetv i (by omega))
          have c1 := fun g => (hB.ext (hD g)).cell (hgetv J1 hb1)
          have c2 := fun g => (hB.ext (hD g)).cell (hgetv J2 hb2)
          have c3 := fun g => (hB.ext (hD g)).cell (hgetv J3 hb3)
          have hq := fun w => refQuarter_any (at4 xs i J1 J2 J3) w
          unfold qAt at HS
          obtain ⟨q, hqe⟩ : ∃ q, quarter (at4 xs i J1 J2 J3) = q := ⟨_, rfl⟩
          simp only [at4] at hq hqe HS
          rw [hqe] at hq HS
          obtain ⟨qa, qb, qc, qd⟩ := q
          obtain ⟨x0, hx0⟩ : ∃ x, xs.getD i 0 = x := ⟨_, rfl⟩
          obtain ⟨x1, hx1⟩ : ∃ x, xs.getD J1 0 = x := ⟨_, rfl⟩
          obtain ⟨x2, hx2⟩ : ∃ x, xs.getD J2 0 = x := ⟨_, rfl⟩
          obtain ⟨x3, hx3⟩ : ∃ x, xs.getD J3 0 = x := ⟨_, rfl⟩
          rw [hx0] at c0 hq
          rw [hx1] at c1 hq
          rw [hx2] at c2 hq
          rw [hx3] at c3 hq
          clear hqe hx0 hx1 hx2 hx3 hgetv
          simp only at hq
          go_wp2
          obtain ⟨T, hT⟩ : ∃ T : Value, .tuple #[.int .u32 (qa.toNat : Int), .int .u32 (qb.toNat : Int), .int .u32 (qc.toNat : Int), .int .u32 (qd.toNat : Int)] = T := ⟨_, rfl⟩
          refine FY.wp_flow (X := fun k _ => k = p8) (0 :: 1 :: 2 :: 3 :: 4 :: 5 :: 6 :: 7 :: 8 :: 9 :: 10 :: 11 :: 12 :: 13 :: 14 :: 15 :: 16 :: 17 :: 18 :: 19 :: 20 :: 21 :: 22 :: 23 :: 24 :: 25 :: 26 :: 27 :: 28 :: 29 :: 30 :: 31 :: 32 :: 33 :: 34 :: 35 :: [])
            (fun n => if n = 9 ∨ n = 13 ∨ n = 17 ∨ n = 21 then .reads else if n = 22 then .grows (Is T) (IsSh T) else if n = 29 ∨ n = 31 ∨ n = 33 ∨ n = 35 then .bar else .still) (by kernel_rfl) (by kernel_rfl) ?_
          repeat (first | (refine FY.flow_q rfl rfl rfl ?_; go_big_quiet_step (fail); refine wpQuiet_nil ?_) | (refine FY.flow_r rfl rfl rfl ?_; go_big_quiet_step (fail); refine wpQuiet_nil ?_))
          refine FY.flow_g rfl rfl rfl (by simp) ⟨_, rfl⟩ (fun _ _ _ h hE => h) (fun _ _ h => h) (fun w2 hE2 _ => ?_) (fun v hv => ?_)
          · go_wp2_with fail
            refine (hq _).mono ?_
            rintro e w3 ⟨rfl, hE3⟩
            subst hE3
            go_wp2
            first | exact rfl | exact ⟨Keep.refl _ _, rfl⟩
          cases hv
          subst hT
          simp only [Act.put, List.setIfInBounds_toArray, List.set_cons_succ, List.set_cons_zero]
          clear c0 c1 c2 c3 hq hD
          repeat (first | (refine FY.flow_q rfl rfl rfl ?_; go_big_quiet_step (fail); refine wpQuiet_nil ?_) | (refine FY.flow_r rfl rfl rfl ?_; go_big_quiet_step (fail); refine wpQuiet_nil ?_))
          refine FY.flow_b rfl rfl rfl (by kernel_rfl) (fun W1 hE1 _ => ?_)
          have a1 := hB.ext (((Keep.refl _ wr).drew).trans hE1)
          have k1 := hK.trans (Keep.of_ext (((Keep.refl _ wr).drew).trans hE1))
          clear hB hK hE1
          have hlen1 : (xs.map u32v).length = 16 := by simpa using HX.out
          obtain ⟨o1, ho1⟩ : ∃ x, (xs.map u32v)[i]? = some x := ⟨_, List.getElem?_eq_getElem (by rw [hlen1]; omega)⟩
          have s1 := a1.cell ho1
          have f1 := a1.frozen i
          have b1 := a1.set i (.int .u32 (qa.toNat : Int))
          have m1 := keep_setCell W1 p8 i (.int .u32 (qa.toNat : Int))
          have l1 := k1.trans m1
          clear ho1 a1 k1 hlen1
          go_wp2
          clear s1 f1 m1
          repeat (first | (refine FY.flow_q rfl rfl rfl ?_; go_big_quiet_step (fail); refine wpQuiet_nil ?_) | (refine FY.flow_r rfl rfl rfl ?_; go_big_quiet_step (fail); refine wpQuiet_nil ?_))
          refine FY.flow_b rfl rfl rfl (by kernel_rfl) (fun W2 hE2 _ => ?_)
          have a2 := b1.ext hE2
          have k2 := l1.trans (Keep.of_ext hE2)
          clear b1 l1 hE2
          have hlen2 : ((xs.map u32v).set i (.int .u32 (qa.toNat : Int))).length = 16 := by simpa using HX.out
          obtain ⟨o2, ho2⟩ : ∃ x, ((xs.map u32v).set i (.int .u32 (qa.toNat : Int)))[J1]? = some x := ⟨_, List.getElem?_eq_getElem (by rw [hlen2]; omega)⟩
          have s2 := a2.cell ho2
          have f2 := a2.frozen J1
          have b2 := a2.set J1 (.int .u32 (qb.toNat : Int))
          have m2 := keep_setCell W2 p8 J1 (.int .u32 (qb.toNat : Int))
          have l2 := k2.trans m2
          clear ho2 a2 k2 hlen2
          go_wp2
          clear s2 f2 m2
          repeat (first | (refine FY.flow_q rfl rfl rfl ?_; go_big_quiet_step (fail); refine wpQuiet_nil ?_) | (refine FY.flow_r rfl rfl rfl ?_; go_big_quiet_step (fail); refine wpQuiet_nil ?_))
          refine FY.flow_b rfl rfl rfl (by kernel_rfl) (fun W3 hE3 _ => ?_)
          have a3 := b2.ext hE3
          have k3 := l2.trans (Keep.of_ext hE3)
          clear b2 l2 hE3
          have hlen3 : (((xs.map u32v).set i (.int .u32 (qa.toNat : Int))).set J1 (.int .u32 (qb.toNat : Int))).length = 16 := by simpa using HX.out
          obtain ⟨o3, ho3⟩ : ∃ x, (((xs.map u32v).set i (.int .u32 (qa.toNat : Int))).set J1 (.int .u32 (qb.toNat : Int)))[J2]? = some x := ⟨_, List.getElem?_eq_getElem (by rw [hlen3]; omega)⟩
          have s3 := a3.cell ho3
          have f3 := a3.frozen J2
          have b3 := a3.set J2 (.int .u32 (qc.toNat : Int))
          have m3 := keep_setCell W3 p8 J2 (.int .u32 (qc.toNat : Int))
          have l3 := k3.trans m3
          clear ho3 a3 k3 hlen3
          go_wp2
          clear s3 f3 m3
          repeat (first | (refine FY.flow_q rfl rfl rfl ?_; go_big_quiet_step (fail); refine wpQuiet_nil ?_) | (refine FY.flow_r rfl rfl rfl ?_; go_big_quiet_step (fail); refine wpQuiet_nil ?_))
          refine FY.flow_b rfl rfl rfl (by kernel_rfl) (fun W4 hE4 _ => ?_)
          have a4 := b3.ext hE4
          have k4 := l3.trans (Keep.of_ext hE4)
          clear b3 l3 hE4
          have hlen4 : ((((xs.map u32v).set i (.int .u32 (qa.toNat : Int))).set J1 (.int .u32 (qb.toNat : Int))).set J2 (.int .u32 (qc.toNat : Int))).length = 16 := by simpa using HX.out
          obtain ⟨o4, ho4⟩ : ∃ x, ((((xs.map u32v).set i (.int .u32 (qa.toNat : Int))).set J1 (.int .u32 (qb.toNat : Int))).set J2 (.int .u32 (qc.toNat : Int)))[J3]? = some x := ⟨_, List.getElem?_eq_getElem (by rw [hlen4]; omega)⟩
          have s4 := a4.cell ho4
          have f4 := a4.frozen J3
          have b4 := a4.set J3 (.int .u32 (qd.toNat : Int))
          have m4 := keep_setCell W4 p8 J3 (.int .u32 (qd.toNat : Int))
          have l4 := k4.trans m4
          clear ho4 a4 k4 hlen4
          go_wp2
          clear s4 f4 m4
          refine FY.flow_end (fun W5 hE5 _ => ?_)
          have b5 := b4.ext hE5
          have l5 := l4.trans (Keep.of_ext hE5)
          have hfin : ((((xs.map u32v).set i (.int .u32 (qa.toNat : Int))).set J1 (.int .u32 (qb.toNat : Int))).set J2 (.int .u32 (qc.toNat : Int))).set J3 (.int .u32 (qd.toNat : Int)) = (turnTo 0 X (i + 1)).map u32v := by
            rw [HXS.out (), HS.out]
            simp [put4, List.map_set, u32v]
          rw [hfin] at b5
          clear b4 l4 hfin
          go_wp2
          go_roundw
          case rel => exact ⟨i + 1, by omega, by go_num, b5, l5⟩
          case measure => simp [intOf]; omega
        · obtain rfl : i = 4 := by omega
          rw [HY.out ()] at hB
          obtain ⟨V1, rfl⟩ : ∃ x, x = wr := ⟨_, rfl⟩
          clear HY
          go_wp2
          rw [show ((4 : Nat) : Int) = 4 from rfl]
          go_loopw [11] (fun ix wr => ∃ i : Nat, i ≤ 4 ∧ ix = .int .i64 i ∧ Arr wr p8 44 ((turnTo 1 Y i).map u32v) ∧ Keep (fun k _ => k = p8) W wr) (fun ix _ => 4 - (intOf ix).toNat)
          case atStart => exact ⟨0, by omega, rfl, hB, hK⟩
          case round =>
            clear hB hK
            obtain ⟨i, hi, rfl, hB, hK⟩ := hrel
            by_cases hlt : i < 4
            · obtain ⟨J1, hJ1⟩ : ∃ J : Nat, 4 + (i + 1) % 4 = J := ⟨_, rfl⟩
              obtain ⟨J2, hJ2⟩ : ∃ J : Nat, 8 + (i + 2) % 4 = J := ⟨_, rfl⟩
              obtain ⟨J3, hJ3⟩ : ∃ J : Nat, 12 + (i + 3) % 4 = J := ⟨_, rfl⟩
              have hs : turnTo 1 Y (i + 1) = qAt (turnTo 1 Y i) i J1 J2 J3 := by
                show qAt (turnTo 1 Y i) i (4 + (i + 1) % 4) (8 + (i + 2 * 1) % 4) (12 + (i + 3 * 1) % 4) = _
                rw [hJ1, show 8 + (i + 2 * 1) % 4 = J2 by omega, show 12 + (i + 3 * 1) % 4 = J3 by omega]
              have hi1 : (4 + ((i : Int) + 1) % 4) = (J1 : Int) := by omega
              have hi2 : (8 + ((i : Int) + 2) % 4) = (J2 : Int) := by omega
              have hi3 : (12 + ((i : Int) + 3) % 4) = (J3 : Int) := by omega
              have hb1 : J1 < 16 := by omega
              have hb2 : J2 < 16 := by omega
              have hb3 : J3 < 16 := by omega
              have hxl : (turnTo 1 Y i).length = 16 := by rw [turnTo_length, HL2.out]
              obtain ⟨xs', hxs'⟩ : ∃ x, turnTo 1 Y (i + 1) = x := ⟨_, rfl⟩
              obtain ⟨xs, hxs⟩ : ∃ x, turnTo 1 Y i = x := ⟨_, rfl⟩
              rw [hxs] at hs hB hxl
              rw [hxs'] at hs
              have HS := Lib.hid hs
              have HX := Lib.hid hxl
              have HXS := Lib.hid (fun _ : Unit => hxs')
              clear hJ1 hJ2 hJ3 hs hxs hxl hxs'
              have hgetv : ∀ j, j < 16 → (xs.map u32v)[j]? = some (.int .u32 ((xs.getD j 0).toNat : Int)) := fun j hj => by
                have : j < xs.length := by have := HX.out; omega
                simp [List.getElem?_eq_getElem this, u32v]
              have hD : ∀ g : FY.At (fun _ _ => False) wr.drew, Ext wr g.w := fun g => ((Keep.refl _ wr).drew).trans g.ext
              have c0 := fun g => (hB.ext (hD g)).cell (hgetv i (by omega))
              have c1 := fun g => (hB.ext (hD g)).cell (hgetv J1 hb1)
              have c2 := fun g => (hB.ext (hD g)).cell (hgetv J2 hb2)
              have c3 := fun g => (hB.ext (hD g)).cell (hgetv J3 hb3)
              have hq := fun w => refQuarter_any (at4 xs i J1 J2 J3) w
              unfold qAt at HS
              obtain ⟨q, hqe⟩ : ∃ q, quarter (at4 xs i J1 J2 J3) = q := ⟨_, rfl⟩
              simp only [at4] at hq hqe HS
              rw [hqe] at hq HS
              obtain ⟨qa, qb, qc, qd⟩ := q
              obtain ⟨x0, hx0⟩ : ∃ x, xs.getD i 0 = x := ⟨_, rfl⟩
              obtain ⟨x1, hx1⟩ : ∃ x, xs.getD J1 0 = x := ⟨_, rfl⟩
              obtain ⟨x2, hx2⟩ : ∃ x, xs.getD J2 0 = x := ⟨_, rfl⟩
              obtain ⟨x3, hx3⟩ : ∃ x, xs.getD J3 0 = x := ⟨_, rfl⟩
              rw [hx0] at c0 hq
              rw [hx1] at c1 hq
              rw [hx2] at c2 hq
              rw [hx3] at c3 hq
              clear hqe hx0 hx1 hx2 hx3 hgetv
              simp only at hq
              go_wp2
              obtain ⟨T, hT⟩ : ∃ T : Value, .tuple #[.int .u32 (qa.toNat : Int), .int .u32 (qb.toNat : Int), .int .u32 (qc.toNat : Int), .int .u32 (qd.toNat : Int)] = T := ⟨_, rfl⟩
              refine FY.wp_flow (X := fun k _ => k = p8) (0 :: 1 :: 2 :: 3 :: 4 :: 5 :: 6 :: 7 :: 8 :: 9 :: 10 :: 11 :: 12 :: 13 :: 14 :: 15 :: 16 :: 17 :: 18 :: 19 :: 20 :: 21 :: 22 :: 23 :: 24 :: 25 :: 26 :: 27 :: 28 :: 29 :: [])
                (fun n => if n = 6 ∨ n = 9 ∨ n = 12 ∨ n = 15 then .reads else if n = 16 then .grows (Is T) (IsSh T) else if n = 23 ∨ n = 25 ∨ n = 27 ∨ n = 29 then .bar else .still) (by kernel_rfl) (by kernel_rfl) ?_
              repeat (first | (refine FY.flow_q rfl rfl rfl ?_; go_big_quiet_step (fail); refine wpQuiet_nil ?_) | (refine FY.flow_r rfl rfl rfl ?_; go_big_quiet_step (fail); refine wpQuiet_nil ?_))
              refine FY.flow_g rfl rfl rfl (by simp) ⟨_, rfl⟩ (fun _ _ _ h hE => h) (fun _ _ h => h) (fun w2 hE2 _ => ?_) (fun v hv => ?_)
              · go_wp2_with fail
                refine (hq _).mono ?_
                rintro e w3 ⟨rfl, hE3⟩
                subst hE3
                go_wp2
                first | exact rfl | exact ⟨Keep.refl _ _, rfl⟩
              cases hv
              subst hT
              simp only [Act.put, List.setIfInBounds_toArray, List.set_cons_succ, List.set_cons_zero]
              clear c0 c1 c2 c3 hq hD
              repeat (first | (refine FY.flow_q rfl rfl rfl ?_; go_big_quiet_step (fail); refine wpQuiet_nil ?_) | (refine FY.flow_r rfl rfl rfl ?_; go_big_quiet_step (fail); refine wpQuiet_nil ?_))
              refine FY.flow_b rfl rfl rfl (by kernel_rfl) (fun W1 hE1 _ => ?_)
              have a1 := hB.ext (((Keep.refl _ wr).drew).trans hE1)
              have k1 := hK.trans (Keep.of_ext (((Keep.refl _ wr).drew).trans hE1))
              clear hB hK hE1
              have hlen1 : (xs.map u32v).length = 16 := by simpa using HX.out
              obtain ⟨o1, ho1⟩ : ∃ x, (xs.map u32v)[i]? = some x := ⟨_, List.getElem?_eq_getElem (by rw [hlen1]; omega)⟩
              have s1 := a1.cell ho1
              have f1 := a1.frozen i
              have b1 := a1.set i (.int .u32 (qa.toNat : Int))
              have m1 := keep_setCell W1 p8 i (.int .u32 (qa.toNat : Int))
              have l1 := k1.trans m1
              clear ho1 a1 k1 hlen1
              go_wp2
              clear s1 f1 m1
              repeat (first | (refine FY.flow_q rfl rfl rfl ?_; go_big_quiet_step (fail); refine wpQuiet_nil ?_) | (refine FY.flow_r rfl rfl rfl ?_; go_big_quiet_step (fail); refine wpQuiet_nil ?_))
              refine FY.flow_b rfl rfl rfl (by kernel_rfl) (fun W2 hE2 _ => ?_)
              have a2 := b1.ext hE2
              have k2 := l1.trans (Keep.of_ext hE2)
              clear b1 l1 hE2
              have hlen2 : ((xs.map u32v).set i (.int .u32 (qa.toNat : Int))).length = 16 := by simpa using HX.out
              obtain ⟨o2, ho2⟩ : ∃ x, ((xs.map u32v).set i (.int .u32 (qa.toNat : Int)))[J1]? = some x := ⟨_, List.getElem?_eq_getElem (by rw [hlen2]; omega)⟩
              have s2 := a2.cell ho2
              have f2 := a2.frozen J1
              have b2 := a2.set J1 (.int .u32 (qb.toNat : Int))
              have m2 := keep_setCell W2 p8 J1 (.int .u32 (qb.toNat : Int))
              have l2 := k2.trans m2
              clear ho2 a2 k2 hlen2
              go_wp2
              clear s2 f2 m2
              repeat (first | (refine FY.flow_q rfl rfl rfl ?_; go_big_quiet_step (fail); refine wpQuiet_nil ?_) | (refine FY.flow_r rfl rfl rfl ?_; go_big_quiet_step (fail); refine wpQuiet_nil ?_))
              refine FY.flow_b rfl rfl rfl (by kernel_rfl) (fun W3 hE3 _ => ?_)
              have a3 := b2.ext hE3
              have k3 := l2.trans (Keep.of_ext hE3)
              clear b2 l2 hE3
              have hlen3 : (((xs.map u32v).set i (.int .u32 (qa.toNat : Int))).set J1 (.int .u32 (qb.toNat : Int))).length = 16 := by simpa using HX.out
              obtain ⟨o3, ho3⟩ : ∃ x, (((xs.map u32v).set i (.int .u32 (qa.toNat : Int))).set J1 (.int .u32 (qb.toNat : Int)))[J2]? = some x := ⟨_, List.getElem?_eq_getElem (by rw [hlen3]; omega)⟩
              have s3 := a3.cell ho3
              have f3 := a3.frozen J2
              have b3 := a3.set J2 (.int .u32 (qc.toNat : Int))
              have m3 := keep_setCell W3 p8 J2 (.int .u32 (qc.toNat : Int))
              have l3 := k3.trans m3
              clear ho3 a3 k3 hlen3
              go_wp2
              clear s3 f3 m3
              repeat (first | (refine FY.flow_q rfl rfl rfl ?_; go_big_quiet_step (fail); refine wpQuiet_nil ?_) | (refine FY.flow_r rfl rfl rfl ?_; go_big_quiet_step (fail); refine wpQuiet_nil ?_))
              refine FY.flow_b rfl rfl rfl (by kernel_rfl) (fun W4 hE4 _ => ?_)
              have a4 := b3.ext hE4
              have k4 := l3.trans (Keep.of_ext hE4)
              clear b3 l3 hE4
              have hlen4 : ((((xs.map u32v).set i (.int .u32 (qa.toNat : Int))).set J1 (.int .u32 (qb.toNat : Int))).set J2 (.int .u32 (qc.toNat : Int))).length = 16 := by simpa using HX.out
              obtain ⟨o4, ho4⟩ : ∃ x, ((((xs.map u32v).set i (.int .u32 (qa.toNat : Int))).set J1 (.int .u32 (qb.toNat : Int))).set J2 (.int .u32 (qc.toNat : Int)))[J3]? = some x := ⟨_, List.getElem?_eq_getElem (by rw [hlen4]; omega)⟩
              have s4 := a4.cell ho4
              have f4 := a4.frozen J3
              have b4 := a4.set J3 (.int .u32 (qd.toNat : Int))
              have m4 := keep_setCell W4 p8 J3 (.int .u32 (qd.toNat : Int))
              have l4 := k4.trans m4
              clear ho4 a4 k4 hlen4
              go_wp2
              clear s4 f4 m4
              refine FY.flow_end (fun W5 hE5 _ => ?_)
              have b5 := b4.ext hE5
              have l5 := l4.trans (Keep.of_ext hE5)
              have hfin : ((((xs.map u32v).set i (.int .u32 (qa.toNat : Int))).set J1 (.int .u32 (qb.toNat : Int))).set J2 (.int .u32 (qc.toNat : Int))).set J3 (.int .u32 (qd.toNat : Int)) = (turnTo 1 Y (i + 1)).map u32v := by
                rw [HXS.out (), HS.out]
                simp [put4, List.map_set, u32v]
              rw [hfin] at b5
              clear b4 l4 hfin
              go_wp2
              go_roundw
              case rel => exact ⟨i + 1, by omega, by go_num, b5, l5⟩
              case measure => simp [intOf]; omega
            · obtain rfl : i = 4 := by omega
              rw [HZ.out ()] at hB
              clear HZ
              go_wp2
              go_roundw
              case rel => exact ⟨k + 1, by omega, by go_num, hB, hK⟩
              case measure => simp [intOf]; omega
    · obtain rfl : k = 10 := by omega
      obtain ⟨V, rfl⟩ : ∃ x, x = wr := ⟨_, rfl⟩
      have hrl : (roundsL fs 10).length = fs.length := roundsL_length _ _
      have HO' := HO.out ()
      obtain ⟨rs, hrs⟩ : ∃ rs, roundsL fs 10 = rs := ⟨_, rfl⟩
      rw [hrs] at B8 hrl HO'
      have HR := Lib.hid hrl
      have HO2 := Lib.hid (fun _ : Unit => HO')
      have B7' := B7.keep hK (by omega)
      have B6' := B6.keep hK (by omega)
      have E3 : Ext w V := ((Keep.of_ext E2).trans hK).mono (fun k o ho hx => by have := Keep.lt ho; omega)
      clear hrs hrl HO HO' B7 B6 hK E2
      go_wp2
      refine wp_laid1 fun W2 hE b15 => ?_
      rw [show ((10 : Nat) : Int) = 10 from rfl]
      have B15 : Arr W2 V.heap.size 30 (outP (addL rs fs) 0) := b15
      have A8 := B8.ext hE
      have A7 := B7'.ext hE
      have A6 := B6'.ext hE
      have E4 := E3.trans hE
      have h8 := B8.lt
      have h6 := B6'.lt
      have h7 := B7'.lt
      have h3 := E3.size
      obtain ⟨p15, hp15⟩ : ∃ p, V.heap.size = p := ⟨_, rfl⟩
      rw [hp15] at B15 h8 h6 h7 h3 ⊢
      clear b15 hE hp15 B8 B7' B6' E3
      go_loopw [111] (fun ix wr => ∃ i : Nat, i ≤ 16 ∧ ix = .int .i64 i ∧ Arr wr p15 30 (outP (addL rs fs) i) ∧ Keep (fun k _ => k = p15) W2 wr) (fun ix _ => 16 - (intOf ix).toNat)
      case atStart => exact ⟨0, by omega, rfl, B15, Keep.refl _ _⟩
      case round =>
        clear B15
        obtain ⟨i, hi, rfl, B15, hK⟩ := hrel
        by_cases hlt : i < 16
        · have hfl := HFL.out
          have hrl := HR.out
          have hal : (addL rs fs).length = 16 := by rw [addL_length hrl, hfl]
          have hsucc := outP_succ (addL rs fs) i hal hlt
          have hgz : (addL rs fs).getD i 0 = rs.getD i 0 + fs.getD i 0 := addL_get rs fs i hrl (by omega)
          have hlen := outP_length (addL rs fs) i hal (by omega)
          obtain ⟨P0, hP0⟩ : ∃ P, outP (addL rs fs) i = P := ⟨_, rfl⟩
          obtain ⟨P1, hP1⟩ : ∃ P, outP (addL rs fs) (i + 1) = P := ⟨_, rfl⟩
          rw [hP0] at B15 hsucc hlen
          rw [hP1] at hsucc
          rw [hgz] at hsucc
          have hx : rs[i]? = some (rs.getD i 0) := by
            have : i < rs.length := by omega
            simp [List.getElem?_eq_getElem this]
          have hy : fs[i]? = some (fs.getD i 0) := by
            have : i < fs.length := by omega
            simp [List.getElem?_eq_getElem this]
          obtain ⟨x, hx0⟩ : ∃ x, rs.getD i 0 = x := ⟨_, rfl⟩
          obtain ⟨y, hy0⟩ : ∃ y, fs.getD i 0 = y := ⟨_, rfl⟩
          rw [hx0] at hx hsucc
          rw [hy0] at hy hsucc
          have hadd := add_u32 x y
          obtain ⟨z, hz⟩ : ∃ z, x + y = z := ⟨_, rfl⟩
          rw [hz] at hadd hsucc
          have hzb := u32_bd z
          have hput := fun w => put_any z.toNat 4 w (by omega)
          have hD : ∀ g : At wr.drew, Keep (fun k _ => k = p15) W2 g.w := fun g => hK.trans (Keep.of_ext (((Keep.refl _ wr).drew).trans g.ext))
          have c1 := fun g => (A8.keep (hD g) (by omega)).cell (i := i) (v := .int .u32 (x.toNat : Int)) (by rw [List.getElem?_map, hx]; rfl)
          have A7w : Arr W2 (w.heap.size + 1 + 1 + 1) 44 (fs.map u32v) := by rw [HF.out]; exact A7
          have c2 := fun g => (A7w.keep (hD g) (by omega)).cell (i := i) (v := .int .u32 (y.toNat : Int)) (by rw [List.getElem?_map, hy]; rfl)
          have HS := Lib.hid (fun _ : Unit => hsucc)
          have HP1 := Lib.hid (fun _ : Unit => hP1)
          have HLE := Lib.hid hlen
          clear hfl hrl hal hgz hx hy hx0 hy0 hz hP0 hP1 hsucc hlen A7w
          obtain ⟨j, hj⟩ : ∃ j : Nat, 4 * i = j := ⟨_, rfl⟩
          have hj1 : (4 * (i : Int)) = (j : Int) := by omega
          have hj2 : j + 4 ≤ 64 := by omega
          have hj3 : j ≤ 64 := by omega
          have hsl := fun w => slice_block p15 j w hj2
          rw [hj] at HS
          clear hj
          go_wp2
          refine wp_flow (fun n => if n = 11 then .grows (Bs (putL z.toNat 4)) (SliceN (putL z.toNat 4).length) else if n = 12 then .last else .reads) (by kernel_rfl) (by kernel_rfl) ?_
          repeat (refine flow_r rfl rfl ?_; go_big_quiet_step (fail); refine wpQuiet_nil ?_)
          refine flow_g rfl rfl (by simp) ⟨_, none, 0, rfl⟩ (fun _ _ _ h hE => h.mono hE) (fun _ _ h => h.sh) (fun w2 hE2 _ => ?_) (fun v hv => ?_)
          · go_wp2_with fail
            refine (hput _).mono ?_
            rintro e w3 ⟨a', c', rfl, hown, hE3⟩
            have hBs : Bs (putL z.toNat 4) (.slice a' 4 c') w3 := Bs.of_own hown (putL_length _ _)
            go_wp2
            try exact ⟨hE3, hBs⟩
          obtain ⟨av4, cv4, rfl⟩ := hv
          simp only [Act.put, List.setIfInBounds_toArray, List.set_cons_succ, List.set_cons_zero]
          refine flow_l rfl (by kernel_rfl) (fun w9 hE9 hf => ?_)
          have hW : Bs (putL z.toNat 4) (.slice av4 (putL z.toNat 4).length cv4) w9 := hf 11
          clear hf
          obtain ⟨_, _, q, hrow⟩ := hW
          cases q
          rw [putL_length] at hrow ⊢
          have hX9 := ((Keep.refl _ wr).drew).trans hE9
          obtain ⟨w10, hrun, B16, hK16⟩ := (B15.ext hX9).copy 37 37 3 5 Try.underlying37 size_u8 hrow (u8v_one _) j (64 - j) (64 - j) (by decide) (by omega) (by rw [HLE.out]; omega)
          have K16 := (hK.trans (Keep.of_ext hX9)).trans hK16
          rw [HS.out (), ← HP1.out ()] at B16
          clear hE9 hrow hX9 hK16
          go_wp2
          go_roundw
          case rel => exact ⟨i + 1, by omega, by go_num, B16, K16⟩
          case measure => simp [intOf]; omega
        · obtain rfl : i = 16 := by omega
          have hrl := HR.out
          have hal : (addL rs fs).length = 16 := by rw [addL_length hrl, HFL.out]
          have hbl : out.length = 64 := by rw [← HO2.out (), bytesOf_length, hal]
          rw [outP_all _ hal, HO2.out ()] at B15
          obtain ⟨O, hO⟩ : ∃ O, out.map u8v = O := ⟨_, rfl⟩
          have hOl : O.length = 64 := by rw [← hO, List.length_map, hbl]
          have hO1 : ∀ v ∈ O, v.oneCell' = true := by rw [← hO]; exact u8v_one out
          rw [hO] at B15 hR
          have B66 := A6.keep hK (by omega)
          have E5 : Ext w wr := ((Keep.of_ext E4).trans hK).mono (fun k o ho hx => by have := Keep.lt ho; omega)
          have hiA := Lib.hid (show (Try.prog.info? 30).map (·.size) = some O.toArray.size by rw [info_block]; simp [hOl])
          have hZ := Lib.hid (show (List.replicate 64 (Value.int IntKind.u8 0)).toArray.size = O.toArray.size by simp [hOl])
          have hO2 := Lib.hid (show O.toArray.all (·.oneCell') = true by
            rw [Array.all_eq_true_iff_forall_mem]
            intro v hv
            exact hO1 v (by simpa using hv))
          have B67 := B66.setRow O
          have K67 := keep_setRow wr (w.heap.size + 1 + 1) O.toArray
          have E6 : Ext w _ := ((Keep.of_ext E5).trans K67).mono (fun k o ho hx => by have := Keep.lt ho; omega)
          clear hrl hal hbl hO hOl hO1 K67 E5 E4 hK A6 A7 A8
          go_wp2_with (first | (refine wpList_load_row ?_ 30 (.tmp 15) ?_ p15 ?_ 30 O.toArray (0, 0) _ ?_ Try.underlying30 rfl hiA.out ?_; rfl; rfl; rfl; exact B15) | (refine wpList_store_row ?_ 30 (.tmp 6) (.tmp 128) ?_ (w.heap.size + 1 + 1) O.toArray ?_ ?_ 30 (List.replicate 64 (Value.int IntKind.u8 0)).toArray ?_ hiA.out hZ.out hO2.out ?_; rfl; rfl; rfl; rfl; exact B66))
          refine bodyPost_ret (results_cell_row rfl _ _ _ _ _ (0, 0) _ rfl B67 Try.underlying30 rfl hiA.out) rfl ?_
          exact hR _ _ ⟨rfl, E6⟩
end Go.Proofs.Ytijpbbjblenhaaa
