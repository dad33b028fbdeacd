/-
  chacha.Stream, walked.
-/
import Derived.Test.YtijpbbjblenhaaaChI
namespace Go.Proofs.Ytijpbbjblenhaaa
open Go.RowKit Go.Shelf

attribute [local go_sem] Oper.semAt_some

theorem Arr.not_row {w : World} {b : Nat} {t e : TypeId} {cs : List Value} (h : Arr w b t cs) (hte : t ≠ e) {base size k : Nat} {v : Value} {xs : List Value} (hr : w.ownsRow base e size v k xs) : some b ≠ v.ownBlock := by
  intro he
  rcases hr.2 with ⟨rfl, _⟩ | ⟨g, cap, cur, rfl, _, hg, _⟩
  · simp [Value.ownBlock] at he
  · obtain rfl : b = g := by simpa [Value.ownBlock] using he
    unfold Arr at h
    rw [hg] at h
    cases h
    exact hte rfl

theorem Arr.kept {w w' : World} {row : Option Nat} {b : Nat} {t : TypeId} {cs : List Value} (h : Arr w b t cs) (hg : w.grownBy w' row) (hne : some b ≠ row) : Arr w' b t cs :=
  (hg.block b (Keep.lt h) hne).trans h
theorem own_cells {w : World} {base e sz n g : Nat} {v : Value} {xs : List Value} (h : w.ownsRow base e sz v n xs) (hg : v.ownBlock = some g) : ∃ cur, w.heap[g]? = some (.cells cur e (0, 0)) := by
  rcases h.2 with ⟨rfl, _⟩ | ⟨g', cap, cur, rfl, _, hgb, _⟩
  · simp [Value.ownBlock] at hg
  · obtain rfl : g' = g := by simpa [Value.ownBlock] using hg
    exact ⟨cur, hgb⟩

set_option maxRecDepth 20000 in
set_option maxHeartbeats 4000000 in
theorem stream_any (key nonce : List UInt8) (n : UInt32) (a : Option Addr) (len c : Nat) (l : List UInt8) (w : World) (hk : key.length = 32) (hn : nonce.length = 12) (hr : Row 1 w a len c (l.map u8v)) (hl32 : len ≤ 4294967296) :
    Calls Try.prog 14 #[aggB key, .int .u32 (n.toNat : Int), aggB nonce, .slice a len c] w fun e w' => ∃ a' c', e = .returned (.slice a' len c') ∧
      w'.ownsRow w.heap.size 5 1 (.slice a' len c') len ((streamL key n nonce l).map u8v) ∧ Ext w w' := by
  have hll : l.length = len := by have := hr.2.2.1; simpa using this
  have hlc := hr.1
  have hmx := hr.2.1
  unfold maxLen at hmx
  obtain ⟨i0, hi, hz0, hz1, hz2⟩ := info_parts info_u8
  have hks := fun w => keystream_any key nonce n w
  refine calls_cps fun R hR => ?_
  refine calls_marks Try.func14 rfl ?_
  simp only [Try.ntmps14, List.size_toArray, List.length_cons, List.length_nil, Nat.reduceAdd, Nat.reduceSub, Array.replicate_succ, Array.replicate_zero, List.push_toArray, List.append_toArray, List.nil_append, List.cons_append]
  unfold aggB at hks ⊢
  have hik := Lib.hid (show (Try.prog.info? 25).map (·.size) = some (key.map u8v).toArray.size by rw [info_key]; simp [hk])
  have hin := Lib.hid (show (Try.prog.info? 26).map (·.size) = some (nonce.map u8v).toArray.size by rw [info_nonce]; simp [hn])
  obtain ⟨cK, hcK⟩ : ∃ c, key.map u8v = c := ⟨_, rfl⟩
  obtain ⟨cN, hcN⟩ : ∃ c, nonce.map u8v = c := ⟨_, rfl⟩
  rw [hcK] at hks hik ⊢
  rw [hcN] at hks hin ⊢
  have e : ∀ (A : World) (o : Obj), Ext A (A.alloc o) := fun A o => (Keep.refl _ A).alloc o
  have HB : Hid (∀ w1, Ext (((w.alloc (.cells cK.toArray 25)).alloc (.cells cN.toArray 26)).alloc (.cells #[.slice a len c] 37)) w1 → Ext w w1 ∧ Arr w1 w.heap.size 25 cK ∧ Arr w1 (w.heap.size + 1) 26 cN ∧ Boxed w1 (w.heap.size + 1 + 1) 37 (.slice a len c)) := fun w1 h => by
    have k1 := World.alloc_heap_new w (.cells cK.toArray 25)
    have k2 := World.alloc_heap_new (w.alloc (.cells cK.toArray 25)) (.cells cN.toArray 26)
    have k3 := World.alloc_heap_new ((w.alloc (.cells cK.toArray 25)).alloc (.cells cN.toArray 26)) (.cells #[.slice a len c] 37)
    simp only [World.size_alloc] at k2 k3
    exact ⟨(((e _ _).trans (e _ _)).trans (e _ _)).trans h, h.block _ _ ((e _ _).block _ _ ((e _ _).block _ _ k1 (fun h => h)) (fun h => h)) (fun h => h), h.block _ _ ((e _ _).block _ _ k2 (fun h => h)) (fun h => h), h.block _ _ k3 (fun h => h)⟩
  clear e
  go_wp2
  go_step3
  go_wp2_with (first | (at_make; go_must (refine wpList_make_own _ rfl _ _ 37 rfl w.heap.size 5 i0 _ 1 Try.underlying37 hi hz0 hz1 .i64 .i64 _ len rfl rfl (by omega) (by rw [hz2]; omega) (by unfold maxLen; omega) (by simp; omega) ?_); intro w1 hown1 hgrow1) | fail)
  go_step3
  obtain ⟨E1, bK, bN, bB⟩ := HB.out w1 (Keep.of_grownBy hgrow1 (fun k o h _ => by cases h))
  have hs1 := hgrow1.size
  simp at hs1
  simp only [World.size_alloc] at hown1
  have hg0 : ∀ g, (Value.slice (some ⟨w.heap.size + 1 + 1 + 1, 0, none⟩) 0 len).ownBlock = some g → g < w1.heap.size := fun g hg => (hown1.lt g hg).2
  have hO := Boxed.new w1 37 (.slice (some ⟨w.heap.size + 1 + 1 + 1, 0, none⟩) 0 len)
  have eA : Ext w1 (w1.alloc (.cells #[.slice (some ⟨w.heap.size + 1 + 1 + 1, 0, none⟩) 0 len] 37)) := (Keep.refl _ w1).alloc _
  have hsA : (w1.alloc (.cells #[.slice (some ⟨w.heap.size + 1 + 1 + 1, 0, none⟩) 0 len] 37)).heap.size = w1.heap.size + 1 := by simp
  obtain ⟨W5, hW5⟩ : ∃ W, w1.alloc (.cells #[.slice (some ⟨w.heap.size + 1 + 1 + 1, 0, none⟩) 0 len] 37) = W := ⟨_, rfl⟩
  rw [hW5] at hO eA hsA ⊢
  replace bK := bK.ext eA
  replace bN := bN.ext eA
  replace bB := eA.boxed bB
  replace hown1 := eA.owns hown1
  have E5 := E1.trans eA
  clear hW5 eA E1 HB hgrow1
  go_wp2_with (first | (refine wpList_load_row ?_ 25 (.tmp 4) ?_ w.heap.size ?_ 25 cK.toArray (0, 0) _ ?_ Try.underlying25 rfl hik.out ?_; rfl; rfl; rfl; exact bK) | (refine wpList_load_row ?_ 26 (.tmp 6) ?_ (w.heap.size + 1) ?_ 26 cN.toArray (0, 0) _ ?_ Try.underlying26 rfl hin.out ?_; rfl; rfl; rfl; exact bN))
  refine (hks W5).mono ?_
  rintro e w2 ⟨rfl, e2, hs2, aK, aC, aN⟩
  have hO2 := e2.boxed hO
  have hB2 := e2.boxed bB
  have hown2 := e2.owns hown1
  have E2 := E5.trans e2
  clear hO bB hown1 E5 e2 bK bN hks hik hin
  go_wp2_with fail
  obtain ⟨pO, hpO⟩ : ∃ p, w1.heap.size = p := ⟨_, rfl⟩
  obtain ⟨pk, hpk⟩ : ∃ p, W5.heap.size = p := ⟨_, rfl⟩
  have hr2 := hr.ext E2
  rw [hpO] at hsA hs1 hO2 hg0 ⊢
  rw [hpk] at hsA hs2 aK aC aN
  clear hpO hpk
  subst hsA
  have hI0 : (strTo key n nonce l 0).length = 0 := by rw [strTo_length n l hk hn]; omega
  have hN32 : len / 64 + 2 < 4294967296 := by omega
  have hit := keystream1_iter (pO + 1) (pO + 1 + 1) (pO + 1 + 1 + 1) key nonce n (len / 64 + 2) hk hn hN32 (by omega) (by omega)
  rw [hcK, hcN] at hit
  refine range_wp rfl (enters_of Try.func23 (by kernel_rfl) rfl) hit
    (fun b h => by subst h; omega) (fun b h => by rcases h with rfl | rfl | rfl <;> omega)
    (fun _ _ _ ⟨h, _⟩ => by rw [h]; rfl) (fun A hA => ⟨aK.ext hA, hA.boxed aC, aN.ext hA⟩)
    (fun k A => ∃ ao co t, t = (strTo key n nonce l k).length ∧ Boxed A pO 37 (.slice ao t co) ∧ A.ownsRow w.heap.size 5 1 (.slice ao t co) t ((strTo key n nonce l k).map u8v) ∧ Ext w A ∧ Boxed A (w.heap.size + 1 + 1) 37 (.slice a len c) ∧
      w2.heap.size ≤ A.heap.size ∧ (∀ g, (Value.slice ao t co).ownBlock = some g → g ≠ pO + 1 ∧ g ≠ pO + 1 + 1 ∧ g ≠ pO + 1 + 1 + 1) ∧ (k = 0 ∨ 64 * (k - 1) < len))
    (fun k cd A => cd = .exit 0 ∧ ∃ ao co, Boxed A pO 37 (.slice ao len co) ∧ A.ownsRow w.heap.size 5 1 (.slice ao len co) len ((streamL key n nonce l).map u8v) ∧ Ext w A ∧ (∀ g, (Value.slice ao len co).ownBlock = some g → g ≠ pO + 1 ∧ g ≠ pO + 1 + 1 ∧ g ≠ pO + 1 + 1 + 1))
    (fun k A B ⟨ao, co, t, h0, h1, h2, h3, h4, h5, h6, h7⟩ hkp => ⟨ao, co, t, h0, hkp.boxed_turn h1 (by omega), hkp.owns_turn h2 (fun g hg => (h6 g hg).2.1), h3.then_turn hkp (by omega) (fun b o hb ho => by have := Keep.lt ho; omega), hkp.boxed_turn h4 (by omega), Nat.le_trans h5 hkp.size, h6, h7⟩)
    (fun k cd A B ⟨h0, ao, co, h1, h2, h3, h6⟩ hkp => ⟨h0, ao, co, hkp.boxed_turn h1 (by omega), hkp.owns_turn h2 (fun g hg => (h6 g hg).2.1), h3.then_turn hkp (by omega) (fun b o hb ho => by have := Keep.lt ho; omega), h6⟩)
    (fun _ B ⟨_, _, _, _, _, _, _, _, _, _, h7⟩ => by omega) ⟨some ⟨w.heap.size + 1 + 1 + 1, 0, none⟩, len, 0, hI0.symm, hO2, by rw [List.eq_nil_of_length_eq_zero hI0]; exact hown2, E2, hB2, Nat.le_refl _, fun g hg => by have := hg0 g hg; omega, .inl rfl⟩ ?round ?done ?stop
  case round =>
    rintro l' k A args KN KX hkN ⟨ao, co, t, h0, h1, h2, h3, h4, h5, h6, h7⟩ ⟨rfl, zk, zc, zn⟩ hKN hKX
    have hBl := blockL_length (ctrAt n k) hk hn
    have htl := strTo_length n l hk hn k
    have hsucc := strTo_succ n l hk hn k
    have hfull := fun h => strTo_stream n l hk hn k h
    rw [← h0] at htl hsucc
    rw [hll] at htl hfull
    obtain ⟨Bk, hBk⟩ : ∃ B, blockL key (ctrAt n k) nonce = B := ⟨_, rfl⟩
    rw [hBk] at hBl hsucc ⊢
    obtain ⟨O, hO⟩ : ∃ O, Bk.map u8v = O := ⟨_, rfl⟩
    have hOl : O.length = 64 := by rw [← hO, List.length_map, hBl]
    have hO1 : ∀ v ∈ O, v.oneCell' = true := by rw [← hO]; exact u8v_one Bk
    unfold aggB
    rw [hO]
    have hiA := Lib.hid (show (Try.prog.info? 30).map (·.size) = some O.toArray.size by rw [info_block]; simp [hOl])
    have hst := stores_new (P := Try.prog) (t := 30) (cs := List.replicate 64 (.int .u8 0)) (cs' := O) (by rw [hOl]; rfl) hO1 A
    simp only [List.replicate] at hst
    have HO := Lib.hid hO
    have HOL := Lib.hid hOl
    have HS := Lib.hid (fun _ : Unit => hsucc)
    have HF := Lib.hid hfull
    have H0 := Lib.hid (fun _ : Unit => h0)
    clear hO hOl hO1 hsucc hfull hBk h0 hit aK aC aN hO2 hB2 hown2 hg0 hI0
    gi_wp2
    refine ⟨Keep.of_ext ((Keep.refl _ A).alloc _), fun C hC => ?_⟩
    have eA1 : Ext A (A.alloc (.cells O.toArray 30)) := (Keep.refl _ A).alloc _
    have tn : ∀ {b : Nat} {o : Obj}, o.isCells = true → ¬ turn w2.heap.size (fun _ => False) b o := fun ho h => by rcases h with h | h; exact h; rw [ho] at h; cases h.2
    have z10 := (Arr.new A 30 O).keep hC (tn rfl)
    replace h1 := hC.boxed_turn (eA1.boxed h1) id
    replace h2 := hC.owns_turn (eA1.owns h2) (fun _ _ => id)
    replace h3 := (h3.trans eA1).then_turn hC (by omega) (fun _ _ h _ => h)
    replace h4 := hC.boxed_turn (eA1.boxed h4) id
    have hAs : w2.heap.size ≤ A.heap.size := h5
    replace h5 := Nat.le_trans h5 (Nat.le_trans eA1.size hC.size)
    replace zk := (zk.ext eA1).keep hC (tn rfl)
    replace zc := hC.boxed_turn (eA1.boxed zc) id
    replace zn := (zn.ext eA1).keep hC (tn rfl)
    have hown3 := h2.lt
    have c1 := h1.cell
    have c4 := h4.cell
    obtain ⟨p10, hp10⟩ : ∃ p, A.heap.size = p := ⟨_, rfl⟩
    rw [hp10] at z10 hAs ⊢
    clear hst hp10 eA1 tn
    by_cases hteq : t = len
    · subst hteq
      have hfin := HF.out (by omega)
      rw [hfin] at h2
      clear htl
      gi_wp2
      refine hKX _ _ _ (Keep.refl _ _) ⟨by first | trivial | rfl, ao, co, h1, h2, h3, h6⟩
    · have htb : ((t : Int) == (len : Int)) = false := by simp; omega
      have htlt : t < len := by omega
      have hk64 : 64 * k < len := by omega
      obtain ⟨a', ha'⟩ : ∃ a', Option.map (fun x => x.add t) a = a' := ⟨_, rfl⟩
      have hcut := (hr.ext h3).cut (lo := t) (hi := len) (by omega) (by omega)
      rw [if_neg (by omega), Nat.mul_one, ha'] at hcut
      rw [show ((l.map u8v).drop t).take ((len - t) * 1) = (l.drop t).map u8v from by rw [← List.map_drop, List.take_of_length_le (by simp; omega)]] at hcut
      obtain ⟨M, hM⟩ : ∃ M, xorL (l.drop t) Bk = M := ⟨_, rfl⟩
      have hMl : M.length ≤ len - t := by rw [← hM, xorL_length]; simp; omega
      have h12 : t + M.length ≤ len := by omega
      have HM := Lib.hid hM
      clear hM htl
      gi_wp2
      refine FY.wpIn_flow (X := fun _ _ => True) (0 :: 1 :: 2 :: 3 :: 4 :: 5 :: 6 :: 7 :: 8 :: [])
        (fun n => if n = 6 then .grows (Bs M) (SliceN M.length) else if n = 7 ∨ n = 8 then .bar else .reads) (fun n => by split; simp; split <;> simp) (by kernel_rfl) (by kernel_rfl) (by kernel_rfl) ?_
      have hD : ∀ g : FY.At (fun _ _ => False) C.drew, Ext C g.w := fun g => ((Keep.refl _ C).drew).trans g.ext
      have d1 := fun g => (hD g).cell c1
      have d4 := fun g => (hD g).cell c4
      clear c1 c4
      repeat (refine FY.flow_r rfl rfl rfl ?_; go_big_quiet_step (fail); refine wpQuiet_nil ?_)
      refine FY.flow_g rfl rfl rfl (by simp) ⟨_, none, 0, rfl⟩ (fun _ _ _ h hE => h.mono hE) (fun _ _ h => h.sh) (fun w5 hE5 _ => ?_) (fun v hv => ?_)
      · have hX5 := ((Keep.refl _ C).drew).trans hE5
        have hx := xor_any a' (some ⟨p10, 0, none⟩) (len - t) 64 (c - t) 64 (l.drop t) Bk w5 (hcut.ext hX5) (by rw [HO.out]; exact (z10.ext hX5).whole HOL.out (by decide)) (by omega) (by decide)
        rw [HM.out] at hx
        go_wp2_with fail
        refine hx.mono ?_
        rintro e w6 ⟨a6, c6, rfl, hown6, hE6⟩
        have hBs : Bs M (.slice a6 M.length c6) w6 := Bs.of_own hown6 rfl
        clear hx
        go_wp2
        try exact ⟨hE6, hBs⟩
      obtain ⟨av, cv, rfl⟩ := hv
      simp only [Act.put, List.setIfInBounds_toArray, List.set_cons_succ, List.set_cons_zero]
      refine FY.flow_bv rfl rfl rfl (by simp) (by kernel_rfl) (fun w7 hE7 hf => ?_)
      have hW : Bs M (.slice av M.length cv) w7 := hf 6
      clear hf
      obtain ⟨_, _, q, hrow7⟩ := hW
      cases q
      have hX7 : Ext C w7 := ((Keep.refl _ C).drew).trans hE7
      obtain ⟨v', w8, hrun, hown8, hgrow8, _⟩ := run_append_row w7 w.heap.size 37 37 5 _ 1 1 Try.underlying37 info_u8 rfl (by decide) (hX7.owns h2) hrow7 (u8v_one _) (by unfold maxLen; omega) (by omega) (by have := (h3.trans hX7).size; omega)
      have hs1 : strTo key n nonce l k ++ M = strTo key n nonce l (k + 1) := by rw [HS.out (), HM.out]
      rw [← List.map_append, hs1] at hown8
      have hlen1 : t + M.length = (strTo key n nonce l (k + 1)).length := by rw [← hs1, List.length_append, ← H0.out ()]
      have HL1 := Lib.hid (fun _ : Unit => hlen1)
      have hgz : ∀ g, (Value.slice ao t co).ownBlock = some g → g ≠ pO + 1 ∧ g ≠ pO + 1 + 1 ∧ g ≠ pO + 1 + 1 + 1 := h6
      have kk8 : Keep (Go.Proofs.Ytijpbbjblenhaaa.round w2.heap.size fun b => b = pO + 1 ∨ b = pO + 1 + 1 ∨ b = pO + 1 + 1 + 1) C w8 := (Keep.of_ext hX7).grown hgrow8 (fun g o hg ho => by
        obtain ⟨cur, hc⟩ := own_cells h2 hg
        rw [hc] at ho; cases ho
        have := hgz g hg
        exact ⟨fun h => by rcases h with h | h | h <;> omega, .inr rfl⟩)
      have hO8 : Boxed w8 pO 37 (.slice ao t co) := (hX7.boxed h1).kept hgrow8 (h1.not_row (by decide) h2)
      have hB8 : Boxed w8 (w.heap.size + 1 + 1) 37 (.slice a len c) := (hX7.boxed h4).kept hgrow8 (h4.not_row (by decide) h2)
      have hE8 : Ext w w8 := ((h3.trans hX7)).grown hgrow8 (fun g o hg ho => by have := (hown3 g hg).1; have := Keep.lt ho; omega)
      have hz8 : ∀ g, v'.ownBlock = some g → g ≠ pO + 1 ∧ g ≠ pO + 1 + 1 ∧ g ≠ pO + 1 + 1 + 1 := fun g hg => by
        have q1 := ((zk.ext hX7).kept hgrow8 (fun h => (hgz _ h.symm).1 rfl)).not_row (by decide) hown8
        have q2 := ((hX7.boxed zc).kept hgrow8 (fun h => (hgz _ h.symm).2.1 rfl)).not_row (by decide) hown8
        have q3 := ((zn.ext hX7).kept hgrow8 (fun h => (hgz _ h.symm).2.2 rfl)).not_row (by decide) hown8
        rw [hg] at q1 q2 q3
        exact ⟨fun h => q1 (by rw [h]), fun h => q2 (by rw [h]), fun h => q3 (by rw [h])⟩
      obtain ⟨a2, c2, rfl, _⟩ := owns_row hown8
      refine wpList_append_run hrun rfl rfl rfl rfl ?_
      refine ⟨rfl, _, rfl, ⟨hgrow8.os, hgrow8.tape, hgrow8.output, hgrow8.size, fun _ _ _ h => (h trivial).elim⟩, ?_⟩
      simp only [Act.put, List.setIfInBounds_toArray, List.set_cons_succ, List.set_cons_zero]
      clear hrun hE7 hrow7 hgrow8 hX7 h1 h2 h3 h4 h6 hgz zk zc zn d1 d4 hcut hD hs1 hlen1 hown3
      refine FY.flow_b rfl rfl rfl (by kernel_rfl) (fun w9 hE9 _ => ?_)
      replace hE9 : Ext w8 w9 := hE9
      have hO9 := hE9.boxed hO8
      have hown9 := hE9.owns hown8
      have c9 := hO9.cell
      have f9 := hO9.frozen
      have hO10 := hO9.set (.slice a2 (t + M.length) c2)
      have hB10 := (hE9.boxed hB8).other (show w.heap.size + 1 + 1 ≠ pO by omega) (.slice a2 (t + M.length) c2)
      have hown10 := hown9.kept (grownBy_setCell' w9 pO (.slice a2 (t + M.length) c2)) (.inr (hO9.not_row (by decide) hown9).symm)
      have kk10 := (kk8.trans (Keep.of_ext hE9)).setCell ⟨pO, 0, none⟩ (.slice a2 (t + M.length) c2) (fun o ho => ⟨fun h => by replace h : pO = pO + 1 ∨ pO = pO + 1 + 1 ∨ pO = pO + 1 + 1 + 1 := h; omega, .inl (by show pO < _; omega)⟩)
      have hE10 := (hE8.trans hE9).setCell ⟨pO, 0, none⟩ (.slice a2 (t + M.length) c2) (fun o ho => by have := Keep.lt ho; replace this : pO < w.heap.size := this; omega)
      have m9 := (Keep.refl (fun _ _ => True) w9).setCell ⟨pO, 0, none⟩ (.slice a2 (t + M.length) c2) (fun _ _ => trivial)
      clear hO9 hown9 hO8 hB8 hown8 kk8 hE8 hE9
      go_wp2
      refine FY.flow_end (fun D hED _ => ?_)
      replace hED : Ext _ D := hED
      have hO11 := hED.boxed hO10
      have hB11 := hED.boxed hB10
      have hown11 := hED.owns hown10
      have kk11 := kk10.trans (Keep.of_ext hED)
      have hE11 := hE10.trans hED
      clear hO10 hB10 hown10 kk10 hE10 m9 c9 f9 hED
      have hsD := kk11.size
      gi_wp2
      refine hKN _ _ kk11 ⟨a2, c2, t + M.length, HL1.out (), hO11, hown11, hE11, hB11, by omega, hz8, .inr (by omega)⟩
  case done =>
    rintro D A hD ⟨_, _, _, _, _, _, _, _, _, _, h7⟩
    omega
  case stop =>
    rintro D cd k A hD hkN ⟨rfl, ao, co, h1, h2, h3, h6⟩ hd
    have c1 := h1.cell
    go_wp2
    refine mark_ret hd rfl (results_tmp rfl _ _ _) (hR _ _ ⟨ao, co, rfl, ownsRow_putObj h2 _ hd rfl, h3.putObj _ _ (fun o ho => by have := Keep.lt ho; have := E2.size; omega)⟩)
end Go.Proofs.Ytijpbbjblenhaaa
