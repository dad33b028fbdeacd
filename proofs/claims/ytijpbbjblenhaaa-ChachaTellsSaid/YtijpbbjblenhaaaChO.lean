/-
  The law ChachaTells.
-/
import Derived.Test.YtijpbbjblenhaaaChI
import Derived.Test.YtijpbbjblenhaaaChF
import Derived.Test.YtijpbbjblenhaaaArrEqN
namespace Go.Proofs.Ytijpbbjblenhaaa
open Go.RowKit Go.Shelf

attribute [local go_sem] Oper.semAt_some

theorem bytes_cells2 (l : List UInt8) {n : Nat} (hl : l.length = n) : ∀ i, i < n → ∃ a, (l.map u8v).toArray[i]? = some (.int .u8 a) := fun i hi => by
  have : i < l.length := by omega
  exact ⟨_, by simp [List.getElem?_eq_getElem this, u8v]; rfl⟩
theorem ctrAt_nat2 (n : UInt32) (m : Nat) : ((n.toNat : Int) + (m : Int)) % 4294967296 = ((ctrAt n m).toNat : Int) := by
  unfold ctrAt
  rw [UInt32.toNat_add, UInt32.toNat_ofNat']
  omega

set_option maxRecDepth 20000 in
set_option maxHeartbeats 4000000 in
theorem chachaTells_any (key : List UInt8) (n : UInt32) (nonce : List UInt8) (m : Int) (w : World) (hk : key.length = 32) (hn : nonce.length = 12) (_hm : -9223372036854775808 ≤ m ∧ m ≤ 9223372036854775807) :
    Calls Try.prog 4 #[aggB key, .int .u32 (n.toNat : Int), aggB nonce, .int .i64 m] w fun e w' => e = .returned (.bool true) ∧ Ext w w' := by
  have hks := fun w => keystream_any key nonce n w
  refine calls_cps fun R hR => ?_
  refine calls_marks Try.func4 rfl ?_
  simp only [Try.ntmps4, List.size_toArray, List.length_cons, List.length_nil, Nat.reduceAdd, Nat.reduceSub, Array.replicate_succ, Array.replicate_zero, List.push_toArray, List.append_toArray, List.nil_append, List.cons_append]
  have hrb : ∀ k w, Calls Try.prog 12 #[.agg (key.map u8v).toArray, .int .u32 ((ctrAt n k).toNat : Int), .agg (nonce.map u8v).toArray] w fun e w' => e = .returned (aggB (blockL key (ctrAt n k) nonce)) ∧ Ext w w' := fun k w => refBlock_any key nonce (ctrAt n k) w hk hn
  unfold aggB at hks ⊢
  have hik := Lib.hid (show (Try.prog.info? 25).map (·.size) = some (key.map u8v).toArray.size by rw [info_key]; simp [hk])
  have hin := Lib.hid (show (Try.prog.info? 26).map (·.size) = some (nonce.map u8v).toArray.size by rw [info_nonce]; simp [hn])
  obtain ⟨cK, hcK⟩ : ∃ c, key.map u8v = c := ⟨_, rfl⟩
  obtain ⟨cN, hcN⟩ : ∃ c, nonce.map u8v = c := ⟨_, rfl⟩
  rw [hcK] at hks hik hrb ⊢
  rw [hcN] at hks hin hrb ⊢
  have e : ∀ (A : World) (o : Obj), Ext A (A.alloc o) := fun A o => (Keep.refl _ A).alloc o
  have HB : Hid (∀ w1, Ext (((((w.alloc (.cells cK.toArray 25)).alloc (.cells #[.int .u32 (n.toNat : Int)] 22)).alloc (.cells cN.toArray 26)).alloc (.cells #[.int .i64 m] 3)).alloc (.cells #[.bool false] 4)) w1 →
      Ext w w1 ∧ w.heap.size + 5 ≤ w1.heap.size ∧ Arr w1 w.heap.size 25 cK ∧ Boxed w1 (w.heap.size + 1) 22 (.int .u32 (n.toNat : Int)) ∧ Arr w1 (w.heap.size + 1 + 1) 26 cN ∧ Boxed w1 (w.heap.size + 1 + 1 + 1) 3 (.int .i64 m) ∧ Boxed w1 (w.heap.size + 1 + 1 + 1 + 1) 4 (.bool false)) := fun w1 h => by
    have k1 := World.alloc_heap_new w (.cells cK.toArray 25)
    have k2 := World.alloc_heap_new (w.alloc (.cells cK.toArray 25)) (.cells #[.int .u32 (n.toNat : Int)] 22)
    have k3 := World.alloc_heap_new ((w.alloc (.cells cK.toArray 25)).alloc (.cells #[.int .u32 (n.toNat : Int)] 22)) (.cells cN.toArray 26)
    have k4 := World.alloc_heap_new (((w.alloc (.cells cK.toArray 25)).alloc (.cells #[.int .u32 (n.toNat : Int)] 22)).alloc (.cells cN.toArray 26)) (.cells #[.int .i64 m] 3)
    have k5 := World.alloc_heap_new ((((w.alloc (.cells cK.toArray 25)).alloc (.cells #[.int .u32 (n.toNat : Int)] 22)).alloc (.cells cN.toArray 26)).alloc (.cells #[.int .i64 m] 3)) (.cells #[.bool false] 4)
    have hs := h.size
    simp only [World.size_alloc] at k2 k3 k4 k5 hs
    have up : ∀ {A : World} {b : Nat} {o : Obj} (o' : Obj), A.heap[b]? = some o → (A.alloc o').heap[b]? = some o := fun o' h => (e _ o').block _ _ h (fun h => h)
    exact ⟨(((((e _ _).trans (e _ _)).trans (e _ _)).trans (e _ _)).trans (e _ _)).trans h, by omega, h.block _ _ (up _ (up _ (up _ (up _ k1)))) (fun h => h), h.block _ _ (up _ (up _ (up _ k2))) (fun h => h), h.block _ _ (up _ (up _ k3)) (fun h => h), h.block _ _ (up _ k4) (fun h => h), h.block _ _ k5 (fun h => h)⟩
  clear e
  go_wp2_with fail
  refine (awake04_any _).mono ?_; rintro e w1 ⟨rfl, e1⟩
  obtain ⟨E1, hs1, bK, bC, bN, bM, bR⟩ := HB.out w1 e1
  clear HB e1
  have cM := bM.cell
  have cC := bC.cell
  have cR := bR.cell
  have fR := bR.frozen
  have bT := bR.set (.bool true)
  have cT := bT.cell
  have ET : Ext w (w1.setCell ⟨w.heap.size + 1 + 1 + 1 + 1, 0, none⟩ (.bool true)) := E1.setCell _ _ (fun o ho => by have := Keep.lt ho; replace this : w.heap.size + 1 + 1 + 1 + 1 < w.heap.size := this; omega)
  by_cases hA : m < 0
  · clear hks hrb
    go_wp2
    refine mark0_ret rfl (by simp [results, Try.results4, go_sem]; rw [cT]) (hR _ _ ⟨rfl, ET⟩)
  · by_cases hB : 8 < m
    · clear hks hrb
      go_wp2
      refine mark0_ret rfl (by simp [results, Try.results4, go_sem]; rw [cT]) (hR _ _ ⟨rfl, ET⟩)
    · obtain ⟨m, rfl⟩ := Int.eq_ofNat_of_zero_le (show 0 ≤ m by omega)
      have hO := Boxed.new w1 3 (.int .i64 0)
      have eA : Ext w1 (w1.alloc (.cells #[.int .i64 0] 3)) := (Keep.refl _ w1).alloc _
      have bK5 := bK.ext eA
      have bN5 := bN.ext eA
      have bC5 := eA.boxed bC
      have cC5 := bC5.cell
      have bM5 := eA.boxed bM
      have bR5 := eA.boxed bR
      have E5 := E1.trans eA
      have hsA : (w1.alloc (.cells #[.int .i64 0] 3)).heap.size = w1.heap.size + 1 := by simp
      have hks5 := hks (w1.alloc (.cells #[.int .i64 0] 3))
      clear bT cT ET eA bK bN bC bR cC E1 hks
      go_wp2_with (first | (refine wpList_load_row ?_ 25 (.tmp 4) ?_ w.heap.size ?_ 25 cK.toArray (0, 0) _ ?_ Try.underlying25 rfl hik.out ?_; rfl; rfl; rfl; exact bK5) | (refine wpList_load_row ?_ 26 (.tmp 6) ?_ (w.heap.size + 1 + 1) ?_ 26 cN.toArray (0, 0) _ ?_ Try.underlying26 rfl hin.out ?_; rfl; rfl; rfl; exact bN5))
      refine hks5.mono ?_
      rintro e w2 ⟨rfl, e2, hs2, aK, aC, aN⟩
      rw [hsA] at aK aC aN hs2 ⊢
      obtain ⟨pO, hpO⟩ : ∃ p, w1.heap.size = p := ⟨_, rfl⟩
      rw [hpO] at hO aK aC aN hs2 hs1 ⊢
      have hO2 := e2.boxed hO
      have bK2 := bK5.ext e2
      have bN2 := bN5.ext e2
      have bC2 := e2.boxed bC5
      have bM2 := e2.boxed bM5
      have bR2 := e2.boxed bR5
      have E2 := E5.trans e2
      clear hO bK5 bN5 bC5 bM5 bR5 E5 e2 hks5 cM cC5 cR fR bM hsA
      go_wp2_with fail
      try rw [hpO]
      clear hpO
      have hit := keystream1_iter (pO + 1) (pO + 1 + 1) (pO + 1 + 1 + 1) key nonce n (m + 1) hk hn (by omega) (by omega) (by omega)
      rw [hcK, hcN] at hit
      refine range_wp rfl (enters_of Try.func23 (by kernel_rfl) rfl) hit
        (fun b h => by subst h; omega) (fun b h => by rcases h with rfl | rfl | rfl <;> omega)
        (fun _ _ _ ⟨h, _⟩ => by rw [h]; rfl) (fun A hA => ⟨aK.ext hA, hA.boxed aC, aN.ext hA⟩)
        (fun k A => k ≤ m ∧ Boxed A pO 3 (.int .i64 (k : Int)) ∧ Arr A w.heap.size 25 cK ∧ Arr A (w.heap.size + 1 + 1) 26 cN ∧ Boxed A (w.heap.size + 1) 22 (.int .u32 (n.toNat : Int)) ∧ Boxed A (w.heap.size + 1 + 1 + 1) 3 (.int .i64 (m : Int)) ∧ Boxed A (w.heap.size + 1 + 1 + 1 + 1) 4 (.bool false) ∧ Ext w A ∧ w2.heap.size ≤ A.heap.size)
        (fun k cd A => cd = .ret ∧ Boxed A (w.heap.size + 1 + 1 + 1 + 1) 4 (.bool true) ∧ Ext w A)
        (fun k A B ⟨h0, h1, h2, h3, h4, h5, h6, h7, h8⟩ hkp => ⟨h0, hkp.boxed_turn h1 (by omega), h2.keep hkp (fun h => by rcases h with h | h; omega; cases h.2), h3.keep hkp (fun h => by rcases h with h | h; omega; cases h.2), hkp.boxed_turn h4 (by omega), hkp.boxed_turn h5 (by omega), hkp.boxed_turn h6 (by omega), h7.then_turn hkp (by omega) (fun b o hb ho => by have := Keep.lt ho; omega), Nat.le_trans h8 hkp.size⟩)
        (fun k cd A B ⟨h0, h1, h2⟩ hkp => ⟨h0, hkp.boxed_turn h1 (by omega), h2.then_turn hkp (by omega) (fun b o hb ho => by have := Keep.lt ho; omega)⟩)
        (fun _ B ⟨h, _⟩ => by omega) ⟨by omega, hO2, bK2, bN2, bC2, bM2, bR2, E2, Nat.le_refl _⟩ ?round ?done ?stop
      case round =>
        rintro l' k A args KN KX hkN ⟨h0, h1, h2, h3, h4, h5, h6, h7, h8⟩ ⟨rfl, _, _, _⟩ hKN hKX
        have hBl := blockL_length (ctrAt n k) hk hn
        have hcell := bytes_cells2 _ hBl
        have hrk := hrb k
        obtain ⟨Bk, hBk⟩ : ∃ B, blockL key (ctrAt n k) nonce = B := ⟨_, rfl⟩
        rw [hBk] at hBl hcell hrk ⊢
        have hctr := ctrAt_nat2 n k
        obtain ⟨n2, hn2⟩ : ∃ x, ctrAt n k = x := ⟨_, rfl⟩
        rw [hn2] at hctr hrk
        unfold aggB at hrk ⊢
        obtain ⟨O, hO⟩ : ∃ O, Bk.map u8v = O := ⟨_, rfl⟩
        have hOl : O.length = 64 := by rw [← hO, List.length_map, hBl]
        have hO1 : ∀ v ∈ O, v.oneCell' = true := by rw [← hO]; exact u8v_one Bk
        rw [hO] at hcell hrk ⊢
        have hiA := Lib.hid (show (Try.prog.info? 30).map (·.size) = some O.toArray.size by rw [info_block]; simp [hOl])
        have hst := stores_new (P := Try.prog) (t := 30) (cs := List.replicate 64 (.int .u8 0)) (cs' := O) (by rw [hOl]; rfl) hO1 A
        simp only [List.replicate] at hst
        have HC := Lib.hid hcell
        clear hO hO1 hBk hBl hn2 hcell hit hrb aK aC aN hO2 bK2 bN2 bC2 bM2 bR2
        gi_wp2
        refine ⟨Keep.of_ext ((Keep.refl _ A).alloc _), fun C hC => ?_⟩
        have eA1 : Ext A (A.alloc (.cells O.toArray 30)) := (Keep.refl _ A).alloc _
        have tn : ∀ {b : Nat} {o : Obj}, o.isCells = true → ¬ turn w2.heap.size (fun _ => False) b o := fun ho h => by rcases h with h | h; exact h; rw [ho] at h; cases h.2
        have z10 := (Arr.new A 30 O).keep hC (tn rfl)
        replace h1 := hC.boxed_turn (eA1.boxed h1) id
        replace h2 := (h2.ext eA1).keep hC (tn rfl)
        replace h3 := (h3.ext eA1).keep hC (tn rfl)
        replace h4 := hC.boxed_turn (eA1.boxed h4) id
        replace h5 := hC.boxed_turn (eA1.boxed h5) id
        replace h6 := hC.boxed_turn (eA1.boxed h6) id
        replace h7 := (h7.trans eA1).then_turn hC (by omega) (fun _ _ h _ => h)
        have hAs : w2.heap.size ≤ A.heap.size := h8
        replace h8 := Nat.le_trans h8 (Nat.le_trans eA1.size hC.size)
        have c1 := h1.cell
        have c4 := h4.cell
        have c5 := h5.cell
        obtain ⟨p10, hp10⟩ : ∃ p, A.heap.size = p := ⟨_, rfl⟩
        rw [hp10] at z10 hAs ⊢
        clear hst hp10 eA1 tn hOl
        by_cases hkm : k = m
        · subst hkm
          have c6 := h6.cell
          have f6 := h6.frozen
          have h6' := h6.set (.bool true)
          have h7' := h7.setCell ⟨w.heap.size + 1 + 1 + 1 + 1, 0, none⟩ (.bool true) (fun o ho => by have := Keep.lt ho; replace this : w.heap.size + 1 + 1 + 1 + 1 < w.heap.size := this; omega)
          have hkk : Keep (Go.Proofs.Ytijpbbjblenhaaa.round w2.heap.size fun b => b = pO + 1 ∨ b = pO + 1 + 1 ∨ b = pO + 1 + 1 + 1) C (C.setCell ⟨w.heap.size + 1 + 1 + 1 + 1, 0, none⟩ (.bool true)) := (Keep.refl _ C).setCell _ _ (fun o ho => ⟨fun h => by replace h : w.heap.size + 1 + 1 + 1 + 1 = pO + 1 ∨ w.heap.size + 1 + 1 + 1 + 1 = pO + 1 + 1 ∨ w.heap.size + 1 + 1 + 1 + 1 = pO + 1 + 1 + 1 := h; omega, .inl (by show w.heap.size + 1 + 1 + 1 + 1 < _; omega)⟩)
          gi_wp2
          refine hKX _ _ _ hkk ⟨by first | trivial | rfl, h6', h7'⟩
        · have hne : ((k : Int) == (m : Int)) = false := by simp; omega
          gi_wp2
          refine FY.wpIn_flow (X := fun _ _ => True) (0 :: 1 :: 2 :: 3 :: 4 :: 5 :: 6 :: 7 :: 8 :: [])
            (fun n => if n = 7 then .grows (Is (.agg O.toArray)) (IsSh (.agg O.toArray)) else .reads) (fun n => by split <;> simp) (by kernel_rfl) (by kernel_rfl) (by kernel_rfl) ?_
          have hD : ∀ g : FY.At (fun _ _ => False) C.drew, Ext C g.w := fun g => ((Keep.refl _ C).drew).trans g.ext
          have d1 := fun g => (hD g).cell c1
          have d4 := fun g => (hD g).cell c4
          refine FY.flow_v (v := .agg O.toArray) rfl rfl rfl (fun w' hE => exec_load_row rfl rfl (z10.ext (((Keep.refl _ C).drew).trans hE)) Try.underlying30 rfl hiA.out) ?_
          simp only [Act.put, List.setIfInBounds_toArray, List.set_cons_succ, List.set_cons_zero]
          refine FY.flow_v (v := .agg cK.toArray) rfl rfl rfl (fun w' hE => exec_load_row rfl rfl (h2.ext (((Keep.refl _ C).drew).trans hE)) Try.underlying25 rfl hik.out) ?_
          simp only [Act.put, List.setIfInBounds_toArray, List.set_cons_succ, List.set_cons_zero]
          iterate 4 (refine FY.flow_r rfl rfl rfl ?_; go_big_quiet_step (fail); refine wpQuiet_nil ?_)
          refine FY.flow_v (v := .agg cN.toArray) rfl rfl rfl (fun w' hE => exec_load_row rfl rfl (h3.ext (((Keep.refl _ C).drew).trans hE)) Try.underlying26 rfl hin.out) ?_
          simp only [Act.put, List.setIfInBounds_toArray, List.set_cons_succ, List.set_cons_zero]
          refine FY.flow_g rfl rfl rfl (by simp) ⟨_, rfl⟩ (fun _ _ _ h hE => h) (fun _ _ h => h) (fun w5 hE5 _ => ?_) (fun v hv => ?_)
          · go_wp2_with fail
            refine (hrk _).mono ?_
            rintro e w6 ⟨rfl, hE6⟩
            go_wp2
            try exact rfl
          cases hv
          simp only [Act.put, List.setIfInBounds_toArray, List.set_cons_succ, List.set_cons_zero]
          refine FY.flow_v (v := .bool false) rfl rfl rfl (fun w' hE => exec_neq_arr rfl rfl rfl Try.underlying30 Try.underlying5 size_u8 (by kernel_rfl) HC.out) ?_
          simp only [Act.put, List.setIfInBounds_toArray, List.set_cons_succ, List.set_cons_zero]
          refine FY.flow_end (fun D hED _ => ?_)
          have hCD : Ext C D := ((Keep.refl _ C).drew).trans hED
          have g1 := hCD.boxed h1
          have g2 := h2.ext hCD
          have g3 := h3.ext hCD
          have g4 := hCD.boxed h4
          have g5 := hCD.boxed h5
          have g6 := hCD.boxed h6
          have g7 := h7.trans hCD
          have e1 := g1.cell
          have ef1 := g1.frozen
          have g1' := g1.set (.int .i64 ((k + 1 : Nat) : Int))
          have kC : Keep (fun b _ => b = pO) D (D.setCell ⟨pO, 0, none⟩ (.int .i64 ((k + 1 : Nat) : Int))) := keep_setCell D pO 0 _
          have g2' := g2.keep kC (by omega)
          have g3' := g3.keep kC (by omega)
          have g4' := g4.other (show w.heap.size + 1 ≠ pO by omega) (.int .i64 ((k + 1 : Nat) : Int))
          have g5' := g5.other (show w.heap.size + 1 + 1 + 1 ≠ pO by omega) (.int .i64 ((k + 1 : Nat) : Int))
          have g6' := g6.other (show w.heap.size + 1 + 1 + 1 + 1 ≠ pO by omega) (.int .i64 ((k + 1 : Nat) : Int))
          have g7' := g7.setCell ⟨pO, 0, none⟩ (.int .i64 ((k + 1 : Nat) : Int)) (fun o ho => by have := Keep.lt ho; replace this : pO < w.heap.size := this; omega)
          have hkk : Keep (Go.Proofs.Ytijpbbjblenhaaa.round w2.heap.size fun b => b = pO + 1 ∨ b = pO + 1 + 1 ∨ b = pO + 1 + 1 + 1) C (D.setCell ⟨pO, 0, none⟩ (.int .i64 ((k + 1 : Nat) : Int))) := (Keep.of_ext hCD).setCell _ _ (fun o ho => ⟨fun h => by replace h : pO = pO + 1 ∨ pO = pO + 1 + 1 ∨ pO = pO + 1 + 1 + 1 := h; omega, .inl (by show pO < _; omega)⟩)
          clear d1 d4 hD hrk h1 h2 h3 h4 h5 h6 h7 g1 g2 g3 g4 g5 g6 g7 kC c1 c4 c5 hED
          gi_wp2
          refine hKN _ _ hkk ⟨by omega, g1', g2', g3', g4', g5', g6', g7', Nat.le_trans h8 hkk.size⟩
      case done =>
        rintro D A hD ⟨h, _⟩
        omega
      case stop =>
        rintro D cd k A hD hkN ⟨rfl, h1, h2⟩ hd
        have hT2 : Boxed (A.putObj D (.deferred none)) (w.heap.size + 1 + 1 + 1 + 1) 4 (.bool true) := (World.putObj_heap_other (by omega)).trans h1
        have cT2 := hT2.cell
        go_wp2
        refine mark_ret hd rfl (by simp [results, Try.results4, go_sem]; rw [cT2]) (hR _ _ ⟨rfl, h2.putObj _ _ (fun o ho => by have := Keep.lt ho; have := E2.size; omega)⟩)
end Go.Proofs.Ytijpbbjblenhaaa
