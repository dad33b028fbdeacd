/-
  TopRevoked: Unbox, Open. Open. the document's lists of numbers: Has, but, rises. the document's lists of numbers: rises.
-/
import Derived.Test.YtcmhgpgookiomaaGreatM07
import Derived.Test.YtcmhgpgookiomaaGreatM19
namespace Go.Proofs.YtcmhgpgookiomaaGreat
open Go.RowKit Go.Shelf Go.Maps

attribute [local go_sem] Oper.semAt_some

theorem fold_len {s : SSt} {F : Nat → Nat → List By} {realm epoch : Nat} (hpl : ∀ kek ct k, s.pl kek ct = some k → k.length = 32) : ∀ (l : List BoxP) (best : Option (Nat × By)), (best.getD (0, key0)).2.length = 32 → ((l.foldl (stepS s F realm epoch) best).getD (0, key0)).2.length = 32
  | [], _, h => h
  | b :: l, best, h => by
    rw [List.foldl_cons]
    refine fold_len hpl l _ ?_
    unfold stepS
    split
    · split
      · rename_i k hq
        unfold realmP at hq
        obtain ⟨q, _, hq2⟩ := List.exists_of_findSome?_eq_some hq
        exact hpl _ _ _ hq2
      · exact h
    · exact h
theorem kmap_same {P : Program} {k : TypeId} {w w' : World} {B n : Nat} {S : Lit → Option Value} (h : KMap P k w B n S) (h2 : w'.heap[B]? = w.heap[B]?) : KMap P k w' B n S := by
  obtain ⟨D, ⟨es, clock, hb, rest⟩, h3⟩ := h
  exact ⟨D, ⟨es, clock, h2.trans hb, rest⟩, h3⟩
theorem keys0 {w w' : World} (hE : w'.heap[w.heap.size]? = some (.map #[] 0)) (base : Nat) : KeysAt w' base w.heap.size 0 (fun _ _ => []) (fun _ => none) (fun _ _ => .slice none 0 0) :=
  ⟨kmap_same (KMap.made _ _ w) (by rw [hE, World.alloc_heap_new]), fun _ _ _ _ _ _ => by simp, fun _ _ => World.ownsRow_nil _ _ _ _, fun _ _ _ _ _ h => by simp [Value.ownBlock] at h, fun _ _ _ => rfl⟩

set_option maxRecDepth 20000 in
set_option maxHeartbeats 8000000 in
theorem unbox_any {w : World} {N Q TB A PL : Nat} {s : SSt} {v : Value} {bv : List (BoxP × Value)} (hs : SuiteAt w Q TB A PL s) (hb : BoxesAt w N v bv) (sec : By) (hsec : sec.length = 32) (who realm epoch : Nat) (hwho : who < 4294967296) (hn : bv.length ≤ 20000) (hst : startP s (bv.map (·.1)) sec who realm epoch = none ∨ ∃ k, startP s (bv.map (·.1)) sec who realm epoch = some (epoch, k)) :
    Calls Tryz.prog 24 #[.pointer (some ⟨Q, 0, none⟩), aggK sec, .int .u32 (who : Int), .int .u32 (realm : Int), .int .u32 (epoch : Int), v] w fun e w' => Ext w w' ∧
      (startP s (bv.map (·.1)) sec who realm epoch = none → e = .returned (.tuple #[aggK key0, .int .i64 213])) ∧ (∀ k, startP s (bv.map (·.1)) sec who realm epoch = some (epoch, k) → e = .returned (.tuple #[aggK k, .int .i64 0])) := by
  have HHST := Lib.hid hst
  have hlp := hs.lp
  have HLP := Lib.hid hlp
  clear hst hlp
  obtain ⟨a, c, hv, _⟩ := owns_row hb.own
  obtain ⟨K, hK⟩ : ∃ K, sec.map u8v = K := ⟨_, rfl⟩
  have hKl : K.length = 32 := by rw [← hK, List.length_map, hsec]
  have hiK := Lib.hid (show (Tryz.prog.info? 51).map (·.size) = some K.toArray.size by rw [info_key, List.size_toArray, hKl])
  obtain ⟨Z, hZ⟩ : ∃ Z, key0.map u8v = Z := ⟨_, rfl⟩
  have hZl : Z.length = 32 := by rw [← hZ, List.length_map, key0_len]
  have HZE := Lib.hid (show (List.replicate 32 (Value.int .u8 0)) = Z by rw [← hZ]; rfl)
  have hiZ := Lib.hid (show (Tryz.prog.info? 51).map (·.size) = some Z.toArray.size by rw [info_key, List.size_toArray, hZl])
  have h1Z := Lib.hid (show Z.toArray.all (·.oneCell') = true by rw [← hZ]; exact all_one _)
  have HZL := Lib.hid hZl
  have HBZ := Lib.hid (show ∀ (w : World) (o : Oper) (a : Act), o.op = .build 51 #[] → (execOp a.eval o).run Tryz.prog w = .ok (.value (.agg Z.toArray)) w from fun w o a ho => by rw [← hZ]; exact exec_build_key0 w a ho)
  have HK := Lib.hid hK
  have HZ := Lib.hid hZ
  have HS := Lib.hid hs
  have HB := Lib.hid hb
  have HSEC := Lib.hid hsec
  have HV := Lib.hid hv
  have lA : A < w.heap.size := by obtain ⟨_, _, hb, _⟩ := hs.ans; exact hb.lt
  have lP : PL < w.heap.size := by obtain ⟨_, _, hb, _⟩ := hs.pl; exact hb.lt
  unfold aggK
  rw [hK, hZ, hv]
  clear hs hb hsec hK hKl hZ hZl hv
  refine calls_cps fun R0 hR => ?_
  have HR := Lib.hid hR
  clear hR
  go_enter Tryz.func24, Tryz.ntmps24
  go_upto_region 1 with fail
  refine wp_laid2 fun W eW hG1 hG2 => ?_
  have aK : Arr W w.heap.size 51 K := hG1
  have aZ : Arr W (w.heap.size + 1) 51 Z := by rw [← HZE.out]; exact hG2
  have HEW := Lib.hid eW
  have AK := Lib.hid aK
  have AZ := Lib.hid aZ
  clear hG1 hG2 eW aK aZ
  go_step3
  go_wp2_with (first
    | (refine wpList_valw (o := ⟨some 19, _, _, _, _, _⟩) (v := .map (some W.heap.size)) (w' := W.alloc (.map #[] 0)) ?_ ?_ ?_; exact exec_makeMap' rfl; rfl; refine wpList_laid1 fun W1 eW1 hG3 => ?_)
    | (refine wpList_val (o := ⟨some 23, _, _, _, _, _⟩) (v := .agg K.toArray) ?_ ?_ ?_; exact exec_load_row rfl rfl ((AK.out.ext eW1).alloc _) Tryz.underlying51 rfl hiK.out; rfl)
    | fail)
  have aO : Arr (W1.alloc (.cells #[.pointer (some ⟨Q, 0, none⟩), .slice a bv.length c, .map (some W.heap.size)] 123)) W1.heap.size 123 [.pointer (some ⟨Q, 0, none⟩), .slice a bv.length c, .map (some W.heap.size)] := Arr.new _ _ _
  have E2 := Lib.hid (HEW.out.trans (eW1.alloc (.cells #[.pointer (some ⟨Q, 0, none⟩), .slice a bv.length c, .map (some W.heap.size)] 123)))
  obtain ⟨W2, hW2⟩ : ∃ W2, W1.alloc (.cells #[.pointer (some ⟨Q, 0, none⟩), .slice a bv.length c, .map (some W.heap.size)] 123) = W2 := ⟨_, rfl⟩
  have hlW : W.heap.size < W1.heap.size := Keep.lt hG3
  have hM0 : W2.heap[W.heap.size]? = some (.map #[] 0) := by rw [← hW2]; exact ((Keep.refl (fun _ _ => False) W1).alloc _).block _ _ hG3 (fun h => h)
  rw [hW2] at aO E2 ⊢
  have hlearn := learn_any (HS.out.ext E2.out) (HB.out.ext E2.out) (by rw [HV.out]; exact aO) (keys0 hM0 W2.heap.size) sec HSEC.out who hwho hn (by have := HEW.out.size; omega) (by have := HEW.out.size; omega)
  unfold aggK at hlearn
  rw [HK.out] at hlearn
  have E12 := Lib.hid (eW1.alloc (.cells #[.pointer (some ⟨Q, 0, none⟩), .slice a bv.length c, .map (some W.heap.size)] 123))
  rw [hW2] at E12
  have aZ2 := Lib.hid (AZ.out.ext E12.out)
  have HAO := Lib.hid aO
  have hszW := HEW.out.size
  clear hM0 hW2 hG3 eW1 aO
  refine hlearn.mono ?_
  rintro e w3 ⟨rfl, ⟨m, S', V', hm, hks⟩, k3⟩
  clear hlearn
  have hs3 : SuiteAt w3 Q TB A PL s := (HS.out.ext E2.out).keep k3 (fun _ => MapX.cells) (fun _ => MapX.cells) (fun _ _ => MapX.cells) (fun _ _ => mapX_ne (by omega)) (fun _ _ => mapX_ne (by omega))
  have hb3 := (HB.out.ext E2.out).keep k3 (fun _ _ _ => MapX.cells) (fun _ _ _ => MapX.cells)
  have aO3 := HAO.out.keep k3 MapX.cells
  have aZ3 := aZ2.out.keep k3 MapX.cells
  have E3 : Ext w w3 := ((Keep.of_ext E2.out).trans k3).mono (fun k o ho hx => by have := Keep.lt ho; have := hx.1; omega)
  have hF32 : ∀ g e, ∀ k ∈ keysP s (bv.map (·.1)) sec who g e, k.length = 32 := fun g e k hk => by
    unfold keysP at hk
    obtain ⟨b, _, hb⟩ := List.mem_filterMap.1 hk
    split at hb
    · exact hs3.lp _ _ _ hb
    · cases hb
  have hFL : ∀ g e, (keysP s (bv.map (·.1)) sec who g e).length ≤ 20000 := fun g e => by
    unfold keysP
    refine Nat.le_trans (List.length_filterMap_le _ _) ?_
    rw [List.length_map]; exact hn
  have hstart := start_any (N := N) hs3 hb3 (by rw [HV.out]; exact aO3) hks realm epoch hF32 hFL hn hs3.lp
  rw [← startP_eq] at hstart
  have HST := Lib.hid hstart
  have AZ3 := Lib.hid aZ3
  have HE3 := Lib.hid E3
  clear hs3 hb3 aO3 aZ3 E3 hF32 hFL hstart hks k3 hm
  go_wp2_with fail
  refine HST.out.mono ?_
  rintro e w4 ⟨e4, rfl⟩
  have aZ4 := AZ3.out.ext e4
  have HE4 := Lib.hid (HE3.out.trans e4)
  clear e4 HST
  obtain ⟨best, hbest⟩ : ∃ x, startP s (bv.map (·.1)) sec who realm epoch = x := ⟨_, rfl⟩
  have hhst := HHST.out
  have hr := HR.out
  rw [hbest] at hhst hr ⊢
  have HRR := Lib.hid hr
  clear hr HR HHST
  have hb32 : (best.getD (0, key0)).2.length = 32 := by
    rw [← hbest, startP_eq]
    exact fold_len HLP.out _ none key0_len
  have kb := kc_of (e := (best.getD (0, key0)).1) hb32
  obtain ⟨C, hC⟩ : ∃ C, keyedC (best.getD (0, key0)) = C := ⟨_, rfl⟩
  rw [show keyedC ((best.getD (0, key0)).1, (best.getD (0, key0)).2) = C from hC] at kb
  obtain ⟨Y, hY⟩ : ∃ Y, (best.getD (0, key0)).2.map u8v = Y := ⟨_, rfl⟩
  rw [hY] at kb
  have hiY := Lib.hid (show (Tryz.prog.info? 51).map (·.size) = some Y.toArray.size by rw [info_key, List.size_toArray, kb.olen])
  have hsY := Lib.hid (show Z.toArray.size = Y.toArray.size by rw [List.size_toArray, List.size_toArray, kb.olen, HZL.out])
  have h1Y := Lib.hid (show Y.toArray.all (·.oneCell') = true by rw [← hY]; exact all_one _)
  unfold keyedV
  rw [hC]
  have KB := Lib.hid kb
  have AZ4 := Lib.hid aZ4
  have h0 := kb.c0
  have HE0 := Lib.hid h0
  have hkS : ∀ W5, Ext w4 W5 → ∀ X : Array Value, Ext w (W5.setRow (w.heap.size + 1) X) := fun W5 hE X => ((Keep.of_ext (HE4.out.trans hE)).trans (keep_setRow W5 (w.heap.size + 1) X)).mono (fun k o ho hx => by have := Keep.lt ho; omega)
  have HKS := Lib.hid hkS
  rcases hhst with rfl | ⟨k, rfl⟩
  · have hrr := fun W5 (hE : Ext w4 W5) => HRR.out (.returned (.tuple #[.agg Z.toArray, .int .i64 213])) (W5.setRow (w.heap.size + 1) Z.toArray) ⟨HKS.out W5 hE _, fun _ => rfl, fun k h => (by cases h)⟩
    have HR2 := Lib.hid hrr
    clear hrr HRR hkS kb h0 hC hY hb32 hbest aZ4
    simp only [Option.isSome_none]
    go_wp2_with (first
      | (refine wpList_skip0 (o := ⟨none, .store _ _ _, _, _, _, _⟩) (w' := w4.alloc (.cells C.toArray 86)) ?_ ?_ ?_ ?_; exact exec_store_new rfl rfl rfl KB.out.info KB.out.size KB.out.one; rfl; rfl; refine wpList_laid1 fun W5 eW5 hG5 => ?_)
      | fail)
    go_step3
    go_wp2
    go_loopw [16] (fun fo wr => fo = .bool false ∧ wr = W5) (fun _ _ => 0)
    case atStart => exact ⟨rfl, rfl⟩
    case round =>
      obtain ⟨rfl, rfl⟩ := hrel
      have hcell := (AZ4.out.ext eW5).setRow Z
      have hfin := HR2.out wr eW5
      have HA := Lib.hid (AZ4.out.ext eW5)
      go_wp2_with (first
        | (refine wpList_val (o := ⟨some 52, _, _, _, _, _⟩) (v := .agg Z.toArray) ?_ ?_ ?_; exact HBZ.out _ _ _ rfl; rfl)
        | (refine wpList_skipw (o := ⟨none, .store _ _ _, _, _, _, _⟩) (w' := wr.setRow (w.heap.size + 1) Z.toArray) ?_ ?_ ?_; exact exec_store_row rfl rfl rfl HA.out hiZ.out rfl h1Z.out; rfl)
        | fail)
      rw [Exit.noGoto_ret]
      exact bodyPost_ret (results_cell_slot rfl _ _ (w.heap.size + 1) 51 Z.toArray (0, 0) _ (.int .i64 213) rfl rfl hcell Tryz.underlying51 rfl hiZ.out) rfl hfin
  · have hrr := fun W5 (hE : Ext w4 W5) => HRR.out (.returned (.tuple #[.agg Y.toArray, .int .i64 0])) (W5.setRow (w.heap.size + 1) Y.toArray) ⟨HKS.out W5 hE _, fun h => (by cases h), fun k' h => (by cases h; rw [← hY]; rfl)⟩
    have HR2 := Lib.hid hrr
    have hz0 : C[0]? = some (.int .u32 (epoch : Int)) := h0
    have HZ0 := Lib.hid hz0
    clear hrr HRR hkS kb h0 hC hY hb32 hbest aZ4 hz0
    simp only [Option.isSome_some]
    go_wp2_with (first
      | (refine wpList_skip0 (o := ⟨none, .store _ _ _, _, _, _, _⟩) (w' := w4.alloc (.cells C.toArray 86)) ?_ ?_ ?_ ?_; exact exec_store_new rfl rfl rfl KB.out.info KB.out.size KB.out.one; rfl; rfl; refine wpList_laid1 fun W5 eW5 hG5 => ?_)
      | fail)
    go_step3
    go_wp2
    go_loopw [16] (fun fo wr => fo = .bool true ∧ wr = W5) (fun _ _ => 0)
    case atStart => exact ⟨rfl, rfl⟩
    case round =>
      obtain ⟨rfl, rfl⟩ := hrel
      have hcell := (AZ4.out.ext eW5).setRow Y
      have hfin := HR2.out wr eW5
      have HA := Lib.hid (AZ4.out.ext eW5)
      have aC5 : Arr wr w4.heap.size 86 C := hG5
      have z0 := aC5.cell HZ0.out
      have LD := Lib.hid (KB.out.mid wr w4.heap.size aC5)
      go_wp2_with (first
        | (refine wpList_val (o := ⟨some 54, _, _, _, _, _⟩) (v := .agg Y.toArray) ?_ ?_ ?_; exact exec_load_mid' rfl rfl LD.out Tryz.underlying51 rfl KB.out.iO; rfl)
        | (refine wpList_skipw (o := ⟨none, .store _ _ _, _, _, _, _⟩) (w' := wr.setRow (w.heap.size + 1) Y.toArray) ?_ ?_ ?_; exact exec_store_row rfl rfl rfl HA.out hiY.out hsY.out h1Y.out; rfl)
        | fail)
      rw [Exit.noGoto_ret]
      exact bodyPost_ret (results_cell_slot rfl _ _ (w.heap.size + 1) 51 Y.toArray (0, 0) _ (.int .i64 0) rfl rfl hcell Tryz.underlying51 rfl hiY.out) rfl hfin
end Go.Proofs.YtcmhgpgookiomaaGreat
namespace Go.Proofs.YtcmhgpgookiomaaGreat
open Go.RowKit Go.Shelf Go.Maps

attribute [local go_sem] Oper.semAt_some

set_option maxRecDepth 20000 in
set_option maxHeartbeats 8000000 in
theorem open_any {w : World} {N R Q TB A PL : Nat} {st : St} (h : RingAt w N R Q TB A PL st) (who realm epoch : Nat) (hwho : who < 4294967296) (hn : st.1.box.length ≤ 20000) (hin : In st.1.sec who)
    (hst : startP st.2 st.1.box (secA st.1 who) who realm epoch = none ∨ ∃ k, startP st.2 st.1.box (secA st.1 who) who realm epoch = some (epoch, k)) :
    Calls Tryz.prog 13 #[.pointer (some ⟨R, 0, none⟩), .int .u32 (who : Int), .int .u32 (realm : Int), .int .u32 (epoch : Int)] w fun e w' => Ext w w' ∧
      (startP st.2 st.1.box (secA st.1 who) who realm epoch = none → e = .returned (.tuple #[aggK key0, .int .i64 213])) ∧ (∀ k, startP st.2 st.1.box (secA st.1 who) who realm epoch = some (epoch, k) → e = .returned (.tuple #[aggK k, .int .i64 0])) := by
  have hok := fun B (hB : Ext w B) => rok_any (h.ext hB)
  obtain ⟨b1, b2, b3, b4, b5, L4, L5, v, bv, h⟩ := h
  have hl := fun B (hB : Ext w B) => (h.ext hB).has_sec hwho
  have hk := h.secA_len who
  have hbv : bv.length ≤ 20000 := by rw [← h.boxes] at hn; simpa using hn
  have hunb := fun B (hB : Ext w B) => unbox_any (h.suite.ext hB) (h.box.ext hB) (secA st.1 who) hk who realm epoch hwho hbv (by rw [h.boxes]; exact hst)
  rw [h.boxes] at hunb
  rw [show (getA st.1.sec who).isSome = true from hin] at hl
  obtain ⟨O, hO⟩ : ∃ O, (secA st.1 who).map u8v = O := ⟨_, rfl⟩
  have hOl : O.length = 32 := by rw [← hO, List.length_map, hk]
  have hi := Lib.hid (show (Tryz.prog.info? 51).map (·.size) = some O.toArray.size by rw [info_key, List.size_toArray, hOl])
  have ho := Lib.hid (show 32 = O.toArray.size by rw [List.size_toArray, hOl])
  have h1 := Lib.hid (show O.toArray.all (·.oneCell') = true by rw [← hO]; exact all_one _)
  unfold aggK at hl hunb
  rw [hO] at hl hunb
  -- the answer, one value
  obtain ⟨Y, er, hY32, h1Y, hcl, hgo⟩ : ∃ (Y : List Value) (er : Int), Y.length = 32 ∧ Y.toArray.all (·.oneCell') = true ∧ (∀ B, Ext w B → Calls Tryz.prog 24 #[.pointer (some ⟨Q, 0, none⟩), .agg O.toArray, .int .u32 (who : Int), .int .u32 (realm : Int), .int .u32 (epoch : Int), v] B fun e w' => Ext B w' ∧ e = .returned (.tuple #[.agg Y.toArray, .int .i64 er])) ∧
      ((startP st.2 st.1.box (secA st.1 who) who realm epoch = none → Ending.returned (.tuple #[.agg Y.toArray, .int .i64 er]) = .returned (.tuple #[aggK key0, .int .i64 213])) ∧ (∀ k, startP st.2 st.1.box (secA st.1 who) who realm epoch = some (epoch, k) → Ending.returned (.tuple #[.agg Y.toArray, .int .i64 er]) = .returned (.tuple #[aggK k, .int .i64 0]))) := by
    rcases hst with hq | ⟨k, hq⟩
    · exact ⟨key0.map u8v, 213, by rw [List.length_map, key0_len], all_one _, fun B hB => (hunb B hB).mono (fun e w' hh => ⟨hh.1, hh.2.1 hq⟩), fun _ => rfl, fun k hh => (by rw [hq] at hh; cases hh)⟩
    · have hkl : k.length = 32 := by
        have hq' := hq
        rw [startP_eq] at hq'
        have := fold_len (s := st.2) (F := fun g e => keysP st.2 st.1.box (secA st.1 who) who g e) (realm := realm) (epoch := epoch) h.suite.lp st.1.box none key0_len
        rw [hq'] at this
        exact this
      exact ⟨k.map u8v, 0, by rw [List.length_map, hkl], all_one _, fun B hB => (hunb B hB).mono (fun e w' hh => ⟨hh.1, hh.2.2 k hq⟩), fun hh => (by rw [hq] at hh; cases hh), fun k' hh => (by rw [hq] at hh; cases hh; rfl)⟩
  have hiY := Lib.hid (show (Tryz.prog.info? 51).map (·.size) = some Y.toArray.size by rw [info_key, List.size_toArray, hY32])
  have hsY := Lib.hid (show (List.replicate 32 (Value.int .u8 0)).toArray.size = Y.toArray.size by rw [List.size_toArray, List.size_toArray, hY32]; rfl)
  have H1Y := Lib.hid h1Y
  have HCL := Lib.hid hcl
  have HL := Lib.hid hl
  have HOK := Lib.hid hok
  have HCE := Lib.hid h.cells
  have HGO := Lib.hid hgo
  clear hO hOl hk hbv hunb hst hin hn h hl hok h1Y hcl hgo hY32
  refine calls_cps fun R0 hR => ?_
  have HR := Lib.hid hR
  clear hR
  go_enter Tryz.func13, Tryz.ntmps13
  go_upto_region 1 with fail
  refine wp_laid1 fun W eW hG => ?_
  have aZ : Arr W w.heap.size 51 (List.replicate 32 (Value.int .u8 0)) := hG
  have HEW := Lib.hid eW
  have hok := HOK.out W eW
  clear hG eW
  go_wp2_with fail
  refine hok.mono ?_
  rintro e w1 ⟨rfl, rfl⟩
  clear hok
  have c1 := Ext.cell HEW.out (HCE.out.cell (i := 1) rfl)
  have AZ := Lib.hid aZ
  clear aZ
  go_wp2_with (first
    | (refine wpList_val (o := ⟨some 22, _, _, _, _, _⟩) (v := .tuple #[.agg O.toArray, .bool true]) ?_ ?_ ?_; exact exec_lookup' rfl (HL.out w1 HEW.out); rfl)
    | (refine wpList_skip0 (o := ⟨none, .store _ _ _, _, _, _, _⟩) (w' := w1.alloc (.cells O.toArray 51)) ?_ ?_ ?_ ?_; exact exec_store_new rfl rfl rfl hi.out ho.out h1.out; rfl; rfl; refine wpList_laid1 fun W2 eW2 hG2 => ?_)
    | fail)
  have aO : Arr W2 w1.heap.size 51 O := hG2
  have E2 := Lib.hid (HEW.out.trans eW2)
  have AZ2 := Lib.hid (AZ.out.ext eW2)
  clear hG2 eW2 c1
  have d0 := fun g : FY.At (fun _ _ => False) W2.drew => (HCE.out.ext (E2.out.trans (((Keep.refl _ W2).drew).trans g.ext))).cell (i := 0) rfl
  have d6 := fun g : FY.At (fun _ _ => False) W2.drew => (HCE.out.ext (E2.out.trans (((Keep.refl _ W2).drew).trans g.ext))).cell (i := 6) rfl
  refine FY.wp_flow (X := fun _ _ => True) (0 :: 1 :: 2 :: 3 :: 4 :: 5 :: 6 :: 7 :: 8 :: 9 :: 10 :: 11 :: 12 :: 13 :: 14 :: 15 :: 16 :: []) (fun n => if n = 12 then .grows (fun v _ => v = .tuple #[.agg Y.toArray, .int .i64 er]) (fun v => v = .tuple #[.agg Y.toArray, .int .i64 er]) else if n = 15 then .bar else if n < 12 then .reads else .still) (by kernel_rfl) (by kernel_rfl) ?_
  iterate 4 (refine FY.flow_r rfl rfl rfl ?_; go_big_quiet_step (fail); refine wpQuiet_nil ?_)
  refine FY.flow_v (v := .agg O.toArray) rfl rfl rfl (fun w' hE => exec_load_row rfl rfl (aO.ext (((Keep.refl _ W2).drew).trans hE)) Tryz.underlying51 rfl hi.out) ?_
  simp only [Act.put, List.setIfInBounds_toArray, List.set_cons_succ, List.set_cons_zero]
  iterate 7 (refine FY.flow_r rfl rfl rfl ?_; go_big_quiet_step (fail); refine wpQuiet_nil ?_)
  refine FY.flow_g rfl rfl rfl (by simp) ⟨_, rfl⟩ (fun _ _ _ h _ => h) (fun _ _ h => h) (fun w5 hE5 _ => ?_) (fun v hv => ?_)
  · have hcall := HCL.out w5 (E2.out.trans (((Keep.refl _ W2).drew).trans hE5))
    clear d0 d6
    go_wp2_with fail
    refine hcall.mono ?_
    rintro e w6 ⟨hE6, rfl⟩
    clear hcall
    go_wp2
  subst hv
  simp only [Act.put, List.setIfInBounds_toArray, List.set_cons_succ, List.set_cons_zero]
  iterate 2 (refine FY.flow_q rfl rfl rfl ?_; go_big_quiet_step (fail); refine wpQuiet_nil ?_)
  clear d0 d6
  refine FY.flow_ba rfl rfl rfl (by kernel_rfl) (fun w6 hE6 _ => ?_)
  replace hE6 : Ext W2 w6 := ((Keep.refl _ W2).drew).trans hE6
  have HAZ := Lib.hid (AZ2.out.ext hE6)
  have E6 := Lib.hid (E2.out.trans hE6)
  have hk7 : Keep (fun _ _ => True) w6 (w6.setRow w.heap.size Y.toArray) := (keep_setRow w6 w.heap.size Y.toArray).mono (fun _ _ _ _ => trivial)
  have HK7 := Lib.hid hk7
  clear hE6 hk7
  go_wp2_with (first
    | (refine wpList_skipw (o := ⟨none, .store _ _ _, _, _, _, _⟩) (w' := w6.setRow w.heap.size Y.toArray) ?_ ?_ ?_; exact exec_store_row rfl rfl rfl HAZ.out hiY.out hsY.out H1Y.out; rfl)
    | fail)
  refine ⟨HK7.out, ?_⟩
  refine FY.flow_q rfl rfl rfl ?_; go_big_quiet_step (fail); refine wpQuiet_nil ?_
  refine FY.flow_end (fun w8 hE8 _ => ?_)
  replace hE8 : Ext (w6.setRow w.heap.size Y.toArray) w8 := hE8
  have hcell := (HAZ.out.setRow Y).ext hE8
  have hkk : Ext w w8 := (((Keep.of_ext E6.out).trans (keep_setRow w6 w.heap.size Y.toArray)).trans (Keep.of_ext hE8)).mono (fun k o ho hx => by have := Keep.lt ho; omega)
  have hRR := HR.out (.returned (.tuple #[.agg Y.toArray, .int .i64 er])) w8 ⟨hkk, HGO.out⟩
  clear HR HGO hkk hE8
  go_wp2
  exact bodyPost_ret (results_cell_slot rfl _ _ w.heap.size 51 Y.toArray (0, 0) _ (.int .i64 er) rfl rfl hcell Tryz.underlying51 rfl hiY.out) rfl hRR
end Go.Proofs.YtcmhgpgookiomaaGreat
namespace Go.Proofs.YtcmhgpgookiomaaGreat
open Go.RowKit Go.Shelf Go.Maps

attribute [local go_sem] Oper.semAt_some

set_option maxRecDepth 20000 in
theorem has_any (a : Option Addr) (c : Nat) (xs : List Nat) (x : Nat) (w : World) (hr : Row 1 w a xs.length c (xs.map u32n)) :
    Calls Tryz.prog 23 #[.slice a xs.length c, .int .u32 (x : Int)] w fun e w' => e = .returned (.bool (decide (x ∈ xs))) ∧ w' = w := by
  obtain ⟨n, hn⟩ : ∃ n, xs.length = n := ⟨_, rfl⟩
  rw [hn] at hr ⊢
  have hmx := hr.2.1
  have hnc := hr.1
  unfold maxLen at hmx
  have HROW := Lib.hid hr
  have HN := Lib.hid hn
  clear hr hn
  refine calls_cps fun R hR => ?_
  have HR := Lib.hid hR
  clear hR
  go_enter Tryz.func23, Tryz.ntmps23
  go_wp2
  go_loopw [9] (fun ix wr => ∃ k : Nat, k ≤ n ∧ ix = .int .i64 (k : Int) ∧ Hid (x ∉ xs.take k) ∧ wr = w) (fun ix _ => n - (vI ix).toNat)
  case atStart => exact ⟨0, by omega, rfl, Lib.hid (by simp), rfl⟩
  case round =>
    obtain ⟨k, hk, rfl, HX, rfl⟩ := hrel
    by_cases hlt : k < n
    · obtain ⟨y, hy⟩ : ∃ y, xs[k]? = some y := ⟨_, List.getElem?_eq_getElem (by have := HN.out; omega)⟩
      obtain ⟨b, o, rfl, hcell⟩ := HROW.out.2.2.2.2 (by omega)
      have ck := hcell k (.int .u32 (y : Int)) (by rw [List.getElem?_map, hy]; rfl)
      by_cases hxy : y = x
      · have h1 : ((y : Int) == (x : Int)) = true := by rw [beq_iff_eq]; omega
        have h2 : (y : Int) = (x : Int) := by omega
        have hmem : decide (x ∈ xs) = true := by rw [decide_eq_true_iff, ← hxy]; exact List.mem_of_getElem? hy
        have hfin := HR.out (.returned (.bool true)) wr ⟨by rw [hmem], rfl⟩
        clear HR hxy hy hmem hcell
        go_wp2
        exact hfin
      · have h2 : ¬ (y : Int) = (x : Int) := by omega
        have h1 : ((y : Int) == (x : Int)) = false := by rw [beq_eq_false_iff_ne]; exact h2
        have HX2 := Lib.hid (show x ∉ xs.take (k + 1) by
          rw [List.take_add_one, hy, List.mem_append]
          rintro (h | h)
          · exact HX.out h
          · simp at h; exact hxy h.symm)
        clear hxy hy hcell
        go_wp2
        go_roundw
        case rel => exact ⟨k + 1, by omega, by go_num, HX2, by first | trivial | rfl⟩
        case measure => simp [vI]; omega
    · obtain rfl : k = n := by omega
      have hmem : decide (x ∈ xs) = false := by
        rw [decide_eq_false_iff_not]
        have := HX.out
        rwa [List.take_of_length_le (by have := HN.out; omega)] at this
      have hfin := HR.out (.returned (.bool false)) wr ⟨by rw [hmem], rfl⟩
      clear HR hmem
      go_wp2
      exact hfin

set_option maxRecDepth 20000 in
set_option maxHeartbeats 1000000 in
theorem but_any (a : Option Addr) (c : Nat) (xs : List Nat) (x : Nat) (w : World) (hr : Row 1 w a xs.length c (xs.map u32n)) (hl : xs.length ≤ 1000000) :
    Calls Tryz.prog 43 #[.slice a xs.length c, .int .u32 (x : Int)] w fun e w' => ∃ v, e = .returned v ∧ w'.ownsRow w.heap.size 22 1 v (butX xs x).length ((butX xs x).map u32n) ∧ Ext w w' := by
  obtain ⟨n, hn⟩ : ∃ n, xs.length = n := ⟨_, rfl⟩
  rw [hn] at hr hl ⊢
  have HROW := Lib.hid hr
  have HN := Lib.hid hn
  clear hr hn
  refine calls_cps fun R hR => ?_
  have HR := Lib.hid hR
  clear hR
  go_enter Tryz.func43, Tryz.ntmps43
  go_wp2
  go_loopw [5, 10] (fun out ix wr => ∃ (k m : Nat) (ao : Option Addr) (co : Nat), k ≤ n ∧ m ≤ k ∧ ix = .int .i64 (k : Int) ∧ out = .slice ao m co ∧ Hid ((butX (xs.take k) x).length = m) ∧ Hid (wr.ownsRow w.heap.size 22 1 (.slice ao m co) m ((butX (xs.take k) x).map u32n)) ∧ Hid (Ext w wr)) (fun _ ix _ => n - (vI ix).toNat)
  case atStart => exact ⟨0, 0, none, 0, by omega, Nat.le_refl _, rfl, rfl, Lib.hid rfl, Lib.hid (World.ownsRow_nil _ _ _ _), Lib.hid (Keep.refl _ _)⟩
  case round =>
    obtain ⟨k, m, ao, co, hk, hm, rfl, rfl, HM, HOWN, HE⟩ := hrel
    by_cases hlt : k < n
    · obtain ⟨y, hy⟩ : ∃ y, xs[k]? = some y := ⟨_, List.getElem?_eq_getElem (by have := HN.out; omega)⟩
      obtain ⟨b, o, rfl, hcell⟩ := HROW.out.2.2.2.2 (by omega)
      have ck := Ext.cell HE.out (hcell k (.int .u32 (y : Int)) (by rw [List.getElem?_map, hy]; rfl))
      have htk : xs.take (k + 1) = xs.take k ++ [y] := by rw [List.take_add_one, hy]; rfl
      by_cases hxy : y = x
      · have h1 : ((y : Int) == (x : Int)) = true := by rw [beq_iff_eq]; omega
        have h2 : (y : Int) = (x : Int) := by omega
        have hb : butX (xs.take (k + 1)) x = butX (xs.take k) x := by
          unfold butX
          rw [htk, List.filter_append]
          simp [hxy]
        have HB := Lib.hid hb
        clear hxy hy hcell hb htk
        go_wp2
        go_roundw
        case rel => exact ⟨k + 1, m, ao, co, by omega, by omega, by go_num, rfl, by rw [HB.out]; exact HM, by rw [HB.out]; exact HOWN, HE⟩
        case measure => simp [vI]; omega
      · have h2 : ¬ (y : Int) = (x : Int) := by omega
        have h1 : ((y : Int) == (x : Int)) = false := by rw [beq_eq_false_iff_ne]; exact h2
        have hb : butX (xs.take (k + 1)) x = butX (xs.take k) x ++ [y] := by
          unfold butX
          rw [htk, List.filter_append]
          simp [hxy]
        have hsrc := (lit_row (base := 0) wr 22 #[u32n y] 1 (by simp [maxLen]) rfl (Nat.zero_le _)).2
        obtain ⟨v', w', hrun, hown', hgrow, _⟩ := run_append_row (P := Tryz.prog) (wr.alloc (.cells #[u32n y] 22)) w.heap.size 79 79 22 (.int .u32 0) 1 4 Tryz.underlying79 info_u32 rfl (by decide) (HOWN.out.alloc _) hsrc (by simp [u32n, Value.oneCell']) (by unfold maxLen; omega) (by omega) (by have := HE.out.size; simp; omega)
        have hEw : Ext w w' := Ext.of_below (((Ext.below HE.out).alloc HE.out.size _).grown hgrow (by have := HE.out.size; simp; omega) (fun g hg => (HOWN.out.lt g hg).1))
        obtain ⟨a2, c2, rfl, _⟩ := owns_row hown'
        have HB := Lib.hid hb
        have Hrun := Lib.hid hrun
        have HOWN2 := Lib.hid (show w'.ownsRow w.heap.size 22 1 (.slice a2 (m + 1) c2) (m + 1) ((butX (xs.take (k + 1)) x).map u32n) by rw [hb, List.map_append]; exact hown')
        have HM2 := Lib.hid (show (butX (xs.take (k + 1)) x).length = m + 1 by rw [hb, List.length_append, HM.out]; rfl)
        have HE2 := Lib.hid hEw
        unfold u32n at Hrun
        clear hxy hy hcell hb htk hrun hown' hgrow hsrc hEw
        go_wp2_with (at_builtin; go_must (refine wpList_append_run Hrun.out rfl rfl rfl rfl ?_))
        go_roundw
        case rel => exact ⟨k + 1, m + 1, a2, c2, by omega, by omega, by go_num, rfl, HM2, HOWN2, HE2⟩
        case measure => simp [vI]; omega
    · obtain rfl : k = n := by omega
      have hown := HOWN.out
      have hm := HM.out
      rw [List.take_of_length_le (by have := HN.out; omega)] at hown hm
      have hfin := HR.out (.returned (.slice ao m co)) wr ⟨_, rfl, by rw [hm]; exact hown, HE.out⟩
      clear HR hown
      go_wp2
      exact hfin
end Go.Proofs.YtcmhgpgookiomaaGreat
namespace Go.Proofs.YtcmhgpgookiomaaGreat
open Go.RowKit Go.Shelf Go.Maps

attribute [local go_sem] Oper.semAt_some

theorem rises_none {l : List Nat} {n : Nat} (h : ∀ z ∈ l, ¬ n < z) : risesX l n = l ++ [n] := by
  induction l with
  | nil => rfl
  | cons x l ih =>
    unfold risesX
    rw [if_neg (h x (List.mem_cons_self ..)), ih (fun z hz => h z (List.mem_cons_of_mem _ hz))]
    rfl
theorem rises_app {l : List Nat} {n y : Nat} (h : ∃ z ∈ l, n < z) : risesX (l ++ [y]) n = risesX l n ++ [y] := by
  induction l with
  | nil => obtain ⟨_, h, _⟩ := h; cases h
  | cons x l ih =>
    rw [List.cons_append]
    unfold risesX
    by_cases hx : n < x
    · rw [if_pos hx, if_pos hx]; rfl
    · rw [if_neg hx, if_neg hx, ih (by obtain ⟨z, hz, hn⟩ := h; rcases List.mem_cons.1 hz with rfl | hz; exact absurd hn hx; exact ⟨z, hz, hn⟩)]
      rfl
theorem rises_new {l : List Nat} {n y : Nat} (h : ∀ z ∈ l, ¬ n < z) (hy : n < y) : risesX (l ++ [y]) n = l ++ [n] ++ [y] := by
  induction l with
  | nil => simp [risesX, hy]
  | cons x l ih =>
    rw [List.cons_append]
    unfold risesX
    rw [if_neg (h x (List.mem_cons_self ..)), ih (fun z hz => h z (List.mem_cons_of_mem _ hz))]
    rfl
theorem app_u32 {w wr : World} {ao : Option Addr} {m co : Nat} {ol : List Nat} (hown : wr.ownsRow w.heap.size 22 1 (.slice ao m co) m (ol.map u32n)) (hm : m ≤ 1000001) (hE : Ext w wr) (y : Nat) :
    ∃ a2 c2 w', (Builtin.append_ #[79, 79] 79 #[.slice ao m co, .slice (some ⟨wr.heap.size, 0, none⟩) 1 1]).run Tryz.prog (wr.alloc (.cells #[.int .u32 (y : Int)] 22)) = .ok (.slice a2 (m + 1) c2) w' ∧ w'.ownsRow w.heap.size 22 1 (.slice a2 (m + 1) c2) (m + 1) ((ol ++ [y]).map u32n) ∧ Ext w w' := by
  have hsrc := (lit_row (base := 0) wr 22 #[u32n y] 1 (by simp [maxLen]) rfl (Nat.zero_le _)).2
  obtain ⟨v', w', hrun, hown', hgrow, _⟩ := run_append_row (P := Tryz.prog) (wr.alloc (.cells #[u32n y] 22)) w.heap.size 79 79 22 (.int .u32 0) 1 4 Tryz.underlying79 info_u32 rfl (by decide) (hown.alloc _) hsrc (by simp [u32n, Value.oneCell']) (by unfold maxLen; omega) (by omega) (by have := hE.size; simp; omega)
  have hEw : Ext w w' := Ext.of_below (((Ext.below hE).alloc hE.size _).grown hgrow (by have := hE.size; simp; omega) (fun g hg => (hown.lt g hg).1))
  obtain ⟨a2, c2, rfl, _⟩ := owns_row hown'
  exact ⟨a2, c2, w', hrun, by rw [List.map_append]; exact hown', hEw⟩

set_option maxRecDepth 20000 in
set_option maxHeartbeats 4000000 in
theorem rises_any (a : Option Addr) (c : Nat) (xs : List Nat) (x : Nat) (w : World) (hr : Row 1 w a xs.length c (xs.map u32n)) (hl : xs.length ≤ 1000000) :
    Calls Tryz.prog 41 #[.slice a xs.length c, .int .u32 (x : Int)] w fun e w' => ∃ v, e = .returned v ∧ w'.ownsRow w.heap.size 22 1 v (risesX xs x).length ((risesX xs x).map u32n) ∧ Ext w w' := by
  obtain ⟨n, hn⟩ : ∃ n, xs.length = n := ⟨_, rfl⟩
  rw [hn] at hr hl ⊢
  have HROW := Lib.hid hr
  have HN := Lib.hid hn
  clear hr hn
  refine calls_cps fun R hR => ?_
  have HR := Lib.hid hR
  clear hR
  go_enter Tryz.func41, Tryz.ntmps41
  go_wp2
  go_loopw [5, 6, 11] (fun out fl ix wr => ∃ (k m : Nat) (ao : Option Addr) (co : Nat) (f : Bool) (ol : List Nat), k ≤ n ∧ m ≤ k + 1 ∧ ix = .int .i64 (k : Int) ∧ out = .slice ao m co ∧ fl = .bool f ∧ Hid (ol.length = m) ∧ Hid (wr.ownsRow w.heap.size 22 1 (.slice ao m co) m (ol.map u32n)) ∧ Hid (Ext w wr) ∧
      Hid ((f = false ∧ ol = xs.take k ∧ ∀ z ∈ xs.take k, ¬ x < z) ∨ (f = true ∧ ol = risesX (xs.take k) x ∧ ∃ z ∈ xs.take k, x < z))) (fun _ _ ix _ => n - (vI ix).toNat)
  case atStart => exact ⟨0, 0, none, 0, false, [], by omega, by omega, rfl, rfl, rfl, Lib.hid rfl, Lib.hid (World.ownsRow_nil _ _ _ _), Lib.hid (Keep.refl _ _), Lib.hid (.inl ⟨rfl, by simp, by simp⟩)⟩
  case round =>
    obtain ⟨k, m, ao, co, f, ol, hk, hm, rfl, rfl, rfl, HM, HOWN, HE, HST⟩ := hrel
    by_cases hlt : k < n
    · obtain ⟨y, hy⟩ : ∃ y, xs[k]? = some y := ⟨_, List.getElem?_eq_getElem (by have := HN.out; omega)⟩
      obtain ⟨b, o, rfl, hcell⟩ := HROW.out.2.2.2.2 (by omega)
      have ck := Ext.cell HE.out (hcell k (.int .u32 (y : Int)) (by rw [List.getElem?_map, hy]; rfl))
      have htk : xs.take (k + 1) = xs.take k ++ [y] := by rw [List.take_add_one, hy]; rfl
      have HTK := Lib.hid htk
      clear htk hy hcell
      by_cases hnew : f = false ∧ x < y
      · obtain ⟨rfl, hxy⟩ := hnew
        obtain ⟨a2, c2, w2, hrun2, hown2, hE2⟩ := app_u32 HOWN.out (by omega) HE.out x
        obtain ⟨a3, c3, w3, hrun3, hown3, hE3⟩ := app_u32 hown2 (by omega) hE2 y
        have h2 : (x : Int) < (y : Int) := by omega
        have HST2 : Hid ((true = false ∧ ol ++ [x] ++ [y] = xs.take (k + 1) ∧ ∀ z ∈ xs.take (k + 1), ¬ x < z) ∨ (true = true ∧ ol ++ [x] ++ [y] = risesX (xs.take (k + 1)) x ∧ ∃ z ∈ xs.take (k + 1), x < z)) := by
          rcases HST.out with ⟨_, h1, h3⟩ | ⟨h, _⟩
          · exact Lib.hid (.inr ⟨rfl, by rw [HTK.out, rises_new h3 hxy, h1], y, by rw [HTK.out]; simp, hxy⟩)
          · cases h
        have HM3 := Lib.hid (show (ol ++ [x] ++ [y]).length = m + 1 + 1 by simp [HM.out])
        have hm' : m ≤ k := by
          rcases HST.out with ⟨_, h1, _⟩ | ⟨h, _⟩
          · rw [← HM.out, h1, List.length_take]; omega
          · cases h
        have R2 := Lib.hid hrun2
        have R3 := Lib.hid hrun3
        have O3 := Lib.hid hown3
        have E2 := Lib.hid hE2
        have E3 := Lib.hid hE3
        have ck2 := ck
        have hcy : ∀ B, Ext wr B → B.cell? ⟨b, o + k, none⟩ = some (.int .u32 (y : Int)) := fun B hB => Ext.cell hB ck
        clear hrun2 hrun3 hown2 hown3 hE2 hE3 ck2 hcy hxy
        go_wp2_with (first
          | (refine wpList_append_run (o := ⟨some 25, _, _, _, _, _⟩) R2.out rfl rfl rfl rfl ?_)
          | (refine wpList_append_run (o := ⟨some 29, _, _, _, _, _⟩) R3.out rfl rfl rfl rfl ?_)
          | fail)
        go_roundw
        case rel => exact ⟨k + 1, m + 1 + 1, a3, c3, true, ol ++ [x] ++ [y], by omega, by omega, by go_num, rfl, rfl, HM3, O3, E3, HST2⟩
        case measure => simp [vI]; omega
      · obtain ⟨a2, c2, w2, hrun2, hown2, hE2⟩ := app_u32 HOWN.out (by omega) HE.out y
        have HST2 : Hid ((f = false ∧ ol ++ [y] = xs.take (k + 1) ∧ ∀ z ∈ xs.take (k + 1), ¬ x < z) ∨ (f = true ∧ ol ++ [y] = risesX (xs.take (k + 1)) x ∧ ∃ z ∈ xs.take (k + 1), x < z)) := by
          rcases HST.out with ⟨h0, h1, h3⟩ | ⟨h0, h1, z, hz, h3⟩
          · refine Lib.hid (.inl ⟨h0, by rw [HTK.out, h1], fun z hz => ?_⟩)
            rw [HTK.out, List.mem_append] at hz
            rcases hz with hz | hz
            · exact h3 z hz
            · obtain rfl : z = y := by simpa using hz
              exact fun h => hnew ⟨h0, h⟩
          · exact Lib.hid (.inr ⟨h0, by rw [HTK.out, rises_app ⟨z, hz, h3⟩, h1], z, by rw [HTK.out]; exact List.mem_append_left _ hz, h3⟩)
        have HM3 := Lib.hid (show (ol ++ [y]).length = m + 1 by simp [HM.out])
        have R2 := Lib.hid hrun2
        have O2 := Lib.hid hown2
        have E2 := Lib.hid hE2
        cases f with
        | true =>
          clear hrun2 hown2 hE2 hnew
          go_wp2_with (at_builtin; go_must (refine wpList_append_run R2.out rfl rfl rfl rfl ?_))
          go_roundw
          case rel => exact ⟨k + 1, m + 1, a2, c2, true, ol ++ [y], by omega, by omega, by go_num, rfl, rfl, HM3, O2, E2, HST2⟩
          case measure => simp [vI]; omega
        | false =>
          have h2 : ¬ (x : Int) < (y : Int) := fun h => hnew ⟨rfl, by omega⟩
          clear hrun2 hown2 hE2 hnew
          go_wp2_with (at_builtin; go_must (refine wpList_append_run R2.out rfl rfl rfl rfl ?_))
          go_roundw
          case rel => exact ⟨k + 1, m + 1, a2, c2, false, ol ++ [y], by omega, by omega, by go_num, rfl, rfl, HM3, O2, E2, HST2⟩
          case measure => simp [vI]; omega
    · obtain rfl : k = n := by omega
      have htk : xs.take k = xs := List.take_of_length_le (by have := HN.out; omega)
      have hst := HST.out
      rw [htk] at hst
      rcases hst with ⟨rfl, rfl, h3⟩ | ⟨rfl, rfl, h3⟩
      · obtain ⟨a2, c2, w2, hrun2, hown2, hE2⟩ := app_u32 HOWN.out (by omega) HE.out x
        have hfin := HR.out (.returned (.slice a2 (m + 1) c2)) w2 ⟨_, rfl, by rw [rises_none h3, List.length_append, HM.out]; exact hown2, hE2⟩
        have R2 := Lib.hid hrun2
        clear HR hown2 hE2 hrun2 h3
        go_wp2_with (at_builtin; go_must (refine wpList_append_run R2.out rfl rfl rfl rfl ?_))
        exact hfin
      · have hfin := HR.out (.returned (.slice ao m co)) wr ⟨_, rfl, by rw [HM.out]; exact HOWN.out, HE.out⟩
        clear HR h3
        go_wp2
        exact hfin
end Go.Proofs.YtcmhgpgookiomaaGreat
