/-
  TopRevoked: start: the key to start with.
-/
import Derived.Test.YtcmhgpgookiomaaGreatM18
namespace Go.Proofs.YtcmhgpgookiomaaGreat
open Go.RowKit Go.Shelf Go.Maps

attribute [local go_sem] Oper.semAt_some

def stepS (s : SSt) (F : Nat → Nat → List By) (realm epoch : Nat) (best : Option (Nat × By)) (b : BoxP) : Option (Nat × By) :=
  if b.kind = 2 ∧ b.of = realm ∧ epoch ≤ b.ep ∧ (∀ x ∈ best, b.ep < x.1) then match realmP s (F b.fr b.at') b.ct with
    | some k => some (b.ep, k)
    | none => best
  else best
theorem startP_eq (s : SSt) (l : List BoxP) (sec : By) (who realm epoch : Nat) : startP s l sec who realm epoch = l.foldl (stepS s (fun g e => keysP s l sec who g e) realm epoch) none := rfl
theorem exec_build_keyed0 (w : World) {o : Oper} (a : Act) (ho : o.op = .build 86 #[]) : (execOp a.eval o).run Tryz.prog w = .ok (.value (.agg zeroK.toArray)) w := by
  unfold execOp
  rw [ho]
  kernel_rfl

set_option maxRecDepth 20000 in
set_option maxHeartbeats 16000000 in
theorem start_any {w : World} {N Q TB A PL O M base m : Nat} {s : SSt} {v : Value} {bv : List (BoxP × Value)} {F : Nat → Nat → List By} {S : Lit → Option Value} {V : Nat → Nat → Value} (hs : SuiteAt w Q TB A PL s) (hb : BoxesAt w N v bv) (hO : Arr w O 123 [.pointer (some ⟨Q, 0, none⟩), v, .map (some M)])
    (hM : KeysAt w base M m F S V) (realm epoch : Nat) (h32 : ∀ g e, ∀ k ∈ F g e, k.length = 32) (hL : ∀ g e, (F g e).length ≤ 20000) (hn : bv.length ≤ 20000) (hpl : ∀ kek ct k, s.pl kek ct = some k → k.length = 32) :
    Calls Tryz.prog 48 #[.pointer (some ⟨O, 0, none⟩), .int .u32 (realm : Int), .int .u32 (epoch : Int)] w fun e w' => Ext w w' ∧
      e = .returned (.tuple #[keyedV (((bv.map (·.1)).foldl (stepS s F realm epoch) none).getD (0, key0)), .bool ((bv.map (·.1)).foldl (stepS s F realm epoch) none).isSome]) := by
  obtain ⟨a, c, rfl, hrow⟩ := owns_row hb.own
  obtain ⟨n, hnn⟩ : ∃ n, bv.length = n := ⟨_, rfl⟩
  rw [hnn] at hrow hn hO
  have HN := Lib.hid hnn
  have HS := Lib.hid hs
  have HB := Lib.hid hb
  have HM := Lib.hid hM
  have HROW := Lib.hid hrow
  have HO := Lib.hid hO
  have H32 := Lib.hid h32
  have HLL := Lib.hid hL
  have HPL := Lib.hid hpl
  have kz := kc_of (e := 0) key0_len
  obtain ⟨ZK, hZK⟩ : ∃ Z, zeroK = Z := ⟨_, rfl⟩
  rw [show keyedC (0, key0) = ZK from hZK] at kz
  have KZ := Lib.hid kz
  have HZK := Lib.hid hZK
  have HBZ := Lib.hid (show ∀ (w : World) (o : Oper) (a : Act), o.op = .build 86 #[] → (execOp a.eval o).run Tryz.prog w = .ok (.value (.agg ZK.toArray)) w from fun w o a ho => by rw [← hZK]; exact exec_build_keyed0 w a ho)
  have HALZ := Lib.hid (show ∀ (w : World), w.alloc (.cells zeroK.toArray 86) = w.alloc (.cells ZK.toArray 86) from fun w => by rw [hZK])
  clear hrow hnn hs hb hM hO h32 hL hpl kz hZK
  refine calls_cps fun R0 hR => ?_
  have HR := Lib.hid hR
  clear hR
  go_enter Tryz.func48, Tryz.ntmps48
  go_upto_region 1 with fail
  refine wp_laid1 fun W eW hG => ?_
  have aZ : Arr W w.heap.size 86 ZK := by rw [← HZK.out]; exact hG
  have HEW := Lib.hid eW
  have aO := HO.out.ext eW
  have c1 := aO.cell (i := 1) rfl
  clear hG eW
  go_wp2_with (first
    | (refine wpList_val (o := ⟨some 14, _, _, _, _, _⟩) (v := .agg ZK.toArray) ?_ ?_ ?_; exact HBZ.out _ _ _ rfl; rfl)
    | (refine wpList_skip0 (o := ⟨none, .store _ _ _, _, _, _, _⟩) (w' := W.alloc (.cells ZK.toArray 86)) ?_ ?_ ?_ ?_; exact exec_store_new rfl rfl rfl KZ.out.info KZ.out.size KZ.out.one; rfl; rfl; refine wpList_laid1 fun W1 eW1 hG1 => ?_; have c1 := Ext.cell eW1 c1)
    | fail)
  have a8 : Arr W1 W.heap.size 86 ZK := hG1
  have aO1 := Lib.hid (aO.ext eW1)
  have HZ1 := Lib.hid (aZ.ext eW1)
  have E1 := Lib.hid (HEW.out.trans eW1)
  obtain ⟨B8, hB8⟩ : ∃ b, W.heap.size = b := ⟨_, rfl⟩
  have hB8w : w.heap.size < B8 := by rw [← hB8]; exact aZ.lt
  have hB81 : B8 < W1.heap.size := by rw [← hB8]; exact Keep.lt hG1
  rw [hB8] at a8 ⊢
  have H8 := Lib.hid (show Arr W1 B8 86 (keyedC ((none : Option (Nat × By)).getD (0, key0))) by show Arr W1 B8 86 zeroK; rw [HZK.out]; exact a8)
  clear hG1 eW1 aO aZ hB8 a8 c1
  go_loopw [9, 20] (fun fo ix wr => ∃ (k : Nat) (best : Option (Nat × By)), k ≤ n ∧ ix = .int .i64 (k : Int) ∧ fo = .bool best.isSome ∧ Hid (((bv.take k).map (·.1)).foldl (stepS s F realm epoch) none = best) ∧ Hid (Arr wr B8 86 (keyedC (best.getD (0, key0)))) ∧ Hid ((best.getD (0, key0)).2.length = 32) ∧ Hid (Keep (fun b _ => b = B8) W1 wr)) (fun _ ix _ => n - (vI ix).toNat)
  case atStart => exact ⟨0, none, by omega, rfl, rfl, Lib.hid rfl, H8, Lib.hid key0_len, Lib.hid (Keep.refl _ _)⟩
  case round =>
    obtain ⟨k, best, hk, rfl, rfl, HF, HB8, HB32, HKK⟩ := hrel
    clear H8
    have hEw : Ext w wr := ((Keep.of_ext E1.out).trans HKK.out).mono (fun k o ho hx => by have := Keep.lt ho; replace hx : k = B8 := hx; omega)
    have HEw := Lib.hid hEw
    clear hEw
    by_cases hlt : k < n
    · obtain ⟨p, hp⟩ : ∃ p, bv[k]? = some p := ⟨_, List.getElem?_eq_getElem (by have := HN.out; omega)⟩
      obtain ⟨bx, ox, rfl, hcell⟩ := HROW.out.2.2.2.2 (by omega)
      clear hcell
      have hld := load_box (HROW.out.ext HEw.out) (by omega) hp
      have hct := (HB.out.ct p (List.mem_of_getElem? hp)).keep HEw.out (fun _ _ _ h => h)
      have hlt4 := HB.out.lt p (List.mem_of_getElem? hp)
      have hfold : ((bv.take (k + 1)).map (·.1)).foldl (stepS s F realm epoch) none = stepS s F realm epoch best p.1 := by
        rw [List.take_add_one, hp, List.map_append, List.foldl_append, HF.out]; rfl
      obtain ⟨⟨bk, bof, bep, bfr, bat, bct⟩, vb⟩ := p
      simp only at hct hlt4 hfold
      obtain ⟨hl108, ac, cc, hvb, hrowc, hib⟩ := hct
      subst hvb
      simp only [boxC, u32n] at hld
      obtain ⟨q1, q2, q3, q4, q5⟩ := hlt4
      have HLD := Lib.hid hld
      have HFO := Lib.hid hfold
      have HCT := Lib.hid hrowc
      have HL108 := Lib.hid hl108
      have hi6 := Lib.hid (show (Tryz.prog.info? 107).map (·.size) = some 6 by kernel_rfl)
      have HLT := Lib.hid (And.intro q4 q5)
      clear hld hfold hrowc hl108 hib hp
      by_cases hb1 : bk = 2
      · by_cases hb2 : bof = realm
        · by_cases hb3 : epoch ≤ bep
          · by_cases hb4 : ∀ x ∈ best, bep < x.1
            · have hst : stepS s F realm epoch best ⟨bk, bof, bep, bfr, bat, bct⟩ = match realmP s (F bfr bat) bct with | some k => some (bep, k) | none => best := by
                unfold stepS
                rw [if_pos ⟨hb1, hb2, hb3, hb4⟩]
              have HST := Lib.hid (HFO.out.trans hst)
              clear hst
              subst hb1 hb2
              have hcall : Calls Tryz.prog 67 #[.pointer (some ⟨O, 0, none⟩), .agg #[.int .i64 2, .int .u32 (bof : Int), .int .u32 (bep : Int), .int .u32 (bfr : Int), .int .u32 (bat : Int), .slice ac 108 cc]] (wr.alloc (.cells #[.int .i64 2, .int .u32 (bof : Int), .int .u32 (bep : Int), .int .u32 (bfr : Int), .int .u32 (bat : Int), .slice ac 108 cc] 107)) fun e w' => Ext (wr.alloc (.cells #[.int .i64 2, .int .u32 (bof : Int), .int .u32 (bep : Int), .int .u32 (bfr : Int), .int .u32 (bat : Int), .slice ac 108 cc] 107)) w' ∧
                  (realmP s (F bfr bat) bct = none → e = .returned (.tuple #[aggK key0, .bool false])) ∧ (∀ k, realmP s (F bfr bat) bct = some k → e = .returned (.tuple #[aggK k, .bool true])) :=
                realm_any (HS.out.ext (HEw.out.alloc _)) (HO.out.ext (HEw.out.alloc _)) (HM.out.ext (HEw.out.alloc _)) ⟨2, bof, bep, bfr, bat, bct⟩ HLT.out HL108.out (HCT.out.ext ((Keep.refl _ wr).alloc _)) (H32.out bfr bat) (HLL.out bfr bat)
              have HCALL := Lib.hid hcall
              have he1 : ¬ (bep : Int) < (epoch : Int) := by omega
              clear hcall hb3
              cases best with
              | none =>
                clear hb4
                go_wp2_with (first
                  | (refine wpList_val (o := ⟨some 23, _, _, _, _, _⟩) (v := .agg #[.int .i64 2, .int .u32 (bof : Int), .int .u32 (bep : Int), .int .u32 (bfr : Int), .int .u32 (bat : Int), .slice ac 108 cc]) ?_ ?_ ?_; exact exec_load_mid' rfl rfl HLD.out Tryz.underlying107 rfl hi6.out; rfl)
                  | fail)
                refine HCALL.out.mono ?_
                rintro e w5 ⟨hE5, hlo, hhi⟩
                have hbc := Arr.new wr 107 [.int .i64 2, .int .u32 (bof : Int), .int .u32 (bep : Int), .int .u32 (bfr : Int), .int .u32 (bat : Int), .slice ac 108 cc]
                have hc2 := (hbc.ext hE5).cell (i := 2) rfl
                have HE5 := Lib.hid (show Ext wr w5 from ((Keep.refl (fun _ _ => False) wr).alloc _).trans hE5)
                clear hE5 hbc HCALL
                cases hq : realmP s (F bfr bat) bct with
                | none =>
                  have he := hlo hq
                  subst he
                  have HST2 := Lib.hid (HST.out.trans (by rw [hq]))
                  obtain ⟨Z, hZ⟩ : ∃ Z, key0.map u8v = Z := ⟨_, rfl⟩
                  have hi := Lib.hid (show (Tryz.prog.info? 51).map (·.size) = some Z.toArray.size by rw [info_key, ← hZ]; rfl)
                  have ho := Lib.hid (show 32 = Z.toArray.size by rw [← hZ]; rfl)
                  have h1 := Lib.hid (show Z.toArray.all (·.oneCell') = true by rw [← hZ]; exact all_one _)
                  unfold aggK
                  rw [hZ]
                  clear hZ hlo hhi hq HST hc2
                  go_wp2_with (first
                    | (refine wpList_skip0 (o := ⟨none, .store _ _ _, _, _, _, _⟩) (w' := w5.alloc (.cells Z.toArray 51)) ?_ ?_ ?_ ?_; exact exec_store_new rfl rfl rfl hi.out ho.out h1.out; rfl; rfl; refine wpList_laid1 fun W5 eW5 hG5 => ?_)
                    | fail)
                  go_roundw
                  case rel => exact ⟨k + 1, none, by omega, by go_num, rfl, HST2, Lib.hid (HB8.out.ext (HE5.out.trans eW5)), HB32, Lib.hid (HKK.out.trans (Keep.of_ext (HE5.out.trans eW5)))⟩
                  case measure => simp [vI]; omega
                | some kk =>
                  have he := hhi kk hq
                  subst he
                  have hkk : kk.length = 32 := by
                    unfold realmP at hq
                    obtain ⟨q, _, hq2⟩ := List.exists_of_findSome?_eq_some hq
                    exact HPL.out _ _ _ hq2
                  have HST2 := Lib.hid (HST.out.trans (by rw [hq]))
                  have kn := kc_of (e := bep) hkk
                  have hbuild := fun w => build_keyed (kk.map u8v) (by rw [List.length_map, hkk]) bep w
                  obtain ⟨Z, hZ⟩ : ∃ Z, kk.map u8v = Z := ⟨_, rfl⟩
                  have hZl : Z.length = 32 := by rw [← hZ, List.length_map, hkk]
                  have hi := Lib.hid (show (Tryz.prog.info? 51).map (·.size) = some Z.toArray.size by rw [info_key, List.size_toArray, hZl])
                  have ho := Lib.hid (show 32 = Z.toArray.size by rw [List.size_toArray, hZl])
                  have h1 := Lib.hid (show Z.toArray.all (·.oneCell') = true by rw [← hZ]; exact all_one _)
                  obtain ⟨CN, hCN⟩ : ∃ C, keyedC (bep, kk) = C := ⟨_, rfl⟩
                  replace hbuild : ∀ w, (Instr.build 86 #[(0, .int .u32 (bep : Int)), (1, .agg Z.toArray)]).run Tryz.prog w = .ok (.agg CN.toArray) w := fun w => by rw [← hCN, ← hZ]; exact hbuild w
                  rw [hCN] at kn
                  unfold aggK
                  rw [hZ]
                  have KN := Lib.hid kn
                  have HBU := Lib.hid hbuild
                  have HCN := Lib.hid hCN
                  have HKK2 := Lib.hid hkk
                  have a8 := HB8.out.ext HE5.out
                  have A8 := Lib.hid a8
                  have hos := Lib.hid (show (keyedC ((none : Option (Nat × By)).getD (0, key0))).toArray.size = CN.toArray.size by rw [List.size_toArray, keyedC_len HB32.out, List.size_toArray, kn.len])
                  clear hZ hlo hhi hq HST kn hbuild hCN hZl hkk a8
                  go_wp2_with (first
                    | (refine wpList_skip0 (o := ⟨none, .store _ _ _, _, _, _, _⟩) (w' := w5.alloc (.cells Z.toArray 51)) ?_ ?_ ?_ ?_; exact exec_store_new rfl rfl rfl hi.out ho.out h1.out; rfl; rfl; refine wpList_laid1 fun W5 eW5 hG5 => ?_; have hc2 := Ext.cell eW5 hc2)
                    | (refine wpList_val (o := ⟨some 58, _, _, _, _, _⟩) (v := .agg Z.toArray) ?_ ?_ ?_; exact exec_load_row rfl rfl (show Arr W5 w5.heap.size 51 Z from hG5) Tryz.underlying51 rfl hi.out; rfl)
                    | (refine wpList_val (o := ⟨some 59, _, _, _, _, _⟩) (v := .agg CN.toArray) ?_ ?_ ?_; exact exec_build2 rfl rfl rfl (HBU.out _); rfl)
                    | (refine wpList_skipw (o := ⟨none, .store _ _ _, _, _, _, _⟩) (w' := W5.setRow B8 CN.toArray) ?_ ?_ ?_; exact exec_store_row rfl rfl rfl (A8.out.ext eW5) KN.out.info hos.out KN.out.one; rfl)
                    | fail)
                  go_roundw
                  case rel => exact ⟨k + 1, some (bep, kk), by omega, by go_num, rfl, HST2, Lib.hid (by show Arr _ B8 _ (keyedC (bep, kk)); rw [HCN.out]; exact (A8.out.ext eW5).setRow CN), HKK2, Lib.hid ((HKK.out.trans (Keep.of_ext (HE5.out.trans eW5))).trans (keep_setRow W5 B8 CN.toArray))⟩
                  case measure => simp [vI]; omega
              | some x =>
                have hx0 := hb4 x rfl
                have hx1 : ¬ (x.1 : Int) ≤ (bep : Int) := by omega
                have z8 := (HB8.out.alloc (.cells #[.int .i64 2, .int .u32 (bof : Int), .int .u32 (bep : Int), .int .u32 (bfr : Int), .int .u32 (bat : Int), .slice ac 108 cc] 107)).cell (i := 0) (show _ = some (.int .u32 (x.1 : Int)) from rfl)
                have z9 := HB8.out.cell (i := 0) (show _ = some (.int .u32 (x.1 : Int)) from rfl)
                have z10 := HB8.out.lt
                clear hb4 hx0
                go_wp2_with (first
                  | (refine wpList_val (o := ⟨some 23, _, _, _, _, _⟩) (v := .agg #[.int .i64 2, .int .u32 (bof : Int), .int .u32 (bep : Int), .int .u32 (bfr : Int), .int .u32 (bat : Int), .slice ac 108 cc]) ?_ ?_ ?_; exact exec_load_mid' rfl rfl HLD.out Tryz.underlying107 rfl hi6.out; rfl)
                  | fail)
                refine HCALL.out.mono ?_
                rintro e w5 ⟨hE5, hlo, hhi⟩
                have hbc := Arr.new wr 107 [.int .i64 2, .int .u32 (bof : Int), .int .u32 (bep : Int), .int .u32 (bfr : Int), .int .u32 (bat : Int), .slice ac 108 cc]
                have hc2 := (hbc.ext hE5).cell (i := 2) rfl
                have HE5 := Lib.hid (show Ext wr w5 from ((Keep.refl (fun _ _ => False) wr).alloc _).trans hE5)
                clear hE5 hbc HCALL
                cases hq : realmP s (F bfr bat) bct with
                | none =>
                  have he := hlo hq
                  subst he
                  have HST2 := Lib.hid (HST.out.trans (by rw [hq]))
                  obtain ⟨Z, hZ⟩ : ∃ Z, key0.map u8v = Z := ⟨_, rfl⟩
                  have hi := Lib.hid (show (Tryz.prog.info? 51).map (·.size) = some Z.toArray.size by rw [info_key, ← hZ]; rfl)
                  have ho := Lib.hid (show 32 = Z.toArray.size by rw [← hZ]; rfl)
                  have h1 := Lib.hid (show Z.toArray.all (·.oneCell') = true by rw [← hZ]; exact all_one _)
                  unfold aggK
                  rw [hZ]
                  clear hZ hlo hhi hq HST hc2
                  go_wp2_with (first
                    | (refine wpList_skip0 (o := ⟨none, .store _ _ _, _, _, _, _⟩) (w' := w5.alloc (.cells Z.toArray 51)) ?_ ?_ ?_ ?_; exact exec_store_new rfl rfl rfl hi.out ho.out h1.out; rfl; rfl; refine wpList_laid1 fun W5 eW5 hG5 => ?_)
                    | fail)
                  go_roundw
                  case rel => exact ⟨k + 1, (some x), by omega, by go_num, rfl, HST2, Lib.hid (HB8.out.ext (HE5.out.trans eW5)), HB32, Lib.hid (HKK.out.trans (Keep.of_ext (HE5.out.trans eW5)))⟩
                  case measure => simp [vI]; omega
                | some kk =>
                  have he := hhi kk hq
                  subst he
                  have hkk : kk.length = 32 := by
                    unfold realmP at hq
                    obtain ⟨q, _, hq2⟩ := List.exists_of_findSome?_eq_some hq
                    exact HPL.out _ _ _ hq2
                  have HST2 := Lib.hid (HST.out.trans (by rw [hq]))
                  have kn := kc_of (e := bep) hkk
                  have hbuild := fun w => build_keyed (kk.map u8v) (by rw [List.length_map, hkk]) bep w
                  obtain ⟨Z, hZ⟩ : ∃ Z, kk.map u8v = Z := ⟨_, rfl⟩
                  have hZl : Z.length = 32 := by rw [← hZ, List.length_map, hkk]
                  have hi := Lib.hid (show (Tryz.prog.info? 51).map (·.size) = some Z.toArray.size by rw [info_key, List.size_toArray, hZl])
                  have ho := Lib.hid (show 32 = Z.toArray.size by rw [List.size_toArray, hZl])
                  have h1 := Lib.hid (show Z.toArray.all (·.oneCell') = true by rw [← hZ]; exact all_one _)
                  obtain ⟨CN, hCN⟩ : ∃ C, keyedC (bep, kk) = C := ⟨_, rfl⟩
                  replace hbuild : ∀ w, (Instr.build 86 #[(0, .int .u32 (bep : Int)), (1, .agg Z.toArray)]).run Tryz.prog w = .ok (.agg CN.toArray) w := fun w => by rw [← hCN, ← hZ]; exact hbuild w
                  rw [hCN] at kn
                  unfold aggK
                  rw [hZ]
                  have KN := Lib.hid kn
                  have HBU := Lib.hid hbuild
                  have HCN := Lib.hid hCN
                  have HKK2 := Lib.hid hkk
                  have a8 := HB8.out.ext HE5.out
                  have A8 := Lib.hid a8
                  have hos := Lib.hid (show (keyedC (((some x) : Option (Nat × By)).getD (0, key0))).toArray.size = CN.toArray.size by rw [List.size_toArray, keyedC_len HB32.out, List.size_toArray, kn.len])
                  clear hZ hlo hhi hq HST kn hbuild hCN hZl hkk a8
                  go_wp2_with (first
                    | (refine wpList_skip0 (o := ⟨none, .store _ _ _, _, _, _, _⟩) (w' := w5.alloc (.cells Z.toArray 51)) ?_ ?_ ?_ ?_; exact exec_store_new rfl rfl rfl hi.out ho.out h1.out; rfl; rfl; refine wpList_laid1 fun W5 eW5 hG5 => ?_; have hc2 := Ext.cell eW5 hc2)
                    | (refine wpList_val (o := ⟨some 58, _, _, _, _, _⟩) (v := .agg Z.toArray) ?_ ?_ ?_; exact exec_load_row rfl rfl (show Arr W5 w5.heap.size 51 Z from hG5) Tryz.underlying51 rfl hi.out; rfl)
                    | (refine wpList_val (o := ⟨some 59, _, _, _, _, _⟩) (v := .agg CN.toArray) ?_ ?_ ?_; exact exec_build2 rfl rfl rfl (HBU.out _); rfl)
                    | (refine wpList_skipw (o := ⟨none, .store _ _ _, _, _, _, _⟩) (w' := W5.setRow B8 CN.toArray) ?_ ?_ ?_; exact exec_store_row rfl rfl rfl (A8.out.ext eW5) KN.out.info hos.out KN.out.one; rfl)
                    | fail)
                  go_roundw
                  case rel => exact ⟨k + 1, some (bep, kk), by omega, by go_num, rfl, HST2, Lib.hid (by show Arr _ B8 _ (keyedC (bep, kk)); rw [HCN.out]; exact (A8.out.ext eW5).setRow CN), HKK2, Lib.hid ((HKK.out.trans (Keep.of_ext (HE5.out.trans eW5))).trans (keep_setRow W5 B8 CN.toArray))⟩
                  case measure => simp [vI]; omega
            · cases best with
              | none => exact absurd (fun x hx => by cases hx) hb4
              | some x =>
                have hx4 : ¬ bep < x.1 := fun h => hb4 (fun y hy => by cases hy; exact h)
                have hst : stepS s F realm epoch (some x) ⟨bk, bof, bep, bfr, bat, bct⟩ = (some x) := by
                  unfold stepS
                  rw [if_neg (fun h => hb4 h.2.2.2)]
                have HST := Lib.hid (HFO.out.trans hst)
                clear hst
                have hk1 : (bk : Int) = 2 := by omega
                have hk2 : ((bk : Int) == 2) = true := by rw [beq_iff_eq]; exact hk1
                have ho1 : (bof : Int) = (realm : Int) := by omega
                have ho2 : ((bof : Int) == (realm : Int)) = true := by rw [beq_iff_eq]; exact ho1
                have he1 : ¬ (bep : Int) < (epoch : Int) := by omega
                have hx1 : (x.1 : Int) ≤ (bep : Int) := by omega
                have z8 := (HB8.out.alloc (.cells #[.int .i64 (bk : Int), .int .u32 (bof : Int), .int .u32 (bep : Int), .int .u32 (bfr : Int), .int .u32 (bat : Int), .slice ac 108 cc] 107)).cell (i := 0) (show _ = some (.int .u32 (x.1 : Int)) from rfl)
                have z9 := HB8.out.cell (i := 0) (show _ = some (.int .u32 (x.1 : Int)) from rfl)
                have z10 := HB8.out.lt
                clear hb1 hb2 hb3 hb4 hx4
                go_wp2_with (first
                  | (refine wpList_val (o := ⟨some 23, _, _, _, _, _⟩) (v := .agg #[.int .i64 (bk : Int), .int .u32 (bof : Int), .int .u32 (bep : Int), .int .u32 (bfr : Int), .int .u32 (bat : Int), .slice ac 108 cc]) ?_ ?_ ?_; exact exec_load_mid' rfl rfl HLD.out Tryz.underlying107 rfl hi6.out; rfl)
                  | fail)
                go_roundw
                case rel => exact ⟨k + 1, (some x), by omega, by go_num, rfl, HST, Lib.hid (HB8.out.alloc _), HB32, Lib.hid (HKK.out.trans ((Keep.refl _ wr).alloc _))⟩
                case measure => simp [vI]; omega
          ·
            have hst : stepS s F realm epoch best ⟨bk, bof, bep, bfr, bat, bct⟩ = best := by
              unfold stepS
              rw [if_neg (fun h => hb3 h.2.2.1)]
            have HST := Lib.hid (HFO.out.trans hst)
            clear hst
            have hk1 : (bk : Int) = 2 := by omega
            have hk2 : ((bk : Int) == 2) = true := by rw [beq_iff_eq]; exact hk1
            have ho1 : (bof : Int) = (realm : Int) := by omega
            have ho2 : ((bof : Int) == (realm : Int)) = true := by rw [beq_iff_eq]; exact ho1
            have he1 : (bep : Int) < (epoch : Int) := by omega
            clear hb1 hb2 hb3
            go_wp2_with (first
              | (refine wpList_val (o := ⟨some 23, _, _, _, _, _⟩) (v := .agg #[.int .i64 (bk : Int), .int .u32 (bof : Int), .int .u32 (bep : Int), .int .u32 (bfr : Int), .int .u32 (bat : Int), .slice ac 108 cc]) ?_ ?_ ?_; exact exec_load_mid' rfl rfl HLD.out Tryz.underlying107 rfl hi6.out; rfl)
              | fail)
            go_roundw
            case rel => exact ⟨k + 1, best, by omega, by go_num, rfl, HST, Lib.hid (HB8.out.alloc _), HB32, Lib.hid (HKK.out.trans ((Keep.refl _ wr).alloc _))⟩
            case measure => simp [vI]; omega
        ·
          have hst : stepS s F realm epoch best ⟨bk, bof, bep, bfr, bat, bct⟩ = best := by
            unfold stepS
            rw [if_neg (fun h => hb2 h.2.1)]
          have HST := Lib.hid (HFO.out.trans hst)
          clear hst
          have hk1 : (bk : Int) = 2 := by omega
          have hk2 : ((bk : Int) == 2) = true := by rw [beq_iff_eq]; exact hk1
          have ho1 : ¬ (bof : Int) = (realm : Int) := by omega
          have ho2 : ((bof : Int) == (realm : Int)) = false := by rw [beq_eq_false_iff_ne]; exact ho1
          clear hb1 hb2
          go_wp2_with (first
            | (refine wpList_val (o := ⟨some 23, _, _, _, _, _⟩) (v := .agg #[.int .i64 (bk : Int), .int .u32 (bof : Int), .int .u32 (bep : Int), .int .u32 (bfr : Int), .int .u32 (bat : Int), .slice ac 108 cc]) ?_ ?_ ?_; exact exec_load_mid' rfl rfl HLD.out Tryz.underlying107 rfl hi6.out; rfl)
            | fail)
          go_roundw
          case rel => exact ⟨k + 1, best, by omega, by go_num, rfl, HST, Lib.hid (HB8.out.alloc _), HB32, Lib.hid (HKK.out.trans ((Keep.refl _ wr).alloc _))⟩
          case measure => simp [vI]; omega
      ·
        have hst : stepS s F realm epoch best ⟨bk, bof, bep, bfr, bat, bct⟩ = best := by
          unfold stepS
          rw [if_neg (fun h => hb1 h.1)]
        have HST := Lib.hid (HFO.out.trans hst)
        clear hst
        have hk1 : ¬ (bk : Int) = 2 := by omega
        have hk2 : ((bk : Int) == 2) = false := by rw [beq_eq_false_iff_ne]; exact hk1
        clear hb1
        go_wp2_with (first
          | (refine wpList_val (o := ⟨some 23, _, _, _, _, _⟩) (v := .agg #[.int .i64 (bk : Int), .int .u32 (bof : Int), .int .u32 (bep : Int), .int .u32 (bfr : Int), .int .u32 (bat : Int), .slice ac 108 cc]) ?_ ?_ ?_; exact exec_load_mid' rfl rfl HLD.out Tryz.underlying107 rfl hi6.out; rfl)
          | fail)
        go_roundw
        case rel => exact ⟨k + 1, best, by omega, by go_num, rfl, HST, Lib.hid (HB8.out.alloc _), HB32, Lib.hid (HKK.out.trans ((Keep.refl _ wr).alloc _))⟩
        case measure => simp [vI]; omega
    · obtain rfl : k = n := by omega
      have hF := HF.out
      rw [List.take_of_length_le (by have := HN.out; omega)] at hF
      obtain ⟨C, hC⟩ : ∃ C, keyedC (best.getD (0, key0)) = C := ⟨_, rfl⟩
      have kb := kc_of (e := (best.getD (0, key0)).1) HB32.out
      rw [show keyedC ((best.getD (0, key0)).1, (best.getD (0, key0)).2) = C from hC] at kb
      have KB := Lib.hid kb
      have HB8' := Lib.hid (show Arr wr B8 86 C by rw [← hC]; exact HB8.out)
      have hZw : Arr wr w.heap.size 86 ZK := HZ1.out.keep HKK.out (fun hx => by replace hx : w.heap.size = B8 := hx; omega)
      have hcell := hZw.setRow C
      have hkS : Ext w (wr.setRow w.heap.size C.toArray) := ((Keep.of_ext HEw.out).trans (keep_setRow wr w.heap.size C.toArray)).mono (fun k o ho hx => by have := Keep.lt ho; omega)
      have hRR := HR.out (.returned (.tuple #[.agg C.toArray, .bool best.isSome])) (wr.setRow w.heap.size C.toArray) ⟨hkS, by rw [hF]; unfold keyedV; rw [hC]⟩
      have hos := Lib.hid (show ZK.toArray.size = C.toArray.size by rw [List.size_toArray, KZ.out.len, List.size_toArray, kb.len])
      have HZW := Lib.hid hZw
      clear hF hC kb HR hkS hZw
      go_wp2_with (first
        | (refine wpList_val (o := ⟨some 61, _, _, _, _, _⟩) (v := .agg C.toArray) ?_ ?_ ?_; exact exec_load_row rfl rfl HB8'.out Tryz.underlying86 rfl KB.out.info; rfl)
        | (refine wpList_skipw (o := ⟨none, .store _ _ _, _, _, _, _⟩) (w' := wr.setRow w.heap.size C.toArray) ?_ ?_ ?_; exact exec_store_row rfl rfl rfl HZW.out KB.out.info hos.out KB.out.one; rfl)
        | fail)
      exact bodyPost_ret (results_cell_slot rfl _ _ w.heap.size 86 C.toArray (0, 0) _ (.bool best.isSome) rfl rfl hcell Tryz.underlying86 rfl KB.out.info) rfl hRR
end Go.Proofs.YtcmhgpgookiomaaGreat
