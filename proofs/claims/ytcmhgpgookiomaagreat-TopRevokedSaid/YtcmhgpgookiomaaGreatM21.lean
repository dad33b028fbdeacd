/-
  TopRevoked: the document's ring: Person, Group, Realm: where a number stands. the document's ring: draw, without a suite. the document's ring: box, without a suite. the document's ring: member, without a suite. the document's ring: realm (a reader's box), without a suite.
-/
import Derived.Test.YtcmhgpgookiomaaGreatM20
namespace Go.Proofs.YtcmhgpgookiomaaGreat
open Go.RowKit Go.Shelf Go.Maps

attribute [local go_sem] Oper.semAt_some

/-- The first cells of a row's structs (sz cells each). -/
def Heads (sz : Nat) (w : World) (a : Option Addr) (ks : List Nat) : Prop := 0 < ks.length → ∃ (b o : Nat), a = some ⟨b, o, none⟩ ∧ ∀ (i k : Nat), ks[i]? = some k → w.cell? ⟨b, o + i * sz, none⟩ = some (.int .u32 (k : Int))

set_option maxRecDepth 20000 in
set_option maxHeartbeats 1000000 in
theorem personX_any (X : Nat) (a : Option Addr) (c : Nat) (ks : List Nat) (x : Nat) (w : World) (hl : ks.length ≤ 1000000) (hc : w.cell? ⟨X, 1, none⟩ = some (.slice a ks.length c)) (hh : Heads 33 w a ks) :
    Calls Tryz.prog 37 #[.pointer (some ⟨X, 0, none⟩), .int .u32 (x : Int)] w fun e w' => (∃ r : Int, e = .returned (.int .i64 r) ∧ ((∃ i : Nat, ks[i]? = some x ∧ r = i ∧ x ∉ ks.take i) ∨ (x ∉ ks ∧ r = -1))) ∧ w' = w := by
  obtain ⟨n, hn⟩ : ∃ n, ks.length = n := ⟨_, rfl⟩
  have HH := Lib.hid hh
  rw [hn] at hc hl
  have HN := Lib.hid hn
  clear hh hn
  refine calls_cps fun R hR => ?_
  have HR := Lib.hid hR
  clear hR
  go_enter Tryz.func37, Tryz.ntmps37
  go_wp2
  go_loopw [11] (fun ix wr => ∃ k : Nat, k ≤ n ∧ ix = .int .i64 (k : Int) ∧ Hid (x ∉ ks.take k) ∧ wr = w) (fun ix _ => n - (vI ix).toNat)
  case atStart => exact ⟨0, by omega, rfl, Lib.hid (by simp), rfl⟩
  case round =>
    obtain ⟨k, hk, rfl, HX, rfl⟩ := hrel
    by_cases hlt : k < n
    · obtain ⟨y, hy⟩ : ∃ y, ks[k]? = some y := ⟨_, List.getElem?_eq_getElem (by have := HN.out; omega)⟩
      obtain ⟨b, o, rfl, hcell⟩ := HH.out (by have := HN.out; omega)
      have ck := hcell k y hy
      by_cases hxy : y = x
      · have h1 : ((y : Int) == (x : Int)) = true := by rw [beq_iff_eq]; omega
        have h2 : (y : Int) = (x : Int) := by omega
        have hfin := HR.out (.returned (.int .i64 (k : Int))) wr ⟨⟨_, rfl, .inl ⟨k, by rw [hy, hxy], rfl, HX.out⟩⟩, rfl⟩
        clear HR hxy hy hcell
        go_wp2
        exact hfin
      · have h2 : ¬ (y : Int) = (x : Int) := by omega
        have h1 : ((y : Int) == (x : Int)) = false := by rw [beq_eq_false_iff_ne]; exact h2
        have HX2 := Lib.hid (show x ∉ ks.take (k + 1) by
          rw [List.take_add_one, hy, List.mem_append]
          rintro (h | h)
          · exact HX.out h
          · simp at h; exact hxy h.symm)
        clear hxy hy hcell
        go_wp2
        go_roundw
        case rel => exact ⟨k + 1, by omega, by go_num, HX2, by first | trivial | rfl⟩
        case measure => simp [vI]; omega
    · obtain rfl : k = n := by omega
      have hmem : x ∉ ks := by
        have := HX.out
        rwa [List.take_of_length_le (by have := HN.out; omega)] at this
      have hfin := HR.out (.returned (.int .i64 (-1))) wr ⟨⟨_, rfl, .inr ⟨hmem, rfl⟩⟩, rfl⟩
      clear HR hmem
      go_wp2
      exact hfin

set_option maxRecDepth 20000 in
set_option maxHeartbeats 1000000 in
theorem groupX_any (X : Nat) (a : Option Addr) (c : Nat) (ks : List Nat) (x : Nat) (w : World) (hl : ks.length ≤ 1000000) (hc : w.cell? ⟨X, 2, none⟩ = some (.slice a ks.length c)) (hh : Heads 35 w a ks) :
    Calls Tryz.prog 22 #[.pointer (some ⟨X, 0, none⟩), .int .u32 (x : Int)] w fun e w' => (∃ r : Int, e = .returned (.int .i64 r) ∧ ((∃ i : Nat, ks[i]? = some x ∧ r = i ∧ x ∉ ks.take i) ∨ (x ∉ ks ∧ r = -1))) ∧ w' = w := by
  obtain ⟨n, hn⟩ : ∃ n, ks.length = n := ⟨_, rfl⟩
  have HH := Lib.hid hh
  rw [hn] at hc hl
  have HN := Lib.hid hn
  clear hh hn
  refine calls_cps fun R hR => ?_
  have HR := Lib.hid hR
  clear hR
  go_enter Tryz.func22, Tryz.ntmps22
  go_wp2
  go_loopw [11] (fun ix wr => ∃ k : Nat, k ≤ n ∧ ix = .int .i64 (k : Int) ∧ Hid (x ∉ ks.take k) ∧ wr = w) (fun ix _ => n - (vI ix).toNat)
  case atStart => exact ⟨0, by omega, rfl, Lib.hid (by simp), rfl⟩
  case round =>
    obtain ⟨k, hk, rfl, HX, rfl⟩ := hrel
    by_cases hlt : k < n
    · obtain ⟨y, hy⟩ : ∃ y, ks[k]? = some y := ⟨_, List.getElem?_eq_getElem (by have := HN.out; omega)⟩
      obtain ⟨b, o, rfl, hcell⟩ := HH.out (by have := HN.out; omega)
      have ck := hcell k y hy
      by_cases hxy : y = x
      · have h1 : ((y : Int) == (x : Int)) = true := by rw [beq_iff_eq]; omega
        have h2 : (y : Int) = (x : Int) := by omega
        have hfin := HR.out (.returned (.int .i64 (k : Int))) wr ⟨⟨_, rfl, .inl ⟨k, by rw [hy, hxy], rfl, HX.out⟩⟩, rfl⟩
        clear HR hxy hy hcell
        go_wp2
        exact hfin
      · have h2 : ¬ (y : Int) = (x : Int) := by omega
        have h1 : ((y : Int) == (x : Int)) = false := by rw [beq_eq_false_iff_ne]; exact h2
        have HX2 := Lib.hid (show x ∉ ks.take (k + 1) by
          rw [List.take_add_one, hy, List.mem_append]
          rintro (h | h)
          · exact HX.out h
          · simp at h; exact hxy h.symm)
        clear hxy hy hcell
        go_wp2
        go_roundw
        case rel => exact ⟨k + 1, by omega, by go_num, HX2, by first | trivial | rfl⟩
        case measure => simp [vI]; omega
    · obtain rfl : k = n := by omega
      have hmem : x ∉ ks := by
        have := HX.out
        rwa [List.take_of_length_le (by have := HN.out; omega)] at this
      have hfin := HR.out (.returned (.int .i64 (-1))) wr ⟨⟨_, rfl, .inr ⟨hmem, rfl⟩⟩, rfl⟩
      clear HR hmem
      go_wp2
      exact hfin

set_option maxRecDepth 20000 in
set_option maxHeartbeats 1000000 in
theorem realmX_any (X : Nat) (a : Option Addr) (c : Nat) (ks : List Nat) (x : Nat) (w : World) (hl : ks.length ≤ 1000000) (hc : w.cell? ⟨X, 3, none⟩ = some (.slice a ks.length c)) (hh : Heads 35 w a ks) :
    Calls Tryz.prog 21 #[.pointer (some ⟨X, 0, none⟩), .int .u32 (x : Int)] w fun e w' => (∃ r : Int, e = .returned (.int .i64 r) ∧ ((∃ i : Nat, ks[i]? = some x ∧ r = i ∧ x ∉ ks.take i) ∨ (x ∉ ks ∧ r = -1))) ∧ w' = w := by
  obtain ⟨n, hn⟩ : ∃ n, ks.length = n := ⟨_, rfl⟩
  have HH := Lib.hid hh
  rw [hn] at hc hl
  have HN := Lib.hid hn
  clear hh hn
  refine calls_cps fun R hR => ?_
  have HR := Lib.hid hR
  clear hR
  go_enter Tryz.func21, Tryz.ntmps21
  go_wp2
  go_loopw [11] (fun ix wr => ∃ k : Nat, k ≤ n ∧ ix = .int .i64 (k : Int) ∧ Hid (x ∉ ks.take k) ∧ wr = w) (fun ix _ => n - (vI ix).toNat)
  case atStart => exact ⟨0, by omega, rfl, Lib.hid (by simp), rfl⟩
  case round =>
    obtain ⟨k, hk, rfl, HX, rfl⟩ := hrel
    by_cases hlt : k < n
    · obtain ⟨y, hy⟩ : ∃ y, ks[k]? = some y := ⟨_, List.getElem?_eq_getElem (by have := HN.out; omega)⟩
      obtain ⟨b, o, rfl, hcell⟩ := HH.out (by have := HN.out; omega)
      have ck := hcell k y hy
      by_cases hxy : y = x
      · have h1 : ((y : Int) == (x : Int)) = true := by rw [beq_iff_eq]; omega
        have h2 : (y : Int) = (x : Int) := by omega
        have hfin := HR.out (.returned (.int .i64 (k : Int))) wr ⟨⟨_, rfl, .inl ⟨k, by rw [hy, hxy], rfl, HX.out⟩⟩, rfl⟩
        clear HR hxy hy hcell
        go_wp2
        exact hfin
      · have h2 : ¬ (y : Int) = (x : Int) := by omega
        have h1 : ((y : Int) == (x : Int)) = false := by rw [beq_eq_false_iff_ne]; exact h2
        have HX2 := Lib.hid (show x ∉ ks.take (k + 1) by
          rw [List.take_add_one, hy, List.mem_append]
          rintro (h | h)
          · exact HX.out h
          · simp at h; exact hxy h.symm)
        clear hxy hy hcell
        go_wp2
        go_roundw
        case rel => exact ⟨k + 1, by omega, by go_num, HX2, by first | trivial | rfl⟩
        case measure => simp [vI]; omega
    · obtain rfl : k = n := by omega
      have hmem : x ∉ ks := by
        have := HX.out
        rwa [List.take_of_length_le (by have := HN.out; omega)] at this
      have hfin := HR.out (.returned (.int .i64 (-1))) wr ⟨⟨_, rfl, .inr ⟨hmem, rfl⟩⟩, rfl⟩
      clear HR hmem
      go_wp2
      exact hfin
end Go.Proofs.YtcmhgpgookiomaaGreat
namespace Go.Proofs.YtcmhgpgookiomaaGreat
open Go.RowKit Go.Shelf Go.Maps

attribute [local go_sem] Oper.semAt_some

set_option maxRecDepth 20000 in
set_option maxHeartbeats 1000000 in
theorem drawX_any (X : Nat) (w : World) (hc : w.cell? ⟨X, 0, none⟩ = some (.pointer none)) :
    Calls Tryz.prog 38 #[.pointer (some ⟨X, 0, none⟩)] w fun e w' => e = .returned (.tuple #[aggK key0, .int .i64 0]) ∧ Ext w w' := by
  obtain ⟨Z, hZ⟩ : ∃ Z, key0.map u8v = Z := ⟨_, rfl⟩
  have hZl : Z.length = 32 := by rw [← hZ, List.length_map, key0_len]
  have HZE := Lib.hid (show (List.replicate 32 (Value.int .u8 0)) = Z by rw [← hZ]; rfl)
  have hiZ := Lib.hid (show (Tryz.prog.info? 51).map (·.size) = some Z.toArray.size by rw [info_key, List.size_toArray, hZl])
  have h1Z := Lib.hid (show Z.toArray.all (·.oneCell') = true by rw [← hZ]; exact all_one _)
  have HBZ := Lib.hid (show ∀ (w : World) (o : Oper) (a : Act), o.op = .build 51 #[] → (execOp a.eval o).run Tryz.prog w = .ok (.value (.agg Z.toArray)) w from fun w o a ho => by rw [← hZ]; exact exec_build_key0 w a ho)
  unfold aggK
  rw [hZ]
  clear hZ hZl
  refine calls_cps fun R hR => ?_
  have HR := Lib.hid hR
  clear hR
  go_enter Tryz.func38, Tryz.ntmps38
  go_upto_region 1 with fail
  refine wp_laid1 fun W eW hG => ?_
  have aZ : Arr W w.heap.size 51 Z := by rw [← HZE.out]; exact hG
  have c0 := Ext.cell eW hc
  have hkS : Ext w (W.setRow w.heap.size Z.toArray) := ((Keep.of_ext eW).trans (keep_setRow W w.heap.size Z.toArray)).mono (fun k o ho hx => by have := Keep.lt ho; omega)
  have hRR := HR.out (.returned (.tuple #[.agg Z.toArray, .int .i64 0])) (W.setRow w.heap.size Z.toArray) ⟨rfl, hkS⟩
  have hcell := aZ.setRow Z
  have AZ := Lib.hid aZ
  clear HR hkS aZ hG eW hc
  go_wp2_with (first
    | (refine wpList_val (o := ⟨some 9, _, _, _, _, _⟩) (v := .agg Z.toArray) ?_ ?_ ?_; exact HBZ.out _ _ _ rfl; rfl)
    | (refine wpList_skipw (o := ⟨none, .store _ _ _, _, _, _, _⟩) (w' := W.setRow w.heap.size Z.toArray) ?_ ?_ ?_; exact exec_store_row rfl rfl rfl AZ.out hiZ.out rfl h1Z.out; rfl)
    | fail)
  exact bodyPost_ret (results_cell_slot rfl _ _ w.heap.size 51 Z.toArray (0, 0) _ (.int .i64 0) rfl rfl hcell Tryz.underlying51 rfl hiZ.out) rfl hRR
end Go.Proofs.YtcmhgpgookiomaaGreat
namespace Go.Proofs.YtcmhgpgookiomaaGreat
open Go.RowKit Go.Shelf Go.Maps

attribute [local go_sem] Oper.semAt_some

set_option maxRecDepth 20000 in
set_option maxHeartbeats 1000000 in
theorem boxX_any (X : Nat) (w : World) (hc : w.cell? ⟨X, 0, none⟩ = some (.pointer none)) (b k1 k2 : List Value) :
    Calls Tryz.prog 65 #[.pointer (some ⟨X, 0, none⟩), .agg b.toArray, .agg k1.toArray, .agg k2.toArray] w fun e w' => e = .returned (.int .i64 0) ∧ Ext w w' := by
  refine calls_cps fun R hR => ?_
  have HR := Lib.hid hR
  clear hR
  go_enter Tryz.func65, Tryz.ntmps65
  go_upto_region 1 with fail
  refine wp_laid3 fun W eW hG1 hG2 hG3 => ?_
  have c0 := Ext.cell eW hc
  have hRR := HR.out (.returned (.int .i64 0)) W ⟨rfl, eW⟩
  clear HR hG1 hG2 hG3 eW hc
  go_wp2
  exact hRR
end Go.Proofs.YtcmhgpgookiomaaGreat
namespace Go.Proofs.YtcmhgpgookiomaaGreat
open Go.RowKit Go.Shelf Go.Maps

attribute [local go_sem] Oper.semAt_some

theorem load_part {w : World} {b off : Nat} {t : TypeId} {cs : List Value} (h : Arr w b t cs) (hn : off + 32 ≤ cs.length) : (loadCellsFrom ⟨b, off, none⟩ 0 ((cs.drop off).take 32).length #[]).run Tryz.prog w = .ok ((cs.drop off).take 32).toArray w := by
  have hl : ((cs.drop off).take 32).length = 32 := by simp; omega
  rw [hl]
  exact h.loads_mid hn

set_option maxRecDepth 20000 in
set_option maxHeartbeats 2000000 in
theorem memberX_any (X : Nat) (w : World) (hc : w.cell? ⟨X, 0, none⟩ = some (.pointer none)) (gl pl : List Value) (gi ge pi : Nat) (hg : gl.length = 35) (hp : pl.length = 33) (h0 : gl[0]? = some (.int .u32 (gi : Int))) (h1 : gl[1]? = some (.int .u32 (ge : Int))) (h2 : pl[0]? = some (.int .u32 (pi : Int))) :
    Calls Tryz.prog 42 #[.pointer (some ⟨X, 0, none⟩), .agg gl.toArray, .agg pl.toArray] w fun e w' => e = .returned (.int .i64 0) ∧ Ext w w' := by
  refine calls_cps fun R hR => ?_
  have HR := Lib.hid hR
  have HG := Lib.hid hg
  have HP := Lib.hid hp
  clear hR hg hp
  go_enter Tryz.func42, Tryz.ntmps42
  go_upto_region 1 with fail
  refine wp_laid2 fun W eW hG1 hG2 => ?_
  have aG : Arr W w.heap.size 84 gl := hG1
  have aP : Arr W (w.heap.size + 1) 111 pl := hG2
  have z0 := aG.cell h0
  have z1 := aG.cell h1
  have z2 := aP.cell h2
  have L1 := Lib.hid (load_part (off := 1) aP (by have := HP.out; omega))
  have L2 := Lib.hid (load_part (off := 2) aG (by have := HG.out; omega))
  have hk1 : ((pl.drop 1).take 32).length = 32 := by simp; have := HP.out; omega
  have hk2 : ((gl.drop 2).take 32).length = 32 := by simp; have := HG.out; omega
  obtain ⟨K1, hK1⟩ : ∃ K, (pl.drop 1).take 32 = K := ⟨_, rfl⟩
  obtain ⟨K2, hK2⟩ : ∃ K, (gl.drop 2).take 32 = K := ⟨_, rfl⟩
  rw [hK1] at hk1 L1
  rw [hK2] at hk2 L2
  have hi1 := Lib.hid (show (Tryz.prog.info? 51).map (·.size) = some K1.length by rw [info_key, hk1])
  have hi2 := Lib.hid (show (Tryz.prog.info? 51).map (·.size) = some K2.length by rw [info_key, hk2])
  have hcall := boxX_any X W (Ext.cell eW hc) [.int .i64 1, .int .u32 (gi : Int), .int .u32 (ge : Int), .int .u32 (pi : Int), .int .u32 0, .slice none 0 0] K1 K2
  have HEW := Lib.hid eW
  have HCALL := Lib.hid hcall
  clear hG1 hG2 aG aP hk1 hk2 hK1 hK2 hcall eW hc h0 h1 h2
  go_wp2_with (first
    | (refine wpList_val (o := ⟨some 16, _, _, _, _, _⟩) (v := .agg K1.toArray) ?_ ?_ ?_; exact exec_load_mid' rfl rfl L1.out Tryz.underlying51 rfl hi1.out; rfl)
    | (refine wpList_val (o := ⟨some 18, _, _, _, _, _⟩) (v := .agg K2.toArray) ?_ ?_ ?_; exact exec_load_mid' rfl rfl L2.out Tryz.underlying51 rfl hi2.out; rfl)
    | fail)
  refine HCALL.out.mono ?_
  rintro e w2 ⟨rfl, e2⟩
  have hRR := HR.out (.returned (.int .i64 0)) w2 ⟨rfl, HEW.out.trans e2⟩
  clear HR e2 HCALL
  go_wp2
  exact hRR
end Go.Proofs.YtcmhgpgookiomaaGreat
namespace Go.Proofs.YtcmhgpgookiomaaGreat
open Go.RowKit Go.Shelf Go.Maps

attribute [local go_sem] Oper.semAt_some

set_option maxRecDepth 20000 in
set_option maxHeartbeats 2000000 in
theorem readerX_any (X : Nat) (w : World) (hc : w.cell? ⟨X, 0, none⟩ = some (.pointer none)) (ml gl : List Value) (mi me gi ge : Nat) (hm : ml.length = 35) (hg : gl.length = 35) (m0 : ml[0]? = some (.int .u32 (mi : Int))) (m1 : ml[1]? = some (.int .u32 (me : Int))) (g0 : gl[0]? = some (.int .u32 (gi : Int))) (g1 : gl[1]? = some (.int .u32 (ge : Int))) :
    Calls Tryz.prog 46 #[.pointer (some ⟨X, 0, none⟩), .agg ml.toArray, .agg gl.toArray] w fun e w' => e = .returned (.int .i64 0) ∧ Ext w w' := by
  refine calls_cps fun R hR => ?_
  have HR := Lib.hid hR
  have HG := Lib.hid hg
  have HM := Lib.hid hm
  clear hR hg hm
  go_enter Tryz.func46, Tryz.ntmps46
  go_upto_region 1 with fail
  refine wp_laid2 fun W eW hG1 hG2 => ?_
  have aM : Arr W w.heap.size 81 ml := hG1
  have aG : Arr W (w.heap.size + 1) 84 gl := hG2
  have z0 := aM.cell m0
  have z1 := aM.cell m1
  have z2 := aG.cell g0
  have z3 := aG.cell g1
  have L1 := Lib.hid (load_part (off := 2) aG (by have := HG.out; omega))
  have L2 := Lib.hid (load_part (off := 2) aM (by have := HM.out; omega))
  have hk1 : ((gl.drop 2).take 32).length = 32 := by simp; have := HG.out; omega
  have hk2 : ((ml.drop 2).take 32).length = 32 := by simp; have := HM.out; omega
  obtain ⟨K1, hK1⟩ : ∃ K, (gl.drop 2).take 32 = K := ⟨_, rfl⟩
  obtain ⟨K2, hK2⟩ : ∃ K, (ml.drop 2).take 32 = K := ⟨_, rfl⟩
  rw [hK1] at hk1 L1
  rw [hK2] at hk2 L2
  have hi1 := Lib.hid (show (Tryz.prog.info? 51).map (·.size) = some K1.length by rw [info_key, hk1])
  have hi2 := Lib.hid (show (Tryz.prog.info? 51).map (·.size) = some K2.length by rw [info_key, hk2])
  have hcall := boxX_any X W (Ext.cell eW hc) [.int .i64 2, .int .u32 (mi : Int), .int .u32 (me : Int), .int .u32 (gi : Int), .int .u32 (ge : Int), .slice none 0 0] K1 K2
  have HEW := Lib.hid eW
  have HCALL := Lib.hid hcall
  clear hG1 hG2 aG aM hk1 hk2 hK1 hK2 hcall eW hc m0 m1 g0 g1
  go_wp2_with (first
    | (refine wpList_val (o := ⟨some 18, _, _, _, _, _⟩) (v := .agg K1.toArray) ?_ ?_ ?_; exact exec_load_mid' rfl rfl L1.out Tryz.underlying51 rfl hi1.out; rfl)
    | (refine wpList_val (o := ⟨some 20, _, _, _, _, _⟩) (v := .agg K2.toArray) ?_ ?_ ?_; exact exec_load_mid' rfl rfl L2.out Tryz.underlying51 rfl hi2.out; rfl)
    | fail)
  refine HCALL.out.mono ?_
  rintro e w2 ⟨rfl, e2⟩
  have hRR := HR.out (.returned (.int .i64 0)) w2 ⟨rfl, HEW.out.trans e2⟩
  clear HR e2 HCALL
  go_wp2
  exact hRR
end Go.Proofs.YtcmhgpgookiomaaGreat
