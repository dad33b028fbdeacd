/-
  alike: whether two disks have the same sectors.
-/
import Derived.Test.YthbffmdfdbfioaaDkI
import Derived.Test.YthbffmdfdbfioaaDkK
import Derived.Test.YthbffmdfdbfioaaDkLts
import Derived.Test.YthbffmdfdbfioaaArrEqN
namespace Go.Proofs.Ythbffmdfdbfioaa
open Go.RowKit Go.Shelf

attribute [local go_sem] Oper.semAt_some

theorem laid3 (w : World) (o1 o2 o3 : Obj) : Ext w (((w.alloc o1).alloc o2).alloc o3) ∧ (((w.alloc o1).alloc o2).alloc o3).heap[w.heap.size]? = some o1 ∧ (((w.alloc o1).alloc o2).alloc o3).heap[w.heap.size + 1]? = some o2 ∧
    (((w.alloc o1).alloc o2).alloc o3).heap[w.heap.size + 1 + 1]? = some o3 ∧ (((w.alloc o1).alloc o2).alloc o3).heap.size = w.heap.size + 3 := by
  have k1 := World.alloc_heap_new w o1
  have k2 := World.alloc_heap_new (w.alloc o1) o2
  have k3 := World.alloc_heap_new ((w.alloc o1).alloc o2) o3
  simp only [World.size_alloc] at k2 k3
  have e : ∀ (A : World) (o : Obj), Ext A (A.alloc o) := fun A o => (Keep.refl _ A).alloc o
  exact ⟨((e _ _).trans (e _ _)).trans (e _ _), (e _ o3).block _ _ ((e _ o2).block _ _ k1 (fun h => h)) (fun h => h), (e _ o3).block _ _ k2 (fun h => h), k3, by simp⟩

set_option maxRecDepth 20000 in
set_option maxHeartbeats 4000000 in
theorem alike_any {w : World} {B gs gc B2 gs2 gc2 : Nat} {s : DSt} (h : PD w B gs gc s) (h2 : RD w B2 gs2 gc2 s) :
    Calls Try.prog 18 #[.pointer (some ⟨B, 0, none⟩), .pointer (some ⟨B2, 0, none⟩)] w fun e w' => e = .returned (.bool true) ∧ Ext w w' := by
  refine calls_cps fun R hR => ?_
  refine calls_marks Try.func18 rfl ?_
  simp only [Try.ntmps18, List.size_toArray, List.length_cons, List.length_nil, Nat.reduceAdd, Nat.reduceSub, Array.replicate_succ, Array.replicate_zero, List.push_toArray, List.append_toArray, List.nil_append, List.cons_append]
  have hlaid := laid3 w (.cells #[.pointer (some ⟨B2, 0, none⟩)] 35) (.cells #[.bool false] 4) (.cells #[.int .i64 0] 3)
  go_wp2_with fail
  obtain ⟨E1, b3, b4, b5, hs1⟩ := hlaid
  obtain ⟨w1, hw1⟩ : ∃ x, ((w.alloc (.cells #[.pointer (some ⟨B2, 0, none⟩)] 35)).alloc (.cells #[.bool false] 4)).alloc (.cells #[.int .i64 0] 3) = x := ⟨_, rfl⟩
  rw [hw1] at E1 b3 b4 b5 hs1 ⊢
  clear hw1
  refine (sectors_any B).mono ?_
  rintro e w2 ⟨rfl, rfl⟩
  have eA : Ext w1 (w1.alloc (.cells #[.pointer (some ⟨B, 0, none⟩)] 24)) := (Keep.refl _ w1).alloc _
  have hpb := Boxed.new w1 24 (.pointer (some ⟨B, 0, none⟩))
  have hB3 : Boxed (w1.alloc (.cells #[.pointer (some ⟨B, 0, none⟩)] 24)) w.heap.size 35 (.pointer (some ⟨B2, 0, none⟩)) := eA.block _ _ b3 (fun h => h)
  have hB4 : Boxed (w1.alloc (.cells #[.pointer (some ⟨B, 0, none⟩)] 24)) (w.heap.size + 1) 4 (.bool false) := eA.block _ _ b4 (fun h => h)
  have hB5 : Boxed (w1.alloc (.cells #[.pointer (some ⟨B, 0, none⟩)] 24)) (w.heap.size + 1 + 1) 3 (.int .i64 0) := eA.block _ _ b5 (fun h => h)
  have E2 := E1.trans eA
  have hs5 : w1.heap.size < (w1.alloc (.cells #[.pointer (some ⟨B, 0, none⟩)] 24)).heap.size := by simp
  rw [hs1] at hpb hs5 ⊢
  obtain ⟨W, hW⟩ : ∃ x, w1.alloc (.cells #[.pointer (some ⟨B, 0, none⟩)] 24) = x := ⟨_, rfl⟩
  rw [hW] at hpb hB3 hB4 hB5 E2 hs5 ⊢
  clear hW eA b3 b4 b5 E1 hs1
  have hD2 := h.ext E2
  have hR2 := h2.ext E2
  have hl1 := h.lts
  have hl2 := h2.lts
  have hszE := E2.size
  clear h h2
  go_wp2_with fail
  obtain ⟨n, hn⟩ : ∃ n, s.n = n := ⟨_, rfl⟩
  have hit := sectors1_iter (w.heap.size + 3) B gs gc s
  rw [hn] at hit
  have HN := Lib.hid hn
  have hbig := hD2.big
  rw [hn] at hbig
  have HLEN := Lib.hid hD2.len
  refine range_wp rfl (enters_of Try.func23 (by kernel_rfl) rfl) hit
    (fun b h => h.elim) (fun b h => by rcases h with rfl | rfl | rfl | ⟨h, rfl⟩; exact hs5; omega; omega; (have := hl1.2.2 h; omega))
    (fun _ _ _ h => by rw [h]; rfl) (fun A hA => ⟨hA.boxed hpb, hD2.ext hA⟩)
    (fun k A => k ≤ n ∧ Boxed A (w.heap.size + 1 + 1) 3 (.int .i64 (k : Int)) ∧ Boxed A w.heap.size 35 (.pointer (some ⟨B2, 0, none⟩)) ∧ Boxed A (w.heap.size + 1) 4 (.bool false) ∧ RD A B2 gs2 gc2 s ∧ Ext w A ∧ W.heap.size ≤ A.heap.size)
    (fun _ _ _ => False)
    (fun k A D ⟨h0, h1, h2, h3, h4, h5, h6⟩ hkp => ⟨h0, hkp.boxed_turn h1 id, hkp.boxed_turn h2 id, hkp.boxed_turn h3 id, h4.keep hkp (fun _ h => by rcases h with h | ⟨h, _⟩; exact h; omega) (fun _ _ h => by rcases h with h | ⟨h, _⟩; exact h; omega) (fun hc _ h => by rcases h with h | ⟨h, _⟩; exact h; (have := hl2.2.2 hc; omega)), h5.then_turn hkp hszE (fun _ _ h _ => h), Nat.le_trans h6 hkp.size⟩)
    (fun _ _ _ _ h _ => h)
    (fun h => h.elim) ⟨by omega, hB5, hB3, hB4, hR2, E2, Nat.le_refl _⟩ ?round ?done ?stop
  case round =>
    rintro l' k A args KN KX hkN ⟨h0, h1, h2, h3, h4, h5, h6⟩ rfl hKN hKX
    have hsl2 := sector_length (s := s) HLEN.out (show k < s.n by rw [HN.out]; exact hkN)
    have hO1 := u8v_one (s.sector k)
    have hcell := bytes_cells (s.sector k) hsl2
    unfold aggB
    obtain ⟨ac, cc, cap, tl, e1, e2, e3, e4, e5, e6⟩ := h4.ex
    have hld := fun A (hE : Ext A A → True) (hA : 0 < s.n → Arr A gs2 22 (s.F.map u8v ++ tl)) => (hA (by rw [HN.out]; omega)).loads_mid (P := Try.prog) (off := k * 64) (n := 64) (by rw [List.length_append, List.length_map, HLEN.out, HN.out]; omega)
    simp only [sector_cells HLEN.out (show k < s.n by rw [HN.out]; exact hkN)] at hld
    have hix := index_sec gs2 s.n cap k (by rw [HN.out]; exact hkN)
    obtain ⟨O, hO⟩ : ∃ O, (s.sector k).map u8v = O := ⟨_, rfl⟩
    have hOl : O.length = 64 := by rw [← hO, List.length_map, hsl2]
    rw [hO] at hO1 hcell ⊢
    simp only [hO] at hld
    have hiA := Lib.hid (show (Try.prog.info? 22).map (·.size) = some O.toArray.size by rw [info_sec]; simp [hOl])
    have hiL := Lib.hid (show (Try.prog.info? 22).map (·.size) = some O.length by rw [info_sec, hOl])
    have hst := stores_new (P := Try.prog) (t := 22) (cs := List.replicate 64 (.int .u8 0)) (cs' := O) (by rw [hOl]; rfl) hO1 A
    simp only [List.replicate] at hst
    have HCELL := Lib.hid hcell
    have HLD := Lib.hid (show ∀ A, Arr A gs2 22 (s.F.map u8v ++ tl) → (loadCellsFrom ⟨gs2, k * 64, none⟩ 0 O.length #[]).run Try.prog A = .ok O.toArray A from fun A hA => by rw [hOl]; exact hld A (fun _ => trivial) (fun _ => hA))
    have hS := Lib.hid e4
    have c20 := e1.cell (i := 0) rfl
    rw [HN.out] at hix c20
    clear hld hsl2 hO1 hcell hO e1 e2 e3 e4 e5 e6 hit hD2 hpb hB5 hB3 hB4 hR2 E2
    gi_wp2
    refine ⟨Keep.of_ext ((Keep.refl _ A).alloc _), fun C hC => ?_⟩
    have eA1 : Ext A (A.alloc (.cells O.toArray 22)) := (Keep.refl _ A).alloc _
    have tn : ∀ {b : Nat} {o : Obj}, o.isCells = true → ¬ turn W.heap.size (fun _ => False) b o := fun ho h => by rcases h with h | h; exact h; rw [ho] at h; cases h.2
    have z7 := (Arr.new A 22 O).keep hC (tn rfl)
    replace h1 := hC.boxed_turn (eA1.boxed h1) id
    replace h2 := hC.boxed_turn (eA1.boxed h2) id
    replace h3 := hC.boxed_turn (eA1.boxed h3) id
    have c20' := hC.cell_turn (eA1.cell c20) id
    have hS' : 0 < n → Arr C gs2 22 (s.F.map u8v ++ tl) := fun hn => ((hS.out (by rw [HN.out]; exact hn)).ext eA1).keep hC (tn rfl)
    replace h4 := (h4.ext eA1).keep hC (fun _ h => by rcases h with h | ⟨h, _⟩; exact h; omega) (fun _ _ h => by rcases h with h | ⟨h, _⟩; exact h; omega) (fun hc _ h => by rcases h with h | ⟨h, _⟩; exact h; (have := hl2.2.2 hc; omega))
    replace h5 := (h5.trans eA1).then_turn hC hszE (fun _ _ h _ => h)
    have hAs : W.heap.size ≤ A.heap.size := h6
    replace h6 := Nat.le_trans h6 (Nat.le_trans eA1.size hC.size)
    have HS' := Lib.hid (hS' (by omega))
    obtain ⟨p7, hp7⟩ : ∃ p, A.heap.size = p := ⟨_, rfl⟩
    rw [hp7] at z7 hAs ⊢
    have c5 := h1.cell
    have c3 := h2.cell
    have hq1 : decide (n ≤ k) = false := by simpa using hkN
    have hq2 : decide ((n : Int) ≤ (k : Int)) = false := by simpa using hkN
    clear hst hp7 eA1 tn hC hS' c20 hS hOl
    gi_wp2
    refine FY.wpIn_flow (X := fun _ _ => True) (0 :: 1 :: 2 :: 3 :: 4 :: 5 :: 6 :: 7 :: 8 :: 9 :: 10 :: 11 :: 12 :: 13 :: 14 :: 15 :: 16 :: 17 :: 18 :: 19 :: 20 :: 21 :: 22 :: [])
      (fun n => .reads) (fun n => by simp) (by kernel_rfl) (by kernel_rfl) (by kernel_rfl) ?_
    have hD : ∀ g : FY.At (fun _ _ => False) C.drew, Ext C g.w := fun g => ((Keep.refl _ C).drew).trans g.ext
    have d5 := fun g => (hD g).cell c5
    have d3 := fun g => (hD g).cell c3
    have d2 := fun g => (hD g).cell c20'
    iterate 13 (refine FY.flow_r rfl rfl rfl ?_; go_big_quiet_step (fail); refine wpQuiet_nil ?_)
    refine FY.flow_v (v := .agg O.toArray) rfl rfl rfl (fun w' hE => exec_load_row rfl rfl (z7.ext (((Keep.refl _ C).drew).trans hE)) Try.underlying22 rfl hiA.out) ?_
    simp only [Act.put, List.setIfInBounds_toArray, List.set_cons_succ, List.set_cons_zero]
    iterate 6 (refine FY.flow_r rfl rfl rfl ?_; go_big_quiet_step (fail); refine wpQuiet_nil ?_)
    refine FY.flow_v (v := .agg O.toArray) rfl rfl rfl (fun w' hE => exec_load_mid rfl (p := ⟨gs2, k * 64, none⟩) rfl (HLD.out _ ((HS'.out).ext (((Keep.refl _ C).drew).trans hE))) Try.underlying22 rfl hiL.out) ?_
    simp only [Act.put, List.setIfInBounds_toArray, List.set_cons_succ, List.set_cons_zero]
    refine FY.flow_v (v := .bool false) rfl rfl rfl (fun w' hE => exec_neq_arr rfl rfl rfl Try.underlying22 Try.underlying5 size_u8 (by kernel_rfl) HCELL.out) ?_
    simp only [Act.put, List.setIfInBounds_toArray, List.set_cons_succ, List.set_cons_zero]
    refine FY.flow_r rfl rfl rfl ?_; go_big_quiet_step (fail); refine wpQuiet_nil ?_
    refine FY.flow_end (fun D hED _ => ?_)
    have hCD : Ext C D := ((Keep.refl _ C).drew).trans hED
    have g1 := hCD.boxed h1
    have g2 := hCD.boxed h2
    have g3 := hCD.boxed h3
    have g4 := h4.ext hCD
    have g5 := h5.trans hCD
    have e1 := g1.cell
    have ef1 := g1.frozen
    have g1' := g1.set (.int .i64 ((k + 1 : Nat) : Int))
    have kC : Keep (fun b _ => b = w.heap.size + 1 + 1) D (D.setCell ⟨w.heap.size + 1 + 1, 0, none⟩ (.int .i64 ((k + 1 : Nat) : Int))) := keep_setCell D _ 0 _
    have g2' := g2.other (show w.heap.size ≠ w.heap.size + 1 + 1 by omega) (.int .i64 ((k + 1 : Nat) : Int))
    have g3' := g3.other (show w.heap.size + 1 ≠ w.heap.size + 1 + 1 by omega) (.int .i64 ((k + 1 : Nat) : Int))
    have g4' := g4.keep kC (fun _ => by omega) (fun _ _ => by omega) (fun hc _ => by have := hl2.2.2 hc; omega)
    have g5' := g5.setCell ⟨w.heap.size + 1 + 1, 0, none⟩ (.int .i64 ((k + 1 : Nat) : Int)) (fun o ho => by have := Keep.lt ho; replace this : w.heap.size + 1 + 1 < w.heap.size := this; omega)
    have hkk : Keep (Go.Proofs.Ythbffmdfdbfioaa.round W.heap.size (secZ (w.heap.size + 3) B gs gc s)) C (D.setCell ⟨w.heap.size + 1 + 1, 0, none⟩ (.int .i64 ((k + 1 : Nat) : Int))) := (Keep.of_ext hCD).setCell _ _ (fun o ho => ⟨fun h => by
      rcases h with h | h | h | ⟨hc, h⟩
      · replace h : w.heap.size + 1 + 1 = w.heap.size + 3 := h; omega
      · replace h : w.heap.size + 1 + 1 = B := h; omega
      · replace h : w.heap.size + 1 + 1 = gs := h; omega
      · replace h : w.heap.size + 1 + 1 = gc := h; have := hl1.2.2 hc; omega, .inl (by show w.heap.size + 1 + 1 < _; omega)⟩)
    have hbk : (k : Int) < 65536 := by omega
    clear d5 d3 d2 hD h1 h2 h3 h4 h5 g1 g2 g3 g4 g5 kC c5 c3 c20' hED
    gi_wp2
    refine hKN _ _ hkk ⟨by omega, g1', g2', g3', g4', g5', Nat.le_trans h6 hkk.size⟩
  case done =>
    rintro D A hD ⟨h0, h1, h2, h3, h4, h5, h6⟩ hd
    obtain ⟨ac, cc, cap, tl, e1, e2, e3, e4, e5, e6⟩ := h4.ex
    have c5 := h1.cell
    have c3 := h2.cell
    have c20 := e1.cell (i := 0) rfl
    rw [HN.out] at c20
    have hDD : ∀ g : At A.drew, Ext A g.w := fun g => ((Keep.refl _ A).drew).trans g.ext
    have d5 := fun g => (hDD g).cell c5
    have d3 := fun g => (hDD g).cell c3
    have d2 := fun g => (hDD g).cell c20
    clear e1 e2 e3 e4 e5 e6 h4
    go_wp2
    refine wp_flow (fun n => if n = 7 then .last else .reads) (by kernel_rfl) (by kernel_rfl) ?_
    repeat (refine flow_r rfl rfl ?_; go_big_quiet_step (fail); refine wpQuiet_nil ?_)
    refine flow_l rfl (by kernel_rfl) (fun w2 hE2 _ => ?_)
    have hE3 : Ext A w2 := ((Keep.refl _ A).drew).trans hE2
    have g3 := hE3.boxed h3
    have hd2 := hE3.block _ _ hd (fun h => h)
    have c4 := g3.cell
    have f4 := g3.frozen
    have g3' := g3.set (.bool true)
    have hd3 : (w2.setCell ⟨w.heap.size + 1, 0, none⟩ (.bool true)).heap[D]? = some (.deferred (some [])) := (heap_setCell_other w2 ⟨w.heap.size + 1, 0, none⟩ D (.bool true) (by show D ≠ w.heap.size + 1; omega)).trans hd2
    have hT2 : Boxed ((w2.setCell ⟨w.heap.size + 1, 0, none⟩ (.bool true)).putObj D (.deferred none)) (w.heap.size + 1) 4 (.bool true) := (World.putObj_heap_other (by omega)).trans g3'
    have cT2 := hT2.cell
    have E9 : Ext w ((w2.setCell ⟨w.heap.size + 1, 0, none⟩ (.bool true)).putObj D (.deferred none)) := ((h5.trans hE3).setCell _ _ (fun o ho => by have := Keep.lt ho; replace this : w.heap.size + 1 < w.heap.size := this; omega)).putObj _ _ (fun o ho => by have := Keep.lt ho; omega)
    clear hE2 hDD d5 d3 d2 c5 c3 c20
    go_wp2
    refine mark_ret hd3 rfl (by simp [results, Try.results18, go_sem]; rw [cT2]) (hR _ _ ⟨rfl, E9⟩)
  case stop =>
    rintro D cd k A hD hkN h
    exact h.elim
end Go.Proofs.Ythbffmdfdbfioaa
