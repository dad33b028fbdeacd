/-
  Whether a log has just these records ('same').
-/
import Derived.Test.YtdopaoajbjodeaaSlM
namespace Go.Proofs.Ytdopaoajbjodeaa
open Go.RowKit Go.Shelf

attribute [local go_sem] Oper.semAt_some

theorem ba_eq_iff {x y : List UInt8} : ((⟨x.toArray⟩ : ByteArray) = ⟨y.toArray⟩) ↔ x = y :=
  ⟨fun h => by have := congrArg (fun b => b.data.toList) h; simpa using this, fun h => by rw [h]⟩

set_option maxRecDepth 20000 in
set_option maxHeartbeats 4000000 in
theorem same14_any {w : World} {LB B : Nat} {v : Value} {st : LSt} (h : PL w LB B v st) (a : Option Addr) (n c : Nat) (want : List (List UInt8)) (hw : Texts w a n c want) :
    Calls Try.prog 19 #[.pointer (some ⟨LB, 0, none⟩), .slice a n c] w fun e w' => e = .returned (.bool (decide (st.recs = want))) ∧ Ext w w' := by
  obtain ⟨vs, hrow, hnl, htx⟩ := hw
  have hmx := hrow.2.1
  have hnc := hrow.1
  unfold maxLen at hmx
  have hfew := h.few
  have hle := h.le
  have hreg := h.reg
  have HNL := Lib.hid hnl
  clear hnl
  refine calls_cps fun R hR => ?_
  have hcn := fun A (hE : Ext w A) => count_any (h.ext hE)
  obtain ⟨N, hN⟩ : ∃ x, st.recs.length = x := ⟨_, rfl⟩
  rw [hN] at hcn hfew
  have HCN := Lib.hid hcn
  clear hcn
  refine calls_marks Try.func19 rfl ?_
  simp only [Try.ntmps19, List.size_toArray, List.length_cons, List.length_nil, Nat.reduceAdd, Nat.reduceSub, Array.replicate_succ, Array.replicate_zero, List.push_toArray, List.append_toArray, List.nil_append, List.cons_append]
  obtain ⟨W, hW⟩ : ∃ x, (((w.alloc (.cells #[.slice a n c] 31)).alloc (.cells #[.bool false] 4)).alloc (.cells #[.int .i64 0] 3)).alloc (.cells #[.pointer (some ⟨LB, 0, none⟩)] 27) = x := ⟨_, rfl⟩
  have HB : Hid (Ext w W ∧ W.heap.size = w.heap.size + 4 ∧ Boxed W w.heap.size 31 (.slice a n c) ∧ Boxed W (w.heap.size + 1) 4 (.bool false) ∧ Boxed W (w.heap.size + 1 + 1) 3 (.int .i64 0) ∧ Boxed W (w.heap.size + 1 + 1 + 1) 27 (.pointer (some ⟨LB, 0, none⟩))) := by
    have e : ∀ (A : World) (o : Obj), Ext A (A.alloc o) := fun A o => (Keep.refl _ A).alloc o
    have k1 := World.alloc_heap_new w (.cells #[.slice a n c] 31)
    have k2 := World.alloc_heap_new (w.alloc (.cells #[.slice a n c] 31)) (.cells #[.bool false] 4)
    have k3 := World.alloc_heap_new ((w.alloc (.cells #[.slice a n c] 31)).alloc (.cells #[.bool false] 4)) (.cells #[.int .i64 0] 3)
    have k4 := World.alloc_heap_new (((w.alloc (.cells #[.slice a n c] 31)).alloc (.cells #[.bool false] 4)).alloc (.cells #[.int .i64 0] 3)) (.cells #[.pointer (some ⟨LB, 0, none⟩)] 27)
    simp only [World.size_alloc] at k2 k3 k4
    have up : ∀ {A : World} {b : Nat} {o : Obj} (o' : Obj), A.heap[b]? = some o → (A.alloc o').heap[b]? = some o := fun o' h => (e _ o').block _ _ h (fun h => h)
    rw [← hW]
    exact ⟨(((e _ _).trans (e _ _)).trans (e _ _)).trans (e _ _), by simp only [World.size_alloc], up _ (up _ (up _ k1)), up _ (up _ k2), up _ k3, k4⟩
  go_wp2_with fail
  refine (records_any LB _).mono ?_
  rintro e w2 ⟨rfl, h2⟩
  rw [hW] at h2
  subst h2
  simp only [World.size_alloc]
  obtain ⟨E1, hs1, bW, bR, bN, bL⟩ := HB.out
  clear HB hW
  have hE1 := E1
  have hPW := h.ext E1
  have hlt0 : LB < w.heap.size := h.cells.lt
  go_wp2_with fail
  have hit := records1_iter (w.heap.size + 1 + 1 + 1) LB B w h
  rw [hN] at hit
  refine range_wp rfl (enters_of Try.func49 (by kernel_rfl) rfl) hit
    (fun b h => h.elim) (fun b h => by rcases h with rfl | h <;> omega)
    (fun _ _ _ ⟨_, _, h, _⟩ => by rw [h]; rfl) (fun A hA => ⟨hA.boxed bL, E1.trans hA⟩)
    (fun k A => k ≤ N ∧ k ≤ n ∧ (∀ j, j < k → st.recs[j]? = want[j]?) ∧ Boxed A w.heap.size 31 (.slice a n c) ∧ Boxed A (w.heap.size + 1) 4 (.bool false) ∧ Boxed A (w.heap.size + 1 + 1) 3 (.int .i64 (k : Int)) ∧ Ext w A ∧ w2.heap.size ≤ A.heap.size)
    (fun k cd A => cd = .ret ∧ st.recs ≠ want ∧ Boxed A (w.heap.size + 1) 4 (.bool false) ∧ Ext w A)
    (fun k A B ⟨h0, h1, h2, h3, h4, h5, h6, h7⟩ hkp => ⟨h0, h1, h2, hkp.boxed_turn h3 id, hkp.boxed_turn h4 id, hkp.boxed_turn h5 id, h6.then_turn hkp (by omega) (fun _ _ h _ => h), Nat.le_trans h7 hkp.size⟩)
    (fun k cd A B ⟨h0, h1, h2, h3⟩ hkp => ⟨h0, h1, hkp.boxed_turn h2 id, h3.then_turn hkp (by omega) (fun _ _ h _ => h)⟩)
    (fun h => h.elim) ⟨by omega, by omega, fun j hj => by omega, bW, bR, bN, E1, Nat.le_refl _⟩ ?round ?done ?stop
  case round =>
    rintro l' k A args KN KX hkN ⟨h0, h1, h2, h3, h4, h5, h6, h7⟩ ⟨u, l, rfl, hl, hown⟩ hKN hKX
    obtain ⟨au, cu, rfl, _⟩ := owns_row hown
    clear hit
    gi_wp2
    refine ⟨Keep.refl _ _, fun C hC => ?_⟩
    replace h3 := hC.boxed_turn h3 id
    replace h4 := hC.boxed_turn h4 id
    replace h5 := hC.boxed_turn h5 id
    replace h6 := h6.then_turn hC (by omega) (fun _ _ h _ => h)
    replace h7 := Nat.le_trans h7 hC.size
    replace hown := hC.owns_turn hown (fun _ _ => id)
    obtain ⟨_, _, q1, hru⟩ := owns_row hown
    cases q1
    have c3 := h3.cell
    have c5 := h5.cell
    have hD : ∀ g : FY.At (fun _ _ => False) C.drew, Ext C g.w := fun g => ((Keep.refl _ C).drew).trans g.ext
    have d3 := fun g => Ext.cell (hD g) c3
    have d5 := fun g => Ext.cell (hD g) c5
    have hstop : st.recs ≠ want → ∀ D, Ext C D → KX .ret C (D.setCell ⟨w.heap.size + 1, 0, none⟩ (.bool false)) := fun hne D hED => by
      refine hKX _ _ _ ((Keep.of_ext hED).setCell _ _ (fun o ho => ⟨fun h => ?_, .inl (by show w.heap.size + 1 < _; omega)⟩)) ⟨by first | trivial | rfl, hne, (hED.boxed h4).set (.bool false), (h6.trans hED).setCell _ _ (fun o ho => by have := Keep.lt ho; replace this : w.heap.size + 1 < w.heap.size := this; omega)⟩
      replace h : w.heap.size + 1 = w.heap.size + 1 + 1 + 1 ∨ w.heap.size + 1 < w.heap.size := h
      omega
    have HST := Lib.hid hstop
    clear hstop
    by_cases hkn : n ≤ k
    · have hkn' : (n : Int) ≤ (k : Int) := by omega
      have hne : st.recs ≠ want := fun he => by have := HNL.out; rw [← he, hN] at this; omega
      have HNE := Lib.hid hne
      clear hne
      gi_wp2
      refine FY.wpIn_flow (X := fun _ _ => True) (0 :: 1 :: 2 :: 3 :: 4 :: 5 :: 6 :: 7 :: 8 :: 9 :: 10 :: 11 :: 12 :: 13 :: []) (fun _ => .reads) (fun n => by simp) (by kernel_rfl) (by kernel_rfl) (by kernel_rfl) ?_
      iterate 14 (first | (refine FY.flow_r rfl rfl rfl ?_; go_big_quiet_step (fail); refine wpQuiet_nil ?_) | (refine FY.flow_s rfl rfl rfl ?_; simp only [Act.put, List.setIfInBounds_toArray, List.set_cons_succ, List.set_cons_zero]))
      refine FY.flow_end (fun D hED _ => ?_)
      replace hED : Ext C D := ((Keep.refl _ C).drew).trans hED
      have g4 := hED.boxed h4
      have c4 := g4.cell
      have f4 := g4.frozen
      have hf := HST.out HNE.out D hED
      clear d3 d5 hD c3 c5 h2
      gi_wp2
      exact hf
    · have hkn' : ¬ ((n : Int) ≤ (k : Int)) := by omega
      obtain ⟨x, hx⟩ : ∃ x, want[k]? = some x := ⟨_, List.getElem?_eq_getElem (by have := HNL.out; omega)⟩
      obtain ⟨ax, cx, hvx, hrx⟩ := htx k x hx
      obtain ⟨bx, ox, rfl, hcx⟩ := hrow.2.2.2.2 (by omega)
      have c6 := Ext.cell h6 (hcx k _ hvx)
      have d6 := fun g => Ext.cell (hD g) c6
      have s1 := fun g => run_string_row (P := Try.prog) (FY.At.w g) 25 9 5 Try.underlying25 Try.underlying5 Try.underlying9 (hru.ext (hD g))
      have s2 := fun g => run_string_row (P := Try.prog) (FY.At.w g) 25 9 5 Try.underlying25 Try.underlying5 Try.underlying9 ((hrx.ext h6).ext (hD g))
      have hte := ba_eq_iff (x := l) (y := x)
      obtain ⟨tx, htx'⟩ : ∃ y, (⟨l.toArray⟩ : ByteArray) = y := ⟨_, rfl⟩
      obtain ⟨ty, hty⟩ : ∃ y, (⟨x.toArray⟩ : ByteArray) = y := ⟨_, rfl⟩
      simp only [htx'] at s1
      simp only [hty] at s2
      rw [htx', hty] at hte
      obtain ⟨lx, hlx⟩ : ∃ y, l.length = y := ⟨_, rfl⟩
      obtain ⟨ly, hly⟩ : ∃ y, x.length = y := ⟨_, rfl⟩
      simp only [hlx] at s1 ⊢
      simp only [hly] at s2 d6
      have HTE := Lib.hid hte
      have HX := Lib.hid hx
      have HL := Lib.hid hl
      have hbq := bytes_beq tx ty
      clear hte hx hl htx' hty hcx hvx hru hrx c6 hlx hly
      gi_wp2
      refine FY.wpIn_flow (X := fun _ _ => True) (0 :: 1 :: 2 :: 3 :: 4 :: 5 :: 6 :: 7 :: 8 :: 9 :: 10 :: 11 :: 12 :: 13 :: []) (fun _ => .reads) (fun n => by simp) (by kernel_rfl) (by kernel_rfl) (by kernel_rfl) ?_
      iterate 14 (refine FY.flow_r rfl rfl rfl ?_; go_big_quiet_step (fail); refine wpQuiet_nil ?_)
      refine FY.flow_end (fun D hED _ => ?_)
      replace hED : Ext C D := ((Keep.refl _ C).drew).trans hED
      clear d3 d5 d6 s1 s2 hD c3 c5 hbq
      by_cases he : tx = ty
      · have hd : decide (tx = ty) = true := by simp [he]
        rw [hd]
        have h2' : ∀ j, j < k + 1 → st.recs[j]? = want[j]? := fun j hj => by
          by_cases h : j < k
          · exact h2 j h
          · obtain rfl : j = k := by omega
            rw [HL.out, HX.out, HTE.out.1 he]
        have H2 := Lib.hid h2'
        clear h2 h2'
        have g5 := hED.boxed h5
        have c5 := g5.cell
        have f5 := g5.frozen
        have g5' := g5.set (.int .i64 ((k : Int) + 1))
        gi_wp2
        refine hKN _ _ ((Keep.of_ext hED).setCell _ _ (fun o ho => ⟨fun h => ?_, .inl (by show w.heap.size + 1 + 1 < _; omega)⟩)) ⟨by omega, by omega, H2.out, (hED.boxed h3).other (show w.heap.size ≠ w.heap.size + 1 + 1 by omega) _, (hED.boxed h4).other (show w.heap.size + 1 ≠ w.heap.size + 1 + 1 by omega) _, by rw [show ((k + 1 : Nat) : Int) = (k : Int) + 1 by omega]; exact g5', (h6.trans hED).setCell _ _ (fun o ho => by have := Keep.lt ho; replace this : w.heap.size + 1 + 1 < w.heap.size := this; omega), ?_⟩
        · replace h : w.heap.size + 1 + 1 = w.heap.size + 1 + 1 + 1 ∨ w.heap.size + 1 + 1 < w.heap.size := h
          omega
        · have := hED.size; simp; omega
      · have hd : decide (tx = ty) = false := by simp [he]
        rw [hd]
        have hne : st.recs ≠ want := fun h => by
          rw [h] at HL
          have := HL.out.symm.trans HX.out
          simp at this
          exact he (HTE.out.2 this)
        have HNE := Lib.hid hne
        have g4 := hED.boxed h4
        have c4 := g4.cell
        have f4 := g4.frozen
        have hf := HST.out HNE.out D hED
        clear h2 hne
        gi_wp2
        exact hf
  case done =>
    rintro D A hD ⟨h0, h1, h2, h3, h4, h5, h6, h7⟩ hd
    have hcA := (HCN.out) A h6
    have c3 := h3.cell
    have c5 := h5.cell
    have hdc : decide (st.recs = want) = decide (N = n) := by
      have hnl := HNL.out
      by_cases hq : N = n
      · rw [decide_eq_true hq]
        refine decide_eq_true (List.ext_getElem? fun j => ?_)
        by_cases hj : j < N
        · exact h2 j hj
        · rw [List.getElem?_eq_none (by omega), List.getElem?_eq_none (by omega)]
      · rw [decide_eq_false hq]
        exact decide_eq_false fun he => hq (by rw [← hN, he, hnl])
    rw [hdc] at hR
    have g4 := h4
    have HCA := Lib.hid hcA
    have hend : ∀ D2, Ext A D2 → R (.returned (.bool (decide (N = n)))) ((D2.setCell ⟨w.heap.size + 1, 0, none⟩ (.bool (decide (N = n)))).putObj D (.deferred none)) ∧ Boxed D2 (w.heap.size + 1) 4 (.bool false) ∧
        ((D2.setCell ⟨w.heap.size + 1, 0, none⟩ (.bool (decide (N = n)))).putObj D (.deferred none)).cell? ⟨w.heap.size + 1, 0, none⟩ = some (.bool (decide (N = n))) ∧
        (D2.setCell ⟨w.heap.size + 1, 0, none⟩ (.bool (decide (N = n)))).heap[D]? = some (.deferred (some [])) := fun D2 hE2 => by
      have hb := hE2.boxed h4
      have hD2 : D2.heap[D]? = some (.deferred (some [])) := hE2.block _ _ hd (fun h => h)
      refine ⟨hR _ _ ⟨rfl, ((h6.trans hE2).setCell _ _ (fun o ho => by have := Keep.lt ho; replace this : w.heap.size + 1 < w.heap.size := this; omega)).putObj _ _ (fun o ho => by have := Keep.lt ho; omega)⟩, hb, ?_, (Below.heap_setCell _ _ _ _ (by show D ≠ w.heap.size + 1; omega)).trans hD2⟩
      have : Boxed ((D2.setCell ⟨w.heap.size + 1, 0, none⟩ (.bool (decide (N = n)))).putObj D (.deferred none)) (w.heap.size + 1) 4 (.bool (decide (N = n))) := (World.putObj_heap_other (by omega)).trans (hb.set _)
      exact this.cell
    have HEND := Lib.hid hend
    clear hcA hR hend hdc h2 HCN hd
    have hDs : ∀ g : FY.At (fun _ _ => False) A.drew, Ext A g.w := fun g => ((Keep.refl _ A).drew).trans g.ext
    have d3 := fun g => Ext.cell (hDs g) c3
    have d5 := fun g => Ext.cell (hDs g) c5
    go_wp2
    by_cases hq : N = n
    · subst hq
      refine FY.wp_flow (X := fun _ _ => False) (0 :: 1 :: 2 :: 3 :: 4 :: 5 :: 6 :: 7 :: 8 :: 9 :: 10 :: []) (fun n => if n = 6 then .grows (Is (.int .i64 (N : Int))) (IsSh (.int .i64 (N : Int))) else if n = 10 then .last else .reads) (by kernel_rfl) (by kernel_rfl) ?_
      iterate 6 (refine FY.flow_r rfl rfl rfl ?_; go_big_quiet_step (fail); refine wpQuiet_nil ?_)
      refine FY.flow_g rfl rfl rfl (by simp) ⟨_, rfl⟩ (fun _ _ _ h hE => h) (fun _ _ h => h) (fun w5 hE5 _ => ?_) (fun v hv => ?_)
      · have hc := count_any (h.ext ((h6.trans ((Keep.refl _ A).drew)).trans hE5))
        rw [hN] at hc
        go_wp2_with fail
        refine hc.mono ?_
        rintro e w6 ⟨rfl, rfl⟩
        go_wp2
        first | exact ⟨Keep.refl _ _, rfl⟩ | exact rfl
      cases hv
      simp only [Act.put, List.setIfInBounds_toArray, List.set_cons_succ, List.set_cons_zero]
      iterate 3 (refine FY.flow_r rfl rfl rfl ?_; go_big_quiet_step (fail); refine wpQuiet_nil ?_)
      refine FY.flow_l rfl rfl (by kernel_rfl) (fun C2 hE2 _ => ?_)
      obtain ⟨f1, f2, f3, f4⟩ := HEND.out C2 (((Keep.refl _ A).drew).trans hE2)
      rw [show decide (N = N) = true by simp] at f1 f3 f4
      have c4 := f2.cell
      have f5 := f2.frozen
      clear d3 d5 hDs c3 c5
      go_wp2
      refine mark_end f4 rfl (by simp [results, Try.results19, go_sem]; rw [f3]) f1
    · have hqi : ((N : Int) == (n : Int)) = false := by simp; omega
      rw [decide_eq_false hq] at HEND
      refine FY.wp_flow (X := fun _ _ => False) (0 :: 1 :: 2 :: 3 :: 4 :: 5 :: 6 :: 7 :: 8 :: 9 :: 10 :: []) (fun n => if n = 10 then .last else .reads) (by kernel_rfl) (by kernel_rfl) ?_
      iterate 10 (first | (refine FY.flow_r rfl rfl rfl ?_; go_big_quiet_step (fail); refine wpQuiet_nil ?_) | (refine FY.flow_s rfl rfl rfl ?_; simp only [Act.put, List.setIfInBounds_toArray, List.set_cons_succ, List.set_cons_zero]))
      refine FY.flow_l rfl rfl (by kernel_rfl) (fun C2 hE2 _ => ?_)
      obtain ⟨f1, f2, f3, f4⟩ := HEND.out C2 (((Keep.refl _ A).drew).trans hE2)
      have c4 := f2.cell
      have f5 := f2.frozen
      clear d3 d5 hDs c3 c5
      go_wp2
      refine mark_end f4 rfl (by simp [results, Try.results19, go_sem]; rw [f3]) f1
  case stop =>
    rintro D cd k A hD hkN ⟨rfl, h1, h2, h3⟩ hd
    have hs2 : Boxed (A.putObj D (.deferred none)) (w.heap.size + 1) 4 (.bool false) := (World.putObj_heap_other (by omega)).trans h2
    have cs2 := hs2.cell
    have hdc : decide (st.recs = want) = false := by simpa using h1
    rw [hdc] at hR
    go_wp2
    refine mark_ret hd rfl (by simp [results, Try.results19, go_sem]; rw [cs2]) (hR _ _ ⟨rfl, h3.putObj _ _ (fun o ho => by have := Keep.lt ho; omega)⟩)
end Go.Proofs.Ytdopaoajbjodeaa
