/-
  The law LinesSplits.
-/
import Derived.Test.YthedpnnfkmbdpaaLinN
namespace Go.Proofs.Ythedpnnfkmbdpaa
open Go.RowKit Go.Shelf

attribute [local go_sem] Oper.semAt_some

theorem str_of_cat (s : ByteArray) : (⟨(catL (refL s)).toArray⟩ : ByteArray) = s := by
  rw [cat_refL]

theorem keep_setCell (w : World) (b i : Nat) (v : Value) : Keep (fun k _ => k = b) w (w.setCell ⟨b, i, none⟩ v) := (Keep.refl _ w).setCell _ _ (fun _ _ => rfl)

def splitsTab (L : List ByteArray) (J s : ByteArray) (n : Nat) : FY.Kind :=
  if n = 11 ∨ n = 24 then .grows (Ts L) (SliceN L.length) else if n = 13 then .grows (Is (.bool true)) (IsSh (.bool true)) else if n = 17 ∨ n = 19 then .grows (Is (.string J)) (IsSh (.string J)) else if n = 25 then .grows (Is (.string s)) (IsSh (.string s)) else if n = 29 then .bar else .reads

set_option maxRecDepth 20000 in
set_option maxHeartbeats 4000000 in
theorem linesSplits_any (s : ByteArray) (aL : Option Addr) (nL cL : Nat) (l : List ByteArray) (m : Int) (w : World) (hL : Row 1 w aL nL cL (l.map Value.string)) (_hm : -9223372036854775808 ≤ m ∧ m ≤ 9223372036854775807) :
    Calls Try.prog 6 #[.string s, .slice aL nL cL, .int .i64 m] w fun e w' => e = .returned (.bool true) ∧ Ext w w' := by
  have hlL : l.length = nL := by have := hL.2.2.1; simpa using this
  have hmL := hL.2.1
  have hcL := hL.1
  unfold maxLen at hmL
  refine calls_cps fun R hR => ?_
  refine calls_marks Try.func6 rfl ?_
  simp only [Try.ntmps6, List.size_toArray, List.length_cons, List.length_nil, Nat.reduceAdd, Nat.reduceSub, Array.replicate_succ, Array.replicate_zero, List.push_toArray, List.append_toArray, List.nil_append, List.cons_append]
  have e : ∀ (A : World) (o : Obj), Ext A (A.alloc o) := fun A o => (Keep.refl _ A).alloc o
  have HB : Hid (∀ w1, Ext ((w.alloc (.cells #[.int .i64 m] 3)).alloc (.cells #[.bool false] 4)) w1 →
      Ext w w1 ∧ w.heap.size + 2 ≤ w1.heap.size ∧ Boxed w1 w.heap.size 3 (.int .i64 m) ∧ Boxed w1 (w.heap.size + 1) 4 (.bool false)) := fun w1 h => by
    have k1 := World.alloc_heap_new w (.cells #[.int .i64 m] 3)
    have k2 := World.alloc_heap_new (w.alloc (.cells #[.int .i64 m] 3)) (.cells #[.bool false] 4)
    have hs := h.size
    simp only [World.size_alloc] at k2 hs
    exact ⟨((e _ _).trans (e _ _)).trans h, by omega, h.block _ _ ((e _ _).block _ _ k1 (fun h => h)) (fun h => h), h.block _ _ k2 (fun h => h)⟩
  clear e
  have HLL := Lib.hid hlL
  clear hlL
  go_wp2_with fail
  refine (awake25_any _).mono ?_; rintro e w1 ⟨rfl, e1⟩
  obtain ⟨E1, hs1, bM, bR⟩ := HB.out w1 e1
  clear HB e1
  have cM := bM.cell
  have cR := bR.cell
  have fR := bR.frozen
  have bT := bR.set (.bool true)
  have cT := bT.cell
  have ET : Ext w (w1.setCell ⟨w.heap.size + 1, 0, none⟩ (.bool true)) := E1.setCell _ _ (fun o ho => by have := Keep.lt ho; replace this : w.heap.size + 1 < w.heap.size := this; omega)
  by_cases hS : 500 < s.size
  · go_wp2
    refine mark0_ret rfl (by simp [results, Try.results6, go_sem]; rw [cT]) (hR _ _ ⟨rfl, ET⟩)
  go_wp2_with fail
  refine (few25s_any _ _ _ _ l (hL.ext E1)).mono ?_; rintro e _ ⟨q, rfl, hq, rfl⟩
  cases q with
  | false =>
    go_wp2
    refine mark0_ret rfl (by simp [results, Try.results6, go_sem]; rw [cT]) (hR _ _ ⟨rfl, ET⟩)
  | true =>
  obtain ⟨hn24, hx100⟩ := hq rfl
  have HX := Lib.hid hx100
  clear hq hx100
  by_cases hm0 : m < 0
  · go_wp2
    refine mark0_ret rfl (by simp [results, Try.results6, go_sem]; rw [cT]) (hR _ _ ⟨rfl, ET⟩)
  obtain ⟨m, rfl⟩ := Int.eq_ofNat_of_zero_le (show 0 ≤ m by omega)
  clear bT cT ET
  have hrs := refSplit_any s w1 (by omega)
  have hN : (refL s).length ≤ 500 := by
    have := (outTo_le s s.size).2
    rw [outL_ref] at this; omega
  obtain ⟨N, hNN⟩ : ∃ N, (refL s).length = N := ⟨_, rfl⟩
  rw [hNN] at hrs hN
  have HN := Lib.hid hNN
  clear hNN
  go_wp2_with fail
  refine hrs.mono ?_
  rintro e w2 ⟨aW, cW, rfl, oW, e2⟩
  clear hrs
  have E2 := E1.trans e2
  have bM2 := e2.boxed bM
  have bR2 := e2.boxed bR
  obtain ⟨_, _, qW, rW⟩ := owns_row oW
  cases qW
  have hcW := rW.1
  have hmW := rW.2.1
  unfold maxLen at hmW
  have hs2 := e2.size
  have hbW : ∀ p : Addr, aW = some p → 0 < N → p.block < w2.heap.size := fun p hp hl => by
    obtain ⟨b, off, h1, h2⟩ := rW.2.2.2.2 hl
    rw [hp] at h1; cases h1
    have hL0 := HN.out
    exact World.block_lt_of_cell? w2 _ (h2 0 _ (List.getElem?_eq_getElem (by simp; omega)))
  clear oW bM bR cM cR fR e2
  go_wp2_with fail
  refine (lines_any s _).mono ?_; rintro e w3 ⟨rfl, hw3⟩
  obtain ⟨pW, hpW⟩ : ∃ p, w2.heap.size = p := ⟨_, rfl⟩
  have H3 : Ext w2 w3 ∧ w3.heap.size = pW + 3 ∧ Boxed w3 pW 22 (.slice aW N cW) ∧ Boxed w3 (pW + 1) 3 (.int .i64 0) ∧ Boxed w3 (pW + 1 + 1) 9 (.string s) := by
    subst hw3 hpW
    have e : ∀ (A : World) (o : Obj), Ext A (A.alloc o) := fun A o => (Keep.refl _ A).alloc o
    have k1 := World.alloc_heap_new w2 (.cells #[.slice aW N cW] 22)
    have k2 := World.alloc_heap_new (w2.alloc (.cells #[.slice aW N cW] 22)) (.cells #[.int .i64 0] 3)
    have k3 := World.alloc_heap_new ((w2.alloc (.cells #[.slice aW N cW] 22)).alloc (.cells #[.int .i64 0] 3)) (.cells #[.string s] 9)
    simp only [World.size_alloc] at k2 k3
    exact ⟨((e _ _).trans (e _ _)).trans (e _ _), by simp, (e _ _).block _ _ ((e _ _).block _ _ k1 (fun h => h)) (fun h => h), (e _ _).block _ _ k2 (fun h => h), k3⟩
  obtain ⟨e3, hs3, bW, bN, bS⟩ := H3
  have E3 := E2.trans e3
  have bM3 := e3.boxed bM2
  have bR3 := e3.boxed bR2
  have rW3 := rW.ext e3
  rw [hpW] at hs2 hbW
  have HW3 := Lib.hid hw3
  clear hw3 bM2 bR2 e3 rW E1
  go_wp2_with fail
  try simp only [hpW]
  clear hpW HW3
  have hE3s := E3.size
  refine range_wp rfl (enters_of Try.func30 (by kernel_rfl) rfl)
    (lines1_iter (pW + 1 + 1) s (by omega))
    (fun _ h => h.elim) (fun b h => by subst h; omega)
    (fun _ _ _ ⟨x, _, h⟩ => by rw [h]; rfl) (fun A hA => hA.boxed bS)
    (fun k A => Boxed A (pW + 1) 3 (.int .i64 (k : Int)) ∧ Boxed A w.heap.size 3 (.int .i64 (m : Int)) ∧ Boxed A (w.heap.size + 1) 4 (.bool false) ∧ Boxed A pW 22 (.slice aW N cW) ∧ Row 1 A aW N cW ((refL s).map Value.string) ∧ Ext w A ∧ w3.heap.size ≤ A.heap.size)
    (fun k cd A => (cd = .exit 0 ∧ k = m) ∧ Boxed A (pW + 1) 3 (.int .i64 (m : Int)) ∧ Boxed A w.heap.size 3 (.int .i64 (m : Int)) ∧ Boxed A (w.heap.size + 1) 4 (.bool false) ∧ Boxed A pW 22 (.slice aW N cW) ∧ Row 1 A aW N cW ((refL s).map Value.string) ∧ Ext w A ∧ w3.heap.size ≤ A.heap.size)
    (fun k A B ⟨h1, h2, h3, h4, h5, h6, h7⟩ hk => ⟨hk.boxed_turn h1 id, hk.boxed_turn h2 id, hk.boxed_turn h3 id, hk.boxed_turn h4 id, h5.keep hk (fun p o _ _ hc h => by rcases h with h | h; exact h; rw [hc] at h; cases h.2), h6.then_turn hk (by omega) (fun _ _ h _ => h), Nat.le_trans h7 hk.size⟩)
    (fun k cd A B ⟨h0, h1, h2, h3, h4, h5, h6, h7⟩ hk => ⟨h0, hk.boxed_turn h1 id, hk.boxed_turn h2 id, hk.boxed_turn h3 id, hk.boxed_turn h4 id, h5.keep hk (fun p o _ _ hc h => by rcases h with h | h; exact h; rw [hc] at h; cases h.2), h6.then_turn hk (by omega) (fun _ _ h _ => h), Nat.le_trans h7 hk.size⟩)
    (fun h => h.elim) ⟨bN, bM3, bR3, bW, rW3, E3, Nat.le_refl _⟩ ?round ?done ?stop
  case round =>
    rintro l' k A args KN KX hkN ⟨h1, h2, h3, h4, h5, h6, h7⟩ ⟨x, hx, rfl⟩ hKN hKX
    rw [HN.out] at hkN
    have HXX := Lib.hid hx
    clear hx bW bN bM3 bR3 rW3 E3 bS
    gi_wp2
    refine ⟨Keep.refl _ _, fun C hC => ?_⟩
    replace h1 := hC.boxed_turn h1 id
    replace h2 := hC.boxed_turn h2 id
    replace h3 := hC.boxed_turn h3 id
    replace h4 := hC.boxed_turn h4 id
    replace h5 := h5.keep hC (fun p o _ _ hc h => by rcases h with h | h; exact h; rw [hc] at h; cases h.2)
    replace h6 := h6.then_turn hC (by omega) (fun _ _ h _ => h)
    replace h7 := Nat.le_trans h7 hC.size
    have c1 := h1.cell
    have c2 := h2.cell
    have c4 := h4.cell
    by_cases hkm : k = m
    · subst hkm
      gi_wp2
      refine hKX _ _ _ (Keep.refl _ _) ⟨⟨by first | trivial | rfl, by first | trivial | rfl⟩, h1, h2, h3, h4, h5, h6, h7⟩
    · have hne : ((k : Int) == (m : Int)) = false := by simp; omega
      obtain ⟨bw, ow, rfl, hcw⟩ := h5.2.2.2.2 (by omega)
      have c5 := hcw k (.string x) (by rw [List.getElem?_map, HXX.out]; rfl)
      have f1 := h1.frozen
      have h1' := h1.set (.int .i64 ((k + 1 : Nat) : Int))
      have kC : Keep (fun b _ => b = pW + 1) C (C.setCell ⟨pW + 1, 0, none⟩ (.int .i64 ((k + 1 : Nat) : Int))) := keep_setCell C (pW + 1) 0 _
      have h2' := h2.other (show w.heap.size ≠ pW + 1 by omega) (.int .i64 ((k + 1 : Nat) : Int))
      have h3' := h3.other (show w.heap.size + 1 ≠ pW + 1 by omega) (.int .i64 ((k + 1 : Nat) : Int))
      have h4' := h4.other (show pW ≠ pW + 1 by omega) (.int .i64 ((k + 1 : Nat) : Int))
      have hbw : bw ≠ pW + 1 := by have : bw < pW := hbW _ rfl (by omega); omega
      have h5' := h5.keep kC (fun p o hp _ _ h => by cases hp; exact hbw h)
      have h6' := h6.setCell ⟨pW + 1, 0, none⟩ (.int .i64 ((k + 1 : Nat) : Int)) (fun o ho => by have := Keep.lt ho; replace this : pW + 1 < w.heap.size := this; omega)
      have hkk : Keep (Go.Proofs.Ythedpnnfkmbdpaa.round w3.heap.size fun b => b = pW + 1 + 1) C (C.setCell ⟨pW + 1, 0, none⟩ (.int .i64 ((k + 1 : Nat) : Int))) := (Keep.refl _ C).setCell _ _ (fun o ho => ⟨fun h => by replace h : pW + 1 = pW + 1 + 1 := h; omega, .inl (by show pW + 1 < _; omega)⟩)
      clear hcw h1 h2 h3 h4 h5 h6 kC hbw
      gi_wp2
      refine hKN _ _ hkk ⟨h1', h2', h3', h4', h5', h6', Nat.le_trans h7 hkk.size⟩
  case done =>
    rintro D A hD ⟨h1, h2, h3, h4, h5, h6, h7⟩ hd
    rw [HN.out] at h1
    clear bW bN bM3 bR3 rW3 E3 bS
    have c1 := h1.cell
    have c2 := h2.cell
    have c4 := h4.cell
    go_wp2
    refine FY.wp_flow (X := fun _ _ => True) (0 :: 1 :: 2 :: 3 :: 4 :: 5 :: 6 :: 7 :: 8 :: 9 :: 10 :: 11 :: 12 :: 13 :: 14 :: 15 :: 16 :: 17 :: 18 :: 19 :: 20 :: 21 :: 22 :: 23 :: 24 :: 25 :: 26 :: 27 :: 28 :: 29 :: [])
      (splitsTab (refL s) ⟨(catL l).toArray⟩ s) (by kernel_rfl) (by kernel_rfl) ?_
    have hDD : ∀ g : FY.At (fun _ _ => False) A.drew, Ext A g.w := fun g => ((Keep.refl _ A).drew).trans g.ext
    have d1 := fun g => (hDD g).cell c1
    have d2 := fun g => (hDD g).cell c2
    have d4 := fun g => (hDD g).cell c4
    clear c1 c2 c4
    repeat (first | (refine FY.flow_r rfl rfl rfl ?_; go_big_quiet_step (fail); refine wpQuiet_nil ?_) | (refine FY.flow_sq rfl rfl rfl ?_; simp only [Act.put, List.setIfInBounds_toArray, List.set_cons_succ, List.set_cons_zero]))
    refine FY.flow_g rfl rfl rfl (by simp) ⟨_, none, 0, rfl⟩ (fun _ _ _ h hE => h.mono hE) (fun _ _ h => h.sh) (fun w5 hE5 hf => ?_) (fun v hv => ?_)
    · have hD5 : Ext w w5 := h6.trans (((Keep.refl _ A).drew).trans hE5)
      have hsp := split_any s w5 (by omega)
      rw [HN.out] at hsp
      go_wp2_with fail
      refine hsp.mono ?_
      rintro e w6 ⟨a6, c6, rfl, hown6, hE6⟩
      have hT6 : Ts (refL s) (.slice a6 N c6) w6 := Ts.of_own hown6 HN.out
      clear hsp
      go_wp2
      try first | exact ⟨hE6, hT6⟩ | exact hT6
    obtain ⟨aS, cS, rfl⟩ := hv
    rw [HN.out]
    simp only [Act.put, List.setIfInBounds_toArray, List.set_cons_succ, List.set_cons_zero]
    repeat (first | (refine FY.flow_r rfl rfl rfl ?_; go_big_quiet_step (fail); refine wpQuiet_nil ?_) | (refine FY.flow_sq rfl rfl rfl ?_; simp only [Act.put, List.setIfInBounds_toArray, List.set_cons_succ, List.set_cons_zero]))
    refine FY.flow_g rfl rfl rfl (by simp) ⟨_, rfl⟩ (fun _ _ _ h hE => h) (fun _ _ h => h) (fun w5 hE5 hf => ?_) (fun v hv => ?_)
    · have hD5 : Ext w w5 := h6.trans (((Keep.refl _ A).drew).trans hE5)
      have hT5 : Ts (refL s) (.slice aS N cS) w5 := hf 11 (by kernel_rfl)
      obtain ⟨_, _, qT, rT⟩ := hT5
      rw [HN.out] at rT qT
      cases qT
      go_wp2_with fail
      refine (sameNames_same aS aW N cS cW (refL s) w5 rT ((h5.ext (((Keep.refl _ A).drew).trans hE5)))).mono ?_
      rintro e w6 ⟨rfl, hE6⟩
      go_wp2
      try first | exact ⟨hE6, rfl⟩ | exact rfl
    cases hv
    simp only [Act.put, List.setIfInBounds_toArray, List.set_cons_succ, List.set_cons_zero]
    repeat (first | (refine FY.flow_r rfl rfl rfl ?_; go_big_quiet_step (fail); refine wpQuiet_nil ?_) | (refine FY.flow_sq rfl rfl rfl ?_; simp only [Act.put, List.setIfInBounds_toArray, List.set_cons_succ, List.set_cons_zero]))
    refine FY.flow_g rfl rfl rfl (by simp) ⟨_, rfl⟩ (fun _ _ _ h hE => h) (fun _ _ h => h) (fun w5 hE5 hf => ?_) (fun v hv => ?_)
    · have hD5 : Ext w w5 := h6.trans (((Keep.refl _ A).drew).trans hE5)
      go_wp2_with fail
      refine (join_any aL nL cL l w5 (hL.ext hD5) (by have := catL_le l HX.out; have := HLL.out; omega)).mono ?_
      rintro e w6 ⟨rfl, hE6⟩
      go_wp2
      try first | exact ⟨hE6, rfl⟩ | exact rfl
    cases hv
    simp only [Act.put, List.setIfInBounds_toArray, List.set_cons_succ, List.set_cons_zero]
    repeat (first | (refine FY.flow_r rfl rfl rfl ?_; go_big_quiet_step (fail); refine wpQuiet_nil ?_) | (refine FY.flow_sq rfl rfl rfl ?_; simp only [Act.put, List.setIfInBounds_toArray, List.set_cons_succ, List.set_cons_zero]))
    refine FY.flow_g rfl rfl rfl (by simp) ⟨_, rfl⟩ (fun _ _ _ h hE => h) (fun _ _ h => h) (fun w5 hE5 hf => ?_) (fun v hv => ?_)
    · have hD5 : Ext w w5 := h6.trans (((Keep.refl _ A).drew).trans hE5)
      go_wp2_with fail
      refine (refJoin_any aL nL cL l w5 (hL.ext hD5) (by have := catL_le l HX.out; have := HLL.out; omega)).mono ?_
      rintro e w6 ⟨rfl, hE6⟩
      go_wp2
      try first | exact ⟨hE6, rfl⟩ | exact rfl
    cases hv
    simp only [Act.put, List.setIfInBounds_toArray, List.set_cons_succ, List.set_cons_zero]
    repeat (first | (refine FY.flow_r rfl rfl rfl ?_; go_big_quiet_step (fail); refine wpQuiet_nil ?_) | (refine FY.flow_sq rfl rfl rfl ?_; simp only [Act.put, List.setIfInBounds_toArray, List.set_cons_succ, List.set_cons_zero]))
    refine FY.flow_g rfl rfl rfl (by simp) ⟨_, none, 0, rfl⟩ (fun _ _ _ h hE => h.mono hE) (fun _ _ h => h.sh) (fun w5 hE5 hf => ?_) (fun v hv => ?_)
    · have hD5 : Ext w w5 := h6.trans (((Keep.refl _ A).drew).trans hE5)
      have hsp := split_any s w5 (by omega)
      rw [HN.out] at hsp
      go_wp2_with fail
      refine hsp.mono ?_
      rintro e w6 ⟨a6, c6, rfl, hown6, hE6⟩
      have hT6 : Ts (refL s) (.slice a6 N c6) w6 := Ts.of_own hown6 HN.out
      clear hsp
      go_wp2
      try first | exact ⟨hE6, hT6⟩ | exact hT6
    obtain ⟨aS, cS, rfl⟩ := hv
    rw [HN.out]
    simp only [Act.put, List.setIfInBounds_toArray, List.set_cons_succ, List.set_cons_zero]
    repeat (first | (refine FY.flow_r rfl rfl rfl ?_; go_big_quiet_step (fail); refine wpQuiet_nil ?_) | (refine FY.flow_sq rfl rfl rfl ?_; simp only [Act.put, List.setIfInBounds_toArray, List.set_cons_succ, List.set_cons_zero]))
    refine FY.flow_g rfl rfl rfl (by simp) ⟨_, rfl⟩ (fun _ _ _ h hE => h) (fun _ _ h => h) (fun w5 hE5 hf => ?_) (fun v hv => ?_)
    · have hD5 : Ext w w5 := h6.trans (((Keep.refl _ A).drew).trans hE5)
      have hT5 : Ts (refL s) (.slice aS N cS) w5 := hf 24 (by kernel_rfl)
      obtain ⟨_, _, qT, rT⟩ := hT5
      rw [HN.out] at rT qT
      cases qT
      have hj := join_any aS N cS (refL s) w5 rT (by rw [cat_refL]; show s.size ≤ 100000; omega)
      rw [str_of_cat] at hj
      go_wp2_with fail
      refine (hj).mono ?_
      rintro e w6 ⟨rfl, hE6⟩
      go_wp2
      try first | exact ⟨hE6, rfl⟩ | exact rfl
    cases hv
    simp only [Act.put, List.setIfInBounds_toArray, List.set_cons_succ, List.set_cons_zero]
    repeat (first | (refine FY.flow_r rfl rfl rfl ?_; go_big_quiet_step (fail); refine wpQuiet_nil ?_) | (refine FY.flow_sq rfl rfl rfl ?_; simp only [Act.put, List.setIfInBounds_toArray, List.set_cons_succ, List.set_cons_zero]))
    refine FY.flow_b rfl rfl rfl (by kernel_rfl) (fun w7 hE7 _ => ?_)
    have hA7 : Ext A w7 := ((Keep.refl _ A).drew).trans hE7
    have g3 := hA7.boxed h3
    have g6 := h6.trans hA7
    have k3 := g3.cell
    have f3 := g3.frozen
    have g3' := g3.set (.bool true)
    have g6' := g6.setCell ⟨w.heap.size + 1, 0, none⟩ (.bool true) (fun o ho => by have := Keep.lt ho; replace this : w.heap.size + 1 < w.heap.size := this; omega)
    have hd7 := hA7.block _ _ hd (fun h => h)
    have hd8 : (w7.setCell ⟨w.heap.size + 1, 0, none⟩ (.bool true)).heap[D]? = some (.deferred (some [])) := (Below.heap_setCell w7 _ _ D (by show D ≠ w.heap.size + 1; omega)).trans hd7
    have m9 := (Keep.refl (fun _ _ => True) w7).setCell ⟨w.heap.size + 1, 0, none⟩ (.bool true) (fun _ _ => trivial)
    clear hDD d1 d2 d4 hE7 hA7 g3 g6 hd7
    go_wp2
    refine FY.flow_end (fun w9 hE9 _ => ?_)
    replace hE9 : Ext _ w9 := hE9
    have hd9 := hE9.block _ _ hd8 (fun h => h)
    have hT2 : Boxed (w9.putObj D (.deferred none)) (w.heap.size + 1) 4 (.bool true) := (World.putObj_heap_other (by omega)).trans (hE9.boxed g3')
    have cT2 := hT2.cell
    have g9 := g6'.trans hE9
    clear m9 k3 f3 g3' g6' hd8 hE9
    go_wp2
    refine mark_ret hd9 rfl (by simp [results, Try.results6, go_sem]; rw [cT2]) (hR _ _ ⟨rfl, g9.putObj _ _ (fun o ho => by have := Keep.lt ho; have := E2.size; omega)⟩)
  case stop =>
    rintro D cd k A hD hkN ⟨⟨rfl, rfl⟩, h1, h2, h3, h4, h5, h6, h7⟩ hd
    clear bW bN bM3 bR3 rW3 E3 bS
    rw [HN.out] at hkN
    have c1 := h1.cell
    have c2 := h2.cell
    have c4 := h4.cell
    have hne : ((k : Int) == (N : Int)) = false := by simp; omega
    go_wp2
    refine FY.wp_flow (X := fun _ _ => True) (0 :: 1 :: 2 :: 3 :: 4 :: 5 :: 6 :: 7 :: 8 :: 9 :: 10 :: 11 :: 12 :: 13 :: 14 :: 15 :: 16 :: 17 :: 18 :: 19 :: 20 :: 21 :: 22 :: 23 :: 24 :: 25 :: 26 :: 27 :: 28 :: 29 :: [])
      (splitsTab (refL s) ⟨(catL l).toArray⟩ s) (by kernel_rfl) (by kernel_rfl) ?_
    have hDD : ∀ g : FY.At (fun _ _ => False) A.drew, Ext A g.w := fun g => ((Keep.refl _ A).drew).trans g.ext
    have d1 := fun g => (hDD g).cell c1
    have d2 := fun g => (hDD g).cell c2
    have d4 := fun g => (hDD g).cell c4
    clear c1 c2 c4
    repeat (first | (refine FY.flow_r rfl rfl rfl ?_; go_big_quiet_step (fail); refine wpQuiet_nil ?_) | (refine FY.flow_sq rfl rfl rfl ?_; simp only [Act.put, List.setIfInBounds_toArray, List.set_cons_succ, List.set_cons_zero]))
    refine FY.flow_g rfl rfl rfl (by simp) ⟨_, none, 0, rfl⟩ (fun _ _ _ h hE => h.mono hE) (fun _ _ h => h.sh) (fun w5 hE5 hf => ?_) (fun v hv => ?_)
    · have hD5 : Ext w w5 := h6.trans (((Keep.refl _ A).drew).trans hE5)
      have hsp := split_any s w5 (by omega)
      rw [HN.out] at hsp
      go_wp2_with fail
      refine hsp.mono ?_
      rintro e w6 ⟨a6, c6, rfl, hown6, hE6⟩
      have hT6 : Ts (refL s) (.slice a6 N c6) w6 := Ts.of_own hown6 HN.out
      clear hsp
      go_wp2
      try first | exact ⟨hE6, hT6⟩ | exact hT6
    obtain ⟨aS, cS, rfl⟩ := hv
    rw [HN.out]
    simp only [Act.put, List.setIfInBounds_toArray, List.set_cons_succ, List.set_cons_zero]
    repeat (first | (refine FY.flow_r rfl rfl rfl ?_; go_big_quiet_step (fail); refine wpQuiet_nil ?_) | (refine FY.flow_sq rfl rfl rfl ?_; simp only [Act.put, List.setIfInBounds_toArray, List.set_cons_succ, List.set_cons_zero]))
    refine FY.flow_g rfl rfl rfl (by simp) ⟨_, rfl⟩ (fun _ _ _ h hE => h) (fun _ _ h => h) (fun w5 hE5 hf => ?_) (fun v hv => ?_)
    · have hD5 : Ext w w5 := h6.trans (((Keep.refl _ A).drew).trans hE5)
      have hT5 : Ts (refL s) (.slice aS N cS) w5 := hf 11 (by kernel_rfl)
      obtain ⟨_, _, qT, rT⟩ := hT5
      rw [HN.out] at rT qT
      cases qT
      go_wp2_with fail
      refine (sameNames_same aS aW N cS cW (refL s) w5 rT ((h5.ext (((Keep.refl _ A).drew).trans hE5)))).mono ?_
      rintro e w6 ⟨rfl, hE6⟩
      go_wp2
      try first | exact ⟨hE6, rfl⟩ | exact rfl
    cases hv
    simp only [Act.put, List.setIfInBounds_toArray, List.set_cons_succ, List.set_cons_zero]
    repeat (first | (refine FY.flow_r rfl rfl rfl ?_; go_big_quiet_step (fail); refine wpQuiet_nil ?_) | (refine FY.flow_sq rfl rfl rfl ?_; simp only [Act.put, List.setIfInBounds_toArray, List.set_cons_succ, List.set_cons_zero]))
    refine FY.flow_g rfl rfl rfl (by simp) ⟨_, rfl⟩ (fun _ _ _ h hE => h) (fun _ _ h => h) (fun w5 hE5 hf => ?_) (fun v hv => ?_)
    · have hD5 : Ext w w5 := h6.trans (((Keep.refl _ A).drew).trans hE5)
      go_wp2_with fail
      refine (join_any aL nL cL l w5 (hL.ext hD5) (by have := catL_le l HX.out; have := HLL.out; omega)).mono ?_
      rintro e w6 ⟨rfl, hE6⟩
      go_wp2
      try first | exact ⟨hE6, rfl⟩ | exact rfl
    cases hv
    simp only [Act.put, List.setIfInBounds_toArray, List.set_cons_succ, List.set_cons_zero]
    repeat (first | (refine FY.flow_r rfl rfl rfl ?_; go_big_quiet_step (fail); refine wpQuiet_nil ?_) | (refine FY.flow_sq rfl rfl rfl ?_; simp only [Act.put, List.setIfInBounds_toArray, List.set_cons_succ, List.set_cons_zero]))
    refine FY.flow_g rfl rfl rfl (by simp) ⟨_, rfl⟩ (fun _ _ _ h hE => h) (fun _ _ h => h) (fun w5 hE5 hf => ?_) (fun v hv => ?_)
    · have hD5 : Ext w w5 := h6.trans (((Keep.refl _ A).drew).trans hE5)
      go_wp2_with fail
      refine (refJoin_any aL nL cL l w5 (hL.ext hD5) (by have := catL_le l HX.out; have := HLL.out; omega)).mono ?_
      rintro e w6 ⟨rfl, hE6⟩
      go_wp2
      try first | exact ⟨hE6, rfl⟩ | exact rfl
    cases hv
    simp only [Act.put, List.setIfInBounds_toArray, List.set_cons_succ, List.set_cons_zero]
    repeat (first | (refine FY.flow_r rfl rfl rfl ?_; go_big_quiet_step (fail); refine wpQuiet_nil ?_) | (refine FY.flow_sq rfl rfl rfl ?_; simp only [Act.put, List.setIfInBounds_toArray, List.set_cons_succ, List.set_cons_zero]))
    refine FY.flow_g rfl rfl rfl (by simp) ⟨_, none, 0, rfl⟩ (fun _ _ _ h hE => h.mono hE) (fun _ _ h => h.sh) (fun w5 hE5 hf => ?_) (fun v hv => ?_)
    · have hD5 : Ext w w5 := h6.trans (((Keep.refl _ A).drew).trans hE5)
      have hsp := split_any s w5 (by omega)
      rw [HN.out] at hsp
      go_wp2_with fail
      refine hsp.mono ?_
      rintro e w6 ⟨a6, c6, rfl, hown6, hE6⟩
      have hT6 : Ts (refL s) (.slice a6 N c6) w6 := Ts.of_own hown6 HN.out
      clear hsp
      go_wp2
      try first | exact ⟨hE6, hT6⟩ | exact hT6
    obtain ⟨aS, cS, rfl⟩ := hv
    rw [HN.out]
    simp only [Act.put, List.setIfInBounds_toArray, List.set_cons_succ, List.set_cons_zero]
    repeat (first | (refine FY.flow_r rfl rfl rfl ?_; go_big_quiet_step (fail); refine wpQuiet_nil ?_) | (refine FY.flow_sq rfl rfl rfl ?_; simp only [Act.put, List.setIfInBounds_toArray, List.set_cons_succ, List.set_cons_zero]))
    refine FY.flow_g rfl rfl rfl (by simp) ⟨_, rfl⟩ (fun _ _ _ h hE => h) (fun _ _ h => h) (fun w5 hE5 hf => ?_) (fun v hv => ?_)
    · have hD5 : Ext w w5 := h6.trans (((Keep.refl _ A).drew).trans hE5)
      have hT5 : Ts (refL s) (.slice aS N cS) w5 := hf 24 (by kernel_rfl)
      obtain ⟨_, _, qT, rT⟩ := hT5
      rw [HN.out] at rT qT
      cases qT
      have hj := join_any aS N cS (refL s) w5 rT (by rw [cat_refL]; show s.size ≤ 100000; omega)
      rw [str_of_cat] at hj
      go_wp2_with fail
      refine (hj).mono ?_
      rintro e w6 ⟨rfl, hE6⟩
      go_wp2
      try first | exact ⟨hE6, rfl⟩ | exact rfl
    cases hv
    simp only [Act.put, List.setIfInBounds_toArray, List.set_cons_succ, List.set_cons_zero]
    repeat (first | (refine FY.flow_r rfl rfl rfl ?_; go_big_quiet_step (fail); refine wpQuiet_nil ?_) | (refine FY.flow_sq rfl rfl rfl ?_; simp only [Act.put, List.setIfInBounds_toArray, List.set_cons_succ, List.set_cons_zero]))
    refine FY.flow_b rfl rfl rfl (by kernel_rfl) (fun w7 hE7 _ => ?_)
    have hA7 : Ext A w7 := ((Keep.refl _ A).drew).trans hE7
    have g3 := hA7.boxed h3
    have g6 := h6.trans hA7
    have k3 := g3.cell
    have f3 := g3.frozen
    have g3' := g3.set (.bool true)
    have g6' := g6.setCell ⟨w.heap.size + 1, 0, none⟩ (.bool true) (fun o ho => by have := Keep.lt ho; replace this : w.heap.size + 1 < w.heap.size := this; omega)
    have hd7 := hA7.block _ _ hd (fun h => h)
    have hd8 : (w7.setCell ⟨w.heap.size + 1, 0, none⟩ (.bool true)).heap[D]? = some (.deferred (some [])) := (Below.heap_setCell w7 _ _ D (by show D ≠ w.heap.size + 1; omega)).trans hd7
    have m9 := (Keep.refl (fun _ _ => True) w7).setCell ⟨w.heap.size + 1, 0, none⟩ (.bool true) (fun _ _ => trivial)
    clear hDD d1 d2 d4 hE7 hA7 g3 g6 hd7
    go_wp2
    refine FY.flow_end (fun w9 hE9 _ => ?_)
    replace hE9 : Ext _ w9 := hE9
    have hd9 := hE9.block _ _ hd8 (fun h => h)
    have hT2 : Boxed (w9.putObj D (.deferred none)) (w.heap.size + 1) 4 (.bool true) := (World.putObj_heap_other (by omega)).trans (hE9.boxed g3')
    have cT2 := hT2.cell
    have g9 := g6'.trans hE9
    clear m9 k3 f3 g3' g6' hd8 hE9
    go_wp2
    refine mark_ret hd9 rfl (by simp [results, Try.results6, go_sem]; rw [cT2]) (hR _ _ ⟨rfl, g9.putObj _ _ (fun o ho => by have := Keep.lt ho; have := E2.size; omega)⟩)

end Go.Proofs.Ythedpnnfkmbdpaa
