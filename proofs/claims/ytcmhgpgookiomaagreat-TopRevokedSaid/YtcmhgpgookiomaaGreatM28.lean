/-
  TopRevoked: suite.New without a tape. bundle.Put of an empty bundle; awake. what holds behind each change (plain), both rings in one memory. the law's body.
-/
import Derived.Test.YtcmhgpgookiomaaGreatM27
namespace Go.Proofs.YtcmhgpgookiomaaGreat
open Go.RowKit Go.Shelf Go.Maps

attribute [local go_sem] Oper.semAt_some

set_option maxRecDepth 20000 in
set_option maxHeartbeats 2000000 in
theorem suiteNew0_any (w : World) : Calls Tryz.prog 5 #[.int .i64 0, .pointer none] w fun e w' => ∃ Q : Nat, e = .returned (.pointer (some ⟨Q, 0, none⟩)) ∧ Ext w w' := by
  have hmm := @run_makeMap Tryz.prog
  refine calls_cps fun R0 hR0 => ?_
  have HR := Lib.hid hR0
  clear hR0
  go_enter Tryz.func5, Tryz.ntmps5
  go_wp2
  exact HR.out _ _ ⟨_, rfl, (((((Keep.refl _ w).alloc _).alloc _).alloc _).alloc _).alloc _⟩
end Go.Proofs.YtcmhgpgookiomaaGreat
namespace Go.Proofs.YtcmhgpgookiomaaGreat
open Go.RowKit Go.Shelf Go.Maps

attribute [local go_sem] Oper.semAt_some

set_option maxRecDepth 20000 in
theorem named0_any (w : World) : Calls Tryz.prog 50 #[.slice none 0 0] w fun e w' => e = .returned (.bool true) ∧ w' = w := by
  refine calls_cps fun R hR => ?_
  have HR := Lib.hid hR
  clear hR
  go_enter Tryz.func50, Tryz.ntmps50
  go_wp2
  go_loopw [10] (fun ix wr => ix = .int .i64 0 ∧ wr = w) (fun _ _ => 0)
  case atStart => exact ⟨rfl, rfl⟩
  case round =>
    obtain ⟨rfl, rfl⟩ := hrel
    have hfin := HR.out (.returned (.bool true)) wr ⟨rfl, rfl⟩
    clear HR
    go_wp2
    exact hfin
set_option maxRecDepth 20000 in
theorem index0_any (w : World) (f : Value) : Calls Tryz.prog 69 #[.slice none 0 0, f] w fun e w' => e = .returned (.int .i64 (-1)) ∧ w' = w := by
  refine calls_cps fun R hR => ?_
  have HR := Lib.hid hR
  clear hR
  go_enter Tryz.func69, Tryz.ntmps69
  go_wp2
  go_loopw [8] (fun ix wr => ix = .int .i64 0 ∧ wr = w) (fun _ _ => 0)
  case atStart => exact ⟨rfl, rfl⟩
  case round =>
    obtain ⟨rfl, rfl⟩ := hrel
    have hfin := HR.out (.returned (.int .i64 (-1))) wr ⟨rfl, rfl⟩
    clear HR
    go_wp2
    exact hfin
set_option maxRecDepth 20000 in
theorem contains0_any (w : World) (f : Value) : Calls Tryz.prog 51 #[.slice none 0 0, f] w fun e w' => e = .returned (.bool false) ∧ w' = w := by
  refine calls_cps fun R hR => ?_
  have hfin := hR (.returned (.bool false)) w ⟨rfl, rfl⟩
  clear hR
  go_enter Tryz.func51, Tryz.ntmps51
  go_wp2_with fail
  refine (index0_any w f).mono ?_
  rintro e w' ⟨rfl, rfl⟩
  go_wp2
  exact hfin
set_option maxRecDepth 20000 in
set_option maxHeartbeats 1000000 in
theorem may0_any (w : World) : Calls Tryz.prog 25 #[.agg #[.slice none 0 0, .slice none 0 0]] w fun e w' => e = .returned (.bool true) ∧ Ext w w' := by
  refine calls_cps fun R hR => ?_
  have HR := Lib.hid hR
  clear hR
  go_enter Tryz.func25, Tryz.ntmps25
  go_upto_region 1 with fail
  refine wp_laid1 fun W eW hG => ?_
  have c0 := (show Arr W w.heap.size 60 [.slice none 0 0, .slice none 0 0] from hG).cell (i := 0) rfl
  have c1 := (show Arr W w.heap.size 60 [.slice none 0 0, .slice none 0 0] from hG).cell (i := 1) rfl
  have hfin := HR.out (.returned (.bool true)) W ⟨rfl, eW⟩
  clear HR hG eW
  go_wp2_with fail
  refine (named0_any W).mono ?_
  rintro e w' ⟨rfl, rfl⟩
  go_wp2_with fail
  refine (contains0_any w' _).mono ?_
  rintro e w'' ⟨rfl, rfl⟩
  go_wp2
  exact hfin
set_option maxRecDepth 20000 in
theorem text0_any (w : World) (p : Value) : Calls Tryz.prog 27 #[p, .slice none 0 0] w fun e w' => e = .returned (.tuple #[]) ∧ w' = w := by
  refine calls_cps fun R hR => ?_
  have HR := Lib.hid hR
  clear hR
  go_enter Tryz.func27, Tryz.ntmps27
  go_wp2
  go_loopw [8] (fun ix wr => ix = .int .i64 0 ∧ wr = w) (fun _ _ => 0)
  case atStart => exact ⟨rfl, rfl⟩
  case round =>
    obtain ⟨rfl, rfl⟩ := hrel
    have hfin := HR.out (.returned (.tuple #[])) wr ⟨rfl, rfl⟩
    clear HR
    go_wp2
    exact bodyPost_end (results_none rfl _ _ _) rfl hfin

/-- A writer's block, its bytes in a row of its own. -/
structure WrAt (w : World) (b p : Nat) (n : Nat) (xs : List Value) (v : Value) : Prop where
  box : Arr w p 93 [v]
  low : b ≤ p
  own : w.ownsRow b 5 1 v n xs
theorem info_byte : (Tryz.prog.info? 5).map (fun i => (i.zero, i.size, i.bytes)) = some (some (.int .u8 0), 1, 1) := by kernel_rfl

set_option maxRecDepth 20000 in
set_option maxHeartbeats 2000000 in
theorem writerN0_any {w : World} {b p n : Nat} {xs : List Value} {v : Value} {g : Nat} (h : WrAt w b p n xs v) (hbw : b ≤ w.heap.size) (hn : n ≤ 1000) (hg : Arr w g 95 [.int .u64 0]) :
    Calls Tryz.prog 26 #[.pointer (some ⟨p, 0, none⟩), .slice (some ⟨g, 0, none⟩) 1 1] w fun e w' => e = .returned (.tuple #[]) ∧ (∃ v', WrAt w' b p (n + 1) (xs ++ [.int .u8 0]) v') ∧ Keep (fun k _ => b ≤ k) w w' := by
  have c0 := h.box.cell (i := 0) rfl
  have f0 := h.box.frozen 0
  have cg := hg.cell (i := 0) rfl
  obtain ⟨a, c, rfl, _⟩ := owns_row h.own
  have hsrc := (lit_row (base := 0) w 5 #[.int .u8 0] 1 (by simp [maxLen]) rfl (Nat.zero_le _)).2
  obtain ⟨v', w', hrun, hown, hgrow, _⟩ := run_append_row (P := Tryz.prog) (w.alloc (.cells #[.int .u8 0] 5)) b 26 26 5 (.int .u8 0) 1 1 Tryz.underlying26 info_byte rfl (by decide) (h.own.alloc _) hsrc (by simp [Value.oneCell']) (by unfold maxLen; omega) (by omega) (by simp; omega)
  obtain ⟨a', c', rfl, _⟩ := owns_row hown
  have eA : Ext w (w.alloc (.cells #[.int .u8 0] 5)) := (Keep.refl _ w).alloc _
  have kA : Keep (fun k o => b ≤ k ∧ ∃ cur, o = .cells cur 5 (0, 0)) (w.alloc (.cells #[.int .u8 0] 5)) w' := Keep.of_grownBy hgrow (fun k o hk ho => by
    rcases (h.own.alloc (.cells #[.int .u8 0] 5)).2 with ⟨q, _⟩ | ⟨g', cap, cur, q, hb, hgb, _⟩
    · rw [q] at hk; simp [Value.ownBlock] at hk
    · rw [q] at hk
      obtain rfl : g' = k := by simpa [Value.ownBlock] using hk
      rw [hgb] at ho; cases ho; exact ⟨hb, _, rfl⟩)
  have hbox' := (h.box.ext eA).keep kA (fun hx => by obtain ⟨_, _, hx⟩ := hx; cases hx)
  have c1 := hbox'.cell (i := 0) rfl
  have f1 := hbox'.frozen 0
  have hset := hbox'.set 0 (.slice a' (n + 1) c')
  have kS : Keep (fun k o => k = p ∧ ∃ cur, o = .cells cur 93 (0, 0)) w' (w'.setCell ⟨p, 0, none⟩ (.slice a' (n + 1) c')) := (keep_setCell w' p 0 (.slice a' (n + 1) c')).mono (fun k o ho hx => ⟨hx, by
    replace hx : k = p := hx
    subst hx
    rw [show w'.heap[k]? = _ from hbox'] at ho; cases ho; exact ⟨_, rfl⟩⟩)
  have hfinW : WrAt (w'.setCell ⟨p, 0, none⟩ (.slice a' (n + 1) c')) b p (n + 1) (xs ++ [.int .u8 0]) (.slice a' (n + 1) c') := ⟨hset, h.low, kS.owns' hown (fun _ _ _ hx => by obtain ⟨_, _, hx⟩ := hx; cases hx)⟩
  have hk : Keep (fun k _ => b ≤ k) w (w'.setCell ⟨p, 0, none⟩ (.slice a' (n + 1) c')) := ((Keep.of_ext eA).trans (kA.mono (fun _ _ _ hx => hx.1))).trans (kS.mono (fun k _ _ hx => by have := h.low; have := hx.1; omega))
  have HW := Lib.hid hfinW
  have HK := Lib.hid hk
  have HRUN := Lib.hid hrun
  clear hfinW hk hrun hset kS hbox' kA eA hgrow hown hsrc h hg
  refine calls_cps fun R hR => ?_
  have HR := Lib.hid hR
  clear hR
  go_enter Tryz.func26, Tryz.ntmps26
  go_wp2
  go_loopw [10] (fun ix wr => (ix = .int .i64 0 ∧ wr = w) ∨ (ix = .int .i64 1 ∧ wr = w'.setCell ⟨p, 0, none⟩ (.slice a' (n + 1) c'))) (fun ix _ => 1 - (vI ix).toNat)
  case atStart => exact .inl ⟨rfl, rfl⟩
  case round =>
    rcases hrel with ⟨rfl, rfl⟩ | ⟨rfl, rfl⟩
    · go_wp2
      go_loopw [5] (fun x wq => x = .int .u64 0 ∧ wq = wr) (fun _ _ => 0)
      case atStart => exact ⟨rfl, rfl⟩
      case round =>
        obtain ⟨rfl, rfl⟩ := hrel
        go_wp2_with (at_builtin; go_must (refine wpList_append_run HRUN.out rfl rfl rfl rfl ?_))
        go_roundw
        case rel => exact .inr ⟨by go_num, by first | trivial | rfl⟩
        case measure => simp [vI]
    · have hfin := HR.out (.returned (.tuple #[])) _ ⟨rfl, ⟨_, HW.out⟩, HK.out⟩
      clear HR
      go_wp2
      exact bodyPost_end (results_none rfl _ _ _) rfl hfin

set_option maxRecDepth 20000 in
set_option maxHeartbeats 1000000 in
theorem bytes2_any {w : World} {b p : Nat} {v : Value} (h : WrAt w b p 2 [.int .u8 0, .int .u8 0] v) :
    Calls Tryz.prog 29 #[.pointer (some ⟨p, 0, none⟩)] w fun e w' => (∃ a c, e = .returned (.slice a 2 c)) ∧ Ext w w' := by
  have c0 := h.box.cell (i := 0) rfl
  obtain ⟨a, c, rfl, hr⟩ := owns_row h.own
  obtain ⟨a', c', w', hrun, _, e1⟩ := app_nil (P := Tryz.prog) (B := 0) Tryz.underlying26 info_byte rfl (by omega) (by omega) hr (fun u hu => by simp only [List.mem_cons, List.not_mem_nil, or_false] at hu; rcases hu with rfl | rfl <;> rfl) (by omega) (Nat.zero_le _)
  refine calls_cps fun R hR => ?_
  have hfin := hR (.returned (.slice a' 2 c')) w' ⟨⟨_, _, rfl⟩, e1⟩
  have HRUN := Lib.hid hrun
  clear hR hrun h hr e1
  go_enter Tryz.func29, Tryz.ntmps29
  go_wp2_with (at_builtin; go_must (refine wpList_append_run HRUN.out rfl rfl rfl rfl ?_))
  exact hfin

set_option maxRecDepth 20000 in
set_option maxHeartbeats 4000000 in
theorem put0_any (w : World) : Calls Tryz.prog 14 #[.agg #[.slice none 0 0, .slice none 0 0]] w fun e w' => (∃ a c, e = .returned (.tuple #[.slice a 2 c, .int .i64 0])) ∧ Ext w w' := by
  refine calls_cps fun R hR => ?_
  have HR := Lib.hid hR
  clear hR
  go_enter Tryz.func14, Tryz.ntmps14
  go_upto_region 1 with fail
  refine wp_laid1 fun W eW hG => ?_
  have aB : Arr W w.heap.size 60 [.slice none 0 0, .slice none 0 0] := hG
  have c0 := aB.cell (i := 0) rfl
  have c1 := aB.cell (i := 1) rfl
  have HEW := Lib.hid eW
  clear hG eW
  go_wp2_with fail
  refine (may0_any W).mono ?_
  rintro e w1 ⟨rfl, e1⟩
  have HE1 := Lib.hid (HEW.out.trans e1)
  have hw1 : w.heap.size < w1.heap.size := by have := aB.lt; have := e1.size; omega
  have aB1 := aB.ext e1
  clear c0 c1 e1 aB
  go_upto_region 4 with fail
  refine wp_laid1 fun W2 eW2 hG2 => ?_
  have aP : WrAt W2 w1.heap.size w1.heap.size 0 [] (.slice none 0 0) := ⟨hG2, Nat.le_refl _, World.ownsRow_nil _ _ _ _⟩
  have aB2 := aB1.ext eW2
  have c0 := aB2.cell (i := 0) rfl
  have HE2 := Lib.hid (HE1.out.trans eW2)
  obtain ⟨p, hp⟩ : ∃ p, w1.heap.size = p := ⟨_, rfl⟩
  rw [hp] at aP hw1 ⊢
  have hpW : p < W2.heap.size := by have := Keep.lt hG2; omega
  have hb0 : w.heap.size ≠ p := by omega
  clear hG2 hp eW2 aB1
  go_wp2_with fail
  obtain ⟨W3, hW3⟩ : ∃ W3, W2.alloc (.cells #[.int .u64 0] 95) = W3 := ⟨_, rfl⟩
  have e23 : Ext W2 W3 := by rw [← hW3]; exact (Keep.refl _ W2).alloc _
  have aG : Arr W3 W2.heap.size 95 [.int .u64 0] := by rw [← hW3]; exact Arr.new W2 _ _
  have aP3 : WrAt W3 p p 0 [] (.slice none 0 0) := ⟨aP.box.ext e23, Nat.le_refl _, World.ownsRow_nil _ _ _ _⟩
  rw [hW3]
  have hN := writerN0_any aP3 (by have := e23.size; omega) (by omega) aG
  clear c0 hW3 aG aP aP3
  refine hN.mono ?_
  rintro e4 w4 ⟨rfl, ⟨v4, h4⟩, k4⟩
  have aB4 : Arr w4 w.heap.size 60 [.slice none 0 0, .slice none 0 0] := (aB2.ext e23).keep k4 (by omega)
  have HE4 : Hid (Ext w w4) := Lib.hid (((Keep.of_ext (HE2.out.trans e23)).trans k4).mono (fun k o ho hx => by have := Keep.lt ho; replace hx : p ≤ k := hx; omega))
  have hp4 : p < w4.heap.size := h4.box.lt
  have c0 := aB4.cell (i := 0) rfl
  clear hN k4 e23 aB2
  go_wp2
  go_loopw [22] (fun ix wr => ix = .int .i64 0 ∧ wr = w4) (fun _ _ => 0)
  case atStart => exact ⟨rfl, rfl⟩
  case round =>
    obtain ⟨rfl, rfl⟩ := hrel
    have c1 := aB4.cell (i := 1) rfl
    clear c0
    go_wp2_with fail
    obtain ⟨W5, hW5⟩ : ∃ W5, wr.alloc (.cells #[.int .u64 0] 95) = W5 := ⟨_, rfl⟩
    have e45 : Ext wr W5 := by rw [← hW5]; exact (Keep.refl _ wr).alloc _
    have aG : Arr W5 wr.heap.size 95 [.int .u64 0] := by rw [← hW5]; exact Arr.new wr _ _
    have h5 : WrAt W5 p p 1 [.int .u8 0] v4 := ⟨h4.box.ext e45, h4.low, Ext.owns e45 h4.own⟩
    rw [hW5]
    have hN := writerN0_any h5 (by have := e45.size; omega) (by omega) aG
    clear c1 hW5 aG h5
    refine hN.mono ?_
    rintro e6 w6 ⟨rfl, ⟨v6, h6⟩, k6⟩
    have aB6 : Arr w6 w.heap.size 60 [.slice none 0 0, .slice none 0 0] := (aB4.ext e45).keep k6 (by omega)
    have HE6 : Hid (Ext w w6) := Lib.hid (((Keep.of_ext (HE4.out.trans e45)).trans k6).mono (fun k o ho hx => by have := Keep.lt ho; replace hx : p ≤ k := hx; omega))
    have c1 := aB6.cell (i := 1) rfl
    clear hN k6 e45 aB4
    go_wp2_with fail
    refine (text0_any w6 _).mono ?_
    rintro e7 w7 ⟨rfl, rfl⟩
    go_wp2_with fail
    refine (bytes2_any h6).mono ?_
    rintro e8 w8 ⟨⟨a, c, rfl⟩, e8⟩
    have hfin := HR.out (.returned (.tuple #[.slice a 2 c, .int .i64 0])) w8 ⟨⟨a, c, rfl⟩, HE6.out.trans e8⟩
    clear HR e8 h6 h4 aB6 c1
    go_wp2
    exact hfin

set_option maxRecDepth 20000 in
set_option maxHeartbeats 4000000 in
theorem awake_any (w : World) : Calls Tryz.prog 4 #[] w fun e w' => e = .returned (.bool true) ∧ Ext w w' := by
  refine calls_cps fun R0 hR => ?_
  have HR := Lib.hid hR
  clear hR
  obtain ⟨Z, hZ⟩ : ∃ Z, key0.map u8v = Z := ⟨_, rfl⟩
  have hZl : Z.length = 32 := by rw [← hZ, List.length_map, key0_len]
  have hiZ := Lib.hid (show (Tryz.prog.info? 51).map (·.size) = some Z.toArray.size by rw [info_key, List.size_toArray, hZl])
  have hZs := Lib.hid (show 32 = Z.toArray.size by rw [List.size_toArray, hZl])
  have h1Z := Lib.hid (show Z.toArray.all (·.oneCell') = true by rw [← hZ]; exact all_one _)
  have HOP := Lib.hid (fun (B : World) (R b1 : Nat) (c1 : B.cell? ⟨R, 1, none⟩ = some (.map (some b1))) (hm : NMap B b1 aggK ([] : List (Nat × By))) => show Calls Tryz.prog 13 #[.pointer (some ⟨R, 0, none⟩), .int .u32 1, .int .u32 1, .int .u32 0] B fun e w' => Ext B w' ∧ e = .returned (.tuple #[.agg Z.toArray, .int .i64 210]) by
    have := open210_any c1 hm 1 1 0 (by omega)
    unfold aggK at this
    rw [hZ] at this
    exact this)
  clear hZ hZl
  go_enter Tryz.func4, Tryz.ntmps4
  go_wp2_with fail
  refine (put0_any w).mono ?_
  rintro e1 w1 ⟨⟨a, c, rfl⟩, e1⟩
  go_wp2_with fail
  refine (suiteNew0_any w1).mono ?_
  rintro e2 w2 ⟨Q, rfl, e2⟩
  go_wp2_with fail
  refine (ringNew0_any w2 Q).mono ?_
  rintro e3 w3 ⟨R, b1, rfl, c1, hm, e3⟩
  have hop := HOP.out w3 R b1 c1 hm
  have HE3 := Lib.hid ((e1.trans e2).trans e3)
  clear c1 hm e1 e2 e3
  go_wp2_with fail
  refine hop.mono ?_
  rintro e4 w4 ⟨e4, rfl⟩
  clear hop
  have HE4 := Lib.hid (HE3.out.trans e4)
  clear e4
  go_wp2_with (first
    | (refine wpList_skip0 (o := ⟨none, .store _ _ _, _, _, _, _⟩) (w' := w4.alloc (.cells Z.toArray 51)) ?_ ?_ ?_ ?_; exact exec_store_new rfl rfl rfl hiZ.out hZs.out h1Z.out; rfl; rfl; refine wpList_laid1 fun W eW hG => ?_; have hfin := HR.out (.returned (.bool true)) W ⟨rfl, HE4.out.trans eW⟩)
    | fail)
  exact hfin
end Go.Proofs.YtcmhgpgookiomaaGreat
namespace Go.Proofs.YtcmhgpgookiomaaGreat
open Go.RowKit Go.Shelf Go.Maps

/-- Behind k changes. -/
structure Both (T : By) (k : Nat) (st : St) (x : RX) : Prop where
  inv : Inv N1 N2 N1 st.1 st.2
  suite : Suite T st.2
  sim : Sim st.1 x
  sized : Sized k x
  tight : TightX x
  small : Small k (1000 * k) st.1
theorem both0 (T : By) : Both T 0 (r0, ⟨T, fun _ _ => none, fun _ _ => none⟩) ⟨[], [], []⟩ where
  inv :=
    { rs := List.Pairwise.nil, rg := List.Pairwise.nil, rr := List.Pairwise.nil, rm := List.Pairwise.nil, rd := List.Pairwise.nil
      rms := fun _ => List.Pairwise.nil, rds := fun _ => List.Pairwise.nil
      dm := fun g w h => by simp [In, memA, r0, getA] at h
      dr := fun g w h => by simp [In, rdrA, r0, getA] at h
      u1 := fun b hb => by simp [r0] at hb
      e1 := fun g w h => by simp [In, memA, r0, getA] at h
      u2 := fun b hb => by simp [r0] at hb
      e3 := fun g w h => by simp [In, rdrA, r0, getA] at h }
  suite := ⟨0, by omega, Nat.zero_le _, rfl, fun _ _ _ h => (by cases h), fun _ _ _ h => (by cases h)⟩
  sim := ⟨fun n => by simp [In, r0, getA], fun n => by simp [In, r0, getA], fun n => by simp [In, r0, getA], fun n w => by simp [In, r0, getA, memX, memA], fun n w => by simp [In, r0, getA, rdrX, rdrA]⟩
  sized := ⟨Nat.le_refl _, Nat.le_refl _, Nat.le_refl _, fun _ h => by simp at h, fun _ h => by simp at h⟩
  tight := ⟨fun _ h => by simp at h, fun _ h => by simp at h⟩
  small := small0
theorem both_step {T : By} (hU : Unlike T) {k n : Nat} {st st' : St} {x : RX} (h : Both T k st x) (hk : k ≤ 12) (hm : ∀ g, In st.1.grp g → In st.1.mem g) (hr : ∀ m, In st.1.rlm m → In st.1.rdr m) (c : ChgP) (he : changeP st c = some (n, st')) :
    Both T (k + 1) st' (changeX x c).2 ∧ (changeX x c).1 = n ∧ Done T st.1 st.2 st'.1 st'.2 := by
  have d := change_ok hU h.inv h.suite c he
  obtain ⟨e, s⟩ := sim_change h.inv h.sim c he
  obtain ⟨z1, z2⟩ := change_sized h.sized h.tight c
  exact ⟨⟨d.inv, d.suite, s, z1, z2, small_change h.small hk hm hr he⟩, e, d⟩
theorem changeX_code (x : RX) (c : ChgP) : (changeX x c).1 = 0 ∨ (changeX x c).1 = 1 ∨ (changeX x c).1 = 210 ∨ (changeX x c).1 = 211 ∨ (changeX x c).1 = 212 := by
  unfold changeX
  repeat' split
  all_goals simp
theorem RingAt.has {w : World} {N R Q TB A PL : Nat} {st : St} (h : RingAt w N R Q TB A PL st) : (∀ g, In st.1.grp g → In st.1.mem g) ∧ (∀ m, In st.1.rlm m → In st.1.rdr m) := by
  obtain ⟨b1, b2, b3, b4, b5, L4, L5, v, bv, h⟩ := h
  exact ⟨h.hasm, h.hasr⟩
/-- The program's ring turns nothing of the document's. -/
theorem RingX.rg {w w' : World} {b X s : Nat} {x : RX} {N TB A PL : Nat} (h : RingX w b X x s) (hk : Keep (RgX N TB A PL) w w') : RingX w' b X x s := by
  obtain ⟨vp, vg, vm, vs, pc, gc, mc, sc, ns, h, hns⟩ := h
  refine ⟨vp, vg, vm, vs, pc, gc, mc, sc, ns, h.keep hk (fun k cur t ht => ?_), hns⟩
  simp only [List.mem_cons, List.not_mem_nil, or_false] at ht
  rcases ht with rfl | rfl | rfl | rfl | rfl | rfl <;> exact RgX.cells (by decide) (by decide) (by decide)
/-- The document's ring turns nothing of the program's. -/
theorem RingAt.dx {w w' : World} {N R Q TB A PL X : Nat} {st : St} (h : RingAt w N R Q TB A PL st) (hk : Keep (fun k o => k = X ∧ ∃ cur, o = .cells cur 43 (0, 0)) w w') : RingAt w' N R Q TB A PL st := by
  obtain ⟨b1, b2, b3, b4, b5, L4, L5, v, bv, h⟩ := h
  refine ⟨b1, b2, b3, b4, b5, L4, L5, v, bv, h.keep hk (fun k es c hx => by obtain ⟨_, _, hx⟩ := hx; cases hx) (fun k cur t fr ht hx => ?_)⟩
  obtain ⟨_, _, hx⟩ := hx
  cases hx
  revert ht
  decide
theorem ext_rg {w0 w w' : World} {N TB A PL : Nat} (h0 : Ext w0 w) (hk : Keep (RgX N TB A PL) w w') (hN : w0.heap.size ≤ N) (hT : w0.heap.size ≤ TB) (hA : w0.heap.size ≤ A) (hP : w0.heap.size ≤ PL) : Ext w0 w' :=
  ((Keep.of_ext h0).trans hk).mono (fun k o ho hx => by
    have := Keep.lt ho
    rcases hx with (⟨h, _⟩ | ⟨h, _⟩) | ⟨h, _⟩
    · omega
    · rcases h with h | h <;> omega
    · omega)
theorem ext_dx {w0 w w' : World} {X : Nat} (h0 : Ext w0 w) (hk : Keep (fun k o => k = X ∧ ∃ cur, o = .cells cur 43 (0, 0)) w w') (hX : w0.heap.size ≤ X) : Ext w0 w' :=
  ((Keep.of_ext h0).trans hk).mono (fun k o ho hx => by have := Keep.lt ho; have := hx.1; omega)
theorem ringX0 (w : World) : RingX (w.alloc (.cells #[.pointer none, .slice none 0 0, .slice none 0 0, .slice none 0 0, .slice none 0 0, .slice none 0 0] 43)) 0 w.heap.size ⟨[], [], []⟩ 0 :=
  ⟨_, _, _, _, [], [], [], [], 0, ⟨Arr.new w _ _, Nat.zero_le _, World.ownsRow_nil _ _ _ _, PSec.nil, World.ownsRow_nil _ _ _ _, GSec.nil _, World.ownsRow_nil _ _ _ _, GSec.nil _, World.ownsRow_nil _ _ _ _, ⟨[], rfl⟩⟩, Nat.le_refl _⟩
theorem start32 {w : World} {Q TB A PL : Nat} {s : SSt} (hs : SuiteAt w Q TB A PL s) {l : List BoxP} {sec : By} {who realm epoch e : Nat} {k : By} (h : startP s l sec who realm epoch = some (e, k)) : k.length = 32 := by
  rw [startP_eq] at h
  have := fold_len (F := fun g e => keysP s l sec who g e) (realm := realm) (epoch := epoch) hs.lp l none key0_len
  rw [h] at this
  exact this
end Go.Proofs.YtcmhgpgookiomaaGreat
namespace Go.Proofs.YtcmhgpgookiomaaGreat
open Go.RowKit Go.Shelf Go.Maps

attribute [local go_sem] Oper.semAt_some

theorem flat4 {l : List ChgP} {i : Nat} {d : ChgP} (h : l[i]? = some d) {j : Nat} (hj : j < 4) : (l.flatMap chgC)[i * 4 + j]? = (chgC d)[j]? := by
  induction l generalizing i with
  | nil => simp at h
  | cons q l ih =>
    rw [List.flatMap_cons]
    cases i with
    | zero =>
      obtain rfl : q = d := by simpa using h
      rw [Nat.zero_mul, Nat.zero_add, List.getElem?_append_left (by simpa [chgC] using hj)]
    | succ i =>
      rw [List.getElem?_append_right (by simp [chgC]; omega)]
      have : (i + 1) * 4 + j - (chgC q).length = i * 4 + j := by simp [chgC]; omega
      rw [this]
      exact ih (by simpa using h)
theorem load_chg {w : World} {b o n c : Nat} {l : List ChgP} (h : Row 4 w (some ⟨b, o, none⟩) n c (l.flatMap chgC)) (hn : 0 < n) {i : Nat} {d : ChgP} (hi : l[i]? = some d) : (loadCellsFrom ⟨b, o + i * 4, none⟩ 0 (chgC d).length #[]).run Tryz.prog w = .ok (chgC d).toArray w := by
  have := run_loadCells_list (P := Tryz.prog) (w := w) ⟨b, o + i * 4, none⟩ (chgC d) (fun j u hu => by
    have hj : j < 4 := by have := (List.getElem?_eq_some_iff.1 hu).1; simpa [chgC] using this
    rw [addr_add]
    have := h.cell rfl ((flat4 hi hj).trans hu) hn
    rwa [show o + i * 4 + j = o + (i * 4 + j) by omega])
  exact this
theorem chgC_one (c : ChgP) : (chgC c).toArray.all (·.oneCell') = true := all_of (fun u hu => by
  simp only [chgC, List.mem_cons, List.not_mem_nil, or_false] at hu
  rcases hu with rfl | rfl | rfl | rfl <;> rfl)
theorem size_chg (c : ChgP) : (Tryz.prog.info? 25).map (·.size) = some (chgC c).toArray.size := by
  show _ = some 4
  kernel_rfl

set_option maxRecDepth 20000 in
set_option maxHeartbeats 8000000 in
theorem topRevoked_any (start : Nat) (a : Option Addr) (cap : Nat) (l : List ChgP) (c : ChgP) (who realm : Nat) (ta : Option Addr) (tl tc : Nat) (w : World) (hrow : Row 4 w a l.length cap (l.flatMap chgC)) (hl : ∀ d ∈ l, d.who < 4294967296 ∧ d.group < 4294967296 ∧ d.realm < 4294967296)
    (hc : c.who < 4294967296 ∧ c.group < 4294967296 ∧ c.realm < 4294967296) (hwho : who < 4294967296) (hrealm : realm < 4294967296) :
    Calls Tryz.prog 3 #[.int .u32 (start : Int), .slice a l.length cap, .agg (chgC c).toArray, .int .u32 (who : Int), .int .u32 (realm : Int), .slice ta tl tc] w fun e w' => e = .returned (.bool true) ∧ Ext w w' := by
  obtain ⟨n, hn⟩ : ∃ n, l.length = n := ⟨_, rfl⟩
  rw [hn] at hrow ⊢
  obtain ⟨C, hC⟩ : ∃ C, chgC c = C := ⟨_, rfl⟩
  have hiC := Lib.hid (show (Tryz.prog.info? 25).map (·.size) = some C.toArray.size by rw [← hC]; exact size_chg c)
  have hmax := hrow.2.1
  have hnc := hrow.1
  rw [hC]
  have HC := Lib.hid hC
  have HROW := Lib.hid hrow
  have HN := Lib.hid hn
  have HL := Lib.hid hl
  have HBC := Lib.hid hc
  have HW := Lib.hid hwho
  have HRE := Lib.hid hrealm
  clear hC hrow hn hl hc hwho hrealm
  refine calls_cps fun R0 hR => ?_
  have HR := Lib.hid hR
  clear hR
  go_enter Tryz.func3, Tryz.ntmps3
  go_upto_region 1 with fail
  refine wp_laid1 fun W eW hG => ?_
  have aC : Arr W w.heap.size 25 C := hG
  have HEW := Lib.hid eW
  obtain ⟨p8, hp8⟩ : ∃ p, w.heap.size = p := ⟨_, rfl⟩
  rw [hp8] at aC ⊢
  have HP8 := Lib.hid hp8
  clear hG eW hp8
  go_wp2_with fail
  refine (awake_any W).mono ?_
  rintro e1 w1 ⟨rfl, e1⟩
  have aC1 := aC.ext e1
  have HE1 := Lib.hid (HEW.out.trans e1)
  have HA1 := Lib.hid aC1
  clear e1 aC aC1
  by_cases h12 : 12 < n
  · have h12' : (12 : Int) < (n : Int) := by omega
    have hfin := HR.out (.returned (.bool true)) w1 ⟨rfl, HE1.out⟩
    clear HR h12
    go_wp2
    exact hfin
  by_cases h200 : 200 < tl
  · have h12' : ¬ (12 : Int) < (n : Int) := by omega
    have h200' : (200 : Int) < (tl : Int) := by omega
    have hfin := HR.out (.returned (.bool true)) w1 ⟨rfl, HE1.out⟩
    clear HR h12 h200
    go_wp2
    exact hfin
  have h12' : ¬ (12 : Int) < (n : Int) := by omega
  have h200' : ¬ (200 : Int) < (tl : Int) := by omega
  have htape := tape7_any start 8000 (by omega) w1
  have HTP := Lib.hid htape
  clear h200 htape
  go_wp2_with fail
  refine HTP.out.mono ?_
  rintro e2 w2 ⟨a2, c2, rfl, hown2, e2⟩
  clear HTP h12' h200'
  obtain ⟨T, hT⟩ : ∃ T, tapeL start 8000 = T := ⟨_, rfl⟩
  have hTl : T.length = 32000 := by rw [← hT, tape_len]
  have hU : Unlike T := by rw [← hT]; exact tape_unlike start 8000 (by omega)
  rw [hT] at hown2
  obtain ⟨_, _, q2, hr2⟩ := owns_row hown2
  cases q2
  have htn := tapeNew_any a2 32000 c2 T hr2 (by omega)
  have HTN := Lib.hid htn
  have HE2 := Lib.hid (HE1.out.trans e2)
  have HA2 := Lib.hid (HA1.out.ext e2)
  have HTL := Lib.hid hTl
  have HU := Lib.hid hU
  clear hT hTl hU hr2 hown2 e2 htn
  go_wp2_with fail
  refine HTN.out.mono ?_
  rintro e3 w3 ⟨TB, vt, rfl, hTB, htp, e3⟩
  clear HTN
  have hsn := suiteNew_any htp (by rw [HTL.out]; omega)
  have HE3 := Lib.hid (HE2.out.trans e3)
  have HA3 := Lib.hid (HA2.out.ext e3)
  have hTB' : w.heap.size ≤ TB := by have := HE2.out.size; omega
  have HSN := Lib.hid hsn
  clear htp e3 hsn hTB
  go_wp2_with fail
  refine HSN.out.mono ?_
  rintro e4 w4 ⟨Q, A, PL, rfl, hQ, hA, hPL, hsu, e4⟩
  clear HSN
  have hrn := ringNew_any hsu
  have HE4 := Lib.hid (HE3.out.trans e4)
  have HA4 := Lib.hid (HA3.out.ext e4)
  have hA' : w.heap.size ≤ A := by have := HE3.out.size; omega
  have hPL' : w.heap.size ≤ PL := by have := HE3.out.size; omega
  have HRN := Lib.hid hrn
  clear hsu e4 hQ hA hPL hrn
  go_wp2_with fail
  refine HRN.out.mono ?_
  rintro e5 w5 ⟨R, rfl, hring, e5⟩
  clear HRN
  obtain ⟨N, hNN⟩ : ∃ N, w4.heap.size = N := ⟨_, rfl⟩
  rw [hNN] at hring
  have hN' : w.heap.size ≤ N := by have := HE4.out.size; omega
  have HRING := Lib.hid hring
  have HE5 := Lib.hid (HE4.out.trans e5)
  have HA5 := Lib.hid (HA4.out.ext e5)
  clear hNN hring e5
  go_upto_region 7 with fail
  have hx0 := ringX0 w5
  have e6 : Ext w5 (w5.alloc (.cells #[.pointer none, .slice none 0 0, .slice none 0 0, .slice none 0 0, .slice none 0 0, .slice none 0 0] 43)) := (Keep.refl _ w5).alloc _
  obtain ⟨W6, hW6⟩ : ∃ W6, w5.alloc (.cells #[.pointer none, .slice none 0 0, .slice none 0 0, .slice none 0 0, .slice none 0 0, .slice none 0 0] 43) = W6 := ⟨_, rfl⟩
  obtain ⟨X, hX⟩ : ∃ X, w5.heap.size = X := ⟨_, rfl⟩
  rw [hW6] at hx0 e6 ⊢
  rw [hX] at hx0 ⊢
  have hX' : w.heap.size ≤ X := by have := HE5.out.size; omega
  have HST : Hid (∃ st x, RingAt W6 N R Q TB A PL st ∧ RingX W6 0 X x (10201 * 0) ∧ Both T 0 st x) := Lib.hid ⟨_, _, HRING.out.ext e6, hx0, both0 T⟩
  have HE6 := Lib.hid (HE5.out.trans e6)
  have HA6 := Lib.hid (HA5.out.ext e6)
  clear hW6 hX hx0 e6 HRING HE5 HA5 HE1 HE2 HE3 HE4 HA1 HA2 HA3 HA4
  have HEX := Lib.hid (fun (w0 w' : World) (h0 : Ext w w0) (hk : Keep (RgX N TB A PL) w0 w') => ext_rg h0 hk hN' hTB' hA' hPL')
  have HDX := Lib.hid (fun (w0 w' : World) (h0 : Ext w w0) (hk : Keep (fun k o => k = X ∧ ∃ cur, o = .cells cur 43 (0, 0)) w0 w') => ext_dx h0 hk hX')
  have hn12 : n ≤ 12 := by omega
  clear h12 hN' hTB' hA' hPL' hX'
  go_wp2
  go_loopw [47] (fun ix wr => ∃ k : Nat, k ≤ n ∧ ix = .int .i64 (k : Int) ∧ Hid (∃ st x, RingAt wr N R Q TB A PL st ∧ RingX wr 0 X x (10201 * k) ∧ Both T k st x) ∧ Hid (Ext w wr) ∧ Hid (Arr wr p8 25 C)) (fun ix _ => n - (vI ix).toNat)
  case atStart => exact ⟨0, by omega, rfl, HST, HE6, HA6⟩
  case round =>
    obtain ⟨k, hk, rfl, HS, HE, HA⟩ := hrel
    by_cases hlt : k < n
    · obtain ⟨d, hd⟩ : ∃ d, l[k]? = some d := ⟨_, List.getElem?_eq_getElem (by have := HN.out; omega)⟩
      obtain ⟨br, orr, rfl, _⟩ := HROW.out.2.2.2.2 (by omega)
      have hld := load_chg (HROW.out.ext HE.out) (by omega) hd
      have hdb := HL.out d (List.mem_of_getElem? hd)
      obtain ⟨st, x, hring, hrx, hboth⟩ := HS.out
      obtain ⟨D, hD⟩ : ∃ D, chgC d = D := ⟨_, rfl⟩
      have hDi := size_chg d
      have hD1 := chgC_one d
      have hDl : D.length = 4 := by rw [← hD]; rfl
      rw [hD] at hld hDi hD1
      have HLD := Lib.hid hld
      have hiD := Lib.hid hDi
      have hiD2 := Lib.hid (show (Tryz.prog.info? 25).map (·.size) = some D.length by rw [hDi, List.size_toArray])
      have h1D := Lib.hid hD1
      have hDs := Lib.hid (show 4 = D.toArray.size by rw [List.size_toArray, hDl])
      have HD := Lib.hid hD
      have HRG := Lib.hid hring
      have HRX := Lib.hid hrx
      have HBO := Lib.hid hboth
      have HDB := Lib.hid hdb
      clear hld hDi hD1 hDl hD hd hring hrx hboth hdb
      go_wp2_with (first
        | (refine wpList_val (o := ⟨some 50, _, _, _, _, _⟩) (v := .agg D.toArray) ?_ ?_ ?_; exact exec_load_mid' rfl rfl HLD.out Tryz.underlying25 rfl hiD2.out; rfl)
        | (refine wpList_skip0 (o := ⟨none, .store _ _ _, _, _, _, _⟩) (w' := wr.alloc (.cells D.toArray 25)) ?_ ?_ ?_ ?_; exact exec_store_new rfl rfl rfl hiD.out hDs.out h1D.out; rfl; rfl; refine wpList_laid1 fun W7 eW7 hG7 => ?_)
        | (refine wpList_val (o := ⟨some 52, _, _, _, _, _⟩) (v := .agg D.toArray) ?_ ?_ ?_; exact exec_load_row rfl rfl (show Arr W7 wr.heap.size 25 D from hG7) Tryz.underlying25 rfl hiD.out; rfl)
        | fail)
      have hdo := do_any (HRG.out.ext eW7) (HBO.out.small.mono (by omega) (by omega)) d HDB.out
      rw [HD.out] at hdo
      obtain ⟨p17, hp17⟩ : ∃ p, wr.heap.size = p := ⟨_, rfl⟩
      have aD : Arr W7 p17 25 D := by rw [← hp17]; exact hG7
      rw [hp17]
      have HE7 := Lib.hid (HE.out.trans eW7)
      have HX7 := Lib.hid (HRX.out.ext eW7)
      have HA7 := Lib.hid (HA.out.ext eW7)
      have HAD := Lib.hid aD
      clear hp17 hG7 eW7 aD
      refine hdo.mono ?_
      rintro e8 w8 ⟨hlo, hhi⟩
      clear hdo
      cases hch : changeP st d with
      | none =>
        obtain ⟨rfl, k8⟩ := hlo hch
        have hx8 := do10_any (HX7.out.rg k8) HBO.out.sized HBO.out.tight (by omega) (by omega) d
        rw [HD.out] at hx8
        obtain ⟨E, hE⟩ : ∃ E, (changeX x d).1 = E := ⟨_, rfl⟩
        have hcode := changeX_code x d
        rw [hE] at hx8 hcode
        have hne : ¬ ((60 : Int) = (E : Int)) := by omega
        have aD8 : Arr w8 p17 25 D := HAD.out.keep k8 (RgX.cells (by decide) (by decide) (by decide))
        have HE8 := Lib.hid (HEX.out _ _ HE7.out k8)
        have HX8 := Lib.hid hx8
        clear hlo hhi hch hx8 hcode hE k8
        go_wp2_with (first
          | (refine wpList_val (o := ⟨some 56, _, _, _, _, _⟩) (v := .agg D.toArray) ?_ ?_ ?_; exact exec_load_row rfl rfl aD8 Tryz.underlying25 rfl hiD.out; rfl)
          | fail)
        refine HX8.out.mono ?_
        rintro e9 w9 ⟨rfl, _, k9⟩
        have hfin := HR.out (.returned (.bool true)) w9 ⟨rfl, HDX.out _ _ HE8.out k9⟩
        clear HR k9
        go_wp2
        exact hfin
      | some y =>
        obtain ⟨m, st'⟩ := y
        obtain ⟨rfl, hr8, k8⟩ := hhi m st' hch
        obtain ⟨hb', hcode, _⟩ := both_step HU.out HBO.out (by omega) HRG.out.has.1 HRG.out.has.2 d hch
        have hx8 := do10_any (HX7.out.rg k8) HBO.out.sized HBO.out.tight (by omega) (by omega) d
        rw [HD.out, hcode] at hx8
        have aD8 : Arr w8 p17 25 D := HAD.out.keep k8 (RgX.cells (by decide) (by decide) (by decide))
        have HE8 := Lib.hid (HEX.out _ _ HE7.out k8)
        have HA8 := Lib.hid (HA7.out.keep k8 (RgX.cells (by decide) (by decide) (by decide)))
        have HR8 := Lib.hid hr8
        have HX8 := Lib.hid hx8
        have HB' := Lib.hid hb'
        clear hlo hhi hch hx8 hcode k8 hr8 hb'
        go_wp2_with (first
          | (refine wpList_val (o := ⟨some 56, _, _, _, _, _⟩) (v := .agg D.toArray) ?_ ?_ ?_; exact exec_load_row rfl rfl aD8 Tryz.underlying25 rfl hiD.out; rfl)
          | fail)
        refine HX8.out.mono ?_
        rintro e9 w9 ⟨rfl, hx9, k9⟩
        have HS9 : Hid (∃ st x, RingAt w9 N R Q TB A PL st ∧ RingX w9 0 X x (10201 * (k + 1)) ∧ Both T (k + 1) st x) := Lib.hid ⟨_, _, HR8.out.dx k9, by rw [Nat.mul_succ]; exact hx9, HB'.out⟩
        have HE9 := Lib.hid (HDX.out _ _ HE8.out k9)
        have HA9 := Lib.hid (HA8.out.keep k9 (fun hx => by obtain ⟨_, _, hx⟩ := hx; cases hx))
        clear hx9 k9 aD8
        go_wp2
        go_roundw
        case rel => exact ⟨k + 1, by omega, by go_num, HS9, HE9, HA9⟩
        case measure => simp [vI]; omega
    · obtain rfl : k = n := by omega
      obtain ⟨st, x, hring, hrx, hboth⟩ := HS.out
      have hrd := reader11_any hrx (hboth.sized.bnd (by omega)) who realm
      have HRG := Lib.hid hring
      have HRX := Lib.hid hrx
      have HBO := Lib.hid hboth
      have HRD := Lib.hid hrd
      clear hring hrx hboth hrd
      go_wp2_with fail
      refine HRD.out.mono ?_
      rintro e7 w7 ⟨⟨t, rfl, htt⟩, rfl⟩
      have HTT := Lib.hid htt
      clear htt HRD
      have aC7 := HA.out
      go_wp2_with (first
        | (refine wpList_val (o := ⟨some 67, _, _, _, _, _⟩) (v := .agg C.toArray) ?_ ?_ ?_; exact exec_load_row rfl rfl aC7 Tryz.underlying25 rfl hiC.out; rfl)
        | fail)
      have hdo := do_any HRG.out (HBO.out.small.mono (by omega) (by omega)) c HBC.out
      rw [HC.out] at hdo
      clear aC7
      refine hdo.mono ?_
      rintro e8 w8 ⟨hlo, hhi⟩
      clear hdo
      cases hch : changeP st c with
      | none =>
        obtain ⟨rfl, k8⟩ := hlo hch
        have hx8 := do10_any (HRX.out.rg k8) HBO.out.sized HBO.out.tight (by omega) (by omega) c
        rw [HC.out] at hx8
        obtain ⟨E, hE⟩ : ∃ E, (changeX x c).1 = E := ⟨_, rfl⟩
        have hcode := changeX_code x c
        rw [hE] at hx8 hcode
        have hne : ¬ ((60 : Int) = (E : Int)) := by omega
        have aC8 : Arr w8 p8 25 C := HA.out.keep k8 (RgX.cells (by decide) (by decide) (by decide))
        have HE8 := Lib.hid (HEX.out _ _ HE.out k8)
        have HX8 := Lib.hid hx8
        clear hlo hhi hch hx8 hcode hE k8
        go_wp2_with (first
          | (refine wpList_val (o := ⟨some 71, _, _, _, _, _⟩) (v := .agg C.toArray) ?_ ?_ ?_; exact exec_load_row rfl rfl aC8 Tryz.underlying25 rfl hiC.out; rfl)
          | fail)
        refine HX8.out.mono ?_
        rintro e9 w9 ⟨rfl, _, k9⟩
        have hfin := HR.out (.returned (.bool true)) w9 ⟨rfl, HDX.out _ _ HE8.out k9⟩
        clear HR k9
        go_wp2
        exact hfin
      | some y =>
        obtain ⟨m, st'⟩ := y
        obtain ⟨rfl, hr8, k8⟩ := hhi m st' hch
        obtain ⟨hb', hcode, hdone⟩ := both_step HU.out HBO.out (by omega) HRG.out.has.1 HRG.out.has.2 c hch
        have hx8 := do10_any (HRX.out.rg k8) HBO.out.sized HBO.out.tight (by omega) (by omega) c
        rw [HC.out, hcode] at hx8
        have aC8 : Arr w8 p8 25 C := HA.out.keep k8 (RgX.cells (by decide) (by decide) (by decide))
        have HE8 := Lib.hid (HEX.out _ _ HE.out k8)
        have HR8 := Lib.hid hr8
        have HX8 := Lib.hid hx8
        have HB' := Lib.hid hb'
        have HDN := Lib.hid hdone
        clear hlo hhi hch hx8 hcode k8 hr8 hb' hdone
        go_wp2_with (first
          | (refine wpList_val (o := ⟨some 71, _, _, _, _, _⟩) (v := .agg C.toArray) ?_ ?_ ?_; exact exec_load_row rfl rfl aC8 Tryz.underlying25 rfl hiC.out; rfl)
          | fail)
        refine HX8.out.mono ?_
        rintro e9 w9 ⟨rfl, hx9, k9⟩
        have HR9 := Lib.hid (HR8.out.dx k9)
        have HX9 := Lib.hid hx9
        have HE9 := Lib.hid (HDX.out _ _ HE8.out k9)
        clear hx9 k9 aC8
        cases t with
        | false =>
          have hfin := HR.out (.returned (.bool true)) w9 ⟨rfl, HE9.out⟩
          clear HR
          go_wp2
          exact hfin
        | true =>
          have hrd := reader11_any HX9.out (HB'.out.sized.bnd (by omega)) who realm
          have HRD := Lib.hid hrd
          clear hrd
          go_wp2_with fail
          refine HRD.out.mono ?_
          rintro e10 w10 ⟨⟨t2, rfl, htt⟩, rfl⟩
          have HT2 := Lib.hid htt
          clear htt HRD
          cases t2 with
          | true =>
            have hfin := HR.out (.returned (.bool true)) w10 ⟨rfl, HE9.out⟩
            clear HR
            go_wp2
            exact hfin
          | false =>
            have hR1 : Rd st.1 who realm := (HBO.out.sim.rd who realm).1 (by have := HTT.out; simpa using this)
            have hN1 : ¬ Rd st'.1 who realm := fun h => by have h2 := (HB'.out.sim.rd who realm).2 h; have := HT2.out; simp [h2] at this
            obtain ⟨r1, r2, r3, r4, kk, r5⟩ := revoked HBO.out.inv HDN.out hR1 hN1
            have hep := epoch_any HR9.out realm HRE.out
            have hbx : st'.1.box.length ≤ 20000 := by have := HB'.out.small.box; omega
            have hle : (rlmA st'.1 realm).1 ≤ 1000 := by
              obtain ⟨b1, b2, b3, b4, b5, L4, L5, v, bv, h⟩ := HR9.out
              exact (h.rlmA_ok realm).2
            have hsu : ∃ w' Q' TB' A' PL', SuiteAt w' Q' TB' A' PL' st'.2 := by
              obtain ⟨b1, b2, b3, b4, b5, L4, L5, v, bv, h⟩ := HR9.out
              exact ⟨_, _, _, _, _, h.suite⟩
            obtain ⟨_, _, _, _, _, hsu⟩ := hsu
            have hk32 := start32 hsu r5
            have ho1 := fun B (hB : Ext w10 B) => open_any (HR9.out.ext hB) who realm (rlmA st'.1 realm).1 HW.out hbx r1 (.inl r4)
            have ho2 := fun B (hB : Ext w10 B) => open_any (HR9.out.ext hB) who realm (rlmA st.1 realm).1 HW.out hbx r1 (.inr ⟨kk, r5⟩)
            obtain ⟨F, hF⟩ : ∃ F, (rlmA st'.1 realm).1 = F := ⟨_, rfl⟩
            obtain ⟨E, hE⟩ : ∃ E, (rlmA st.1 realm).1 = E := ⟨_, rfl⟩
            rw [hF] at hep ho1 hle r3
            rw [hE] at r3 ho2
            have hs2 : (getA st'.1.rlm realm).isSome = true := r2
            rw [hs2] at hep
            obtain ⟨Z, hZ⟩ : ∃ Z, key0.map u8v = Z := ⟨_, rfl⟩
            obtain ⟨Y, hY⟩ : ∃ Y, kk.map u8v = Y := ⟨_, rfl⟩
            have HO1 := Lib.hid (fun B (hB : Ext w10 B) => (ho1 B hB).mono (fun e w' h => show Ext B w' ∧ e = .returned (.tuple #[.agg Z.toArray, .int .i64 213]) from ⟨h.1, by
              rw [h.2.1 (by rw [← hF]; exact r4), ← hZ]; rfl⟩))
            have HO2 := Lib.hid (fun B (hB : Ext w10 B) => (ho2 B hB).mono (fun e w' h => show Ext B w' ∧ e = .returned (.tuple #[.agg Y.toArray, .int .i64 0]) from ⟨h.1, by
              rw [h.2.2 kk (by rw [← hE]; exact r5), ← hY]; rfl⟩))
            have hZl : Z.length = 32 := by rw [← hZ, List.length_map, key0_len]
            have hYl : Y.length = 32 := by rw [← hY, List.length_map, hk32]
            have hiZ := Lib.hid (show (Tryz.prog.info? 51).map (·.size) = some Z.toArray.size by rw [info_key, List.size_toArray, hZl])
            have hZs := Lib.hid (show 32 = Z.toArray.size by rw [List.size_toArray, hZl])
            have h1Z := Lib.hid (show Z.toArray.all (·.oneCell') = true by rw [← hZ]; exact all_one _)
            have hiY := Lib.hid (show (Tryz.prog.info? 51).map (·.size) = some Y.toArray.size by rw [info_key, List.size_toArray, hYl])
            have hYs := Lib.hid (show 32 = Y.toArray.size by rw [List.size_toArray, hYl])
            have h1Y := Lib.hid (show Y.toArray.all (·.oneCell') = true by rw [← hY]; exact all_one _)
            have HEP := Lib.hid hep
            have h0F : (0 : Int) < (F : Int) := by omega
            have hsub : ((F : Int) - 1) % 4294967296 = (E : Int) := by omega
            have HSUB := Lib.hid hsub
            clear r1 r2 r3 r4 r5 hep ho1 ho2 hF hE hs2 hZ hY hZl hYl hk32 hsu hbx hR1 hN1 hle hsub
            go_wp2_with fail
            refine HEP.out.mono ?_
            rintro e11 w11 ⟨rfl, e11⟩
            have ho1 := HO1.out w11 e11
            have HE11 := Lib.hid e11
            clear e11
            go_wp2_with fail
            refine ho1.mono ?_
            rintro e12 w12 ⟨e12, rfl⟩
            have HE12 := Lib.hid (HE11.out.trans e12)
            clear ho1 e12
            go_wp2_with (first
              | (refine wpList_skip0 (o := ⟨none, .store _ _ _, _, _, _, _⟩) (w' := w12.alloc (.cells Z.toArray 51)) ?_ ?_ ?_ ?_; exact exec_store_new rfl rfl rfl hiZ.out hZs.out h1Z.out; rfl; rfl; refine wpList_laid1 fun W13 eW13 _ => ?_)
              | fail)
            have HE13 := Lib.hid (HE12.out.trans eW13)
            have ho2 := HO2.out W13 HE13.out
            clear eW13
            rw [HSUB.out]
            refine ho2.mono ?_
            rintro e14 w14 ⟨e14, rfl⟩
            have HE14 := Lib.hid (HE13.out.trans e14)
            clear ho2 e14
            go_wp2_with (first
              | (refine wpList_skip0 (o := ⟨none, .store _ _ _, _, _, _, _⟩) (w' := w14.alloc (.cells Y.toArray 51)) ?_ ?_ ?_ ?_; exact exec_store_new rfl rfl rfl hiY.out hYs.out h1Y.out; rfl; rfl; refine wpList_laid1 fun W15 eW15 _ => ?_; have hfin := HR.out (.returned (.bool true)) W15 ⟨rfl, HE9.out.trans (HE14.out.trans eW15)⟩)
              | fail)
            exact hfin
end Go.Proofs.YtcmhgpgookiomaaGreat
