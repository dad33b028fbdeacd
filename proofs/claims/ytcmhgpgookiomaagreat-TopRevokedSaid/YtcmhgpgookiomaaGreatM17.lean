/-
  TopRevoked: a ring's outer functions: ok, Epoch, New, Do. Do, New of a ring. ring.New. a change keeps a ring small (plain). an opener's keys in memory.
-/
import Derived.Test.YtcmhgpgookiomaaGreatM13
import Derived.Test.YtcmhgpgookiomaaGreatM16
import Derived.Laws.Cover3
namespace Go.Proofs.YtcmhgpgookiomaaGreat
open Go.RowKit Go.Shelf Go.Maps

attribute [local go_sem] Oper.semAt_some

/-- An error leaves the ring as it was. -/
theorem change_err {st st' : St} {c : ChgP} {n : Nat} (h : changeP st c = some (n, st')) (hn : n ≠ 0) : st' = st := by
  unfold changeP at h
  simp only at h
  repeat' split at h
  all_goals first
    | (cases h; rfl)
    | (cases h; exact absurd rfl hn)
    | (simp only [Option.map_eq_some_iff, Option.bind_eq_some_iff, Prod.mk.injEq] at h
       obtain ⟨_, _, h, _⟩ := h
       exact absurd h.symm hn)
    | (simp only [Option.map_eq_some_iff, Option.bind_eq_some_iff, Prod.mk.injEq] at h
       obtain ⟨_, _, _, _, h, _⟩ := h
       exact absurd h.symm hn)
    | (simp only [Option.map_eq_some_iff, Option.bind_eq_some_iff, Prod.mk.injEq] at h
       obtain ⟨_, _, _, _, _, _, h, _⟩ := h
       exact absurd h.symm hn)

/-- A ring's cells are laid into another ring. -/
def RowX (R k : Nat) (o : Obj) : Prop := k = R ∧ ∃ cur fr, o = .cells cur 75 fr
theorem RingIn.move {w w' : World} {N N2 R R2 Q TB A PL : Nat} {r : PR} {s : SSt} {b1 b2 b3 b4 b5 : Nat} {L4 L5 : List (Nat × Nat)} {v : Value} {bv : List (BoxP × Value)} (h : RingIn w N2 R2 Q TB A PL r s b1 b2 b3 b4 b5 L4 L5 v bv)
    (hN : N ≤ N2) (hR : N ≤ R) (hlow : Q < N ∧ TB < N ∧ A < N ∧ PL < N) (hc : Arr w' R 75 (ringC Q b1 b2 b3 b4 b5 v)) (hk : Keep (RowX R) w w') : RingIn w' N R Q TB A PL r s b1 b2 b3 b4 b5 L4 L5 v bv := by
  have hm : ∀ k es c, ¬ RowX R k (.map es c) := fun k es c h => by obtain ⟨_, _, _, h⟩ := h; cases h
  have hx : ∀ k (cur : Array Value) (t : TypeId) fr, t ≠ 75 → ¬ RowX R k (.cells cur t fr) := fun k cur t fr ht h => by
    obtain ⟨_, _, _, h⟩ := h
    cases h
    exact ht rfl
  obtain ⟨q1, q2, q3, q4, q5, q6⟩ := h.high
  exact
  { h with
    cells := hc
    sec := h.sec.block hk (hm _)
    grp := h.grp.block hk (hm _)
    rlm := h.rlm.block hk (hm _)
    mem := h.mem.keep hk (hm _) (fun _ b es c _ => hm b es c)
    rdr := h.rdr.keep hk (hm _) (fun _ b es c _ => hm b es c)
    box := by
      have := h.box.keep hk (fun _ _ _ => hx _ _ _ _ (by decide)) (fun _ _ _ => hx _ _ _ _ (by decide))
      exact { this with own := ownMono this.own hN }
    suite := h.suite.keep hk (fun _ => hx _ _ _ _ (by decide)) (fun _ => hx _ _ _ _ (by decide)) (fun _ _ => hx _ _ _ _ (by decide)) (hm _) (hm _)
    low := hlow
    high := ⟨hR, by omega, by omega, by omega, by omega, by omega⟩
    h4 := fun g b hg => ⟨by have := (h.h4 g b hg).1; omega, (h.h4 g b hg).2⟩
    h5 := fun g b hg => ⟨by have := (h.h5 g b hg).1; omega, (h.h5 g b hg).2⟩ }

set_option maxRecDepth 20000 in
theorem rok_any {w : World} {N R Q TB A PL : Nat} {st : St} (h : RingAt w N R Q TB A PL st) : Calls Tryz.prog 15 #[.pointer (some ⟨R, 0, none⟩)] w fun e w' => e = .returned (.bool true) ∧ w' = w := by
  obtain ⟨b1, b2, b3, b4, b5, L4, L5, v, bv, h⟩ := h
  have c1 := h.cells.cell (i := 1) rfl
  refine calls_cps fun R hR => ?_
  have hRR := hR (.returned (.bool true)) w ⟨rfl, rfl⟩
  have hne := fun w => run_neq_map_nil (P := Tryz.prog) w 71 _ _ (some b1) Tryz.underlying71
  simp only [Option.isNone_some, Bool.not_false] at hne
  clear h hR
  go_enter Tryz.func15, Tryz.ntmps15
  go_wp2
  try exact hRR

set_option maxRecDepth 20000 in
set_option maxHeartbeats 4000000 in
theorem epoch_any {w : World} {N R Q TB A PL : Nat} {st : St} (h : RingAt w N R Q TB A PL st) (m : Nat) (hm : m < 4294967296) : Calls Tryz.prog 12 #[.pointer (some ⟨R, 0, none⟩), .int .u32 (m : Int)] w fun e w' =>
    e = .returned (.tuple #[.int .u32 ((rlmA st.1 m).1 : Int), .bool (getA st.1.rlm m).isSome]) ∧ Ext w w' := by
  have hok := rok_any h
  obtain ⟨b1, b2, b3, b4, b5, L4, L5, v, bv, h⟩ := h
  have c3 := h.cells.cell (i := 3) rfl
  have hl := h.has_rlm hm
  obtain ⟨hl1, _⟩ := h.rlmA_ok m
  have kc := kc_of (e := (rlmA st.1 m).1) hl1
  unfold keyedV at hl
  obtain ⟨D, hD⟩ : ∃ D, keyedC (rlmA st.1 m) = D := ⟨_, rfl⟩
  rw [show keyedC ((rlmA st.1 m).1, (rlmA st.1 m).2) = D from hD] at kc
  rw [hD] at hl
  obtain ⟨p, hp⟩ : ∃ p, (getA st.1.rlm m).isSome = p := ⟨_, rfl⟩
  obtain ⟨E, hE⟩ : ∃ E, (rlmA st.1 m).1 = E := ⟨_, rfl⟩
  rw [hp] at hl ⊢
  rw [hE] at kc ⊢
  have HL := Lib.hid hl
  have KC' := Lib.hid kc
  clear hl kc hl1 hD hp hE h
  refine calls_cps fun R0 hR => ?_
  have HR := Lib.hid hR
  clear hR
  go_enter Tryz.func12, Tryz.ntmps12
  go_wp2_with fail
  refine hok.mono ?_
  rintro e w1 ⟨rfl, rfl⟩
  clear hok
  go_wp2_with (first
    | (refine wpList_val (o := ⟨some 17, _, _, _, _, _⟩) (v := .tuple #[.agg D.toArray, .bool p]) ?_ ?_ ?_; exact exec_lookup' rfl HL.out; rfl)
    | (refine wpList_skip0 (o := ⟨none, .store _ _ _, _, _, _, _⟩) (w' := w1.alloc (.cells D.toArray 86)) ?_ ?_ ?_ ?_; exact exec_store_new rfl rfl rfl KC'.out.info KC'.out.size KC'.out.one; rfl; rfl; refine wpList_laid1 fun W eW hG => ?_; have z7 := (show Arr W w1.heap.size 86 D from hG).cell KC'.out.c0)
    | fail)
  exact HR.out _ _ ⟨rfl, eW⟩
end Go.Proofs.YtcmhgpgookiomaaGreat
namespace Go.Proofs.YtcmhgpgookiomaaGreat
open Go.RowKit Go.Shelf Go.Maps

attribute [local go_sem] Oper.semAt_some

theorem info_ring : (Tryz.prog.info? 75).map (·.size) = some 7 := by kernel_rfl
theorem RgX.old {N2 TB A PL k : Nat} {o : Obj} (h : RgX N2 TB A PL k o) (hk : k < N2) : SuiteX TB A PL k o := by
  rcases h with h | ⟨h1, _⟩
  · exact h
  · omega

set_option maxRecDepth 20000 in
set_option maxHeartbeats 8000000 in
theorem do_any {w : World} {N R Q TB A PL : Nat} {st : St} (h : RingAt w N R Q TB A PL st) (hs : Small 12 12000 st.1) (c : ChgP) (hb : c.who < 4294967296 ∧ c.group < 4294967296 ∧ c.realm < 4294967296) :
    Calls Tryz.prog 9 #[.pointer (some ⟨R, 0, none⟩), .agg (chgC c).toArray] w fun e w' =>
      (changeP st c = none → e = .returned (.int .i64 60) ∧ Keep (RgX N TB A PL) w w') ∧
      (∀ n st', changeP st c = some (n, st') → e = .returned (.int .i64 (n : Int)) ∧ RingAt w' N R Q TB A PL st' ∧ Keep (RgX N TB A PL) w w') := by
  have HRA := Lib.hid h
  obtain ⟨b1, b2, b3, b4, b5, L4, L5, v, bv, h⟩ := h
  have HH := Lib.hid h
  have HS := Lib.hid hs
  have HB := Lib.hid hb
  obtain ⟨C, hC⟩ : ∃ C, chgC c = C := ⟨_, rfl⟩
  have hCl : C.length = 4 := by rw [← hC]; rfl
  have hI := Lib.hid (show (Tryz.prog.info? 25).map (·.size) = some C.toArray.size by rw [info_change, List.size_toArray, hCl])
  have HCC := Lib.hid hC
  have hC4 : C = [.int .i64 c.kind, .int .u32 (c.who : Int), .int .u32 (c.group : Int), .int .u32 (c.realm : Int)] := by rw [← hC]; rfl
  rw [hC, hC4]
  have HC4 := Lib.hid hC4
  refine calls_cps fun R0 hR => ?_
  have HR := Lib.hid hR
  clear hR h hs hb hC hCl hC4
  go_enter Tryz.func9, Tryz.ntmps9
  go_upto_region 1 with fail
  refine wp_laid1 fun W eW hG => ?_
  have aC : Arr W w.heap.size 25 C := by rw [HC4.out]; exact hG
  have hok := rok_any (HRA.out.ext eW)
  have htw := twin_any (HRA.out.ext eW) (by have := HS.out.box; omega) (by have := HS.out.mem; omega) (by have := HS.out.rdr; omega)
  have HEW := Lib.hid eW
  have HTW := Lib.hid htw
  have hwW : w.heap.size < W.heap.size := Keep.lt hG
  clear eW hG htw
  go_wp2_with fail
  refine hok.mono ?_
  rintro e w1 ⟨rfl, rfl⟩
  clear hok
  go_wp2_with fail
  refine HTW.out.mono ?_
  rintro e w2 ⟨R2, rfl, hR2, hr2, e2⟩
  have aC2 := aC.ext e2
  have hcall := change_any hr2 HS.out c HB.out
  rw [HCC.out] at hcall
  have HC2 := Lib.hid aC2
  have E2 := Lib.hid (HEW.out.trans e2)
  have S2 := Lib.hid e2.size
  clear hr2 e2 aC aC2
  go_wp2_with (first
    | (refine wpList_val (o := ⟨some 13, _, _, _, _, _⟩) (v := .agg C.toArray) ?_ ?_ ?_; exact exec_load_row rfl rfl HC2.out Tryz.underlying25 rfl hI.out; rfl)
    | fail)
  refine hcall.mono ?_
  rintro e w3 ⟨hlo, hhi⟩
  clear hcall
  have hkeep : ∀ w3, Keep (RgX w1.heap.size TB A PL) w2 w3 → Keep (SuiteX TB A PL) w w3 := fun _ h => ⟨h.os.trans E2.out.os, h.tape.trans E2.out.tape, h.output.trans E2.out.output, Nat.le_trans E2.out.size h.size, fun i o ho hx => h.block i o (E2.out.block i o ho (fun h => h)) (fun he => hx (he.old (by have := Keep.lt ho; omega)))⟩
  have HKK := Lib.hid hkeep
  clear hkeep
  cases hB : changeP st c with
  | none =>
    obtain ⟨rfl, k3⟩ := hlo hB
    have hfin := HR.out (.returned (.int .i64 60)) w3 ⟨fun _ => ⟨rfl, (HKK.out _ k3).mono (fun _ _ _ h => .inl h)⟩, fun n st' h => (by rw [hB] at h; cases h)⟩
    clear HR hlo hhi hB k3
    go_wp2
    exact hfin
  | some x =>
    obtain ⟨n, st'⟩ := x
    obtain ⟨rfl, ⟨b1', b2', b3', b4', b5', L4', L5', v', bv', hr3⟩, k3⟩ := hhi n st' hB
    by_cases hn : n = 0
    · subst hn
      have kS := HKK.out _ k3
      have aR3 := HH.out.cells.keep kS (SuiteX.cells (by decide))
      have aX3 := hr3.cells
      obtain ⟨av, cv, rfl, _⟩ := owns_row hr3.box.own
      obtain ⟨D, hD⟩ : ∃ D, ringC Q b1' b2' b3' b4' b5' (.slice av bv'.length cv) = D := ⟨_, rfl⟩
      have hDl : D.length = 7 := by rw [← hD]; rfl
      have hi := Lib.hid (show (Tryz.prog.info? 75).map (·.size) = some D.toArray.size by rw [info_ring, List.size_toArray, hDl])
      have ho := Lib.hid (show (ringC Q b1 b2 b3 b4 b5 v).toArray.size = D.toArray.size by rw [List.size_toArray, List.size_toArray, hDl]; rfl)
      have h1 := Lib.hid (show D.toArray.all (·.oneCell') = true by rw [← hD]; simp [ringC, Value.oneCell'])
      rw [hD] at aX3
      have hk4 : Keep (RowX R) w3 (w3.setRow R D.toArray) := (keep_setRow w3 R D.toArray).mono (fun k o ho hx => by
        subst hx
        rw [show w3.heap[k]? = _ from aR3] at ho
        cases ho
        exact ⟨rfl, _, _, rfl⟩)
      have aR4 := aR3.setRow D
      have hNW : N ≤ w1.heap.size := by have h1 := HH.out.cells.lt; have h2 := HH.out.high.1; omega
      have hr4 := hr3.move (N := N) hNW HH.out.high.1 HH.out.low (by rw [hD]; exact aR4) hk4
      have hra4 : RingAt (w3.setRow R D.toArray) N R Q TB A PL st' := ⟨_, _, _, _, _, _, _, _, _, hr4⟩
      have hk : Keep (RgX N TB A PL) w (w3.setRow R D.toArray) := (kS.mono (fun _ _ _ h => .inl h)).trans (hk4.mono (fun k o _ hx => .inr ⟨by rw [hx.1]; exact HH.out.high.1, .inr (.inl hx.2)⟩))
      have hfin := HR.out (.returned (.int .i64 0)) _ ⟨fun h => (by rw [hB] at h; cases h), fun n' st'' h => (by rw [hB] at h; cases h; exact ⟨rfl, hra4, hk⟩)⟩
      have A3 := Lib.hid aR3
      have X3 := Lib.hid aX3
      clear HR hlo hhi hB k3 kS aR3 aX3 hk4 aR4 hr4 hra4 hk hr3 hD hDl
      go_wp2_with (first
        | (refine wpList_val (o := ⟨some 20, _, _, _, _, _⟩) (v := .agg D.toArray) ?_ ?_ ?_; exact exec_load_row rfl rfl X3.out Tryz.underlying75 rfl hi.out; rfl)
        | (refine wpList_skipw (o := ⟨none, .store _ _ _, _, _, _, _⟩) (w' := w3.setRow R D.toArray) ?_ ?_ ?_; exact exec_store_row rfl rfl rfl A3.out hi.out ho.out h1.out; rfl)
        | fail)
      exact hfin
    · have hst := change_err hB hn
      subst hst
      have kS := HKK.out _ k3
      have hr4 := HH.out.suited kS hr3.suite (Nat.le_refl _)
      have hfin := HR.out (.returned (.int .i64 (n : Int))) w3 ⟨fun h => (by rw [hB] at h; cases h), fun n' st'' h => (by rw [hB] at h; cases h; exact ⟨rfl, ⟨_, _, _, _, _, _, _, _, _, hr4⟩, kS.mono (fun _ _ _ h => .inl h)⟩)⟩
      have hn' : ¬ (n : Int) = 0 := by omega
      have hn2 : ((n : Int) == 0) = false := by simp [hn]
      clear HR hlo hhi hB k3 kS hr4 hr3
      go_wp2
      exact hfin
end Go.Proofs.YtcmhgpgookiomaaGreat
namespace Go.Proofs.YtcmhgpgookiomaaGreat
open Go.RowKit Go.Shelf Go.Maps

attribute [local go_sem] Oper.semAt_some

def r0 : PR := ⟨[], [], [], [], [], []⟩
theorem small0 : Small 0 0 r0 :=
  { box := by simp [r0], sec := by simp [r0], grp := by simp [r0], rlm := by simp [r0], mem := by simp [r0], rdr := by simp [r0]
    imem := fun g => by simp [r0, memA, getA], irdr := fun g => by simp [r0, rdrA, getA]
    rsec := List.Pairwise.nil, rgrp := List.Pairwise.nil, rrlm := List.Pairwise.nil, rmem := List.Pairwise.nil, rrdr := List.Pairwise.nil }
theorem sets0 {w w' : World} (hE : Ext (w.alloc (.map #[] 0)) w') : SetsAt w' w.heap.size [] [] :=
  ⟨(NMap.made w refV).ext hE, fun _ => .inl ⟨rfl, rfl⟩, fun _ _ _ h => by simp [getA] at h, fun _ h => by simp [getA] at h, List.Pairwise.nil⟩

set_option maxRecDepth 20000 in
set_option maxHeartbeats 2000000 in
theorem ringNew_any {w : World} {Q TB A PL : Nat} {s : SSt} (h : SuiteAt w Q TB A PL s) :
    Calls Tryz.prog 8 #[.pointer (some ⟨Q, 0, none⟩)] w fun e w' => ∃ R, e = .returned (.pointer (some ⟨R, 0, none⟩)) ∧ RingAt w' w.heap.size R Q TB A PL (r0, s) ∧ Ext w w' := by
  have e : ∀ (A : World) (o : Obj), Ext A (A.alloc o) := fun A o => (Keep.refl _ A).alloc o
  obtain ⟨w1, h1⟩ : ∃ w1, w.alloc (.map #[] 0) = w1 := ⟨_, rfl⟩
  obtain ⟨w2, h2⟩ : ∃ w2, w1.alloc (.map #[] 0) = w2 := ⟨_, rfl⟩
  obtain ⟨w3, h3⟩ : ∃ w3, w2.alloc (.map #[] 0) = w3 := ⟨_, rfl⟩
  obtain ⟨w4, h4⟩ : ∃ w4, w3.alloc (.map #[] 0) = w4 := ⟨_, rfl⟩
  obtain ⟨w5, h5⟩ : ∃ w5, w4.alloc (.map #[] 0) = w5 := ⟨_, rfl⟩
  obtain ⟨w6, h6⟩ : ∃ w6, w5.alloc (.cells (ringC Q w.heap.size w1.heap.size w2.heap.size w3.heap.size w4.heap.size (.slice none 0 0)).toArray 75) = w6 := ⟨_, rfl⟩
  have s1 : w1.heap.size = w.heap.size + 1 := by rw [← h1]; simp
  have s2 : w2.heap.size = w.heap.size + 2 := by rw [← h2]; simp [s1]
  have s3 : w3.heap.size = w.heap.size + 3 := by rw [← h3]; simp [s2]
  have s4 : w4.heap.size = w.heap.size + 4 := by rw [← h4]; simp [s3]
  have s5 : w5.heap.size = w.heap.size + 5 := by rw [← h5]; simp [s4]
  have x1 : Ext w w1 := by rw [← h1]; exact e _ _
  have x2 : Ext w1 w2 := by rw [← h2]; exact e _ _
  have x3 : Ext w2 w3 := by rw [← h3]; exact e _ _
  have x4 : Ext w3 w4 := by rw [← h4]; exact e _ _
  have x5 : Ext w4 w5 := by rw [← h5]; exact e _ _
  have x6 : Ext w5 w6 := by rw [← h6]; exact e _ _
  have y5 := x5.trans x6
  have y4 := x4.trans y5
  have y3 := x3.trans y4
  have y2 := x2.trans y3
  have hb : Arr w6 w5.heap.size 75 (ringC Q w.heap.size w1.heap.size w2.heap.size w3.heap.size w4.heap.size (.slice none 0 0)) := by rw [← h6]; exact Arr.new _ _ _
  have hE : Ext w w6 := x1.trans y2
  have lq : Q < w.heap.size := by obtain ⟨_, _, hb⟩ := h.box; exact hb.lt
  have lt : TB < w.heap.size := by obtain ⟨_, ht⟩ := h.tape; exact ht.box.lt
  have la : A < w.heap.size := by obtain ⟨_, _, hb, _⟩ := h.ans; exact hb.lt
  have lp : PL < w.heap.size := by obtain ⟨_, _, hb, _⟩ := h.pl; exact hb.lt
  have hR : RingIn w6 w.heap.size w5.heap.size Q TB A PL r0 s w.heap.size w1.heap.size w2.heap.size w3.heap.size w4.heap.size [] [] (.slice none 0 0) [] :=
    { cells := hb
      sec := (show NMap w1 w.heap.size aggK [] by rw [← h1]; exact NMap.made w _).ext y2
      grp := (show NMap w2 w1.heap.size keyedV [] by rw [← h2]; exact NMap.made w1 _).ext y3
      rlm := (show NMap w3 w2.heap.size keyedV [] by rw [← h3]; exact NMap.made w2 _).ext y4
      mem := sets0 (by rw [h4]; exact y5)
      rdr := sets0 (by rw [h5]; exact x6)
      box := ⟨World.ownsRow_nil _ _ _ _, fun _ h => (by cases h), fun _ h => (by cases h)⟩
      boxes := rfl
      suite := h.ext hE
      low := ⟨lq, lt, la, lp⟩
      high := ⟨by omega, by omega, by omega, by omega, by omega, by omega⟩
      h4 := fun _ _ h => by simp [getA] at h
      h5 := fun _ _ h => by simp [getA] at h
      h45 := fun _ _ _ h => by simp [getA] at h
      dis := ⟨by omega, by omega, by omega, by omega, by omega, by omega, by omega, by omega, by omega, by omega⟩
      ksec := fun _ h => by cases h
      kgrp := fun _ h => by cases h
      krlm := fun _ h => by cases h
      hasm := fun _ h => by simp [In, r0, getA] at h
      hasr := fun _ h => by simp [In, r0, getA] at h }
  rw [s1, s2, s3, s4] at h6
  have hra : RingAt w6 w.heap.size (w.heap.size + 5) Q TB A PL (r0, s) := by rw [← s5]; exact ⟨_, _, _, _, _, _, _, _, _, hR⟩
  subst h1 h2 h3 h4 h5
  simp only [ringC] at h6
  have hmm := @run_makeMap Tryz.prog
  refine calls_cps fun R0 hR0 => ?_
  have hRR := hR0 (.returned (.pointer (some ⟨w.heap.size + 5, 0, none⟩))) w6 ⟨_, rfl, hra, hE⟩
  have H6 := Lib.hid h6
  clear hR0 hR hra hE hb y2 y3 y4 y5 x1 x2 x3 x4 x5 x6 s1 s2 s3 s4 s5 h6 h e lq lt la lp
  go_enter Tryz.func8, Tryz.ntmps8
  go_wp2
  rw [← H6.out] at hRR
  exact hRR
end Go.Proofs.YtcmhgpgookiomaaGreat
namespace Go.Proofs.YtcmhgpgookiomaaGreat

theorem Small.putSec {k b : Nat} {r : PR} (h : Small k b r) (n : Nat) (x : By) : Small (k + 1) b { r with sec := putA r.sec n x } :=
  { h.mono (Nat.le_succ k) (Nat.le_refl b) with
    sec := by have := len_put r.sec n x; have := h.sec; show (putA r.sec n x).length ≤ k + 1; omega
    rsec := rise_put h.rsec _ _ }
theorem Small.addGrp {k b : Nat} {r : PR} (h : Small k b r) (n : Nat) (x : Nat × By) : Small (k + 1) b { r with grp := putA r.grp n x, mem := putA r.mem n [] } :=
  { h.putMem n [] (by simp) with
    grp := by have := len_put r.grp n x; have := h.grp; show (putA r.grp n x).length ≤ k + 1; omega
    rgrp := rise_put h.rgrp _ _ }
theorem Small.addRlm {k b : Nat} {r : PR} (h : Small k b r) (n : Nat) (x : Nat × By) (g : Nat) : Small (k + 1) b { r with rlm := putA r.rlm n x, rdr := putA r.rdr n [(g, ())] } :=
  { h.putRdr n [(g, ())] (by simp) with
    rlm := by have := len_put r.rlm n x; have := h.rlm; show (putA r.rlm n x).length ≤ k + 1; omega
    rrlm := rise_put h.rrlm _ _ }

theorem small_change {k b : Nat} {st st' : St} {c : ChgP} {n : Nat} (h : Small k b st.1) (hk : k ≤ 12) (hm : ∀ g, In st.1.grp g → In st.1.mem g) (hr : ∀ m, In st.1.rlm m → In st.1.rdr m) (he : changeP st c = some (n, st')) : Small (k + 1) (b + 1000) st'.1 := by
  have same : Small (k + 1) (b + 1000) st.1 := h.mono (by omega) (by omega)
  unfold changeP at he
  simp only at he
  split at he
  · split at he
    · cases he; exact same
    · obtain ⟨x, _, h2⟩ := Option.map_eq_some_iff.1 he
      cases h2
      exact (h.putSec c.who x.1).mono (Nat.le_refl _) (by omega)
  · split at he
    · split at he
      · cases he; exact same
      · obtain ⟨x, _, h2⟩ := Option.map_eq_some_iff.1 he
        cases h2
        exact (h.addGrp c.group (0, x.1)).mono (Nat.le_refl _) (by omega)
    · split at he
      · split at he
        · cases he; exact same
        · split at he
          · obtain ⟨x, _, h1⟩ := Option.bind_eq_some_iff.1 he
            obtain ⟨s1, h2, h3⟩ := Option.map_eq_some_iff.1 h1
            cases h3
            exact (Small.eff (st := ({ st.1 with rlm := putA st.1.rlm c.realm (0, x.1), rdr := putA st.1.rdr c.realm [(c.group, ())] }, x.2)) (h.addRlm c.realm (0, x.1) c.group) (Eff.of_like (readerP_like h2))).mono (Nat.le_refl _) (by omega)
          · cases he; exact same
      · split at he
        · split at he
          · split at he
            · rename_i hg
              split at he
              · cases he; exact same
              · split at he
                · obtain ⟨s1, h2, h3⟩ := Option.map_eq_some_iff.1 he
                  cases h3
                  have hp := h.putMem c.group (putA (memA st.1 c.group) c.who ()) (by have := len_put (memA st.1 c.group) c.who (); have := h.imem c.group; omega)
                  exact (Small.eff (st := ({ st.1 with mem := putA st.1.mem c.group (putA (memA st.1 c.group) c.who ()) }, st.2)) hp (Eff.of_like (memberP_like h2))).mono (Nat.le_refl _) (by omega)
                · obtain ⟨s1, h2, h3⟩ := Option.bind_eq_some_iff.1 he
                  obtain ⟨s2, h4, h5⟩ := Option.map_eq_some_iff.1 h3
                  cases h5
                  have hd := h.delMem c.group c.who (hm _ hg)
                  have e1 := (rekeyP_eff (st := ({ st.1 with mem := putA st.1.mem c.group (delA (memA st.1 c.group) c.who) }, st.2)) hd.rgrp hg h2).le (hd.imem c.group)
                  have hs1 := Small.eff hd e1
                  have e2 := turns_eff hs1.rrlm (fun m hm => read_in hm) (fun m => Nat.le_trans (hs1.irdr m) hk) h4
                  have hl := read_len s1.1 c.group
                  have hl2 := hs1.rlm
                  exact (Small.eff hs1 e2).mono (by omega) (by omega)
            · cases he; exact same
          · cases he; exact same
        · split at he
          · split at he
            · rename_i hg
              split at he
              · rename_i hl
                split at he
                · cases he; exact same
                · split at he
                  · obtain ⟨s1, h2, h3⟩ := Option.map_eq_some_iff.1 he
                    cases h3
                    have hp := h.putRdr c.realm (putA (rdrA st.1 c.realm) c.group ()) (by have := len_put (rdrA st.1 c.realm) c.group (); have := h.irdr c.realm; omega)
                    exact (Small.eff (st := ({ st.1 with rdr := putA st.1.rdr c.realm (putA (rdrA st.1 c.realm) c.group ()) }, st.2)) hp (Eff.of_like (readerP_like h2))).mono (Nat.le_refl _) (by omega)
                  · obtain ⟨s1, h2, h3⟩ := Option.bind_eq_some_iff.1 he
                    obtain ⟨s2, h4, h5⟩ := Option.bind_eq_some_iff.1 h3
                    obtain ⟨s3, h6, h7⟩ := Option.map_eq_some_iff.1 h5
                    cases h7
                    have hd := h.delRdr c.realm c.group (hr _ hl)
                    have e1 := (rekeyP_eff (st := ({ st.1 with rdr := putA st.1.rdr c.realm (delA (rdrA st.1 c.realm) c.group) }, st.2)) hd.rgrp hg h2).le (hd.imem c.group)
                    have hs1 := Small.eff hd e1
                    have e2 := readers_eff h4
                    have hs2 := Small.eff hs1 e2
                    have e3 := turnP_eff hs2.rrlm ((in_of_nums e2.rlm).2 ((in_of_nums e1.rlm).2 hl)) h6
                    have q1 := read_len s1.1 c.group
                    have q2 := hs1.rlm
                    have q3 := hs2.irdr c.realm
                    exact (Small.eff hs2 e3).mono (by omega) (by omega)
              · cases he; exact same
            · cases he; exact same
          · cases he; exact same
end Go.Proofs.YtcmhgpgookiomaaGreat
namespace Go.Proofs.YtcmhgpgookiomaaGreat
open Go.RowKit Go.Shelf Go.Maps

attribute [local go_sem] Oper.semAt_some

theorem lits_u32 (m x : Nat) (h : x < 4294967296) : ∃ L, Tryz.prog.keyLits (m + 1) 22 [.int .u32 (x : Int)] = some L := by
  unfold Program.keyLits
  rw [Tryz.underlying22]
  exact ⟨[.int .u32 (x : Int)], if_pos ⟨rfl, WalkArith.wf_u32 (by omega)⟩⟩
theorem cells_u32 : Tryz.prog.cellsOf 22 = 1 := by kernel_rfl
theorem cells_pair : Tryz.prog.cellsOf 149 = 2 := by kernel_rfl
theorem kt_pair : Tryz.prog.keyType 149 = true := by kernel_rfl
def pairV (g e : Nat) : Value := .agg #[.int .u32 (g : Int), .int .u32 (e : Int)]
theorem pairV_inj {g e g' e' : Nat} (h : pairV g e = pairV g' e') : g = g' ∧ e = e' := by
  unfold pairV at h
  simp only [Value.agg.injEq, Array.mk.injEq, List.cons.injEq, Value.int.injEq, true_and, and_true] at h
  omega
theorem pair_lit (g e : Nat) (hg : g < 4294967296) (he : e < 4294967296) : ∃ l, keyOf Tryz.prog 149 (pairV g e) = some l := by
  obtain ⟨m, hm⟩ := size_types
  have hf : (pairV g e).formed Tryz.prog 149 = true := by
    unfold Value.formed pairV
    rw [Tryz.underlying149]
    simp [cells_pair]
  have hl : ∃ L, Tryz.prog.keyLits (m + 4) 149 (pairV g e).cells.toList = some L := by
    have hc : (pairV g e).cells.toList = [.int .u32 (g : Int), .int .u32 (e : Int)] := by simp [pairV, Value.cells]
    rw [hc]
    unfold Program.keyLits
    rw [Tryz.underlying149]
    simp only [cells_pair]
    rw [if_pos ⟨rfl, by simp⟩]
    obtain ⟨L1, e1⟩ := lits_u32 (m + 2) g hg
    obtain ⟨L2, e2⟩ := lits_u32 (m + 2) e he
    simp [List.mapM_cons, cells_u32, e1, e2]
  obtain ⟨L, hL⟩ := hl
  unfold keyOf
  rw [Tryz.underlying149, hm]
  simp only [kt_pair, hf, Bool.and_self, if_true, hL]
  exact ⟨_, rfl⟩
set_option maxRecDepth 20000 in
theorem buildSlice_key (l : List Value) (h : l.length = 32) (w : World) : (Instr.buildSlice 150 1 #[(0, .agg l.toArray)]).run Tryz.prog w = .ok (.slice (some ⟨w.heap.size, 0, none⟩) 1 1) (w.alloc (.cells l.toArray 51)) := by
  match l, h with
  | [b0, b1, b2, b3, b4, b5, b6, b7, b8, b9, b10, b11, b12, b13, b14, b15, b16, b17, b18, b19, b20, b21, b22, b23, b24, b25, b26, b27, b28, b29, b30, b31], _ => refine Eq.trans (b := .ok (.slice (some ⟨w.heap.size, 0, none⟩) 1 1) (w.alloc (.cells #[b0, b1, b2, b3, b4, b5, b6, b7, b8, b9, b10, b11, b12, b13, b14, b15, b16, b17, b18, b19, b20, b21, b22, b23, b24, b25, b26, b27, b28, b29, b30, b31] 51))) ?_ rfl; kernel_rfl
end Go.Proofs.YtcmhgpgookiomaaGreat
