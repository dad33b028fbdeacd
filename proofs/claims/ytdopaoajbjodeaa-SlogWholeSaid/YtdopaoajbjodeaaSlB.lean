/-
  slog.region, the reference's; Format.
-/
import Derived.Test.YtdopaoajbjodeaaSlA
import Derived.Test.YtdopaoajbjodeaaDkK
namespace Go.Proofs.Ytdopaoajbjodeaa
open Go.RowKit Go.Shelf

attribute [local go_sem] Oper.semAt_some

/-- Whether there is such a region on a disk of so many sectors. -/
def isR (fr n : Int) (len : Nat) : Bool := decide (0 ≤ fr ∧ 2 ≤ n ∧ fr ≤ (len : Int) ∧ n ≤ (len : Int) - fr)

set_option maxRecDepth 20000 in
set_option maxHeartbeats 2000000 in
theorem is_any {w : World} {B gs gc : Nat} {s : DSt} (h : PD w B gs gc s) (fr n g : Int) (hfr : -9223372036854775808 ≤ fr ∧ fr ≤ 9223372036854775807) (hn : -9223372036854775808 ≤ n ∧ n ≤ 9223372036854775807) :
    Calls Try.prog 28 #[.agg #[.pointer (some ⟨B, 0, none⟩), .int .i64 fr, .int .i64 n, .int .u32 g]] w fun e w' => e = .returned (.bool (isR fr n s.n)) ∧ Ext w w' := by
  have hbig := h.big
  have hb := Arr.new w 30 [.pointer (some ⟨B, 0, none⟩), .int .i64 fr, .int .i64 n, .int .u32 g]
  have hE0 : Ext w (w.alloc (.cells #[.pointer (some ⟨B, 0, none⟩), .int .i64 fr, .int .i64 n, .int .u32 g] 30)) := (Keep.refl _ w).alloc _
  have h1 := h.ext hE0
  obtain ⟨l, hl⟩ : ∃ l, s.n = l := ⟨_, rfl⟩
  have hlc : ∀ A, Ext (w.alloc (.cells #[.pointer (some ⟨B, 0, none⟩), .int .i64 fr, .int .i64 n, .int .u32 g] 30)) A → Calls Try.prog 41 #[.pointer (some ⟨B, 0, none⟩)] A fun e w' => e = .returned (.int .i64 (l : Int)) ∧ Ext A w' := fun A hA => by rw [← hl]; exact dlen_any (h1.ext hA)
  rw [hl] at hbig
  rw [hl]
  refine calls_cps fun R hR => ?_
  have hfin : ∀ b w2, isR fr n l = b → Ext (w.alloc (.cells #[.pointer (some ⟨B, 0, none⟩), .int .i64 fr, .int .i64 n, .int .u32 g] 30)) w2 → R (.returned (.bool b)) w2 := fun b w2 h1 h2 => hR _ _ ⟨by rw [h1], hE0.trans h2⟩
  clear hR h1 h hE0 hl
  go_enter Try.func28, Try.ntmps28
  go_wp2
  obtain ⟨W, hW⟩ : ∃ x, w.alloc (.cells #[.pointer (some ⟨B, 0, none⟩), .int .i64 fr, .int .i64 n, .int .u32 g] 30) = x := ⟨_, rfl⟩
  have hb' : Arr W w.heap.size 30 [.pointer (some ⟨B, 0, none⟩), .int .i64 fr, .int .i64 n, .int .u32 g] := by rw [← hW]; exact hb
  rw [hW] at hlc hfin ⊢
  clear hb hW
  have c0 := hb'.cell (i := 0) rfl
  have c1 := hb'.cell (i := 1) rfl
  have c2 := hb'.cell (i := 2) rfl
  have hD : ∀ g : At W.drew, Ext W g.w := fun g => ((Keep.refl _ W).drew).trans g.ext
  have d0 := fun g => (hD g).cell c0
  have d1 := fun g => (hD g).cell c1
  have d2 := fun g => (hD g).cell c2
  clear c0 c1 c2
  by_cases q1 : fr < 0
  · have hv : isR fr n l = false := by unfold isR; rw [decide_eq_false_iff_not]; omega
    have k1 : decide (0 ≤ fr) = false := by simpa using q1
    have hf := fun w2 => hfin false w2 hv
    clear hfin hlc hv
    refine wp_flow (fun _ => .reads) (by kernel_rfl) (by kernel_rfl) ?_
    repeat (first | (refine flow_r rfl rfl ?_; go_big_quiet_step (fail); refine wpQuiet_nil ?_) | (refine flow_s rfl rfl ?_; simp only [Act.put, List.setIfInBounds_toArray, List.set_cons_succ, List.set_cons_zero]))
    refine flow_end (fun w2 hE2 _ => ?_)
    have hf2 := hf w2 (((Keep.refl _ W).drew).trans hE2)
    clear hf
    go_wp2
    exact hf2
  · by_cases q2 : n < 2
    · have hv : isR fr n l = false := by unfold isR; rw [decide_eq_false_iff_not]; omega
      have k1 : decide (0 ≤ fr) = true := by simpa using q1
      have k2 : decide (2 ≤ n) = false := by simpa using q2
      have hf := fun w2 => hfin false w2 hv
      clear hfin hlc hv
      refine wp_flow (fun _ => .reads) (by kernel_rfl) (by kernel_rfl) ?_
      repeat (first | (refine flow_r rfl rfl ?_; go_big_quiet_step (fail); refine wpQuiet_nil ?_) | (refine flow_s rfl rfl ?_; simp only [Act.put, List.setIfInBounds_toArray, List.set_cons_succ, List.set_cons_zero]))
      refine flow_end (fun w2 hE2 _ => ?_)
      have hf2 := hf w2 (((Keep.refl _ W).drew).trans hE2)
      clear hf
      go_wp2
      exact hf2
    · by_cases q3 : (l : Int) < fr
      · have hv : isR fr n l = false := by unfold isR; rw [decide_eq_false_iff_not]; omega
        have k1 : decide (0 ≤ fr) = true := by simpa using q1
        have k2 : decide (2 ≤ n) = true := by simpa using q2
        have k3 : decide (fr ≤ (l : Int)) = false := by simpa using q3
        have hf := fun w2 => hfin false w2 hv
        clear hfin hv
        refine wp_flow (fun k => if k = 13 then .grows (Is (.int .i64 (l : Int))) (IsSh (.int .i64 (l : Int))) else .reads) (by kernel_rfl) (by kernel_rfl) ?_
        iterate 13 (refine flow_r rfl rfl ?_; go_big_quiet_step (fail); refine wpQuiet_nil ?_)
        refine flow_g rfl rfl (by simp) ⟨_, rfl⟩ (fun _ _ _ h hE => h) (fun _ _ h => h) (fun w5 hE5 _ => ?_) (fun v hv => ?_)
        · go_wp2_with fail
          refine (hlc w5 (((Keep.refl _ W).drew).trans hE5)).mono ?_
          rintro e w6 ⟨rfl, hE6⟩
          go_wp2
          exact rfl
        cases hv
        simp only [Act.put, List.setIfInBounds_toArray, List.set_cons_succ, List.set_cons_zero]
        repeat (first | (refine flow_r rfl rfl ?_; go_big_quiet_step (fail); refine wpQuiet_nil ?_) | (refine flow_s rfl rfl ?_; simp only [Act.put, List.setIfInBounds_toArray, List.set_cons_succ, List.set_cons_zero]))
        refine flow_end (fun w2 hE2 _ => ?_)
        have hf2 := hf w2 (((Keep.refl _ W).drew).trans hE2)
        clear hf
        go_wp2
        exact hf2
      · have q4 : 0 ≤ (l : Int) - fr := by omega
        have k1 : decide (0 ≤ fr) = true := by simpa using q1
        have k2 : decide (2 ≤ n) = true := by simpa using q2
        have k3 : decide (fr ≤ (l : Int)) = true := by simpa using q3
        have hv : isR fr n l = decide (n ≤ (l : Int) - fr) := by unfold isR; rw [decide_eq_decide]; omega
        have hf := fun w2 => hfin _ w2 hv
        clear hfin hv
        refine wp_flow (fun k => if k = 13 ∨ k = 21 then .grows (Is (.int .i64 (l : Int))) (IsSh (.int .i64 (l : Int))) else .reads) (by kernel_rfl) (by kernel_rfl) ?_
        iterate 13 (refine flow_r rfl rfl ?_; go_big_quiet_step (fail); refine wpQuiet_nil ?_)
        refine flow_g rfl rfl (by simp) ⟨_, rfl⟩ (fun _ _ _ h hE => h) (fun _ _ h => h) (fun w5 hE5 _ => ?_) (fun v hv => ?_)
        · go_wp2_with fail
          refine (hlc w5 (((Keep.refl _ W).drew).trans hE5)).mono ?_
          rintro e w6 ⟨rfl, hE6⟩
          go_wp2
          exact rfl
        cases hv
        simp only [Act.put, List.setIfInBounds_toArray, List.set_cons_succ, List.set_cons_zero]
        iterate 7 (refine flow_r rfl rfl ?_; go_big_quiet_step (fail); refine wpQuiet_nil ?_)
        refine flow_g rfl rfl (by simp) ⟨_, rfl⟩ (fun _ _ _ h hE => h) (fun _ _ h => h) (fun w5 hE5 _ => ?_) (fun v hv => ?_)
        · go_wp2_with fail
          refine (hlc w5 (((Keep.refl _ W).drew).trans hE5)).mono ?_
          rintro e w6 ⟨rfl, hE6⟩
          go_wp2
          exact rfl
        cases hv
        simp only [Act.put, List.setIfInBounds_toArray, List.set_cons_succ, List.set_cons_zero]
        iterate 6 (refine flow_r rfl rfl ?_; go_big_quiet_step (fail); refine wpQuiet_nil ?_)
        refine flow_end (fun w2 hE2 _ => ?_)
        have hf2 := hf w2 (((Keep.refl _ W).drew).trans hE2)
        clear hf
        go_wp2
        exact hf2

set_option maxRecDepth 20000 in
set_option maxHeartbeats 2000000 in
theorem refRegion_any {w : World} {B gs gc : Nat} {s : DSt} (h : RD w B gs gc s) (fr n : Int) (hfr : -9223372036854775808 ≤ fr ∧ fr ≤ 9223372036854775807) (hn : -9223372036854775808 ≤ n ∧ n ≤ 9223372036854775807) :
    Calls Try.prog 35 #[.pointer (some ⟨B, 0, none⟩), .int .i64 fr, .int .i64 n] w fun e w' => e = .returned (.bool (isR fr n s.n)) ∧ w = w' := by
  have hbig := h.big
  obtain ⟨ac, cc, cap, tl, e1, _⟩ := h.ex
  have c0 := e1.cell (i := 0) rfl
  obtain ⟨l, hl⟩ : ∃ l, s.n = l := ⟨_, rfl⟩
  rw [hl] at hbig c0
  rw [hl]
  refine calls_cps fun R hR => ?_
  have hfin : ∀ b, isR fr n l = b → R (.returned (.bool b)) w := fun b h1 => hR _ _ ⟨by rw [h1], rfl⟩
  clear hR h hl e1
  by_cases q1 : fr < 0
  · have hv : isR fr n l = false := by unfold isR; rw [decide_eq_false_iff_not]; omega
    have hf := hfin false hv
    have k1 : decide (0 ≤ fr) = false := by simpa using q1
    clear hfin hv
    go_enter Try.func35, Try.ntmps35
    go_wp2
    try exact hf
  · have k1 : decide (0 ≤ fr) = true := by simpa using q1
    by_cases q2 : n < 2
    · have hv : isR fr n l = false := by unfold isR; rw [decide_eq_false_iff_not]; omega
      have hf := hfin false hv
      have k2 : decide (2 ≤ n) = false := by simpa using q2
      clear hfin hv
      go_enter Try.func35, Try.ntmps35
      go_wp2
      try exact hf
    · have k2 : decide (2 ≤ n) = true := by simpa using q2
      by_cases q3 : (l : Int) < fr
      · have hv : isR fr n l = false := by unfold isR; rw [decide_eq_false_iff_not]; omega
        have hf := hfin false hv
        have k3 : decide (fr ≤ (l : Int)) = false := by simpa using q3
        clear hfin hv
        go_enter Try.func35, Try.ntmps35
        go_wp2
        try exact hf
      · have k3 : decide (fr ≤ (l : Int)) = true := by simpa using q3
        have q4 : 0 ≤ (l : Int) - fr := by omega
        have hv : isR fr n l = decide (n ≤ (l : Int) - fr) := by unfold isR; rw [decide_eq_decide]; omega
        have hf := hfin _ hv
        clear hfin hv
        go_enter Try.func35, Try.ntmps35
        go_wp2
        try exact hf

/-- What Format answers, and the disk behind it. -/
def fmtE (s : DSt) (fr n : Int) : Int := if isR fr n s.n then s.writeE fr else 1
def fmtS (s : DSt) (fr n : Int) : DSt := if isR fr n s.n then s.write fr (zeros 64) else s
def litZ : Array Value := (List.replicate 64 (.int .u8 0)).toArray
theorem aggB_zeros : aggB (zeros 64) = .agg litZ := by unfold aggB litZ; rw [zeros_v]

set_option maxRecDepth 20000 in
set_option maxHeartbeats 2000000 in
theorem format_any {w : World} {B gs gc : Nat} {s : DSt} (h : PD w B gs gc s) (fr n g : Int) (hfr : -9223372036854775808 ≤ fr ∧ fr ≤ 9223372036854775807) (hn : -9223372036854775808 ≤ n ∧ n ≤ 9223372036854775807) (hw : s.wr < 4611686018427387904) :
    Calls Try.prog 12 #[.pointer (some ⟨B, 0, none⟩), .int .i64 fr, .int .i64 n, .int .u32 g] w fun e w' => e = .returned (.int .i64 (fmtE s fr n)) ∧ PD w' B gs gc (fmtS s fr n) ∧ Keep (fun k _ => s.n ≠ 0 ∧ (k = B ∨ k = gs)) w w' := by
  have hi := is_any h fr n g hfr hn
  refine calls_cps fun R hR => ?_
  unfold fmtE fmtS at hR
  go_enter Try.func12, Try.ntmps12
  go_wp2_with fail
  refine hi.mono ?_
  rintro e w1 ⟨rfl, e1⟩
  have h1 := h.ext e1
  clear hi h
  cases hv : isR fr n s.n with
  | false =>
    rw [hv] at hR
    simp only [Bool.false_eq_true, if_false] at hR
    have hf := hR _ _ ⟨rfl, h1, Keep.of_ext e1⟩
    clear hR hv
    go_wp2
    try exact hf
  | true =>
    rw [hv] at hR
    simp only [if_true] at hR
    clear hv
    go_wp2_with fail
    have hc := dwrite_any h1 fr (zeros 64) rfl hw
    rw [aggB_zeros] at hc
    refine hc.mono ?_
    rintro e w2 ⟨rfl, hP, hK⟩
    have hf := hR _ _ ⟨rfl, hP, (Keep.of_ext e1).trans hK⟩
    clear hR hc
    go_wp2
    try exact hf

set_option maxRecDepth 20000 in
set_option maxHeartbeats 2000000 in
theorem refFormat_any {w : World} {B gs gc : Nat} {s : DSt} (h : RD w B gs gc s) (fr n g : Int) (hfr : -9223372036854775808 ≤ fr ∧ fr ≤ 9223372036854775807) (hn : -9223372036854775808 ≤ n ∧ n ≤ 9223372036854775807) (hw : s.wr < 4611686018427387904) :
    Calls Try.prog 22 #[.pointer (some ⟨B, 0, none⟩), .int .i64 fr, .int .i64 n, .int .u32 g] w fun e w' => e = .returned (.int .i64 (fmtE s fr n)) ∧ RD w' B gs gc (fmtS s fr n) ∧ Keep (fun k _ => s.n ≠ 0 ∧ (k = B ∨ k = gs)) w w' := by
  have hi := refRegion_any h fr n hfr hn
  refine calls_cps fun R hR => ?_
  unfold fmtE fmtS at hR
  go_enter Try.func22, Try.ntmps22
  go_wp2_with fail
  refine hi.mono ?_
  rintro e _ ⟨rfl, rfl⟩
  clear hi
  cases hv : isR fr n s.n with
  | false =>
    rw [hv] at hR
    simp only [Bool.false_eq_true, if_false] at hR
    have hf := hR _ _ ⟨rfl, h, Keep.refl _ _⟩
    clear hR hv
    go_wp2
    try exact hf
  | true =>
    rw [hv] at hR
    simp only [if_true] at hR
    clear hv
    go_wp2_with fail
    have hc := refWrite_any h fr (zeros 64) rfl hw
    rw [aggB_zeros] at hc
    refine hc.mono ?_
    rintro e w2 ⟨rfl, hP, hK⟩
    have hf := hR _ _ ⟨rfl, hP, hK⟩
    clear hR hc
    go_wp2
    try exact hf
end Go.Proofs.Ytdopaoajbjodeaa
