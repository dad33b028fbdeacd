/-
  disk.New.
-/
import Derived.Test.YtdopaoajbjodeaaDkE
namespace Go.Proofs.Ytdopaoajbjodeaa
open Go.RowKit Go.Shelf

attribute [local go_sem] Oper.semAt_some

theorem owns_mono {w : World} {base base' e sz n : Nat} {v : Value} {xs : List Value} (h : w.ownsRow base e sz v n xs) (hb : base' ≤ base) : w.ownsRow base' e sz v n xs :=
  ⟨h.1, h.2.imp id (fun ⟨g, cap, cur, h1, h2, h3⟩ => ⟨g, cap, cur, h1, Nat.le_trans hb h2, h3⟩)⟩
/-- A slice with N zero sectors, in a block of its own. -/
def NewSec (base N : Nat) (v : Value) (w : World) : Prop := ∃ g, v = .slice (some ⟨g, 0, none⟩) N N ∧ base ≤ g ∧ Arr w g 60 ((zeros (N * 64)).map u8v)
def NewSecSh (N : Nat) (v : Value) : Prop := ∃ g, v = .slice (some ⟨g, 0, none⟩) N N
def NewCr (base n : Nat) (cr : List (Int × Int)) (v : Value) (w : World) : Prop := w.ownsRow base 36 2 v n (crC cr)
def NewCrSh (n : Nat) (v : Value) : Prop := ∃ a c, v = .slice a n c
def NewBoxSh (v : Value) : Prop := ∃ B, v = .pointer (some ⟨B, 0, none⟩)
/-- The struct that New hands back. -/
def NewDiskV (base : Nat) (N : Nat) (cr : List (Int × Int)) (v : Value) (w' : World) : Prop :=
  ∃ B gs gc, v = .pointer (some ⟨B, 0, none⟩) ∧ PD w' B gs gc ⟨zeros (N * 64), N, cr, 0, true⟩ ∧ base ≤ B ∧ base ≤ gs ∧ (0 < cr.length → base ≤ gc)
def NewDisk (w : World) (N : Nat) (cr : List (Int × Int)) (e : Ending) (w' : World) : Prop := ∃ v, e = .returned v ∧ NewDiskV w.heap.size N cr v w' ∧ Ext w w'
theorem newDiskV_of {w w' : World} {base N m : Nat} {cr : List (Int × Int)} {v3 v5 : Value} (hm : cr.length = m) (h3 : NewSec base N v3 w) (h5 : NewCr base m cr v5 w) (hE : Ext w w') {B : Nat} (hB : w.heap.size ≤ B) (hb : base ≤ w.heap.size)
    (hA : Arr w' B 66 [v3, v5, .int .i64 0, .bool true]) (hN : N ≤ 65536) : NewDiskV base N cr (.pointer (some ⟨B, 0, none⟩)) w' := by
  obtain ⟨g, rfl, hg, ha⟩ := h3
  obtain ⟨ac, cc, rfl, hr⟩ := owns_row h5
  have hgl := ha.lt
  have hne : ∀ p, ac = some p → p.block < w.heap.size ∧ base ≤ p.block ∧ p.block ≠ g := fun p hp => by
    subst hp
    have h1 := h5.lt p.block rfl
    refine ⟨h1.2, h1.1, fun he => ?_⟩
    rcases h5.2 with ⟨h', _⟩ | ⟨g', cap, cur, h', hb, hg', _⟩
    · cases h'
    · cases h'
      simp only at he
      subst he
      unfold Arr at ha
      rw [hg'] at ha
      cases ha
  refine ⟨B, g, (match ac with | some p => p.block | none => 0), rfl, ⟨⟨ac, cc, N, [], ?_, ?_, ?_, ?_, Nat.le_refl _, ?_⟩, ?_, ?_, ?_, ?_, ?_, hN⟩, by omega, hg, ?_⟩
  · rw [hm]; exact hA
  · rw [hm]; exact hr.ext hE
  · intro p hp _; subst hp; rfl
  · intro _; rw [List.append_nil]; exact ha.ext hE
  · show N ≤ _; omega
  · simp [zeros]
  · exact Nat.lt_of_lt_of_le hgl hE.size
  · omega
  · intro hl
    cases ac with
    | none => have := hr.2.2.2.1 rfl; have := hr.1; simp only at hl; omega
    | some p => have := (hne p rfl).1; show p.block ≠ B; omega
  · intro hl
    cases ac with
    | none => have := hr.2.2.2.1 rfl; have := hr.1; simp only at hl; omega
    | some p => exact (hne p rfl).2.2
  · intro hl
    cases ac with
    | none => have := hr.2.2.2.1 rfl; have := hr.1; omega
    | some p => exact (hne p rfl).2.1
theorem info_sec4 : ∃ i, Try.prog.info? 60 = some i ∧ i.zero = some (.agg (List.replicate 64 (.int .u8 0)).toArray) ∧ i.size = 64 ∧ i.bytes = 64 := info_parts info_sec3
theorem zeros_v (n : Nat) : (zeros n).map u8v = List.replicate n (.int .u8 0) := by simp [zeros, u8v]

set_option maxRecDepth 20000 in
set_option maxHeartbeats 2000000 in
theorem dnew_any (n : Int) (N : Nat) (hN : (min (max n 0) 65536 : Int) = (N : Int)) (a : Option Addr) (c : Nat) (cr : List (Int × Int)) (w : World) (h : Row 2 w a cr.length c (crC cr)) (hc : cr.length ≤ 1000000) :
    Calls Try.prog 11 #[.int .i64 n, .slice a cr.length c] w (NewDisk w N cr) := by
  have hN2 : N ≤ 65536 := by omega
  have HN := Lib.hid hN
  obtain ⟨i1, hi1, hz1, hy1, hx1⟩ := info_sec4
  refine calls_cps fun R hR => ?_
  have hcl := fun w h => cloneCr_any a cr.length c cr w h hc
  obtain ⟨m, hm⟩ : ∃ m, cr.length = m := ⟨_, rfl⟩
  rw [hm] at hcl h hc ⊢
  have HM := Lib.hid hm
  clear hN hm
  go_enter Try.func11, Try.ntmps11
  go_wp2
  refine wp_flow (fun k => if k = 3 then .grows (NewSec w.heap.size N) (NewSecSh N) else if k = 5 then .grows (NewCr w.heap.size m cr) (NewCrSh m) else if k = 7 then .grows (NewDiskV w.heap.size N cr) NewBoxSh else .reads) (by kernel_rfl) (by kernel_rfl) ?_
  refine flow_r rfl rfl ?_; go_big_quiet_step (fail); refine wpQuiet_nil ?_
  refine flow_v rfl rfl (fun w' hE => exec_max rfl rfl rfl) ?_
  simp only [Act.put, List.setIfInBounds_toArray, List.set_cons_succ, List.set_cons_zero]
  refine flow_v rfl rfl (fun w' hE => exec_min rfl rfl rfl) ?_
  simp only [Act.put, List.setIfInBounds_toArray, List.set_cons_succ, List.set_cons_zero]
  rw [HN.out]
  refine flow_g rfl rfl (by simp) ⟨_, 0, rfl⟩ (fun v A B ⟨g, h1, h2, h3⟩ hE => ⟨g, h1, h2, h3.ext hE⟩) (fun v A ⟨g, h1, h2, h3⟩ => ⟨g, h1⟩) (fun w2 hE2 _ => ?_) (fun v hv => ?_)
  · have hs2 := hE2.size
    have hX2 := ((Keep.refl _ w).drew).trans hE2
    have hzs := zeros_v (N * 64)
    have hS : NewSec w.heap.size N (.slice (some ⟨w2.heap.size, 0, none⟩) N N) (w2.alloc (.cells (List.replicate (N * 64) (.int .u8 0)).toArray 60)) := ⟨_, rfl, hs2, by rw [hzs]; exact Arr.new _ _ _⟩
    have HS := Lib.hid hS
    have HE := Lib.hid ((Keep.refl (fun _ _ => False) w2).alloc (.cells (List.replicate (N * 64) (.int .u8 0)).toArray 60))
    clear hS hzs
    obtain ⟨W, hW⟩ : ∃ W, w2.alloc (.cells (List.replicate (N * 64) (.int .u8 0)).toArray 60) = W := ⟨_, rfl⟩
    go_wp2_with (at_make; go_must (refine wpList_make_many rfl _ _ 63 rfl 60 i1 _ 64 (by decide) Try.underlying63 hi1 hz1 hy1 .i64 .i64 _ _ N rfl rfl rfl rfl (by rw [hx1]; omega) (by unfold maxLen; omega) ?_); rw [hW])
    rw [hW] at HS HE
    exact ⟨HE.out, HS.out⟩
  obtain ⟨g, rfl⟩ := hv
  simp only [Act.put, List.setIfInBounds_toArray, List.set_cons_succ, List.set_cons_zero]
  refine flow_r rfl rfl ?_; go_big_quiet_step (fail); refine wpQuiet_nil ?_
  refine flow_g rfl rfl (by simp) ⟨_, none, 0, rfl⟩ (fun v A B h hE => Ext.owns hE h) (fun v A h => let ⟨a, c, h1, _⟩ := owns_row h; ⟨a, c, h1⟩) (fun w2 hE2 _ => ?_) (fun v hv => ?_)
  · have hs2 := hE2.size
    have hX2 := ((Keep.refl _ w).drew).trans hE2
    go_wp2_with fail
    refine (hcl w2 (h.ext hX2)).mono ?_
    rintro e w3 ⟨v, rfl, hown, hE3⟩
    have HO := Lib.hid (show NewCr w.heap.size m cr v w3 from owns_mono hown hs2)
    obtain ⟨a', c', rfl, _⟩ := owns_row hown
    clear hown
    go_wp2
    first | exact ⟨hE3, HO.out⟩ | exact HO.out
  obtain ⟨a', c', rfl⟩ := hv
  simp only [Act.put, List.setIfInBounds_toArray, List.set_cons_succ, List.set_cons_zero]
  refine flow_r rfl rfl ?_; go_big_quiet_step (fail); refine wpQuiet_nil ?_
  refine flow_g rfl rfl (by simp) ⟨_, 0, rfl⟩ (fun v A B ⟨b, g, gc, h1, h2, h3⟩ hE => ⟨b, g, gc, h1, h2.ext hE, h3⟩) (fun v A ⟨b, g, gc, h1, h2⟩ => ⟨b, h1⟩) (fun w2 hE2 hf => ?_) (fun v hv => ?_)
  · have hs2 := hE2.size
    have H3 : NewSec w.heap.size N (.slice (some ⟨g, 0, none⟩) N N) w2 := hf 3 (by kernel_rfl)
    have H5 : NewCr w.heap.size m cr (.slice a' m c') w2 := hf 5 (by kernel_rfl)
    have HD := Lib.hid (newDiskV_of HM.out H3 H5 ((Keep.refl (fun _ _ => False) w2).alloc (.cells #[.slice (some ⟨g, 0, none⟩) N N, .slice a' m c', .int .i64 0, .bool true] 66)) (Nat.le_refl _) hs2 (Arr.new w2 66 [.slice (some ⟨g, 0, none⟩) N N, .slice a' m c', .int .i64 0, .bool true]) hN2)
    clear H3 H5 hf
    go_wp2
    exact ⟨(Keep.refl _ w2).alloc _, HD.out⟩
  obtain ⟨B, rfl⟩ := hv
  simp only [Act.put, List.setIfInBounds_toArray, List.set_cons_succ, List.set_cons_zero]
  refine flow_r rfl rfl ?_; go_big_quiet_step (fail); refine wpQuiet_nil ?_
  refine flow_end (fun w2 hE2 hf => ?_)
  have HD : NewDiskV w.heap.size N cr (.pointer (some ⟨B, 0, none⟩)) w2 := hf 7
  have H := Lib.hid HD
  clear HD hf
  go_wp2
  exact ⟨_, rfl, H.out, ((Keep.refl _ w).drew).trans hE2⟩
end Go.Proofs.Ytdopaoajbjodeaa
