/-
  The law ChachaStreams.
-/
import Derived.Test.YtijpbbjblenhaaaChJ
import Derived.Test.YtijpbbjblenhaaaChL
import Derived.Test.YtijpbbjblenhaaaArrEq
import Derived.Test.YtijpbbjblenhaaaBytes
namespace Go.Proofs.Ytijpbbjblenhaaa
open Go.RowKit Go.Shelf

def streamsTab (n : Nat) (X : List UInt8) (t : ByteArray) : Kind :=
  if n = 8 ∨ n = 14 then .grows (Bs X) (SliceN X.length) else if n = 9 ∨ n = 15 then .grows (Is (.string t)) (IsSh (.string t)) else .reads

set_option maxRecDepth 20000 in
set_option maxHeartbeats 4000000 in
theorem chachaStreams_any (key : List UInt8) (n : UInt32) (nonce : List UInt8) (a : Option Addr) (len c : Nat) (l : List UInt8) (w : World) (hk : key.length = 32) (hn : nonce.length = 12) (hr : Row 1 w a len c (l.map u8v)) :
    Calls Try.prog 5 #[aggB key, .int .u32 (n.toNat : Int), aggB nonce, .slice a len c] w fun e w' => e = .returned (.bool true) ∧ Ext w w' := by
  have hll : l.length = len := by have := hr.2.2.1; simpa using this
  have hlc := hr.1
  have hmx := hr.2.1
  unfold maxLen at hmx
  have hst1 := fun w (h : Row 1 w a len c (l.map u8v)) (hl : len ≤ 4294967296) => stream_any key nonce n a len c l w hk hn h hl
  have hst2 := fun w (h : Row 1 w a len c (l.map u8v)) (hl : len ≤ 4294967296) => refStream_any key nonce n a len c l w hk hn h hl
  have hXl := streamL_length n l hk hn
  obtain ⟨X, hX⟩ : ∃ X, streamL key n nonce l = X := ⟨_, rfl⟩
  rw [hX] at hst1 hst2 hXl
  rw [hll] at hXl
  have HXl := Lib.hid hXl
  clear hX hXl hll
  have hik := Lib.hid (show (Try.prog.info? 25).map (·.size) = some (key.map u8v).toArray.size by rw [info_key]; simp [hk])
  have hin := Lib.hid (show (Try.prog.info? 26).map (·.size) = some (nonce.map u8v).toArray.size by rw [info_nonce]; simp [hn])
  refine calls_cps fun R hR => ?_
  unfold aggB at hst1 hst2 ⊢
  obtain ⟨cK, hcK⟩ : ∃ c, (key.map u8v).toArray = c := ⟨_, rfl⟩
  obtain ⟨cN, hcN⟩ : ∃ c, (nonce.map u8v).toArray = c := ⟨_, rfl⟩
  rw [hcK] at hst1 hst2 hik ⊢
  rw [hcN] at hst1 hst2 hin ⊢
  clear hcK hcN hk hn
  have HB : Hid (∀ w1, Ext ((w.alloc (.cells cK 25)).alloc (.cells cN 26)) w1 → Ext w w1 ∧ w1.heap[w.heap.size]? = some (.cells cK 25 (0, 0)) ∧ w1.heap[w.heap.size + 1]? = some (.cells cN 26 (0, 0))) := fun w1 h => by
    have e : ∀ (A : World) (o : Obj), Ext A (A.alloc o) := fun A o => (Keep.refl _ A).alloc o
    have k1 := World.alloc_heap_new w (.cells cK 25)
    have k2 := World.alloc_heap_new (w.alloc (.cells cK 25)) (.cells cN 26)
    simp only [World.size_alloc] at k2
    exact ⟨((e _ _).trans (e _ _)).trans h, h.block _ _ ((e _ _).block _ _ k1 (fun h => h)) (fun h => h), h.block _ _ k2 (fun h => h)⟩
  go_enter Try.func5, Try.ntmps5
  go_wp2_with fail
  refine (awake04_any _).mono ?_; rintro e w1 ⟨rfl, e1⟩
  obtain ⟨E1, bK, bN⟩ := HB.out w1 e1
  clear HB e1
  go_wp2
  obtain ⟨t, ht⟩ : ∃ t, (⟨X.toArray⟩ : ByteArray) = t := ⟨_, rfl⟩
  by_cases hA : 500 < len
  · have hAb : decide ((500 : Int) < (len : Int)) = true := by simp; omega
    refine wp_flow (fun _ => .reads) (by kernel_rfl) (by kernel_rfl) ?_
    repeat (first | (refine flow_r rfl rfl ?_; go_big_quiet_step (fail); refine wpQuiet_nil ?_) | (refine flow_s rfl rfl ?_; simp only [Act.put, List.setIfInBounds_toArray, List.set_cons_succ, List.set_cons_zero]))
    refine flow_end (fun w9 hE9 _ => ?_)
    have hEn := E1.trans (((Keep.refl _ w1).drew).trans hE9)
    clear hst1 hst2
    go_wp2
    try exact ⟨rfl, hEn⟩
  · have hAb : decide ((500 : Int) < (len : Int)) = false := by simp; omega
    refine wp_flow (fun n => streamsTab n X t) (by kernel_rfl) (by kernel_rfl) ?_
    repeat (refine flow_r rfl rfl ?_; go_big_quiet_step (fail); refine wpQuiet_nil ?_)
    refine flow_v (v := .agg cK) rfl rfl (fun w' hE => exec_load_row rfl rfl (((((Keep.refl _ w1).drew).trans hE)).block _ _ bK (fun h => h)) Try.underlying25 rfl hik.out) ?_
    simp only [Act.put, List.setIfInBounds_toArray, List.set_cons_succ, List.set_cons_zero]
    refine flow_r rfl rfl ?_; go_big_quiet_step (fail); refine wpQuiet_nil ?_
    refine flow_v (v := .agg cN) rfl rfl (fun w' hE => exec_load_row rfl rfl (((((Keep.refl _ w1).drew).trans hE)).block _ _ bN (fun h => h)) Try.underlying26 rfl hin.out) ?_
    simp only [Act.put, List.setIfInBounds_toArray, List.set_cons_succ, List.set_cons_zero]
    refine flow_r rfl rfl ?_; go_big_quiet_step (fail); refine wpQuiet_nil ?_
    refine flow_g rfl rfl (by simp) ⟨_, none, 0, rfl⟩ (fun _ _ _ h hE => h.mono hE) (fun _ _ h => h.sh) (fun w2 hE2 hf => ?_) (fun v hv => ?_)
    · have hD : Ext w w2 := E1.trans (((Keep.refl _ w1).drew).trans hE2)
      go_wp2_with fail
      refine (hst1 w2 (hr.ext hD) (by omega)).mono ?_
      rintro e w3 ⟨a', c', rfl, hown, hE3⟩
      have hB3 : Bs X (.slice a' len c') w3 := by have := Bs.of_own hown HXl.out; exact this
      go_wp2
      try exact ⟨hE3, hB3⟩
    obtain ⟨av, cv, rfl⟩ := hv
    simp only [Act.put, List.setIfInBounds_toArray, List.set_cons_succ, List.set_cons_zero]
    refine flow_g rfl rfl (by simp) ⟨_, rfl⟩ (fun _ _ _ h hE => h) (fun _ _ h => h) (fun w2 hE2 hf => ?_) (fun v hv => ?_)
    · have hB2 : Bs X (.slice av X.length cv) w2 := hf 8 (by kernel_rfl)
      obtain ⟨_, _, q, hrow⟩ := hB2
      cases q
      have s1 := run_string_row (P := Try.prog) w2 37 9 5 Try.underlying37 Try.underlying5 Try.underlying9 hrow
      rw [ht] at s1
      go_wp2
      exact ⟨Keep.refl _ _, rfl⟩
    cases hv
    simp only [Act.put, List.setIfInBounds_toArray, List.set_cons_succ, List.set_cons_zero]
    refine flow_v (v := .agg cK) rfl rfl (fun w' hE => exec_load_row rfl rfl (((((Keep.refl _ w1).drew).trans hE)).block _ _ bK (fun h => h)) Try.underlying25 rfl hik.out) ?_
    simp only [Act.put, List.setIfInBounds_toArray, List.set_cons_succ, List.set_cons_zero]
    refine flow_r rfl rfl ?_; go_big_quiet_step (fail); refine wpQuiet_nil ?_
    refine flow_v (v := .agg cN) rfl rfl (fun w' hE => exec_load_row rfl rfl (((((Keep.refl _ w1).drew).trans hE)).block _ _ bN (fun h => h)) Try.underlying26 rfl hin.out) ?_
    simp only [Act.put, List.setIfInBounds_toArray, List.set_cons_succ, List.set_cons_zero]
    refine flow_r rfl rfl ?_; go_big_quiet_step (fail); refine wpQuiet_nil ?_
    refine flow_g rfl rfl (by simp) ⟨_, none, 0, rfl⟩ (fun _ _ _ h hE => h.mono hE) (fun _ _ h => h.sh) (fun w2 hE2 hf => ?_) (fun v hv => ?_)
    · have hD : Ext w w2 := E1.trans (((Keep.refl _ w1).drew).trans hE2)
      go_wp2_with fail
      refine (hst2 w2 (hr.ext hD) (by omega)).mono ?_
      rintro e w3 ⟨a', c', rfl, hown, hE3⟩
      have hB3 : Bs X (.slice a' len c') w3 := by have := Bs.of_own hown HXl.out; exact this
      go_wp2
      try exact ⟨hE3, hB3⟩
    obtain ⟨aw, cw, rfl⟩ := hv
    simp only [Act.put, List.setIfInBounds_toArray, List.set_cons_succ, List.set_cons_zero]
    refine flow_g rfl rfl (by simp) ⟨_, rfl⟩ (fun _ _ _ h hE => h) (fun _ _ h => h) (fun w2 hE2 hf => ?_) (fun v hv => ?_)
    · have hB2 : Bs X (.slice aw X.length cw) w2 := hf 14 (by kernel_rfl)
      obtain ⟨_, _, q, hrow⟩ := hB2
      cases q
      have s1 := run_string_row (P := Try.prog) w2 37 9 5 Try.underlying37 Try.underlying5 Try.underlying9 hrow
      rw [ht] at s1
      go_wp2
      exact ⟨Keep.refl _ _, rfl⟩
    cases hv
    simp only [Act.put, List.setIfInBounds_toArray, List.set_cons_succ, List.set_cons_zero]
    repeat (refine flow_r rfl rfl ?_; go_big_quiet_step (fail); refine wpQuiet_nil ?_)
    refine flow_end (fun w9 hE9 _ => ?_)
    have hEn := E1.trans (((Keep.refl _ w1).drew).trans hE9)
    clear hst1 hst2
    go_wp2
    try exact ⟨rfl, hEn⟩
end Go.Proofs.Ytijpbbjblenhaaa
