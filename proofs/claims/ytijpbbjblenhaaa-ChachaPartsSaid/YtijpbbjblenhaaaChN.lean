/-
  The law ChachaParts.
-/
import Derived.Test.YtijpbbjblenhaaaChJ
import Derived.Test.YtijpbbjblenhaaaArrEq
import Derived.Test.YtijpbbjblenhaaaBytes
namespace Go.Proofs.Ytijpbbjblenhaaa
open Go.RowKit Go.Shelf

theorem ctrAt_ctrAt (n : UInt32) (m i : Nat) : ctrAt (ctrAt n m) i = ctrAt n (m + i) := by
  unfold ctrAt
  rw [UInt32.ofNat_add, UInt32.add_assoc]
theorem ksL_split (key : List UInt8) (n : UInt32) (nonce : List UInt8) (m : Nat) : ∀ j, ksL key n nonce (m + j) = ksL key n nonce m ++ ksL key (ctrAt n m) nonce j
  | 0 => by simp [ksL]
  | j + 1 => by rw [← Nat.add_assoc, ksL_succ, ksL_split key n nonce m j, ksL_succ, ctrAt_ctrAt, List.append_assoc]
theorem streamL_drop {key nonce : List UInt8} (n : UInt32) (l : List UInt8) (hk : key.length = 32) (hn : nonce.length = 12) (m : Nat) (hm : 64 * m ≤ l.length) :
    (streamL key n nonce l).drop (64 * m) = streamL key (ctrAt n m) nonce (l.drop (64 * m)) := by
  unfold streamL strTo xorL
  rw [List.drop_zipWith, show l.length / 64 + 1 = m + ((l.drop (64 * m)).length / 64 + 1) by rw [List.length_drop]; omega, ksL_split, List.drop_left' (ksL_length n hk hn m)]
theorem ctrAt_nat (n : UInt32) (m : Nat) : ((n.toNat : Int) + ((m : Int) % 4294967296)) % 4294967296 = ((ctrAt n m).toNat : Int) := by
  unfold ctrAt
  rw [UInt32.toNat_add, UInt32.toNat_ofNat']
  omega

theorem slice_from (a : Option Addr) (len c j : Nat) (hj : j ≤ len) (w : World) : (Instr.sliceAt 37 (.slice a len c) (some (.int .i64 (j : Int))) none none).run Try.prog w = .ok (.slice (if c = j then a else Option.map (fun x => x.add j) a) (len - j) (c - j)) w := by
  simp [Instr.sliceAt, Instr.slice, Instr.sliceBounds, Instr.sliceBound, Result.andThen, asIntOf, hj]

def partsTab (n : Nat) (t : ByteArray) : Kind := if n = 7 ∨ n = 12 then .grows (Is (.string t)) (IsSh (.string t)) else .reads

set_option maxRecDepth 20000 in
set_option maxHeartbeats 4000000 in
theorem chachaParts_any (key : List UInt8) (n : UInt32) (nonce : List UInt8) (a : Option Addr) (len c : Nat) (l : List UInt8) (m : Int) (w : World) (hk : key.length = 32) (hn : nonce.length = 12) (hr : Row 1 w a len c (l.map u8v)) (hm : -9223372036854775808 ≤ m ∧ m ≤ 9223372036854775807) :
    Calls Try.prog 7 #[aggB key, .int .u32 (n.toNat : Int), aggB nonce, .slice a len c, .int .i64 m] w fun e w' => e = .returned (.bool true) ∧ Ext w w' := by
  have hll : l.length = len := by have := hr.2.2.1; simpa using this
  have hlc := hr.1
  have hmx := hr.2.1
  unfold maxLen at hmx
  have hst1 := fun w (h : Row 1 w a len c (l.map u8v)) (hl : len ≤ 4294967296) => stream_any key nonce n a len c l w hk hn h hl
  have hst2 := fun (n : UInt32) (a : Option Addr) (len c : Nat) (l : List UInt8) w (h : Row 1 w a len c (l.map u8v)) (hl : len ≤ 4294967296) => stream_any key nonce n a len c l w hk hn h hl
  have hXl := streamL_length n l hk hn
  have hdrop := fun m h => streamL_drop n l hk hn m h
  obtain ⟨X, hX⟩ : ∃ X, streamL key n nonce l = X := ⟨_, rfl⟩
  rw [hX] at hst1 hXl hdrop
  rw [hll] at hXl hdrop
  have HXl := Lib.hid hXl
  have HDR := Lib.hid hdrop
  have HLL := Lib.hid hll
  clear hX hXl hll hdrop
  have hik := Lib.hid (show (Try.prog.info? 25).map (·.size) = some (key.map u8v).toArray.size by rw [info_key]; simp [hk])
  have hin := Lib.hid (show (Try.prog.info? 26).map (·.size) = some (nonce.map u8v).toArray.size by rw [info_nonce]; simp [hn])
  refine calls_cps fun R hR => ?_
  unfold aggB at hst1 hst2 ⊢
  obtain ⟨cK, hcK⟩ : ∃ c, (key.map u8v).toArray = c := ⟨_, rfl⟩
  obtain ⟨cN, hcN⟩ : ∃ c, (nonce.map u8v).toArray = c := ⟨_, rfl⟩
  rw [hcK] at hst1 hst2 hik ⊢
  rw [hcN] at hst1 hst2 hin ⊢
  clear hcK hcN hk hn
  have HB : Hid (∀ w1, Ext ((w.alloc (.cells cK 25)).alloc (.cells cN 26)) w1 → Ext w w1 ∧ w1.heap[w.heap.size]? = some (.cells cK 25 (0, 0)) ∧ w1.heap[w.heap.size + 1]? = some (.cells cN 26 (0, 0))) := fun w1 h => by
    have e : ∀ (A : World) (o : Obj), Ext A (A.alloc o) := fun A o => (Keep.refl _ A).alloc o
    have k1 := World.alloc_heap_new w (.cells cK 25)
    have k2 := World.alloc_heap_new (w.alloc (.cells cK 25)) (.cells cN 26)
    simp only [World.size_alloc] at k2
    exact ⟨((e _ _).trans (e _ _)).trans h, h.block _ _ ((e _ _).block _ _ k1 (fun h => h)) (fun h => h), h.block _ _ k2 (fun h => h)⟩
  go_enter Try.func7, Try.ntmps7
  go_wp2_with fail
  refine (awake04_any _).mono ?_; rintro e w1 ⟨rfl, e1⟩
  obtain ⟨E1, bK, bN⟩ := HB.out w1 e1
  clear HB e1
  by_cases hA : 500 < len
  · clear hst1 hst2
    go_wp2
    try exact ⟨rfl, E1⟩
  · by_cases hB : m < 0
    · clear hst1 hst2
      go_wp2
      try exact ⟨rfl, E1⟩
    · obtain ⟨m, rfl⟩ := Int.eq_ofNat_of_zero_le (show 0 ≤ m by omega)
      by_cases hC : len / 64 < m
      · clear hst1 hst2
        have hq : (len : Int) / 64 < (m : Int) := by omega
        go_wp2
        try exact ⟨rfl, E1⟩
      · have hq : ¬ (len : Int) / 64 < (m : Int) := by omega
        go_wp2_with (first | (refine wpList_load_row ?_ 25 (.tmp 5) ?_ w.heap.size ?_ 25 cK (0, 0) _ ?_ Try.underlying25 rfl hik.out ?_; rfl; rfl; rfl; exact bK) | (refine wpList_load_row ?_ 26 (.tmp 7) ?_ (w.heap.size + 1) ?_ 26 cN (0, 0) _ ?_ Try.underlying26 rfl hin.out ?_; rfl; rfl; rfl; exact bN))
        refine (hst1 w1 (hr.ext E1) (by omega)).mono ?_
        rintro e w2 ⟨aw, cw, rfl, hownW, e2⟩
        obtain ⟨_, _, q, hrW⟩ := owns_row hownW
        cases q
        have hlcW := hrW.1
        have hmxW := hrW.2.1
        unfold maxLen at hmxW
        replace bK := e2.block _ _ bK (fun h => h)
        replace bN := e2.block _ _ bN (fun h => h)
        have E2 := E1.trans e2
        clear hownW e2 E1 hst1
        obtain ⟨j, hj⟩ : ∃ j, 64 * m = j := ⟨_, rfl⟩
        have hj1 : (64 * (m : Int)) = (j : Int) := by omega
        have hjl : j ≤ len := by omega
        have hY := HDR.out m (by omega)
        rw [hj] at hY
        have hctr : ((n.toNat : Int) + (m : Int)) % 4294967296 = ((ctrAt n m).toNat : Int) := by rw [← ctrAt_nat]; omega
        obtain ⟨n2, hn2⟩ : ∃ x, ctrAt n m = x := ⟨_, rfl⟩
        rw [hn2] at hY hctr
        have hcut := hr.cut (lo := j) (hi := len) hjl (Nat.le_refl _)
        have hcutW := hrW.cut (lo := j) (hi := len) hjl (Nat.le_refl _)
        rw [Nat.mul_one] at hcut hcutW
        rw [show ((l.map u8v).drop j).take ((len - j) * 1) = (l.drop j).map u8v from by rw [← List.map_drop, List.take_of_length_le (by simp; have := HLL.out; omega)]] at hcut
        rw [show ((X.map u8v).drop j).take ((len - j) * 1) = (X.drop j).map u8v from by rw [← List.map_drop, List.take_of_length_le (by simp; have := HXl.out; omega)]] at hcutW
        have hst := fun w (h : Row 1 w (if c = j then a else Option.map (fun x => x.add j) a) (len - j) (c - j) ((l.drop j).map u8v)) (hl : len - j ≤ 4294967296) => hst2 n2 _ _ _ _ w h hl
        rw [← hY] at hst
        obtain ⟨Y, hYY⟩ : ∃ Y, X.drop j = Y := ⟨_, rfl⟩
        rw [hYY] at hst hcutW
        have hYl : Y.length = len - j := by rw [← hYY, List.length_drop, HXl.out]
        have HYL := Lib.hid hYl
        obtain ⟨a', ha'⟩ : ∃ a', (if c = j then a else Option.map (fun x => x.add j) a) = a' := ⟨_, rfl⟩
        have hsl1 := slice_from a len c j hjl
        rw [ha'] at hcut hst hsl1
        obtain ⟨b', hb'⟩ : ∃ b', (if cw = j then aw else Option.map (fun x => x.add j) aw) = b' := ⟨_, rfl⟩
        have hsl2 := slice_from aw len cw j hjl
        rw [hb'] at hcutW hsl2
        clear hY hYY hYl hj hn2 hst2 ha' hb'
        obtain ⟨t, ht⟩ : ∃ t, (⟨Y.toArray⟩ : ByteArray) = t := ⟨_, rfl⟩
        go_wp2
        refine wp_flow (fun n => if n = 10 then .grows (Bs Y) (SliceN Y.length) else .reads) (by kernel_rfl) (by kernel_rfl) ?_
        refine flow_v (v := .agg cK) rfl rfl (fun w' hE => exec_load_row rfl rfl (((((Keep.refl _ w2).drew).trans hE)).block _ _ bK (fun h => h)) Try.underlying25 rfl hik.out) ?_
        simp only [Act.put, List.setIfInBounds_toArray, List.set_cons_succ, List.set_cons_zero]
        refine flow_r rfl rfl ?_; go_big_quiet_step (fail); refine wpQuiet_nil ?_
        refine flow_r rfl rfl ?_; go_big_quiet_step (fail); refine wpQuiet_nil ?_
        refine flow_r rfl rfl ?_; go_big_quiet_step (fail); refine wpQuiet_nil ?_
        refine flow_r rfl rfl ?_; go_big_quiet_step (fail); refine wpQuiet_nil ?_
        refine flow_v (v := .agg cN) rfl rfl (fun w' hE => exec_load_row rfl rfl (((((Keep.refl _ w2).drew).trans hE)).block _ _ bN (fun h => h)) Try.underlying26 rfl hin.out) ?_
        simp only [Act.put, List.setIfInBounds_toArray, List.set_cons_succ, List.set_cons_zero]
        refine flow_r rfl rfl ?_; go_big_quiet_step (fail); refine wpQuiet_nil ?_
        refine flow_r rfl rfl ?_; go_big_quiet_step (fail); refine wpQuiet_nil ?_
        refine flow_r rfl rfl ?_; go_big_quiet_step (fail); refine wpQuiet_nil ?_
        refine flow_r rfl rfl ?_; go_big_quiet_step (fail); refine wpQuiet_nil ?_
        refine flow_g rfl rfl (by simp) ⟨_, none, 0, rfl⟩ (fun _ _ _ h hE => h.mono hE) (fun _ _ h => h.sh) (fun w3 hE3 hf => ?_) (fun v hv => ?_)
        · have hD : Ext w w3 := E2.trans (((Keep.refl _ w2).drew).trans hE3)
          go_wp2_with fail
          refine (hst w3 (hcut.ext hD) (by omega)).mono ?_
          rintro e w4 ⟨a4, c4, rfl, hown, hE4⟩
          have hB3 : Bs Y (.slice a4 (len - j) c4) w4 := by have := Bs.of_own hown HYL.out; exact this
          go_wp2
          try exact ⟨hE4, hB3⟩
        obtain ⟨av, cv, rfl⟩ := hv
        simp only [Act.put, List.setIfInBounds_toArray, List.set_cons_succ, List.set_cons_zero]
        refine flow_r rfl rfl ?_; go_big_quiet_step (fail); refine wpQuiet_nil ?_
        refine flow_end (fun w3 hE3 hf => ?_)
        have hB3 : Bs Y (.slice av Y.length cv) w3 := hf 10
        clear hf
        have hX3 : Ext w2 w3 := ((Keep.refl _ w2).drew).trans hE3
        have hcW3 := hcutW.ext hX3
        have E3 := E2.trans hX3
        clear hE3 hX3 hcutW hst hcut bK bN
        go_wp2
        refine wp_flow (fun n => partsTab n t) (by kernel_rfl) (by kernel_rfl) ?_
        repeat (refine flow_r rfl rfl ?_; go_big_quiet_step (fail); refine wpQuiet_nil ?_)
        refine flow_g rfl rfl (by simp) ⟨_, rfl⟩ (fun _ _ _ h hE => h) (fun _ _ h => h) (fun w5 hE5 hf => ?_) (fun v hv => ?_)
        · have hB5 := hB3.mono (((Keep.refl _ w3).drew).trans hE5)
          obtain ⟨_, _, q, hrow⟩ := hB5
          cases q
          have s1 := run_string_row (P := Try.prog) w5 37 9 5 Try.underlying37 Try.underlying5 Try.underlying9 hrow
          rw [ht] at s1
          go_wp2
          exact ⟨Keep.refl _ _, rfl⟩
        cases hv
        simp only [Act.put, List.setIfInBounds_toArray, List.set_cons_succ, List.set_cons_zero]
        repeat (refine flow_r rfl rfl ?_; go_big_quiet_step (fail); refine wpQuiet_nil ?_)
        refine flow_g rfl rfl (by simp) ⟨_, rfl⟩ (fun _ _ _ h hE => h) (fun _ _ h => h) (fun w5 hE5 hf => ?_) (fun v hv => ?_)
        · have s1 := run_string_row (P := Try.prog) w5 37 9 5 Try.underlying37 Try.underlying5 Try.underlying9 (hcW3.ext (((Keep.refl _ w3).drew).trans hE5))
          rw [ht] at s1
          go_wp2
          exact ⟨Keep.refl _ _, rfl⟩
        cases hv
        simp only [Act.put, List.setIfInBounds_toArray, List.set_cons_succ, List.set_cons_zero]
        repeat (refine flow_r rfl rfl ?_; go_big_quiet_step (fail); refine wpQuiet_nil ?_)
        refine flow_end (fun w9 hE9 _ => ?_)
        have hEn := E3.trans (((Keep.refl _ w3).drew).trans hE9)
        go_wp2
        try exact ⟨rfl, hEn⟩
end Go.Proofs.Ytijpbbjblenhaaa
