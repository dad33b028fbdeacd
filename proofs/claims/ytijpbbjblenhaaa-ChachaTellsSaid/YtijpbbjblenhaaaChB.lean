/-
  chacha.begun.
-/
import Derived.Test.YtijpbbjblenhaaaChA
import Derived.Test.YtijpbbjblenhaaaArr
namespace Go.Proofs.Ytijpbbjblenhaaa
open Go.RowKit Go.Shelf

def aggB (l : List UInt8) : Value := .agg (l.map u8v).toArray
def aggW (l : List UInt32) : Value := .agg (l.map u32v).toArray
def first4 : List UInt32 := [0x61707865, 0x3320646e, 0x79622d32, 0x6b206574]
def begunL (key : List UInt8) (n : UInt32) (nonce : List UInt8) : List UInt32 := first4 ++ wordsOf key ++ [n] ++ wordsOf nonce
theorem wordsOf_length (l : List UInt8) : (wordsOf l).length = l.length / 4 := by simp [wordsOf]
theorem info_state : (Try.prog.info? 45).map (·.size) = some 16 := by kernel_rfl
theorem size_u32 : (Try.prog.info? 22).map (·.size) = some 1 := by kernel_rfl

def F16 : List Value := [.int .u32 1634760805, .int .u32 857760878, .int .u32 2036477234, .int .u32 1797285236, .int .u32 0, .int .u32 0, .int .u32 0, .int .u32 0, .int .u32 0, .int .u32 0, .int .u32 0, .int .u32 0, .int .u32 0, .int .u32 0, .int .u32 0, .int .u32 0]
theorem first4_v : first4.map u32v = [.int .u32 1634760805, .int .u32 857760878, .int .u32 2036477234, .int .u32 1797285236] := by kernel_rfl
theorem begun_plain (kw nw : List UInt32) (n : UInt32) (hk : kw.length = 8) (hn : nw.length = 3) :
    over ((over F16 4 (kw.map u32v)).set 12 (.int .u32 (n.toNat : Int))) 13 (nw.map u32v) = (first4 ++ kw ++ [n] ++ nw).map u32v := by
  match kw, hk with
  | [_, _, _, _, _, _, _, _], _ => match nw, hn with
    | [_, _, _], _ => simp [over, F16, first4_v, u32v]

set_option maxHeartbeats 4000000 in
theorem begun_any (key nonce : List UInt8) (n : UInt32) (w : World) (hk : key.length = 32) (hn : nonce.length = 12) :
    Calls Try.prog 18 #[aggB key, .int .u32 (n.toNat : Int), aggB nonce] w fun e w' => e = .returned (aggW (begunL key n nonce)) ∧ Ext w w' := by
  have hwk : (wordsOf key).length = 8 := by rw [wordsOf_length, hk]
  have hwn : (wordsOf nonce).length = 3 := by rw [wordsOf_length, hn]
  have HP := Lib.hid (begun_plain (wordsOf key) (wordsOf nonce) n hwk hwn)
  have HK := Lib.hid (show (key.map u8v).length = 32 by simpa using hk)
  have HN := Lib.hid (show (nonce.map u8v).length = 12 by simpa using hn)
  have hbw : begunL key n nonce = first4 ++ wordsOf key ++ [n] ++ wordsOf nonce := rfl
  obtain ⟨kw, hkw⟩ : ∃ x, wordsOf key = x := ⟨_, rfl⟩
  obtain ⟨nw, hnw⟩ : ∃ x, wordsOf nonce = x := ⟨_, rfl⟩
  rw [hkw, hnw] at HP hbw
  rw [hbw]
  rw [hkw] at hwk
  rw [hnw] at hwn
  have wk : ∀ a c w, Row 1 w a 32 c (key.map u8v) → Calls Try.prog 28 #[.slice a 32 c] w fun e w' => ∃ a' c', e = .returned (.slice a' 8 c') ∧ Row 1 w' a' 8 c' (kw.map u32v) ∧ Ext w w' := fun a c w h => by
    refine (words_any a 32 c key w h (by omega)).mono ?_
    rintro e w' ⟨a', c', rfl, h1, h2⟩
    rw [hkw, hwk] at h1 ⊢
    obtain ⟨_, _, q, h3⟩ := owns_row h1
    cases q
    exact ⟨_, _, rfl, h3, h2⟩
  have wn : ∀ a c w, Row 1 w a 12 c (nonce.map u8v) → Calls Try.prog 28 #[.slice a 12 c] w fun e w' => ∃ a' c', e = .returned (.slice a' 3 c') ∧ Row 1 w' a' 3 c' (nw.map u32v) ∧ Ext w w' := fun a c w h => by
    refine (words_any a 12 c nonce w h (by omega)).mono ?_
    rintro e w' ⟨a', c', rfl, h1, h2⟩
    rw [hnw, hwn] at h1 ⊢
    obtain ⟨_, _, q, h3⟩ := owns_row h1
    cases q
    exact ⟨_, _, rfl, h3, h2⟩
  clear hkw hnw hbw hk hn
  refine calls_cps fun R hR => ?_
  unfold aggB
  obtain ⟨ck, hck⟩ : ∃ c, key.map u8v = c := ⟨_, rfl⟩
  obtain ⟨cn, hcn⟩ : ∃ c, nonce.map u8v = c := ⟨_, rfl⟩
  rw [hck] at HK wk ⊢
  rw [hcn] at HN wn ⊢
  obtain ⟨cka, hcka⟩ : ∃ c, ck.toArray = c := ⟨_, rfl⟩
  obtain ⟨cna, hcna⟩ : ∃ c, cn.toArray = c := ⟨_, rfl⟩
  rw [hcka, hcna]
  have HKA := Lib.hid hcka
  have HNA := Lib.hid hcna
  clear hcka hcna hck hcn
  go_enter Try.func18, Try.ntmps18
  go_wp2
  refine wp_laid4 fun W hE b1 b2 b3 b4 => ?_
  have B1 : Arr W w.heap.size 25 ck := by unfold Arr; rw [HKA.out]; exact b1
  have B2 : Arr W (w.heap.size + 1) 26 cn := by unfold Arr; rw [HNA.out]; exact b2
  have B3 : Arr W (w.heap.size + 1 + 1) 45 (List.replicate 16 (.int .u32 0)) := b3
  have B4 : Arr W (w.heap.size + 1 + 1 + 1) 45 F16 := b4
  clear b1 b2 b3 b4
  refine wp_flow (fun n => if n = 2 then .grows (Ws kw) (SliceN kw.length) else if n = 3 then .last else .reads) (by kernel_rfl) (by kernel_rfl) ?_
  repeat (refine flow_r rfl rfl ?_; go_big_quiet_step (fail); refine wpQuiet_nil ?_)
  refine flow_g rfl rfl (by simp) ⟨_, none, 0, rfl⟩ (fun _ _ _ h hE => h.mono hE) (fun _ _ h => h.sh) (fun w2 hE2 _ => ?_) (fun v hv => ?_)
  · have hr := (B1.ext (((Keep.refl _ W).drew).trans hE2)).whole HK.out (by decide)
    go_wp2_with fail
    refine (wk _ _ _ hr).mono ?_
    rintro e w3 ⟨a', c', rfl, hrow, hE3⟩
    have hB : Ws kw (.slice a' 8 c') w3 := by rw [← hwk] at hrow ⊢; exact ⟨a', c', rfl, hrow⟩
    go_wp2
    try exact ⟨hE3, hB⟩
  obtain ⟨av, cv, rfl⟩ := hv
  simp only [Act.put, List.setIfInBounds_toArray, List.set_cons_succ, List.set_cons_zero]
  refine flow_l rfl (by kernel_rfl) (fun w2 hE2 hf => ?_)
  have hW : Ws kw (.slice av kw.length cv) w2 := hf 2
  clear hf
  obtain ⟨_, _, q, hrow⟩ := hW
  cases q
  rw [hwk] at hrow ⊢
  have hX2 := ((Keep.refl _ W).drew).trans hE2
  obtain ⟨w3, hrun, B43, hK3⟩ := (B4.ext hX2).copy 49 49 3 22 Try.underlying49 size_u32 hrow (u32v_one kw) 4 8 12 (by decide) (by decide) (by decide)
  have hE3 : Ext w w3 := ((Keep.of_ext (hE.trans hX2)).trans hK3).mono (fun k o ho hx => by have := Keep.lt ho; omega)
  have B23 := (B2.ext hX2).keep hK3 (by omega)
  have B33 := (B3.ext hX2).keep hK3 (by omega)
  have hl43 : (over F16 4 (kw.map u32v)).length = 16 := by rw [over_length (by rw [List.length_map, hwk]; decide)]; rfl
  obtain ⟨F2, hF2⟩ : ∃ F, over F16 4 (kw.map u32v) = F := ⟨_, rfl⟩
  rw [hF2] at B43 HP hl43
  obtain ⟨x12, hx12⟩ : ∃ x, F2[12]? = some x := ⟨_, List.getElem?_eq_getElem (by omega)⟩
  have c12 := B43.cell hx12
  have f12 := B43.frozen 12
  clear hE2 hrow hF2 B1 B2 B3 B4 hX2 hK3 hE hx12
  go_wp2
  have B44 := B43.set 12 (.int .u32 (n.toNat : Int))
  have hK4 := keep_setCell w3 (w.heap.size + 1 + 1 + 1) 12 (.int .u32 (n.toNat : Int))
  have B24 := B23.keep hK4 (by omega)
  have B34 := B33.keep hK4 (by omega)
  have hE4 : Ext w _ := ((Keep.of_ext hE3).trans hK4).mono (fun k o ho hx => by have := Keep.lt ho; omega)
  obtain ⟨W4, hW4⟩ : ∃ W, w3.setCell ⟨w.heap.size + 1 + 1 + 1, 12, none⟩ (.int .u32 (n.toNat : Int)) = W := ⟨_, rfl⟩
  rw [hW4] at B44 B24 B34 hE4 ⊢
  have hl44 : (F2.set 12 (.int .u32 (n.toNat : Int))).length = 16 := by simpa using hl43
  obtain ⟨F3, hF3⟩ : ∃ F, F2.set 12 (.int .u32 (n.toNat : Int)) = F := ⟨_, rfl⟩
  rw [hF3] at B44 HP hl44
  clear hW4 hF3 hK4 B43 B23 B33 hE3 c12 f12 hl43
  refine wp_flow (fun n => if n = 2 then .grows (Ws nw) (SliceN nw.length) else if n = 3 then .last else .reads) (by kernel_rfl) (by kernel_rfl) ?_
  repeat (refine flow_r rfl rfl ?_; go_big_quiet_step (fail); refine wpQuiet_nil ?_)
  refine flow_g rfl rfl (by simp) ⟨_, none, 0, rfl⟩ (fun _ _ _ h hE => h.mono hE) (fun _ _ h => h.sh) (fun w2 hE2 _ => ?_) (fun v hv => ?_)
  · have hr := (B24.ext (((Keep.refl _ W4).drew).trans hE2)).whole HN.out (by decide)
    go_wp2_with fail
    refine (wn _ _ _ hr).mono ?_
    rintro e w3 ⟨a', c', rfl, hrow, hE3⟩
    have hB : Ws nw (.slice a' 3 c') w3 := by rw [← hwn] at hrow ⊢; exact ⟨a', c', rfl, hrow⟩
    go_wp2
    try exact ⟨hE3, hB⟩
  obtain ⟨av, cv, rfl⟩ := hv
  simp only [Act.put, List.setIfInBounds_toArray, List.set_cons_succ, List.set_cons_zero]
  refine flow_l rfl (by kernel_rfl) (fun w5 hE5 hf => ?_)
  have hW : Ws nw (.slice av nw.length cv) w5 := hf 2
  clear hf
  obtain ⟨_, _, q, hrow⟩ := hW
  cases q
  rw [hwn] at hrow ⊢
  have hX2 := ((Keep.refl _ W4).drew).trans hE5
  obtain ⟨w6, hrun, B46, hK6⟩ := (B44.ext hX2).copy 49 49 3 22 Try.underlying49 size_u32 hrow (u32v_one nw) 13 3 3 (by decide) (by decide) (by omega)
  rw [HP.out] at B46
  have hE6 : Ext w w6 := ((Keep.of_ext (hE4.trans hX2)).trans hK6).mono (fun k o ho hx => by have := Keep.lt ho; omega)
  have B36 := (B34.ext hX2).keep hK6 (by omega)
  clear hE5 hrow B24 B34 B44 hE4 hX2 hK6
  have hl16 : (first4 ++ kw ++ [n] ++ nw).length = 16 := by simp [hwk, hwn, first4]
  unfold aggW at hR
  obtain ⟨fin, hfin⟩ : ∃ f, (first4 ++ kw ++ [n] ++ nw).map u32v = f := ⟨_, rfl⟩
  have hfl : fin.length = 16 := by rw [← hfin, List.length_map, hl16]
  have hone : fin.toArray.all (·.oneCell') = true := by
    rw [Array.all_eq_true_iff_forall_mem]
    intro v hv
    exact u32v_one _ v (by rw [hfin]; simpa using hv)
  rw [hfin] at B46 hR
  have hi1 : (Try.prog.info? 45).map (·.size) = some fin.toArray.size := by rw [info_state]; simp [hfl]
  have hold : (List.replicate 16 (Value.int IntKind.u32 0)).toArray.size = fin.toArray.size := by simp [hfl]
  go_wp2_with (first | (refine wpList_load_row rfl 45 (.tmp 7) rfl _ rfl _ _ (0, 0) _ B46 Try.underlying45 rfl hi1 ?_) | (refine wpList_store_row rfl 45 (.tmp 6) (.tmp 19) rfl _ fin.toArray rfl rfl _ _ B36 hi1 hold hone ?_))
  have B37 := B36.setRow fin
  have hK7 := keep_setRow w6 (w.heap.size + 1 + 1) fin.toArray
  have hE7 : Ext w _ := ((Keep.of_ext hE6).trans hK7).mono (fun k o ho hx => by have := Keep.lt ho; omega)
  refine bodyPost_ret (results_cell_row rfl _ _ _ _ _ (0, 0) _ rfl B37 Try.underlying45 rfl hi1) rfl ?_
  exact hR _ _ ⟨rfl, hE7⟩
end Go.Proofs.Ytijpbbjblenhaaa
