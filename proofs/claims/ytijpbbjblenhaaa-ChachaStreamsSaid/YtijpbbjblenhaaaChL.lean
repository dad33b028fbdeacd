/-
  tabulariumref01.Stream, walked.
-/
import Derived.Test.YtijpbbjblenhaaaChJ
import Derived.Test.YtijpbbjblenhaaaChF
import Derived.Test.YtijpbbjblenhaaaVecF
import Derived.Test.YtijpbbjblenhaaaVecJ
namespace Go.Proofs.Ytijpbbjblenhaaa
open Go.RowKit Go.Shelf

theorem xorL_take (l b : List UInt8) (n : Nat) (h : b.length = n) : xorL (l.take n) b = xorL l b := by
  subst h
  unfold xorL
  induction l generalizing b with
  | nil => simp
  | cons x l ih =>
    cases b with
    | nil => simp
    | cons y b => simp [ih]
theorem chunkN_64 (len : Nat) : chunkN 64 len = (len + 63) / 64 := by unfold chunkN; rw [if_neg (by omega)]; simp
theorem strTo_chunk {key nonce : List UInt8} (n : UInt32) (l : List UInt8) (hk : key.length = 32) (hn : nonce.length = 12) (k : Nat) (h : k < chunkN 64 l.length) :
    strTo key n nonce l (k + 1) = strTo key n nonce l k ++ xorL (chunkAt 64 l k) (blockL key (ctrAt n k) nonce) := by
  rw [chunkN_64] at h
  rw [strTo_succ n l hk hn, strTo_length n l hk hn, Nat.min_eq_right (by omega)]
  unfold chunkAt
  rw [xorL_take _ _ 64 (blockL_length _ hk hn), Nat.mul_comm]

theorem own_mono {w : World} {base base' e sz n : Nat} {v : Value} {xs : List Value} (h : w.ownsRow base e sz v n xs) (hb : base' ≤ base) : w.ownsRow base' e sz v n xs := by
  refine ⟨h.1, ?_⟩
  rcases h.2 with hn | ⟨g, cap, cur, rfl, hg, rest⟩
  · exact .inl hn
  · exact .inr ⟨g, cap, cur, rfl, Nat.le_trans hb hg, rest⟩

set_option maxRecDepth 20000 in
set_option maxHeartbeats 4000000 in
theorem refStream_any (key nonce : List UInt8) (n : UInt32) (a : Option Addr) (len c : Nat) (l : List UInt8) (w : World) (hk : key.length = 32) (hn : nonce.length = 12) (hr : Row 1 w a len c (l.map u8v)) (hl32 : len ≤ 4294967296) :
    Calls Try.prog 15 #[aggB key, .int .u32 (n.toNat : Int), aggB nonce, .slice a len c] w fun e w' => ∃ a' c', e = .returned (.slice a' len c') ∧
      w'.ownsRow w.heap.size 5 1 (.slice a' len c') len ((streamL key n nonce l).map u8v) ∧ Ext w w' := by
  have hll : l.length = len := by have := hr.2.2.1; simpa using this
  have hlc := hr.1
  have hmx := hr.2.1
  unfold maxLen at hmx
  have hch := fun w (h : Row 1 w a len c (l.map u8v)) => refChunks_any a len c 64 l w (by decide) h hl32
  have hrb := fun k w => refBlock_any key nonce (ctrAt n k) w hk hn
  have hstep := fun k (h : k < chunkN 64 l.length) => strTo_chunk n l hk hn k h
  have hfin := fun k (h : l.length ≤ 64 * k) => strTo_stream n l hk hn k h
  have htl := fun k => strTo_length n l hk hn k
  have hget : ∀ k, k < chunkN 64 l.length → (chunksL 64 l)[k]? = some (chunkAt 64 l k) := fun k h => by simp [chunksL, h]
  have hbl := fun k => blockL_length (ctrAt n k) hk hn
  rw [hll] at hstep hfin hget
  simp only [hll] at htl
  have hcN0 := chunkN_64 len
  obtain ⟨N, hN⟩ : ∃ N, chunkN 64 len = N := ⟨_, rfl⟩
  rw [hN] at hch hstep hget hcN0
  have HST := Lib.hid hstep
  have HFI := Lib.hid hfin
  have HTL := Lib.hid htl
  have HGE := Lib.hid hget
  have HBL := Lib.hid hbl
  have HCN := Lib.hid hcN0
  clear hN hstep hfin htl hget hbl hcN0
  have hik := Lib.hid (show (Try.prog.info? 25).map (·.size) = some (key.map u8v).toArray.size by rw [info_key]; simp [hk])
  have hin := Lib.hid (show (Try.prog.info? 26).map (·.size) = some (nonce.map u8v).toArray.size by rw [info_nonce]; simp [hn])
  refine calls_cps fun R hR => ?_
  have hrb' : ∀ k w, Calls Try.prog 12 #[.agg (key.map u8v).toArray, .int .u32 ((ctrAt n k).toNat : Int), .agg (nonce.map u8v).toArray] w fun e w' => e = .returned (aggB (blockL key (ctrAt n k) nonce)) ∧ Ext w w' := hrb
  clear hrb
  unfold aggB
  obtain ⟨cK, hcK⟩ : ∃ c, (key.map u8v).toArray = c := ⟨_, rfl⟩
  obtain ⟨cN, hcN⟩ : ∃ c, (nonce.map u8v).toArray = c := ⟨_, rfl⟩
  rw [hcK] at hrb' hik ⊢
  rw [hcN] at hrb' hin ⊢
  clear hcK hcN hk hn
  have HB : Hid (∀ w1, Ext ((w.alloc (.cells cK 25)).alloc (.cells cN 26)) w1 → Ext w w1 ∧ w1.heap[w.heap.size]? = some (.cells cK 25 (0, 0)) ∧ w1.heap[w.heap.size + 1]? = some (.cells cN 26 (0, 0))) := fun w1 h => by
    have e : ∀ (A : World) (o : Obj), Ext A (A.alloc o) := fun A o => (Keep.refl _ A).alloc o
    have k1 := World.alloc_heap_new w (.cells cK 25)
    have k2 := World.alloc_heap_new (w.alloc (.cells cK 25)) (.cells cN 26)
    simp only [World.size_alloc] at k2
    exact ⟨((e _ _).trans (e _ _)).trans h, h.block _ _ ((e _ _).block _ _ k1 (fun h => h)) (fun h => h), h.block _ _ k2 (fun h => h)⟩
  have hE0 := (HB.out _ (Keep.refl _ _)).1
  have hch0 := hch _ (hr.ext hE0)
  go_enter Try.func15, Try.ntmps15
  go_wp2_with fail
  refine hch0.mono ?_
  rintro e w1 ⟨a1, c1, rfl, ⟨vs, hvs, hot⟩, e1⟩
  obtain ⟨E1, bK, bN⟩ := HB.out w1 e1
  obtain ⟨_, _, q, hvr⟩ := owns_row hvs
  cases q
  obtain ⟨vs, hrow, hvl, hvt⟩ := hot.texts hvr
  clear HB e1 hch hch0 hvs hot hE0 hvr
  have hrc := hrow.1
  have hrm := hrow.2.1
  unfold maxLen at hrm
  have HVT := Lib.hid hvt
  clear hvt hvl
  go_wp2
  go_loopw [1, 9, 16] (fun ct out ix wr => ∃ (k : Nat) (ao : Option Addr) (co t : Nat), k ≤ N ∧ ix = .int .i64 k ∧ ct = .int .u32 ((ctrAt n k).toNat : Int) ∧ out = .slice ao t co ∧ Hid (∀ _ : Unit, t = (strTo key n nonce l k).length) ∧
      wr.ownsRow w1.heap.size 5 1 (.slice ao t co) t ((strTo key n nonce l k).map u8v) ∧ Ext w1 wr) (fun _ _ ix _ => N - (intOf ix).toNat)
  case atStart => exact ⟨0, none, 0, 0, by omega, rfl, by rw [ctrAt_zero], rfl, Lib.hid (fun _ => by rw [HTL.out]; omega), by rw [show strTo key n nonce l 0 = [] from List.eq_nil_of_length_eq_zero (by rw [HTL.out]; omega)]; exact World.ownsRow_nil _ _ _ _, Keep.refl _ _⟩
  case round =>
    obtain ⟨k, ao, co, t, hkN, rfl, rfl, rfl, HT, hown, hX⟩ := hrel
    by_cases hlt : k < N
    · obtain ⟨ac, cc, hvk, hcr⟩ := HVT.out k _ (HGE.out k hlt)
      obtain ⟨br, or, rfl, hcell⟩ := hrow.2.2.2.2 (by omega)
      have hcl : (chunkAt 64 l k).length ≤ 64 := by unfold chunkAt; simp; omega
      have cV := hX.cell (hcell k _ hvk)
      have hcrX := hcr.ext hX
      have hbk := hrb' k wr
      have hs1 := HST.out k hlt
      have ht1 := HTL.out (k + 1)
      obtain ⟨Bk, hBk⟩ : ∃ B, blockL key (ctrAt n k) nonce = B := ⟨_, rfl⟩
      have hBl := HBL.out k
      rw [hBk] at hbk hs1 hBl
      obtain ⟨O, hO⟩ : ∃ O, Bk.map u8v = O := ⟨_, rfl⟩
      have hOl : O.length = 64 := by rw [← hO, List.length_map, hBl]
      have hO1 : ∀ v ∈ O, v.oneCell' = true := by rw [← hO]; exact u8v_one Bk
      have hbk' : Calls Try.prog 12 #[.agg cK, .int .u32 ((ctrAt n k).toNat : Int), .agg cN] wr fun e w' => e = .returned (.agg O.toArray) ∧ Ext wr w' := by rw [← hO]; exact hbk
      have hiA := Lib.hid (show (Try.prog.info? 30).map (·.size) = some O.toArray.size by rw [info_block]; simp [hOl])
      have hZ := Lib.hid (show (List.replicate 64 (Value.int IntKind.u8 0)).toArray.size = O.toArray.size by simp [hOl])
      have hO2 := Lib.hid (show O.toArray.all (·.oneCell') = true by
        rw [Array.all_eq_true_iff_forall_mem]
        intro v hv
        exact hO1 v (by simpa using hv))
      obtain ⟨Ck, hCk⟩ : ∃ C, chunkAt 64 l k = C := ⟨_, rfl⟩
      rw [hCk] at hcrX hs1 hcl cV
      obtain ⟨M, hM⟩ : ∃ M, xorL Ck Bk = M := ⟨_, rfl⟩
      rw [hM] at hs1
      have hlen1 : t + M.length = (strTo key n nonce l (k + 1)).length := by rw [hs1, List.length_append, ← HT.out ()]
      have htle : t + M.length ≤ len := by rw [hlen1, ht1]; omega
      have hsucc := congrArg UInt32.toNat (ctrAt_succ n k)
      rw [UInt32.toNat_add] at hsucc
      have hadd : (((ctrAt n k).toNat : Int) + 1) % 4294967296 = ((ctrAt n (k + 1)).toNat : Int) := by
        rw [← hsucc]; show _ = (((_ % 4294967296 : Nat)) : Int); simp
      obtain ⟨x0, hx0⟩ : ∃ c, ctrAt n k = c := ⟨_, rfl⟩
      obtain ⟨x1, hx1⟩ : ∃ c, ctrAt n (k + 1) = c := ⟨_, rfl⟩
      rw [hx0] at hbk' hadd ⊢
      rw [hx1] at hadd
      have HX1 := Lib.hid hx1
      have HO := Lib.hid hO
      have HOL := Lib.hid hOl
      have HM := Lib.hid hM
      have HS1 := Lib.hid (fun _ : Unit => hs1)
      have HL1 := Lib.hid (fun _ : Unit => hlen1)
      have bK' := hX.block _ _ bK (fun h => h)
      have bN' := hX.block _ _ bN (fun h => h)
      have hBl64 := Lib.hid hBl
      clear hbk hs1 ht1 hBk hBl hO hOl hO1 hCk hM hlen1 hsucc hx0 hx1 hcell hcr hvk HT
      go_wp2_with (first | (refine wpList_load_row ?_ 25 (.tmp 4) ?_ w.heap.size ?_ 25 cK (0, 0) _ ?_ Try.underlying25 rfl hik.out ?_; rfl; rfl; rfl; exact bK') | (refine wpList_load_row ?_ 26 (.tmp 6) ?_ (w.heap.size + 1) ?_ 26 cN (0, 0) _ ?_ Try.underlying26 rfl hin.out ?_; rfl; rfl; rfl; exact bN'))
      refine hbk'.mono ?_
      rintro e w2 ⟨rfl, e2⟩
      have hE3 := e2.trans ((Keep.refl (fun _ _ => False) w2).alloc (.cells O.toArray 30))
      have a12 := Arr.new w2 30 O
      have hrx := refXor_any ac (some ⟨w2.heap.size, 0, none⟩) Ck.length 64 cc 64 Ck Bk (w2.alloc (.cells O.toArray 30)) (hcrX.ext hE3) (by rw [HO.out]; exact a12.whole HOL.out (by decide)) (by omega) (by decide)
      rw [HM.out] at hrx
      have hown3 := Ext.owns hE3 hown
      have hX3 := hX.trans hE3
      clear a12 hown hX hcrX hbk' hrb' bK' bN' e2 hE3
      go_wp2_with (refine wpList_store_row ?_ 30 (.tmp 12) (.tmp 23) ?_ w2.heap.size O.toArray ?_ ?_ 30 (List.replicate 64 (Value.int IntKind.u8 0)).toArray ?_ hiA.out hZ.out hO2.out ?_; rfl; rfl; rfl; rfl; exact Arr.new w2 30 (List.replicate 64 (.int .u8 0)); rw [World.setRow_alloc_new])
      refine hrx.mono ?_
      rintro e w4 ⟨a4, c4, rfl, hown4, e4⟩
      obtain ⟨_, _, q, hrow4⟩ := owns_row hown4
      cases q
      have hX4 := hX3.trans e4
      obtain ⟨v', w5, hrun, hown5, hgrow5, _⟩ := run_append_row w4 w1.heap.size 37 37 5 _ 1 1 Try.underlying37 info_u8 rfl (by decide) (Ext.owns e4 hown3) hrow4 (u8v_one _) (by unfold maxLen; omega) (by omega) hX4.size
      have hX5 : Ext w1 w5 := Keep.grown hX4 hgrow5 (fun g o hg ho => by
        have := ((Ext.owns e4 hown3).lt g hg).1; have := Keep.lt ho; omega)
      rw [← List.map_append, ← HS1.out ()] at hown5
      obtain ⟨a5, c5, rfl, _⟩ := owns_row hown5
      have Hrun := Lib.hid hrun
      clear hrun hown4 hrow4 hgrow5 hown3 hX3 e4 hX4 hrx
      go_wp2_with (at_builtin; go_must (refine wpList_append_run Hrun.out rfl rfl rfl rfl ?_))
      go_roundw
      case rel => exact ⟨k + 1, a5, c5, t + M.length, by omega, by go_num, by rw [HX1.out, hadd], rfl, HL1, hown5, hX5⟩
      case measure => simp [intOf]; omega
    · obtain rfl : k = N := by omega
      have hfin := HFI.out k (by have := HCN.out; omega)
      have htt := HT.out ()
      rw [HTL.out] at htt
      have hteq : t = len := by have := HCN.out; omega
      subst hteq
      rw [hfin] at hown
      clear hfin htt HT
      go_wp2
      exact ⟨ao, co, rfl, own_mono hown E1.size, E1.trans hX⟩
end Go.Proofs.Ytijpbbjblenhaaa
