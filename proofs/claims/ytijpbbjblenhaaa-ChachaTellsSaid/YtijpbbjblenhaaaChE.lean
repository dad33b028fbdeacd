/-
  chacha.Block.
-/
import Derived.Test.YtijpbbjblenhaaaChD
namespace Go.Proofs.Ytijpbbjblenhaaa
open Go.RowKit Go.Shelf

set_option maxRecDepth 20000 in
set_option maxHeartbeats 2000000 in
theorem block_any (key nonce : List UInt8) (n : UInt32) (w : World) (hk : key.length = 32) (hn : nonce.length = 12) :
    Calls Try.prog 11 #[aggB key, .int .u32 (n.toNat : Int), aggB nonce] w fun e w' => e = .returned (aggB (blockL key n nonce)) ∧ Ext w w' := by
  have hbl := blockL_length n hk hn
  have hbg := fun w => begun_any key nonce n w hk hn
  have hfl := begunL_length n hk hn
  obtain ⟨fs, hfs⟩ : ∃ x, begunL key n nonce = x := ⟨_, rfl⟩
  obtain ⟨out, hout⟩ : ∃ x, blockL key n nonce = x := ⟨_, rfl⟩
  have hout2 : bytesOf (addL (roundsL fs 10) fs) = out := by rw [← hout, ← hfs]; rfl
  rw [hout] at hbl
  rw [hfs] at hbg hfl
  rw [hout]
  clear hout hfs
  have HO := Lib.hid (fun _ : Unit => hout2)
  have HFL := Lib.hid hfl
  have HBL := Lib.hid hbl
  refine calls_cps fun R hR => ?_
  unfold aggB at hbg hR ⊢
  unfold aggW at hbg
  have HK := Lib.hid (show (key.map u8v).toArray.size = 32 by simpa using hk)
  have HN := Lib.hid (show (nonce.map u8v).toArray.size = 12 by simpa using hn)
  obtain ⟨cka, hcka⟩ : ∃ c, (key.map u8v).toArray = c := ⟨_, rfl⟩
  obtain ⟨cna, hcna⟩ : ∃ c, (nonce.map u8v).toArray = c := ⟨_, rfl⟩
  rw [hcka] at hbg HK ⊢
  rw [hcna] at hbg HN ⊢
  clear hcka hcna hk hn
  obtain ⟨F, hF⟩ : ∃ c, fs.map u32v = c := ⟨_, rfl⟩
  rw [hF] at hbg
  have hFl : F.length = 16 := by rw [← hF]; simpa using hfl
  have hF1 : ∀ v ∈ F, v.oneCell' = true := by rw [← hF]; exact u32v_one fs
  have HF := Lib.hid hF
  have hst := fun W => stores_new (P := Try.prog) (t := 45) (cs := List.replicate 16 (.int .u32 0)) (cs' := F) (by rw [hFl]; rfl) hF1 W
  have hk0 : ∀ z : Obj, (((w.alloc (.cells cka 25)).alloc (.cells cna 26)).alloc z).heap[w.heap.size]? = some (.cells cka 25 (0, 0)) := fun z => by
    have e : ∀ (A : World) (o : Obj), Ext A (A.alloc o) := fun A o => (Keep.refl _ A).alloc o
    exact (e _ z).block _ _ ((e _ (.cells cna 26)).block _ _ (World.alloc_heap_new w (.cells cka 25)) (fun h => h)) (fun h => h)
  have hn0 : ∀ z : Obj, (((w.alloc (.cells cka 25)).alloc (.cells cna 26)).alloc z).heap[w.heap.size + 1]? = some (.cells cna 26 (0, 0)) := fun z => by
    have e : ∀ (A : World) (o : Obj), Ext A (A.alloc o) := fun A o => (Keep.refl _ A).alloc o
    have := World.alloc_heap_new (w.alloc (.cells cka 25)) (.cells cna 26)
    rw [World.size_alloc] at this
    exact (e _ z).block _ _ this (fun h => h)
  have hik := Lib.hid (show (Try.prog.info? 25).map (·.size) = some cka.size by rw [info_key, HK.out])
  have hin := Lib.hid (show (Try.prog.info? 26).map (·.size) = some cna.size by rw [info_nonce, HN.out])
  clear hfl hbl hFl hF hout2
  go_enter Try.func11, Try.ntmps11
  go_wp2_with (first | (refine wpList_load_row rfl 25 (.tmp 3) rfl _ rfl _ _ (0, 0) _ (hk0 _) Try.underlying25 rfl hik.out ?_) | (refine wpList_load_row rfl 26 (.tmp 5) rfl _ rfl _ _ (0, 0) _ (hn0 _) Try.underlying26 rfl hin.out ?_))
  refine (hbg _).mono ?_
  rintro e w1 ⟨rfl, e1⟩
  have hz0 : ∀ z : Obj, (((w.alloc (.cells cka 25)).alloc (.cells cna 26)).alloc z).heap[w.heap.size + 1 + 1]? = some z := fun z => by
    have := World.alloc_heap_new ((w.alloc (.cells cka 25)).alloc (.cells cna 26)) z
    simp only [World.size_alloc] at this
    exact this
  have A6 : Arr w1 (w.heap.size + 1 + 1) 30 (List.replicate 64 (.int .u8 0)) := e1.block _ _ (hz0 _) (fun h => h)
  have E1 : Ext w w1 := Keep.trans (((((Keep.refl _ w).alloc _).alloc _).alloc _)) e1
  have hi16 := Lib.hid (show (Try.prog.info? 45).map (·.size) = some F.toArray.size by rw [info_state]; rw [← HF.out]; simp [HFL.out])
  clear e1 hz0 hk0 hn0 hbg
  have hiZ := Lib.hid (show (List.replicate 16 (Value.int IntKind.u32 0)).toArray.size = F.toArray.size by rw [← HF.out]; simp [HFL.out])
  have hF1' := Lib.hid (show F.toArray.all (·.oneCell') = true by
    rw [Array.all_eq_true_iff_forall_mem]
    intro v hv
    exact hF1 v (by simpa using hv))
  clear hst
  go_wp2_with (first | (refine wpList_store_row ?_ 45 (.tmp 7) (.tmp 14) ?_ w1.heap.size F.toArray ?_ ?_ 45 (List.replicate 16 (Value.int IntKind.u32 0)).toArray ?_ hi16.out hiZ.out hF1'.out ?_; rfl; rfl; rfl; rfl; exact Arr.new w1 45 (List.replicate 16 (.int .u32 0)); rw [World.setRow_alloc_new]) | (refine wpList_load_row ?_ 45 (.tmp 7) ?_ w1.heap.size ?_ 45 F.toArray (0, 0) _ ?_ Try.underlying45 rfl hi16.out ?_; rfl; rfl; rfl; exact World.alloc_heap_new w1 (.cells F.toArray 45)) |
    (refine wpList_store_row ?_ 45 (.tmp 8) (.tmp 15) ?_ (w1.alloc (.cells F.toArray 45)).heap.size F.toArray ?_ ?_ 45 (List.replicate 16 (Value.int IntKind.u32 0)).toArray ?_ hi16.out hiZ.out hF1'.out ?_; rfl; rfl; (simp [Act.eval]); rfl; exact Arr.new _ 45 (List.replicate 16 (.int .u32 0)); rw [World.setRow_alloc_new]))
  refine wp_laid2 fun W hE b7 b8 => ?_
  have B7 : Arr W w1.heap.size 45 F := b7
  have B8 : Arr W (w1.heap.size + 1) 45 (fs.map u32v) := by rw [HF.out]; exact b8
  have B6 := A6.ext hE
  have E2 := E1.trans hE
  have h61 := A6.lt
  have hw01 := E1.size
  obtain ⟨p7, hp7⟩ : ∃ p, w1.heap.size = p := ⟨_, rfl⟩
  rw [hp7] at B7 B8 h61 hw01 ⊢
  clear b7 b8 A6 hE E1 hp7 hik hin hiZ hF1' hF1
  go_loopw [16] (fun ix wr => ∃ k : Nat, k ≤ 10 ∧ ix = .int .i64 k ∧ Arr wr p7 45 F ∧ Arr wr (p7 + 1) 45 ((roundsL fs k).map u32v) ∧ Keep (fun k _ => k = p7 + 1) W wr) (fun ix _ => 10 - (intOf ix).toNat)
  case atStart => exact ⟨0, by omega, rfl, B7, B8, Keep.refl _ _⟩
  case round =>
    clear B7 B8
    obtain ⟨k, hk, rfl, B7, B8, hK⟩ := hrel
    by_cases hlt : k < 10
    · have hl1 : (roundsL fs k).length = 16 := by rw [roundsL_length, HFL.out]
      obtain ⟨Z, hZ⟩ : ∃ Z, roundsL fs (k + 1) = Z := ⟨_, rfl⟩
      have hZ' : turnTo 1 (turnTo 0 (roundsL fs k) 4) 4 = Z := hZ
      obtain ⟨X, hX⟩ : ∃ X, roundsL fs k = X := ⟨_, rfl⟩
      rw [hX] at hZ' hl1 B8
      obtain ⟨Y, hY⟩ : ∃ Y, turnTo 0 X 4 = Y := ⟨_, rfl⟩
      have t0 := turn_any 0 (p7 + 1) X wr (by omega) B8 hl1
      have hl2 : Y.length = 16 := by rw [← hY, turnTo_length, hl1]
      rw [hY] at hZ' t0
      have t1 := fun w (h : Arr w (p7 + 1) 45 (Y.map u32v)) => turn_any 1 (p7 + 1) Y w (by omega) h hl2
      rw [hZ'] at t1
      have HZ := Lib.hid (fun _ : Unit => hZ)
      clear hl1 hl2 hX hY hZ hZ'
      go_wp2_with fail
      refine t0.mono ?_
      rintro e w2 ⟨rfl, b2, k2⟩
      go_wp2_with fail
      refine (t1 _ b2).mono ?_
      rintro e w3 ⟨rfl, b3, k3⟩
      have B7' := (B7.keep k2 (by omega)).keep k3 (by omega)
      have hK' := (hK.trans k2).trans k3
      rw [← HZ.out ()] at b3
      clear t0 t1 B7 B8 hK k2 k3 b2
      go_wp2
      go_roundw
      case rel => exact ⟨k + 1, by omega, by go_num, B7', b3, hK'⟩
      case measure => simp [intOf]; omega
    · obtain rfl : k = 10 := by omega
      obtain ⟨V, rfl⟩ : ∃ x, x = wr := ⟨_, rfl⟩
      go_wp2_with (refine wpList_load_row ?_ 45 (.tmp 7) ?_ p7 ?_ 45 F.toArray (0, 0) _ ?_ Try.underlying45 rfl hi16.out ?_; rfl; rfl; rfl; exact B7)
      have hrl : (roundsL fs 10).length = fs.length := roundsL_length _ _
      have HO' := HO.out ()
      obtain ⟨rs, hrs⟩ : ∃ rs, roundsL fs 10 = rs := ⟨_, rfl⟩
      rw [hrs] at B8 hrl HO'
      have HR := Lib.hid hrl
      have HO2 := Lib.hid (fun _ : Unit => HO')
      clear hrs hrl HO HO'
      go_loopw [22] (fun ix wr => ∃ i : Nat, i ≤ 16 ∧ ix = .int .i64 i ∧ Arr wr (p7 + 1) 45 ((sumTo rs fs i).map u32v) ∧ Keep (fun k _ => k = p7 + 1) W wr) (fun ix _ => 16 - (intOf ix).toNat)
      case atStart => exact ⟨0, by omega, rfl, by rw [sumTo_zero]; exact B8, hK⟩
      case round =>
        clear B8 hK B7
        obtain ⟨i, hi, rfl, B8, hK⟩ := hrel
        by_cases hlt : i < 16
        · have hfl := HFL.out
          have hrl := HR.out
          have hix := index_state fs i hfl hlt wr
          rw [HF.out] at hix
          have hg := sumTo_get rs fs i hrl (by omega)
          have hlen := sumTo_length rs fs i hrl
          obtain ⟨S', hS'⟩ : ∃ S, sumTo rs fs (i + 1) = S := ⟨_, rfl⟩
          have hs := sumTo_succ rs fs i hrl (by omega)
          rw [hS'] at hs
          obtain ⟨S, hS⟩ : ∃ S, sumTo rs fs i = S := ⟨_, rfl⟩
          rw [hS] at B8 hg hs hlen
          have hSi : S[i]? = some (S.getD i 0) := by
            have : i < S.length := by omega
            simp [List.getElem?_eq_getElem this]
          rw [hg] at hSi
          obtain ⟨x, hx⟩ : ∃ x, rs.getD i 0 = x := ⟨_, rfl⟩
          obtain ⟨y, hy⟩ : ∃ y, fs.getD i 0 = y := ⟨_, rfl⟩
          rw [hx] at hSi hs
          rw [hy] at hix hs
          have hadd := add_u32 x y
          obtain ⟨z, hz⟩ : ∃ z, x + y = z := ⟨_, rfl⟩
          rw [hz] at hadd hs
          have c1 := B8.cell (i := i) (v := .int .u32 (x.toNat : Int)) (by rw [List.getElem?_map, hSi]; rfl)
          have f1 := B8.frozen i
          have B9 := B8.set i (.int .u32 (z.toNat : Int))
          have K9 := hK.trans (keep_setCell wr (p7 + 1) i (.int .u32 (z.toNat : Int)))
          rw [show (S.map u32v).set i (.int .u32 (z.toNat : Int)) = S'.map u32v from by rw [hs, List.map_set]; rfl] at B9
          have HS' := Lib.hid (fun _ : Unit => hS')
          clear hfl hrl hg hlen hS hS' hs hSi hx hy hz B8 hK
          go_wp2
          rw [← HS'.out ()] at B9
          go_roundw
          case rel => exact ⟨i + 1, by omega, by go_num, B9, K9⟩
          case measure => simp [intOf]; omega
        · obtain rfl : i = 16 := by omega
          obtain ⟨V2, rfl⟩ : ∃ x, x = wr := ⟨_, rfl⟩
          have hrl := HR.out
          have hall := sumTo_all rs fs 16 (by rw [hrl, HFL.out]) HFL.out
          rw [hall] at B8
          have hal : (addL rs fs).length = 16 := by rw [addL_length hrl, HFL.out]
          have hby := fun w (h : Row 1 w (some ⟨p7 + 1, 0, none⟩) 16 16 ((addL rs fs).map u32v)) => bytes_any (some ⟨p7 + 1, 0, none⟩) 16 16 (addL rs fs) w h (by omega)
          have hr := B8.whole (n := 16) (by simpa using hal) (by decide)
          have hby' := hby V2 hr
          rw [HO2.out (), show 4 * 16 = 64 from rfl] at hby'
          have B6' := B6.keep hK (by omega)
          have E3 : Ext w V2 := ((Keep.of_ext E2).trans hK).mono (fun k o ho hx => by have := Keep.lt ho; omega)
          clear hall hal hby hr hrl B8 hK B6 E2
          go_wp2_with fail
          refine hby'.mono ?_
          rintro e w4 ⟨a4, c4, rfl, h4, e4⟩
          clear hby'
          obtain ⟨_, _, q4, r4⟩ := owns_row h4
          cases q4
          obtain ⟨b5, o5, rfl, _⟩ := r4.2.2.2.2 (by omega)
          obtain ⟨O, hO⟩ : ∃ O, out.map u8v = O := ⟨_, rfl⟩
          have hOl : O.length = 64 := by rw [← hO, List.length_map, HBL.out]
          have hO1 : ∀ v ∈ O, v.oneCell' = true := by rw [← hO]; exact u8v_one out
          rw [hO] at r4 hR
          have hld := Lib.hid (show (loadCellsFrom ⟨b5, o5, none⟩ 0 O.length #[]).run Try.prog w4 = .ok O.toArray w4 by rw [hOl]; exact r4.loads (by omega))
          have B64 := B6'.ext e4
          have B65 := B64.setRow O
          have K65 := keep_setRow w4 (w.heap.size + 1 + 1) O.toArray
          have E5 : Ext w _ := ((Keep.of_ext (E3.trans e4)).trans K65).mono (fun k o ho hx => by have := Keep.lt ho; omega)
          have HOL := Lib.hid hOl
          have har := fun w => array_block ⟨b5, o5, none⟩ c4 w
          have hiO := Lib.hid (show (Try.prog.info? 30).map (·.size) = some O.length by rw [info_block, hOl])
          have hiA := Lib.hid (show (Try.prog.info? 30).map (·.size) = some O.toArray.size by rw [info_block]; simp [hOl])
          have hZ := Lib.hid (show (List.replicate 64 (Value.int IntKind.u8 0)).toArray.size = O.toArray.size by simp [hOl])
          have hO2 := Lib.hid (show O.toArray.all (·.oneCell') = true by
            rw [Array.all_eq_true_iff_forall_mem]
            intro v hv
            exact hO1 v (by simpa using hv))
          clear h4 r4 hO hO1 hOl K65 E3 e4 B6'
          go_wp2_with (first | (refine wpList_load_cells ?_ 30 (.tmp 35) ?_ ⟨b5, o5, none⟩ ?_ O _ ?_ Try.underlying30 rfl hiO.out ?_; rfl; rfl; rfl; exact hld.out) | (refine wpList_store_row ?_ 30 (.tmp 6) (.tmp 36) ?_ (w.heap.size + 1 + 1) O.toArray ?_ ?_ 30 (List.replicate 64 (Value.int IntKind.u8 0)).toArray ?_ hiA.out hZ.out hO2.out ?_; rfl; rfl; rfl; rfl; exact B64))
          refine bodyPost_ret (results_cell_row rfl _ _ _ _ _ (0, 0) _ rfl B65 Try.underlying30 rfl (by rw [info_block]; simp [HOL.out])) rfl ?_
          exact hR _ _ ⟨rfl, E5⟩
end Go.Proofs.Ytijpbbjblenhaaa
