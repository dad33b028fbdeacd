/-
  The law DiskClones: its body.
-/
import Derived.Test.YthbffmdfdbfioaaDkM
namespace Go.Proofs.Ythbffmdfdbfioaa
open Go.RowKit Go.Shelf

attribute [local go_sem] Oper.semAt_some

def newD (N : Nat) : DSt := ⟨zeros (N * 64), N, [], 0, true⟩
theorem write_calm {s : DSt} (hc : s.cr = []) (hp : s.pw = true) (i : Int) (b : List UInt8) :
    (s.write i b).cr = [] ∧ (s.write i b).pw = true ∧ (s.write i b).n = s.n ∧ (s.write i b).wr ≤ s.wr + 1 ∧ s.writeE i = s.may i ∧ (s.write i b).may i = s.may i := by
  have ht : s.tears = false := by simp [DSt.tears, hc]
  unfold DSt.write DSt.writeE
  by_cases hm : s.may i = 0
  · rw [if_pos hm, ht, if_pos hm]
    simp only [Bool.false_eq_true, if_false]
    refine ⟨hc, hp, rfl, Nat.le_refl _, hm.symm, rfl⟩
  · rw [if_neg hm, if_neg hm]
    exact ⟨hc, hp, rfl, by omega, rfl, rfl⟩
theorem write_read {s : DSt} (hc : s.cr = []) (hl : s.F.length = s.n * 64) (i : Int) (b : List UInt8) (hb : b.length = 64) (hm : s.may i = 0) : (s.write i b).read i = b := by
  have ht : s.tears = false := by simp [DSt.tears, hc]
  obtain ⟨hp, k, rfl, hk⟩ := may_zero hm
  have hm2 := (write_calm hc hp (k : Int) b).2.2.2.2.2
  unfold DSt.read
  rw [if_pos (by rw [hm2]; exact hm)]
  unfold DSt.write
  rw [if_pos hm, ht]
  simp only [Bool.false_eq_true, if_false]
  show ((overB s.F (k * 64) b).drop (k * 64)).take 64 = b
  unfold overB
  have h1 : (s.F.take (k * 64)).length = k * 64 := by rw [List.length_take]; omega
  rw [List.append_assoc, List.drop_left' h1, List.take_left' hb]

set_option maxRecDepth 20000 in
set_option maxHeartbeats 4000000 in
theorem diskClones_any (n i : Int) (a b : List UInt8) (w : World) (hn : -9223372036854775808 ≤ n ∧ n ≤ 9223372036854775807) (_hi : -9223372036854775808 ≤ i ∧ i ≤ 9223372036854775807) (ha : a.length = 64) (hb : b.length = 64) :
    Calls Try.prog 5 #[.int .i64 n, .int .i64 i, aggB a, aggB b] w fun e w' => e = .returned (.bool true) ∧ Ext w w' := by
  unfold aggB
  have hone1 := all_one a
  have hone2 := all_one b
  have hca := bytes_cells a ha
  have hcb := bytes_cells b hb
  obtain ⟨cO, hcO⟩ : ∃ c, (a.map u8v).toArray = c := ⟨_, rfl⟩
  obtain ⟨cS, hcS⟩ : ∃ c, (b.map u8v).toArray = c := ⟨_, rfl⟩
  have HcO := Lib.hid hcO
  have HcS := Lib.hid hcS
  have hiO := Lib.hid (show (Try.prog.info? 22).map (·.size) = some cO.size by rw [info_sec, ← hcO]; simp [ha])
  have hiS := Lib.hid (show (Try.prog.info? 22).map (·.size) = some cS.size by rw [info_sec, ← hcS]; simp [hb])
  rw [hcO] at hca hone1
  rw [hcS] at hcb hone2
  have heqA := fun w => run_eql_arr (P := Try.prog) (w := w) cO Try.underlying22 Try.underlying5 size_u8 hca
  have heqB := fun w => run_eql_arr (P := Try.prog) (w := w) cS Try.underlying22 Try.underlying5 size_u8 hcb
  have HO1 := Lib.hid hone1
  have HS1 := Lib.hid hone2
  have HzO := Lib.hid (show (List.replicate 64 (Value.int .u8 0)).toArray.size = cO.size by rw [← hcO]; simp [ha])
  have HzS := Lib.hid (show (List.replicate 64 (Value.int .u8 0)).toArray.size = cS.size by rw [← hcS]; simp [hb])
  have HA := Lib.hid ha
  have HBb := Lib.hid hb
  rw [hcO, hcS]
  clear hcO hcS hca hcb hone1 hone2 ha hb
  have HB : Hid (∀ w1, Ext ((w.alloc (.cells cO 22)).alloc (.cells cS 22)) w1 → Ext w w1 ∧ w1.heap[w.heap.size]? = some (.cells cO 22 (0, 0)) ∧ w1.heap[w.heap.size + 1]? = some (.cells cS 22 (0, 0)) ∧ w.heap.size + 1 < w1.heap.size) := fun w1 h => by
    have e : ∀ (A : World) (o : Obj), Ext A (A.alloc o) := fun A o => (Keep.refl _ A).alloc o
    have k1 := World.alloc_heap_new w (.cells cO 22)
    have k2 := World.alloc_heap_new (w.alloc (.cells cO 22)) (.cells cS 22)
    simp only [World.size_alloc] at k2
    have hh := h.size
    simp only [World.size_alloc] at hh
    exact ⟨((e _ _).trans (e _ _)).trans h, h.block _ _ ((e _ _).block _ _ k1 (fun h => h)) (fun h => h), h.block _ _ k2 (fun h => h), by omega⟩
  refine calls_cps fun R hR => ?_
  go_enter Try.func5, Try.ntmps5
  go_wp2_with fail
  refine (awake13_any _).mono ?_; rintro e w1 ⟨rfl, e1⟩
  obtain ⟨E1, bO, bS, hlt1⟩ := HB.out w1 e1
  clear HB e1
  by_cases c1 : 100 < n
  · clear heqA heqB
    go_wp2
    try exact ⟨rfl, E1⟩
  · obtain ⟨N, hN⟩ : ∃ N, (max n 0).toNat = N := ⟨_, rfl⟩
    have HN : Hid ((min (max n 0) 65536 : Int) = (N : Int)) := Lib.hid (by omega)
    have hN100 : N ≤ 100 := by omega
    clear hN hn
    go_wp2_with fail
    refine (dnew_any n N HN.out none 0 [] w1 (Row.nil 2 w1) (by decide)).mono ?_
    rintro e w2 ⟨v, rfl, ⟨B, gs, gc, rfl, hD, hb1, hb2, hb3⟩, e2⟩
    have hD : PD w2 B gs gc (newD N) := hD
    have E2 := E1.trans e2
    replace bO := e2.block _ _ bO (fun h => h)
    replace bS := e2.block _ _ bS (fun h => h)
    clear e2 E1 hb3
    obtain ⟨q1, q2, q3, q4, q5, q6⟩ := write_calm (s := newD N) rfl rfl i a
    have hrd1 := write_read (s := newD N) rfl (by simp [newD, zeros]) i a HA.out
    have hlen0 : (newD N).F.length = (newD N).n * 64 := by simp [newD, zeros]
    have hpl : (newD N).may i = 0 ∨ (newD N).may i = 130 := by
      unfold DSt.may newD
      simp only [if_true]
      split
      · exact .inr rfl
      · exact .inl rfl
    obtain ⟨m, hm⟩ : ∃ m, (newD N).may i = m := ⟨_, rfl⟩
    rw [hm] at q5 q6 hrd1 hpl
    have Q5 := Lib.hid q5
    have HPL := Lib.hid hpl
    clear hpl
    go_wp2_with (refine wpList_load_g 22 (.tmp 6) w.heap.size 22 cO ?_ ?_ ?_ ?_ Try.underlying22 rfl hiO.out ?_; rfl; rfl; rfl; exact bO)
    have hw := dwrite_any hD i a HA.out (by simp [newD])
    rw [Q5.out] at hw
    unfold aggB at hw
    rw [HcO.out] at hw
    refine hw.mono ?_
    rintro e w3 ⟨rfl, hD3, e3⟩
    have E3 : Ext w w3 := ((Keep.of_ext E2).trans e3).mono (fun k o ho hx => by have := Keep.lt ho; omega)
    replace bO := e3.block _ _ bO (by omega)
    replace bS := e3.block _ _ bS (by omega)
    have hln1 := hD3.len
    obtain ⟨S1, hS1⟩ : ∃ s, (newD N).write i a = s := ⟨_, rfl⟩
    rw [hS1] at hD3 q1 q2 q3 q4 q6 hrd1 hln1
    have hn1 : S1.n = N := q3
    have hw1 : S1.wr ≤ 1 := q4
    obtain ⟨r1, r2, r3, r4, r5, r6⟩ := write_calm q1 q2 i b
    have hrd2 := write_read q1 hln1 i b HBb.out
    rw [q6] at r5 r6 hrd2
    have R5 := Lib.hid r5
    have R6 := Lib.hid r6
    have Q6 := Lib.hid q6
    have RD1 := Lib.hid hrd1
    have RD2 := Lib.hid hrd2
    have Q1 := Lib.hid q1
    have HN1 := Lib.hid hn1
    clear hw hD e3 E2 hS1 q1 q2 q3 q4 q5 q6 r1 r2 r3 r4 r5 r6 hrd1 hrd2 hn1 hlen0 hln1 hm
    have hwlt := hD3.lts
    have hs3 := E3.size
    go_wp2_with fail
    refine (dclone_any hD3 Q1.out (by have := HN1.out; omega)).mono ?_
    rintro e w4 ⟨C, gc', rfl, hC, hc1, hc2, e4⟩
    have E4 := E3.trans e4
    have hD4 := hD3.ext e4
    replace bO := e4.block _ _ bO (fun h => h)
    replace bS := e4.block _ _ bS (fun h => h)
    clear hD3 e4 E3
    have hlc : ∀ A, Ext w4 A → Calls Try.prog 17 #[.pointer (some ⟨C, 0, none⟩)] A fun e w' => e = .returned (.int .i64 (S1.n : Int)) ∧ Ext A w' := fun A h => dlen_any (hC.ext h)
    have hld : ∀ A, Ext w4 A → Calls Try.prog 17 #[.pointer (some ⟨B, 0, none⟩)] A fun e w' => e = .returned (.int .i64 (S1.n : Int)) ∧ Ext A w' := fun A h => dlen_any (hD4.ext h)
    go_wp2_with fail
    refine (hlc _ (Keep.refl _ _)).mono ?_
    rintro e w5 ⟨rfl, e5⟩
    go_wp2_with fail
    refine (hld _ e5).mono ?_
    rintro e w6 ⟨rfl, e6⟩
    have e56 := e5.trans e6
    go_wp2_with fail
    refine (dwrites_any (hC.ext e56)).mono ?_
    rintro e w7 ⟨rfl, e7⟩
    have e57 := e56.trans e7
    go_wp2_with fail
    refine (dwrites_any (hD4.ext e57)).mono ?_
    rintro e w8 ⟨rfl, e8⟩
    have e58 := e57.trans e8
    have E8 := E4.trans e58
    have hC8 := hC.ext e58
    have hD8 := hD4.ext e58
    replace bO := e58.block _ _ bO (fun h => h)
    replace bS := e58.block _ _ bS (fun h => h)
    clear e5 e6 e7 e8 e56 e57 e58 E4 hC hD4 hlc hld
    go_wp2_with (refine wpList_load_g 22 (.tmp 7) (w.heap.size + 1) 22 cS ?_ ?_ ?_ ?_ Try.underlying22 rfl hiS.out ?_; rfl; rfl; rfl; exact bS)
    have hw := dwrite_any hC8 i b HBb.out (by omega)
    rw [R5.out] at hw
    unfold aggB at hw
    rw [HcS.out] at hw
    refine hw.mono ?_
    rintro e w9 ⟨rfl, hC9, e9⟩
    have E9 : Ext w w9 := ((Keep.of_ext E8).trans e9).mono (fun k o ho hx => by
      have := Keep.lt ho
      obtain ⟨hx1, hx2 | hx2⟩ := hx
      · omega
      · have := hc2 (by omega); omega)
    have hD9 : PD w9 B gs gc S1 := hD8.keep e9 (fun _ hx => by
      obtain ⟨hx1, hx2 | hx2⟩ := hx
      · omega
      · have := hc2 (by omega); omega) (fun _ _ hx => by
      obtain ⟨hx1, hx2 | hx2⟩ := hx
      · omega
      · have := hc2 (by omega); omega) (fun h => by rw [Q1.out] at h; cases h)
    replace bO := e9.block _ _ bO (fun hx => by
      obtain ⟨hx1, hx2 | hx2⟩ := hx
      · omega
      · have := hc2 (by omega); omega)
    replace bS := e9.block _ _ bS (fun hx => by
      obtain ⟨hx1, hx2 | hx2⟩ := hx
      · omega
      · have := hc2 (by omega); omega)
    clear hw hC8 hD8 e9 E8
    -- the first read
    have hr1 := dread_any hD9 i
    have hr2 := fun A (h : Ext w9 A) => dread_any (hC9.ext h) i
    rw [Q6.out] at hr1
    simp only [R6.out] at hr2
    have hl1 : (S1.read i).length = 64 := by
      unfold DSt.read
      split
      · rename_i h
        obtain ⟨_, k, rfl, hk⟩ := may_zero h
        exact sector_length hD9.len hk
      · rfl
    have hl2 : ((S1.write i b).read i).length = 64 := by
      unfold DSt.read
      split
      · rename_i h
        obtain ⟨_, k, rfl, hk⟩ := may_zero h
        exact sector_length hC9.len hk
      · rfl
    obtain ⟨X1, hX1⟩ : ∃ x, S1.read i = x := ⟨_, rfl⟩
    obtain ⟨X2, hX2⟩ : ∃ x, (S1.write i b).read i = x := ⟨_, rfl⟩
    rw [hX1] at hr1 hl1 RD1
    rw [hX2] at hl2 RD2
    simp only [hX2] at hr2
    unfold aggB at hr1 hr2
    have ho1 := all_one X1
    have ho2 := all_one X2
    have hcc1 : m = 0 → (X1.map u8v).toArray = cO := fun h => by rw [RD1.out h]; exact HcO.out
    have hcc2 : m = 0 → (X2.map u8v).toArray = cS := fun h => by rw [RD2.out h]; exact HcS.out
    have hi1 := Lib.hid (show (Try.prog.info? 22).map (·.size) = some (X1.map u8v).toArray.size by rw [info_sec]; simp [hl1])
    have hi2 := Lib.hid (show (Try.prog.info? 22).map (·.size) = some (X2.map u8v).toArray.size by rw [info_sec]; simp [hl2])
    have hz1 := Lib.hid (show (List.replicate 64 (Value.int .u8 0)).toArray.size = (X1.map u8v).toArray.size by simp [hl1])
    have hz2 := Lib.hid (show (List.replicate 64 (Value.int .u8 0)).toArray.size = (X2.map u8v).toArray.size by simp [hl2])
    obtain ⟨c1, hC1⟩ : ∃ c, (X1.map u8v).toArray = c := ⟨_, rfl⟩
    obtain ⟨c2, hC2⟩ : ∃ c, (X2.map u8v).toArray = c := ⟨_, rfl⟩
    rw [hC1] at hr1 hi1 hz1 ho1 hcc1
    rw [hC2] at hi2 hz2 ho2 hcc2
    simp only [hC2] at hr2
    have HO3 := Lib.hid ho1
    have HO4 := Lib.hid ho2
    have HC1 := Lib.hid hcc1
    have HC2 := Lib.hid hcc2
    clear hX1 hX2 hl1 hl2 hC1 hC2 ho1 ho2 hcc1 hcc2 hD9 hC9 RD1 RD2
    go_wp2_with fail
    refine hr1.mono ?_
    rintro e w10 ⟨rfl, e10⟩
    have eA : Ext w10 (w10.alloc (.cells c1 22)) := (Keep.refl _ w10).alloc _
    have hP13 := World.alloc_heap_new w10 (.cells c1 22)
    have hlt13 : w10.heap.size < (w10.alloc (.cells c1 22)).heap.size := by simp
    have hr3 := hr2 _ (e10.trans eA)
    have HE := Lib.hid (e10.trans eA)
    clear hr1 hr2 eA
    go_wp2_with (refine wpList_store_row ?_ 22 (.tmp 13) (.tmp 56) ?_ w10.heap.size c1 ?_ ?_ 22 (List.replicate 64 (Value.int IntKind.u8 0)).toArray ?_ hi1.out hz1.out HO3.out ?_; rfl; rfl; rfl; rfl; exact Arr.new w10 22 (List.replicate 64 (.int .u8 0)); rw [World.setRow_alloc_new])
    refine hr3.mono ?_
    rintro e w11 ⟨rfl, e11⟩
    obtain ⟨P13, hP13e⟩ : ∃ p, w10.heap.size = p := ⟨_, rfl⟩
    rw [hP13e] at hP13 hlt13 ⊢
    have eB : Ext w11 (w11.alloc (.cells c2 22)) := (Keep.refl _ w11).alloc _
    have b13 := (e11.trans eB).block _ _ hP13 (fun h => h)
    have b15 := World.alloc_heap_new w11 (.cells c2 22)
    have E12 := (E9.trans HE.out).trans (e11.trans eB)
    replace bO := (HE.out.trans (e11.trans eB)).block _ _ bO (fun h => h)
    replace bS := (HE.out.trans (e11.trans eB)).block _ _ bS (fun h => h)
    clear hr3 hP13 hP13e hlt13 e10 e11 eB HE E9
    go_wp2_with (refine wpList_store_row ?_ 22 (.tmp 15) (.tmp 62) ?_ w11.heap.size c2 ?_ ?_ 22 (List.replicate 64 (Value.int IntKind.u8 0)).toArray ?_ hi2.out hz2.out HO4.out ?_; rfl; rfl; rfl; rfl; exact Arr.new w11 22 (List.replicate 64 (.int .u8 0)); rw [World.setRow_alloc_new])
    obtain ⟨P15, hP15e⟩ : ∃ p, w11.heap.size = p := ⟨_, rfl⟩
    obtain ⟨w12, hw12⟩ : ∃ x, w11.alloc (.cells c2 22) = x := ⟨_, rfl⟩
    rw [hP15e] at b15
    rw [hw12] at b13 b15 bO bS E12
    rw [hP15e, hw12]
    clear hP15e hw12
    refine (dstart_nil w12).mono ?_
    rintro e w13 ⟨⟨v13, rfl⟩, e13⟩
    go_wp2_with fail
    refine (dread_nil w13 i).mono ?_
    rintro e w14 ⟨rfl, e14⟩
    have e1214 := e13.trans e14
    have eC : Ext w14 (w14.alloc (.cells ((zeros 64).map u8v).toArray 22)) := (Keep.refl _ w14).alloc _
    have e15 := e1214.trans eC
    have E15 := E12.trans e15
    replace b13 := e15.block _ _ b13 (fun h => h)
    replace b15 := e15.block _ _ b15 (fun h => h)
    replace bO := e15.block _ _ bO (fun h => h)
    replace bS := e15.block _ _ bS (fun h => h)
    unfold aggB
    have hiz := Lib.hid (show (Try.prog.info? 22).map (·.size) = some ((zeros 64).map u8v).toArray.size by rw [info_sec]; rfl)
    have hzz := Lib.hid (show (List.replicate 64 (Value.int .u8 0)).toArray.size = ((zeros 64).map u8v).toArray.size from rfl)
    have hoz := Lib.hid (all_one (zeros 64))
    obtain ⟨cz, hcz⟩ : ∃ c, ((zeros 64).map u8v).toArray = c := ⟨_, rfl⟩
    rw [hcz] at hiz hzz hoz b13 b15 bO bS E15 ⊢
    clear e13 e14 e1214 e15 E12 hcz eC
    go_wp2_with (refine wpList_store_row ?_ 22 (.tmp 18) (.tmp 70) ?_ w14.heap.size cz ?_ ?_ 22 (List.replicate 64 (Value.int IntKind.u8 0)).toArray ?_ hiz.out hzz.out hoz.out ?_; rfl; rfl; rfl; rfl; exact Arr.new w14 22 (List.replicate 64 (.int .u8 0)); rw [World.setRow_alloc_new])
    obtain ⟨w16, hw16⟩ : ∃ x, w14.alloc (.cells cz 22) = x := ⟨_, rfl⟩
    rw [hw16] at b13 b15 bO bS E15 ⊢
    clear hw16
    refine (dead_nil w16).mono ?_
    rintro e w17 ⟨rfl, e17⟩
    go_wp2_with fail
    refine (dlen_nil w17).mono ?_
    rintro e w18 ⟨rfl, e18⟩
    go_wp2_with fail
    refine (dclone_nil w18).mono ?_
    rintro e w19 ⟨rfl, e19⟩
    have e20 := (e17.trans e18).trans e19
    replace b13 := e20.block _ _ b13 (fun h => h)
    replace b15 := e20.block _ _ b15 (fun h => h)
    replace bO := e20.block _ _ bO (fun h => h)
    replace bS := e20.block _ _ bS (fun h => h)
    have E20 := E15.trans e20
    clear e17 e18 e19 e20 E15
    go_wp2_with (refine wpList_load_g 22 (.tmp 6) w.heap.size 22 cO ?_ ?_ ?_ ?_ Try.underlying22 rfl hiO.out ?_; rfl; rfl; rfl; exact bO)
    refine (dwrite_nil w19 i cO).mono ?_
    rintro e w21 ⟨rfl, e21⟩
    replace b13 := e21.block _ _ b13 (fun h => h)
    replace b15 := e21.block _ _ b15 (fun h => h)
    replace bO := e21.block _ _ bO (fun h => h)
    replace bS := e21.block _ _ bS (fun h => h)
    have E21 := E20.trans e21
    clear e21 E20
    rcases HPL.out with h0 | h0
    · have q1 := HC1.out h0
      have q2 := HC2.out h0
      subst q1
      subst q2
      subst h0
      go_wp2_with (first | (refine wpList_load_g 22 (.tmp 13) P13 22 c1 ?_ ?_ ?_ ?_ Try.underlying22 rfl hi1.out ?_; rfl; rfl; rfl; exact b13) | (refine wpList_load_g 22 (.tmp 6) w.heap.size 22 c1 ?_ ?_ ?_ ?_ Try.underlying22 rfl hiO.out ?_; rfl; rfl; rfl; exact bO) | (refine wpList_load_g 22 (.tmp 15) P15 22 c2 ?_ ?_ ?_ ?_ Try.underlying22 rfl hi2.out ?_; rfl; rfl; rfl; exact b15) | (refine wpList_load_g 22 (.tmp 7) (w.heap.size + 1) 22 c2 ?_ ?_ ?_ ?_ Try.underlying22 rfl hiS.out ?_; rfl; rfl; rfl; exact bS))
      try exact ⟨rfl, E21⟩
    · subst h0
      go_wp2
      try exact ⟨rfl, E21⟩
end Go.Proofs.Ythbffmdfdbfioaa
