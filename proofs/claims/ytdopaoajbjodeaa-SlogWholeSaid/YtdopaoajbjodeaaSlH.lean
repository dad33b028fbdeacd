/-
  The reference's Open.
-/
import Derived.Test.YtdopaoajbjodeaaSlG
namespace Go.Proofs.Ytdopaoajbjodeaa
open Go.RowKit Go.Shelf

attribute [local go_sem] Oper.semAt_some

theorem exec_convert {P : Program} {w : World} {o : Oper} {a : Act} {s d : TypeId} {p : Operand} {v : Value} (ho : o.op = .convert s d p) (h : (convert s d (a.eval p)).run P w = .ok v w) : (execOp a.eval o).run P w = .ok (.value v) w := by
  unfold execOp
  simp only [ho, Sem.run_bind, h, Result.andThen_ok, Sem.run_pure]
theorem slice_u64 (a : Option Addr) (n c m : Nat) (hm : m ≤ c) (w : World) : (Instr.sliceAt 25 (.slice a n c) none (some (.int .u64 (m : Int))) none).run Try.prog w = .ok (.slice a m c) w := by
  cases a with
  | none => simp [Instr.sliceAt, Instr.slice, Instr.sliceBounds, Instr.sliceBound, Result.andThen, asIntOf, hm]
  | some p => simp [Instr.sliceAt, Instr.slice, Instr.sliceBounds, Instr.sliceBound, Result.andThen, asIntOf, hm, Addr.add]
/-- The beginning of a slice of the call's own. -/
theorem owns_take {w : World} {base e n m : Nat} {a : Option Addr} {c : Nat} {xs : List Value} (h : w.ownsRow base e 1 (.slice a n c) n xs) (hn : 0 < n) (hm : m ≤ n) : w.ownsRow base e 1 (.slice a m c) m (xs.take m) := by
  rcases h.2 with ⟨_, h0⟩ | ⟨g, cap, cur, hv, hb, hg, hnc, hcm, hcs, htake⟩
  · omega
  · cases hv
    have hl := h.1
    refine ⟨by rw [List.length_take, hl]; omega, .inr ⟨g, _, cur, rfl, hb, hg, by omega, hcm, hcs, ?_⟩⟩
    rw [← htake, List.take_take, Nat.mul_one, Nat.mul_one, Nat.min_eq_left hm]

set_option maxRecDepth 20000 in
set_option maxHeartbeats 8000000 in
theorem refOpen_any {w : World} {B gs gc : Nat} {d : DSt} (hd : RD w B gs gc d) (hp : d.pw = true) (fr n : Int) (gen : UInt32) (hfr : -9223372036854775808 ≤ fr ∧ fr ≤ 9223372036854775807) (hn : -9223372036854775808 ≤ n ∧ n ≤ 9223372036854775807) :
    Calls Try.prog 18 #[.pointer (some ⟨B, 0, none⟩), .int .i64 fr, .int .i64 n, .int .u32 (gen.toNat : Int)] w (OpenQ 52 [] w B d fr n gen) := by
  have hbig := hd.big
  refine calls_cps fun R hR => ?_
  obtain ⟨g, hg⟩ : ∃ g, gen.toNat = g := ⟨_, rfl⟩
  have his := refRegion_any hd fr n hfr hn
  rw [hg]
  go_enter Try.func18, Try.ntmps18
  go_wp2_with fail
  refine his.mono ?_
  rintro e w1 ⟨rfl, rfl⟩
  cases hb : isR fr n d.n with
  | false =>
    have hf := hR (.returned (.tuple #[.pointer none, .int .i64 1])) w ⟨Keep.refl _ _, .inl ⟨hb, rfl⟩⟩
    clear hR
    go_wp2
    exact hf
  | true =>
    have hreg : 0 ≤ fr ∧ 2 ≤ n ∧ fr ≤ (d.n : Int) ∧ n ≤ (d.n : Int) - fr := by unfold isR at hb; exact of_decide_eq_true hb
    obtain ⟨a, rfl⟩ : ∃ a : Nat, fr = (a : Int) := ⟨fr.toNat, by omega⟩
    obtain ⟨N, rfl⟩ : ∃ N : Nat, n = (N : Int) := ⟨n.toNat, by omega⟩
    have hAN : a + N ≤ d.n := by omega
    have hA := Arr.new w 52 [.pointer (some ⟨B, 0, none⟩), .int .i64 (a : Int), .int .i64 (N : Int), .int .u32 (g : Int), .int .i64 0, .slice none 0 0, .bool false]
    have hE0 : Ext w (w.alloc (.cells #[.pointer (some ⟨B, 0, none⟩), .int .i64 (a : Int), .int .i64 (N : Int), .int .u32 (g : Int), .int .i64 0, .slice none 0 0, .bool false] 52)) := (Keep.refl _ w).alloc _
    obtain ⟨LB, hLBe⟩ : ∃ x, w.heap.size = x := ⟨_, rfl⟩
    rw [hLBe] at hA
    have hread : ∀ t, t < N → d.read ((a : Int) + (t : Int)) = secF d a t ∧ d.may ((a : Int) + (t : Int)) = 0 ∧ (secF d a t).length = 64 := fun t ht => by
      have hmay : d.may ((a : Int) + (t : Int)) = 0 := by unfold DSt.may; rw [hp]; simp only [if_true]; rw [if_neg (by omega)]
      refine ⟨?_, hmay, sector_length hd.len (by omega)⟩
      unfold DSt.read secF
      rw [if_pos hmay]
      congr 1
    have HRD := Lib.hid hread
    have HPD := Lib.hid hd
    have HG := Lib.hid hg
    have HR := Lib.hid (show ∀ LB v w', w.heap.size ≤ LB → LA 52 [] w' LB B v (openSt d a N gen) → (∀ k, v.ownBlock = some k → w.heap.size ≤ k) → Ext w w' → R (.returned (.tuple #[.pointer (some ⟨LB, 0, none⟩), .int .i64 0])) w' from fun LB v w' h1 h2 h3 h4 => hR _ _ ⟨h4, .inr ⟨hb, LB, v, rfl, h1, h2, h3⟩⟩)
    have hP0 : Hid (RL (w.alloc (.cells #[.pointer (some ⟨B, 0, none⟩), .int .i64 (a : Int), .int .i64 (N : Int), .int .u32 (g : Int), .int .i64 0, .slice none 0 0, .bool false] 52)) LB B (.slice none 0 0) ⟨a, N, gen, 0, [], false⟩) := ⟨by show Arr _ LB _ [.pointer (some ⟨B, 0, none⟩), .int .i64 (a : Int), .int .i64 (N : Int), .int .u32 (gen.toNat : Int), .int .i64 0, .slice none 0 0, .bool false]; rw [hg]; exact hA, ⟨[], World.ownsRow_nil _ _ _ _, rfl, by simp⟩, by show a + N ≤ 65536; omega, Nat.zero_le _, Nat.le_refl _, by simp⟩
    have HLB := Lib.hid (show w.heap.size ≤ LB by omega)
    clear his hA hread hd hR hb hg
    go_wp2
    go_loopw [12] (fun _ wr => ∃ (t : Nat) (recs : List (List UInt8)) (v : Value) (f : Nat), Hid (openG (secF d a) g N f t recs = openG (secF d a) g N N 0 []) ∧ N ≤ t + f ∧ t ≤ N ∧ Hid (RL wr LB B v ⟨a, N, gen, t, recs, false⟩) ∧ Ext w wr ∧ Hid (∀ k, v.ownBlock = some k → LB ≤ k)) (fun _ wr => N - atOf LB 4 wr)
    case atStart => exact ⟨0, [], _, N, Lib.hid rfl, by omega, Nat.zero_le _, hP0, hE0, Lib.hid (fun k h => by cases h)⟩
    case round =>
      clear hP0 hE0
      obtain ⟨t, recs, v, f, HOG, hf, htN, HPL, hEw, HOB⟩ := hrel
      have hC0 := (HPL.out).cells
      have hfew := (HPL.out).few
      replace hfew : recs.length ≤ t := hfew
      obtain ⟨vs, o1, _⟩ := (HPL.out).own
      obtain ⟨av, cv, hv, _⟩ := owns_row o1
      have hC : Arr wr LB 52 [.pointer (some ⟨B, 0, none⟩), .int .i64 (a : Int), .int .i64 (N : Int), .int .u32 (gen.toNat : Int), .int .i64 (t : Int), .slice av recs.length cv, .bool false] := by
        have := hC0
        rw [hv] at this
        exact this
      clear o1 hC0
      have c1 := hC.cell (i := 4) rfl
      have c5 := hC.cell (i := 5) rfl
      have HAT0 := Lib.hid (show atOf LB 4 wr = t by unfold atOf; rw [c1]; rfl)
      by_cases hlt : t < N
      · obtain ⟨hr1, hr2, hr3⟩ := HRD.out t hlt
        have hrd := refRead_any ((HPD.out).ext hEw) ((a : Int) + (t : Int))
        rw [hr1, hr2] at hrd
        unfold aggB at hrd
        obtain ⟨S, hS⟩ : ∃ S, secF d a t = S := ⟨_, rfl⟩
        rw [hS] at hrd hr3
        obtain ⟨O, hO⟩ : ∃ O, S.map u8v = O := ⟨_, rfl⟩
        have hOl : O.length = 64 := by rw [← hO, List.length_map, hr3]
        have hO1 := all_one S
        rw [hO] at hrd hO1
        have HO := Lib.hid hO
        have HO1 := Lib.hid hO1
        have HS := Lib.hid hS
        have HSL := Lib.hid hr3
        have hi1 := Lib.hid (show (Try.prog.info? 60).map (·.size) = some O.toArray.size by rw [info_sec]; simp [hOl])
        have hz1 := Lib.hid (show (List.replicate 64 (Value.int IntKind.u8 0)).toArray.size = O.toArray.size by simp [hOl])
        clear hr1 hr2 hr3 hO hO1 hS
        go_wp2_with fail
        refine hrd.mono ?_
        rintro e w2 ⟨rfl, hE2⟩
        have hE3 : Ext w2 (w2.alloc (.cells O.toArray 60)) := (Keep.refl _ w2).alloc _
        have c5' := (hE2.trans hE3).cell c5
        have hE23 := hE2.trans hE3
        have HA3 := Lib.hid (Arr.new w2 60 O)
        have hrow4 := (HA3.out).row (off := 0) (n := 4) (c := 64) (by omega) (by decide) (by simp [maxLen])
        rw [List.drop_zero, ← HO.out, ← List.map_take] at hrow4
        have hnum := number_any _ _ _ _ _ hrow4 (by omega)
        rw [HO.out] at hnum
        obtain ⟨X, hX⟩ : ∃ X, numL (S.take 4) = X := ⟨_, rfl⟩
        have hX32 : X < 4294967296 := by
          have := numL_lt (S.take 4)
          rw [List.length_take, HSL.out, hX] at this
          simpa using this
        rw [hX] at hnum
        have HX := Lib.hid hX
        have hsl4 := slice_4 w2.heap.size
        clear hE2 hE3 hrow4 hX c5
        go_wp2_with (first | fail | (refine wpList_store_row ?_ 60 (.tmp 11) (.tmp 45) ?_ w2.heap.size O.toArray ?_ ?_ 60 (List.replicate 64 (Value.int IntKind.u8 0)).toArray ?_ hi1.out hz1.out HO1.out ?_; rfl; rfl; rfl; rfl; exact Arr.new w2 60 (List.replicate 64 (.int .u8 0)); rw [World.setRow_alloc_new]))
        refine hnum.mono ?_
        rintro e w4 ⟨rfl, rfl⟩
        obtain ⟨W3, hW3⟩ : ∃ x, w2.alloc (.cells O.toArray 60) = x := ⟨_, rfl⟩
        rw [hW3] at HA3 hE23 c5' ⊢
        obtain ⟨p11, hp11⟩ : ∃ x, w2.heap.size = x := ⟨_, rfl⟩
        rw [hp11] at HA3 ⊢
        clear hnum hrd hsl4 hW3 hp11
        have hfi := refFirst_any [] gen recs.length none 0 0 W3 (Row.nil 1 W3) (by omega) (by omega)
        rw [HG.out] at hfi
        unfold aggB at hfi
        obtain ⟨M, hM⟩ : ∃ M, firstL [] g recs.length = M := ⟨_, rfl⟩
        have hMl : M.length = 64 := by rw [← hM, firstL_length]
        have hM55 : M.drop 55 = markL g recs.length := by rw [← hM, firstL_drop]
        rw [hM] at hfi
        obtain ⟨O2, hO2⟩ : ∃ O, M.map u8v = O := ⟨_, rfl⟩
        have hO21 := all_one M
        rw [hO2] at hfi hO21
        have hO2l : O2.length = 64 := by rw [← hO2, List.length_map, hMl]
        have HO2 := Lib.hid hO2
        have HO21 := Lib.hid hO21
        have HM55 := Lib.hid hM55
        have hj1 := Lib.hid (show (Try.prog.info? 60).map (·.size) = some O2.toArray.size by rw [info_sec]; simp [hO2l])
        have hk1 := Lib.hid (show (List.replicate 64 (Value.int IntKind.u8 0)).toArray.size = O2.toArray.size by simp [hO2l])
        clear hM hMl hM55 hO2 hO21
        go_wp2_with fail
        refine hfi.mono ?_
        rintro e w4 ⟨rfl, hE4⟩
        have hE5 : Ext w4 (w4.alloc (.cells O2.toArray 60)) := (Keep.refl _ w4).alloc _
        have HA5 := Lib.hid (((HA3.out).ext hE4).ext hE5)
        have HB5 := Lib.hid (Arr.new w4 60 O2)
        have hEr := (hE23.trans hE4).trans hE5
        clear hfi HA3 hE4 hE5 hE23 c5'
        go_wp2_with (first | fail | (refine wpList_store_row ?_ 60 (.tmp 14) (.tmp 58) ?_ w4.heap.size O2.toArray ?_ ?_ 60 (List.replicate 64 (Value.int IntKind.u8 0)).toArray ?_ hj1.out hk1.out HO21.out ?_; rfl; rfl; rfl; rfl; exact Arr.new w4 60 (List.replicate 64 (.int .u8 0)); rw [World.setRow_alloc_new]))
        obtain ⟨W5, hW5⟩ : ∃ x, w4.alloc (.cells O2.toArray 60) = x := ⟨_, rfl⟩
        rw [hW5] at HA5 HB5 hEr ⊢
        obtain ⟨p14, hp14⟩ : ∃ x, w4.heap.size = x := ⟨_, rfl⟩
        rw [hp14] at HB5 ⊢
        clear hW5 hp14
        have hEw5 := hEw.trans hEr
        have HPL5 := Lib.hid ((HPL.out).ext hEr)
        have hra := (HA5.out).row (off := 55) (n := 9) (c := 9) (by omega) (by decide) (by simp [maxLen])
        have hrb := (HB5.out).row (off := 55) (n := 9) (c := 9) (by omega) (by decide) (by simp [maxLen])
        rw [List.take_of_length_le (by rw [List.length_drop]; omega), ← HO.out, ← List.map_drop] at hra
        rw [List.take_of_length_le (by rw [List.length_drop]; omega), ← HO2.out, ← List.map_drop, HM55.out] at hrb
        have hs1 := fun A (hA : Ext W5 A) => run_string_row (P := Try.prog) A 25 9 5 Try.underlying25 Try.underlying5 Try.underlying9 (hra.ext hA)
        have hs2 := fun A (hA : Ext W5 A) => run_string_row (P := Try.prog) A 25 9 5 Try.underlying25 Try.underlying5 Try.underlying9 (hrb.ext hA)
        obtain ⟨tX, htX⟩ : ∃ x, (⟨(S.drop 55).toArray⟩ : ByteArray) = x := ⟨_, rfl⟩
        obtain ⟨tM, htM⟩ : ∃ x, (⟨(markL g recs.length).toArray⟩ : ByteArray) = x := ⟨_, rfl⟩
        rw [htX] at hs1
        rw [htM] at hs2
        have hte : tX = tM ↔ S.drop 55 = markL g recs.length := by
          rw [← htX, ← htM]
          constructor
          · intro h
            have := congrArg (fun b => b.data.toList) h
            simpa using this
          · intro h; rw [h]
        have HTE := Lib.hid hte
        have HS1 := Lib.hid hs1
        have HS2 := Lib.hid hs2
        clear hra hrb hs1 hs2 htX htM hte
        have c6 := (HPL5.out).cells.cell (i := 4) rfl
        replace c6 : W5.cell? ⟨LB, 4, none⟩ = some (.int .i64 (t : Int)) := c6
        have hend : ∀ A, Ext W5 A → dueL g recs.length S (N - t) = none → R (.returned (.tuple #[.pointer (some ⟨LB, 0, none⟩), .int .i64 0])) A := fun A hA hn => by
          have hst : openSt d a N gen = ⟨a, N, gen, t, recs, false⟩ := by
            unfold openSt
            rw [HG.out, ← HOG.out, openG_none (by rw [HS.out]; exact hn)]
          exact HR.out LB v A HLB.out (by rw [hst]; exact (HPL5.out).ext hA) (fun k hk => Nat.le_trans HLB.out (HOB.out k hk)) (hEw5.trans hA)
        have HEND := Lib.hid hend
        clear hend
        by_cases hu : tX = tM
        · have hu2 := HTE.out.1 hu
          have HU2 := Lib.hid hu2
          have hbq := bytes_beq tX tM
          rw [decide_eq_true hu] at hbq
          clear hu hu2
          by_cases hx : 262144 < X
          · have hgt : (262144 : Int) < (X : Int) := by omega
            refine FY.wp_flow (X := fun _ _ => False) (0 :: 1 :: 2 :: 3 :: 4 :: 5 :: 6 :: 7 :: 8 :: 9 :: 10 :: 11 :: 12 :: 13 :: 14 :: 15 :: 16 :: 17 :: 18 :: 19 :: 20 :: []) (fun _ => .reads) (by kernel_rfl) (by kernel_rfl) ?_
            refine FY.flow_v rfl rfl rfl (fun w' _ => exec_slice rfl (slice_55 p11 w')) ?_
            simp only [Act.put, List.setIfInBounds_toArray, List.set_cons_succ, List.set_cons_zero]
            refine FY.flow_v rfl rfl rfl (fun w' hE => exec_convert rfl (HS1.out w' (((Keep.refl _ W5).drew).trans hE))) ?_
            simp only [Act.put, List.setIfInBounds_toArray, List.set_cons_succ, List.set_cons_zero]
            refine FY.flow_v rfl rfl rfl (fun w' _ => exec_slice rfl (slice_55 p14 w')) ?_
            simp only [Act.put, List.setIfInBounds_toArray, List.set_cons_succ, List.set_cons_zero]
            refine FY.flow_v rfl rfl rfl (fun w' hE => exec_convert rfl (HS2.out w' (((Keep.refl _ W5).drew).trans hE))) ?_
            simp only [Act.put, List.setIfInBounds_toArray, List.set_cons_succ, List.set_cons_zero]
            iterate 6 (refine FY.flow_r rfl rfl rfl ?_; go_big_quiet_step (fail); refine wpQuiet_nil ?_)
            iterate 10 (refine FY.flow_s rfl rfl rfl ?_; simp only [Act.put, List.setIfInBounds_toArray, List.set_cons_succ, List.set_cons_zero])
            refine FY.flow_r rfl rfl rfl ?_; go_big_quiet_step (fail); refine wpQuiet_nil ?_
            refine FY.flow_end (fun w9 hE10 _ => ?_)
            replace hE10 : Ext W5 w9 := ((Keep.refl _ W5).drew).trans hE10
            have hf := HEND.out w9 hE10 (by unfold dueL; rw [HX.out, if_neg (by omega)])
            clear HEND
            go_wp2
            exact hf
          · have hgt : ¬ ((262144 : Int) < (X : Int)) := by omega
            have hspl := spanN_le X
            have hsp1 := spanN_pos (n := X) (by omega)
            have hfits := spanN_fits (n := X) (by omega)
            have hspan := fun A => refSpan_any (X : Int) A (by omega)
            rw [spanZ_nat] at hspan
            obtain ⟨SN, hSN⟩ : ∃ x, spanN X = x := ⟨_, rfl⟩
            rw [hSN] at hspl hsp1 hfits hspan
            have HSN := Lib.hid hSN
            have HSP := Lib.hid hspan
            clear hSN hspan
            have qX : (X : Int) % 18446744073709551616 = (X : Int) := by omega
            have hD : ∀ g : FY.At (fun _ _ => False) W5.drew, Ext W5 g.w := fun g => ((Keep.refl _ W5).drew).trans g.ext
            have d6 := fun g => Ext.cell (hD g) c6
            clear hD
            refine FY.wp_flow (X := fun _ _ => False) (0 :: 1 :: 2 :: 3 :: 4 :: 5 :: 6 :: 7 :: 8 :: 9 :: 10 :: 11 :: 12 :: 13 :: 14 :: 15 :: 16 :: 17 :: 18 :: 19 :: 20 :: []) (fun n => if n = 12 then .grows (Is (.int .i64 (SN : Int))) (IsSh (.int .i64 (SN : Int))) else .reads) (by kernel_rfl) (by kernel_rfl) ?_
            refine FY.flow_v rfl rfl rfl (fun w' _ => exec_slice rfl (slice_55 p11 w')) ?_
            simp only [Act.put, List.setIfInBounds_toArray, List.set_cons_succ, List.set_cons_zero]
            refine FY.flow_v rfl rfl rfl (fun w' hE => exec_convert rfl (HS1.out w' (((Keep.refl _ W5).drew).trans hE))) ?_
            simp only [Act.put, List.setIfInBounds_toArray, List.set_cons_succ, List.set_cons_zero]
            refine FY.flow_v rfl rfl rfl (fun w' _ => exec_slice rfl (slice_55 p14 w')) ?_
            simp only [Act.put, List.setIfInBounds_toArray, List.set_cons_succ, List.set_cons_zero]
            refine FY.flow_v rfl rfl rfl (fun w' hE => exec_convert rfl (HS2.out w' (((Keep.refl _ W5).drew).trans hE))) ?_
            simp only [Act.put, List.setIfInBounds_toArray, List.set_cons_succ, List.set_cons_zero]
            iterate 8 (refine FY.flow_r rfl rfl rfl ?_; go_big_quiet_step (fail); refine wpQuiet_nil ?_)
            refine FY.flow_g rfl rfl rfl (by simp) ⟨_, rfl⟩ (fun _ _ _ h hE => h) (fun _ _ h => h) (fun w8 hE8 _ => ?_) (fun v hv => ?_)
            · have hc := HSP.out w8
              go_wp2_with fail
              refine hc.mono ?_
              rintro e w6 ⟨rfl, rfl⟩
              go_wp2
              first | exact ⟨Keep.refl _ _, rfl⟩ | exact rfl
            cases hv
            simp only [Act.put, List.setIfInBounds_toArray, List.set_cons_succ, List.set_cons_zero]
            iterate 8 (refine FY.flow_r rfl rfl rfl ?_; go_big_quiet_step (fail); refine wpQuiet_nil ?_)
            refine FY.flow_end (fun W9 hE10 _ => ?_)
            replace hE10 : Ext W5 W9 := ((Keep.refl _ W5).drew).trans hE10
            by_cases hro : N - t < SN
            · have hro' : (N : Int) - (t : Int) < (SN : Int) := by omega
              have hf := HEND.out W9 hE10 (by unfold dueL; rw [HX.out, HSN.out, if_neg (by omega)])
              clear HEND d6
              go_wp2
              exact hf
            · have hro' : ¬ ((N : Int) - (t : Int) < (SN : Int)) := by omega
              have hdl : dueL g recs.length S (N - t) = some X := by
                unfold dueL
                rw [HX.out, HSN.out, if_pos ⟨HU2.out, by omega, by omega⟩]
              have HDL := Lib.hid hdl
              have HPL9 := Lib.hid ((HPL5.out).ext hE10)
              have HA9 := Lib.hid ((HA5.out).ext hE10)
              have hEw9 := hEw5.trans hE10
              clear hdl HEND HPL5 HA5 HB5 HS1 HS2 HTE HU2 d6 c6 hbq hE10 hEw5 hEr HPL
              have hrow := (HA9.out).row (off := 4) (n := 51) (c := 60) (by omega) (by decide) (by simp [maxLen])
              have hb0 : (O.drop 4).take 51 = (bodyU (secF d a) t 0).map u8v := by rw [← HO.out, ← List.map_drop, ← List.map_take, ← HS.out]; rfl
              rw [hb0] at hrow
              obtain ⟨v', w10, hrun, hown, hgrow, _⟩ := run_append_row W9 W9.heap.size 25 25 5 _ 1 1 Try.underlying25 info_u8 rfl (by decide) (World.ownsRow_nil W9 _ 5 1) hrow (u8v_one _) (by unfold maxLen; omega) (by omega) (Nat.le_refl _)
              rw [Nat.zero_add, List.nil_append] at hown
              have hE10 : Ext W9 w10 := Keep.of_grownBy hgrow (fun k o h _ => by cases h)
              obtain ⟨ab, cb, rfl, _⟩ := owns_row hown
              have HOWN := Lib.hid hown
              have HRUN := Lib.hid hrun
              have hsl := slice_455 p11
              clear hrow hb0 hrun hown hgrow
              go_wp2_with (at_builtin; go_must (refine wpList_append_run HRUN.out rfl rfl rfl rfl ?_))
              clear hsl HRUN
              go_loopw [15, 16] (fun tb tk wr2 => ∃ (j : Nat) (ab : Option Addr) (cb : Nat), j + 1 ≤ SN ∧ tk = .int .i64 ((j : Int) + 1) ∧ tb = .slice ab (51 + 64 * j) cb ∧ Hid (wr2.ownsRow W9.heap.size 5 1 tb (51 + 64 * j) ((bodyU (secF d a) t j).map u8v)) ∧ Ext W9 wr2) (fun _ tk _ => SN + 1 - (intOf tk).toNat)
              case atStart => exact ⟨0, ab, cb, by omega, by go_num, rfl, HOWN, hE10⟩
              case round =>
                clear HOWN hE10
                obtain ⟨j, ab, cb, hj, rfl, rfl, HOW, hEv⟩ := hrel
                go_wp2_with fail
                refine (HSP.out _).mono ?_
                rintro e w2 ⟨rfl, rfl⟩
                by_cases hlt2 : j + 1 < SN
                · have hlt' : (j : Int) + 1 < (SN : Int) := by omega
                  have c6 := Ext.cell hEv ((HPL9.out).cells.cell (i := 4) rfl)
                  replace c6 : wr.cell? ⟨LB, 4, none⟩ = some (.int .i64 (t : Int)) := c6
                  obtain ⟨hr1, hr2, hr3⟩ := HRD.out (t + (j + 1)) (by omega)
                  have hrd := refRead_any ((HPD.out).ext (hEw9.trans hEv)) ((a : Int) + (t : Int) + ((j : Int) + 1))
                  rw [show (a : Int) + (t : Int) + ((j : Int) + 1) = (a : Int) + ((t + (j + 1) : Nat) : Int) by omega, hr1, hr2, show (a : Int) + ((t + (j + 1) : Nat) : Int) = (a : Int) + (t : Int) + ((j : Int) + 1) by omega] at hrd
                  unfold aggB at hrd
                  obtain ⟨O3, hO3⟩ : ∃ O, (secF d a (t + (j + 1))).map u8v = O := ⟨_, rfl⟩
                  have hO3l : O3.length = 64 := by rw [← hO3, List.length_map, hr3]
                  have hO31 := all_one (secF d a (t + (j + 1)))
                  have hu81 : ∀ u ∈ O3, u.oneCell' = true := by rw [← hO3]; exact u8v_one _
                  have hbj : (bodyU (secF d a) t j).map u8v ++ O3 = (bodyU (secF d a) t (j + 1)).map u8v := by rw [← hO3, bodyU, List.map_append]
                  rw [hO3] at hrd hO31
                  have HO31 := Lib.hid hO31
                  have HU81 := Lib.hid hu81
                  have HBJ := Lib.hid hbj
                  have hm1 := Lib.hid (show (Try.prog.info? 60).map (·.size) = some O3.toArray.size by rw [info_sec]; simp [hO3l])
                  have hm2 := Lib.hid (show (List.replicate 64 (Value.int IntKind.u8 0)).toArray.size = O3.toArray.size by simp [hO3l])
                  clear hr1 hr2 hr3 hO3 hO31 hu81 hbj
                  go_wp2_with fail
                  refine hrd.mono ?_
                  rintro e w12 ⟨rfl, hE12⟩
                  have hE13 : Ext w12 (w12.alloc (.cells O3.toArray 60)) := (Keep.refl _ w12).alloc _
                  have hrow := (Arr.new w12 60 O3).whole hO3l (by simp [maxLen])
                  have hEv2 : Ext W9 (w12.alloc (.cells O3.toArray 60)) := (hEv.trans hE12).trans hE13
                  have hown0 := Ext.owns (show Ext wr (w12.alloc (.cells O3.toArray 60)) from hE12.trans hE13) HOW.out
                  obtain ⟨v', w14, hrun, hown, hgrow, _⟩ := run_append_row (w12.alloc (.cells O3.toArray 60)) W9.heap.size 25 25 5 _ 1 1 Try.underlying25 info_u8 rfl (by decide) hown0 hrow HU81.out (by unfold maxLen; omega) (by omega) hEv2.size
                  rw [HBJ.out] at hown
                  obtain ⟨a9, c9, rfl, _⟩ := owns_row hown
                  have hE14 : Ext W9 w14 := Ext.of_below (((Ext.below hEv2)).grown hgrow (hEv2.size) (fun k hk => (hown0.lt k hk).1))
                  have HRUN := Lib.hid hrun
                  have HO9 := Lib.hid (show w14.ownsRow W9.heap.size 5 1 (.slice a9 (51 + 64 * (j + 1)) c9) (51 + 64 * (j + 1)) ((bodyU (secF d a) t (j + 1)).map u8v) from hown)
                  have hsw := slice_whole w12.heap.size
                  clear hrun hown hown0 hgrow hrow hE12 hE13 hEv2 HOW hEv hrd c6
                  go_wp2_with (first | fail | (refine wpList_store_row ?_ 60 (.tmp 17) (.tmp 101) ?_ w12.heap.size O3.toArray ?_ ?_ 60 (List.replicate 64 (Value.int IntKind.u8 0)).toArray ?_ hm1.out hm2.out HO31.out ?_; rfl; rfl; rfl; rfl; exact Arr.new w12 60 (List.replicate 64 (.int .u8 0)); rw [World.setRow_alloc_new]) | (at_builtin; go_must (refine wpList_append_run HRUN.out rfl rfl rfl rfl ?_)))
                  go_round
                  case rel => exact ⟨j + 1, a9, c9, by omega, by go_num, rfl, HO9, hE14⟩
                  case measure => simp [intOf]; omega
                · obtain rfl : j + 1 = SN := by omega
                  have hlt' : ¬ ((j : Int) + 1 < ((j + 1 : Nat) : Int)) := by omega
                  have hXl : X ≤ 51 + 64 * j := by omega
                  have hlen := (HOW.out).1
                  obtain ⟨L, hL⟩ : ∃ L, (bodyU (secF d a) t j).take X = L := ⟨_, rfl⟩
                  have hLl : L.length = X := by
                    rw [← hL, List.length_take]
                    rw [List.length_map] at hlen
                    omega
                  have hLo : OwnB L (.slice ab X cb) wr := by
                    have := owns_take (owns_mono HOW.out (Nat.zero_le _)) (by omega) hXl
                    rw [← List.map_take, hL] at this
                    unfold OwnB
                    rw [hLl]
                    exact this
                  obtain ⟨_, _, q, hrb⟩ := owns_row HOW.out
                  cases q
                  have hcb : X ≤ cb := Nat.le_trans hXl hrb.1
                  have HPLw : Hid (RL wr LB B v ⟨a, N, gen, t, recs, false⟩) := (HPL9.out).ext hEv
                  have hCw : Arr wr LB 52 [.pointer (some ⟨B, 0, none⟩), .int .i64 (a : Int), .int .i64 (N : Int), .int .u32 (gen.toNat : Int), .int .i64 (t : Int), .slice av recs.length cv, .bool false] := by
                    have := (HPLw.out).cells
                    rw [hv] at this
                    exact this
                  have HL := Lib.hid hL
                  have HLL := Lib.hid hLl
                  have hEw' := hEw9.trans hEv
                  subst hv
                  clear HOW hrb hlen hL hLl HPL9 HPD HRD hEw hEw9 hC c1 HA9 HX
                  go_wp2
                  have hXL : ∀ cur, ¬ (fun (k : Nat) (o : Obj) => (Value.slice av recs.length cv).ownBlock = some k ∧ ∃ cur, o = .cells cur 25 (0, 0)) LB (.cells cur 52 (0, 0)) := fun cur ⟨_, _, h⟩ => by cases h
                  have hDs : ∀ g : FY.At (fun k o => (Value.slice av recs.length cv).ownBlock = some k ∧ ∃ cur, o = .cells cur 25 (0, 0)) wr.drew, g.w.cell? ⟨LB, 5, none⟩ = some (.slice av recs.length cv) := fun g => (hCw.keep (((Keep.refl _ wr).drew).trans g.ext) (hXL _)).cell (i := 5) rfl
                  refine FY.wp_flow (X := fun k o => (Value.slice av recs.length cv).ownBlock = some k ∧ ∃ cur, o = .cells cur 25 (0, 0)) (0 :: 1 :: 2 :: 3 :: 4 :: 5 :: 6 :: 7 :: 8 :: 9 :: 10 :: 11 :: 12 :: [])
                    (fun n => if n = 8 then .grows (OneOf (.slice ab X cb)) OneOfSh else if n = 9 then .bar else if n = 12 then .last else .still) (by kernel_rfl) (by kernel_rfl) ?_
                  iterate 7 (refine FY.flow_q rfl rfl rfl ?_; go_big_quiet_step (fail); refine wpQuiet_nil ?_)
                  refine FY.flow_vq rfl rfl rfl (fun w' _ => exec_slice rfl (slice_u64 ab (51 + 64 * j) cb X hcb w')) ?_
                  simp only [Act.put, List.setIfInBounds_toArray, List.set_cons_succ, List.set_cons_zero]
                  refine FY.flow_g rfl rfl rfl (by simp) ⟨_, 0, rfl⟩ (fun v A B ⟨g, h1, h2⟩ hE => ⟨g, h1, h2.ext hE⟩) (fun v A ⟨g, h1, _⟩ => ⟨g, h1⟩) (fun w5 hE5 hf => ?_) (fun v hv => ?_)
                  · have HW := Lib.hid (lit_row (base := 0) w5 25 #[.slice ab X cb] 1 (by simp [maxLen]) rfl (Nat.zero_le _)).2
                    have eA : Ext w5 (w5.alloc (.cells #[.slice ab X cb] 25)) := (Keep.refl _ w5).alloc _
                    clear hf
                    go_wp2
                    first | exact ⟨eA, _, rfl, HW.out⟩ | exact ⟨_, rfl, HW.out⟩ | exact HW.out | exact ⟨eA, HW.out⟩
                  obtain ⟨g', rfl⟩ := hv
                  simp only [Act.put, List.setIfInBounds_toArray, List.set_cons_succ, List.set_cons_zero]
                  refine FY.flow_bvs rfl rfl rfl (by simp) (by kernel_rfl) (fun w7 hE7 hf => ?_)
                  obtain ⟨_, q, hrow⟩ := hf 8
                  have hX7 : Ext wr w7 := ((Keep.refl _ wr).drew).trans hE7
                  cases q
                  obtain ⟨v', w8, hrun, ⟨a2, c2, rfl⟩, ⟨vs, o1, o2⟩, hK8, hblk⟩ := run_append_rec ((HPLw.out).ext hX7) (Ext.owns hX7 hLo) hrow rfl 31
                  replace o1 : w8.ownsRow 0 25 1 (.slice a2 (recs.length + 1) c2) (recs ++ [L]).length vs := o1
                  replace o2 : OwnTexts w8 vs (recs ++ [L]) := o2
                  have hc8 := (hCw.ext hX7).keep hK8 (hXL _)
                  have hK := (Keep.of_ext hX7).trans hK8
                  clear hf
                  refine wpList_append_run hrun rfl rfl rfl rfl ?_
                  refine ⟨rfl, _, rfl, hK8, ?_⟩
                  simp only [Act.put, List.setIfInBounds_toArray, List.set_cons_succ, List.set_cons_zero]
                  clear hrun hE7 hrow hLo hDs
                  iterate 2 (refine FY.flow_q rfl rfl rfl ?_; go_big_quiet_step (fail); refine wpQuiet_nil ?_)
                  refine FY.flow_l rfl rfl (by kernel_rfl) (fun w9 hE9 _ => ?_)
                  replace hE9 : Ext w8 w9 := hE9
                  have hc9 := hc8.ext hE9
                  have f5 := hc9.frozen 5
                  have c5 := hc9.cell (i := 5) rfl
                  have hc10 := hc9.set 5 (.slice a2 (recs.length + 1) c2)
                  have kc : Keep (fun k o => k = LB ∧ ∃ cur, o = .cells cur 52 (0, 0)) w9 (w9.setCell ⟨LB, 5, none⟩ (.slice a2 (recs.length + 1) c2)) := (Keep.refl _ w9).setCell _ _ (fun o ho => ⟨rfl, by rw [show w9.heap[LB]? = _ from hc9] at ho; cases ho; exact ⟨_, rfl⟩⟩)
                  have o1' := kc.owns' (hE9.owns o1) (fun k cur _ ⟨_, _, h⟩ => by cases h)
                  have o2' := (o2.keep (X := fun _ _ => False) hE9 (fun _ _ h => h)).keep kc (fun k cur ⟨_, _, h⟩ => by cases h)
                  have hKL : Keep (fun k _ => LB ≤ k) wr (w9.setCell ⟨LB, 5, none⟩ (.slice a2 (recs.length + 1) c2)) :=
                    ((hK.trans (Keep.of_ext hE9)).mono (fun k o _ h => HOB.out k h.1)).trans (kc.mono (fun k o _ h => by rw [h.1]; exact Nat.le_refl _))
                  have hOB' : Hid (∀ k, (Value.slice a2 (recs.length + 1) c2).ownBlock = some k → LB ≤ k) := fun k hk => by
                    rcases hblk with hb | hb
                    · exact HOB.out k (by rw [← hb]; exact hk)
                    · rw [hb] at hk
                      cases hk
                      have h1 : LB < wr.heap.size := hCw.lt
                      have h2 := hX7.size
                      omega
                  have HO9 := Lib.hid (⟨vs, o1', o2'⟩ : ∃ vs, (w9.setCell ⟨LB, 5, none⟩ (.slice a2 (recs.length + 1) c2)).ownsRow 0 25 1 (.slice a2 (recs.length + 1) c2) (recs ++ [L]).length vs ∧ OwnTexts (w9.setCell ⟨LB, 5, none⟩ (.slice a2 (recs.length + 1) c2)) vs (recs ++ [L]))
                  have HKL := Lib.hid hKL
                  simp only [List.set_cons_succ, List.set_cons_zero] at hc10
                  clear o1 o2 o1' o2' hK hKL hblk kc hK8 hX7 hc8 hc9 hE9 hXL hCw
                  go_wp2
                  obtain ⟨W, hW⟩ : ∃ x, w9.setCell ⟨LB, 5, none⟩ (.slice a2 (recs.length + 1) c2) = x := ⟨_, rfl⟩
                  rw [hW] at hc10 HO9 HKL ⊢
                  have c4 := hc10.cell (i := 4) rfl
                  have hD : ∀ g : FY.At (fun _ _ => False) W.drew, g.w.cell? ⟨LB, 4, none⟩ = some (.int .i64 (t : Int)) := fun g => Ext.cell (((Keep.refl _ W).drew).trans g.ext) c4
                  clear f5 c5 hW
                  refine FY.wp_flow (X := fun _ _ => False) (0 :: 1 :: 2 :: 3 :: 4 :: 5 :: 6 :: 7 :: 8 :: 9 :: 10 :: [])
                    (fun n => if n = 6 then .grows (Is (.int .i64 ((j + 1 : Nat) : Int))) (IsSh (.int .i64 ((j + 1 : Nat) : Int))) else if n = 10 then .last else .reads) (by kernel_rfl) (by kernel_rfl) ?_
                  iterate 6 (refine FY.flow_r rfl rfl rfl ?_; go_big_quiet_step (fail); refine wpQuiet_nil ?_)
                  refine FY.flow_g rfl rfl rfl (by simp) ⟨_, rfl⟩ (fun _ _ _ h hE => h) (fun _ _ h => h) (fun w5 hE5 _ => ?_) (fun v hv => ?_)
                  · have hc := HSP.out w5
                    go_wp2_with fail
                    refine hc.mono ?_
                    rintro e w6 ⟨rfl, rfl⟩
                    go_wp2
                    first | exact ⟨Keep.refl _ _, rfl⟩ | exact rfl
                  cases hv
                  simp only [Act.put, List.setIfInBounds_toArray, List.set_cons_succ, List.set_cons_zero]
                  iterate 3 (refine FY.flow_r rfl rfl rfl ?_; go_big_quiet_step (fail); refine wpQuiet_nil ?_)
                  refine FY.flow_l rfl rfl (by kernel_rfl) (fun w11 hE11 _ => ?_)
                  replace hE11 : Ext W w11 := ((Keep.refl _ W).drew).trans hE11
                  have hc11 := hc10.ext hE11
                  have f4 := hc11.frozen 4
                  replace c4 := hc11.cell (i := 4) rfl
                  have hc12 := hc11.set 4 (.int .i64 ((t : Int) + ((j + 1 : Nat) : Int)))
                  simp only [List.set_cons_succ, List.set_cons_zero] at hc12
                  have kc : Keep (fun k o => k = LB ∧ ∃ cur, o = .cells cur 52 (0, 0)) w11 (w11.setCell ⟨LB, 4, none⟩ (.int .i64 ((t : Int) + ((j + 1 : Nat) : Int)))) := (Keep.refl _ w11).setCell _ _ (fun o ho => ⟨rfl, by rw [show w11.heap[LB]? = _ from hc11] at ho; cases ho; exact ⟨_, rfl⟩⟩)
                  have HPLn : Hid (RL (w11.setCell ⟨LB, 4, none⟩ (.int .i64 ((t : Int) + ((j + 1 : Nat) : Int)))) LB B (.slice a2 (recs.length + 1) c2) ⟨a, N, gen, t + (j + 1), recs ++ [L], false⟩) := by
                    obtain ⟨vs, o1, o2⟩ := HO9.out
                    refine ⟨hc12, ⟨vs, kc.owns' (hE11.owns o1) (fun k cur _ ⟨_, _, h⟩ => by cases h), (o2.keep (X := fun _ _ => False) hE11 (fun _ _ h => h)).keep kc (fun k cur ⟨_, _, h⟩ => by cases h)⟩, ?_, ?_, ?_, ?_⟩
                    · show a + N ≤ 65536; omega
                    · show t + (j + 1) ≤ N; omega
                    · show (recs ++ [L]).length ≤ t + (j + 1)
                      rw [List.length_append, List.length_singleton]; omega
                    · intro x hx
                      replace hx : x ∈ recs ++ [L] := hx
                      rw [List.mem_append, List.mem_singleton] at hx
                      rcases hx with hx | rfl
                      · exact (HPLw.out).short x hx
                      · rw [HLL.out]; omega
                  have hEn : Ext w (w11.setCell ⟨LB, 4, none⟩ (.int .i64 ((t : Int) + ((j + 1 : Nat) : Int)))) := ((Keep.of_ext hEw').trans (((HKL.out).trans (Keep.of_ext hE11)).trans (kc.mono (fun k o _ h => by rw [h.1]; exact Nat.le_refl _)))).mono (fun k o ho hx => by
                    have := Keep.lt ho
                    have := HLB.out
                    omega)
                  have hatn : atOf LB 4 (w11.setCell ⟨LB, 4, none⟩ (.int .i64 ((t : Int) + ((j + 1 : Nat) : Int)))) = t + (j + 1) := (HPLn.out).atOf
                  have HATN := Lib.hid hatn
                  clear hc12 hc10 kc hD HO9 HKL hE11 hEw' hatn
                  go_wp2
                  go_round
                  case rel => exact ⟨t + (j + 1), recs ++ [L], _, f - 1, by
                    show _ = _
                    rw [← HOG.out]
                    obtain ⟨f', rfl⟩ : ∃ f', f = f' + 1 := ⟨f - 1, by omega⟩
                    rw [openG_some hlt (by rw [HS.out]; exact HDL.out), HSN.out, show j + 1 - 1 = j by omega, HL.out]; rfl, by omega, by omega, HPLn, hEn, hOB'⟩
                  case measure =>
                    refine Nat.lt_of_le_of_lt (Nat.le_of_eq (congrArg (fun x => N - x) HATN.out)) ?_
                    rw [HAT0.out]; omega
        · have hn := fun h => hu (HTE.out.2 h)
          have HNE := Lib.hid (show dueL g recs.length S (N - t) = none by unfold dueL; rw [if_neg (fun h => hn h.1)])
          have hbq := bytes_beq tX tM
          rw [decide_eq_false hu] at hbq
          clear hu hn
          refine FY.wp_flow (X := fun _ _ => False) (0 :: 1 :: 2 :: 3 :: 4 :: 5 :: 6 :: 7 :: 8 :: 9 :: 10 :: 11 :: 12 :: 13 :: 14 :: 15 :: 16 :: 17 :: 18 :: 19 :: 20 :: []) (fun _ => .reads) (by kernel_rfl) (by kernel_rfl) ?_
          refine FY.flow_v rfl rfl rfl (fun w' _ => exec_slice rfl (slice_55 p11 w')) ?_
          simp only [Act.put, List.setIfInBounds_toArray, List.set_cons_succ, List.set_cons_zero]
          refine FY.flow_v rfl rfl rfl (fun w' hE => exec_convert rfl (HS1.out w' (((Keep.refl _ W5).drew).trans hE))) ?_
          simp only [Act.put, List.setIfInBounds_toArray, List.set_cons_succ, List.set_cons_zero]
          refine FY.flow_v rfl rfl rfl (fun w' _ => exec_slice rfl (slice_55 p14 w')) ?_
          simp only [Act.put, List.setIfInBounds_toArray, List.set_cons_succ, List.set_cons_zero]
          refine FY.flow_v rfl rfl rfl (fun w' hE => exec_convert rfl (HS2.out w' (((Keep.refl _ W5).drew).trans hE))) ?_
          simp only [Act.put, List.setIfInBounds_toArray, List.set_cons_succ, List.set_cons_zero]
          iterate 2 (refine FY.flow_r rfl rfl rfl ?_; go_big_quiet_step (fail); refine wpQuiet_nil ?_)
          iterate 2 (refine FY.flow_s rfl rfl rfl ?_; simp only [Act.put, List.setIfInBounds_toArray, List.set_cons_succ, List.set_cons_zero])
          iterate 2 (refine FY.flow_r rfl rfl rfl ?_; go_big_quiet_step (fail); refine wpQuiet_nil ?_)
          iterate 10 (refine FY.flow_s rfl rfl rfl ?_; simp only [Act.put, List.setIfInBounds_toArray, List.set_cons_succ, List.set_cons_zero])
          refine FY.flow_r rfl rfl rfl ?_; go_big_quiet_step (fail); refine wpQuiet_nil ?_
          refine FY.flow_end (fun w9 hE10 _ => ?_)
          replace hE10 : Ext W5 w9 := ((Keep.refl _ W5).drew).trans hE10
          have hf := HEND.out w9 hE10 HNE.out
          clear HEND
          go_wp2
          exact hf
      · obtain rfl : t = N := by omega
        have hst : openSt d a t gen = ⟨a, t, gen, t, recs, false⟩ := by
          unfold openSt
          rw [HG.out, ← HOG.out, openG_stop (by omega)]
        have hf := HR.out LB v wr HLB.out (by rw [hst]; exact HPL.out) (fun k hk => Nat.le_trans HLB.out (HOB.out k hk)) hEw
        clear hst HOG
        go_wp2
        exact hf
end Go.Proofs.Ytdopaoajbjodeaa
