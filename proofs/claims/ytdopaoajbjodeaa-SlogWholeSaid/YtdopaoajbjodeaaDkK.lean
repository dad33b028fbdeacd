/-
  The reference's disk: Start, Write.
-/
import Derived.Test.YtdopaoajbjodeaaDkJ
import Derived.Test.YtdopaoajbjodeaaDkGen
namespace Go.Proofs.Ytdopaoajbjodeaa
open Go.RowKit Go.Shelf

attribute [local go_sem] Oper.semAt_some

set_option maxRecDepth 20000 in
set_option maxHeartbeats 1000000 in
theorem refStart_any {w : World} {B gs gc : Nat} {s : DSt} (h : RD w B gs gc s) : Calls Try.prog 25 #[.pointer (some ⟨B, 0, none⟩)] w fun e w' =>
    (∃ v, e = .returned v) ∧ RD w' B gs gc s.start ∧ Keep (fun k _ => k = B) w w' := by
  obtain ⟨ac, cc, cap, tl, e1, e2, e3, e4, e5, e6⟩ := h.ex
  have c0 := e1.cell (i := 0) rfl
  have c2 := e1.cell (i := 2) rfl
  have c3 := e1.cell (i := 3) rfl
  have f2 := e1.frozen 2
  have f3 := e1.frozen 3
  have k1 : Keep (fun k _ => k = B) w (w.setCell ⟨B, 3, none⟩ (.bool false)) := keep_setCell w B 3 _
  have k2 : Keep (fun k _ => k = B) w ((w.setCell ⟨B, 3, none⟩ (.bool false)).setCell ⟨B, 2, none⟩ (.int .i64 0)) := k1.trans (keep_setCell _ B 2 _)
  have a2 := (e1.set 3 (.bool false)).set 2 (.int .i64 0)
  simp only [List.set_cons_succ, List.set_cons_zero] at a2
  have d1 := a2.cell (i := 1) rfl
  have g1 := a2.frozen 1
  have hst : s.start = { s with pw := true, wr := 0, cr := s.cr.tail } := rfl
  rw [hst]
  refine calls_cps fun R hR => ?_
  have H := Lib.hid h
  have HA := Lib.hid a2
  clear e1 h a2 hst
  go_enter Try.func25, Try.ntmps25
  by_cases hcr : s.cr.length = 0
  · have hcn : s.cr = [] := List.eq_nil_of_length_eq_zero hcr
    rw [hcn] at hR
    rw [hcn] at d1
    simp only [List.length_nil] at d1
    clear hcr
    go_wp2
    refine bodyPost_end (results_none rfl _ _ _) rfl (hR _ _ ⟨⟨_, rfl⟩, ?_, k2⟩)
    have h := H.out
    have h0 := h.lt
    exact ⟨⟨ac, cc, cap, tl, by have := HA.out; rw [hcn] at this; exact this, by rw [hcn] at e2; exact ⟨e2.1, e2.2.1, e2.2.2.1, e2.2.2.2.1, (fun h => by cases h)⟩, (fun p _ h => by cases h), fun hn => (e4 hn).keep k2 (fun h' => h.n1 h'.symm), e5, e6⟩, h.len, by simpa using h0, h.n1, (fun h => by cases h), (fun h => by cases h), h.big⟩
  · have hp : 0 < s.cr.length := by omega
    have hsl := slice_cr ac s.cr.length cc hp
    have hcut := e2.cut (lo := 1) (hi := s.cr.length) hp (Nat.le_refl _)
    rw [Nat.one_mul] at hcut
    have hbl : ∀ p, (if cc = 1 then ac else ac.map (·.add 2)) = some p → p.block = gc := by
      intro p hpq
      split at hpq
      · exact e3 p hpq hp
      · cases ac with
        | none => cases hpq
        | some p' =>
          have := e3 p' rfl hp
          simp only [Option.map_some, Option.some.injEq] at hpq
          rw [← hpq]
          unfold Addr.add
          split <;> exact this
    obtain ⟨a1, ha1⟩ : ∃ a1, (if cc = 1 then ac else ac.map (·.add 2)) = a1 := ⟨_, rfl⟩
    rw [ha1] at hsl hcut hbl
    have HBL := Lib.hid hbl
    clear ha1 hbl
    go_wp2
    refine bodyPost_end (results_none rfl _ _ _) rfl (hR _ _ ⟨⟨_, rfl⟩, ?_, k2.trans (keep_setCell _ B 1 _)⟩)
    have h := H.out
    have h0 := h.lt
    have k3 := k2.trans (keep_setCell _ B 1 (.slice a1 (s.cr.length - 1) (cc - 1)))
    have hlt : s.cr.tail.length = s.cr.length - 1 := by simp
    have hrow : Row 2 w a1 (s.cr.length - 1) (cc - 1) (crC s.cr.tail) := by
      rw [crC_tail]
      rwa [List.take_of_length_le (by rw [List.length_drop, crC_length]; omega)] at hcut
    refine ⟨⟨a1, cc - 1, cap, tl, by have := (HA.out).set 1 (.slice a1 (s.cr.length - 1) (cc - 1)); rw [hlt]; exact this, ?_, fun p hp' _ => HBL.out p hp', fun hn => (e4 hn).keep k3 (fun h' => h.n1 h'.symm), e5, e6⟩, h.len, by simpa using h0, h.n1, fun _ => h.n2 hp, fun _ => h.n3 hp, h.big⟩
    rw [hlt]
    exact hrow.keep k3 (fun p o hp' _ _ => by show ¬ p.block = B; rw [HBL.out p hp']; exact h.n2 hp)

theorem over_nil (l : List Value) (off : Nat) : over l off [] = l := by simp [over]
theorem over_step {cur O : List Value} {off c : Nat} {x : Value} (h : off + c < cur.length) (hx : O[c]? = some x) : (over cur off (O.take c)).set (off + c) x = over cur off (O.take (c + 1)) := by
  obtain ⟨hc, he⟩ := List.getElem?_eq_some_iff.1 hx
  refine List.ext_getElem? fun i => ?_
  unfold over
  simp only [List.getElem?_set, List.getElem?_append, List.length_append, List.length_take, List.getElem?_take, List.getElem?_drop]
  rw [Nat.min_eq_left (show off ≤ cur.length by omega), Nat.min_eq_left (show c ≤ O.length by omega), Nat.min_eq_left (show c + 1 ≤ O.length by omega)]
  by_cases hi : off + c = i
  · subst hi
    simp [show ¬ off + c < off by omega, hx, List.length_drop]
    omega
  · rw [if_neg hi]
    by_cases h1 : i < off
    · simp [h1, show i < off + c by omega, show i < off + (c + 1) by omega]
    · by_cases h2 : i < off + c
      · simp [h1, h2, show i < off + (c + 1) by omega, show i - off < c by omega, show i - off < c + 1 by omega]
      · rw [if_neg h2, if_neg (show ¬ i < off + (c + 1) by omega), show off + c + (i - (off + c)) = off + (c + 1) + (i - (off + (c + 1))) by omega]
theorem index_arr (g off c : Nat) (hc : c < 64) (w : World) : (Instr.indexAt 60 (.pointer (some ⟨g, off, none⟩)) (.int .i64 (c : Int))).run Try.prog w = .ok (.pointer (some ⟨g, off + c, none⟩)) w := by
  have h1 : (0 : Int) ≤ (c : Int) ∧ (c : Int) < 64 := by omega
  simp [Instr.indexAt, Instr.sureAddr, asIntOf, Result.andThen, h1, addr_add, hc]
set_option maxRecDepth 20000 in
set_option maxHeartbeats 2000000 in
theorem refWrite_any {w : World} {B gs gc : Nat} {s : DSt} (h : RD w B gs gc s) (i : Int) (b : List UInt8) (hb : b.length = 64) (hw : s.wr < 4611686018427387904) :
    Calls Try.prog 34 #[.pointer (some ⟨B, 0, none⟩), .int .i64 i, aggB b] w fun e w' =>
    e = .returned (.int .i64 (s.writeE i)) ∧ RD w' B gs gc (s.write i b) ∧ Keep (fun k _ => s.n ≠ 0 ∧ (k = B ∨ k = gs)) w w' := by
  unfold aggB
  have hlen := Lib.hid h.len
  obtain ⟨O, hO⟩ : ∃ O, b.map u8v = O := ⟨_, rfl⟩
  have HOb := Lib.hid hO
  have hOl := Lib.hid (show O.length = 64 by rw [← hO, List.length_map, hb])
  have HO1 := Lib.hid (show O.toArray.all (·.oneCell') = true by rw [← hO]; exact all_one _)
  have HOs := Lib.hid (show (Try.prog.info? 60).map (·.size) = some O.length by rw [info_sec, hOl.out])
  rw [hO]
  have HBl := Lib.hid hb
  clear hO hb
  refine calls_cps fun R hR => ?_
  have hE : Ext w (w.alloc (.cells O.toArray 60)) := (Keep.refl _ w).alloc _
  have hZ : Arr (w.alloc (.cells O.toArray 60)) w.heap.size 60 O := Arr.new w _ O
  have h1 := h.ext hE
  have hltB : B < w.heap.size := by obtain ⟨_, _, _, _, e1, _⟩ := h.ex; exact e1.lt
  have hltG := h.lt
  obtain ⟨ac, cc, cap, tl, e1, e2, e3, e4, e5, e6⟩ := h1.ex
  have c0 := e1.cell (i := 0) rfl
  have c3 := e1.cell (i := 3) rfl
  clear h
  go_enter Try.func34, Try.ntmps34
  by_cases hm : s.may i = 0
  case' pos =>
    obtain ⟨hp, k, rfl, hk⟩ := may_zero hm
    have hS := e4 (by omega)
    have c1 := e1.cell (i := 1) rfl
    have c2 := e1.cell (i := 2) rfl
    have hix := index_sec gs s.n cap k hk
    have hfit : k * 64 + 64 ≤ s.F.length := by rw [hlen.out]; omega
    have hnB : B ≠ gs := h1.n1
    have hgc := h1.n2
    have hgc2 := h1.n3
    have H4 := Lib.hid e4
    rw [hp] at c3
    simp only [Bool.not_true] at c3
    clear e4
    by_cases ht : s.tears = true
    · obtain ⟨q, crs, hcr, hqw⟩ : ∃ q crs, s.cr = q :: crs ∧ q.1 = (s.wr : Int) := by
        unfold DSt.tears at ht
        split at ht
        · cases ht
        · rename_i c t he; exact ⟨c, t, he, by simpa using ht⟩
      have hkp : s.keep = keepN q.2 := by simp [DSt.keep, hcr]
      have hwr : s.write (k : Int) b = { s.put k (b.take (keepN q.2)) with pw := false } := by simp [DSt.write, ht, hm, hkp]
      have hre : s.writeE (k : Int) = 131 := by simp [DSt.writeE, ht, hm]
      rw [hwr, hre] at hR
      rw [hcr] at c1 e2
      simp only [List.length_cons] at c1
      obtain ⟨b0, o0, rfl, hcc⟩ := e2.2.2.2.2 (by simp)
      have q0 : (w.alloc (.cells O.toArray 60)).cell? ⟨b0, o0, none⟩ = some (.int .i64 q.1) := hcc 0 _ rfl
      have q1 : (w.alloc (.cells O.toArray 60)).cell? ⟨b0, o0 + 1, none⟩ = some (.int .i64 q.2) := hcc 1 _ rfl
      rw [hqw] at q0
      have hql : 0 < crs.length + 1 := by omega
      obtain ⟨m, hmk⟩ : ∃ m, keepN q.2 = m := ⟨_, rfl⟩
      have hmm : m ≤ 64 := by rw [← hmk]; unfold keepN; omega
      have hmv : (min (max q.2 0) 64 : Int) = (m : Int) := by rw [← hmk]; unfold keepN; omega
      rw [hmk] at hR
      obtain ⟨kp, hkq⟩ : ∃ x, q.2 = x := ⟨_, rfl⟩
      rw [hkq] at q1 hmv
      have HMV := Lib.hid hmv
      clear hwr hre hm ht hkp hmk hkq hmv hqw e2 H4
      go_wp2
      obtain ⟨w1, hw1⟩ : ∃ x, w.alloc (.cells O.toArray 60) = x := ⟨_, rfl⟩
      rw [hw1] at hE hZ h1 e1 hS c1 c2 q0 q1 ⊢
      clear hw1
      have hD : ∀ g : At w1.drew, Ext w1 g.w := fun g => ((Keep.refl _ w1).drew).trans g.ext
      have d1 := fun g => (hD g).cell c1
      have d2 := fun g => (hD g).cell c2
      have dq := fun g => (hD g).cell q0
      refine wp_flow (fun n => .reads) (by kernel_rfl) (by kernel_rfl) ?_
      repeat (first | (refine flow_r rfl rfl ?_; go_big_quiet_step (fail); refine wpQuiet_nil ?_) | (refine flow_s rfl rfl ?_; simp only [Act.put, List.setIfInBounds_toArray, List.set_cons_succ, List.set_cons_zero]))
      refine flow_end (fun w2 hE2 _ => ?_)
      have hE3 : Ext w1 w2 := ((Keep.refl _ w1).drew).trans hE2
      have e7 := e1.ext hE3
      have hS7 := hS.ext hE3
      have hZ7 := hZ.ext hE3
      have h7 := h1.ext hE3
      have hE7 := hE.trans hE3
      have c17 := hE3.cell c1
      have q17 := hE3.cell q1
      obtain ⟨cur, hcur⟩ : ∃ c, s.F.map u8v ++ tl = c := ⟨_, rfl⟩
      have hold := Lib.hid (show k * 64 + m ≤ cur.length by rw [← hcur, List.length_append, List.length_map]; omega)
      rw [hcur] at hS7
      have HS7 := Lib.hid hS7
      have HO2 := Lib.hid (show ∀ v ∈ O, v.oneCell' = true by rw [← HOb.out]; exact u8v_one b)
      have c27 := hE3.cell c2
      clear hE2 hE3 hS c0 c1 c2 c3 q0 q1 hcc hcur hE hZ e1 h1 hD d1 d2 dq hS7
      have hb0 : b0 ≠ gs := by
        have h1 : b0 = gc := e3 _ rfl (by rw [hcr]; simp)
        have h2 := hgc2 (by rw [hcr]; simp)
        omega
      clear hcr e3
      go_wp2
      go_loopw [7] (fun t7 wr => ∃ c : Nat, c ≤ m ∧ t7 = .int .i64 c ∧ Arr wr gs 60 (over cur (k * 64) (O.take c)) ∧ Keep (fun b _ => b = gs) w2 wr) (fun t7 _ => 64 - (intOf t7).toNat)
      case atStart => exact ⟨0, by omega, rfl, by rw [List.take_zero, over_nil]; exact HS7.out, Keep.refl _ _⟩
      case round =>
        obtain ⟨c, hcm, rfl, hA, hK⟩ := hrel
        have c1r := hK.cell c17 (fun _ _ _ => hnB)
        have q1r := hK.cell q17 (fun _ _ _ => hb0)
        have zr := hZ7.keep hK (by omega)
        by_cases hlt : c < m
        · have hc64 : c < 64 := by omega
          have hck : (c : Int) < kp := by have := HMV.out; omega
          obtain ⟨x, hx⟩ : ∃ x, b[c]? = some x := ⟨_, List.getElem?_eq_getElem (by rw [HBl.out]; omega)⟩
          have hox : O[c]? = some (.int .u8 (x.toNat : Int)) := by rw [← HOb.out, List.getElem?_map, hx]; rfl
          have hcl : (over cur (k * 64) (O.take c)).length = cur.length := over_length (by rw [List.length_take, hOl.out]; have := hold.out; omega)
          have hstep := over_step (cur := cur) (off := k * 64) (by have := hold.out; omega) hox
          obtain ⟨y, hy⟩ : ∃ y, (over cur (k * 64) (O.take c))[k * 64 + c]? = some y := ⟨_, List.getElem?_eq_getElem (by rw [hcl]; have := hold.out; omega)⟩
          have HST := Lib.hid hstep
          have HKK := Lib.hid hK
          have zc := zr.cell (i := c) hox
          have hi1 := index_arr w.heap.size 0 c hc64
          rw [Nat.zero_add] at hi1
          have hi2 := index_arr gs (k * 64) c hc64
          have c0r := (e7.keep hK hnB).cell (i := 0) rfl
          have HA := Lib.hid hA
          have HY := Lib.hid hy
          clear hA hK hstep hcl hox hx hy
          go_wp2
          have hD : ∀ g : At wr.drew, Ext wr g.w := fun g => ((Keep.refl _ wr).drew).trans g.ext
          have d0 := fun g => (hD g).cell c0r
          have dz := fun g => (hD g).cell zc
          refine wp_flow (fun n => if n = 11 then .last else .reads) (by kernel_rfl) (by kernel_rfl) ?_
          repeat (refine flow_r rfl rfl ?_; go_big_quiet_step (fail); refine wpQuiet_nil ?_)
          refine flow_l rfl (by kernel_rfl) (fun w3 hE3 _ => ?_)
          have hE4 : Ext wr w3 := ((Keep.refl _ wr).drew).trans hE3
          have hA3 := (HA.out).ext hE4
          have cp := hA3.cell HY.out
          have fp := hA3.frozen (k * 64 + c)
          have hA2 := hA3.set (k * 64 + c) (.int .u8 (x.toNat : Int))
          rw [HST.out] at hA2
          have hK2 := ((HKK.out).trans (Keep.of_ext hE4)).trans (keep_setCell w3 gs (k * 64 + c) (.int .u8 (x.toNat : Int)))
          have HA2 := Lib.hid hA2
          clear hA3 hA2 d0 dz hD
          go_wp2
          go_roundw
          case rel => exact ⟨c + 1, by omega, by go_num, HA2.out, hK2⟩
          case measure => simp [intOf]; omega
        · obtain rfl : c = m := by omega
          have hcond : ((c : Int) < 64 ∧ ¬ (c : Int) < kp) ∨ ¬ (c : Int) < 64 := by have := HMV.out; omega
          have e8 := e7.keep hK hnB
          have c3 := e8.cell (i := 3) rfl
          have f3 := e8.frozen 3
          have k2 : Keep (fun k _ => s.n ≠ 0 ∧ (k = B ∨ k = gs)) w2 wr := hK.mono (fun k o _ hx => ⟨by omega, .inr hx⟩)
          have k3 := k2.setCell ⟨B, 3, none⟩ (.bool true) (fun o _ => ⟨by omega, .inl rfl⟩)
          have H8 := Lib.hid hA
          have HK := Lib.hid hK
          have htl : (b.take c).length = c := by rw [List.length_take, HBl.out]; omega
          have HTL := Lib.hid htl
          have hfin : ∀ e, e = Ending.returned (.int .i64 131) → R e (wr.setCell ⟨B, 3, none⟩ (.bool true)) := fun e he => by
            refine hR _ _ ⟨he, h7.turned k3 rfl rfl (overB_length (by rw [HTL.out]; omega)) (fun q0 q1 ha => ?_) (fun tl' hn ha => ?_), (Keep.of_ext hE7).trans k3⟩
            · exact (ha.keep HK.out hnB).set 3 (.bool true)
            · have := arr_inj ha HS7.out
              have h9 := (H8.out).keep (keep_setCell wr B 3 (.bool true)) (fun h => hnB h.symm)
              rw [← this, ← HOb.out, ← List.map_take, over_app (by rw [HTL.out]; omega)] at h9
              exact h9
          clear hA hK htl hR
          rcases hcond with ⟨hc1, hc2⟩ | hc1
          · go_wp2
          · go_wp2
    · have hwr : s.write (k : Int) b = { s.put k b with wr := s.wr + 1 } := by simp [DSt.write, ht, hm]
      have hre : s.writeE (k : Int) = 0 := by simp [DSt.writeE, ht, hm]
      rw [hwr, hre] at hR
      rcases hcr : s.cr with _ | ⟨q, crs⟩
      case' nil =>
        rw [hcr] at c1
        simp only [List.length_nil] at c1
        clear hwr hre hm ht e2 H4
        go_wp2
        obtain ⟨w1, hw1⟩ : ∃ x, w.alloc (.cells O.toArray 60) = x := ⟨_, rfl⟩
        rw [hw1] at hE hZ h1 e1 hS c1 c2 ⊢
        clear hw1
        have hD : ∀ g : At w1.drew, Ext w1 g.w := fun g => ((Keep.refl _ w1).drew).trans g.ext
        have d1 := fun g => (hD g).cell c1
        refine wp_flow (fun n => .reads) (by kernel_rfl) (by kernel_rfl) ?_
        repeat (first | (refine flow_r rfl rfl ?_; go_big_quiet_step (fail); refine wpQuiet_nil ?_) | (refine flow_s rfl rfl ?_; simp only [Act.put, List.setIfInBounds_toArray, List.set_cons_succ, List.set_cons_zero]))
      case' cons =>
        rw [hcr] at c1 e2
        simp only [List.length_cons] at c1
        obtain ⟨b0, o0, rfl, hcc⟩ := e2.2.2.2.2 (by simp)
        have q0 : (w.alloc (.cells O.toArray 60)).cell? ⟨b0, o0, none⟩ = some (.int .i64 q.1) := hcc 0 _ rfl
        have hql : 0 < crs.length + 1 := by omega
        have hne : q.1 ≠ (s.wr : Int) := by simpa [DSt.tears, hcr] using ht
        have hneb : (q.1 == (s.wr : Int)) = false := by simpa using hne
        clear hwr hre hm ht e2 H4
        go_wp2
        obtain ⟨w1, hw1⟩ : ∃ x, w.alloc (.cells O.toArray 60) = x := ⟨_, rfl⟩
        rw [hw1] at hE hZ h1 e1 hS c1 c2 q0 ⊢
        clear hw1
        have hD : ∀ g : At w1.drew, Ext w1 g.w := fun g => ((Keep.refl _ w1).drew).trans g.ext
        have d1 := fun g => (hD g).cell c1
        have d2 := fun g => (hD g).cell c2
        have dq := fun g => (hD g).cell q0
        refine wp_flow (fun n => .reads) (by kernel_rfl) (by kernel_rfl) ?_
        repeat (first | (refine flow_r rfl rfl ?_; go_big_quiet_step (fail); refine wpQuiet_nil ?_) | (refine flow_s rfl rfl ?_; simp only [Act.put, List.setIfInBounds_toArray, List.set_cons_succ, List.set_cons_zero]))
      all_goals
        refine flow_end (fun w2 hE2 _ => ?_)
        have hE3 : Ext w1 w2 := ((Keep.refl _ w1).drew).trans hE2
        have e7 := e1.ext hE3
        have hS7 := hS.ext hE3
        have hZ7 := hZ.ext hE3
        have h7 := h1.ext hE3
        have hE7 := hE.trans hE3
        obtain ⟨cur, hcur⟩ : ∃ c, s.F.map u8v ++ tl = c := ⟨_, rfl⟩
        have HCUR := Lib.hid hcur
        have hold := Lib.hid (show k * 64 + O.length ≤ cur.length by rw [← hcur, hOl.out, List.length_append, List.length_map]; omega)
        rw [hcur] at hS7
        have HS7 := Lib.hid hS7
        have HO2 := Lib.hid (show ∀ v ∈ O, v.oneCell' = true by rw [← HOb.out]; exact u8v_one b)
        have d0 := fun (g : At w2.drew) => (((Keep.refl _ w2).drew).trans g.ext : Ext w2 g.w).cell (e7.cell (i := 0) rfl)
        have HZ7 : ∀ w', Ext w2.drew w' → w'.heap[w.heap.size]? = some (.cells O.toArray 60 (0, 0)) := fun w' hE => hZ7.ext (((Keep.refl _ w2).drew).trans hE)
        clear hE2 hE3 hS c0 c1 c2 c3 hcur hE hZ e1 h1
        go_wp2
        refine wp_flow (fun n => if n = 7 then .last else .reads) (by kernel_rfl) (by kernel_rfl) ?_
        iterate 5 (refine flow_r rfl rfl ?_; go_big_quiet_step (fail); refine wpQuiet_nil ?_)
        refine flow_v (v := .agg O.toArray) rfl rfl (fun w' hE => exec_load_row rfl rfl (HZ7 w' hE) Try.underlying60 rfl HOs.out) ?_
        simp only [Act.put, List.setIfInBounds_toArray, List.set_cons_succ, List.set_cons_zero]
        refine flow_r rfl rfl ?_; go_big_quiet_step (fail); refine wpQuiet_nil ?_
        refine flow_l rfl (by kernel_rfl) (fun w3 hE3 _ => ?_)
        have hE4 : Ext w2 w3 := ((Keep.refl _ w2).drew).trans hE3
        refine wpList_store_mid rfl 60 (.tmp 80) (.tmp 79) rfl gs (k * 64) O rfl rfl _ cur (hS7.ext hE4) HOs.out hold.out HO2.out ?_
        have k5 := keep_setRow w3 gs (over cur (k * 64) O).toArray
        have e8 := (e7.ext hE4).keep k5 hnB
        have hS8 := (hS7.ext hE4).setRow (over cur (k * 64) O)
        obtain ⟨w4, hw4⟩ : ∃ w', w3.setRow gs (over cur (k * 64) O).toArray = w' := ⟨_, rfl⟩
        rw [hw4] at k5 e8 hS8 ⊢
        have c2 := e8.cell (i := 2) rfl
        have f2 := e8.frozen 2
        clear d0 HZ7 hw4 hE3 e7
        have k2 : Keep (fun k _ => s.n ≠ 0 ∧ (k = B ∨ k = gs)) w2 w4 := (Keep.of_ext hE4).trans (k5.mono (fun k o _ hx => ⟨by omega, .inr hx⟩))
        have k3 := k2.setCell ⟨B, 2, none⟩ (.int .i64 ((s.wr : Int) + 1)) (fun o _ => ⟨by omega, .inl rfl⟩)
        have H8 := Lib.hid hS8
        clear hS8 hS7
        go_wp2
        refine ⟨rfl, h7.turned k3 rfl rfl (overB_length (by rw [HBl.out]; exact hfit)) (fun q0 q1 ha => ?_) (fun tl' hn ha => ?_), (Keep.of_ext hE7).trans k3⟩
        · exact ((ha.ext hE4).keep k5 hnB).set 2 (.int .i64 ((s.wr : Int) + 1))
        · have := arr_inj (ha.ext hE4) (HS7.out.ext hE4)
          have h9 := (H8.out).keep (keep_setCell w4 B 2 (.int .i64 ((s.wr : Int) + 1))) (fun h => hnB h.symm)
          rw [← this, ← HOb.out, over_app (by rw [HBl.out]; exact hfit)] at h9
          exact h9
  case neg =>
    have hrd : s.write i b = s := by simp [DSt.write, hm]
    have hre : s.writeE i = s.may i := by simp [DSt.writeE, hm]
    rw [hrd, hre] at hR
    clear hrd hre e4 hZ
    by_cases hp : s.pw = true
    · rw [hp] at c3
      simp only [Bool.not_true] at c3
      by_cases h0 : i < 0
      · have hv : s.may i = 130 := by simp [DSt.may, hp, h0]
        rw [hv] at hR
        clear hm hv hp
        go_wp2
        first | exact ⟨rfl, h1, Keep.of_ext hE⟩ | exact Keep.of_ext hE
      · have hn : (s.n : Int) ≤ i := by
          by_cases hn : (s.n : Int) ≤ i
          · exact hn
          · exact absurd (by simp [DSt.may, hp, h0, hn]) hm
        have hv : s.may i = 130 := by simp [DSt.may, hp, hn]
        rw [hv] at hR
        clear hm hv hp
        go_wp2
        first | exact ⟨rfl, h1, Keep.of_ext hE⟩ | exact Keep.of_ext hE
    · have hpf : s.pw = false := by simpa using hp
      rw [hpf] at c3
      simp only [Bool.not_false] at c3
      have hv : s.may i = 131 := by simp [DSt.may, hpf]
      rw [hv] at hR
      clear hm hv hp hpf
      go_wp2
      first | exact ⟨rfl, h1, Keep.of_ext hE⟩ | exact Keep.of_ext hE
end Go.Proofs.Ytdopaoajbjodeaa
