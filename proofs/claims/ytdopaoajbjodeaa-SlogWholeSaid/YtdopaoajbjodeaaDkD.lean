/-
  disk.Disk: Write.
-/
import Derived.Test.YtdopaoajbjodeaaDkC
import Derived.Test.YtdopaoajbjodeaaArrEq
namespace Go.Proofs.Ytdopaoajbjodeaa
open Go.RowKit Go.Shelf

attribute [local go_sem] Oper.semAt_some

theorem size_u8 : (Try.prog.info? 5).map (·.size) = some 1 := by kernel_rfl
theorem exec_max {P : Program} {w : World} {o : Oper} {a : Act} {p q : Operand} {ts : Array TypeId} {k : IntKind} {x y : Int} (ho : o.op = .call { callee := .builtin .max, args := #[p, q], argTypes := ts }) (hp : a.eval p = .int k x) (hq : a.eval q = .int k y) :
    (execOp a.eval o).run P w = .ok (.value (.int k (max x y))) w := by
  simp [execOp, ho, resolve, invoke, builtin, hp, hq, Builtin.max_, Builtin.max2]
  split <;> omega
theorem exec_min {P : Program} {w : World} {o : Oper} {a : Act} {p q : Operand} {ts : Array TypeId} {k : IntKind} {x y : Int} (ho : o.op = .call { callee := .builtin .min, args := #[p, q], argTypes := ts }) (hp : a.eval p = .int k x) (hq : a.eval q = .int k y) :
    (execOp a.eval o).run P w = .ok (.value (.int k (min x y))) w := by
  simp [execOp, ho, resolve, invoke, builtin, hp, hq, Builtin.min_, Builtin.min2]
  split <;> omega
theorem exec_slice {P : Program} {w : World} {o : Oper} {a : Act} {ty : TypeId} {p : Operand} {lo hi mx : Option Operand} {v : Value} (ho : o.op = .slice ty p lo hi mx)
    (h : (Instr.sliceAt ty (a.eval p) (lo.map a.eval) (hi.map a.eval) (mx.map a.eval)).run P w = .ok v w) : (execOp a.eval o).run P w = .ok (.value v) w := by
  unfold execOp
  simp only [ho, Sem.run_bind, h, Result.andThen_ok, Sem.run_pure]
theorem slice_arr (g off m : Nat) (hm : m ≤ 64) (w : World) : (Instr.sliceAt 60 (.pointer (some ⟨g, off, none⟩)) none (some (.int .i64 (m : Int))) none).run Try.prog w = .ok (.slice (some ⟨g, off, none⟩) m 64) w := by
  simp [Instr.sliceAt, Instr.sliceBounds, Instr.sliceBound, Instr.sureAddr, Result.andThen, asIntOf, hm, addr_add]
theorem slice_all (g : Nat) (w : World) : (Instr.sliceAt 60 (.pointer (some ⟨g, 0, none⟩)) none none none).run Try.prog w = .ok (.slice (some ⟨g, 0, none⟩) 64 64) w := by
  simp [Instr.sliceAt, Instr.sliceBounds, Instr.sureAddr, Result.andThen, addr_add]
/-- copy of an array's beginning into the middle of a block. -/
theorem Arr.copyPart {P : Program} {w : World} {b sb : Nat} {t st : TypeId} {cs xs : List Value} (h : Arr w b t cs) (hs : Arr w sb st xs) (dT sT ty e : TypeId) (hu : P.underlying dT = some (.slice e)) (hsz : (P.info? e).map (·.size) = some 1)
    (h1 : ∀ v ∈ xs, v.oneCell' = true) (off k dCap n : Nat) (hn : xs.length = n) (hk : k ≤ n) (hfit : off + k ≤ cs.length) :
    (Builtin.copy_ #[dT, sT] ty #[.slice (some ⟨b, off, none⟩) k dCap, .slice (some ⟨sb, 0, none⟩) n n]).run P w = .ok (.int .i64 (k : Int)) (w.setRow b (over cs off (xs.take k)).toArray) := by
  have hcl : (xs.take k).length = k := by rw [List.length_take]; omega
  have hrun := run_copy_row (P := P) w dT sT ty e b off k dCap ⟨sb, 0, none⟩ n n cs.toArray t (xs.take k) hu hsz h (by rw [hcl]; exact (Nat.min_eq_right hk).symm) (fun j v hv => by
    rw [addr_add, Nat.zero_add]
    refine hs.cell ?_
    rw [List.getElem?_take] at hv
    split at hv
    · exact hv
    · cases hv) (by simp [hcl]; omega) (fun v hv => h1 v (List.mem_of_mem_take hv))
  rw [hcl] at hrun
  rw [hrun]
  unfold over
  rw [hcl]
  rfl
theorem over_app {F : List UInt8} {tl : List Value} {off : Nat} {c : List UInt8} (h : off + c.length ≤ F.length) : over (F.map u8v ++ tl) off (c.map u8v) = (overB F off c).map u8v ++ tl := by
  unfold over overB
  rw [List.length_map, List.take_append_of_le_length (by rw [List.length_map]; omega), List.drop_append_of_le_length (by rw [List.length_map]; omega)]
  simp [List.map_take, List.map_drop]

theorem arr_inj {w : World} {b : Nat} {t : TypeId} {cs cs' : List Value} (h : Arr w b t cs) (h' : Arr w b t cs') : cs = cs' := by
  unfold Arr at h h'
  rw [h] at h'
  simpa using h'
/-- A disk behind a deed that turns its struct's writes and power, and its sectors. -/
theorem DA.turned {T : TypeId} {fl fl' : Bool} {w w' : World} {B gs gc : Nat} {s s' : DSt} (h : DA T fl w B gs gc s) (hk : Keep (fun k _ => s.n ≠ 0 ∧ (k = B ∨ k = gs)) w w') (hcr : s'.cr = s.cr) (hn : s'.n = s.n) (hF : s'.F.length = s.F.length)
    (hB : ∀ c0 c1, Arr w B T [c0, c1, .int .i64 (s.wr : Int), .bool fl] → Arr w' B T [c0, c1, .int .i64 (s'.wr : Int), .bool fl'])
    (hG : ∀ tl, 0 < s.n → Arr w gs 60 (s.F.map u8v ++ tl) → Arr w' gs 60 (s'.F.map u8v ++ tl)) : DA T fl' w' B gs gc s' := by
  obtain ⟨ac, cc, cap, tl, e1, e2, e3, e4, e5, e6⟩ := h.ex
  have hh : ∀ o, 0 < s.cr.length → ¬ (fun (k : Nat) (_ : Obj) => s.n ≠ 0 ∧ (k = B ∨ k = gs)) gc o := fun o hn hx => by
    rcases hx.2 with hx | hx
    · exact h.n2 hn hx
    · exact h.n3 hn hx
  refine ⟨⟨ac, cc, cap, tl, by rw [hn, hcr]; exact hB _ _ e1, ?_, by rw [hcr]; exact e3, fun hp => hG tl (by omega) (e4 (by omega)), by omega, e6⟩, by rw [hF, hn]; exact h.len, Nat.lt_of_lt_of_le h.lt hk.size, h.n1, by rw [hcr]; exact h.n2, by rw [hcr]; exact h.n3, by rw [hn]; exact h.big⟩
  rw [hcr]
  refine ⟨e2.1, e2.2.1, e2.2.2.1, e2.2.2.2.1, fun hn => ?_⟩
  obtain ⟨b, off, rfl, hc⟩ := e2.2.2.2.2 hn
  have hb : b = gc := e3 _ rfl hn
  exact ⟨b, off, rfl, fun i u hu => hk.cell (hc i u hu) (fun o _ _ => by show ¬ (s.n ≠ 0 ∧ (b = B ∨ b = gs)); rw [hb]; exact hh o hn)⟩

set_option maxRecDepth 20000 in
set_option maxHeartbeats 2000000 in
theorem dwrite_any {w : World} {B gs gc : Nat} {s : DSt} (h : PD w B gs gc s) (i : Int) (b : List UInt8) (hb : b.length = 64) (hw : s.wr < 4611686018427387904) :
    Calls Try.prog 26 #[.pointer (some ⟨B, 0, none⟩), .int .i64 i, aggB b] w fun e w' =>
    e = .returned (.int .i64 (s.writeE i)) ∧ PD w' B gs gc (s.write i b) ∧ Keep (fun k _ => s.n ≠ 0 ∧ (k = B ∨ k = gs)) w w' := by
  unfold aggB
  have hlen := Lib.hid h.len
  obtain ⟨O, hO⟩ : ∃ O, b.map u8v = O := ⟨_, rfl⟩
  have HOb := Lib.hid hO
  have hOl := Lib.hid (show O.length = 64 by rw [← hO, List.length_map, hb])
  have HO1 := Lib.hid (show O.toArray.all (·.oneCell') = true by rw [← hO]; exact all_one _)
  have HOs := Lib.hid (show (Try.prog.info? 60).map (·.size) = some O.length by rw [info_sec, hOl.out])
  rw [hO]
  have HBl := Lib.hid hb
  clear hO hb
  refine calls_cps fun R hR => ?_
  go_enter Try.func26, Try.ntmps26
  go_wp2_with fail
  refine (dmay_any (h.ext ((Keep.refl _ w).alloc _)) i).mono ?_; rintro e w1 ⟨rfl, e1⟩
  have hE : Ext w w1 := ((Keep.refl _ w).alloc _).trans e1
  have hZ : Arr w1 w.heap.size 60 O := (Arr.new w _ O).ext e1
  have h1 := h.ext hE
  have hltB : B < w.heap.size := by obtain ⟨_, _, _, _, e1, _⟩ := h.ex; exact e1.lt
  have hltG := h.lt
  clear h e1
  by_cases hm : s.may i = 0
  · obtain ⟨hp, k, rfl, hk⟩ := may_zero hm
    obtain ⟨ac, cc, cap, tl, e1, e2, e3, e4, e5, e6⟩ := h1.ex
    have hS := e4 (by omega)
    have c0 := e1.cell (i := 0) rfl
    have c1 := e1.cell (i := 1) rfl
    have c2 := e1.cell (i := 2) rfl
    have hix := index_sec gs s.n cap k hk
    have hfit : k * 64 + 64 ≤ s.F.length := by rw [hlen.out]; omega
    rw [hm]
    have hnB : B ≠ gs := h1.n1
    have hgc := h1.n2
    have hgc2 := h1.n3
    by_cases ht : s.tears = true
    · obtain ⟨q, crs, hcr, hqw⟩ : ∃ q crs, s.cr = q :: crs ∧ q.1 = (s.wr : Int) := by
        unfold DSt.tears at ht
        split at ht
        · cases ht
        · rename_i c t he; exact ⟨c, t, he, by simpa using ht⟩
      have hkp : s.keep = keepN q.2 := by simp [DSt.keep, hcr]
      have hwr : s.write (k : Int) b = { s.put k (b.take (keepN q.2)) with pw := false } := by simp [DSt.write, ht, hm, hkp]
      have hre : s.writeE (k : Int) = 131 := by simp [DSt.writeE, ht, hm]
      rw [hwr, hre] at hR
      rw [hcr] at c1 e2
      simp only [List.length_cons] at c1
      obtain ⟨b0, o0, rfl, hcc⟩ := e2.2.2.2.2 (by simp)
      have q0 : w1.cell? ⟨b0, o0, none⟩ = some (.int .i64 q.1) := hcc 0 _ rfl
      have q1 : w1.cell? ⟨b0, o0 + 1, none⟩ = some (.int .i64 q.2) := hcc 1 _ rfl
      rw [hqw] at q0
      have hql : 0 < crs.length + 1 := by omega
      obtain ⟨m, hmk⟩ : ∃ m, keepN q.2 = m := ⟨_, rfl⟩
      have hmm : m ≤ 64 := by rw [← hmk]; unfold keepN; omega
      have hmv : (min (max q.2 0) 64 : Int) = (m : Int) := by rw [← hmk]; unfold keepN; omega
      rw [hmk] at hR
      obtain ⟨kp, hkq⟩ : ∃ x, q.2 = x := ⟨_, rfl⟩
      rw [hkq] at q1 hmv
      have HMV := Lib.hid hmv
      clear hwr hre hm ht hkp hmk hkq hmv hqw e2
      go_wp2
      have hD : ∀ g : At w1.drew, Ext w1 g.w := fun g => ((Keep.refl _ w1).drew).trans g.ext
      have d1 := fun g => (hD g).cell c1
      have d2 := fun g => (hD g).cell c2
      have dq := fun g => (hD g).cell q0
      refine wp_flow (fun n => .reads) (by kernel_rfl) (by kernel_rfl) ?_
      repeat (first | (refine flow_r rfl rfl ?_; go_big_quiet_step (fail); refine wpQuiet_nil ?_) | (refine flow_s rfl rfl ?_; simp only [Act.put, List.setIfInBounds_toArray, List.set_cons_succ, List.set_cons_zero]))
      refine flow_end (fun w2 hE2 _ => ?_)
      have hE3 : Ext w1 w2 := ((Keep.refl _ w1).drew).trans hE2
      have e7 := e1.ext hE3
      have hS7 := hS.ext hE3
      have hZ7 := hZ.ext hE3
      have h7 := h1.ext hE3
      have hE7 := hE.trans hE3
      have c17 := hE3.cell c1
      have q17 := hE3.cell q1
      obtain ⟨cur, hcur⟩ : ∃ c, s.F.map u8v ++ tl = c := ⟨_, rfl⟩
      have hold := Lib.hid (show k * 64 + m ≤ cur.length by rw [← hcur, List.length_append, List.length_map]; omega)
      rw [hcur] at hS7
      have HS7 := Lib.hid hS7
      have HO2 := Lib.hid (show ∀ v ∈ O, v.oneCell' = true by rw [← HOb.out]; exact u8v_one b)
      have d0 := fun (g : At w2.drew) => (((Keep.refl _ w2).drew).trans g.ext : Ext w2 g.w).cell (e7.cell (i := 0) rfl)
      have d11 := fun (g : At w2.drew) => (((Keep.refl _ w2).drew).trans g.ext : Ext w2 g.w).cell c17
      have d12 := fun (g : At w2.drew) => (((Keep.refl _ w2).drew).trans g.ext : Ext w2 g.w).cell q17
      clear hE2 hE3 hS c0 c1 c2 q0 q1 hcc hcur hE hZ e1 h1 hD d1 d2 dq
      go_wp2
      refine wp_flow (fun n => if n = 17 then .last else .reads) (by kernel_rfl) (by kernel_rfl) ?_
      iterate 13 (refine flow_r rfl rfl ?_; go_big_quiet_step (fail); refine wpQuiet_nil ?_)
      refine flow_v rfl rfl (fun w' hE => exec_max rfl rfl rfl) ?_
      simp only [Act.put, List.setIfInBounds_toArray, List.set_cons_succ, List.set_cons_zero]
      refine flow_v rfl rfl (fun w' hE => exec_min rfl rfl rfl) ?_
      simp only [Act.put, List.setIfInBounds_toArray, List.set_cons_succ, List.set_cons_zero]
      rw [HMV.out]
      refine flow_v rfl rfl (fun w' hE => exec_slice rfl (slice_arr gs (k * 64) m hmm w')) ?_
      simp only [Act.put, List.setIfInBounds_toArray, List.set_cons_succ, List.set_cons_zero]
      refine flow_v rfl rfl (fun w' hE => exec_slice rfl (slice_all w.heap.size w')) ?_
      simp only [Act.put, List.setIfInBounds_toArray, List.set_cons_succ, List.set_cons_zero]
      refine flow_l rfl (by kernel_rfl) (fun w3 hE3 _ => ?_)
      have hE4 : Ext w2 w3 := ((Keep.refl _ w2).drew).trans hE3
      have hrun := (hS7.ext hE4).copyPart (P := Try.prog) (hZ7.ext hE4) 25 25 3 5 Try.underlying25 size_u8 HO2.out (k * 64) m 64 64 hOl.out hmm hold.out
      have k5 := keep_setRow w3 gs (over cur (k * 64) (O.take m)).toArray
      have e8 := (e7.ext hE4).keep k5 hnB
      have hS8 := (hS7.ext hE4).setRow (over cur (k * 64) (O.take m))
      obtain ⟨w4, hw4⟩ : ∃ w', w3.setRow gs (over cur (k * 64) (O.take m)).toArray = w' := ⟨_, rfl⟩
      rw [hw4] at k5 e8 hS8 hrun
      have c3 := e8.cell (i := 3) rfl
      have f3 := e8.frozen 3
      have k2 : Keep (fun k _ => s.n ≠ 0 ∧ (k = B ∨ k = gs)) w2 w4 := (Keep.of_ext hE4).trans (k5.mono (fun k o _ hx => ⟨by omega, .inr hx⟩))
      have k3 := k2.setCell ⟨B, 3, none⟩ (.bool false) (fun o _ => ⟨by omega, .inl rfl⟩)
      have H8 := Lib.hid hS8
      clear d0 d11 d12 hw4 hE3 e7 hS8 hS7
      go_wp2_with (refine wpList_copy_run hrun rfl rfl rfl rfl ?_)
      have htl : (b.take m).length = m := by rw [List.length_take, HBl.out]; omega
      refine ⟨rfl, h7.turned k3 rfl rfl (overB_length (by rw [htl]; omega)) (fun q0 q1 ha => ?_) (fun tl' hn ha => ?_), (Keep.of_ext hE7).trans k3⟩
      · exact ((ha.ext hE4).keep k5 hnB).set 3 (.bool false)
      · have := arr_inj (ha.ext hE4) (HS7.out.ext hE4)
        have h9 := (H8.out).keep (keep_setCell w4 B 3 (.bool false)) (fun h => hnB h.symm)
        rw [← this, ← HOb.out, ← List.map_take, over_app (by rw [htl]; omega)] at h9
        exact h9
    · have hwr : s.write (k : Int) b = { s.put k b with wr := s.wr + 1 } := by simp [DSt.write, ht, hm]
      have hre : s.writeE (k : Int) = 0 := by simp [DSt.writeE, ht, hm]
      rw [hwr, hre] at hR
      rcases hcr : s.cr with _ | ⟨q, crs⟩
      case' nil =>
        rw [hcr] at c1
        simp only [List.length_nil] at c1
        clear hwr hre hm ht
        go_wp2
        have hD : ∀ g : At w1.drew, Ext w1 g.w := fun g => ((Keep.refl _ w1).drew).trans g.ext
        have d1 := fun g => (hD g).cell c1
        refine wp_flow (fun n => .reads) (by kernel_rfl) (by kernel_rfl) ?_
        repeat (first | (refine flow_r rfl rfl ?_; go_big_quiet_step (fail); refine wpQuiet_nil ?_) | (refine flow_s rfl rfl ?_; simp only [Act.put, List.setIfInBounds_toArray, List.set_cons_succ, List.set_cons_zero]))
      case' cons =>
        rw [hcr] at c1 e2
        simp only [List.length_cons] at c1
        obtain ⟨b0, o0, rfl, hcc⟩ := e2.2.2.2.2 (by simp)
        have q0 : w1.cell? ⟨b0, o0, none⟩ = some (.int .i64 q.1) := hcc 0 _ rfl
        have hql : 0 < crs.length + 1 := by omega
        have hne : q.1 ≠ (s.wr : Int) := by simpa [DSt.tears, hcr] using ht
        have hneb : (q.1 == (s.wr : Int)) = false := by simpa using hne
        clear hwr hre hm ht e2
        go_wp2
        have hD : ∀ g : At w1.drew, Ext w1 g.w := fun g => ((Keep.refl _ w1).drew).trans g.ext
        have d1 := fun g => (hD g).cell c1
        have d2 := fun g => (hD g).cell c2
        have dq := fun g => (hD g).cell q0
        refine wp_flow (fun n => .reads) (by kernel_rfl) (by kernel_rfl) ?_
        repeat (first | (refine flow_r rfl rfl ?_; go_big_quiet_step (fail); refine wpQuiet_nil ?_) | (refine flow_s rfl rfl ?_; simp only [Act.put, List.setIfInBounds_toArray, List.set_cons_succ, List.set_cons_zero]))
      all_goals
        refine flow_end (fun w2 hE2 _ => ?_)
        have hE3 : Ext w1 w2 := ((Keep.refl _ w1).drew).trans hE2
        have e7 := e1.ext hE3
        have hS7 := hS.ext hE3
        have hZ7 := hZ.ext hE3
        have h7 := h1.ext hE3
        have hE7 := hE.trans hE3
        obtain ⟨cur, hcur⟩ : ∃ c, s.F.map u8v ++ tl = c := ⟨_, rfl⟩
        have HCUR := Lib.hid hcur
        have hold := Lib.hid (show k * 64 + O.length ≤ cur.length by rw [← hcur, hOl.out, List.length_append, List.length_map]; omega)
        rw [hcur] at hS7
        have HS7 := Lib.hid hS7
        have HO2 := Lib.hid (show ∀ v ∈ O, v.oneCell' = true by rw [← HOb.out]; exact u8v_one b)
        have d0 := fun (g : At w2.drew) => (((Keep.refl _ w2).drew).trans g.ext : Ext w2 g.w).cell (e7.cell (i := 0) rfl)
        have HZ7 : ∀ w', Ext w2.drew w' → w'.heap[w.heap.size]? = some (.cells O.toArray 60 (0, 0)) := fun w' hE => hZ7.ext (((Keep.refl _ w2).drew).trans hE)
        clear hE2 hE3 hS c0 c1 c2 hcur hE hZ e1 h1 
        go_wp2
        refine wp_flow (fun n => if n = 7 then .last else .reads) (by kernel_rfl) (by kernel_rfl) ?_
        iterate 5 (refine flow_r rfl rfl ?_; go_big_quiet_step (fail); refine wpQuiet_nil ?_)
        refine flow_v (v := .agg O.toArray) rfl rfl (fun w' hE => exec_load_row rfl rfl (HZ7 w' hE) Try.underlying60 rfl HOs.out) ?_
        simp only [Act.put, List.setIfInBounds_toArray, List.set_cons_succ, List.set_cons_zero]
        refine flow_r rfl rfl ?_; go_big_quiet_step (fail); refine wpQuiet_nil ?_
        refine flow_l rfl (by kernel_rfl) (fun w3 hE3 _ => ?_)
        have hE4 : Ext w2 w3 := ((Keep.refl _ w2).drew).trans hE3
        refine wpList_store_mid rfl 60 (.tmp 61) (.tmp 60) rfl gs (k * 64) O rfl rfl _ cur (hS7.ext hE4) HOs.out hold.out HO2.out ?_
        have k5 := keep_setRow w3 gs (over cur (k * 64) O).toArray
        have e8 := (e7.ext hE4).keep k5 hnB
        have hS8 := (hS7.ext hE4).setRow (over cur (k * 64) O)
        obtain ⟨w4, hw4⟩ : ∃ w', w3.setRow gs (over cur (k * 64) O).toArray = w' := ⟨_, rfl⟩
        rw [hw4] at k5 e8 hS8 ⊢
        have c2 := e8.cell (i := 2) rfl
        have f2 := e8.frozen 2
        clear d0 HZ7 hw4 hE3 e7
        have k2 : Keep (fun k _ => s.n ≠ 0 ∧ (k = B ∨ k = gs)) w2 w4 := (Keep.of_ext hE4).trans (k5.mono (fun k o _ hx => ⟨by omega, .inr hx⟩))
        have k3 := k2.setCell ⟨B, 2, none⟩ (.int .i64 ((s.wr : Int) + 1)) (fun o _ => ⟨by omega, .inl rfl⟩)
        have H8 := Lib.hid hS8
        clear hS8 hS7
        go_wp2
        refine ⟨rfl, h7.turned k3 rfl rfl (overB_length (by rw [HBl.out]; exact hfit)) (fun q0 q1 ha => ?_) (fun tl' hn ha => ?_), (Keep.of_ext hE7).trans k3⟩
        · exact ((ha.ext hE4).keep k5 hnB).set 2 (.int .i64 ((s.wr : Int) + 1))
        · have := arr_inj (ha.ext hE4) (HS7.out.ext hE4)
          have h9 := (H8.out).keep (keep_setCell w4 B 2 (.int .i64 ((s.wr : Int) + 1))) (fun h => hnB h.symm)
          rw [← this, ← HOb.out, over_app (by rw [HBl.out]; exact hfit)] at h9
          exact h9
  · have hrd : s.write i b = s := by simp [DSt.write, hm]
    have hre : s.writeE i = s.may i := by simp [DSt.writeE, hm]
    rw [hrd, hre] at hR
    obtain ⟨er, her⟩ : ∃ e, s.may i = e := ⟨_, rfl⟩
    rw [her] at hm hR ⊢
    clear hrd hre her
    go_wp2
    try exact ⟨rfl, h1, Keep.of_ext hE⟩
end Go.Proofs.Ytdopaoajbjodeaa
