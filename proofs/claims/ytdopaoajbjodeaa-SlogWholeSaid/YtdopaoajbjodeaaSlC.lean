/-
  slog.first and the reference's: a record's first sector.
-/
import Derived.Test.YtdopaoajbjodeaaSlB
import Derived.Test.YtdopaoajbjodeaaVecMb
namespace Go.Proofs.Ytdopaoajbjodeaa
open Go.RowKit Go.Shelf

attribute [local go_sem] Oper.semAt_some

theorem size_u32 : (Try.prog.info? 26).map (·.size) = some 1 := by kernel_rfl
/-- copy of as much as fits. -/
theorem Arr.copyMin {P : Program} {w : World} {b : Nat} {t : TypeId} {cs xs : List Value} (h : Arr w b t cs) (dT sT ty e : TypeId) (hu : P.underlying dT = some (.slice e)) (hsz : (P.info? e).map (·.size) = some 1)
    {a : Option Addr} {m c : Nat} (hr : Row 1 w a m c xs) (h1 : ∀ v ∈ xs, v.oneCell' = true) (off dLen dCap : Nat) (hfit : off + dLen ≤ cs.length) :
    ∃ w', (Builtin.copy_ #[dT, sT] ty #[.slice (some ⟨b, off, none⟩) dLen dCap, .slice a m c]).run P w = .ok (.int .i64 ((min m dLen : Nat) : Int)) w' ∧ Arr w' b t (over cs off (xs.take dLen)) ∧ Keep (fun k _ => k = b) w w' := by
  have hxl : xs.length = m := by have := hr.2.2.1; simpa using this
  by_cases h0 : min m dLen = 0
  · refine ⟨w, ?_, ?_, Keep.refl _ _⟩
    · rw [run_copy_none w dT sT ty e _ a dLen dCap m c hu hsz h0, h0]; rfl
    · have hx : xs.take dLen = [] := List.eq_nil_of_length_eq_zero (by rw [List.length_take]; omega)
      rw [hx]
      simpa [over] using h
  · obtain ⟨b2, o2, rfl, hcell⟩ := hr.2.2.2.2 (by omega)
    have hcl : (xs.take dLen).length = min m dLen := by rw [List.length_take]; omega
    have hrun := run_copy_row (P := P) w dT sT ty e b off dLen dCap ⟨b2, o2, none⟩ m c cs.toArray t (xs.take dLen) hu hsz h hcl (fun j v hv => by
      rw [addr_add]
      refine hcell j v ?_
      rw [List.getElem?_take] at hv
      split at hv
      · exact hv
      · cases hv) (by rw [hcl]; simp; omega) (fun v hv => h1 v (List.mem_of_mem_take hv))
    rw [hcl] at hrun
    refine ⟨_, hrun, ?_, keep_setRow _ _ _⟩
    unfold over
    rw [hcl]
    exact h.setRow _

def padTo (n : Nat) (l : List UInt8) : List UInt8 := l.take n ++ zeros (n - l.length)
theorem padTo_length (n : Nat) (l : List UInt8) : (padTo n l).length = n := by simp [padTo, zeros]; omega
/-- A record's first sector. -/
def firstL (b : List UInt8) (gen num : Nat) : List UInt8 := putL b.length 4 ++ padTo 51 b ++ (putL gen 4 ++ putL num 4) ++ [165]
theorem firstL_length (b : List UInt8) (gen num : Nat) : (firstL b gen num).length = 64 := by
  simp only [firstL, List.length_append, putL_length, padTo_length, List.length_singleton]
theorem over_put {xs b : List UInt8} {off : Nat} : over (xs.map u8v) off (b.map u8v) = (overB xs off b).map u8v := (overB_map).symm
/-- The three parts laid into a sector of zeros, its last byte. -/
theorem first_plain (b : List UInt8) (gen num : Nat) :
    (overB (overB (overB (zeros 64) 0 (putL b.length 4)) 4 (b.take 51)) 55 (putL gen 4 ++ putL num 4)).set 63 165 = firstL b gen num := by
  have e1 : overB (zeros 64) 0 (putL b.length 4) = putL b.length 4 ++ zeros 60 := by simp [overB, zeros, putL_length]
  have e2 : overB (putL b.length 4 ++ zeros 60) 4 (b.take 51) = putL b.length 4 ++ padTo 51 b ++ zeros 9 := by
    unfold overB padTo
    have hp := putL_length b.length 4
    have hl : (b.take 51).length = min 51 b.length := by rw [List.length_take]
    rw [List.take_left' hp, List.drop_append, hp, List.drop_of_length_le (by omega), List.nil_append, hl]
    simp only [zeros, List.drop_replicate, List.append_assoc, List.replicate_append_replicate]
    congr 3
    omega
  have e3 : overB (putL b.length 4 ++ padTo 51 b ++ zeros 9) 55 (putL gen 4 ++ putL num 4) = putL b.length 4 ++ padTo 51 b ++ (putL gen 4 ++ putL num 4) ++ zeros 1 := by
    unfold overB
    have hp : (putL b.length 4 ++ padTo 51 b).length = 55 := by rw [List.length_append, putL_length, padTo_length]
    rw [List.take_left' hp, List.drop_append, hp, List.drop_of_length_le (by omega), List.nil_append]
    simp [zeros, putL_length]
  rw [e1, e2, e3, firstL]
  have hp : (putL b.length 4 ++ padTo 51 b ++ (putL gen 4 ++ putL num 4)).length = 63 := by simp only [List.length_append, putL_length, padTo_length]
  rw [List.set_append_right _ _ (by omega), hp]
  rfl

theorem slice_whole (g : Nat) (w : World) : (Instr.sliceAt 60 (.pointer (some ⟨g, 0, none⟩)) none none none).run Try.prog w = .ok (.slice (some ⟨g, 0, none⟩) 64 64) w := slice_all g w
theorem slice_455 (g : Nat) (w : World) : (Instr.sliceAt 60 (.pointer (some ⟨g, 0, none⟩)) (some (.int .i64 4)) (some (.int .i64 55)) none).run Try.prog w = .ok (.slice (some ⟨g, 4, none⟩) 51 60) w := by
  simp [Instr.sliceAt, Instr.sliceBounds, Instr.sliceBound, Instr.sureAddr, Result.andThen, asIntOf, addr_add]
theorem slice_55 (g : Nat) (w : World) : (Instr.sliceAt 60 (.pointer (some ⟨g, 0, none⟩)) (some (.int .i64 55)) none none).run Try.prog w = .ok (.slice (some ⟨g, 55, none⟩) 9 9) w := by
  simp [Instr.sliceAt, Instr.sliceBounds, Instr.sliceBound, Instr.sureAddr, Result.andThen, asIntOf, addr_add]
theorem slice_59 (g : Nat) (w : World) : (Instr.sliceAt 60 (.pointer (some ⟨g, 0, none⟩)) (some (.int .i64 59)) none none).run Try.prog w = .ok (.slice (some ⟨g, 59, none⟩) 5 5) w := by
  simp [Instr.sliceAt, Instr.sliceBounds, Instr.sliceBound, Instr.sureAddr, Result.andThen, asIntOf, addr_add]
theorem overB_two {X : List UInt8} {gen num : Nat} (h : X.length = 64) : overB (overB X 55 (putL gen 4)) 59 (putL num 4) = overB X 55 (putL gen 4 ++ putL num 4) := by
  have p1 := putL_length gen 4
  have p2 := putL_length num 4
  unfold overB
  have hl : (X.take 55 ++ putL gen 4).length = 59 := by rw [List.length_append, List.length_take, p1]; omega
  rw [List.take_left' hl, List.drop_append, hl, List.drop_of_length_le (by rw [hl, p2]; omega), List.nil_append, p1, p2, List.length_append, p1, p2, List.drop_drop]
  simp only [List.append_assoc]
theorem slice_4 (g : Nat) (w : World) : (Instr.sliceAt 60 (.pointer (some ⟨g, 0, none⟩)) none (some (.int .i64 4)) none).run Try.prog w = .ok (.slice (some ⟨g, 0, none⟩) 4 64) w := by
  simp [Instr.sliceAt, Instr.sliceBounds, Instr.sliceBound, Instr.sureAddr, Result.andThen, asIntOf, addr_add]

theorem bytesOf_one (n : Nat) (h : n < 4294967296) : bytesOf [UInt32.ofNat n] = putL n 4 := by
  simp only [bytesOf, List.flatMap_cons, List.flatMap_nil, List.append_nil, UInt32.toNat_ofNat']
  rw [Nat.mod_eq_of_lt (by omega)]
theorem bytesOf_two (g : UInt32) (n : Nat) (h : n < 4294967296) : bytesOf [g, UInt32.ofNat n] = putL g.toNat 4 ++ putL n 4 := by
  simp only [bytesOf, List.flatMap_cons, List.flatMap_nil, List.append_nil, UInt32.toNat_ofNat']
  rw [Nat.mod_eq_of_lt (by omega)]
theorem results_cell1 {P : Program} {fn : Func} {p : Tmp} {ty : TypeId} (h : fn.results = #[.cell p ty]) (tmps : Array Value) (w : World) (g : Nat) (t : TypeId) (cs : Array Value) (d : TypeDesc)
    (hp : tmps.getD p undef = .pointer (some ⟨g, 0, none⟩)) (hg : w.heap[g]? = some (.cells cs t (0, 0)))
    (hu : P.underlying ty = some d) (hd : (match d with | .struct _ | .array _ _ => true | _ => false) = true) (hi : (P.info? ty).map (·.size) = some cs.size) :
    (results fn tmps).run P w = .ok (.agg cs) w := results_cell_row h tmps w g t cs (0, 0) d hp hg hu hd hi
def F64 : List Value := List.replicate 64 (.int .u8 0)
theorem F64_eq : F64 = (zeros 64).map u8v := (zeros_v 64).symm

set_option maxRecDepth 20000 in
set_option maxHeartbeats 4000000 in
theorem first_any (b : List UInt8) (gen : UInt32) (num : Nat) (a : Option Addr) (m c : Nat) (w : World) (hr : Row 1 w a m c (b.map u8v)) (hm : m ≤ 262144) (hn : num ≤ 65536) :
    Calls Try.prog 42 #[.slice a m c, .int .u32 (gen.toNat : Int), .int .i64 (num : Int)] w fun e w' => e = .returned (aggB (firstL b gen.toNat num)) ∧ Ext w w' := by
  have hbl : b.length = m := by have := hr.2.2.1; simpa using this
  have hmc := hr.1
  refine calls_cps fun R hR => ?_
  have HP := Lib.hid (first_plain b gen.toNat num)
  have hB1 := u8v_one b
  have q1 : (m : Int) % 4294967296 = (m : Int) := by omega
  have q2 : (num : Int) % 4294967296 = (num : Int) := by omega
  have hg := gen.toNat_lt
  go_enter Try.func42, Try.ntmps42
  go_wp2
  refine wp_laid2 fun W hE b1 b2 => ?_
  have B6 : Arr W w.heap.size 60 F64 := b1
  have B7 : Arr W (w.heap.size + 1) 60 ((zeros 64).map u8v) := by rw [← F64_eq]; exact b2
  have HRW := Lib.hid hr
  have HL := Lib.hid hbl
  clear b1 b2 hr hbl
  -- region 2
  have hwd : (([UInt32.ofNat m] : List UInt32).map u32v) = [.int .u32 (m : Int)] := by
    simp only [List.map_cons, List.map_nil, u32v, UInt32.toNat_ofNat', List.cons.injEq, and_true]
    congr 1
    try omega
  refine wp_flow (fun k => if k = 4 then .grows (Ws [UInt32.ofNat m]) (SliceN 1) else if k = 5 then .grows (Bs (putL m 4)) (SliceN 4) else if k = 6 then .last else .reads) (by kernel_rfl) (by kernel_rfl) ?_
  refine flow_v rfl rfl (fun w' hE => exec_slice rfl (slice_whole (w.heap.size + 1) w')) ?_
  simp only [Act.put, List.setIfInBounds_toArray, List.set_cons_succ, List.set_cons_zero]
  iterate 3 (refine flow_r rfl rfl ?_; go_big_quiet_step (fail); refine wpQuiet_nil ?_)
  refine flow_g rfl rfl (by simp) ⟨_, none, 0, rfl⟩ (fun _ _ _ h hE => h.mono hE) (fun _ _ h => h.sh) (fun w5 hE5 _ => ?_) (fun v hv => ?_)
  · have HW := Lib.hid (show Ws [UInt32.ofNat m] (.slice (some ⟨w5.heap.size, 0, none⟩) 1 1) (w5.alloc (.cells #[.int .u32 (m : Int)] 26)) from ⟨_, _, rfl, by rw [hwd]; exact (lit_row (base := 0) w5 26 #[.int .u32 (m : Int)] 1 (by simp [maxLen]) rfl (Nat.zero_le _)).2⟩)
    have eA : Ext w5 (w5.alloc (.cells #[.int .u32 (m : Int)] 26)) := (Keep.refl _ w5).alloc _
    go_wp2
    first | exact ⟨eA, HW.out⟩ | exact HW.out
  obtain ⟨aw, cw, rfl⟩ := hv
  simp only [Act.put, List.setIfInBounds_toArray, List.set_cons_succ, List.set_cons_zero]
  refine flow_g rfl rfl (by simp) ⟨_, none, 0, rfl⟩ (fun _ _ _ h hE => h.mono hE) (fun _ _ h => by have := h.sh; rwa [putL_length] at this) (fun w5 hE5 hf => ?_) (fun v hv => ?_)
  · obtain ⟨_, _, q, hrow⟩ : Ws [UInt32.ofNat m] (.slice aw 1 cw) w5 := hf 4 (by kernel_rfl)
    cases q
    have hc := bytes_any aw 1 cw [UInt32.ofNat m] w5 hrow (by omega)
    clear hf hrow
    go_wp2_with fail
    refine hc.mono ?_
    rintro e w6 ⟨a', c', rfl, hown, hE6⟩
    rw [bytesOf_one m (by omega)] at hown
    have HBs := Lib.hid (show Bs (putL m 4) (.slice a' 4 c') w6 from by have := Bs.of_own hown (putL_length m 4); exact this)
    clear hown hc
    go_wp2
    first | exact ⟨hE6, HBs.out⟩ | exact HBs.out
  obtain ⟨ab, cb, rfl⟩ := hv
  simp only [Act.put, List.setIfInBounds_toArray, List.set_cons_succ, List.set_cons_zero]
  refine flow_l rfl (by kernel_rfl) (fun w2 hE2 hf => ?_)
  have hX2 : Ext W w2 := ((Keep.refl _ W).drew).trans hE2
  obtain ⟨_, _, q, hrow⟩ : Bs (putL m 4) (.slice ab 4 cb) w2 := hf 5
  have hpl : (putL m 4).length = 4 := putL_length m 4
  rw [hpl] at q
  cases q
  rw [hpl] at hrow
  obtain ⟨w3, hrun, B73, hK3⟩ := (B7.ext hX2).copyMin (P := Try.prog) 25 25 3 5 Try.underlying25 size_u8 hrow (u8v_one _) 0 64 64 (by simp [zeros])
  rw [List.take_of_length_le (by rw [List.length_map, hpl]; decide), over_put] at B73
  have hmin : ((min 4 64 : Nat) : Int) = 4 := by decide
  rw [hmin] at hrun
  have hE3 : Ext w w3 := ((Keep.of_ext (hE.trans hX2)).trans hK3).mono (fun k o ho hx => by have := Keep.lt ho; omega)
  have B63 := (B6.ext hX2).keep hK3 (by omega)
  obtain ⟨w4, hrun4, B74, hK4⟩ := B73.copyMin (P := Try.prog) 25 25 3 5 Try.underlying25 size_u8 ((HRW.out).ext hE3) hB1 4 51 60 (by rw [List.length_map, overB_length (by simp [zeros, hpl])]; decide)
  rw [← List.map_take, over_put] at B74
  have B64 := B63.keep hK4 (by omega)
  have hE4 : Ext w w4 := ((Keep.of_ext hE3).trans hK4).mono (fun k o ho hx => by have := Keep.lt ho; omega)
  clear hf hE2 hrow q1 hpl hmin hX2 hK3 hK4 B73 B63 B6 B7 hE hE3 hwd
  go_wp2_with (refine wpList_copy_run hrun rfl rfl rfl rfl ?_)
  -- region 4
  have hwd : (([gen, UInt32.ofNat num] : List UInt32).map u32v) = [.int .u32 (gen.toNat : Int), .int .u32 (num : Int)] := by
    simp only [List.map_cons, List.map_nil, u32v, UInt32.toNat_ofNat', List.cons.injEq, and_true, true_and]
    congr 1
    try omega
  have hql : (putL gen.toNat 4 ++ putL num 4).length = 8 := by rw [List.length_append, putL_length, putL_length]
  refine wp_flow (fun k => if k = 4 then .grows (Ws [gen, UInt32.ofNat num]) (SliceN 2) else if k = 5 then .grows (Bs (putL gen.toNat 4 ++ putL num 4)) (SliceN 8) else if k = 6 then .last else .reads) (by kernel_rfl) (by kernel_rfl) ?_
  refine flow_v rfl rfl (fun w' hE => exec_slice rfl (slice_55 (w.heap.size + 1) w')) ?_
  simp only [Act.put, List.setIfInBounds_toArray, List.set_cons_succ, List.set_cons_zero]
  iterate 3 (refine flow_r rfl rfl ?_; go_big_quiet_step (fail); refine wpQuiet_nil ?_)
  refine flow_g rfl rfl (by simp) ⟨_, none, 0, rfl⟩ (fun _ _ _ h hE => h.mono hE) (fun _ _ h => h.sh) (fun w5 hE5 _ => ?_) (fun v hv => ?_)
  · have HW := Lib.hid (show Ws [gen, UInt32.ofNat num] (.slice (some ⟨w5.heap.size, 0, none⟩) 2 2) (w5.alloc (.cells #[.int .u32 (gen.toNat : Int), .int .u32 (num : Int)] 26)) from ⟨_, _, rfl, by rw [hwd]; exact (lit_row (base := 0) w5 26 #[.int .u32 (gen.toNat : Int), .int .u32 (num : Int)] 2 (by simp [maxLen]) rfl (Nat.zero_le _)).2⟩)
    have eA : Ext w5 (w5.alloc (.cells #[.int .u32 (gen.toNat : Int), .int .u32 (num : Int)] 26)) := (Keep.refl _ w5).alloc _
    clear hwd
    go_wp2
    first | exact ⟨eA, HW.out⟩ | exact HW.out
  obtain ⟨aw, cw, rfl⟩ := hv
  simp only [Act.put, List.setIfInBounds_toArray, List.set_cons_succ, List.set_cons_zero]
  refine flow_g rfl rfl (by simp) ⟨_, none, 0, rfl⟩ (fun _ _ _ h hE => h.mono hE) (fun _ _ h => by have := h.sh; rwa [hql] at this) (fun w5 hE5 hf => ?_) (fun v hv => ?_)
  · obtain ⟨_, _, q, hrow⟩ : Ws [gen, UInt32.ofNat num] (.slice aw 2 cw) w5 := hf 4 (by kernel_rfl)
    cases q
    have hc := bytes_any aw 2 cw [gen, UInt32.ofNat num] w5 hrow (by omega)
    clear hf hrow hwd hql
    go_wp2_with fail
    refine hc.mono ?_
    rintro e w6 ⟨a', c', rfl, hown, hE6⟩
    rw [bytesOf_two gen num (by omega)] at hown
    have HBs := Lib.hid (show Bs (putL gen.toNat 4 ++ putL num 4) (.slice a' 8 c') w6 from by have := Bs.of_own hown (by rw [List.length_append, putL_length, putL_length]); exact this)
    clear hown hc
    go_wp2
    first | exact ⟨hE6, HBs.out⟩ | exact HBs.out
  obtain ⟨ab, cb, rfl⟩ := hv
  simp only [Act.put, List.setIfInBounds_toArray, List.set_cons_succ, List.set_cons_zero]
  refine flow_l rfl (by kernel_rfl) (fun w5 hE5 hf => ?_)
  have hX5 : Ext w4 w5 := ((Keep.refl _ w4).drew).trans hE5
  obtain ⟨_, _, q, hrow⟩ : Bs (putL gen.toNat 4 ++ putL num 4) (.slice ab 8 cb) w5 := hf 5
  rw [hql] at q
  cases q
  rw [hql] at hrow
  have hl4 : (overB (overB (zeros 64) 0 (putL m 4)) 4 (b.take 51)).length = 64 := by
    rw [overB_length, overB_length (by simp [zeros, putL_length])]
    · rfl
    · rw [overB_length (by simp [zeros, putL_length])]; simp [zeros]; omega
  obtain ⟨w6, hrun, B76, hK6⟩ := (B74.ext hX5).copyMin (P := Try.prog) 25 25 3 5 Try.underlying25 size_u8 hrow (u8v_one _) 55 9 9 (by rw [List.length_map, hl4]; decide)
  rw [show ((putL gen.toNat 4 ++ putL num 4).map u8v).take 9 = (putL gen.toNat 4 ++ putL num 4).map u8v from List.take_of_length_le (by rw [List.length_map, hql]; decide), over_put] at B76
  have hmin : ((min 8 9 : Nat) : Int) = 8 := by decide
  rw [hmin] at hrun
  have hE6 : Ext w w6 := ((Keep.of_ext (hE4.trans hX5)).trans hK6).mono (fun k o ho hx => by have := Keep.lt ho; omega)
  have B66 := (B64.ext hX5).keep hK6 (by omega)
  have hl6 : ((overB (overB (overB (zeros 64) 0 (putL m 4)) 4 (b.take 51)) 55 (putL gen.toNat 4 ++ putL num 4)).map u8v).length = 64 := by
    rw [List.length_map, overB_length (by rw [hl4, hql]; decide), hl4]
  obtain ⟨x, hx⟩ : ∃ x, ((overB (overB (overB (zeros 64) 0 (putL m 4)) 4 (b.take 51)) 55 (putL gen.toNat 4 ++ putL num 4)).map u8v)[63]? = some x := ⟨_, List.getElem?_eq_getElem (by omega)⟩
  have cx := B76.cell hx
  have fx := B76.frozen 63
  have B77 := B76.set 63 (.int .u8 165)
  rw [show (Value.int .u8 165) = u8v 165 from rfl, ← List.map_set] at B77
  have hPP := HP.out
  rw [HL.out] at hPP
  rw [hPP, show u8v 165 = (Value.int .u8 165) from rfl] at B77
  have B67 := B66.keep (keep_setCell w6 (w.heap.size + 1) 63 (.int .u8 165)) (by omega)
  have hE7 : Ext w (w6.setCell ⟨w.heap.size + 1, 63, none⟩ (.int .u8 165)) := hE6.setCell _ _ (fun o ho => by have := Keep.lt ho; replace this : w.heap.size + 1 < w.heap.size := this; omega)
  unfold aggB at hR
  have hfl := firstL_length b gen.toNat num
  have hone := all_one (firstL b gen.toNat num)
  have hi1 := Lib.hid (show (Try.prog.info? 60).map (·.size) = some ((firstL b gen.toNat num).map u8v).toArray.size by rw [info_sec]; simp [hfl])
  have hz1 := Lib.hid (show F64.toArray.size = ((firstL b gen.toNat num).map u8v).toArray.size by simp [hfl, F64])
  have HB77 := Lib.hid (show (w6.setCell ⟨w.heap.size + 1, 63, none⟩ (.int .u8 165)).heap[w.heap.size + 1]? = some (.cells ((firstL b gen.toNat num).map u8v).toArray 60 (0, 0)) from B77)
  obtain ⟨fin, hfin⟩ : ∃ f, ((firstL b gen.toNat num).map u8v).toArray = f := ⟨_, rfl⟩
  rw [hfin] at hR hone hi1 hz1 HB77
  have HON := Lib.hid hone
  have HB67 := Lib.hid B67
  have HE7 := Lib.hid hE7
  have hi63 := fun w' => index_arr (w.heap.size + 1) 0 63 (by decide) w'
  rw [Nat.zero_add] at hi63
  clear hf hE5 hrow q2 hql hmin hX5 hK6 B76 B66 B74 B64 hE4 hE6 hl4 hl6 hx B77 hPP B67 hE7 hfl hone hfin hwd HP
  go_wp2_with (first | (refine wpList_copy_run hrun rfl rfl rfl rfl ?_) | (refine wpList_load_row ?_ 60 (.tmp 7) ?_ (w.heap.size + 1) ?_ 60 fin (0, 0) _ ?_ Try.underlying60 rfl hi1.out ?_; rfl; rfl; rfl; exact HB77.out) | (refine wpList_store_row ?_ 60 (.tmp 6) (.tmp 26) ?_ w.heap.size fin ?_ ?_ 60 F64.toArray ?_ hi1.out hz1.out HON.out ?_; rfl; rfl; rfl; rfl; exact HB67.out))
  refine bodyPost_ret (results_cell1 rfl _ _ w.heap.size 60 fin _ rfl ?_ Try.underlying60 rfl hi1.out) rfl (hR _ _ ⟨rfl, (HE7.out).setRow_new _ _ (Nat.le_refl _)⟩)
  have := Arr.setRow HB67.out fin.toList
  simpa [Arr] using this
set_option maxRecDepth 20000 in
set_option maxHeartbeats 4000000 in
theorem refFirst_any (b : List UInt8) (gen : UInt32) (num : Nat) (a : Option Addr) (m c : Nat) (w : World) (hr : Row 1 w a m c (b.map u8v)) (hm : m ≤ 262144) (hn : num ≤ 65536) :
    Calls Try.prog 38 #[.slice a m c, .int .u32 (gen.toNat : Int), .int .i64 (num : Int)] w fun e w' => e = .returned (aggB (firstL b gen.toNat num)) ∧ Ext w w' := by
  have hbl : b.length = m := by have := hr.2.2.1; simpa using this
  have hmc := hr.1
  refine calls_cps fun R hR => ?_
  have HP := Lib.hid (first_plain b gen.toNat num)
  have hB1 := u8v_one b
  have q1 : (m : Int) % 4294967296 = (m : Int) := by omega
  have q2 : (num : Int) % 4294967296 = (num : Int) := by omega
  have hg := gen.toNat_lt
  go_enter Try.func38, Try.ntmps38
  go_wp2
  refine wp_laid2 fun W hE b1 b2 => ?_
  have B6 : Arr W w.heap.size 60 F64 := b1
  have B7 : Arr W (w.heap.size + 1) 60 ((zeros 64).map u8v) := by rw [← F64_eq]; exact b2
  have HRW := Lib.hid hr
  have HL := Lib.hid hbl
  clear b1 b2 hr hbl
  -- region 2
  refine wp_flow (fun k => if k = 4 then .grows (Bs (putL m 4)) (SliceN 4) else if k = 5 then .last else .reads) (by kernel_rfl) (by kernel_rfl) ?_
  refine flow_v rfl rfl (fun w' hE => exec_slice rfl (slice_whole (w.heap.size + 1) w')) ?_
  simp only [Act.put, List.setIfInBounds_toArray, List.set_cons_succ, List.set_cons_zero]
  iterate 3 (refine flow_r rfl rfl ?_; go_big_quiet_step (fail); refine wpQuiet_nil ?_)
  refine flow_g rfl rfl (by simp) ⟨_, none, 0, rfl⟩ (fun _ _ _ h hE => h.mono hE) (fun _ _ h => by have := h.sh; rwa [putL_length] at this) (fun w5 hE5 hf => ?_) (fun v hv => ?_)
  · have hc := put_any m 4 w5 (by decide)
    clear hf
    go_wp2_with fail
    refine hc.mono ?_
    rintro e w6 ⟨a', c', rfl, hown, hE6⟩
    have HBs := Lib.hid (show Bs (putL m 4) (.slice a' 4 c') w6 from by have := Bs.of_own hown (putL_length m 4); exact this)
    clear hown hc
    go_wp2
    first | exact ⟨hE6, HBs.out⟩ | exact HBs.out
  obtain ⟨ab, cb, rfl⟩ := hv
  simp only [Act.put, List.setIfInBounds_toArray, List.set_cons_succ, List.set_cons_zero]
  refine flow_l rfl (by kernel_rfl) (fun w2 hE2 hf => ?_)
  have hX2 : Ext W w2 := ((Keep.refl _ W).drew).trans hE2
  obtain ⟨_, _, q, hrow⟩ : Bs (putL m 4) (.slice ab 4 cb) w2 := hf 4
  have hpl : (putL m 4).length = 4 := putL_length m 4
  rw [hpl] at q
  cases q
  rw [hpl] at hrow
  obtain ⟨w3, hrun, B73, hK3⟩ := (B7.ext hX2).copyMin (P := Try.prog) 25 25 3 5 Try.underlying25 size_u8 hrow (u8v_one _) 0 64 64 (by simp [zeros])
  rw [List.take_of_length_le (by rw [List.length_map, hpl]; decide), over_put] at B73
  have hmin : ((min 4 64 : Nat) : Int) = 4 := by decide
  rw [hmin] at hrun
  have hE3 : Ext w w3 := ((Keep.of_ext (hE.trans hX2)).trans hK3).mono (fun k o ho hx => by have := Keep.lt ho; omega)
  have B63 := (B6.ext hX2).keep hK3 (by omega)
  obtain ⟨w4, hrun4, B74, hK4⟩ := B73.copyMin (P := Try.prog) 25 25 3 5 Try.underlying25 size_u8 ((HRW.out).ext hE3) hB1 4 51 60 (by rw [List.length_map, overB_length (by simp [zeros, hpl])]; decide)
  rw [← List.map_take, over_put] at B74
  have B64 := B63.keep hK4 (by omega)
  have hE4 : Ext w w4 := ((Keep.of_ext hE3).trans hK4).mono (fun k o ho hx => by have := Keep.lt ho; omega)
  clear hf hE2 hrow q1 hpl hmin hX2 hK3 hK4 B73 B63 B6 B7 hE hE3
  go_wp2_with (refine wpList_copy_run hrun rfl rfl rfl rfl ?_)
  -- region 4
  refine wp_flow (fun k => if k = 3 then .grows (Bs (putL gen.toNat 4)) (SliceN 4) else if k = 4 then .last else .reads) (by kernel_rfl) (by kernel_rfl) ?_
  refine flow_v rfl rfl (fun w' hE => exec_slice rfl (slice_55 (w.heap.size + 1) w')) ?_
  simp only [Act.put, List.setIfInBounds_toArray, List.set_cons_succ, List.set_cons_zero]
  iterate 2 (refine flow_r rfl rfl ?_; go_big_quiet_step (fail); refine wpQuiet_nil ?_)
  refine flow_g rfl rfl (by simp) ⟨_, none, 0, rfl⟩ (fun _ _ _ h hE => h.mono hE) (fun _ _ h => by have := h.sh; rwa [putL_length] at this) (fun w5 hE5 hf => ?_) (fun v hv => ?_)
  · have hc := put_any gen.toNat 4 w5 (by decide)
    clear hf
    go_wp2_with fail
    refine hc.mono ?_
    rintro e w6 ⟨a', c', rfl, hown, hE6⟩
    have HBs := Lib.hid (show Bs (putL gen.toNat 4) (.slice a' 4 c') w6 from by have := Bs.of_own hown (putL_length gen.toNat 4); exact this)
    clear hown hc
    go_wp2
    first | exact ⟨hE6, HBs.out⟩ | exact HBs.out
  obtain ⟨ab, cb, rfl⟩ := hv
  simp only [Act.put, List.setIfInBounds_toArray, List.set_cons_succ, List.set_cons_zero]
  refine flow_l rfl (by kernel_rfl) (fun w5 hE5 hf => ?_)
  have hX5 : Ext w4 w5 := ((Keep.refl _ w4).drew).trans hE5
  obtain ⟨_, _, q, hrow⟩ : Bs (putL gen.toNat 4) (.slice ab 4 cb) w5 := hf 3
  have hql : (putL gen.toNat 4).length = 4 := putL_length _ 4
  rw [hql] at q
  cases q
  rw [hql] at hrow
  have hl4 : (overB (overB (zeros 64) 0 (putL m 4)) 4 (b.take 51)).length = 64 := by
    rw [overB_length, overB_length (by simp [zeros, putL_length])]
    · rfl
    · rw [overB_length (by simp [zeros, putL_length])]; simp [zeros]; omega
  obtain ⟨w6, hrun, B76, hK6⟩ := (B74.ext hX5).copyMin (P := Try.prog) 25 25 3 5 Try.underlying25 size_u8 hrow (u8v_one _) 55 9 9 (by rw [List.length_map, hl4]; decide)
  rw [show ((putL gen.toNat 4).map u8v).take 9 = (putL gen.toNat 4).map u8v from List.take_of_length_le (by rw [List.length_map, hql]; decide), over_put] at B76
  have hmin : ((min 4 9 : Nat) : Int) = 4 := by decide
  rw [hmin] at hrun
  have hE6 : Ext w w6 := ((Keep.of_ext (hE4.trans hX5)).trans hK6).mono (fun k o ho hx => by have := Keep.lt ho; omega)
  have B66 := (B64.ext hX5).keep hK6 (by omega)
  have hl6 : ((overB (overB (overB (zeros 64) 0 (putL m 4)) 4 (b.take 51)) 55 (putL gen.toNat 4))).length = 64 := by
    rw [overB_length (by rw [hl4, hql]; decide), hl4]
  clear hf hE5 hrow hql hmin hX5 hK6 B74 B64 hE4
  go_wp2_with (refine wpList_copy_run hrun rfl rfl rfl rfl ?_)
  -- region 5
  refine wp_flow (fun k => if k = 3 then .grows (Bs (putL num 4)) (SliceN 4) else if k = 4 then .last else .reads) (by kernel_rfl) (by kernel_rfl) ?_
  refine flow_v rfl rfl (fun w' hE => exec_slice rfl (slice_59 (w.heap.size + 1) w')) ?_
  simp only [Act.put, List.setIfInBounds_toArray, List.set_cons_succ, List.set_cons_zero]
  iterate 2 (refine flow_r rfl rfl ?_; go_big_quiet_step (fail); refine wpQuiet_nil ?_)
  refine flow_g rfl rfl (by simp) ⟨_, none, 0, rfl⟩ (fun _ _ _ h hE => h.mono hE) (fun _ _ h => by have := h.sh; rwa [putL_length] at this) (fun w5 hE5 hf => ?_) (fun v hv => ?_)
  · have hc := put_any num 4 w5 (by decide)
    clear hf
    go_wp2_with fail
    refine hc.mono ?_
    rintro e w6 ⟨a', c', rfl, hown, hE6⟩
    have HBs := Lib.hid (show Bs (putL num 4) (.slice a' 4 c') w6 from by have := Bs.of_own hown (putL_length num 4); exact this)
    clear hown hc
    go_wp2
    first | exact ⟨hE6, HBs.out⟩ | exact HBs.out
  obtain ⟨ab, cb, rfl⟩ := hv
  simp only [Act.put, List.setIfInBounds_toArray, List.set_cons_succ, List.set_cons_zero]
  refine flow_l rfl (by kernel_rfl) (fun w7 hE7' hf => ?_)
  have hX7 : Ext w6 w7 := ((Keep.refl _ w6).drew).trans hE7'
  obtain ⟨_, _, q, hrow⟩ : Bs (putL num 4) (.slice ab 4 cb) w7 := hf 3
  have hql : (putL num 4).length = 4 := putL_length _ 4
  rw [hql] at q
  cases q
  rw [hql] at hrow
  obtain ⟨w8, hrun, B78, hK8⟩ := (B76.ext hX7).copyMin (P := Try.prog) 25 25 3 5 Try.underlying25 size_u8 hrow (u8v_one _) 59 5 5 (by rw [List.length_map, hl6]; decide)
  rw [show ((putL num 4).map u8v).take 5 = (putL num 4).map u8v from List.take_of_length_le (by rw [List.length_map, hql]; decide), over_put, overB_two hl4] at B78
  have hmin : ((min 4 5 : Nat) : Int) = 4 := by decide
  rw [hmin] at hrun
  have hE8 : Ext w w8 := ((Keep.of_ext (hE6.trans hX7)).trans hK8).mono (fun k o ho hx => by have := Keep.lt ho; omega)
  have B68 := (B66.ext hX7).keep hK8 (by omega)
  have hql2 : (putL gen.toNat 4 ++ putL num 4).length = 8 := by rw [List.length_append, putL_length, putL_length]
  have hl8 : ((overB (overB (overB (zeros 64) 0 (putL m 4)) 4 (b.take 51)) 55 (putL gen.toNat 4 ++ putL num 4)).map u8v).length = 64 := by
    rw [List.length_map, overB_length (by rw [hl4, hql2]; decide), hl4]
  obtain ⟨x, hx⟩ : ∃ x, ((overB (overB (overB (zeros 64) 0 (putL m 4)) 4 (b.take 51)) 55 (putL gen.toNat 4 ++ putL num 4)).map u8v)[63]? = some x := ⟨_, List.getElem?_eq_getElem (by omega)⟩
  have cx := B78.cell hx
  have fx := B78.frozen 63
  have B77 := B78.set 63 (.int .u8 165)
  rw [show (Value.int .u8 165) = u8v 165 from rfl, ← List.map_set] at B77
  have hPP := HP.out
  rw [HL.out] at hPP
  rw [hPP, show u8v 165 = (Value.int .u8 165) from rfl] at B77
  have B67 := B68.keep (keep_setCell w8 (w.heap.size + 1) 63 (.int .u8 165)) (by omega)
  have hE7 : Ext w (w8.setCell ⟨w.heap.size + 1, 63, none⟩ (.int .u8 165)) := hE8.setCell _ _ (fun o ho => by have := Keep.lt ho; replace this : w.heap.size + 1 < w.heap.size := this; omega)
  unfold aggB at hR
  have hfl := firstL_length b gen.toNat num
  have hone := all_one (firstL b gen.toNat num)
  have hi1 := Lib.hid (show (Try.prog.info? 60).map (·.size) = some ((firstL b gen.toNat num).map u8v).toArray.size by rw [info_sec]; simp [hfl])
  have hz1 := Lib.hid (show F64.toArray.size = ((firstL b gen.toNat num).map u8v).toArray.size by simp [hfl, F64])
  have HB77 := Lib.hid (show (w8.setCell ⟨w.heap.size + 1, 63, none⟩ (.int .u8 165)).heap[w.heap.size + 1]? = some (.cells ((firstL b gen.toNat num).map u8v).toArray 60 (0, 0)) from B77)
  obtain ⟨fin, hfin⟩ : ∃ f, ((firstL b gen.toNat num).map u8v).toArray = f := ⟨_, rfl⟩
  rw [hfin] at hR hone hi1 hz1 HB77
  have HON := Lib.hid hone
  have HB67 := Lib.hid B67
  have HE7 := Lib.hid hE7
  have hi63 := fun w' => index_arr (w.heap.size + 1) 0 63 (by decide) w'
  rw [Nat.zero_add] at hi63
  clear hf hE7' hrow hql hql2 hmin hX7 hK8 B78 B68 B76 B66 hE6 hE8 hl4 hl6 hl8 hx B77 hPP B67 hE7 hfl hone hfin HP
  go_wp2_with (first | (refine wpList_copy_run hrun rfl rfl rfl rfl ?_) | (refine wpList_load_row ?_ 60 (.tmp 7) ?_ (w.heap.size + 1) ?_ 60 fin (0, 0) _ ?_ Try.underlying60 rfl hi1.out ?_; rfl; rfl; rfl; exact HB77.out) | (refine wpList_store_row ?_ 60 (.tmp 6) (.tmp 28) ?_ w.heap.size fin ?_ ?_ 60 F64.toArray ?_ hi1.out hz1.out HON.out ?_; rfl; rfl; rfl; rfl; exact HB67.out))
  refine bodyPost_ret (results_cell1 rfl _ _ w.heap.size 60 fin _ rfl ?_ Try.underlying60 rfl hi1.out) rfl (hR _ _ ⟨rfl, (HE7.out).setRow_new _ _ (Nat.le_refl _)⟩)
  have := Arr.setRow HB67.out fin.toList
  simpa [Arr] using this
end Go.Proofs.Ytdopaoajbjodeaa
