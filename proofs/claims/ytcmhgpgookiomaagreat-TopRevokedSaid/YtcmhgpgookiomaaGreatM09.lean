/-
  TopRevoked: '==' of arrays of integers that are alike; an operation of a drawn region that loads a whole array. Nothing here names the program. a wrap is opened. Unwrap. Operations whose runs are given, in a walk and in a drawn region; a map's entry that is made and then filled. Nothing here names the program. a question of an ideal suite: ideal, for a wrap. Seal and Wrap of an ideal suite. Wrap of an ideal suite. maps by numbers (uint32) in memory as sorted lists of pairs.
-/
import Derived.Test.YtcmhgpgookiomaaGreatM01
import Derived.Test.YtcmhgpgookiomaaGreatM03
import Derived.Test.YtcmhgpgookiomaaGreatM06
import Derived.Test.YtcmhgpgookiomaaGreatM07
import Derived.Test.YtcmhgpgookiomaaGreatM08
import Derived.Laws.StructEq
import Derived.Lib.SlBytesConst
import Derived.Sort.MapsRangeIn
import Derived.Lib.SlKeysI
namespace Go.Proofs.YtcmhgpgookiomaaGreat
open Go.RowKit Go.Shelf

section
variable {P : Program} {w : World}
theorem exec_load_row {o : Oper} {a : Act} {ty : TypeId} {x : Operand} {g : Nat} {t : TypeId} {cs : Array Value} {fr : Nat × Nat} {d : TypeDesc} (ho : o.op = .load ty x) (hx : a.eval x = .pointer (some ⟨g, 0, none⟩)) (hg : w.heap[g]? = some (.cells cs t fr))
    (hu : P.underlying ty = some d) (hd : (match d with | .struct _ | .array _ _ => true | _ => false) = true) (hi : (P.info? ty).map (·.size) = some cs.size) : (execOp a.eval o).run P w = .ok (.value (.agg cs)) w := by
  unfold execOp
  simp only [ho, hx, Instr.loadAt, Instr.sureAddr, Sem.run_bind, Sem.run_pure, Result.andThen_ok, run_loadVar_row w g t ty cs fr d hg hu hd hi]
end
section
variable {P : Program} {ops : Array Oper} {md : Region.Mode} {w0 : World} {tab : Nat → Kind} {Q : Exit → Act → World → Prop} {k : Nat} {facts : Nat → World → Prop} {a : Act} {o : Oper} {os : List Oper}
/-- A reading operation whose run is given. -/
theorem flow_v {v : Value} (ht : tab k = .reads) (hw : Region.wanted o (yielded ops a.tmps) = true) (h1 : ∀ w, Ext w0 w → (execOp a.eval o).run P w = .ok (.value v) w)
    (h : wpFlows P ops md tab Q os (k + 1) w0 facts (a.put o.dst v)) : wpFlows P ops md tab Q (o :: os) k w0 facts a := fun hi => by
  have hk : ops[k]? = some o := by simpa using hi 0
  refine flows_cons (o := o) ?_ hi
  unfold flowOp
  simp only [hk, ht]
  exact ⟨v, fun w hE => by unfold opIs; rw [if_pos hw]; exact .inl (h1 w hE), h⟩
end
end Go.Proofs.YtcmhgpgookiomaaGreat
namespace Go.Proofs.YtcmhgpgookiomaaGreat
open Go.RowKit Go.Shelf Go.Maps

attribute [local go_sem] Oper.semAt_some

def wrapS : By := [119, 114, 97, 112]
def IsU (u v : Value) (_ : World) : Prop := v = u
def IsUS (u v : Value) : Prop := v = u

set_option maxRecDepth 20000 in
set_option maxHeartbeats 4000000 in
theorem sopen_any {w : World} {Q TB A PL : Nat} {s : SSt} (h : SuiteAt w Q TB A PL s) (kek ct : By) (hk : kek.length = 32) (hc : ct.length = 108) (a1 a2 : Option Addr) (c1 c2 : Nat) (r1 : Row 1 w a1 4 c1 (wrapS.map u8v)) (r2 : Row 1 w a2 108 c2 (ct.map u8v)) :
    Calls Tryz.prog 85 #[.pointer (some ⟨Q, 0, none⟩), aggK kek, .slice a1 4 c1, .slice a2 108 c2] w fun e w' =>
      (s.pl kek ct = none → e = .returned (.tuple #[.slice none 0 0, .int .i64 70]) ∧ Ext w w') ∧
      (∀ k, s.pl kek ct = some k → ∃ a c, e = .returned (.tuple #[.slice a 32 c, .int .i64 0]) ∧ Row 1 w' a 32 c (k.map u8v) ∧ Ext w w') := by
  obtain ⟨b3, b4, hb⟩ := h.box
  obtain ⟨S, n, p1, p2, p3⟩ := h.pl
  obtain ⟨kl, hkl⟩ := given_lit kek ct hk (by omega)
  have hS := p3 kek ct kl hk hc hkl
  have hlp := h.lp kek ct
  have hok := fun A' (hE : Ext w A') => sok_any (h.ext hE)
  obtain ⟨O, hO⟩ : ∃ O, kek.map u8v = O := ⟨_, rfl⟩
  have hOl : O.length = 32 := by rw [← hO, List.length_map, hk]
  have hik := Lib.hid (show (Tryz.prog.info? 51).map (·.size) = some O.toArray.size by rw [info_key, List.size_toArray, hOl])
  have hbg := fun w => build_given O hOl ⟨#[119, 114, 97, 112]⟩ ⟨ct.toArray⟩ w
  have hG : givenV kek ct = .agg (O ++ [Value.string ⟨#[119, 114, 97, 112]⟩, Value.string ⟨ct.toArray⟩]).toArray := by unfold givenV givenC; rw [hO]
  have hlook := fun A' (hE : Ext w A') => (p1.ext hE).look law_given Tryz.underlying62 (zero_str A') hkl
  rw [hS, hG] at hlook
  obtain ⟨op, hop⟩ : ∃ o, s.pl kek ct = o := ⟨_, rfl⟩
  rw [hop] at hlook hlp ⊢
  obtain ⟨V, hV⟩ : ∃ V, (op.map strV).getD (.string ⟨#[]⟩) = V := ⟨_, rfl⟩
  obtain ⟨bb, hbb⟩ : ∃ b, (op.map strV).isSome = b := ⟨_, rfl⟩
  rw [hV, hbb] at hlook
  have HV := Lib.hid hV
  have HBb := Lib.hid hbb
  have HLP := Lib.hid hlp
  clear hV hbb hop hlp
  obtain ⟨G, hGG⟩ : ∃ G, (O ++ [Value.string ⟨#[119, 114, 97, 112]⟩, Value.string ⟨ct.toArray⟩]).toArray = G := ⟨_, rfl⟩
  rw [hGG] at hlook hbg
  have HLK := Lib.hid hlook
  have HBG := Lib.hid hbg
  have HB := Lib.hid hb
  have R1 := Lib.hid r1
  have R2 := Lib.hid r2
  unfold aggK
  rw [hO]
  clear hGG hG hbg hlook hS hkl p1 p2 p3 h hOl hO r1 r2
  refine calls_cps fun R hR => ?_
  have HR := Lib.hid hR
  clear hR
  go_enter Tryz.func85, Tryz.ntmps85
  obtain ⟨w1, hw1⟩ : ∃ w1, w.alloc (.cells O.toArray 51) = w1 := ⟨_, rfl⟩
  have e1 : Ext w w1 := by rw [← hw1]; exact (Keep.refl _ w).alloc _
  have bK : Arr w1 w.heap.size 51 O := by rw [← hw1]; exact Arr.new w _ O
  have HW := Lib.hid hw1
  clear hw1
  go_wp2_with fail
  rw [HW.out]
  refine (hok w1 e1).mono ?_
  rintro e w1' ⟨rfl, hw1'⟩
  subst hw1'
  have c3 := Ext.cell e1 (HB.out.cell (i := 3) rfl)
  have c0 := Ext.cell e1 (HB.out.cell (i := 0) rfl)
  have hD : ∀ g : At w1'.drew, Ext w1' g.w := fun g => ((Keep.refl _ w1').drew).trans g.ext
  have c3' := fun g => Ext.cell (hD g) c3
  clear hok hb HW
  go_wp2_with fail
  refine wp_flow (fun n => if n = 6 then .grows (IsU (.string ⟨#[119, 114, 97, 112]⟩)) (IsUS (.string ⟨#[119, 114, 97, 112]⟩)) else if n = 8 then .grows (IsU (.string ⟨ct.toArray⟩)) (IsUS (.string ⟨ct.toArray⟩)) else .reads) (by kernel_rfl) (by kernel_rfl) ?_
  iterate 4 (refine flow_r rfl rfl ?_; go_big_quiet_step (fail); refine wpQuiet_nil ?_)
  refine flow_v (v := .agg O.toArray) rfl rfl (fun w' hE => exec_load_row rfl rfl (((((Keep.refl _ w1').drew).trans hE)).block _ _ bK (fun h => h)) Tryz.underlying51 rfl hik.out) ?_
  simp only [Act.put, List.setIfInBounds_toArray, List.set_cons_succ, List.set_cons_zero]
  refine flow_r rfl rfl ?_; go_big_quiet_step (fail); refine wpQuiet_nil ?_
  refine flow_g rfl rfl (by simp) ⟨_, rfl⟩ (fun _ _ _ h hE => h) (fun _ _ h => h) (fun w2 hE2 hf => ?_) (fun v hv => ?_)
  · have s1 := run_string_row (P := Tryz.prog) w2 26 9 5 Tryz.underlying26 Tryz.underlying5 Tryz.underlying9 (R1.out.ext ((e1.drew).trans hE2))
    go_wp2
    exact ⟨Keep.refl _ _, rfl⟩
  cases hv
  simp only [Act.put, List.setIfInBounds_toArray, List.set_cons_succ, List.set_cons_zero]
  refine flow_r rfl rfl ?_; go_big_quiet_step (fail); refine wpQuiet_nil ?_
  refine flow_g rfl rfl (by simp) ⟨_, rfl⟩ (fun _ _ _ h hE => h) (fun _ _ h => h) (fun w2 hE2 hf => ?_) (fun v hv => ?_)
  · have s1 := run_string_row (P := Tryz.prog) w2 26 9 5 Tryz.underlying26 Tryz.underlying5 Tryz.underlying9 (R2.out.ext ((e1.drew).trans hE2))
    go_wp2
    exact ⟨Keep.refl _ _, rfl⟩
  cases hv
  simp only [Act.put, List.setIfInBounds_toArray, List.set_cons_succ, List.set_cons_zero]
  refine flow_v (v := .agg G) rfl rfl (fun w' hE => exec_build3 rfl rfl rfl rfl (HBG.out w')) ?_
  simp only [Act.put, List.setIfInBounds_toArray, List.set_cons_succ, List.set_cons_zero]
  refine flow_v rfl rfl (fun w' hE => exec_lookup' rfl (HLK.out w' ((e1.drew).trans hE))) ?_
  simp only [Act.put, List.setIfInBounds_toArray, List.set_cons_succ, List.set_cons_zero]
  iterate 5 (refine flow_r rfl rfl ?_; go_big_quiet_step (fail); refine wpQuiet_nil ?_)
  refine flow_end (fun w9 hE9 _ => ?_)
  have E9 : Ext w w9 := (e1.drew).trans hE9
  clear c3 c3' c0 hD HLK HBG HB R1 R2 bK hE9
  cases bb with
  | false =>
    have hn : op = none := by cases op; rfl; exact absurd HBb.out (by simp)
    subst hn
    have hRR := HR.out (.returned (.tuple #[.slice none 0 0, .int .i64 70])) w9 ⟨fun _ => ⟨rfl, E9⟩, fun k h => by cases h⟩
    clear HR
    go_wp2
    exact hRR
  | true =>
    obtain ⟨k, rfl⟩ : ∃ k, op = some k := by cases op; exact absurd HBb.out (by simp); exact ⟨_, rfl⟩
    have hkl := HLP.out k rfl
    have hVk : V = .string ⟨k.toArray⟩ := by rw [← HV.out]; rfl
    subst hVk
    obtain ⟨c, w', hrun, hrow, hE', _⟩ := bytes_row w9 k (by omega)
    rw [hkl] at hrun hrow
    have hRR := HR.out (.returned (.tuple #[.slice (some ⟨w9.heap.size, 0, none⟩) 32 c, .int .i64 0])) w' ⟨fun h => (by cases h), fun k' h => by cases h; exact ⟨_, _, rfl, hrow, E9.trans hE'⟩⟩
    clear HR hrow hE'
    go_wp2
    exact hRR
end Go.Proofs.YtcmhgpgookiomaaGreat
namespace Go.Proofs.YtcmhgpgookiomaaGreat
open Go.RowKit Go.Shelf Go.Maps

attribute [local go_sem] Oper.semAt_some

theorem wpList_laid1 {P : Program} {ops : Array Oper} {Q : Exit → Act → World → Prop} {rest : List Oper} {a : Act} {w : World} {o1 : Obj}
    (h : ∀ W, Ext w W → W.heap[w.heap.size]? = some o1 → wpList P ops Q rest a W) : wpList P ops Q rest a (w.alloc o1) :=
  h _ ((Keep.refl _ w).alloc _) (World.alloc_heap_new w o1)
theorem wpList_laid2 {P : Program} {ops : Array Oper} {Q : Exit → Act → World → Prop} {rest : List Oper} {a : Act} {w : World} {o1 o2 : Obj}
    (h : ∀ W, Ext w W → W.heap[w.heap.size]? = some o1 → W.heap[w.heap.size + 1]? = some o2 → wpList P ops Q rest a W) : wpList P ops Q rest a ((w.alloc o1).alloc o2) := by
  have k1 := World.alloc_heap_new w o1
  have k2 := World.alloc_heap_new (w.alloc o1) o2
  simp only [World.size_alloc] at k2
  exact h _ (((Keep.refl _ w).alloc _).alloc _) (((Keep.refl (fun _ _ => False) (w.alloc o1)).alloc o2).block _ _ k1 (fun h => h)) k2
theorem wrap_row (W : World) : Row 1 (W.alloc (.cells #[.int .u8 119, .int .u8 114, .int .u8 97, .int .u8 112] 5 (4, 5))) (some ⟨W.heap.size, 0, none⟩) 4 4 (wrapS.map u8v) := by
  refine ⟨Nat.le_refl _, by simp [maxLen], rfl, by simp, fun _ => ⟨_, 0, rfl, fun i u hu => ?_⟩⟩
  rw [Nat.zero_add]
  refine (cell_of_row _ _ _ _ 5 _ (World.alloc_heap_new W _)).trans ?_
  simpa [wrapS, u8v] using hu
theorem conv_wrap (W : World) : (convert 26 26 (.slice (some ⟨W.heap.size, 0, none⟩) 4 4)).run Tryz.prog (W.alloc (.cells #[.int .u8 119, .int .u8 114, .int .u8 97, .int .u8 112] 5)) = .ok (.slice (some ⟨W.heap.size, 0, none⟩) 4 4) (W.alloc (.cells #[.int .u8 119, .int .u8 114, .int .u8 97, .int .u8 112] 5 (4, 5))) :=
  Lib.run_convert_bytes_const (P := Tryz.prog) W 26 5 #[.int .u8 119, .int .u8 114, .int .u8 97, .int .u8 112] 4 4 Tryz.underlying26 Tryz.underlying5

set_option maxRecDepth 20000 in
set_option maxHeartbeats 4000000 in
theorem unwrap_any {w : World} {Q TB A PL : Nat} {s : SSt} (h : SuiteAt w Q TB A PL s) (kek ct : By) (hk : kek.length = 32) (hc : ct.length = 108) (a2 : Option Addr) (c2 : Nat) (r2 : Row 1 w a2 108 c2 (ct.map u8v)) :
    Calls Tryz.prog 66 #[.pointer (some ⟨Q, 0, none⟩), aggK kek, .slice a2 108 c2] w fun e w' => Ext w w' ∧
      (s.pl kek ct = none → e = .returned (.tuple #[aggK key0, .int .i64 70])) ∧ (∀ k, s.pl kek ct = some k → e = .returned (.tuple #[aggK k, .int .i64 0])) := by
  have hop := fun A' a1 c1 (hE : Ext w A') (r1 : Row 1 A' a1 4 c1 (wrapS.map u8v)) => sopen_any (h.ext hE) kek ct hk hc a1 a2 c1 c2 r1 (r2.ext hE)
  have hlp := h.lp kek ct
  unfold aggK
  unfold aggK at hop
  obtain ⟨O, hO⟩ : ∃ O, kek.map u8v = O := ⟨_, rfl⟩
  have hOl : O.length = 32 := by rw [← hO, List.length_map, hk]
  have hik := Lib.hid (show (Tryz.prog.info? 51).map (·.size) = some O.toArray.size by rw [info_key, List.size_toArray, hOl])
  obtain ⟨zz, hzz⟩ : ∃ z, key0.map u8v = z := ⟨_, rfl⟩
  have HZ := Lib.hid (show (List.replicate 32 (.int .u8 0) : List Value) = zz by rw [← hzz]; rfl)
  have HO := Lib.hid (show zz.toArray.all (·.oneCell') = true by rw [← hzz]; exact all_one _)
  have HZs := Lib.hid (show (Tryz.prog.info? 51).map (·.size) = some zz.toArray.size by rw [info_key, ← hzz]; rfl)
  have HZ64 := Lib.hid (show zz.toArray.size = 32 by rw [← hzz]; rfl)
  rw [hzz]
  rw [hO] at hop ⊢
  have HLP := Lib.hid hlp
  clear hzz hO hOl h hlp r2
  refine calls_cps fun R hR => ?_
  have HR := Lib.hid hR
  clear hR
  have kc := conv_wrap
  go_enter Tryz.func66, Tryz.ntmps66
  go_wp2_with (first | (refine wpList_load_row ?_ 51 (.tmp 4) ?_ w.heap.size ?_ 51 O.toArray (0, 0) _ ?_ Tryz.underlying51 rfl hik.out ?_; rfl; rfl; rfl; exact (Arr.new w _ O).alloc _; refine wpList_laid2 fun W hE _ hZ => ?_) | fail)
  have e1 : Ext W (W.alloc (.cells #[.int .u8 119, .int .u8 114, .int .u8 97, .int .u8 112] 5 (4, 5))) := (Keep.refl _ W).alloc _
  refine (hop _ _ _ (hE.trans e1) (wrap_row W)).mono ?_
  rintro e w1 ⟨hlo, hhi⟩
  have hE1 : Ext W w1 := e1.trans (by
    cases hq : s.pl kek ct with
    | none => exact (hlo hq).2
    | some k => obtain ⟨_, _, _, _, x⟩ := hhi k hq; exact x)
  have hZ1 : Arr w1 (w.heap.size + 1) 51 (List.replicate 32 (.int .u8 0)) := Arr.ext (show Arr W (w.heap.size + 1) 51 (List.replicate 32 (.int .u8 0)) from hZ) hE1
  have hww : Ext w w1 := hE.trans hE1
  have hkS : ∀ c, Ext w (w1.setRow (w.heap.size + 1) c) := fun c => ((Keep.of_ext hww).trans (keep_setRow w1 (w.heap.size + 1) c)).mono (fun k o ho hx => by have := Keep.lt ho; omega)
  rw [HZ.out] at hZ1
  clear kc hop hE hE1 e1 hww hZ
  cases hq : s.pl kek ct with
  | none =>
    obtain ⟨rfl, _⟩ := hlo hq
    have hRR := HR.out (.returned (.tuple #[.agg zz.toArray, .int .i64 70])) _ ⟨hkS zz.toArray, fun _ => rfl, fun k h => (by rw [hq] at h; cases h)⟩
    clear hlo hhi HR hkS hq
    go_wp2_with (refine wpList_store_row ?_ 51 (.tmp 6) (.tmp 22) ?_ (w.heap.size + 1) (List.replicate 32 (.int .u8 0)).toArray ?_ ?_ 51 zz.toArray ?_ (by rw [HZ.out]; exact HZs.out) (by rw [HZ.out]) (by rw [HZ.out]; exact HO.out) ?_; rfl; rfl; rfl; rfl; exact hZ1)
    have h2 := hZ1.setRow (List.replicate 32 (.int .u8 0))
    unfold Arr at h2
    rw [show (some (Obj.cells (List.replicate 32 (.int .u8 0)).toArray 51 (0, 0)) : Option Obj) = some (Obj.cells zz.toArray 51 (0, 0)) by rw [HZ.out]] at h2
    exact bodyPost_ret (results_cell_slot rfl _ _ (w.heap.size + 1) 51 zz.toArray (0, 0) _ (.int .i64 70) rfl rfl h2 Tryz.underlying51 rfl HZs.out) rfl (by rw [← HZ.out] at hRR ⊢; exact hRR)
  | some k =>
    obtain ⟨a, c, rfl, hrow, _⟩ := hhi k hq
    have hkl := HLP.out k hq
    obtain ⟨V, hV⟩ : ∃ V, k.map u8v = V := ⟨_, rfl⟩
    have hVl : V.length = 32 := by rw [← hV, List.length_map, hkl]
    have HO1 := Lib.hid (show V.toArray.all (·.oneCell') = true by rw [← hV]; exact all_one _)
    have HOs := Lib.hid (show (Tryz.prog.info? 51).map (·.size) = some V.length by rw [info_key, hVl])
    have HOz := Lib.hid (show zz.toArray.size = V.toArray.size by rw [HZ64.out, List.size_toArray, hVl])
    have hRR := HR.out (.returned (.tuple #[.agg V.toArray, .int .i64 0])) _ ⟨hkS V.toArray, fun h => (by rw [hq] at h; cases h), fun k' h => (by rw [hq] at h; cases h; rw [hV])⟩
    rw [hV] at hrow
    obtain ⟨b5, o5, rfl, _⟩ := hrow.2.2.2.2 (by omega)
    have HLD := Lib.hid (show (loadCellsFrom ⟨b5, o5, none⟩ 0 V.length #[]).run Tryz.prog w1 = .ok V.toArray w1 by rw [hVl]; exact hrow.loads (by omega))
    have har := array_key ⟨b5, o5, none⟩ c w1
    clear hlo hhi HR hrow hq hkS hV hVl
    go_wp2_with (first | (refine wpList_load_cells ?_ 51 (.tmp 30) ?_ ⟨b5, o5, none⟩ ?_ V _ ?_ Tryz.underlying51 rfl HOs.out ?_; rfl; rfl; rfl; exact HLD.out) | (refine wpList_store_row ?_ 51 (.tmp 6) (.tmp 31) ?_ (w.heap.size + 1) V.toArray ?_ ?_ 51 zz.toArray ?_ HOs.out HOz.out HO1.out ?_; rfl; rfl; rfl; rfl; exact hZ1))
    exact bodyPost_ret (results_cell_slot rfl _ _ (w.heap.size + 1) 51 V.toArray (0, 0) _ (.int .i64 0) rfl rfl (hZ1.setRow V) Tryz.underlying51 rfl HOs.out) rfl hRR
end Go.Proofs.YtcmhgpgookiomaaGreat
namespace Go.Proofs.YtcmhgpgookiomaaGreat
open Go.RowKit Go.Shelf Go.Maps
open Go.ChangeMaps (setBlock)

section
variable {P : Program} {ops : Array Oper} {rest : List Oper} {o : Oper} {a : Act} {w w' : World} {Q : Exit → Act → World → Prop} {v : Value}
theorem wpList_valw (hr : (execOp a.eval o).run P w = .ok (.value v) w') (hw : Region.wanted o (yielded ops a.tmps) = true) (h : wpList P ops Q rest (a.put o.dst v) w') : wpList P ops Q (o :: rest) a w :=
  wpList_step fun K hK => by
    rw [if_pos hw]
    unfold Oper.wp
    rw [hr]
    exact hK _ _ h
theorem wpList_val (hr : (execOp a.eval o).run P w = .ok (.value v) w) (hw : Region.wanted o (yielded ops a.tmps) = true) (h : wpList P ops Q rest (a.put o.dst v) w) : wpList P ops Q (o :: rest) a w := wpList_valw hr hw h
theorem wpList_skipw (hr : (execOp a.eval o).run P w = .ok .skip w') (hw : Region.wanted o (yielded ops a.tmps) = true) (h : wpList P ops Q rest (a.put o.dst undef) w') : wpList P ops Q (o :: rest) a w :=
  wpList_step fun K hK => by
    rw [if_pos hw]
    unfold Oper.wp
    rw [hr]
    exact hK _ _ h
theorem opRuns_skip (hw : Region.wanted o (yielded ops a.tmps) = true) (h : (execOp a.eval o).run P w = .ok .skip w') : FW.opRuns P ops o a w undef w' := by
  unfold FW.opRuns
  rw [if_pos hw]
  exact .inr ⟨h, rfl⟩
theorem exec_convert' {s d : TypeId} {p : Operand} (ho : o.op = .convert s d p) (h : (convert s d (a.eval p)).run P w = .ok v w') : (execOp a.eval o).run P w = .ok (.value v) w' := by
  unfold execOp
  simp [ho, h, Result.andThen]
theorem exec_mapUpdate' {t : TypeId} {m k x : Operand} (ho : o.op = .mapUpdate t m k x) (h : (Instr.mapUpdate t (a.eval m) (a.eval k) (a.eval x)).run P w = .ok () w') : (execOp a.eval o).run P w = .ok .skip w' := by
  unfold execOp
  simp [ho, h, Result.andThen]
theorem exec_insert' {t : TypeId} {m k x : Operand} (ho : o.op = .insert t m k x) (h : (Instr.mapUpdate t (a.eval m) (a.eval k) (a.eval x)).run P w = .ok () w') : (execOp a.eval o).run P w = .ok .skip w' := by
  unfold execOp
  simp [ho, h, Result.andThen]
theorem exec_mapEntry' {t : TypeId} {m k : Operand} (ho : o.op = .mapEntry t m k) (h : (Instr.mapEntry t (a.eval m) (a.eval k)).run P w = .ok v w') : (execOp a.eval o).run P w = .ok (.value v) w' := by
  unfold execOp
  simp [ho, h, Result.andThen]
theorem exec_entryStore' {t : TypeId} {m s x : Operand} (ho : o.op = .entryStore t m s x) (h : (Instr.entryStore t (a.eval m) (a.eval s) (a.eval x)).run P w = .ok () w') : (execOp a.eval o).run P w = .ok .skip w' := by
  unfold execOp
  simp [ho, h, Result.andThen]
theorem exec_delete' {ts : Array TypeId} {m k : Operand} (ho : o.op = .call { callee := .builtin .delete, args := #[m, k], argTypes := ts }) (h : (Builtin.delete_ ts o.type #[a.eval m, a.eval k]).run P w = .ok v w') : (execOp a.eval o).run P w = .ok (.value v) w' := by
  simp [execOp, ho, resolve, invoke, builtin, h, Result.andThen]
theorem exec_load_mid' {ty : TypeId} {x : Operand} (ho : o.op = .load ty x) {p : Addr} (hx : a.eval x = .pointer (some p)) {cs : List Value} {d : TypeDesc} (hl : (loadCellsFrom p 0 cs.length #[]).run P w = .ok cs.toArray w)
    (hu : P.underlying ty = some d) (hd : (match d with | .struct _ | .array _ _ => true | _ => false) = true) (hi : (P.info? ty).map (·.size) = some cs.length) : (execOp a.eval o).run P w = .ok (.value (.agg cs.toArray)) w := by
  unfold execOp
  simp only [ho, hx, Instr.loadAt, Instr.sureAddr, Sem.run_bind, Sem.run_pure, Result.andThen_ok, run_loadVar_cells w p ty cs d hl hu hd hi]
theorem exec_store_row {ty : TypeId} {x y : Operand} (ho : o.op = .store ty x y) {g : Nat} {cells : Array Value} (hx : a.eval x = .pointer (some ⟨g, 0, none⟩)) (hy : a.eval y = .agg cells)
    {t : TypeId} {old : Array Value} (hg : w.heap[g]? = some (.cells old t (0, 0))) (hi : (P.info? ty).map (·.size) = some cells.size) (hold : old.size = cells.size) (h1 : cells.all (·.oneCell') = true) :
    (execOp a.eval o).run P w = .ok .skip (w.setRow g cells) := by
  unfold execOp
  simp only [ho, hx, hy, Instr.storeAt, Instr.sureAddr, Sem.run_bind, Sem.run_pure, Result.andThen_ok, run_storeVar_row w g t ty old cells hg hi hold h1]
end

theorem Arr.loads_mid {P : Program} {w : World} {b off n : Nat} {t : TypeId} {cs : List Value} (h : Arr w b t cs) (hn : off + n ≤ cs.length) : (loadCellsFrom ⟨b, off, none⟩ 0 n #[]).run P w = .ok ((cs.drop off).take n).toArray w := by
  have hl : ((cs.drop off).take n).length = n := by simp; omega
  have := run_loadCells_list (P := P) (w := w) ⟨b, off, none⟩ ((cs.drop off).take n) (fun j v hv => by
    rw [addr_add]
    rw [List.getElem?_take] at hv
    split at hv
    · rw [List.getElem?_drop] at hv; exact h.cell hv
    · cases hv)
  rw [hl] at this
  exact this

/-! An entry is made, and filled behind it. -/
section
variable {P : Program} {t k e : TypeId} {w : World} {B n : Nat} {S : Lit → Option Value}
theorem find_stamp : ∀ {l : List MapEntry}, (l.map (·.born)).Nodup → ∀ {j : Nat} {x : MapEntry}, l[j]? = some x → l.findIdx? (fun y => ((y.born : Nat) : Int) == ((x.born : Nat) : Int)) = some j
  | [], _, j, x, h => by simp at h
  | y :: l, hn, 0, x, h => by
    obtain rfl : y = x := by simpa using h
    simp [List.findIdx?_cons]
  | y :: l, hn, j + 1, x, h => by
    obtain ⟨h1, h2⟩ := List.nodup_cons.1 (by rw [List.map_cons] at hn; exact hn)
    have hx : l[j]? = some x := by simpa using h
    have hne : ¬ y.born = x.born := fun e => h1 (List.mem_map.2 ⟨x, List.mem_of_getElem? hx, e.symm⟩)
    rw [List.findIdx?_cons, find_stamp h2 hx]
    simp
    omega
theorem findIdx_list (xs : Array MapEntry) (p : MapEntry → Bool) : xs.findIdx? p = xs.toList.findIdx? p := by cases xs; simp
theorem modify_end (f : MapEntry → MapEntry) (x : MapEntry) : ∀ l : List MapEntry, (l ++ [x]).modify l.length f = l ++ [f x]
  | [] => rfl
  | y :: l => by simp [List.modify_succ_cons, modify_end f x l]
/-- The block B is left as E by the making; filled, it is what a store at the key would have made. -/
theorem KMap.entry (h : KMap P k w B n S) (K : Keyed P k) (ht : P.underlying t = some (.map k e)) (hn : n < maxLen) {z : Value} (hz : ∀ u, (zeroValue e).run P u = .ok z u) {key : Value} {kl : Lit} (hkey : keyOf P k key = some kl) :
    ∃ st E w1, (Instr.mapEntry t (.map (some B)) key).run P w = .ok (.tuple #[(S kl).getD z, .int .i64 st]) w1 ∧ w1.heap[B]? = some E ∧ (∃ es c, E = .map es c) ∧ w.grownBy w1 (some B) ∧
      ∀ (w2 : World) (val : Value), w2.heap[B]? = some E → ∃ w3, (Instr.entryStore t (.map (some B)) (.int .i64 st) val).run P w2 = .ok () w3 ∧ KMap P k w3 B (n + 1) (updS S kl (some val)) ∧ w2.grownBy w3 (some B) := by
  obtain ⟨D, ⟨es, clock, hb, F, hsz, hD⟩, hI, hS⟩ := h
  have hlt : B < w.heap.size := (Array.getElem?_eq_some_iff.1 hb).1
  have hset : ∀ (u : World) (o o' : Obj), u.heap[B]? = some o → u.grownBy (setBlock u B o') (some B) := fun u o o' _ => ⟨rfl, rfl, rfl, by simp [setBlock], fun j _ hj => by
    have : j ≠ B := fun e => hj (by rw [e])
    simp [setBlock, Ne.symm this]⟩
  have hat : ∀ (u : World) (o o' : Obj), u.heap[B]? = some o → (setBlock u B o').heap[B]? = some o' := fun u o o' hu => by
    have : B < u.heap.size := (Array.getElem?_eq_some_iff.1 hu).1
    simp [setBlock, this]
  -- what a store would make of it
  have store : ∀ val, ∃ es' clock', (Instr.mapUpdate t (.map (some B)) key val).run P w = .ok () (setBlock w B (.map es' clock')) ∧ ∀ w3 : World, w3.heap[B]? = some (.map es' clock') → KMap P k w3 B (n + 1) (updS S kl (some val)) := fun val => by
    obtain ⟨es', clock', h1, h2, h3, _, _, h6⟩ := Maps.fit_store (R' := hv) K ht hb F (by omega) (key := key) (val := val) (fun x _ _ z hz => hz) hkey rfl
    refine ⟨es', clock', h1, fun w3 hw3 => ?_⟩
    obtain ⟨w', hrun, hK', _⟩ := (show KMap P k w B n S from ⟨D, ⟨es, clock, hb, F, hsz, hD⟩, hI, hS⟩).put K ht hn (key := key) (v := val) hkey
    rw [h1] at hrun
    cases hrun
    obtain ⟨D', ⟨es2, clock2, hb2, r1, r2⟩, r3⟩ := hK'
    rw [hat w _ _ hb] at hb2
    cases hb2
    exact ⟨D', ⟨es', clock', hw3, r1, r2⟩, r3⟩
  obtain ⟨s1, s2, _⟩ := F.stamped
  have hlook := (show KMap P k w B n S from ⟨D, ⟨es, clock, hb, F, hsz, hD⟩, hI, hS⟩).look1 K ht (hz w) hkey
  have hlk : ∀ u, (Instr.lookup t (.map (some B)) key false).run P w = .ok u w → u = (S kl).getD z := fun u hu => by rw [hlook] at hu; cases hu; rfl
  rcases K.find w hkey es.toList F.keys with ⟨h1, h2⟩ | ⟨j, e0, h1, h2, h3⟩
  · have hv0 : z = (S kl).getD z := hlk z (by simp [Instr.lookup, run_underlying ht, hz, MapKept.run_getObj_map hb, K.check w _ hkey, h1, Result.andThen])
    refine ⟨clock, .map (es.push ⟨key, z, clock⟩) (clock + 1), setBlock w B (.map (es.push ⟨key, z, clock⟩) (clock + 1)), ?_, hat w _ _ hb, ⟨_, _, rfl⟩, hset w _ _ hb, fun w2 val hw2 => ?_⟩
    · rw [← hv0]
      simp [Instr.mapEntry, run_underlying ht, MapKept.run_getObj_map hb, K.check w false hkey, h1, hz, MapKept.run_setObj_map _ hb, Result.andThen, setBlock, goInt]
    · obtain ⟨es', clock', g1, g2⟩ := store val
      have hup : (Instr.mapUpdate t (.map (some B)) key val).run P w = .ok () (setBlock w B (.map (es.push ⟨key, val, clock⟩) (clock + 1))) := by
        simp [Instr.mapUpdate, run_underlying ht, MapKept.run_getObj_map hb, K.check w false hkey, h1, MapKept.run_setObj_map _ hb, Result.andThen, setBlock]
      rw [hup] at g1
      have hE : es' = es.push ⟨key, val, clock⟩ ∧ clock' = clock + 1 := by
        have h9 := congrArg (fun r : Result Unit => match r with | .ok _ u => u.heap[B]? | _ => none) g1
        simp only [hat w _ _ hb] at h9
        cases h9
        exact ⟨rfl, rfl⟩
      obtain ⟨rfl, rfl⟩ := hE
      have hidx : (es.push ⟨key, z, clock⟩).findIdx? (fun y => ((y.born : Nat) : Int) == ((clock : Nat) : Int)) = some es.size := by
        rw [findIdx_list]
        refine find_stamp (x := ⟨key, z, clock⟩) ?_ (by simp)
        rw [Array.toList_push, List.map_append]
        refine List.nodup_append.2 ⟨s2, by simp, fun p hp q hq e => ?_⟩
        obtain ⟨x, hx, rfl⟩ := List.mem_map.1 hp
        have := s1 x hx
        simp only [List.map_cons, List.map_nil, List.mem_singleton] at hq
        omega
      have hmod : (es.push ⟨key, z, clock⟩).modify es.size (fun y => { y with val := val }) = es.push ⟨key, val, clock⟩ := by
        refine Array.ext' ?_
        rw [Array.toList_modify, Array.toList_push, Array.toList_push, ← Array.length_toList]
        exact modify_end _ _ _
      refine ⟨setBlock w2 B (.map (es.push ⟨key, val, clock⟩) (clock + 1)), ?_, g2 _ (hat w2 _ _ hw2), hset w2 _ _ hw2⟩
      simp [Instr.entryStore, MapKept.run_getObj_map hw2, asInt, asIntOf, hidx, hmod, MapKept.run_setObj_map _ hw2, Result.andThen, setBlock]
  · have hj : es[j]? = some e0 := by simpa using h2
    have hsame : es.modify j (fun y => { y with key := key }) = es := by
      refine Array.ext' ?_
      rw [Array.toList_modify]
      apply List.ext_getElem?
      intro i
      rw [List.getElem?_modify]
      by_cases hi : j = i
      · subst hi
        rw [h2, ← h3]
        simp
      · simp [hi]
    have hv0 : e0.val = (S kl).getD z := hlk e0.val (by simp [Instr.lookup, run_underlying ht, MapKept.run_getObj_map hb, K.check w _ hkey, h1, Result.andThen])
    refine ⟨e0.born, .map es clock, setBlock w B (.map es clock), ?_, hat w _ _ hb, ⟨_, _, rfl⟩, hset w _ _ hb, fun w2 val hw2 => ?_⟩
    · rw [← hv0]
      simp [Instr.mapEntry, run_underlying ht, MapKept.run_getObj_map hb, K.check w false hkey, h1, hj, h3, K.stays w hkey, hsame, MapKept.run_setObj_map _ hb, Result.andThen, setBlock, goInt]
    · obtain ⟨es', clock', g1, g2⟩ := store val
      have hup : (Instr.mapUpdate t (.map (some B)) key val).run P w = .ok () (setBlock w B (.map (es.modify j (fun y => { y with key := key, val := val })) clock)) := by
        simp [Instr.mapUpdate, run_underlying ht, MapKept.run_getObj_map hb, K.check w false hkey, h1, hj, h3, K.stays w hkey, MapKept.run_setObj_map _ hb, Result.andThen, setBlock]
      rw [hup] at g1
      have hE : es' = es.modify j (fun y => { y with key := key, val := val }) ∧ clock' = clock := by
        have h9 := congrArg (fun r : Result Unit => match r with | .ok _ u => u.heap[B]? | _ => none) g1
        simp only [hat w _ _ hb] at h9
        cases h9
        exact ⟨rfl, rfl⟩
      obtain ⟨rfl, hcl⟩ := hE
      rw [hcl] at g2
      have hidx : es.findIdx? (fun y => ((y.born : Nat) : Int) == ((e0.born : Nat) : Int)) = some j := by
        rw [findIdx_list]
        exact find_stamp s2 h2
      have hmod : es.modify j (fun y => { y with val := val }) = es.modify j (fun y => { y with key := key, val := val }) := by
        refine Array.ext' ?_
        rw [Array.toList_modify, Array.toList_modify]
        apply List.ext_getElem?
        intro i
        rw [List.getElem?_modify, List.getElem?_modify]
        by_cases hi : j = i
        · subst hi
          rw [h2]
          simp [h3]
        · simp [hi]
      refine ⟨setBlock w2 B (.map (es.modify j (fun y => { y with key := key, val := val })) clock), ?_, g2 _ (hat w2 _ _ hw2), hset w2 _ _ hw2⟩
      simp [Instr.entryStore, MapKept.run_getObj_map hw2, asInt, asIntOf, hidx, hmod, MapKept.run_setObj_map _ hw2, Result.andThen, setBlock]
end
end Go.Proofs.YtcmhgpgookiomaaGreat
namespace Go.Proofs.YtcmhgpgookiomaaGreat
open Go.RowKit Go.Shelf Go.Maps

attribute [local go_sem] Oper.semAt_some

theorem u8v_inj {x y : UInt8} (h : u8v x = u8v y) : x = y := by
  unfold u8v at h
  simp only [Value.int.injEq, true_and] at h
  exact UInt8.toNat_inj.1 (by omega)
theorem map_u8v_inj : ∀ {l l' : By}, l.map u8v = l'.map u8v → l = l'
  | [], [], _ => rfl
  | [], _ :: _, h => by simp at h
  | _ :: _, [], h => by simp at h
  | x :: l, y :: l', h => by
    simp only [List.map_cons, List.cons.injEq] at h
    rw [u8v_inj h.1, map_u8v_inj h.2]
theorem strV_inj {x y : By} (h : (Value.string ⟨x.toArray⟩) = .string ⟨y.toArray⟩) : x = y := by
  simpa using h
theorem askV_inj {kek k kek' k' : By} (h1 : kek.length = 32) (h2 : kek'.length = 32) (h : askV kek k = askV kek' k') : kek = kek' ∧ k = k' := by
  have h := congrArg Array.toList (Value.agg.inj h)
  unfold askC at h
  simp only [List.append_assoc] at h
  obtain ⟨_, h4⟩ := List.append_inj h rfl
  obtain ⟨h5, h6⟩ := List.append_inj h4 (by simp [h1, h2])
  refine ⟨map_u8v_inj h5, strV_inj ?_⟩
  simpa using h6
theorem givenV_inj {kek k kek' k' : By} (h1 : kek.length = 32) (h2 : kek'.length = 32) (h : givenV kek k = givenV kek' k') : kek = kek' ∧ k = k' := by
  have h := congrArg Array.toList (Value.agg.inj h)
  unfold givenC at h
  obtain ⟨h5, h6⟩ := List.append_inj h (by simp [h1, h2])
  refine ⟨map_u8v_inj h5, strV_inj ?_⟩
  simpa using h6
theorem ans_put {f : By → By → Option By} {S : Lit → Option Value} {kek k ct : By} {l0 : Lit} (hk : kek.length = 32)
    (hS : ∀ kek k l, kek.length = 32 → k.length = 32 → keyOf Tryz.prog 216 (askV kek k) = some l → S l = (f kek k).map strV) (h0 : keyOf Tryz.prog 216 (askV kek k) = some l0) :
    ∀ kek' k' l, kek'.length = 32 → k'.length = 32 → keyOf Tryz.prog 216 (askV kek' k') = some l → updS S l0 (some (strV ct)) l = (upd2 f kek k ct kek' k').map strV := fun kek' k' l q1 q2 q3 => by
  unfold upd2
  by_cases e : kek' = kek ∧ k' = k
  · obtain ⟨rfl, rfl⟩ := e
    rw [h0] at q3
    cases q3
    rw [if_pos ⟨rfl, rfl⟩, updS_same]
    rfl
  · rw [if_neg e, updS_other _ _ (fun hl => e (by subst hl; exact askV_inj q1 hk (law_ask.inj q3 h0)))]
    exact hS _ _ _ q1 q2 q3
theorem pl_put {f : By → By → Option By} {S : Lit → Option Value} {kek k ct : By} {l0 : Lit} (hk : kek.length = 32)
    (hS : ∀ kek ct l, kek.length = 32 → ct.length = 108 → keyOf Tryz.prog 189 (givenV kek ct) = some l → S l = (f kek ct).map strV) (h0 : keyOf Tryz.prog 189 (givenV kek ct) = some l0) :
    ∀ kek' ct' l, kek'.length = 32 → ct'.length = 108 → keyOf Tryz.prog 189 (givenV kek' ct') = some l → updS S l0 (some (strV k)) l = (upd2 f kek ct k kek' ct').map strV := fun kek' k' l q1 q2 q3 => by
  unfold upd2
  by_cases e : kek' = kek ∧ k' = ct
  · obtain ⟨rfl, rfl⟩ := e
    rw [h0] at q3
    cases q3
    rw [if_pos ⟨rfl, rfl⟩, updS_same]
    rfl
  · rw [if_neg e, updS_other _ _ (fun hl => e (by subst hl; exact givenV_inj q1 hk (law_given.inj q3 h0)))]
    exact hS _ _ _ q1 q2 q3

/-- Bytes in a block of bytes. -/
def InBytes (w : World) (a : Option Addr) : Prop := ∀ p, a = some p → ∃ cur fr, w.heap[p.block]? = some (.cells cur 5 fr)
theorem InBytes.keep {X : Nat → Obj → Prop} {w w' : World} {a : Option Addr} (h : InBytes w a) (hk : Keep X w w') (hX : ∀ k cur fr, ¬ X k (.cells cur 5 fr)) : InBytes w' a := fun p hp => by
  obtain ⟨cur, fr, hc⟩ := h p hp
  exact ⟨cur, fr, hk.block _ _ hc (hX _ _ _)⟩
theorem InBytes.of_own {w : World} {base n : Nat} {a : Option Addr} {c : Nat} {xs : List Value} (h : w.ownsRow base 5 1 (.slice a n c) n xs) : InBytes w a := fun p hp => by
  rcases h.2 with ⟨h1, _⟩ | ⟨g, cap, cur, h1, _, hg, _⟩
  · simp only [Value.slice.injEq] at h1
    rw [h1.1] at hp; cases hp
  · simp only [Value.slice.injEq] at h1
    rw [h1.1] at hp; cases hp
    exact ⟨cur, _, hg⟩
theorem SuiteX.bytes {TB A PL k : Nat} {cur : Array Value} {fr : Nat × Nat} : ¬ SuiteX TB A PL k (.cells cur 5 fr) := fun h => by
  rcases h with ⟨_, _, h⟩ | ⟨_, _, _, h⟩ <;> cases h
theorem SuiteX.cells {TB A PL k : Nat} {cur : Array Value} {t : TypeId} {fr : Nat × Nat} (ht : t ≠ 69) : ¬ SuiteX TB A PL k (.cells cur t fr) := fun h => by
  rcases h with ⟨_, _, h⟩ | ⟨_, _, _, h⟩
  · cases h; exact ht rfl
  · cases h
theorem TapeX.cells {TB k : Nat} {cur : Array Value} {t : TypeId} {fr : Nat × Nat} (ht : t ≠ 69) : ¬ TapeX TB k (.cells cur t fr) := fun h => by
  obtain ⟨_, _, h⟩ := h; cases h; exact ht rfl
theorem KMap.isMap {P : Program} {k : TypeId} {w : World} {B n : Nat} {S : Lit → Option Value} (h : KMap P k w B n S) : ∃ es c, w.heap[B]? = some (.map es c) := by
  obtain ⟨D, ⟨es, clock, hb, _⟩, _⟩ := h
  exact ⟨es, clock, hb⟩
theorem KMap.keepPut {P : Program} {k : TypeId} {w w' : World} {B n : Nat} {S : Lit → Option Value} (h : KMap P k w B n S) (hg : w.grownBy w' (some B)) : Keep (fun k o => k = B ∧ ∃ es c, o = .map es c) w w' :=
  Keep.of_grownBy hg (fun k o hk ho => by
    cases hk
    obtain ⟨es, c, hb⟩ := h.isMap
    rw [hb] at ho; cases ho
    exact ⟨rfl, es, c, rfl⟩)
theorem info_ask : (Tryz.prog.info? 216).map (·.size) = some 35 := by kernel_rfl

set_option maxRecDepth 20000 in
set_option maxHeartbeats 4000000 in
theorem ideal_any {w : World} {Q TB A PL : Nat} {s : SSt} (h : SuiteAt w Q TB A PL s) (kek k : By) (hk : kek.length = 32) (hk2 : k.length = 32) :
    Calls Tryz.prog 125 #[.pointer (some ⟨Q, 0, none⟩), askV kek k, .int .i64 108] w fun e w' =>
      (wrapP s kek k = none → e = .returned (.tuple #[.slice none 0 0, .int .i64 60]) ∧ Ext w w') ∧
      (∀ ct s', wrapP s kek k = some (ct, s') → ∃ a c, e = .returned (.tuple #[.slice a 108 c, .int .i64 0]) ∧ Row 1 w' a 108 c (ct.map u8v) ∧ InBytes w' a ∧ SuiteAt w' Q TB A PL s' ∧ Keep (SuiteX TB A PL) w w') := by
  obtain ⟨b3, b4, hb⟩ := h.box
  obtain ⟨v, ht⟩ := h.tape
  obtain ⟨S, n, p1, p2, p3⟩ := h.ans
  obtain ⟨S', n', g1, g2, g3⟩ := h.pl
  obtain ⟨kl, hkl⟩ := ask_lit kek k hk (by omega)
  have hSv := p3 kek k kl hk hk2 hkl
  have hla := h.la kek k
  have hlt := h.lt
  obtain ⟨C, hC⟩ : ∃ C, askC kek k = C := ⟨_, rfl⟩
  have hCl : C.length = 35 := by rw [← hC]; simp [askC, hk]
  have hik := Lib.hid (show (Tryz.prog.info? 216).map (·.size) = some C.toArray.size by rw [info_ask, List.size_toArray, hCl])
  have hav : askV kek k = .agg C.toArray := by unfold askV; rw [hC]
  have hlook := fun A' (hE : Ext w A') => (p1.ext hE).look law_ask Tryz.underlying61 (zero_str A') hkl
  rw [hSv, hav] at hlook
  obtain ⟨op, hop⟩ : ∃ o, s.ans kek k = o := ⟨_, rfl⟩
  rw [hop] at hlook hla
  obtain ⟨V, hV⟩ : ∃ V, (op.map strV).getD (.string ⟨#[]⟩) = V := ⟨_, rfl⟩
  obtain ⟨bb, hbb⟩ : ∃ b, (op.map strV).isSome = b := ⟨_, rfl⟩
  rw [hV, hbb] at hlook
  have HV := Lib.hid hV
  have HBb := Lib.hid hbb
  have HOP := Lib.hid hop
  have HLA := Lib.hid hla
  have HLK := Lib.hid hlook
  have HB := Lib.hid hb
  have HT := Lib.hid ht
  have HH := Lib.hid h
  have HC := Lib.hid hC
  have HKL := Lib.hid hkl
  rw [hav]
  have HAV := Lib.hid hav
  have P1 := Lib.hid p1
  have G1 := Lib.hid g1
  have P3 := Lib.hid p3
  have G3 := Lib.hid g3
  clear hV hbb hop hla hlook hb ht h hSv p1 g1 hkl hC hav hCl p3 g3
  refine calls_cps fun R hR => ?_
  have HR := Lib.hid hR
  clear hR
  go_enter Tryz.func125, Tryz.ntmps125
  obtain ⟨w1, hw1⟩ : ∃ w1, w.alloc (.cells C.toArray 216) = w1 := ⟨_, rfl⟩
  have e1 : Ext w w1 := by rw [← hw1]; exact (Keep.refl _ w).alloc _
  have bK : Arr w1 w.heap.size 216 C := by rw [← hw1]; exact Arr.new w _ C
  have HW := Lib.hid hw1
  clear hw1
  have c2' := fun g : At w1.drew => Ext.cell ((e1.drew).trans g.ext) (HB.out.cell (i := 2) rfl)
  go_wp2_with fail
  rw [HW.out]
  refine wp_flow (fun _ => .reads) (by kernel_rfl) (by kernel_rfl) ?_
  iterate 4 (refine flow_r rfl rfl ?_; go_big_quiet_step (fail); refine wpQuiet_nil ?_)
  refine flow_v (v := .agg C.toArray) rfl rfl (fun w' hE => exec_load_row rfl rfl (((((Keep.refl _ w1).drew).trans hE)).block _ _ bK (fun h => h)) Tryz.underlying216 rfl hik.out) ?_
  simp only [Act.put, List.setIfInBounds_toArray, List.set_cons_succ, List.set_cons_zero]
  refine flow_v rfl rfl (fun w' hE => exec_lookup' rfl (HLK.out w' ((e1.drew).trans hE))) ?_
  simp only [Act.put, List.setIfInBounds_toArray, List.set_cons_succ, List.set_cons_zero]
  iterate 5 (refine flow_r rfl rfl ?_; go_big_quiet_step (fail); refine wpQuiet_nil ?_)
  refine flow_end (fun w9 hE9 _ => ?_)
  have e9 : Ext w1 w9 := ((Keep.refl _ w1).drew).trans hE9
  have E9 : Ext w w9 := e1.trans e9
  have bK9 := bK.ext e9
  clear c2' HLK hE9 HW e9 e1 bK
  cases bb with
  | true =>
    obtain ⟨out, rfl⟩ : ∃ k, op = some k := by cases op; exact absurd HBb.out (by simp); exact ⟨_, rfl⟩
    have hol := HLA.out out rfl
    have hVk : V = .string ⟨out.toArray⟩ := by rw [← HV.out]; rfl
    subst hVk
    obtain ⟨c, w', hrun, hrow, hE', hfr⟩ := bytes_row w9 out (by omega)
    have hw : wrapP s kek k = some (out, s) := by unfold wrapP; rw [HOP.out]
    rw [hol] at hrun hrow
    have hRR := HR.out (.returned (.tuple #[.slice (some ⟨w9.heap.size, 0, none⟩) 108 c, .int .i64 0])) w' ⟨fun h => (by rw [hw] at h; cases h), fun ct s' h => (by
      rw [hw] at h; cases h
      exact ⟨_, _, rfl, hrow, fun p hp => (by cases hp; obtain ⟨cur, fr, hf⟩ := hfr; exact ⟨cur, fr, hf⟩), HH.out.ext (E9.trans hE'), Keep.of_ext (E9.trans hE')⟩)⟩
    clear HR hrow hE' hw
    go_wp2
    exact hRR
  | false =>
    obtain rfl : op = none := by cases op; rfl; exact absurd HBb.out (by simp)
    have hT9 := HT.out.ext E9
    have tk := take_any hT9 108 (by omega) (by omega) (by omega)
    have c1 := Ext.cell E9 (HB.out.cell (i := 1) rfl)
    by_cases hlo : s.tape.length < 108
    · have hw : wrapP s kek k = none := by unfold wrapP; rw [HOP.out]; simp only; rw [if_pos hlo]
      have hRR := HR.out (.returned (.tuple #[.slice none 0 0, .int .i64 60])) w9 ⟨fun _ => ⟨rfl, E9⟩, fun ct s' h => (by rw [hw] at h; cases h)⟩
      clear HR hw
      go_wp2_with fail
      refine tk.mono ?_
      rintro e w' ⟨t1, _⟩
      obtain ⟨rfl, rfl⟩ := t1 hlo
      clear t1 tk
      go_wp2
      exact hRR
    · obtain ⟨ct, hct⟩ : ∃ ct, s.tape.take 108 = ct := ⟨_, rfl⟩
      have hctl : ct.length = 108 := by rw [← hct, List.length_take]; omega
      have hw : wrapP s kek k = some (ct, ⟨s.tape.drop 108, upd2 s.ans kek k ct, upd2 s.pl kek ct k⟩) := by unfold wrapP; rw [HOP.out]; simp only; rw [if_neg hlo, hct]
      obtain ⟨gl, hgl⟩ := given_lit kek ct hk (by omega)
      have HGL := Lib.hid hgl
      clear hgl
      have HW := Lib.hid hw
      have HCT := Lib.hid hct
      go_wp2_with fail
      refine tk.mono ?_
      rintro e w2 ⟨_, t2⟩
      obtain ⟨a, c, v', rfl, hown, hT2, e2⟩ := t2 (by omega)
      rw [hct] at hown
      obtain ⟨_, _, q, hrow⟩ := owns_row hown
      cases q
      have hib := InBytes.of_own hown
      have hX2 : ∀ k es c, ¬ TapeX TB k (.map es c) := fun k es c h => by obtain ⟨_, _, h⟩ := h; cases h
      have hB2 : Arr w2 Q 67 (suiteC TB A PL b3 b4) := (HB.out.ext E9).keep e2 (TapeX.cells (by decide))
      have bK2 := bK9.keep e2 (TapeX.cells (by decide))
      have hA2 := (P1.out.ext E9).block e2 (hX2 A)
      have hP2 := (G1.out.ext E9).block e2 (hX2 PL)
      have c2' := fun g : At w2.drew => Ext.cell (((Keep.refl _ w2).drew).trans g.ext) (hB2.cell (i := 2) rfl)
      clear tk t2 hown
      go_wp2_with fail
      refine wp_flow (fun n => if n = 7 then .last else .reads) (by kernel_rfl) (by kernel_rfl) ?_
      iterate 4 (refine flow_r rfl rfl ?_; go_big_quiet_step (fail); refine wpQuiet_nil ?_)
      refine flow_v (v := .agg C.toArray) rfl rfl (fun w' hE => exec_load_row rfl rfl (((((Keep.refl _ w2).drew).trans hE)).block _ _ bK2 (fun h => h)) Tryz.underlying216 rfl hik.out) ?_
      simp only [Act.put, List.setIfInBounds_toArray, List.set_cons_succ, List.set_cons_zero]
      refine flow_r rfl rfl ?_; go_big_quiet_step (fail); refine wpQuiet_nil ?_
      refine flow_v rfl rfl (fun w' hE => exec_convert' rfl (run_string_row (P := Tryz.prog) w' 26 9 5 Tryz.underlying26 Tryz.underlying5 Tryz.underlying9 (hrow.ext (((Keep.refl _ w2).drew).trans hE)))) ?_
      simp only [Act.put, List.setIfInBounds_toArray, List.set_cons_succ, List.set_cons_zero]
      refine flow_l rfl (by kernel_rfl) (fun w3 hE3 _ => ?_)
      have e3 : Ext w2 w3 := ((Keep.refl _ w2).drew).trans hE3
      obtain ⟨w4, hrun4, hA4, hg4⟩ := (hA2.ext e3).put law_ask Tryz.underlying61 (by unfold maxLen; omega) (v := strV ct) HKL.out
      have k4 := (hA2.ext e3).keepPut hg4
      refine wpList_skipw (exec_mapUpdate' rfl (by rw [HAV.out] at hrun4; exact hrun4)) rfl ?_
      have hXm : ∀ (B k : Nat) (cur : Array Value) (t : TypeId) (fr : Nat × Nat), ¬ (k = B ∧ ∃ es c, Obj.cells cur t fr = .map es c) := fun B k cur t fr h => by obtain ⟨_, _, _, h⟩ := h; cases h
      have hB4 : Arr w4 Q 67 (suiteC TB A PL b3 b4) := (hB2.ext e3).keep k4 (hXm _ _ _ _ _)
      have bK4 := (bK2.ext e3).keep k4 (hXm _ _ _ _ _)
      have hP4 := (hP2.ext e3).block k4 (fun es c h => HH.out.ne h.1.symm)
      have hT4 := (hT2.ext e3).keep k4 (fun _ => hXm _ _ _ _ _) (fun _ _ => hXm _ _ _ _ _)
      have hrow4 := (hrow.ext e3).keep k4 (fun p o hp ho _ hx => by
        obtain ⟨_, es, cc, rfl⟩ := hx
        obtain ⟨cur, fr, hc⟩ := hib p hp
        rw [show w3.heap[p.block]? = _ from e3.block _ _ hc (fun h => h)] at ho
        cases ho)
      have hib4 := (hib.keep e3 (fun _ _ _ h => h)).keep k4 (fun _ _ _ => hXm _ _ _ _ _)
      have K24 : Keep (SuiteX TB A PL) w9 w4 := ((e2.mono (fun _ _ _ h => .inl h)).trans (Keep.of_ext e3)).trans (k4.mono (fun _ _ _ h => .inr ⟨.inl h.1, h.2⟩))
      have hc0 : C[0]? = some (.int .i64 2) := by rw [← HC.out]; rfl
      have hc33 : C[33]? = some (.string ⟨#[119, 114, 97, 112]⟩) := by rw [← HC.out]; simp [askC, hk]
      have hc34 : C[34]? = some (.string ⟨k.toArray⟩) := by rw [← HC.out]; simp [askC, hk]
      obtain ⟨O, hO⟩ : ∃ O, kek.map u8v = O := ⟨_, rfl⟩
      have hOl : O.length = 32 := by rw [← hO, List.length_map, hk]
      have hmid : (C.drop 1).take 32 = O := by rw [← HC.out, ← hO]; simp [askC, hk]
      have hCl : C.length = 35 := by rw [← HC.out]; simp [askC, hk]
      have hbg := fun w => build_given O hOl ⟨#[119, 114, 97, 112]⟩ ⟨ct.toArray⟩ w
      have HG := Lib.hid (show givenV kek ct = .agg (O ++ [Value.string ⟨#[119, 114, 97, 112]⟩, Value.string ⟨ct.toArray⟩]).toArray by unfold givenV givenC; rw [hO])
      have HKI := Lib.hid (show (Tryz.prog.info? 51).map (·.size) = some O.length by rw [info_key, hOl])
      have hld := fun w' (hE : Ext w4 w') => (bK4.ext hE).loads_mid (P := Tryz.prog) (off := 1) (n := 32) (by omega)
      rw [hmid, ← hOl] at hld
      have c0 := bK4.cell (i := 0) hc0
      have c3' := fun g : At w4.drew => Ext.cell (((Keep.refl _ w4).drew).trans g.ext) (hB4.cell (i := 3) rfl)
      have c33' := fun g : At w4.drew => Ext.cell (((Keep.refl _ w4).drew).trans g.ext) (bK4.cell (i := 33) hc33)
      have c34' := fun g : At w4.drew => Ext.cell (((Keep.refl _ w4).drew).trans g.ext) (bK4.cell (i := 34) hc34)
      have HLD := Lib.hid hld
      have HBG := Lib.hid hbg
      have HXm := Lib.hid hXm
      have HX2 := Lib.hid hX2
      clear c2' k4 hg4 hA2 hP2 hrow hib bK2 hB2 hT2 e3 hE3 hrun4 hld hbg hXm hX2 hc0 hc33 hc34 hO hOl hmid hCl
      go_wp2_with fail
      refine wp_flow (fun n => if n = 13 then .last else .reads) (by kernel_rfl) (by kernel_rfl) ?_
      iterate 5 (refine flow_r rfl rfl ?_; go_big_quiet_step (fail); refine wpQuiet_nil ?_)
      refine flow_v (v := .agg O.toArray) rfl rfl (fun w' hE => exec_load_mid' rfl rfl (HLD.out w' (((Keep.refl _ w4).drew).trans hE)) Tryz.underlying51 rfl HKI.out) ?_
      simp only [Act.put, List.setIfInBounds_toArray, List.set_cons_succ, List.set_cons_zero]
      iterate 3 (refine flow_r rfl rfl ?_; go_big_quiet_step (fail); refine wpQuiet_nil ?_)
      refine flow_v rfl rfl (fun w' hE => exec_convert' rfl (run_string_row (P := Tryz.prog) w' 26 9 5 Tryz.underlying26 Tryz.underlying5 Tryz.underlying9 (hrow4.ext (((Keep.refl _ w4).drew).trans hE)))) ?_
      simp only [Act.put, List.setIfInBounds_toArray, List.set_cons_succ, List.set_cons_zero]
      refine flow_v rfl rfl (fun w' hE => exec_build3 rfl rfl rfl rfl (HBG.out w')) ?_
      simp only [Act.put, List.setIfInBounds_toArray, List.set_cons_succ, List.set_cons_zero]
      iterate 2 (refine flow_r rfl rfl ?_; go_big_quiet_step (fail); refine wpQuiet_nil ?_)
      refine flow_l rfl (by kernel_rfl) (fun w5 hE5 _ => ?_)
      have e5 : Ext w4 w5 := ((Keep.refl _ w4).drew).trans hE5
      obtain ⟨w6, hrun6, hP6, hg6⟩ := (hP4.ext e5).put law_given Tryz.underlying62 (by unfold maxLen; omega) (v := strV k) HGL.out
      have k6 := (hP4.ext e5).keepPut hg6
      refine wpList_skipw (exec_mapUpdate' rfl (by rw [HG.out] at hrun6; exact hrun6)) rfl ?_
      have hA6 := (hA4.ext e5).block k6 (fun es c h => HH.out.ne h.1)
      have hB6 : Arr w6 Q 67 (suiteC TB A PL b3 b4) := (hB4.ext e5).keep k6 (HXm.out _ _ _ _ _)
      have hT6 := (hT4.ext e5).keep k6 (fun _ => HXm.out _ _ _ _ _) (fun _ _ => HXm.out _ _ _ _ _)
      have hrow6 := (hrow4.ext e5).keep k6 (fun p o hp ho _ hx => by
        obtain ⟨_, es, cc, rfl⟩ := hx
        obtain ⟨cur, fr, hc⟩ := hib4 p hp
        rw [show w5.heap[p.block]? = _ from e5.block _ _ hc (fun h => h)] at ho
        cases ho)
      have hib6 := (hib4.keep e5 (fun _ _ _ h => h)).keep k6 (fun _ _ _ => HXm.out _ _ _ _ _)
      have K6 : Keep (SuiteX TB A PL) w w6 := (Keep.of_ext E9).trans ((K24.trans (Keep.of_ext e5)).trans (k6.mono (fun _ _ _ h => .inr ⟨.inr h.1, h.2⟩)))
      have hdl : (s.tape.drop 108).length = s.tape.length - 108 := List.length_drop
      have hS6 : SuiteAt w6 Q TB A PL ⟨s.tape.drop 108, upd2 s.ans kek k ct, upd2 s.pl kek ct k⟩ :=
        ⟨⟨b3, b4, hB6⟩, ⟨v', hT6⟩, ⟨_, n + 1, hA6, by simp only [hdl]; omega, ans_put hk P3.out HKL.out⟩, ⟨_, n' + 1, hP6, by simp only [hdl]; omega, pl_put hk G3.out HGL.out⟩, HH.out.ne,
          fun kek' k' ct' hh => (by
            change upd2 s.ans kek k ct kek' k' = some ct' at hh
            unfold upd2 at hh
            split at hh
            · cases hh; exact hctl
            · exact HH.out.la _ _ _ hh),
          fun kek' ct' k' hh => (by
            change upd2 s.pl kek ct k kek' ct' = some k' at hh
            unfold upd2 at hh
            split at hh
            · cases hh; exact hk2
            · exact HH.out.lp _ _ _ hh), by simp only [hdl]; omega⟩
      have hRR := HR.out (.returned (.tuple #[.slice a 108 c, .int .i64 0])) w6 ⟨fun h => (by rw [HW.out] at h; cases h), fun ct' s' h => (by
        rw [HW.out] at h; cases h
        exact ⟨a, c, rfl, hrow6, hib6, hS6, K6⟩)⟩
      clear HR hS6 K6 hib6 hrow6 hT6 hB6 hA6 hP6 k6 hg6 hrun6 e5 hE5 c0 c3' c33' c34' HLD HBG hP4 hT4 hB4 bK4 hA4 hrow4 hib4 K24 bK9 hT9 c1 e2
      go_wp2
      exact hRR
end Go.Proofs.YtcmhgpgookiomaaGreat
namespace Go.Proofs.YtcmhgpgookiomaaGreat
open Go.RowKit Go.Shelf Go.Maps

attribute [local go_sem] Oper.semAt_some

theorem exec_build4 {P : Program} {w : World} {o : Oper} {a : Act} {t : TypeId} {i0 i1 i2 i3 : Nat} {x0 x1 x2 x3 : Operand} {v0 v1 v2 v3 v : Value} (ho : o.op = .build t #[(i0, x0), (i1, x1), (i2, x2), (i3, x3)]) (h0 : a.eval x0 = v0) (h1 : a.eval x1 = v1) (h2 : a.eval x2 = v2) (h3 : a.eval x3 = v3)
    (h : (Instr.build t #[(i0, v0), (i1, v1), (i2, v2), (i3, v3)]).run P w = .ok v w) : (execOp a.eval o).run P w = .ok (.value v) w := by
  unfold execOp
  simp [ho, h0, h1, h2, h3, h, Result.andThen]

set_option maxRecDepth 20000 in
set_option maxHeartbeats 4000000 in
theorem seal_any {w : World} {Q TB A PL : Nat} {s : SSt} (h : SuiteAt w Q TB A PL s) (kek k : By) (hk : kek.length = 32) (hk2 : k.length = 32) (a1 a2 : Option Addr) (c1 c2 : Nat) (r1 : Row 1 w a1 4 c1 (wrapS.map u8v)) (r2 : Row 1 w a2 32 c2 (k.map u8v)) :
    Calls Tryz.prog 107 #[.pointer (some ⟨Q, 0, none⟩), aggK kek, .slice a1 4 c1, .slice a2 32 c2] w fun e w' =>
      (wrapP s kek k = none → e = .returned (.tuple #[.slice none 0 0, .int .i64 60]) ∧ Ext w w') ∧
      (∀ ct s', wrapP s kek k = some (ct, s') → ∃ a c, e = .returned (.tuple #[.slice a 108 c, .int .i64 0]) ∧ Row 1 w' a 108 c (ct.map u8v) ∧ InBytes w' a ∧ SuiteAt w' Q TB A PL s' ∧ Keep (SuiteX TB A PL) w w') := by
  obtain ⟨b3, b4, hb⟩ := h.box
  have hok := fun A' (hE : Ext w A') => sok_any (h.ext hE)
  have hid := fun A' (hE : Ext w A') => ideal_any (h.ext hE) kek k hk hk2
  have hpt := fun A' (hE : Ext w A') => put32_any a2 c2 k A' (r2.ext hE)
  obtain ⟨O, hO⟩ : ∃ O, kek.map u8v = O := ⟨_, rfl⟩
  have hOl : O.length = 32 := by rw [← hO, List.length_map, hk]
  have hik := Lib.hid (show (Tryz.prog.info? 51).map (·.size) = some O.toArray.size by rw [info_key, List.size_toArray, hOl])
  have hbg := fun w => build_ask O hOl ⟨#[119, 114, 97, 112]⟩ ⟨k.toArray⟩ w
  have hav : askV kek k = .agg ([Value.int .i64 2] ++ O ++ [Value.string ⟨#[119, 114, 97, 112]⟩, Value.string ⟨k.toArray⟩]).toArray := by unfold askV askC; rw [hO]
  rw [← hav] at hbg
  obtain ⟨G, hG⟩ : ∃ G, askV kek k = G := ⟨_, rfl⟩
  rw [hG] at hbg hid
  have HBG := Lib.hid hbg
  have HB := Lib.hid hb
  have R1 := Lib.hid r1
  have R2 := Lib.hid r2
  have HID := Lib.hid hid
  have HPT := Lib.hid hpt
  unfold aggK
  rw [hO]
  clear hav hG hbg hOl hO r1 r2 hb h hid hpt
  refine calls_cps fun R hR => ?_
  have HR := Lib.hid hR
  clear hR
  go_enter Tryz.func107, Tryz.ntmps107
  obtain ⟨w1, hw1⟩ : ∃ w1, w.alloc (.cells O.toArray 51) = w1 := ⟨_, rfl⟩
  have e1 : Ext w w1 := by rw [← hw1]; exact (Keep.refl _ w).alloc _
  have bK : Arr w1 w.heap.size 51 O := by rw [← hw1]; exact Arr.new w _ O
  have HW := Lib.hid hw1
  clear hw1
  go_wp2_with fail
  rw [HW.out]
  refine (hok w1 e1).mono ?_
  rintro e w1' ⟨rfl, hw1'⟩
  subst hw1'
  clear hok
  go_wp2_with fail
  refine (HPT.out w1' e1).mono ?_
  rintro e w2 ⟨a', c', rfl, e2⟩
  have E2 := e1.trans e2
  have bK2 := bK.ext e2
  have c0 := Ext.cell E2 (HB.out.cell (i := 0) rfl)
  have s1 := run_string_row (P := Tryz.prog) w2 26 9 5 Tryz.underlying26 Tryz.underlying5 Tryz.underlying9 (R1.out.ext E2)
  have s2 := run_string_row (P := Tryz.prog) w2 26 9 5 Tryz.underlying26 Tryz.underlying5 Tryz.underlying9 (R2.out.ext E2)
  have S1 := Lib.hid s1
  have S2 := Lib.hid s2
  clear s1 s2
  go_wp2_with (first
    | (refine wpList_val (o := ⟨some 36, _, _, _, _, _⟩) (v := .agg O.toArray) ?_ ?_ ?_; exact exec_load_row rfl rfl bK2 Tryz.underlying51 rfl hik.out; rfl)
    | (refine wpList_val (o := ⟨some 38, _, _, _, _, _⟩) (v := .string ⟨#[119, 114, 97, 112]⟩) ?_ ?_ ?_; exact exec_convert' rfl S1.out; rfl)
    | (refine wpList_val (o := ⟨some 40, _, _, _, _, _⟩) (v := .string ⟨k.toArray⟩) ?_ ?_ ?_; exact exec_convert' rfl S2.out; rfl)
    | (refine wpList_val (o := ⟨some 41, _, _, _, _, _⟩) (v := G) ?_ ?_ ?_; exact exec_build4 rfl rfl rfl rfl rfl (HBG.out _); rfl)
    | fail)
  refine (HID.out w2 E2).mono ?_
  rintro e w3 ⟨hlo, hhi⟩
  cases hw : wrapP s kek k with
  | none =>
    obtain ⟨rfl, e3⟩ := hlo hw
    have hRR := HR.out (.returned (.tuple #[.slice none 0 0, .int .i64 60])) w3 ⟨fun _ => ⟨rfl, E2.trans e3⟩, fun ct s' h => (by rw [hw] at h; cases h)⟩
    clear HR hlo hhi hw
    go_wp2
    exact hRR
  | some x =>
    obtain ⟨ct, s'⟩ := x
    obtain ⟨a, c, rfl, h1, h2, h3, h4⟩ := hhi ct s' hw
    have hRR := HR.out (.returned (.tuple #[.slice a 108 c, .int .i64 0])) w3 ⟨fun h => (by rw [hw] at h; cases h), fun ct' s'' h => (by rw [hw] at h; cases h; exact ⟨a, c, rfl, h1, h2, h3, (Keep.of_ext E2).trans h4⟩)⟩
    clear HR hlo hhi hw h1 h2 h3 h4
    go_wp2
    exact hRR
end Go.Proofs.YtcmhgpgookiomaaGreat
namespace Go.Proofs.YtcmhgpgookiomaaGreat
open Go.RowKit Go.Shelf Go.Maps

attribute [local go_sem] Oper.semAt_some

/-- What Wrap turns: the suite, and bytes of its own. -/
def WrapX (n TB A PL : Nat) (k : Nat) (o : Obj) : Prop := SuiteX TB A PL k o ∨ (n ≤ k ∧ ∃ cur fr, o = .cells cur 5 fr)
theorem WrapX.cells {n TB A PL k : Nat} {cur : Array Value} {t : TypeId} {fr : Nat × Nat} (ht : t ≠ 69) (ht2 : t ≠ 5) : ¬ WrapX n TB A PL k (.cells cur t fr) := fun h => by
  rcases h with h | ⟨_, _, _, h⟩
  · exact SuiteX.cells ht h
  · cases h; exact ht2 rfl

/-- '[]byte("wrap")': the bytes' block is marked. -/
theorem conv_mark (w : World) (b : Nat) (C : List Value) (n c : Nat) (hb : w.heap[b]? = some (.cells C.toArray 5 (0, 0))) :
    ∃ w', (convert 26 26 (.slice (some ⟨b, 0, none⟩) n c)).run Tryz.prog w = .ok (.slice (some ⟨b, 0, none⟩) n c) w' ∧ Keep (fun k o => k = b ∧ o = .cells C.toArray 5 (0, 0)) w w' ∧ w'.heap[b]? = some (.cells C.toArray 5 (C.length, C.length + 1)) := by
  have hsh : w.shape? b = some (5, C.toArray.size) := by unfold World.shape?; rw [hb]
  refine ⟨w.freeze ⟨b, C.toArray.size, none⟩ 1, ?_, ⟨rfl, rfl, rfl, ?_, fun k o ho hx => ?_⟩, ?_⟩
  · simp [convert, run_underlying Tryz.underlying26, run_underlying Tryz.underlying5, markStringish, hsh]
  · simp [World.freeze]
  · have hne : k ≠ b := fun e => by
      subst e
      rw [hb] at ho
      exact hx ⟨rfl, (Option.some.inj ho).symm⟩
    simp [World.freeze, Array.getElem?_modify, Ne.symm hne, ho]
  · simp [World.freeze, Array.getElem?_modify, hb]
theorem exec_convert_w {w w' : World} {o : Oper} {a : Act} {s d : TypeId} {p : Operand} {v : Value} (ho : o.op = .convert s d p) (h : (convert s d (a.eval p)).run Tryz.prog w = .ok v w') : (execOp a.eval o).run Tryz.prog w = .ok (.value v) w' := exec_convert' ho h

set_option maxRecDepth 20000 in
set_option maxHeartbeats 4000000 in
theorem wrap_any {w : World} {Q TB A PL : Nat} {s : SSt} (h : SuiteAt w Q TB A PL s) (kek k : By) (hk : kek.length = 32) (hk2 : k.length = 32) :
    Calls Tryz.prog 93 #[.pointer (some ⟨Q, 0, none⟩), aggK kek, aggK k] w fun e w' =>
      (wrapP s kek k = none → e = .returned (.tuple #[.slice none 0 0, .int .i64 60]) ∧ Ext w w') ∧
      (∀ ct s', wrapP s kek k = some (ct, s') → ∃ a c, e = .returned (.tuple #[.slice a 108 c, .int .i64 0]) ∧ Row 1 w' a 108 c (ct.map u8v) ∧ InBytes w' a ∧ SuiteAt w' Q TB A PL s' ∧ Keep (SuiteX TB A PL) w w') := by
  have hse := fun A' (hE : Ext w A') a1 a2 c1 c2 r1 r2 => seal_any (h.ext hE) kek k hk hk2 a1 a2 c1 c2 r1 r2
  unfold aggK at hse ⊢
  obtain ⟨O, hO⟩ : ∃ O, kek.map u8v = O := ⟨_, rfl⟩
  obtain ⟨K, hK⟩ : ∃ K, k.map u8v = K := ⟨_, rfl⟩
  have hOl : O.length = 32 := by rw [← hO, List.length_map, hk]
  have hKl : K.length = 32 := by rw [← hK, List.length_map, hk2]
  have hik := Lib.hid (show (Tryz.prog.info? 51).map (·.size) = some O.toArray.size by rw [info_key, List.size_toArray, hOl])
  rw [hO] at hse ⊢
  rw [hK] at hse ⊢
  have HSE := Lib.hid hse
  have HKl := Lib.hid hKl
  have HH := Lib.hid h
  clear hOl hO hK hKl h hse
  refine calls_cps fun R hR => ?_
  have HR := Lib.hid hR
  clear hR
  go_enter Tryz.func93, Tryz.ntmps93
  go_wp2_with fail
  refine wp_laid2 fun W eW h1 h2 => ?_
  have bO : Arr W w.heap.size 51 O := h1
  have bK : Arr W (w.heap.size + 1) 51 K := h2
  clear h1 h2
  have HEW := Lib.hid eW
  refine FY.wp_flow (X := WrapX W.heap.size TB A PL) (0 :: 1 :: 4 :: 2 :: 3 :: 5 :: 6 :: 7 :: 8 :: 9 :: []) (fun n => if n = 2 ∨ n = 3 ∨ n = 5 then .bar else .still) (by kernel_rfl) (by kernel_rfl) ?_
  have hD : ∀ w', Keep (WrapX W.heap.size TB A PL) W.drew w' → Keep (WrapX W.heap.size TB A PL) W w' := fun w' h => ((Keep.refl _ W).drew).trans h
  refine FY.flow_q rfl rfl rfl ?_; go_big_quiet_step (fail); refine wpQuiet_nil ?_
  refine FY.flow_vq (v := .agg O.toArray) rfl rfl rfl (fun w' hE => exec_load_row rfl rfl (bO.keep (hD w' hE) (WrapX.cells (by decide) (by decide))) Tryz.underlying51 rfl hik.out) ?_
  simp only [Act.put, List.setIfInBounds_toArray, List.set_cons_succ, List.set_cons_zero]
  refine FY.flow_q rfl rfl rfl ?_; go_big_quiet_step (fail); refine wpQuiet_nil ?_
  refine FY.flow_bvs rfl rfl rfl (by simp) (by kernel_rfl) (fun w2 hE2 _ => ?_)
  have e2 : Ext W w2 := ((Keep.refl _ W).drew).trans hE2
  go_wp2
  refine ⟨(Keep.refl _ w2).alloc _, ?_⟩
  refine FY.flow_bvs rfl rfl rfl (by simp) (by kernel_rfl) (fun w3 hE3 _ => ?_)
  have e3 : Ext W w3 := (e2.alloc _).trans hE3
  have hb3 : w3.heap[w2.heap.size]? = some (.cells (wrapS.map u8v).toArray 5 (0, 0)) := hE3.block _ _ (World.alloc_heap_new w2 _) (fun h => h)
  obtain ⟨w4, hr4, k4, hb4⟩ := conv_mark w3 w2.heap.size (wrapS.map u8v) 4 4 hb3
  refine wpList_valw (v := .slice (some ⟨w2.heap.size, 0, none⟩) 4 4) (w' := w4) (exec_convert_w rfl hr4) rfl ?_
  have hs2 : W.heap.size ≤ w2.heap.size := e2.size
  refine ⟨rfl, _, rfl, k4.mono (fun k o _ hx => .inr ⟨by have := hx.1; omega, _, _, hx.2⟩), ?_⟩
  simp only [Act.put, List.setIfInBounds_toArray, List.set_cons_succ, List.set_cons_zero]
  have E4 : Ext W w4 := ((Keep.of_ext e3).trans k4).mono (fun k o ho hx => by have := Keep.lt ho; have := hx.1; omega)
  have r1 : Row 1 w4 (some ⟨w2.heap.size, 0, none⟩) 4 4 (wrapS.map u8v) := ⟨Nat.le_refl _, by simp [maxLen], rfl, by simp, fun _ => ⟨_, 0, rfl, fun i u hu => by
    rw [Nat.zero_add]
    exact (cell_of_row _ _ _ _ 5 _ hb4).trans (by simpa using hu)⟩⟩
  have r2 : Row 1 w4 (some ⟨w.heap.size + 1, 0, none⟩) 32 32 K := (bK.ext E4).whole HKl.out (by simp [maxLen])
  clear hr4 k4 hb4 hb3 e3 hE3 e2 hE2 hD
  refine FY.flow_bvs rfl rfl rfl (by simp) (by kernel_rfl) (fun w5 hE5 _ => ?_)
  have E5 := HEW.out.trans (E4.trans hE5)
  have hcall := HSE.out w5 E5 _ _ _ _ (r1.ext hE5) (r2.ext hE5)
  have HE5 := Lib.hid hE5
  clear r1 r2 hE5
  go_wp2_with fail
  refine hcall.mono ?_
  rintro e w6 ⟨hlo, hhi⟩
  clear hcall
  cases hw : wrapP s kek k with
  | none =>
    obtain ⟨rfl, e6⟩ := hlo hw
    have hRR := fun w' (hE : Ext w6 w') => HR.out (.returned (.tuple #[.slice none 0 0, .int .i64 60])) w' ⟨fun _ => ⟨rfl, (E5.trans e6).trans hE⟩, fun ct s' h => (by rw [hw] at h; cases h)⟩
    have K6 : Keep (WrapX W.heap.size TB A PL) w5 w6 := Keep.of_ext e6
    clear HR hlo hhi hw e6
    go_wp2
    iterate 4 (refine FY.flow_q rfl rfl rfl ?_; go_big_quiet_step (fail); refine wpQuiet_nil ?_)
    refine FY.flow_end (fun w9 hE9 _ => ?_)
    have hfin := hRR w9 hE9
    clear hRR
    go_wp2
    exact hfin
  | some x =>
    obtain ⟨ct, s'⟩ := x
    obtain ⟨a, c, rfl, h1, h2, h3, h4⟩ := hhi ct s' hw
    have hRR := fun w' (hE : Ext w6 w') => HR.out (.returned (.tuple #[.slice a 108 c, .int .i64 0])) w' ⟨fun h => (by rw [hw] at h; cases h), fun ct' s'' h => (by
      rw [hw] at h; cases h
      exact ⟨a, c, rfl, h1.ext hE, h2.keep hE (fun _ _ _ h => h), h3.ext hE, ((Keep.of_ext E5).trans h4).trans (Keep.of_ext hE)⟩)⟩
    have K6 : Keep (WrapX W.heap.size TB A PL) w5 w6 := h4.mono (fun _ _ _ h => .inl h)
    clear HR hlo hhi hw h1 h2 h3 h4
    go_wp2
    iterate 4 (refine FY.flow_q rfl rfl rfl ?_; go_big_quiet_step (fail); refine wpQuiet_nil ?_)
    refine FY.flow_end (fun w9 hE9 _ => ?_)
    have hfin := hRR w9 hE9
    clear hRR
    go_wp2
    exact hfin
end Go.Proofs.YtcmhgpgookiomaaGreat
namespace Go.Proofs.YtcmhgpgookiomaaGreat
open Go.RowKit Go.Shelf Go.Maps

attribute [local go_sem] Oper.semAt_some

def nlit (n : Nat) : Lit := .int .u32 (n : Int)
def u32n (n : Nat) : Value := .int .u32 (n : Int)
theorem nlit_inj {x y : Nat} (h : nlit x = nlit y) : x = y := by
  unfold nlit at h
  simp only [Lit.int.injEq, true_and] at h
  omega
theorem u32n_inj {x y : Nat} (h : u32n x = u32n y) : x = y := by
  unfold u32n at h
  simp only [Value.int.injEq, true_and] at h
  omega
theorem key_u32 {x : Nat} (h : x < 4294967296) : keyOf Tryz.prog 22 (u32n x) = some (nlit x) := keyOf_int_mk Tryz.underlying22 (WalkArith.wf_u32 (by omega))
theorem key_u32_inv {v : Value} {kl : Lit} (h : keyOf Tryz.prog 22 v = some kl) : ∃ x, x < 4294967296 ∧ v = u32n x ∧ kl = nlit x := by
  cases v <;> simp [keyOf, Tryz.underlying22, mapKey] at h
  rename_i q a
  obtain ⟨⟨rfl, hw⟩, rfl⟩ := h
  have hb : 0 ≤ a ∧ a < 4294967296 := by
    have h1 : IntKind.u32.min = 0 := rfl
    have h2 : IntKind.u32.max = 4294967295 := rfl
    simp [Lit.wf, h1, h2] at hw
    omega
  obtain ⟨x, rfl⟩ := Int.eq_ofNat_of_zero_le hb.1
  exact ⟨x, by omega, rfl, rfl⟩

/-- Block B is the map l; an element x of it lies there as V x. -/
structure NMap {α : Type} (w : World) (B : Nat) (V : α → Value) (l : List (Nat × α)) : Prop where
  map : ∃ S, KMap Tryz.prog 22 w B l.length S ∧ ∀ x, x < 4294967296 → S (nlit x) = (getA l x).map V
  rise : Rise l
  lt : ∀ p ∈ l, p.1 < 4294967296
def natOf : Lit → Nat
  | .int _ a => a.toNat
  | _ => 0
theorem natOf_nlit (x : Nat) : natOf (nlit x) = x := by simp [natOf, nlit]
section
variable {α : Type} {w w' : World} {B n : Nat} {V : α → Value} {l : List (Nat × α)}
/-- The bound is the number of the entries. -/
theorem NMap.mk' {S : Lit → Option Value} (h : KMap Tryz.prog 22 w B n S) (hS : ∀ x, x < 4294967296 → S (nlit x) = (getA l x).map V) (hr : Rise l) (hl : ∀ p ∈ l, p.1 < 4294967296) : NMap w B V l := by
  refine ⟨⟨S, ?_, hS⟩, hr, hl⟩
  obtain ⟨D, h1, h2, h3⟩ := h
  obtain ⟨es, hD, hpw, _⟩ := h1.entries law_u32
  obtain ⟨es', hD', hko⟩ := h1.keysOf
  obtain rfl : es = es' := by rw [hD] at hD'; simpa using hD'
  have hnd : (es.map fun p => natOf p.1).Nodup := by
    refine List.pairwise_map.2 (hpw.imp_of_mem fun {p q} hp hq hne e => hne ?_)
    obtain ⟨v, hv⟩ := hko p hp
    obtain ⟨v', hv'⟩ := hko q hq
    obtain ⟨x, _, _, hx⟩ := key_u32_inv hv
    obtain ⟨y, _, _, hy⟩ := key_u32_inv hv'
    rw [hx, hy, natOf_nlit, natOf_nlit] at e
    rw [hx, hy, e]
  have hmem : ∀ x, x ∈ (es.map fun p => natOf p.1) ↔ x ∈ numsA l := fun x => by
    rw [mem_nums]
    constructor
    · intro hx
      obtain ⟨p, hp, rfl⟩ := List.mem_map.1 hx
      obtain ⟨v, hv⟩ := hko p hp
      obtain ⟨y, hy, _, hyl⟩ := key_u32_inv hv
      have := (h3 (nlit y) undef).1
      rw [hS y hy, hD] at this
      rw [hyl, natOf_nlit]
      have h9 : Maps.has (.map es) (nlit y) = true := by
        rw [has_eq, List.any_eq_true]
        exact ⟨p, hp, by rw [hyl]; simp [nlit, Lit.sameKey]⟩
      rw [h9] at this
      simpa using this.symm
    · intro hx
      have hx2 : x < 4294967296 := by
        obtain ⟨y, hy⟩ := Option.isSome_iff_exists.1 hx
        exact hl _ (getA_mem hy)
      have := (h3 (nlit x) undef).1
      rw [hS x hx2, hD, Option.isSome_map, hx, has_eq, List.any_eq_true] at this
      obtain ⟨p, hp, hs⟩ := this
      obtain ⟨v, hv⟩ := hko p hp
      obtain ⟨y, _, _, hyl⟩ := key_u32_inv hv
      rw [hyl] at hs
      have : (y : Int) = x := by simpa [nlit, Lit.sameKey] using hs
      have : y = x := by omega
      exact List.mem_map.2 ⟨p, hp, by rw [hyl, natOf_nlit, this]⟩
  have hlen : es.length = l.length := by
    have := ((List.perm_ext_iff_of_nodup hnd (nums_nodup hr)).2 hmem).length_eq
    simpa [numsA] using this
  obtain ⟨es2, clock, hb, F, hs, hD2⟩ := h1
  refine ⟨D, ⟨es2, clock, hb, F, ?_, hD2⟩, h2, h3⟩
  rw [hD] at hD2
  have hz : es.length = es2.size := by
    have := congrArg Maps.size hD2
    simpa [size_eq, length_sorted] using this
  omega
theorem NMap.made (w : World) (V : α → Value) : NMap (w.alloc (.map #[] 0)) w.heap.size V ([] : List (Nat × α)) := ⟨⟨_, KMap.made _ _ _, fun _ _ => rfl⟩, List.Pairwise.nil, fun _ h => by cases h⟩
theorem NMap.block {X : Nat → Obj → Prop} (h : NMap w B V l) (hk : Keep X w w') (hX : ∀ es c, ¬ X B (.map es c)) : NMap w' B V l := by
  obtain ⟨S, h1, h2⟩ := h.map
  exact ⟨⟨S, h1.block hk hX, h2⟩, h.rise, h.lt⟩
theorem NMap.ext (h : NMap w B V l) (hk : Ext w w') : NMap w' B V l := h.block hk (fun _ _ h => h)
theorem NMap.below (h : NMap w B V l) : B < w.heap.size := by obtain ⟨S, h1, _⟩ := h.map; exact h1.lt
theorem NMap.isMap (h : NMap w B V l) : ∃ es c, w.heap[B]? = some (.map es c) := by obtain ⟨S, h1, _⟩ := h.map; exact h1.isMap
theorem NMap.look {t e : TypeId} (h : NMap w B V l) (ht : Tryz.prog.underlying t = some (.map 22 e)) {z : Value} (hz : (zeroValue e).run Tryz.prog w = .ok z w) {x : Nat} (hx : x < 4294967296) :
    (Instr.lookup t (.map (some B)) (u32n x) true).run Tryz.prog w = .ok (.tuple #[((getA l x).map V).getD z, .bool (getA l x).isSome]) w := by
  obtain ⟨S, h1, h2⟩ := h.map
  have := h1.look law_u32 ht hz (key_u32 hx)
  rw [h2 x hx, Option.isSome_map] at this
  exact this
theorem NMap.look1 {t e : TypeId} (h : NMap w B V l) (ht : Tryz.prog.underlying t = some (.map 22 e)) {z : Value} (hz : (zeroValue e).run Tryz.prog w = .ok z w) {x : Nat} (hx : x < 4294967296) :
    (Instr.lookup t (.map (some B)) (u32n x) false).run Tryz.prog w = .ok (((getA l x).map V).getD z) w := by
  obtain ⟨S, h1, h2⟩ := h.map
  have := h1.look1 law_u32 ht hz (key_u32 hx)
  rw [h2 x hx] at this
  exact this
theorem NMap.of_put {S : Lit → Option Value} (hr : Rise l) (hlt : ∀ p ∈ l, p.1 < 4294967296) (hS : ∀ x, x < 4294967296 → S (nlit x) = (getA l x).map V) {k : Nat} (hk : k < 4294967296) (v : α) (h : KMap Tryz.prog 22 w B n (updS S (nlit k) (some (V v)))) : NMap w B V (putA l k v) := by
  refine NMap.mk' h (fun x hx => ?_) (rise_put hr k v) (fun p hp => ?_)
  · rw [getA_put l k v x hr]
    by_cases e : x = k
    · subst e; rw [updS_same, if_pos rfl]; rfl
    · rw [updS_other _ _ (fun h => e (nlit_inj h)), if_neg e, hS x hx]
  · rcases mem_put hp with rfl | hp
    · exact hk
    · exact hlt p hp
theorem NMap.put {t e : TypeId} (h : NMap w B V l) (ht : Tryz.prog.underlying t = some (.map 22 e)) (hn : l.length < maxLen) {k : Nat} (hk : k < 4294967296) (v : α) :
    ∃ w', (Instr.mapUpdate t (.map (some B)) (u32n k) (V v)).run Tryz.prog w = .ok () w' ∧ NMap w' B V (putA l k v) ∧ Keep (fun i o => i = B ∧ ∃ es c, o = .map es c) w w' := by
  obtain ⟨S, h1, h2⟩ := h.map
  obtain ⟨w', r1, r2, r3⟩ := h1.put law_u32 ht hn (v := V v) (key_u32 hk)
  exact ⟨w', r1, NMap.of_put h.rise h.lt h2 hk v r2, h1.keepPut r3⟩
theorem NMap.del {t e : TypeId} (h : NMap w B V l) (ht : Tryz.prog.underlying t = some (.map 22 e)) {k : Nat} (hk : k < 4294967296) (ty : TypeId) :
    ∃ w', (Builtin.delete_ #[t, 22] ty #[.map (some B), u32n k]).run Tryz.prog w = .ok (.tuple #[]) w' ∧ NMap w' B V (delA l k) ∧ Keep (fun i o => i = B ∧ ∃ es c, o = .map es c) w w' := by
  obtain ⟨S, h1, h2⟩ := h.map
  obtain ⟨w', r1, r2, r3⟩ := h1.del law_u32 ht (key_u32 hk) ty
  refine ⟨w', r1, NMap.mk' r2 (fun x hx => ?_) (rise_del h.rise k) (fun p hp => h.lt p (List.mem_filter.1 hp).1), h1.keepPut r3.grown⟩
  rw [getA_del]
  by_cases e : x = k
  · subst e; rw [updS_same, if_pos rfl]; rfl
  · rw [updS_other _ _ (fun h => e (nlit_inj h)), if_neg e, h2 x hx]
/-- An entry is made, and filled behind it. -/
theorem NMap.entry {t e : TypeId} (h : NMap w B V l) (ht : Tryz.prog.underlying t = some (.map 22 e)) (hn : l.length < maxLen) {z : Value} (hz : ∀ u, (zeroValue e).run Tryz.prog u = .ok z u) {k : Nat} (hk : k < 4294967296) :
    ∃ v0 st E w1, (Instr.mapEntry t (.map (some B)) (u32n k)).run Tryz.prog w = .ok (.tuple #[v0, .int .i64 st]) w1 ∧ w1.heap[B]? = some E ∧ Keep (fun i o => i = B ∧ ∃ es c, o = .map es c) w w1 ∧
      ∀ (w2 : World) (v : α), w2.heap[B]? = some E → ∃ w3, (Instr.entryStore t (.map (some B)) (.int .i64 st) (V v)).run Tryz.prog w2 = .ok () w3 ∧ NMap w3 B V (putA l k v) ∧ Keep (fun i o => i = B ∧ ∃ es c, o = .map es c) w2 w3 := by
  obtain ⟨S, h1, h2⟩ := h.map
  obtain ⟨st, E, w1, r1, r2, ⟨es, c, rfl⟩, r4, r5⟩ := h1.entry law_u32 ht hn hz (key_u32 hk)
  refine ⟨_, st, _, w1, r1, r2, h1.keepPut r4, fun w2 v hw2 => ?_⟩
  obtain ⟨w3, q1, q2, q3⟩ := r5 w2 (V v) hw2
  exact ⟨w3, q1, NMap.of_put h.rise h.lt h2 hk v q2, Keep.of_grownBy q3 (fun k o hk ho => by cases hk; rw [hw2] at ho; cases ho; exact ⟨rfl, _, _, rfl⟩)⟩
end
end Go.Proofs.YtcmhgpgookiomaaGreat
