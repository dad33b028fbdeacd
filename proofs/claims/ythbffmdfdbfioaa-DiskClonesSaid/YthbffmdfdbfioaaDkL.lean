/-
  disk.Disk: Clone.
-/
import Derived.Test.YthbffmdfdbfioaaDkI
import Derived.Test.YthbffmdfdbfioaaDkF
import Derived.Test.YthbffmdfdbfioaaFlowZ
import Derived.Test.YthbffmdfdbfioaaDkLts
import Derived.Great.BuildSlice
namespace Go.Proofs.Ythbffmdfdbfioaa
open Go.RowKit Go.Shelf

attribute [local go_sem] Oper.semAt_some

theorem fold_zip (l : List Value) : ∀ (pre rest : List Value), rest.length = l.length → (l.zipIdx pre.length).foldl (fun (cs : Array Value) (x : Value × Nat) => cs.setIfInBounds (0 + x.2) x.1) (pre ++ rest).toArray = (pre ++ l).toArray := by
  induction l with
  | nil => intro pre rest h; rw [List.eq_nil_of_length_eq_zero h]; rfl
  | cons v l ih =>
    intro pre rest h
    obtain ⟨r, rest, rfl⟩ : ∃ r rs, rest = r :: rs := by
      cases rest with
      | nil => cases h
      | cons r rs => exact ⟨r, rs, rfl⟩
    have := ih (pre ++ [v]) rest (by simpa using h)
    rw [List.length_append, List.length_singleton] at this
    simp only [List.zipIdx_cons, List.foldl_cons, Nat.zero_add, List.setIfInBounds_toArray]
    rw [List.set_append_right _ _ (Nat.le_refl _), Nat.sub_self, List.set_cons_zero]
    simp only [Nat.zero_add] at this
    rw [show pre ++ v :: rest = pre ++ [v] ++ rest by simp, this]
    simp
theorem fill_one {O : List Value} {Z : Array Value} {m : Nat} (hO : O.length = m) (hZ : Z.size = m) : Instr.fill (fun i => some (i * m, m)) Z [(0, .agg O.toArray)] = some O.toArray := by
  have h := fold_zip O [] Z.toList (by simp [hO, hZ])
  simp only [List.nil_append, List.length_nil, Array.toArray_toList] at h
  simp only [Instr.fill, Value.cells, List.size_toArray, hO, Nat.zero_mul, hZ]
  simp
  simpa using h
theorem parts_one (a : Act) (t : Tmp) (v : Value) (h : a.eval (.tmp t) = v) : ((#[(0, Operand.tmp t)] : Array (Nat × Operand)).map fun (i, x) => (i, a.eval x)).toList = [(0, v)] := by
  subst h
  rw [Array.toList_map]
  rfl
/-- The clone as it is begun: no sectors yet. -/
def CloneV (base gs : Nat) (wr : Nat) (pw : Bool) (v : Value) (w' : World) : Prop := ∃ B a1 c1, v = .pointer (some ⟨B, 0, none⟩) ∧ base ≤ B ∧ Arr w' B 52 [.slice (some ⟨gs, 0, none⟩) 0 0, .slice a1 0 c1, .int .i64 (wr : Int), .bool pw] ∧ Row 2 w' a1 0 c1 []
def PtrSh (v : Value) : Prop := ∃ B, v = .pointer (some ⟨B, 0, none⟩)
def OneSec (O : List Value) (v : Value) (w' : World) : Prop := ∃ g, v = .slice (some ⟨g, 0, none⟩) 1 1 ∧ Arr w' g 22 O
def OneSh (v : Value) : Prop := ∃ g, v = .slice (some ⟨g, 0, none⟩) 1 1
/-- The variable that holds it. -/
def VarV (base : Nat) (T : TypeId) (v : Value) (w' : World) : Prop := ∃ B, v = .pointer (some ⟨B, 0, none⟩) ∧ base ≤ B ∧ Boxed w' B T (.pointer none)

/-- A slice of the call's own, or an empty one without room. -/
def OE (w : World) (base e sz : Nat) (v : Value) (n : Nat) (xs : List Value) : Prop := w.ownsRow base e sz v n xs ∨ (n = 0 ∧ xs = [] ∧ ∃ p, v = .slice (some p) 0 0)
theorem OE.keep {X : Nat → Obj → Prop} {A B : World} {base e sz n : Nat} {v : Value} {xs : List Value} (h : OE A base e sz v n xs) (hk : Keep X A B) (hX : ∀ k cur, base ≤ k → ¬ X k (.cells cur e (0, 0))) : OE B base e sz v n xs := by
  rcases h with h | h
  · exact .inl (hk.owns' h (fun k cur hv => hX k cur (h.lt k hv).1))
  · exact .inr h
theorem run_append_oe {P : Program} (w : World) (base : Nat) (t ty e : TypeId) (z : Value) (size bytes : Nat) (ht : P.underlying t = some (.slice e))
    (hinfo : (P.info? e).map (fun i => (i.zero, i.size, i.bytes)) = some (some z, size, bytes)) (hzs : z.cells.size = size) (hsz : 0 < size)
    {v : Value} {n : Nat} {xs : List Value} (hown : OE w base e size v n xs) {a : Addr} {m c : Nat} {news : List Value} (hr : Row size w (some a) m c news) (h1 : ∀ u ∈ news, u.oneCell' = true) (hm : 0 < m)
    (h63 : n + m ≤ maxLen) (hbytes : (n + m) * bytes ≤ 140737488355328) (hbase : base ≤ w.heap.size) :
    ∃ v' w', (Builtin.append_ #[t, t] ty #[v, .slice (some a) m c]).run P w = .ok v' w' ∧ w'.ownsRow base e size v' (n + m) (xs ++ news) ∧ Keep (fun k o => base ≤ k ∧ ∃ cur, o = .cells cur e (0, 0)) w w' := by
  rcases hown with hown | ⟨rfl, rfl, p, rfl⟩
  · obtain ⟨v', w', hrun, hown', hgrow, _⟩ := run_append_row (P := P) w base t ty e z size bytes ht hinfo hzs hsz hown hr h1 h63 hbytes hbase
    refine ⟨v', w', hrun, hown', Keep.of_grownBy hgrow (fun k o hk ho => ?_)⟩
    rcases hown.2 with ⟨rfl, _⟩ | ⟨g', cap, cur, rfl, hb, hgb, _⟩
    · simp [Value.ownBlock] at hk
    · obtain rfl : g' = k := by simpa [Value.ownBlock] using hk
      rw [hgb] at ho; cases ho; exact ⟨hb, _, rfl⟩
  · obtain ⟨i, hi, hz, hs, hb⟩ := info_parts hinfo
    subst hs
    subst hb
    have hnl := hr.2.2.1
    have hcells : ∀ j u, news[j]? = some u → w.cell? (a.add j) = some u := by
      obtain ⟨b, off, hp, hcell⟩ := hr.2.2.2.2 hm
      cases hp
      intro j u hu
      rw [addr_add]; exact hcell j u hu
    simp only [Nat.zero_add] at h63 hbytes
    have h63' : (m : Int) ≤ 9223372036854775807 := by simp only [maxLen] at h63; omega
    have hrun := run_append_grow (P := P) w t ty e i z ht hi hz p 0 0 [] (by simp) (by simp) a m c news hnl hcells (by omega) (by rw [Nat.zero_add]; exact h63') (by rw [Nat.zero_add, nextslicecap_zero hm]; omega)
    simp only [Nat.zero_add] at hrun
    have hge := grownCap_ge w m 0 e
    have hcm : grownCap w m 0 e ≤ maxLen := grownCap_le_maxLen w m 0 e h63
    refine ⟨_, _, hrun, ?_, ⟨rfl, rfl, rfl, by simp, fun k o ho _ => (heap_alloc_old w.drew _ k (Keep.lt ho)).trans ho⟩⟩
    rw [Nat.zero_add, List.nil_append]
    refine ⟨hnl, .inr ⟨w.heap.size, _, _, rfl, hbase, heap_alloc_new w.drew _, hge, hcm, ?_, ?_⟩⟩
    · simp only [Array.size_append, List.size_toArray, size_zeroCells, hzs, hnl, List.length_nil, Nat.zero_add, ← Nat.add_mul]
      congr 1
      omega
    · simp only [Array.toList_append, List.nil_append, ← hnl]
      exact List.take_left
theorem slice_none (gs n cap : Nat) (w : World) : (Instr.sliceAt 43 (.slice (some ⟨gs, 0, none⟩) n cap) none (some (.int .i64 0)) (some (.int .i64 0))).run Try.prog w = .ok (.slice (some ⟨gs, 0, none⟩) 0 0) w := by
  by_cases h : (0 : Nat) = 0
  · simp [Instr.sliceAt, Instr.slice, Instr.sliceBounds, Instr.sliceBound, Result.andThen, asIntOf]
  · exact absurd rfl h

theorem dclone_nil (w : World) : Calls Try.prog 19 #[.pointer none] w fun e w' => e = .returned (.pointer none) ∧ Ext w w' := by
  refine calls_cps fun R hR => ?_
  refine calls_marks Try.func19 rfl ?_
  simp only [Try.ntmps19, List.size_toArray, List.length_cons, List.length_nil, Nat.reduceAdd, Nat.reduceSub, Array.replicate_succ, Array.replicate_zero, List.push_toArray, List.append_toArray, List.nil_append, List.cons_append]
  go_wp2
  exact mark0_ret rfl (results_tmp rfl _ _ _) (hR _ _ ⟨rfl, Keep.refl _ _⟩)

set_option maxHeartbeats 4000000 in
theorem dclone_any {w : World} {B gs gc : Nat} {s : DSt} (h : PD w B gs gc s) (hc : s.cr = []) (hns : s.n ≤ 1000) :
    Calls Try.prog 19 #[.pointer (some ⟨B, 0, none⟩)] w fun e w' => ∃ B' gs', e = .returned (.pointer (some ⟨B', 0, none⟩)) ∧ PD w' B' gs' 0 s ∧ w.heap.size ≤ B' ∧ (0 < s.n → w.heap.size ≤ gs') ∧ Ext w w' := by
  obtain ⟨ac, cc, cap, tl, e1, e2, e3, e4, e5, e6⟩ := h.ex
  have c0 := e1.cell (i := 0) rfl
  have c1 := e1.cell (i := 1) rfl
  have c2 := e1.cell (i := 2) rfl
  have c3 := e1.cell (i := 3) rfl
  rw [hc] at c1 e2
  simp only [List.length_nil] at c1 e2
  have hsl := slice_none gs s.n cap
  refine calls_cps fun R hR => ?_
  refine calls_marks Try.func19 rfl ?_
  simp only [Try.ntmps19, List.size_toArray, List.length_cons, List.length_nil, Nat.reduceAdd, Nat.reduceSub, Array.replicate_succ, Array.replicate_zero, List.push_toArray, List.append_toArray, List.nil_append, List.cons_append]
  go_wp2
  have hD : ∀ g : At w.drew, Ext w g.w := fun g => ((Keep.refl _ w).drew).trans g.ext
  have d0 := fun g => (hD g).cell c0
  have d1 := fun g => (hD g).cell c1
  have d2 := fun g => (hD g).cell c2
  have d3 := fun g => (hD g).cell c3
  refine wp_flow (fun n => if n = 9 then .grows (NewCr w.heap.size 0 []) (NewCrSh 0) else if n = 19 then .grows (CloneV w.heap.size gs s.wr s.pw) PtrSh else if n = 20 then .grows (VarV w.heap.size 24) PtrSh else if n = 21 then .last else .reads) (by kernel_rfl) (by kernel_rfl) ?_
  repeat (refine flow_r rfl rfl ?_; go_big_quiet_step (fail); refine wpQuiet_nil ?_)
  refine flow_g rfl rfl (by simp) ⟨_, none, 0, rfl⟩ (fun v A B h hE => Ext.owns hE h) (fun v A h => let ⟨a, c, h1, _⟩ := owns_row h; ⟨a, c, h1⟩) (fun w2 hE2 _ => ?_) (fun v hv => ?_)
  · have hs2 := hE2.size
    have hX2 := ((Keep.refl _ w).drew).trans hE2
    go_wp2_with fail
    refine (cloneCr_any ac 0 cc [] w2 (e2.ext hX2) (by omega)).mono ?_
    rintro e w3 ⟨v, rfl, hown, hE3⟩
    have HO := Lib.hid (show NewCr w.heap.size 0 [] v w3 from owns_mono hown hs2)
    obtain ⟨a', c', rfl, _⟩ := owns_row hown
    clear hown
    go_wp2
    first | exact ⟨hE3, HO.out⟩ | exact HO.out
  obtain ⟨a', c', rfl⟩ := hv
  simp only [Act.put, List.setIfInBounds_toArray, List.set_cons_succ, List.set_cons_zero]
  iterate 9 (refine flow_r rfl rfl ?_; go_big_quiet_step (fail); refine wpQuiet_nil ?_)
  refine flow_g rfl rfl (by simp) ⟨_, 0, rfl⟩ (fun v A B ⟨b, a1, c1, h1, h2, h3, h4⟩ hE => ⟨b, a1, c1, h1, h2, h3.ext hE, h4.ext hE⟩) (fun v A ⟨b, a1, c1, h1, h2⟩ => ⟨b, h1⟩) (fun w2 hE2 hf => ?_) (fun v hv => ?_)
  · have hs2 := hE2.size
    have H5 : NewCr w.heap.size 0 [] (.slice a' 0 c') w2 := hf 9 (by kernel_rfl)
    obtain ⟨_, _, q1, q2⟩ := owns_row H5
    cases q1
    have eA : Ext w2 (w2.alloc (.cells #[.slice (some ⟨gs, 0, none⟩) 0 0, .slice a' 0 c', .int .i64 (s.wr : Int), .bool s.pw] 52)) := (Keep.refl _ w2).alloc _
    have HD := Lib.hid (show CloneV w.heap.size gs s.wr s.pw (.pointer (some ⟨w2.heap.size, 0, none⟩)) (w2.alloc (.cells #[.slice (some ⟨gs, 0, none⟩) 0 0, .slice a' 0 c', .int .i64 (s.wr : Int), .bool s.pw] 52)) from
      ⟨_, a', c', rfl, hs2, Arr.new w2 52 [.slice (some ⟨gs, 0, none⟩) 0 0, .slice a' 0 c', .int .i64 (s.wr : Int), .bool s.pw], q2.ext eA⟩)
    clear H5 hf q2
    go_wp2
    first | exact ⟨eA, HD.out⟩ | exact HD.out
  obtain ⟨B', rfl⟩ := hv
  simp only [Act.put, List.setIfInBounds_toArray, List.set_cons_succ, List.set_cons_zero]
  refine flow_g rfl rfl (by simp) ⟨_, 0, rfl⟩ (fun v A B ⟨b, h1, h2, h3⟩ hE => ⟨b, h1, h2, hE.boxed h3⟩) (fun v A ⟨b, h1, h2⟩ => ⟨b, h1⟩) (fun w2 hE2 hf => ?_) (fun v hv => ?_)
  · have hs2 := hE2.size
    have eA : Ext w2 (w2.alloc (.cells #[.pointer none] 24)) := (Keep.refl _ w2).alloc _
    have HD := Lib.hid (show VarV w.heap.size 24 (.pointer (some ⟨w2.heap.size, 0, none⟩)) (w2.alloc (.cells #[.pointer none] 24)) from ⟨_, rfl, hs2, Boxed.new w2 _ _⟩)
    clear hf
    go_wp2
    first | exact ⟨eA, HD.out⟩ | exact HD.out
  obtain ⟨P3, rfl⟩ := hv
  simp only [Act.put, List.setIfInBounds_toArray, List.set_cons_succ, List.set_cons_zero]
  refine flow_l rfl (by kernel_rfl) (fun w2 hE2 hf => ?_)
  obtain ⟨_, a1, c1', q1, hB1, hA1, hR1⟩ : CloneV w.heap.size gs s.wr s.pw (.pointer (some ⟨B', 0, none⟩)) w2 := hf 19
  cases q1
  obtain ⟨_, q2, hP1, hV1⟩ : VarV w.heap.size 24 (.pointer (some ⟨P3, 0, none⟩)) w2 := hf 20
  cases q2
  have hE3 : Ext w w2 := ((Keep.refl _ w).drew).trans hE2
  have hBP : B' ≠ P3 := fun h => by
    subst h
    unfold Arr at hA1
    rw [show w2.heap[B']? = _ from hV1] at hA1
    cases hA1
  have hV2 := hV1.set (.pointer (some ⟨B', 0, none⟩))
  have hA2 := hA1.keep (keep_setCell w2 P3 0 (.pointer (some ⟨B', 0, none⟩))) hBP
  have hE4 : Ext w (w2.setCell ⟨P3, 0, none⟩ (.pointer (some ⟨B', 0, none⟩))) := hE3.setCell _ _ (fun o ho => by have := Keep.lt ho; replace this : P3 < w.heap.size := this; omega)
  have cP := hV1.cell
  have fP := hV1.frozen
  have hP3 : P3 < w2.heap.size := Keep.lt hV1
  have hB3 := hA1.lt
  have hsz : (w2.setCell ⟨P3, 0, none⟩ (.pointer (some ⟨B', 0, none⟩))).heap.size = w2.heap.size := by simp
  have HM := Lib.hid (And.intro hR1.2.1 hR1.2.2.2.1)
  clear hf hV1 hA1 hR1 hE3 hE2 d0 d1 d2 d3 hD c0 c1 c2 c3 e1 e2 e3 e4 hsl
  have HSZ := Lib.hid hsz
  clear hsz
  go_wp2_with fail
  have hsz := HSZ.out
  obtain ⟨w3, hw3⟩ : ∃ x, w2.setCell ⟨P3, 0, none⟩ (.pointer (some ⟨B', 0, none⟩)) = x := ⟨_, rfl⟩
  rw [hw3] at hV2 hA2 hE4 hsz ⊢
  rw [← hsz] at hP3 hB3
  clear hw3 cP fP hsz HSZ
  refine (sectors_any B).mono ?_
  rintro e w4 ⟨rfl, rfl⟩
  have eA : Ext w3 (w3.alloc (.cells #[.pointer (some ⟨B, 0, none⟩)] 24)) := (Keep.refl _ w3).alloc _
  have hpb := Boxed.new w3 24 (.pointer (some ⟨B, 0, none⟩))
  have hV4 := eA.boxed hV2
  have hA4 := hA2.ext eA
  have hE5 := hE4.trans eA
  have hD5 := h.ext hE5
  have hlts := h.lts
  have hs5 : w3.heap.size < (w3.alloc (.cells #[.pointer (some ⟨B, 0, none⟩)] 24)).heap.size := by simp
  obtain ⟨pb, hpbe⟩ : ∃ x, w3.heap.size = x := ⟨_, rfl⟩
  obtain ⟨W, hW⟩ : ∃ x, w3.alloc (.cells #[.pointer (some ⟨B, 0, none⟩)] 24) = x := ⟨_, rfl⟩
  rw [hpbe] at hpb hP3 hB3 hs5
  rw [hW] at hpb hV4 hA4 hE5 hD5 hs5
  rw [hpbe, hW]
  clear hpbe hW eA hV2 hA2 hE4
  have hszE := hE5.size
  go_wp2_with fail
  obtain ⟨n, hn⟩ : ∃ n, s.n = n := ⟨_, rfl⟩
  have hit := sectors1_iter pb B gs gc s
  rw [hn] at hit hns
  have hlen := Lib.hid (show s.F.length = n * 64 by rw [← hn]; exact h.len)
  have HN := Lib.hid hn
  have HC := Lib.hid hc
  refine range_wp rfl (enters_of Try.func23 (by kernel_rfl) rfl) hit
    (fun b h => h.elim) (fun b h => by rcases h with rfl | rfl | rfl | ⟨h, _⟩; exact hs5; omega; omega; rw [hc] at h; cases h)
    (fun _ _ _ h => by rw [h]; rfl) (fun A hA => ⟨hA.boxed hpb, hD5.ext hA⟩)
    (fun k A => k ≤ n ∧ Boxed A P3 24 (.pointer (some ⟨B', 0, none⟩)) ∧ (∃ av cv, Arr A B' 52 [.slice av k cv, .slice a1 0 c1', .int .i64 (s.wr : Int), .bool s.pw] ∧ OE A w.heap.size 22 64 (.slice av k cv) k ((s.F.take (k * 64)).map u8v) ∧ (k = 0 → av = some ⟨gs, 0, none⟩ ∧ cv = 0)) ∧ Ext w A ∧ W.heap.size ≤ A.heap.size ∧ Boxed A pb 24 (.pointer (some ⟨B, 0, none⟩)))
    (fun _ _ _ => False)
    (fun k A D ⟨h0, h1, ⟨av, cv, h2, h3, h4⟩, h5, h6, h7⟩ hkp => ⟨h0, hkp.boxed_turn h1 id, ⟨av, cv, h2.keep hkp (fun h => by rcases h with h | h; exact h; cases h.2), h3.keep hkp (fun k cur _ h => by rcases h with h | h; exact h; cases h.2), h4⟩, h5.then_turn hkp hszE (fun _ _ h _ => h), Nat.le_trans h6 hkp.size, hkp.boxed_turn h7 id⟩)
    (fun _ _ _ _ h _ => h)
    (fun h => h.elim) ⟨by omega, hV4, ⟨_, 0, hA4, .inr ⟨rfl, by simp, _, rfl⟩, fun _ => ⟨rfl, rfl⟩⟩, hE5, Nat.le_refl _, hpb⟩ ?round ?done ?stop
  case round =>
    rintro l' k A args KN KX hkN ⟨h0, h1, ⟨av, cv, h2, h3, h4⟩, h5, h6, h7⟩ rfl hKN hKX
    have hsl2 := sector_length (s := s) (by rw [HN.out]; exact hlen.out) (show k < s.n by rw [HN.out]; exact hkN)
    have hsec : ((s.F.take (k * 64)).map u8v) ++ (s.sector k).map u8v = (s.F.take ((k + 1) * 64)).map u8v := by
      rw [← List.map_append]
      congr 1
      unfold DSt.sector
      rw [show (k + 1) * 64 = k * 64 + 64 by omega, List.take_add]
    have hO1 := u8v_one (s.sector k)
    unfold aggB
    obtain ⟨O, hO⟩ : ∃ O, (s.sector k).map u8v = O := ⟨_, rfl⟩
    have hOl : O.length = 64 := by rw [← hO, List.length_map, hsl2]
    rw [hO] at hO1 hsec ⊢
    have hiA := Lib.hid (show (Try.prog.info? 22).map (·.size) = some O.toArray.size by rw [info_sec]; simp [hOl])
    have hst := stores_new (P := Try.prog) (t := 22) (cs := List.replicate 64 (.int .u8 0)) (cs' := O) (by rw [hOl]; rfl) hO1 A
    simp only [List.replicate] at hst
    have HOL := Lib.hid hOl
    have HO1 := Lib.hid hO1
    have HSEC := Lib.hid hsec
    clear hO hOl hO1 hsec hsl2 hit h hD5 hpb hV4 hA4 hE5
    gi_wp2
    refine ⟨Keep.of_ext ((Keep.refl _ A).alloc _), fun C hC => ?_⟩
    have eA1 : Ext A (A.alloc (.cells O.toArray 22)) := (Keep.refl _ A).alloc _
    have tn : ∀ {b : Nat} {o : Obj}, o.isCells = true → ¬ turn W.heap.size (fun _ => False) b o := fun ho h => by rcases h with h | h; exact h; rw [ho] at h; cases h.2
    have z5 := (Arr.new A 22 O).keep hC (tn rfl)
    replace h1 := hC.boxed_turn (eA1.boxed h1) id
    replace h2 := (h2.ext eA1).keep hC (tn rfl)
    replace h7 := hC.boxed_turn (eA1.boxed h7) id
    replace h3 := (h3.keep eA1 (fun _ _ _ h => h)).keep hC (fun _ _ _ => tn rfl)
    replace h5 := (h5.trans eA1).then_turn hC hszE (fun _ _ h _ => h)
    have hAs : W.heap.size ≤ A.heap.size := h6
    replace h6 := Nat.le_trans h6 (Nat.le_trans eA1.size hC.size)
    obtain ⟨p5, hp5⟩ : ∃ p, A.heap.size = p := ⟨_, rfl⟩
    rw [hp5] at z5 hAs ⊢
    have c3 := h1.cell
    have cB := h2.cell (i := 0) rfl
    clear hst hp5 eA1 tn hC h4
    gi_wp2
    refine FY.wpIn_flow (X := fun b _ => b ≠ P3) (0 :: 1 :: 2 :: 3 :: 4 :: 5 :: 6 :: 7 :: 8 :: 9 :: 10 :: [])
      (fun n => if n = 0 then .still else if n = 6 then .grows (OneSec O) OneSh else if n = 7 ∨ n = 10 then .bar else .reads) (fun n => by split; simp; split; simp; split <;> simp) (by kernel_rfl) (by kernel_rfl) (by kernel_rfl) ?_
    have hDs : ∀ g : FY.At (fun b _ => b ≠ P3) C.drew, Keep (fun b _ => b ≠ P3) C g.w := fun g => ((Keep.refl _ C).drew).trans g.ext
    have s3 := fun g => (hDs g).cell c3 (fun _ _ _ h => h rfl)
    refine FY.flow_q rfl rfl rfl ?_; go_big_quiet_step (fail); refine wpQuiet_nil ?_
    have hD : ∀ g : FY.At (fun _ _ => False) C.drew, Ext C g.w := fun g => ((Keep.refl _ C).drew).trans g.ext
    have d3 := fun g => (hD g).cell c3
    have dB := fun g => (hD g).cell cB
    iterate 4 (refine FY.flow_r rfl rfl rfl ?_; go_big_quiet_step (fail); refine wpQuiet_nil ?_)
    refine FY.flow_v (v := .agg O.toArray) rfl rfl rfl (fun w' hE => exec_load_row rfl rfl (z5.ext (((Keep.refl _ C).drew).trans hE)) Try.underlying22 rfl hiA.out) ?_
    simp only [Act.put, List.setIfInBounds_toArray, List.set_cons_succ, List.set_cons_zero]
    refine FY.flow_g rfl rfl rfl (by simp) ⟨_, 0, rfl⟩ (fun v A B ⟨g, h1, h2⟩ hE => ⟨g, h1, h2.ext hE⟩) (fun v A ⟨g, h1, _⟩ => ⟨g, h1⟩) (fun w5 hE5 _ => ?_) (fun v hv => ?_)
    · obtain ⟨i1, hi1, hz1, hy1, hx1⟩ := info_sec4
      refine wpList_buildSlice rfl 43 22 1 _ rfl O.toArray i1 _ Try.underlying43 hi1 hz1 (by rw [hy1]; decide) (by rw [hy1]; decide) (by rw [hy1]; refine Eq.trans (congrArg (Instr.fill _ _) (?_ : _ = [(0, Value.agg O.toArray)])) (fill_one HOL.out ?_); exact parts_one _ 37 _ rfl; simp) ?_
      exact ⟨rfl, _, rfl, (Keep.refl _ w5).alloc _, _, rfl, Arr.new w5 _ O⟩
    obtain ⟨g, rfl⟩ := hv
    simp only [Act.put, List.setIfInBounds_toArray, List.set_cons_succ, List.set_cons_zero]
    refine FY.flow_bvs rfl rfl rfl (by simp) (by kernel_rfl) (fun w7 hE7 hf => ?_)
    obtain ⟨_, q, hAg⟩ : OneSec O (.slice (some ⟨g, 0, none⟩) 1 1) w7 := hf 6
    cases q
    have hX7 : Ext C w7 := ((Keep.refl _ C).drew).trans hE7
    have hrow : Row 64 w7 (some ⟨g, 0, none⟩) 1 1 O := ⟨Nat.le_refl _, by simp [maxLen], by rw [HOL.out], by simp, fun _ => ⟨g, 0, rfl, fun i u hu => by rw [Nat.zero_add]; exact hAg.cell hu⟩⟩
    obtain ⟨v', w8, hrun, hown8, hK8⟩ := run_append_oe w7 w.heap.size 43 43 22 _ 64 64 Try.underlying43 info_sec3 rfl (by decide) (h3.keep hX7 (fun _ _ _ h => h)) hrow HO1.out (by decide) (by unfold maxLen; omega) (by omega) (by have := (h5.trans hX7).size; omega)
    obtain ⟨a2, c2, rfl, _⟩ := owns_row hown8
    have hXt : ∀ {b : Nat} {t : TypeId} {cs : Array Value}, t ≠ 22 → ¬ (fun (k : Nat) (o : Obj) => w.heap.size ≤ k ∧ ∃ cur, o = .cells cur 22 (0, 0)) b (.cells cs t (0, 0)) := fun ht h => by
      obtain ⟨_, _, h⟩ := h
      cases h
      exact ht rfl
    have hV8 := hK8.boxed (hX7.boxed h1) (hXt (by decide))
    have hA8 := (h2.ext hX7).keep hK8 (hXt (by decide))
    have hE8 : Ext w w8 := ((Keep.of_ext (h5.trans hX7)).trans hK8).mono (fun k o ho hx => by have := Keep.lt ho; omega)
    have hKP : Keep (fun b _ => b ≠ P3) w7 w8 := hK8.mono (fun k o ho hx he => by
      subst he
      rw [show w7.heap[k]? = _ from hX7.boxed h1] at ho
      cases ho
      exact hXt (by decide) hx)
    have kk8 : Keep (Go.Proofs.Ythbffmdfdbfioaa.round W.heap.size (secZ pb B gs gc s)) C w8 := ((Keep.of_ext hX7).trans hK8).mono (fun k o ho hx => by
      obtain ⟨hxb, cur, rfl⟩ := hx
      refine ⟨fun hz => ?_, .inr rfl⟩
      rcases hz with rfl | rfl | rfl | ⟨hz, _⟩
      · rw [show C.heap[k]? = _ from h7] at ho
        cases ho
      · omega
      · omega
      · rw [hc] at hz; cases hz)
    have hp8 : Boxed w8 pb 24 (.pointer (some ⟨B, 0, none⟩)) := hK8.boxed (hX7.boxed h7) (hXt (by decide))
    have hw8 : w7.heap.size ≤ w8.heap.size := hK8.size
    have hown9 := hown8
    rw [HSEC.out] at hown9
    refine wpList_append_run hrun rfl rfl rfl rfl ?_
    refine ⟨rfl, _, rfl, hKP, ?_⟩
    simp only [Act.put, List.setIfInBounds_toArray, List.set_cons_succ, List.set_cons_zero]
    clear hrun hE7 hf hrow hK8 hX7 h1 h2 h3 h5 h7 hKP d3 dB s3 hD hDs hown8 hAg z5 c3 cB
    iterate 2 (refine FY.flow_r rfl rfl rfl ?_; go_big_quiet_step (fail); refine wpQuiet_nil ?_)
    refine FY.flow_ba rfl rfl rfl (by kernel_rfl) (fun w9 hE9 _ => ?_)
    replace hE9 : Ext w8 w9 := hE9
    have hA9 := hA8.ext hE9
    have hV9 := hE9.boxed hV8
    have hown10 := hE9.owns hown9
    have c9 := hA9.cell (i := 0) rfl
    have f9 := hA9.frozen 0
    have kc := keep_setCell w9 B' 0 (.slice a2 (k + 1) c2)
    have hA10 := hA9.set 0 (.slice a2 (k + 1) c2)
    simp only [List.set_cons_zero] at hA10
    have hV10 := hV9.other (show P3 ≠ B' from fun h => hBP h.symm) (.slice a2 (k + 1) c2)
    have hown11 : (w9.setCell ⟨B', 0, none⟩ (.slice a2 (k + 1) c2)).ownsRow w.heap.size 22 64 (.slice a2 (k + 1) c2) (k + 1) ((s.F.take ((k + 1) * 64)).map u8v) :=
      Keep.owns' ((Keep.refl (fun k o => k = B' ∧ ∃ cur, o = .cells cur 52 (0, 0)) w9).setCell ⟨B', 0, none⟩ (.slice a2 (k + 1) c2) (fun o ho => ⟨rfl, by rw [show w9.heap[B']? = _ from hA9] at ho; cases ho; exact ⟨_, rfl⟩⟩)) hown10 (fun g cur hg ⟨_, _, he⟩ => by cases he)
    have hp10 := (hE9.boxed hp8).other (show pb ≠ B' by omega) (.slice a2 (k + 1) c2)
    have kk10 := (kk8.trans (Keep.of_ext hE9)).setCell ⟨B', 0, none⟩ (.slice a2 (k + 1) c2) (fun o ho => ⟨fun h => by rcases h with h | h | h | ⟨h, _⟩; (replace h : B' = pb := h; omega); (replace h : B' = B := h; omega); (replace h : B' = gs := h; omega); (rw [hc] at h; cases h), .inl (by show B' < _; omega)⟩)
    have hE10 := (hE8.trans hE9).setCell ⟨B', 0, none⟩ (.slice a2 (k + 1) c2) (fun o ho => by have := Keep.lt ho; replace this : B' < w.heap.size := this; omega)
    have hX10 : Keep (fun b _ => b ≠ P3) w9 (w9.setCell ⟨B', 0, none⟩ (.slice a2 (k + 1) c2)) := kc.mono (fun b o _ h => by rw [h]; exact hBP)
    clear hA9 hV9 hown10 hA8 hV8 hown9 kk8 hE8 hE9 kc hp8
    have HX10 := Lib.hid hX10
    clear hX10
    go_wp2
    refine ⟨HX10.out, ?_⟩
    refine FY.flow_end (fun D hED _ => ?_)
    replace hED : Ext _ D := hED
    have hA11 := hA10.ext hED
    have hV11 := hED.boxed hV10
    have hown12 := hED.owns hown11
    have kk11 := kk10.trans (Keep.of_ext hED)
    have hE11 := hE10.trans hED
    have hp11 := hED.boxed hp10
    clear hA10 hV10 hown11 kk10 hE10 hED c9 f9 HX10 hp10
    have hsD := kk11.size
    gi_wp2
    refine hKN _ _ kk11 ⟨by omega, hV11, ⟨a2, c2, hA11, .inl hown12, fun h => by omega⟩, hE11, by omega, hp11⟩
  case done =>
    rintro D A hD ⟨h0, h1, ⟨av, cv, h2, h3, h4⟩, h5, h6, h7⟩ hd
    have cP := h1.cell
    have hA2 : Boxed (A.putObj D (.deferred none)) P3 24 (.pointer (some ⟨B', 0, none⟩)) := (World.putObj_heap_other (fun he => by
      subst he
      rw [show A.heap[P3]? = _ from h1] at hd
      cases hd)).trans h1
    go_wp2
    refine mark_ret hd rfl (results_tmp rfl _ _ _) (hR _ _ ?_)
    have kD : Keep (fun k o => k = D ∧ o.isCells = false) A (A.putObj D (.deferred none)) := (Keep.refl _ A).putObj _ _ (fun o ho => ⟨rfl, by rw [hd] at ho; cases ho; rfl⟩)
    have hA3 := h2.keep kD (fun h => by cases h.2)
    have hE3 : Ext w (A.putObj D (.deferred none)) := h5.putObj _ _ (fun o ho => by have := Keep.lt ho; omega)
    have hM := HM.out
    have hFl := hlen.out
    have hFt : s.F.take (n * 64) = s.F := List.take_of_length_le (by omega)
    rw [hFt] at h3
    have hn := HN.out
    have hlt : ∀ b, b < A.heap.size → b < (A.putObj D (.deferred none)).heap.size := fun b hb => by simpa using hb
    have mk : ∀ g cap' tl', Arr (A.putObj D (.deferred none)) B' 52 [.slice (some ⟨g, 0, none⟩) n cap', .slice a1 0 c1', .int .i64 (s.wr : Int), .bool s.pw] → (0 < n → Arr (A.putObj D (.deferred none)) g 22 (s.F.map u8v ++ tl')) → n ≤ cap' → cap' ≤ 9223372036854775807 → g < A.heap.size → B' ≠ g →
        PD (A.putObj D (.deferred none)) B' g 0 s := fun g cap' tl' q1 q2 q3 q4 q5 q6 => by
      refine ⟨⟨a1, c1', cap', tl', by rw [hn, hc]; exact q1, ?_, (fun p _ hp => by rw [hc] at hp; cases hp), by rw [hn]; exact q2, by rw [hn]; exact q3, q4⟩, by rw [hn]; exact hFl, hlt _ q5, q6, (fun hp => by rw [hc] at hp; cases hp), (fun hp => by rw [hc] at hp; cases hp), by omega⟩
      rw [hc]
      exact ⟨Nat.zero_le _, hM.1, rfl, hM.2, fun h => by cases h⟩
    rcases h3 with h3 | ⟨rfl, _, p, hp⟩
    · rcases h3.2 with ⟨q1, q2⟩ | ⟨g, cap9, cur, q1, q2, q3, q4, q5, q6, q7⟩
      · cases q1
        obtain ⟨q3, _⟩ := h4 q2
        cases q3
      · cases q1
        refine ⟨B', g, rfl, mk g cv (cur.toList.drop (n * 64)) hA3 (fun _ => ?_) q4 q5 (Keep.lt q3) (fun he => ?_), hB1, fun _ => q2, hE3⟩
        · have hg : Arr A g 22 cur.toList := q3
          rw [← List.take_append_drop (n * 64) cur.toList, q7] at hg
          exact hg.keep kD (fun h => by cases h.2)
        · subst he
          unfold Arr at h2
          rw [q3] at h2
          cases h2
    · cases hp
      obtain ⟨q1, _⟩ := h4 rfl
      cases q1
      exact ⟨B', gs, rfl, mk gs 0 [] hA3 (fun h => by cases h) (Nat.le_refl _) (Nat.zero_le _) (by omega) (by omega), hB1, (fun h => by rw [hn] at h; cases h), hE3⟩
  case stop =>
    rintro D cd k A hD hkN h
    exact h.elim
end Go.Proofs.Ythbffmdfdbfioaa
