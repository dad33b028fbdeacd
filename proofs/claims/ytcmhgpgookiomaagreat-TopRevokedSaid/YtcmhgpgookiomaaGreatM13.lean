/-
  TopRevoked: read: the realms that a group reads, an iterator over a ring that its rounds turn. how a ring grows by a change (plain). sets within a ring are turned; a cell for what was looked up. enrol: one is enrolled. grant: a group reads.
-/
import Derived.Test.YtcmhgpgookiomaaGreatM02
import Derived.Test.YtcmhgpgookiomaaGreatM03
import Derived.Test.YtcmhgpgookiomaaGreatM12
import Derived.WalkMore
namespace Go.Proofs.YtcmhgpgookiomaaGreat
open Go.RowKit Go.Shelf Go.Maps

attribute [local go_sem] Oper.semAt_some

theorem filter_at (p : Nat → Bool) (l : List Nat) (k x : Nat) (hk : l[k]? = some x) (hp : p x = true) : (l.filter p)[((l.take k).filter p).length]? = some x ∧ ((l.take (k + 1)).filter p).length = ((l.take k).filter p).length + 1 := by
  obtain ⟨h1, h2⟩ := List.getElem?_eq_some_iff.1 hk
  have h3 : l = l.take k ++ x :: l.drop (k + 1) := by rw [← h2, ← List.drop_eq_getElem_cons h1, List.take_append_drop]
  constructor
  · have h4 : l.filter p = (l.take k).filter p ++ x :: (l.drop (k + 1)).filter p := by
      conv => lhs; rw [h3]
      rw [List.filter_append, List.filter_cons_of_pos hp]
    rw [h4, List.getElem?_append_right (Nat.le_refl _)]
    simp
  · rw [List.take_add_one, hk, List.filter_append]
    simp [hp]
theorem filter_skip (p : Nat → Bool) (l : List Nat) (k x : Nat) (hk : l[k]? = some x) (hp : p x = false) : ((l.take (k + 1)).filter p).length = ((l.take k).filter p).length := by
  rw [List.take_add_one, hk, List.filter_append]
  simp [hp]

/-- What the rounds of a loop over 'read' may turn. -/
def RdY (_ : Nat) (o : Obj) : Prop := (∀ cur fr, o ≠ .cells cur 22 fr) ∧ (∀ cur fr, o ≠ .cells cur 33 fr) ∧ (∀ r, o ≠ .loop r) ∧ ∀ d, o ≠ .deferred d
theorem RdY.of_rg {N TB A PL k : Nat} {o : Obj} (h : RgX N TB A PL k o) : RdY k o := by
  have key : ∀ {cur : Array Value} {t : TypeId} {fr : Nat × Nat}, t ≠ 69 → t ≠ 75 → t ≠ 107 → o ≠ .cells cur t fr := fun h1 h2 h3 e => by rw [e] at h; exact RgX.cells h1 h2 h3 h
  refine ⟨fun _ _ => key (by decide) (by decide) (by decide), fun _ _ => key (by decide) (by decide) (by decide), fun r e => ?_, fun d e => ?_⟩
  · rw [e] at h
    rcases h with (⟨_, _, h⟩ | ⟨_, _, _, h⟩) | ⟨_, ⟨_, _, h⟩ | ⟨_, _, h⟩ | ⟨_, _, h⟩⟩ <;> cases h
  · rw [e] at h
    rcases h with (⟨_, _, h⟩ | ⟨_, _, _, h⟩) | ⟨_, ⟨_, _, h⟩ | ⟨_, _, h⟩ | ⟨_, _, h⟩⟩ <;> cases h
theorem RdY.nu {k : Nat} {cur : Array Value} {fr : Nat × Nat} : ¬ loopY RdY k (.cells cur 22 fr) := fun h => by
  rcases h with h | ⟨_, h⟩
  · exact h.1 _ _ rfl
  · cases h
theorem RdY.nr {k : Nat} {cur : Array Value} {fr : Nat × Nat} : ¬ loopY RdY k (.cells cur 33 fr) := fun h => by
  rcases h with h | ⟨_, h⟩
  · exact h.2.1 _ _ rfl
  · cases h

theorem read_any (w : World) (R g : Nat) : Calls Tryz.prog 60 #[.pointer (some ⟨R, 0, none⟩), .int .u32 (g : Int)] w fun e w' =>
    e = .returned (.func (.func 80) #[] #[.pointer (some ⟨w.heap.size, 0, none⟩), .pointer (some ⟨w.heap.size + 1, 0, none⟩)]) ∧ w' = (w.alloc (.cells #[.pointer (some ⟨R, 0, none⟩)] 33)).alloc (.cells #[.int .u32 (g : Int)] 22) := by
  go_enter Tryz.func60, Tryz.ntmps60
  go_wp2
  go_ret
  exact ⟨rfl, rfl⟩
/-- A set's look-up. -/
theorem NMap.has {w : World} {b : Nat} {l : List (Nat × Unit)} (h : NMap w b SetV l) {n : Nat} (hn : n < 4294967296) : (Instr.lookup 137 (.map (some b)) (.int .u32 (n : Int)) false).run Tryz.prog w = .ok (.bool (getA l n).isSome) w := by
  have := h.look1 Tryz.underlying137 (zero_bool w) hn
  unfold u32n at this
  rw [this]
  cases getA l n <;> rfl
def rdIn (D : List (Nat × List (Nat × Unit))) (g m : Nat) : Bool := (getA ((getA D m).getD []) g).isSome
theorem rdIn_eq (r : PR) (g m : Nat) : rdIn r.rdr g m = (getA (rdrA r m) g).isSome := rfl
theorem readP_eq (r : PR) (g : Nat) : readP r g = (numsA r.rlm).filter (rdIn r.rdr g) := rfl
/-- A ring of these readers. -/
def RdInv (N R Q TB A PL : Nat) (D : List (Nat × List (Nat × Unit))) (w : World) : Prop := ∃ st, RingAt w N R Q TB A PL st ∧ st.1.rdr = D

set_option maxRecDepth 20000 in
set_option maxHeartbeats 4000000 in
theorem read1_iter {N R Q TB A PL C1 C2 g : Nat} (ms : List Nat) (D : List (Nat × List (Nat × Unit))) (hg : g < 4294967296) (hl : ms.length ≤ 12) (hD : ∀ m ∈ ms, m < 4294967296 ∧ In D m) :
    IterR Tryz.prog 80 #[.pointer (some ⟨C1, 0, none⟩), .pointer (some ⟨C2, 0, none⟩)] (ms.filter (rdIn D g)).length (fun k => u32n ((ms.filter (rdIn D g)).getD k 0)) (RdInv N R Q TB A PL D) RdY
      (fun w => Arr w C1 33 [.pointer (some ⟨R, 0, none⟩)] ∧ Arr w C2 22 [.int .u32 (g : Int)] ∧ ∃ st, RingAt w N R Q TB A PL st ∧ numsA st.1.rlm = ms) := by
  intro lp J Jx W hP hJ hInv hY h0
  obtain ⟨a1, a2, st, ⟨b1, b2, b3, b4, b5, L4, L5, v, bv, hr⟩, hms⟩ := hP
  have hk := fun w => keysK_any w (some b3)
  have hE0 : Ext W (W.alloc (.cells #[.map (some b3)] 72)) := (Keep.refl _ W).alloc _
  have hll : st.1.rlm.length = ms.length := by rw [← hms]; simp [numsA]
  have hs := sorted_any (keysK_iter keyedV st.1.rlm W.heap.size b3) (enters_of Tryz.func97 (by kernel_rfl) rfl) (by omega) (W.alloc (.cells #[.map (some b3)] 72))
    (fun B hB => ⟨Arr.ext (Arr.new W 72 [.map (some b3)]) hB, (hr.rlm.ext hE0).ext hB⟩) (fun ss hss => by rw [hss.length_eq, hms]; exact hl)
  have hup := up_nums hr.rlm.rise
  rw [hms] at hs hup
  have c1 := a1.cell (i := 0) rfl
  have c3 := hr.cells.cell (i := 3) rfl
  have HUP := Lib.hid hup
  have HDD := Lib.hid hD
  have HE0 := Lib.hid hE0
  have HKK := Lib.hid hk
  have HS := Lib.hid hs
  have HHY := Lib.hid hY
  have HJJ := Lib.hid hJ
  have HINV := Lib.hid hInv
  clear hk hs hY hJ hInv hr hms hll hE0 hD hup
  refine callsIn_wide.1 (callsIn_of_wp (F := Fence.wide) (n := 3) Tryz.func80 rfl trivial ?_ rfl)
  simp only [Tryz.ntmps80, List.size_toArray, List.length_cons, List.length_nil, Nat.reduceAdd, Nat.reduceSub, Array.replicate_succ, Array.replicate_zero, List.push_toArray, List.append_toArray, List.nil_append, List.cons_append]
  refine wpIn_wide.2 (wp_scope_straight ((wpIn_wide (n := 3)).1 ?_))
  refine wpIn_seq (wpIn_label ?_)
  simp only [Exit.then]
  gi_wp2_with fail
  refine ⟨trivial, (callsIn_wide.2 (HKK.out W)).mono ?_⟩
  rintro e w1 ⟨rfl, rfl⟩
  gi_wp2_with fail
  refine ⟨trivial, (callsIn_wide.2 HS.out).mono ?_⟩
  rintro e w2 ⟨u, ys, ss, rfl, h1, h2, h3, h4, h5⟩
  have hys : ys = ms := up_perm (h2.trans h1) h3 HUP.out
  subst hys
  obtain ⟨au, cu, rfl, _⟩ := owns_row h4
  have e2 : Ext W w2 := HE0.out.trans h5
  replace a1 := a1.ext e2
  replace a2 := a2.ext e2
  have hJ2 := HJJ.out _ _ _ h0 e2
  obtain ⟨n, hn⟩ : ∃ n, ys.length = n := ⟨_, rfl⟩
  rw [hn] at h4 hl ⊢
  have HN := Lib.hid hn
  obtain ⟨base, hbase⟩ : ∃ b, (W.alloc (.cells #[.map (some b3)] 72)).heap.size = b := ⟨_, rfl⟩
  rw [hbase] at h4
  have HO := Lib.hid h4
  clear h1 h2 h3 h4 h5 e2 hn c1 c3 HE0 h0 hbase
  gi_wp2
  gi_loopw [13] (fun ix wr => ∃ k : Nat, k ≤ n ∧ ix = .int .i64 (k : Int) ∧ J ((ys.take k).filter (rdIn D g)).length wr ∧ Arr wr C1 33 [.pointer (some ⟨R, 0, none⟩)] ∧ Arr wr C2 22 [.int .u32 (g : Int)] ∧ Hid (wr.ownsRow base 22 1 (.slice au n cu) n (ys.map u32n))) (fun ix _ => n - (vI ix).toNat)
  case atStart => exact ⟨0, by omega, rfl, hJ2, a1, a2, HO⟩
  case round =>
    obtain ⟨k, hk, rfl, hJk, d1, d2, HOk⟩ := hrel
    clear hJ2 a1 a2
    by_cases hlt : k < n
    · obtain ⟨x, hx⟩ : ∃ x, ys[k]? = some x := ⟨_, List.getElem?_eq_getElem (by have := HN.out; omega)⟩
      obtain ⟨hx1, hx2⟩ := HDD.out x (List.mem_of_getElem? hx)
      obtain ⟨_, _, q, hrow⟩ := owns_row HOk.out
      cases q
      obtain ⟨bu, ou, rfl, hcell⟩ := hrow.2.2.2.2 (by omega)
      have hxv : (ys.map u32n)[k]? = some (.int .u32 (x : Int)) := by rw [List.getElem?_map, hx]; rfl
      have ck := hcell k _ hxv
      obtain ⟨st', ⟨b1', b2', b3', b4', b5', L4', L5', v', bv', hr⟩, hrd⟩ := HINV.out _ _ hJk
      obtain ⟨br, hlr, hmr⟩ := hr.look_rdr hx1 (by rw [hrd]; exact hx2)
      have hhas := fun B (hB : Ext wr B) => (hmr.ext hB).has hg
      have hl5 : ∀ B, Ext wr B → (Instr.lookup 73 (.map (some b5')) (.int .u32 (x : Int)) false).run Tryz.prog B = .ok (.map (some br)) B := fun B hB => by
        obtain ⟨br', q1, _⟩ := (hr.ext hB).look_rdr hx1 (by rw [hrd]; exact hx2)
        have q2 := (hr.ext hB).rdr.map.look1 Tryz.underlying73 (zero_set B) hx1
        have q3 := hr.rdr.map.look1 Tryz.underlying73 (zero_set wr) hx1
        have hlr' := hlr
        unfold u32n at q2 q3
        rw [q3] at hlr'
        have hv : ((getA L5' x).map refV).getD (.map none) = .map (some br) := by
          simpa using hlr'
        rw [q2, hv]
      have hin : (getA (rdrA st'.1 x) g).isSome = rdIn D g x := by rw [← rdIn_eq, hrd]
      rw [hin] at hhas
      have c5 := fun B (hB : Ext wr B) => Ext.cell hB (hr.cells.cell (i := 5) rfl)
      have HC5 := Lib.hid c5
      have HL5 := Lib.hid hl5
      have HHAS := Lib.hid hhas
      have HX := Lib.hid hx
      obtain ⟨p, hp⟩ : ∃ p, rdIn D g x = p := ⟨_, rfl⟩
      rw [hp] at hhas
      have HHAS := Lib.hid hhas
      have HPP := Lib.hid hp
      clear hr hlr hmr hhas hl5 hin c5 hx hx1 hx2 hxv hcell hrow hp hrd
      gi_wp2_with fail
      have e1 := fun g : FR.At (fun _ _ => False) wr.drew => (((Keep.refl (fun _ _ => False) wr).drew).trans g.ext)
      have g1 := fun g : FR.At (fun _ _ => False) wr.drew => (d1.ext (e1 g)).cell (i := 0) rfl
      have g2 := fun g : FR.At (fun _ _ => False) wr.drew => (d2.ext (e1 g)).cell (i := 0) rfl
      have g5 := fun g : FR.At (fun _ _ => False) wr.drew => HC5.out g.w (e1 g)
      clear e1
      refine FR.wpIn_flow (X := fun _ _ => False) (0 :: 1 :: 2 :: 3 :: 4 :: 5 :: 6 :: 7 :: 8 :: []) (fun _ => .reads) (fun n => by simp) (by kernel_rfl) (by kernel_rfl) (by kernel_rfl) ?_
      iterate 5 (refine FR.flow_r rfl rfl rfl ?_; go_big_quiet_step (fail); refine wpQuiet_nil ?_)
      refine FR.flow_v (v := .map (some br)) rfl rfl rfl (fun w' hE => exec_lookup' rfl (HL5.out w' (((Keep.refl _ wr).drew).trans hE))) ?_
      simp only [Act.put, List.setIfInBounds_toArray, List.set_cons_succ, List.set_cons_zero]
      refine FR.flow_r rfl rfl rfl ?_; go_big_quiet_step (fail); refine wpQuiet_nil ?_
      refine FR.flow_v (v := .bool p) rfl rfl rfl (fun w' hE => exec_lookup' rfl (HHAS.out w' (((Keep.refl _ wr).drew).trans hE))) ?_
      simp only [Act.put, List.setIfInBounds_toArray, List.set_cons_succ, List.set_cons_zero]
      refine FR.flow_r rfl rfl rfl ?_; go_big_quiet_step (fail); refine wpQuiet_nil ?_
      refine FR.flow_end (fun w4 hE4 _ => ?_)
      replace hE4 : Ext wr w4 := ((Keep.refl _ wr).drew).trans hE4
      replace d1 := d1.ext hE4
      replace d2 := d2.ext hE4
      have HO4 := Lib.hid (Ext.owns hE4 HOk.out)
      replace hJk := HJJ.out _ _ _ hJk hE4
      clear g1 g2 g5 ck HOk hE4
      cases p with
      | false =>
        have hst := filter_skip (rdIn D g) ys k x HX.out HPP.out
        have HST := Lib.hid hst
        clear hst
        gi_wp2
        go_roundw
        case rel => exact ⟨k + 1, by omega, by go_num, by rw [HST.out]; exact hJk, d1, d2, HO4⟩
        case measure => simp [vI]; omega
      | true =>
        obtain ⟨hat, hst⟩ := filter_at (rdIn D g) ys k x HX.out HPP.out
        obtain ⟨hlt2, hget⟩ := List.getElem?_eq_some_iff.1 hat
        have hgd : (ys.filter (rdIn D g)).getD ((ys.take k).filter (rdIn D g)).length 0 = x := by rw [List.getD_eq_getElem?_getD, hat]; rfl
        have hy0 := HHY.out _ w4 hlt2 hJk
        simp only [hgd] at hy0
        obtain ⟨fn, tmps, assign, body, hy, hRd⟩ := hy0
        unfold u32n at hy
        have HST := Lib.hid hst
        have HL2 := Lib.hid hlt2
        clear hst hlt2 hat hget hgd hJk
        gi_wp2
        refine (roundIn_wide hRd).mono ?_
        rintro e W3 (⟨rfl, hJ3, hK3⟩ | ⟨rfl, hJx3⟩)
        · have d1' := d1.keep hK3 RdY.nr
          have d2' := d2.keep hK3 RdY.nu
          have HO3 := Lib.hid (hK3.owns' HO4.out (fun _ _ _ => RdY.nu))
          clear hRd hy hK3 d1 d2 HO4
          gi_wp2
          go_roundw
          case rel => exact ⟨k + 1, by omega, by go_num, by rw [HST.out]; exact hJ3, d1', d2', HO3⟩
          case measure => simp [vI]; omega
        · clear hRd hy d1 d2 HO4
          gi_wp2
          simp only [Exit.noGoto]
          refine bodyPost_ret (results_none rfl _ _ _) rfl ?_
          exact ⟨⟨_, rfl⟩, .inr ⟨_, HL2.out, hJx3⟩⟩
    · obtain rfl : k = n := by omega
      rw [List.take_of_length_le (by have := HN.out; omega)] at hJk
      gi_wp2
      simp only [Exit.noGoto]
      go_end0
      exact ⟨⟨_, rfl⟩, .inl hJk⟩
end Go.Proofs.YtcmhgpgookiomaaGreat
namespace Go.Proofs.YtcmhgpgookiomaaGreat

theorem nums_put {α : Type} {l : List (Nat × α)} {n : Nat} {x : α} (hr : Rise l) (h : In l n) : numsA (putA l n x) = numsA l := by
  induction l with
  | nil => simp [In, getA] at h
  | cons p l ih =>
    obtain ⟨k, v⟩ := p
    obtain ⟨h1, h2⟩ := List.pairwise_cons.1 hr
    unfold putA
    by_cases a : n = k
    · subst a
      rw [if_neg (by omega), if_pos rfl]
      rfl
    · have h3 : In l n := by
        unfold In getA at h
        rwa [if_neg (Ne.symm a)] at h
      have h4 : k < n := by
        obtain ⟨y, hy⟩ := Option.isSome_iff_exists.1 h3
        exact h1 _ (getA_mem hy)
      rw [if_neg (by omega), if_neg a]
      have := ih h2 h3
      unfold numsA at this ⊢
      simp only [List.map_cons, this]
theorem rise_nums {α β : Type} {l : List (Nat × α)} {l' : List (Nat × β)} (h : numsA l' = numsA l) (hr : Rise l) : Rise l' := by
  have h1 : (numsA l).Pairwise (· < ·) := by unfold numsA; rw [List.pairwise_map]; exact hr
  rw [← h] at h1
  unfold numsA at h1
  rw [List.pairwise_map] at h1
  exact h1
theorem in_of_nums {α β : Type} {l : List (Nat × α)} {l' : List (Nat × β)} (h : numsA l' = numsA l) {n : Nat} : In l' n ↔ In l n := by rw [← in_nums, ← in_nums, h]
theorem len_of_nums {α β : Type} {l : List (Nat × α)} {l' : List (Nat × β)} (h : numsA l' = numsA l) : l'.length = l.length := by
  have := congrArg List.length h
  simpa [numsA] using this

/-- Keys and boxes alone have turned. -/
structure Eff (st st' : St) (n : Nat) : Prop where
  sec : st'.1.sec = st.1.sec
  mem : st'.1.mem = st.1.mem
  rdr : st'.1.rdr = st.1.rdr
  grp : numsA st'.1.grp = numsA st.1.grp
  rlm : numsA st'.1.rlm = numsA st.1.rlm
  box : st'.1.box.length ≤ st.1.box.length + n
theorem Eff.refl (st : St) : Eff st st 0 := ⟨rfl, rfl, rfl, rfl, rfl, Nat.le_refl _⟩
theorem Eff.trans {a b c : St} {n m : Nat} (h : Eff a b n) (k : Eff b c m) : Eff a c (n + m) := ⟨k.sec.trans h.sec, k.mem.trans h.mem, k.rdr.trans h.rdr, k.grp.trans h.grp, k.rlm.trans h.rlm, by have := h.box; have := k.box; omega⟩
theorem Eff.le {a b : St} {n m : Nat} (h : Eff a b n) (hm : n ≤ m) : Eff a b m := { h with box := by have := h.box; omega }
theorem Eff.of_like {st st' : St} (h : Like st.1 st'.1 ∧ st'.1.box.length = st.1.box.length + 1) : Eff st st' 1 :=
  ⟨h.1.sec, h.1.mem, h.1.rdr, by rw [h.1.grp], by rw [h.1.rlm], by omega⟩
theorem each_eff {f : St → Nat → Option St} {n : Nat} {R : PR → Prop} (hR : ∀ a b m, R a.1 → Eff a b m → R b.1) : ∀ (l : List Nat) (st st' : St), R st.1 → (∀ a b x, x ∈ l → R a.1 → f a x = some b → Eff a b n) → eachP f l st = some st' → Eff st st' (n * l.length)
  | [], st, st', _, _, h => by cases h; exact Eff.refl _
  | x :: l, st, st', hr, hf, h => by
    unfold eachP at h
    obtain ⟨s1, h1, h2⟩ := Option.bind_eq_some_iff.1 h
    have e1 := hf _ _ _ (List.mem_cons_self ..) hr h1
    have e2 := each_eff hR l s1 st' (hR _ _ _ hr e1) (fun a b y hy => hf a b y (List.mem_cons_of_mem _ hy)) h2
    refine (e1.trans e2).le ?_
    rw [List.length_cons, Nat.mul_add, Nat.mul_one, Nat.add_comm]
    exact Nat.le_refl _
theorem numsA_len {α : Type} (l : List (Nat × α)) : (numsA l).length = l.length := by simp [numsA]
theorem rekeyP_eff {st st' : St} {g : Nat} (hr : Rise st.1.grp) (hg : In st.1.grp g) (h : rekeyP st g = some st') : Eff st st' (memA st.1 g).length := by
  unfold rekeyP at h
  obtain ⟨x, h1, h2⟩ := Option.bind_eq_some_iff.1 h
  have e2 := each_eff (R := fun _ => True) (fun _ _ _ _ _ => trivial) _ _ _ trivial (fun a b y _ _ h => Eff.of_like (memberP_like h)) h2
  rw [Nat.one_mul, numsA_len] at e2
  exact ⟨e2.sec, e2.mem, e2.rdr, by rw [e2.grp]; exact nums_put hr hg, e2.rlm, e2.box⟩
theorem turnP_eff {st st' : St} {m : Nat} (hr : Rise st.1.rlm) (hm : In st.1.rlm m) (h : turnP st m = some st') : Eff st st' (1 + (rdrA st.1 m).length) := by
  unfold turnP at h
  obtain ⟨x, h1, h2⟩ := Option.bind_eq_some_iff.1 h
  obtain ⟨s1, h3, h4⟩ := Option.bind_eq_some_iff.1 h2
  have e1 := Eff.of_like (boxP_like h3)
  have e2 := each_eff (R := fun _ => True) (fun _ _ _ _ _ => trivial) _ _ _ trivial (fun a b y _ _ h => Eff.of_like (readerP_like h)) h4
  have hrd : rdrA s1.1 m = rdrA st.1 m := by unfold rdrA; rw [e1.rdr]
  rw [Nat.one_mul, numsA_len, hrd] at e2
  have e3 := e1.trans e2
  exact ⟨e3.sec, e3.mem, e3.rdr, e3.grp, by rw [e3.rlm]; exact nums_put hr hm, e3.box⟩

/-- A ring whose parts have at most k entries, and at most b boxes. -/
structure Small (k b : Nat) (r : PR) : Prop where
  box : r.box.length ≤ b
  sec : r.sec.length ≤ k
  grp : r.grp.length ≤ k
  rlm : r.rlm.length ≤ k
  mem : r.mem.length ≤ k
  rdr : r.rdr.length ≤ k
  imem : ∀ g, (memA r g).length ≤ k
  irdr : ∀ m, (rdrA r m).length ≤ k
  rsec : Rise r.sec
  rgrp : Rise r.grp
  rrlm : Rise r.rlm
  rmem : Rise r.mem
  rrdr : Rise r.rdr
theorem Small.mono {k k' b b' : Nat} {r : PR} (h : Small k b r) (hk : k ≤ k') (hb : b ≤ b') : Small k' b' r :=
  { h with
    box := Nat.le_trans h.box hb
    sec := Nat.le_trans h.sec hk
    grp := Nat.le_trans h.grp hk
    rlm := Nat.le_trans h.rlm hk
    mem := Nat.le_trans h.mem hk
    rdr := Nat.le_trans h.rdr hk
    imem := fun g => Nat.le_trans (h.imem g) hk
    irdr := fun g => Nat.le_trans (h.irdr g) hk }
theorem Small.eff {k b n : Nat} {st st' : St} (h : Small k b st.1) (e : Eff st st' n) : Small k (b + n) st'.1 :=
  { box := by have := e.box; have := h.box; omega
    sec := by rw [e.sec]; exact h.sec
    grp := by rw [len_of_nums e.grp]; exact h.grp
    rlm := by rw [len_of_nums e.rlm]; exact h.rlm
    mem := by rw [e.mem]; exact h.mem
    rdr := by rw [e.rdr]; exact h.rdr
    imem := fun g => by unfold memA; rw [e.mem]; exact h.imem g
    irdr := fun g => by unfold rdrA; rw [e.rdr]; exact h.irdr g
    rsec := by rw [e.sec]; exact h.rsec
    rgrp := rise_nums e.grp h.rgrp
    rrlm := rise_nums e.rlm h.rrlm
    rmem := by rw [e.mem]; exact h.rmem
    rrdr := by rw [e.rdr]; exact h.rrdr }
theorem del_len {α : Type} (l : List (Nat × α)) (n : Nat) : (delA l n).length ≤ l.length := List.length_filter_le _ _
theorem Small.putMem {k b : Nat} {r : PR} (h : Small k b r) (g : Nat) (s : List (Nat × Unit)) (hs : s.length ≤ k + 1) : Small (k + 1) b { r with mem := putA r.mem g s } :=
  { h.mono (Nat.le_succ k) (Nat.le_refl b) with
    mem := by have := len_put r.mem g s; have := h.mem; show (putA r.mem g s).length ≤ k + 1; omega
    imem := fun g' => by
      show ((getA (putA r.mem g s) g').getD []).length ≤ k + 1
      rw [memA_put h.rmem]
      split
      · exact hs
      · exact Nat.le_succ_of_le (h.imem g')
    rmem := rise_put h.rmem _ _ }
theorem Small.putRdr {k b : Nat} {r : PR} (h : Small k b r) (g : Nat) (s : List (Nat × Unit)) (hs : s.length ≤ k + 1) : Small (k + 1) b { r with rdr := putA r.rdr g s } :=
  { h.mono (Nat.le_succ k) (Nat.le_refl b) with
    rdr := by have := len_put r.rdr g s; have := h.rdr; show (putA r.rdr g s).length ≤ k + 1; omega
    irdr := fun g' => by
      show ((getA (putA r.rdr g s) g').getD []).length ≤ k + 1
      rw [rdrA_put h.rrdr]
      split
      · exact hs
      · exact Nat.le_succ_of_le (h.irdr g')
    rrdr := rise_put h.rrdr _ _ }
theorem Small.delMem {k b : Nat} {r : PR} (h : Small k b r) (g w : Nat) (hin : In r.mem g) : Small k b { r with mem := putA r.mem g (delA (memA r g) w) } :=
  { h with
    mem := by rw [len_of_nums (nums_put h.rmem hin)]; exact h.mem
    imem := fun g' => by
      show ((getA (putA r.mem g (delA (memA r g) w)) g').getD []).length ≤ k
      rw [memA_put h.rmem]
      split
      · exact Nat.le_trans (del_len _ _) (h.imem g)
      · exact h.imem g'
    rmem := rise_put h.rmem _ _ }
theorem Small.delRdr {k b : Nat} {r : PR} (h : Small k b r) (g w : Nat) (hin : In r.rdr g) : Small k b { r with rdr := putA r.rdr g (delA (rdrA r g) w) } :=
  { h with
    rdr := by rw [len_of_nums (nums_put h.rrdr hin)]; exact h.rdr
    irdr := fun g' => by
      show ((getA (putA r.rdr g (delA (rdrA r g) w)) g').getD []).length ≤ k
      rw [rdrA_put h.rrdr]
      split
      · exact Nat.le_trans (del_len _ _) (h.irdr g)
      · exact h.irdr g'
    rrdr := rise_put h.rrdr _ _ }
theorem read_in {r : PR} {g m : Nat} (h : m ∈ readP r g) : In r.rlm m := (mem_read.1 h).1
theorem read_len (r : PR) (g : Nat) : (readP r g).length ≤ r.rlm.length := by
  unfold readP
  have := List.length_filter_le (fun m => (getA (rdrA r m) g).isSome) (numsA r.rlm)
  rwa [numsA_len] at this
/-- The turns of some realms. -/
theorem turns_eff {l : List Nat} {st st' : St} (hr : Rise st.1.rlm) (hl : ∀ m ∈ l, In st.1.rlm m) (h12 : ∀ m, (rdrA st.1 m).length ≤ 12) (h : eachP turnP l st = some st') : Eff st st' (13 * l.length) := by
  refine each_eff (R := fun r => Rise r.rlm ∧ (∀ m ∈ l, In r.rlm m) ∧ ∀ m, (rdrA r m).length ≤ 12) (fun a b m hR e => ⟨rise_nums e.rlm hR.1, fun m hm => (in_of_nums e.rlm).2 (hR.2.1 m hm), fun m => by unfold rdrA; rw [e.rdr]; exact hR.2.2 m⟩) l st st' ⟨hr, hl, h12⟩ (fun a b x hx hR hf => (turnP_eff hR.1 (hR.2.1 x hx) hf).le ?_) h
  have := hR.2.2 x
  omega
theorem readers_eff {l : List Nat} {g : Nat} {st st' : St} (h : eachP (fun st m => readerP st m g) l st = some st') : Eff st st' l.length := by
  have := each_eff (R := fun _ => True) (fun _ _ _ _ _ => trivial) _ _ _ trivial (fun a b y _ _ h => Eff.of_like (readerP_like h)) h
  rwa [Nat.one_mul] at this
end Go.Proofs.YtcmhgpgookiomaaGreat
namespace Go.Proofs.YtcmhgpgookiomaaGreat
open Go.RowKit Go.Shelf Go.Maps

attribute [local go_sem] Oper.semAt_some

/-- An inner set has turned. -/
theorem SetsAt.turn {w w' : World} {B b g : Nat} {L : List (Nat × Nat)} {M : List (Nat × List (Nat × Unit))} {s : List (Nat × Unit)} (h : SetsAt w B L M) (hb : getA L g = some b) (hm : NMap w' b SetV s) (hk : Keep (MapX b) w w') : SetsAt w' B L (putA M g s) := by
  refine ⟨h.map.block hk (fun _ _ => mapX_ne (fun e => h.ne g (e ▸ hb))), fun g' => ?_, h.inj, h.ne, rise_put h.rise _ _⟩
  rw [getA_put M g s g' h.rise]
  by_cases e : g' = g
  · subst e
    rw [if_pos rfl]
    exact .inr ⟨b, s, hb, rfl, hm⟩
  · rw [if_neg e]
    refine (h.inner g').imp id ?_
    rintro ⟨b', s', h1, h2, h3⟩
    exact ⟨b', s', h1, h2, h3.block hk (fun _ _ => mapX_ne (fun e' => e (h.inj g' g b (e' ▸ h1) hb)))⟩
section
variable {w w' : World} {N R Q TB A PL : Nat} {r : PR} {s : SSt} {b1 b2 b3 b4 b5 : Nat} {L4 L5 : List (Nat × Nat)} {v : Value} {bv : List (BoxP × Value)}
theorem RingIn.turnMem (h : RingIn w N R Q TB A PL r s b1 b2 b3 b4 b5 L4 L5 v bv) {g b : Nat} {l : List (Nat × Unit)} (hb : getA L4 g = some b) (hm : NMap w' b SetV l) (hk : Keep (MapX b) w w') :
    RingIn w' N R Q TB A PL { r with mem := putA r.mem g l } s b1 b2 b3 b4 b5 L4 L5 v bv := by
  obtain ⟨q0, q1, q2, q3, q5⟩ := h.h4 g b hb
  obtain ⟨h1, h2, h3⟩ := h.rest q0 hk
  exact
  { h with
    cells := h1
    sec := h.sec.block hk (fun _ _ => mapX_ne q1.symm)
    grp := h.grp.block hk (fun _ _ => mapX_ne q2.symm)
    rlm := h.rlm.block hk (fun _ _ => mapX_ne q3.symm)
    mem := h.mem.turn hb hm hk
    rdr := h.rdr.keep hk (fun _ _ => mapX_ne q5.symm) (fun g' b' _ _ hg => mapX_ne (fun e => h.h45 g g' b hb (e ▸ hg)))
    box := h2
    suite := h3
    hasm := fun g' hg => (in_put h.mem.rise).2 (.inr (h.hasm g' hg)) }
theorem RingIn.turnRdr (h : RingIn w N R Q TB A PL r s b1 b2 b3 b4 b5 L4 L5 v bv) {g b : Nat} {l : List (Nat × Unit)} (hb : getA L5 g = some b) (hm : NMap w' b SetV l) (hk : Keep (MapX b) w w') :
    RingIn w' N R Q TB A PL { r with rdr := putA r.rdr g l } s b1 b2 b3 b4 b5 L4 L5 v bv := by
  obtain ⟨q0, q1, q2, q3, q4⟩ := h.h5 g b hb
  obtain ⟨h1, h2, h3⟩ := h.rest q0 hk
  exact
  { h with
    cells := h1
    sec := h.sec.block hk (fun _ _ => mapX_ne q1.symm)
    grp := h.grp.block hk (fun _ _ => mapX_ne q2.symm)
    rlm := h.rlm.block hk (fun _ _ => mapX_ne q3.symm)
    mem := h.mem.keep hk (fun _ _ => mapX_ne q4.symm) (fun g' b' _ _ hg => mapX_ne (fun e => h.h45 g' g b (e ▸ hg) hb))
    rdr := h.rdr.turn hb hm hk
    box := h2
    suite := h3
    hasr := fun g' hg => (in_put h.rdr.rise).2 (.inr (h.hasr g' hg)) }
/-- An inner set's block, the same in every grown world. -/
theorem RingIn.set_mem (h : RingIn w N R Q TB A PL r s b1 b2 b3 b4 b5 L4 L5 v bv) {n : Nat} (hn : n < 4294967296) (hin : In r.mem n) : ∃ b, getA L4 n = some b ∧ (∀ B, Ext w B → (Instr.lookup 73 (.map (some b4)) (.int .u32 (n : Int)) false).run Tryz.prog B = .ok (.map (some b)) B) ∧ ∀ B, Ext w B → NMap B b SetV (memA r n) := by
  obtain ⟨s0, hs0⟩ := Option.isSome_iff_exists.1 hin
  obtain ⟨b, hb, hm⟩ := h.mem.at hs0
  refine ⟨b, hb, fun B hB => ?_, fun B hB => by unfold memA; rw [hs0]; exact hm.ext hB⟩
  have := (h.mem.ext hB).map.look1 Tryz.underlying73 (zero_set B) hn
  rw [hb] at this
  exact this
theorem RingIn.set_rdr (h : RingIn w N R Q TB A PL r s b1 b2 b3 b4 b5 L4 L5 v bv) {n : Nat} (hn : n < 4294967296) (hin : In r.rdr n) : ∃ b, getA L5 n = some b ∧ (∀ B, Ext w B → (Instr.lookup 73 (.map (some b5)) (.int .u32 (n : Int)) false).run Tryz.prog B = .ok (.map (some b)) B) ∧ ∀ B, Ext w B → NMap B b SetV (rdrA r n) := by
  obtain ⟨s0, hs0⟩ := Option.isSome_iff_exists.1 hin
  obtain ⟨b, hb, hm⟩ := h.rdr.at hs0
  refine ⟨b, hb, fun B hB => ?_, fun B hB => by unfold rdrA; rw [hs0]; exact hm.ext hB⟩
  have := (h.rdr.ext hB).map.look1 Tryz.underlying73 (zero_set B) hn
  rw [hb] at this
  exact this
/-- Look-ups that say whether there is an entry. -/
theorem RingIn.has_sec (h : RingIn w N R Q TB A PL r s b1 b2 b3 b4 b5 L4 L5 v bv) {n : Nat} (hn : n < 4294967296) : (Instr.lookup 71 (.map (some b1)) (.int .u32 (n : Int)) true).run Tryz.prog w = .ok (.tuple #[aggK (secA r n), .bool (getA r.sec n).isSome]) w := by
  have := h.sec.look Tryz.underlying71 (zero_key w) hn
  unfold u32n at this
  rw [this]
  unfold secA
  cases getA r.sec n <;> rfl
theorem RingIn.has_grp (h : RingIn w N R Q TB A PL r s b1 b2 b3 b4 b5 L4 L5 v bv) {n : Nat} (hn : n < 4294967296) : (Instr.lookup 72 (.map (some b2)) (.int .u32 (n : Int)) true).run Tryz.prog w = .ok (.tuple #[keyedV (grpA r n), .bool (getA r.grp n).isSome]) w := by
  have := h.grp.look Tryz.underlying72 (zero_keyed w) hn
  unfold u32n at this
  rw [this]
  unfold grpA
  cases getA r.grp n <;> rfl
theorem RingIn.has_rlm (h : RingIn w N R Q TB A PL r s b1 b2 b3 b4 b5 L4 L5 v bv) {n : Nat} (hn : n < 4294967296) : (Instr.lookup 72 (.map (some b3)) (.int .u32 (n : Int)) true).run Tryz.prog w = .ok (.tuple #[keyedV (rlmA r n), .bool (getA r.rlm n).isSome]) w := by
  have := h.rlm.look Tryz.underlying72 (zero_keyed w) hn
  unfold u32n at this
  rw [this]
  unfold rlmA
  cases getA r.rlm n <;> rfl
end
/-- An error's cell, and a loop's own deferred record. -/
def ErrX (B k : Nat) (o : Obj) : Prop := B ≤ k ∧ ((∃ cur fr, o = .cells cur 44 fr) ∨ (∃ d, o = .deferred d) ∨ ∃ r, o = .loop r)
theorem RingAt.keepE {w w' : World} {N R Q TB A PL B : Nat} {st : St} (h : RingAt w N R Q TB A PL st) (hk : Keep (ErrX B) w w') : RingAt w' N R Q TB A PL st := by
  obtain ⟨b1, b2, b3, b4, b5, L4, L5, v, bv, h⟩ := h
  refine ⟨b1, b2, b3, b4, b5, L4, L5, v, bv, h.keep hk (fun k es c hx => ?_) (fun k cur t fr ht hx => ?_)⟩
  · rcases hx.2 with ⟨_, _, h⟩ | ⟨_, h⟩ | ⟨_, h⟩ <;> cases h
  · rcases hx.2 with ⟨_, _, h⟩ | ⟨_, h⟩ | ⟨_, h⟩
    · cases h
      rcases ht with ht | ht | ht | ht | ht <;> cases ht
    · cases h
    · cases h
theorem Keep.errX {w w' w'' : World} {X : Nat → Obj → Prop} (h : Keep X w w') (hk : Keep (ErrX w.heap.size) w' w'') : Keep X w w'' :=
  ⟨hk.os.trans h.os, hk.tape.trans h.tape, hk.output.trans h.output, Nat.le_trans h.size hk.size, fun i o ho hx => hk.block i o (h.block i o ho hx) (fun he => by have := Keep.lt ho; have := he.1; omega)⟩
theorem errX_set {w : World} {B b : Nat} {cs : List Value} {v : Value} (h : Arr w b 44 cs) (hb : B ≤ b) : Keep (ErrX B) w (w.setCell ⟨b, 0, none⟩ v) :=
  (keep_setCell w b 0 v).mono (fun k o ho hx => by
    subst hx
    rw [show w.heap[k]? = _ from h] at ho
    cases ho
    exact ⟨hb, .inl ⟨_, _, rfl⟩⟩)
theorem RdY.err {k : Nat} {cur : Array Value} {fr : Nat × Nat} : RdY k (.cells cur 44 fr) := ⟨fun _ _ h => (by cases h), fun _ _ h => (by cases h), fun _ h => (by cases h), fun _ h => (by cases h)⟩
theorem RgX.def {N TB A PL k : Nat} {d : Option (List Deferred)} : ¬ RgX N TB A PL k (.deferred d) := fun h => by
  rcases h with (⟨_, _, h⟩ | ⟨_, _, _, h⟩) | ⟨_, ⟨_, _, h⟩ | ⟨_, _, h⟩ | ⟨_, _, h⟩⟩ <;> cases h
theorem errX_mark {w w' : World} {B B' : Nat} (h : Keep (markR B') w w') (hB : B ≤ B') : Keep (ErrX B) w w' := h.mono (fun k o _ hx => ⟨by have := hx.1; omega, .inr (.inr hx.2)⟩)
theorem mark_cells {B k : Nat} {cur : Array Value} {t : TypeId} {fr : Nat × Nat} : ¬ markR B k (.cells cur t fr) := fun h => by obtain ⟨_, _, h⟩ := h; cases h
theorem exec_alloc_key (w : World) {o : Oper} {a : Act} (ho : o.op = .alloc 51) : (execOp a.eval o).run Tryz.prog w = .ok (.value (.pointer (some ⟨w.heap.size, 0, none⟩))) (w.alloc (.cells (List.replicate 32 (Value.int .u8 0)).toArray 51)) := by
  unfold execOp
  rw [ho]
  kernel_rfl
theorem FX.flow_v {P : Program} {ops : Array Oper} {md : Region.Mode} {w0 : World} {X : Nat → Obj → Prop} {tab : Nat → FX.Kind} {Q : Exit → Act → World → Prop} {k : Nat} {facts : Nat → World → Prop} {a : Act} {o : Oper} {os : List Oper} {v : Value} (ht : tab k = .reads) (hw : Region.wanted o (yielded ops a.tmps) = true)
    (h1 : ∀ w, Keep X w0 w → (execOp a.eval o).run P w = .ok (.value v) w) (h : FX.wpFlows X P ops md tab Q os (k + 1) w0 facts (a.put o.dst v)) : FX.wpFlows X P ops md tab Q (o :: os) k w0 facts a := fun hi => by
  have hk : ops[k]? = some o := by simpa using hi 0
  refine FX.flows_cons (o := o) ?_ hi
  unfold FX.flowOp
  simp only [hk, ht]
  exact ⟨v, fun w hE => by unfold FX.opIs; rw [if_pos hw]; exact .inl (h1 w hE), h⟩
def FX.Kind.isReads : FX.Kind → Bool
  | .reads => true
  | _ => false
theorem FX.bar_all {ops : Array Oper} {md : Region.Mode} {tab : Nat → FX.Kind} {k : Nat} (h : ((List.range ops.size).all fun i => i == k || FX.ancB md ops ops.size k i || (decide (i < k) && (tab i).isReads) || FX.ancB md ops ops.size i k) = true) :
    ∀ i, i < ops.size → i ≠ k → (FX.ancB md ops ops.size k i = true ∨ (i < k ∧ tab i = .reads)) ∨ FX.ancB md ops ops.size i k = true := fun i hi hne => by
  have := List.all_eq_true.1 h i (List.mem_range.2 hi)
  simp only [Bool.or_eq_true, beq_iff_eq, Bool.and_eq_true, decide_eq_true_eq] at this
  rcases this with ((h1 | h1) | h1) | h1
  · exact absurd h1 hne
  · exact .inl (.inl h1)
  · refine .inl (.inr ⟨h1.1, ?_⟩)
    have h2 := h1.2
    cases ht : tab i <;> rw [ht] at h2 <;> first | rfl | cases h2
  · exact .inr h1
/-- A new block, behind B. -/
def NewCell (B : Nat) (t : TypeId) (n : Nat) (v : Value) (w : World) : Prop := ∃ g C, v = .pointer (some ⟨g, 0, none⟩) ∧ B ≤ g ∧ C.length = n ∧ Arr w g t C
def PtrSh (v : Value) : Prop := ∃ g, v = .pointer (some ⟨g, 0, none⟩)
theorem NewCell.ext {B n : Nat} {t : TypeId} {v : Value} {w w' : World} (h : NewCell B t n v w) (hE : Ext w w') : NewCell B t n v w' := by
  obtain ⟨g, C, h1, h2, h3, h4⟩ := h
  exact ⟨g, C, h1, h2, h3, h4.ext hE⟩
theorem NewCell.sh {B n : Nat} {t : TypeId} {v : Value} {w : World} (h : NewCell B t n v w) : PtrSh v := by
  obtain ⟨g, _, h1, _⟩ := h
  exact ⟨g, h1⟩
theorem newCell_key {w W : World} (hE : Ext w W) : NewCell w.heap.size 51 32 (.pointer (some ⟨W.heap.size, 0, none⟩)) (W.alloc (.cells (List.replicate 32 (Value.int .u8 0)).toArray 51)) := ⟨_, _, rfl, hE.size, by simp, Arr.new W _ _⟩
theorem newCell_keyed {w W : World} (hE : Ext w W) : NewCell w.heap.size 86 33 (.pointer (some ⟨W.heap.size, 0, none⟩)) (W.alloc (.cells zeroK.toArray 86)) := ⟨_, _, rfl, hE.size, keyedC_len key0_len, Arr.new W _ _⟩
end Go.Proofs.YtcmhgpgookiomaaGreat
namespace Go.Proofs.YtcmhgpgookiomaaGreat
open Go.RowKit Go.Shelf Go.Maps

attribute [local go_sem] Oper.semAt_some

set_option maxRecDepth 20000 in
set_option maxHeartbeats 16000000 in
theorem enrol4_any {w : World} {N R Q TB A PL : Nat} {st : St} (h : RingAt w N R Q TB A PL st) (hs : Small 12 12000 st.1) (who group realm : Nat) (hwho : who < 4294967296) (hgroup : group < 4294967296) (hrealm : realm < 4294967296) :
    Calls Tryz.prog 35 #[.pointer (some ⟨R, 0, none⟩), .agg #[.int .i64 4, .int .u32 (who : Int), .int .u32 (group : Int), .int .u32 (realm : Int)]] w fun e w' =>
      (changeP st ⟨4, who, group, realm⟩ = none → e = .returned (.int .i64 60) ∧ Keep (RgX N TB A PL) w w') ∧
      (∀ n st', changeP st ⟨4, who, group, realm⟩ = some (n, st') → e = .returned (.int .i64 (n : Int)) ∧ RingAt w' N R Q TB A PL st' ∧ Keep (RgX N TB A PL) w w') := by
  obtain ⟨b1, b2, b3, b4, b5, L4, L5, v, bv, h⟩ := h
  have HH := Lib.hid h
  have HS := Lib.hid hs
  have HRA := Lib.hid (show RingAt w N R Q TB A PL st from ⟨b1, b2, b3, b4, b5, L4, L5, v, bv, h⟩)
  have hl1 := fun A' (hE : Ext w A') => (h.ext hE).has_sec hwho
  have hl2 := fun A' (hE : Ext w A') => (h.ext hE).has_grp hgroup
  have HW := Lib.hid hwho
  have HG := Lib.hid hgroup
  have HM := Lib.hid hrealm
  have hlen1 := h.secA_len who
  have ho1 : ((secA st.1 who).map u8v).length = 32 := by rw [List.length_map, hlen1]
  unfold aggK at hl1
  obtain ⟨D1, hD1⟩ : ∃ D, (secA st.1 who).map u8v = D := ⟨_, rfl⟩
  have hone1 : D1.toArray.all (·.oneCell') = true := by rw [← hD1]; exact all_one _
  rw [hD1] at hl1 ho1
  have HI1 := Lib.hid (show (Tryz.prog.info? 51).map (·.size) = some D1.toArray.size by rw [info_key, List.size_toArray, ho1])
  have HO1 := Lib.hid (show 32 = D1.toArray.size by rw [List.size_toArray, ho1])
  have HN1 := Lib.hid hone1
  clear hlen1 ho1 hone1 hD1
  obtain ⟨hlen2, _⟩ := h.grpA_ok group
  have kc2 := kc_of (e := (grpA st.1 group).1) hlen2
  unfold keyedV at hl2
  obtain ⟨D2, hD2⟩ : ∃ D, keyedC (grpA st.1 group) = D := ⟨_, rfl⟩
  rw [show keyedC ((grpA st.1 group).1, (grpA st.1 group).2) = D2 from hD2] at kc2
  rw [hD2] at hl2
  have HI2 := Lib.hid kc2.info
  have HO2 := Lib.hid kc2.size
  have HN2 := Lib.hid kc2.one
  clear hlen2 kc2 hD2
  obtain ⟨p1, hp1⟩ : ∃ p, (getA st.1.sec who).isSome = p := ⟨_, rfl⟩
  obtain ⟨p2, hp2⟩ : ∃ p, (getA st.1.grp group).isSome = p := ⟨_, rfl⟩
  rw [hp1] at hl1
  rw [hp2] at hl2
  have HL1 := Lib.hid hl1
  have HL2 := Lib.hid hl2
  have HP1 := Lib.hid hp1
  have HP2 := Lib.hid hp2
  clear hl1 hl2 hp1 hp2 h hs hwho hgroup hrealm
  refine calls_cps fun R0 hR => ?_
  have HR := Lib.hid hR
  clear hR
  refine calls_marks Tryz.func35 rfl ?_
  simp only [Tryz.ntmps35, List.size_toArray, List.length_cons, List.length_nil, Nat.reduceAdd, Nat.reduceSub, Array.replicate_succ, Array.replicate_zero, List.push_toArray, List.append_toArray, List.nil_append, List.cons_append]
  go_wp2_with fail
  refine wp_laid3 fun W eW h1 h2 h3 => ?_
  have aR : Arr W w.heap.size 33 [.pointer (some ⟨R, 0, none⟩)] := h1
  have aC : Arr W (w.heap.size + 1) 25 [.int .i64 4, .int .u32 (who : Int), .int .u32 (group : Int), .int .u32 (realm : Int)] := h2
  have aE : Arr W (w.heap.size + 1 + 1) 44 [.int .i64 0] := h3
  have HEW := Lib.hid eW
  clear h1 h2 h3 eW
  have hX : ∀ B, Keep (fun k _ => W.heap.size ≤ k) W.drew B → Ext W B := fun B hB => (((Keep.refl (fun k _ => W.heap.size ≤ k) W).drew).trans hB).mono (fun k o ho hx => by have := Keep.lt ho; replace hx : W.heap.size ≤ k := hx; omega)
  have d0 := fun g : FX.At (fun k _ => W.heap.size ≤ k) W.drew => (aR.ext (hX _ g.ext)).cell (i := 0) rfl
  have d1 := fun g : FX.At (fun k _ => W.heap.size ≤ k) W.drew => Ext.cell (hX _ g.ext) (Ext.cell HEW.out (HH.out.cells.cell (i := 1) rfl))
  have d2 := fun g : FX.At (fun k _ => W.heap.size ≤ k) W.drew => (aC.ext (hX _ g.ext)).cell (i := 1) rfl
  have HX := Lib.hid hX
  clear hX
  refine FX.wp_flow (X := fun k _ => W.heap.size ≤ k) (fun n => if n = 10 then .grows (NewCell W.heap.size 51 32) PtrSh else if n = 11 then .bar else .reads) (by kernel_rfl) (by kernel_rfl) ?_
  iterate 6 (refine FX.flow_r rfl rfl ?_; go_big_quiet_step (fail); refine wpQuiet_nil ?_)
  refine FX.flow_v (v := .tuple #[.agg D1.toArray, .bool p1]) rfl rfl (fun w' hE => exec_lookup' rfl (HL1.out w' (HEW.out.trans (HX.out w' hE)))) ?_
  simp only [Act.put, List.setIfInBounds_toArray, List.set_cons_succ, List.set_cons_zero]
  iterate 3 (refine FX.flow_r rfl rfl ?_; go_big_quiet_step (fail); refine wpQuiet_nil ?_)
  refine FX.flow_g rfl rfl (by simp) ⟨_, 0, rfl⟩ (fun v A B h hE => h.ext hE) (fun v A h => h.sh) (fun w5 hE5 _ => ?_) (fun v hv => ?_)
  · refine wpList_valw (exec_alloc_key w5 rfl) rfl (wpList_nil ?_)
    exact ⟨rfl, _, rfl, (Keep.refl _ w5).alloc _, newCell_key (((Keep.refl _ W).drew).trans hE5)⟩
  obtain ⟨g1, rfl⟩ := hv
  simp only [Act.put, List.setIfInBounds_toArray, List.set_cons_succ, List.set_cons_zero]
  clear d0 d1 d2
  refine FX.flow_b rfl rfl (FX.bar_all (by kernel_rfl)) (fun w6 hE6 hf => ?_)
  have hnc : NewCell W.heap.size 51 32 (.pointer (some ⟨g1, 0, none⟩)) w6 := hf 10
  have hE6' : Ext W w6 := ((Keep.refl _ W).drew).trans hE6
  obtain ⟨_, C0, q, hb0, hlen0, hc0⟩ := hnc
  cases q
  have hK7 : Keep (fun k _ => W.heap.size ≤ k) w6 (w6.setRow g1 D1.toArray) := (keep_setRow w6 g1 D1.toArray).mono (fun k o _ hx => by rw [hx]; exact hb0)
  have hE7 : Ext W (w6.setRow g1 D1.toArray) := ((Keep.of_ext hE6').trans hK7).mono (fun k o ho hx => by have := Keep.lt ho; replace hx : W.heap.size ≤ k := hx; omega)
  have hsz : C0.toArray.size = D1.toArray.size := by rw [List.size_toArray, hlen0]; exact HO1.out
  have HK7 := Lib.hid hK7
  have HE7 := Lib.hid hE7
  have HSZ := Lib.hid hsz
  have HC0 := Lib.hid hc0
  clear hf hE6 hE6' hK7 hE7 hsz hc0 hlen0 hb0
  go_wp2_with (first
    | (refine wpList_skipw (o := ⟨none, .store _ _ _, _, _, _, _⟩) (w' := w6.setRow g1 D1.toArray) ?_ ?_ ?_; exact exec_store_row rfl rfl rfl HC0.out HI1.out HSZ.out HN1.out; rfl)
    | fail)
  refine ⟨HK7.out, ?_⟩
  refine FX.flow_r rfl rfl ?_; go_big_quiet_step (fail); refine wpQuiet_nil ?_
  refine FX.flow_end (fun w8 hE8 _ => ?_)
  replace hE8 : Ext W w8 := HE7.out.trans hE8
  have aR2 := aR.ext hE8
  have aC2 := aC.ext hE8
  have aE2 := aE.ext hE8
  have HEW2 := Lib.hid (HEW.out.trans hE8)
  obtain ⟨W2, hW2⟩ : ∃ W2, w8 = W2 := ⟨_, rfl⟩
  rw [hW2] at aR2 aC2 aE2 HEW2 ⊢
  clear hW2 hE8 HK7 HE7 HSZ HC0 aR aC aE HX
  have hFIN : ∀ (n : Nat) (st' : St) (w' w'' : World), RingAt w' N R Q TB A PL st' → Keep (RgX N TB A PL) w w' → Keep (ErrX w.heap.size) w' w'' → changeP st ⟨4, who, group, realm⟩ = some (n, st') → R0 (.returned (.int .i64 (n : Int))) w'' := fun n st' w' w'' h1 h2 h3 h4 => HR.out _ _ ⟨fun h => (by rw [h4] at h; cases h), fun n' st'' h => (by rw [h4] at h; cases h; exact ⟨rfl, h1.keepE h3, h2.errX h3⟩)⟩
  have hFNO : ∀ (w' w'' : World), Keep (RgX N TB A PL) w w' → Keep (ErrX w.heap.size) w' w'' → changeP st ⟨4, who, group, realm⟩ = none → R0 (.returned (.int .i64 60)) w'' := fun w' w'' h2 h3 h4 => HR.out _ _ ⟨fun _ => ⟨rfl, h2.errX h3⟩, fun n' st'' h => (by rw [h4] at h; cases h)⟩
  have FIN := Lib.hid hFIN
  have FNO := Lib.hid hFNO
  clear hFIN hFNO HR
  cases p1 with
  | false =>
    have hC : changeP st ⟨4, who, group, realm⟩ = some (210, st) := by
      unfold changeP
      simp [HP1.out]
    have c0 := aE2.cell (i := 0) rfl
    have f0 := aE2.frozen 0
    have hs1 := aE2.set 0 (.int .i64 210)
    have k9 := errX_set (B := w.heap.size) (v := .int .i64 210) aE2 (by omega)
    have hfin := FIN.out 210 st W2 _ (HRA.out.ext HEW2.out) (Keep.of_ext HEW2.out) k9 hC
    have HC := Lib.hid hC
    have cv := hs1.cell (i := 0) rfl
    clear FIN FNO k9 hC hs1 HL1 HL2
    go_wp2
    refine mark0_ret (v := .int .i64 210) rfl (by simp [results, Tryz.results35, go_sem]; rw [cv]) hfin
  | true =>
    go_wp2_with fail
    have hX : ∀ B, Keep (fun k _ => W2.heap.size ≤ k) W2.drew B → Ext W2 B := fun B hB => (((Keep.refl (fun k _ => W2.heap.size ≤ k) W2).drew).trans hB).mono (fun k o ho hx => by have := Keep.lt ho; replace hx : W2.heap.size ≤ k := hx; omega)
    have d0 := fun g : FX.At (fun k _ => W2.heap.size ≤ k) W2.drew => (aR2.ext (hX _ g.ext)).cell (i := 0) rfl
    have d1 := fun g : FX.At (fun k _ => W2.heap.size ≤ k) W2.drew => Ext.cell (hX _ g.ext) (Ext.cell HEW2.out (HH.out.cells.cell (i := 2) rfl))
    have d2 := fun g : FX.At (fun k _ => W2.heap.size ≤ k) W2.drew => (aC2.ext (hX _ g.ext)).cell (i := 2) rfl
    have HX := Lib.hid hX
    clear hX
    refine FX.wp_flow (X := fun k _ => W2.heap.size ≤ k) (fun n => if n = 10 then .grows (NewCell W2.heap.size 86 33) PtrSh else if n = 11 then .bar else .reads) (by kernel_rfl) (by kernel_rfl) ?_
    iterate 6 (refine FX.flow_r rfl rfl ?_; go_big_quiet_step (fail); refine wpQuiet_nil ?_)
    refine FX.flow_v (v := .tuple #[.agg D2.toArray, .bool p2]) rfl rfl (fun w' hE => exec_lookup' rfl (HL2.out w' (HEW2.out.trans (HX.out w' hE)))) ?_
    simp only [Act.put, List.setIfInBounds_toArray, List.set_cons_succ, List.set_cons_zero]
    iterate 3 (refine FX.flow_r rfl rfl ?_; go_big_quiet_step (fail); refine wpQuiet_nil ?_)
    refine FX.flow_g rfl rfl (by simp) ⟨_, 0, rfl⟩ (fun v A B h hE => h.ext hE) (fun v A h => h.sh) (fun w5 hE5 _ => ?_) (fun v hv => ?_)
    · refine wpList_valw (exec_alloc_keyed w5 rfl) rfl (wpList_nil ?_)
      exact ⟨rfl, _, rfl, (Keep.refl _ w5).alloc _, newCell_keyed (((Keep.refl _ W2).drew).trans hE5)⟩
    obtain ⟨g1, rfl⟩ := hv
    simp only [Act.put, List.setIfInBounds_toArray, List.set_cons_succ, List.set_cons_zero]
    clear d0 d1 d2
    refine FX.flow_b rfl rfl (FX.bar_all (by kernel_rfl)) (fun w6 hE6 hf => ?_)
    have hnc : NewCell W2.heap.size 86 33 (.pointer (some ⟨g1, 0, none⟩)) w6 := hf 10
    have hE6' : Ext W2 w6 := ((Keep.refl _ W2).drew).trans hE6
    obtain ⟨_, C0, q, hb0, hlen0, hc0⟩ := hnc
    cases q
    have hK7 : Keep (fun k _ => W2.heap.size ≤ k) w6 (w6.setRow g1 D2.toArray) := (keep_setRow w6 g1 D2.toArray).mono (fun k o _ hx => by rw [hx]; exact hb0)
    have hE7 : Ext W2 (w6.setRow g1 D2.toArray) := ((Keep.of_ext hE6').trans hK7).mono (fun k o ho hx => by have := Keep.lt ho; replace hx : W2.heap.size ≤ k := hx; omega)
    have hsz : C0.toArray.size = D2.toArray.size := by rw [List.size_toArray, hlen0]; exact HO2.out
    have HK7 := Lib.hid hK7
    have HE7 := Lib.hid hE7
    have HSZ := Lib.hid hsz
    have HC0 := Lib.hid hc0
    clear hf hE6 hE6' hK7 hE7 hsz hc0 hlen0 hb0
    go_wp2_with (first
      | (refine wpList_skipw (o := ⟨none, .store _ _ _, _, _, _, _⟩) (w' := w6.setRow g1 D2.toArray) ?_ ?_ ?_; exact exec_store_row rfl rfl rfl HC0.out HI2.out HSZ.out HN2.out; rfl)
      | fail)
    refine ⟨HK7.out, ?_⟩
    refine FX.flow_r rfl rfl ?_; go_big_quiet_step (fail); refine wpQuiet_nil ?_
    refine FX.flow_end (fun w8 hE8 _ => ?_)
    replace hE8 : Ext W2 w8 := HE7.out.trans hE8
    have aR3 := aR2.ext hE8
    have aC3 := aC2.ext hE8
    have aE3 := aE2.ext hE8
    have HEW3 := Lib.hid (HEW2.out.trans hE8)
    obtain ⟨W3, hW3⟩ : ∃ W3, w8 = W3 := ⟨_, rfl⟩
    rw [hW3] at aR3 aC3 aE3 HEW3 ⊢
    clear hW3 hE8 HK7 HE7 HSZ HC0 aR2 aC2 aE2 HX
    cases p2 with
    | false =>
      have hC : changeP st ⟨4, who, group, realm⟩ = some (211, st) := by
        unfold changeP
        simp [HP1.out, HP2.out]
      have c0 := aE3.cell (i := 0) rfl
      have f0 := aE3.frozen 0
      have hs1 := aE3.set 0 (.int .i64 211)
      have k9 := errX_set (B := w.heap.size) (v := .int .i64 211) aE3 (by omega)
      have hfin := FIN.out 211 st W3 _ (HRA.out.ext HEW3.out) (Keep.of_ext HEW3.out) k9 hC
      have HC := Lib.hid hC
      have cv := hs1.cell (i := 0) rfl
      clear FIN FNO k9 hC hs1 HL1 HL2
      go_wp2
      refine mark0_ret (v := .int .i64 211) rfl (by simp [results, Tryz.results35, go_sem]; rw [cv]) hfin
    | true =>
      obtain ⟨bm, hbm, hlm, hsm⟩ := HH.out.set_mem HG.out (HH.out.hasm group HP2.out)
      have hhas := fun A' (hE : Ext w A') => (hsm A' hE).has HW.out
      obtain ⟨p3, hp3⟩ : ∃ p, (getA (memA st.1 group) who).isSome = p := ⟨_, rfl⟩
      rw [hp3] at hhas
      have HLM := Lib.hid hlm
      have HSM := Lib.hid hsm
      have HHAS := Lib.hid hhas
      have HP3 := Lib.hid hp3
      have HBM := Lib.hid hbm
      clear hlm hsm hhas hp3 hbm
      have c4 := aC3.cell (i := 0) rfl
      go_wp2_with fail
      clear c4
      have d0 := fun g : At W3.drew => (aR3.ext (((Keep.refl _ W3).drew).trans g.ext)).cell (i := 0) rfl
      have d1 := fun g : At W3.drew => Ext.cell (((Keep.refl _ W3).drew).trans g.ext) (Ext.cell HEW3.out (HH.out.cells.cell (i := 4) rfl))
      have d2 := fun g : At W3.drew => (aC3.ext (((Keep.refl _ W3).drew).trans g.ext)).cell (i := 2) rfl
      have d3 := fun g : At W3.drew => (aC3.ext (((Keep.refl _ W3).drew).trans g.ext)).cell (i := 1) rfl
      cases p3
      all_goals
        refine wp_flow (fun _ => .reads) (by kernel_rfl) (by kernel_rfl) ?_
        iterate 6 (refine flow_r rfl rfl ?_; go_big_quiet_step (fail); refine wpQuiet_nil ?_)
        refine flow_v (v := .map (some bm)) rfl rfl (fun w' hE => exec_lookup' rfl (HLM.out w' ((HEW3.out.drew).trans hE))) ?_
        simp only [Act.put, List.setIfInBounds_toArray, List.set_cons_succ, List.set_cons_zero]
        iterate 2 (refine flow_r rfl rfl ?_; go_big_quiet_step (fail); refine wpQuiet_nil ?_)
      case true =>
        refine flow_v (v := .bool true) rfl rfl (fun w' hE => exec_lookup' rfl (HHAS.out w' ((HEW3.out.drew).trans hE))) ?_
        simp only [Act.put, List.setIfInBounds_toArray, List.set_cons_succ, List.set_cons_zero]
        iterate 2 (refine flow_r rfl rfl ?_; go_big_quiet_step (fail); refine wpQuiet_nil ?_)
        clear d0 d1 d2 d3
        refine flow_end (fun W4 hE4 _ => ?_)
        replace hE4 : Ext W3 W4 := ((Keep.refl _ W3).drew).trans hE4
        have aE4 := aE3.ext hE4
        have hC : changeP st ⟨4, who, group, realm⟩ = some (0, st) := by
          unfold changeP
          simp [HP1.out, HP2.out, HP3.out]
        have c0 := aE4.cell (i := 0) rfl
        have f0 := aE4.frozen 0
        have hs1 := aE4.set 0 (.int .i64 0)
        have k9 := errX_set (B := w.heap.size) (v := .int .i64 0) aE4 (by omega)
        have hfin := FIN.out 0 st W4 _ (HRA.out.ext (HEW3.out.trans hE4)) (Keep.of_ext (HEW3.out.trans hE4)) k9 hC
        have HC := Lib.hid hC
        have cv := hs1.cell (i := 0) rfl
        clear FIN FNO k9 hC hs1 HL1 HL2 hE4
        go_wp2
        refine mark0_ret (v := .int .i64 0) rfl (by simp [results, Tryz.results35, go_sem]; rw [cv]) hfin
      case false =>
        refine flow_v (v := .bool false) rfl rfl (fun w' hE => exec_lookup' rfl (HHAS.out w' ((HEW3.out.drew).trans hE))) ?_
        simp only [Act.put, List.setIfInBounds_toArray, List.set_cons_succ, List.set_cons_zero]
        iterate 2 (refine flow_r rfl rfl ?_; go_big_quiet_step (fail); refine wpQuiet_nil ?_)
        clear d0 d1 d2 d3
        refine flow_end (fun W4 hE4 _ => ?_)
        replace hE4 : Ext W3 W4 := ((Keep.refl _ W3).drew).trans hE4
        have aR4 := aR3.ext hE4
        have aC4 := aC3.ext hE4
        have aE4 := aE3.ext hE4
        have HEW4 := Lib.hid (HEW3.out.trans hE4)
        clear hE4 aR3 aC3 aE3
        go_wp2_with fail
        have d0 := fun g : At W4.drew => (aR4.ext (((Keep.refl _ W4).drew).trans g.ext)).cell (i := 0) rfl
        have d1 := fun g : At W4.drew => Ext.cell (((Keep.refl _ W4).drew).trans g.ext) (Ext.cell HEW4.out (HH.out.cells.cell (i := 4) rfl))
        have d2 := fun g : At W4.drew => (aC4.ext (((Keep.refl _ W4).drew).trans g.ext)).cell (i := 2) rfl
        have d3 := fun g : At W4.drew => (aC4.ext (((Keep.refl _ W4).drew).trans g.ext)).cell (i := 1) rfl
        refine wp_flow (fun n => if n = 9 then .bar else .reads) (by kernel_rfl) (by kernel_rfl) ?_
        iterate 6 (refine flow_r rfl rfl ?_; go_big_quiet_step (fail); refine wpQuiet_nil ?_)
        refine flow_v (v := .map (some bm)) rfl rfl (fun w' hE => exec_lookup' rfl (HLM.out w' ((HEW4.out.drew).trans hE))) ?_
        simp only [Act.put, List.setIfInBounds_toArray, List.set_cons_succ, List.set_cons_zero]
        iterate 2 (refine flow_r rfl rfl ?_; go_big_quiet_step (fail); refine wpQuiet_nil ?_)
        clear d0 d1 d2 d3
        refine flow_b rfl (by kernel_rfl) (fun w5 hE5 _ => ?_)
        replace hE5 : Ext W4 w5 := ((Keep.refl _ W4).drew).trans hE5
        have e5 : Ext w w5 := HEW4.out.trans hE5
        obtain ⟨w6, hrun, hm6, hk6⟩ := (HSM.out w5 e5).put (V := SetV) Tryz.underlying137 (by have := HS.out.imem group; unfold maxLen; omega) HW.out ()
        replace hrun : (Instr.mapUpdate 137 (.map (some bm)) (.int .u32 (who : Int)) (.bool true)).run Tryz.prog w5 = .ok () w6 := hrun
        have hr6 := (HH.out.ext e5).turnMem HBM.out hm6 hk6
        have HRUN := Lib.hid hrun
        have hRA6 : RingAt w6 N R Q TB A PL ({ st.1 with mem := putA st.1.mem group (putA (memA st.1 group) who ()) }, st.2) := ⟨b1, b2, b3, b4, b5, L4, L5, v, bv, hr6⟩
        have HRA6 := Lib.hid hRA6
        have aR6 := (aR4.ext hE5).keep hk6 MapX.cells
        have aC6 := (aC4.ext hE5).keep hk6 MapX.cells
        have aE6 := (aE4.ext hE5).keep hk6 MapX.cells
        have HK6 := Lib.hid ((Keep.of_ext e5).trans (hk6.mono (fun k o _ hx => MapX.rg (N := N) (TB := TB) (A := A) (PL := PL) (HH.out.h4 _ _ HBM.out).1 hx)))
        clear hrun hm6 hk6 hr6 hRA6 e5 hE5 aR4 aC4 aE4
        go_wp2_with (first
          | (refine wpList_skipw (o := ⟨none, .mapUpdate _ _ _ _, _, _, _, _⟩) (w' := w6) ?_ ?_ ?_; exact exec_mapUpdate' rfl HRUN.out; rfl)
          | fail)
        refine flow_end (fun w7 hE7 _ => ?_)
        replace hE7 : Ext w6 w7 := hE7
        have aR7 := aR6.ext hE7
        have aC7 := aC6.ext hE7
        have aE7 := aE6.ext hE7
        have HK7 := Lib.hid (HK6.out.trans (Keep.of_ext hE7))
        have HRA7 := Lib.hid (HRA6.out.ext hE7)
        obtain ⟨st6, hst6⟩ : ∃ s6 : St, (({ st.1 with mem := putA st.1.mem group (putA (memA st.1 group) who ()) }, st.2) : St) = s6 := ⟨_, rfl⟩
        have hC : changeP st ⟨4, who, group, realm⟩ = (memberP st6 group who).map fun st => (0, st) := by
          rw [← hst6]
          unfold changeP
          simp [HP1.out, HP2.out, HP3.out]
        have hbx : st6.1.box.length ≤ 1000000 := by rw [← hst6]; have := HS.out.box; show st.1.box.length ≤ 1000000; omega
        rw [hst6] at HRA7
        have hcall := member_any HRA7.out group who HG.out HW.out hbx
        have HC := Lib.hid hC
        clear hE7 HK6 HRA6 aR6 aC6 aE6 HRUN HLM HHAS HBM hC hbx
        have c0 := aR7.cell (i := 0) rfl
        have c1 := aC7.cell (i := 2) rfl
        have c2 := aC7.cell (i := 1) rfl
        go_wp2_with fail
        refine hcall.mono ?_
        rintro e w9 ⟨hlo, hhi⟩
        clear hcall c0 c1 c2
        cases hB : memberP st6 group who with
        | none =>
          obtain ⟨rfl, k9⟩ := hlo hB
          have aE9 := aE7.keep k9 (RgX.cells (by decide) (by decide) (by decide))
          have hC : changeP st ⟨4, who, group, realm⟩ = none := by rw [HC.out, hB]; rfl
          have ke := errX_set (B := w.heap.size) (v := .int .i64 60) aE9 (by omega)
          have c0 := aE9.cell (i := 0) rfl
          have f0 := aE9.frozen 0
          have hs1 := aE9.set 0 (.int .i64 60)
          have cv := hs1.cell (i := 0) rfl
          have hfin := FNO.out w9 _ (HK7.out.trans k9) ke hC
          clear FIN FNO hlo hhi hB k9 hC ke hs1
          go_wp2
          refine mark0_ret (v := .int .i64 60) rfl (by simp [results, Tryz.results35, go_sem]; rw [cv]) hfin
        | some st9 =>
          obtain ⟨rfl, hr9, k9⟩ := hhi st9 hB
          have aE9 := aE7.keep k9 (RgX.cells (by decide) (by decide) (by decide))
          have hC : changeP st ⟨4, who, group, realm⟩ = some (0, st9) := by rw [HC.out, hB]; rfl
          have ke := errX_set (B := w.heap.size) (v := .int .i64 0) aE9 (by omega)
          have c0 := aE9.cell (i := 0) rfl
          have f0 := aE9.frozen 0
          have hs1 := aE9.set 0 (.int .i64 0)
          have cv := hs1.cell (i := 0) rfl
          have hfin := FIN.out 0 st9 w9 _ hr9 (HK7.out.trans k9) ke hC
          clear FIN FNO hlo hhi hB k9 hC ke hs1 hr9
          go_wp2
          refine mark0_ret (v := .int .i64 0) rfl (by simp [results, Tryz.results35, go_sem]; rw [cv]) hfin
end Go.Proofs.YtcmhgpgookiomaaGreat
namespace Go.Proofs.YtcmhgpgookiomaaGreat
open Go.RowKit Go.Shelf Go.Maps

attribute [local go_sem] Oper.semAt_some

set_option maxRecDepth 20000 in
set_option maxHeartbeats 16000000 in
theorem grant6_any {w : World} {N R Q TB A PL : Nat} {st : St} (h : RingAt w N R Q TB A PL st) (hs : Small 12 12000 st.1) (who group realm : Nat) (hwho : who < 4294967296) (hgroup : group < 4294967296) (hrealm : realm < 4294967296) :
    Calls Tryz.prog 36 #[.pointer (some ⟨R, 0, none⟩), .agg #[.int .i64 6, .int .u32 (who : Int), .int .u32 (group : Int), .int .u32 (realm : Int)]] w fun e w' =>
      (changeP st ⟨6, who, group, realm⟩ = none → e = .returned (.int .i64 60) ∧ Keep (RgX N TB A PL) w w') ∧
      (∀ n st', changeP st ⟨6, who, group, realm⟩ = some (n, st') → e = .returned (.int .i64 (n : Int)) ∧ RingAt w' N R Q TB A PL st' ∧ Keep (RgX N TB A PL) w w') := by
  obtain ⟨b1, b2, b3, b4, b5, L4, L5, v, bv, h⟩ := h
  have HH := Lib.hid h
  have HS := Lib.hid hs
  have HRA := Lib.hid (show RingAt w N R Q TB A PL st from ⟨b1, b2, b3, b4, b5, L4, L5, v, bv, h⟩)
  have hl1 := fun A' (hE : Ext w A') => (h.ext hE).has_grp hgroup
  have hl2 := fun A' (hE : Ext w A') => (h.ext hE).has_rlm hrealm
  have HW := Lib.hid hwho
  have HG := Lib.hid hgroup
  have HM := Lib.hid hrealm
  obtain ⟨hlen1, _⟩ := h.grpA_ok group
  have kc1 := kc_of (e := (grpA st.1 group).1) hlen1
  unfold keyedV at hl1
  obtain ⟨D1, hD1⟩ : ∃ D, keyedC (grpA st.1 group) = D := ⟨_, rfl⟩
  rw [show keyedC ((grpA st.1 group).1, (grpA st.1 group).2) = D1 from hD1] at kc1
  rw [hD1] at hl1
  have HI1 := Lib.hid kc1.info
  have HO1 := Lib.hid kc1.size
  have HN1 := Lib.hid kc1.one
  clear hlen1 kc1 hD1
  obtain ⟨hlen2, _⟩ := h.rlmA_ok realm
  have kc2 := kc_of (e := (rlmA st.1 realm).1) hlen2
  unfold keyedV at hl2
  obtain ⟨D2, hD2⟩ : ∃ D, keyedC (rlmA st.1 realm) = D := ⟨_, rfl⟩
  rw [show keyedC ((rlmA st.1 realm).1, (rlmA st.1 realm).2) = D2 from hD2] at kc2
  rw [hD2] at hl2
  have HI2 := Lib.hid kc2.info
  have HO2 := Lib.hid kc2.size
  have HN2 := Lib.hid kc2.one
  clear hlen2 kc2 hD2
  obtain ⟨p1, hp1⟩ : ∃ p, (getA st.1.grp group).isSome = p := ⟨_, rfl⟩
  obtain ⟨p2, hp2⟩ : ∃ p, (getA st.1.rlm realm).isSome = p := ⟨_, rfl⟩
  rw [hp1] at hl1
  rw [hp2] at hl2
  have HL1 := Lib.hid hl1
  have HL2 := Lib.hid hl2
  have HP1 := Lib.hid hp1
  have HP2 := Lib.hid hp2
  clear hl1 hl2 hp1 hp2 h hs hwho hgroup hrealm
  refine calls_cps fun R0 hR => ?_
  have HR := Lib.hid hR
  clear hR
  refine calls_marks Tryz.func36 rfl ?_
  simp only [Tryz.ntmps36, List.size_toArray, List.length_cons, List.length_nil, Nat.reduceAdd, Nat.reduceSub, Array.replicate_succ, Array.replicate_zero, List.push_toArray, List.append_toArray, List.nil_append, List.cons_append]
  go_wp2_with fail
  refine wp_laid3 fun W eW h1 h2 h3 => ?_
  have aR : Arr W w.heap.size 33 [.pointer (some ⟨R, 0, none⟩)] := h1
  have aC : Arr W (w.heap.size + 1) 25 [.int .i64 6, .int .u32 (who : Int), .int .u32 (group : Int), .int .u32 (realm : Int)] := h2
  have aE : Arr W (w.heap.size + 1 + 1) 44 [.int .i64 0] := h3
  have HEW := Lib.hid eW
  clear h1 h2 h3 eW
  have hX : ∀ B, Keep (fun k _ => W.heap.size ≤ k) W.drew B → Ext W B := fun B hB => (((Keep.refl (fun k _ => W.heap.size ≤ k) W).drew).trans hB).mono (fun k o ho hx => by have := Keep.lt ho; replace hx : W.heap.size ≤ k := hx; omega)
  have d0 := fun g : FX.At (fun k _ => W.heap.size ≤ k) W.drew => (aR.ext (hX _ g.ext)).cell (i := 0) rfl
  have d1 := fun g : FX.At (fun k _ => W.heap.size ≤ k) W.drew => Ext.cell (hX _ g.ext) (Ext.cell HEW.out (HH.out.cells.cell (i := 2) rfl))
  have d2 := fun g : FX.At (fun k _ => W.heap.size ≤ k) W.drew => (aC.ext (hX _ g.ext)).cell (i := 2) rfl
  have HX := Lib.hid hX
  clear hX
  refine FX.wp_flow (X := fun k _ => W.heap.size ≤ k) (fun n => if n = 10 then .grows (NewCell W.heap.size 86 33) PtrSh else if n = 11 then .bar else .reads) (by kernel_rfl) (by kernel_rfl) ?_
  iterate 6 (refine FX.flow_r rfl rfl ?_; go_big_quiet_step (fail); refine wpQuiet_nil ?_)
  refine FX.flow_v (v := .tuple #[.agg D1.toArray, .bool p1]) rfl rfl (fun w' hE => exec_lookup' rfl (HL1.out w' (HEW.out.trans (HX.out w' hE)))) ?_
  simp only [Act.put, List.setIfInBounds_toArray, List.set_cons_succ, List.set_cons_zero]
  iterate 3 (refine FX.flow_r rfl rfl ?_; go_big_quiet_step (fail); refine wpQuiet_nil ?_)
  refine FX.flow_g rfl rfl (by simp) ⟨_, 0, rfl⟩ (fun v A B h hE => h.ext hE) (fun v A h => h.sh) (fun w5 hE5 _ => ?_) (fun v hv => ?_)
  · refine wpList_valw (exec_alloc_keyed w5 rfl) rfl (wpList_nil ?_)
    exact ⟨rfl, _, rfl, (Keep.refl _ w5).alloc _, newCell_keyed (((Keep.refl _ W).drew).trans hE5)⟩
  obtain ⟨g1, rfl⟩ := hv
  simp only [Act.put, List.setIfInBounds_toArray, List.set_cons_succ, List.set_cons_zero]
  clear d0 d1 d2
  refine FX.flow_b rfl rfl (FX.bar_all (by kernel_rfl)) (fun w6 hE6 hf => ?_)
  have hnc : NewCell W.heap.size 86 33 (.pointer (some ⟨g1, 0, none⟩)) w6 := hf 10
  have hE6' : Ext W w6 := ((Keep.refl _ W).drew).trans hE6
  obtain ⟨_, C0, q, hb0, hlen0, hc0⟩ := hnc
  cases q
  have hK7 : Keep (fun k _ => W.heap.size ≤ k) w6 (w6.setRow g1 D1.toArray) := (keep_setRow w6 g1 D1.toArray).mono (fun k o _ hx => by rw [hx]; exact hb0)
  have hE7 : Ext W (w6.setRow g1 D1.toArray) := ((Keep.of_ext hE6').trans hK7).mono (fun k o ho hx => by have := Keep.lt ho; replace hx : W.heap.size ≤ k := hx; omega)
  have hsz : C0.toArray.size = D1.toArray.size := by rw [List.size_toArray, hlen0]; exact HO1.out
  have HK7 := Lib.hid hK7
  have HE7 := Lib.hid hE7
  have HSZ := Lib.hid hsz
  have HC0 := Lib.hid hc0
  clear hf hE6 hE6' hK7 hE7 hsz hc0 hlen0 hb0
  go_wp2_with (first
    | (refine wpList_skipw (o := ⟨none, .store _ _ _, _, _, _, _⟩) (w' := w6.setRow g1 D1.toArray) ?_ ?_ ?_; exact exec_store_row rfl rfl rfl HC0.out HI1.out HSZ.out HN1.out; rfl)
    | fail)
  refine ⟨HK7.out, ?_⟩
  refine FX.flow_r rfl rfl ?_; go_big_quiet_step (fail); refine wpQuiet_nil ?_
  refine FX.flow_end (fun w8 hE8 _ => ?_)
  replace hE8 : Ext W w8 := HE7.out.trans hE8
  have aR2 := aR.ext hE8
  have aC2 := aC.ext hE8
  have aE2 := aE.ext hE8
  have HEW2 := Lib.hid (HEW.out.trans hE8)
  obtain ⟨W2, hW2⟩ : ∃ W2, w8 = W2 := ⟨_, rfl⟩
  rw [hW2] at aR2 aC2 aE2 HEW2 ⊢
  clear hW2 hE8 HK7 HE7 HSZ HC0 aR aC aE HX
  have hFIN : ∀ (n : Nat) (st' : St) (w' w'' : World), RingAt w' N R Q TB A PL st' → Keep (RgX N TB A PL) w w' → Keep (ErrX w.heap.size) w' w'' → changeP st ⟨6, who, group, realm⟩ = some (n, st') → R0 (.returned (.int .i64 (n : Int))) w'' := fun n st' w' w'' h1 h2 h3 h4 => HR.out _ _ ⟨fun h => (by rw [h4] at h; cases h), fun n' st'' h => (by rw [h4] at h; cases h; exact ⟨rfl, h1.keepE h3, h2.errX h3⟩)⟩
  have hFNO : ∀ (w' w'' : World), Keep (RgX N TB A PL) w w' → Keep (ErrX w.heap.size) w' w'' → changeP st ⟨6, who, group, realm⟩ = none → R0 (.returned (.int .i64 60)) w'' := fun w' w'' h2 h3 h4 => HR.out _ _ ⟨fun _ => ⟨rfl, h2.errX h3⟩, fun n' st'' h => (by rw [h4] at h; cases h)⟩
  have FIN := Lib.hid hFIN
  have FNO := Lib.hid hFNO
  clear hFIN hFNO HR
  cases p1 with
  | false =>
    have hC : changeP st ⟨6, who, group, realm⟩ = some (211, st) := by
      unfold changeP
      simp [HP1.out]
    have c0 := aE2.cell (i := 0) rfl
    have f0 := aE2.frozen 0
    have hs1 := aE2.set 0 (.int .i64 211)
    have k9 := errX_set (B := w.heap.size) (v := .int .i64 211) aE2 (by omega)
    have hfin := FIN.out 211 st W2 _ (HRA.out.ext HEW2.out) (Keep.of_ext HEW2.out) k9 hC
    have HC := Lib.hid hC
    have cv := hs1.cell (i := 0) rfl
    clear FIN FNO k9 hC hs1 HL1 HL2
    go_wp2
    refine mark0_ret (v := .int .i64 211) rfl (by simp [results, Tryz.results36, go_sem]; rw [cv]) hfin
  | true =>
    go_wp2_with fail
    have hX : ∀ B, Keep (fun k _ => W2.heap.size ≤ k) W2.drew B → Ext W2 B := fun B hB => (((Keep.refl (fun k _ => W2.heap.size ≤ k) W2).drew).trans hB).mono (fun k o ho hx => by have := Keep.lt ho; replace hx : W2.heap.size ≤ k := hx; omega)
    have d0 := fun g : FX.At (fun k _ => W2.heap.size ≤ k) W2.drew => (aR2.ext (hX _ g.ext)).cell (i := 0) rfl
    have d1 := fun g : FX.At (fun k _ => W2.heap.size ≤ k) W2.drew => Ext.cell (hX _ g.ext) (Ext.cell HEW2.out (HH.out.cells.cell (i := 3) rfl))
    have d2 := fun g : FX.At (fun k _ => W2.heap.size ≤ k) W2.drew => (aC2.ext (hX _ g.ext)).cell (i := 3) rfl
    have HX := Lib.hid hX
    clear hX
    refine FX.wp_flow (X := fun k _ => W2.heap.size ≤ k) (fun n => if n = 10 then .grows (NewCell W2.heap.size 86 33) PtrSh else if n = 11 then .bar else .reads) (by kernel_rfl) (by kernel_rfl) ?_
    iterate 6 (refine FX.flow_r rfl rfl ?_; go_big_quiet_step (fail); refine wpQuiet_nil ?_)
    refine FX.flow_v (v := .tuple #[.agg D2.toArray, .bool p2]) rfl rfl (fun w' hE => exec_lookup' rfl (HL2.out w' (HEW2.out.trans (HX.out w' hE)))) ?_
    simp only [Act.put, List.setIfInBounds_toArray, List.set_cons_succ, List.set_cons_zero]
    iterate 3 (refine FX.flow_r rfl rfl ?_; go_big_quiet_step (fail); refine wpQuiet_nil ?_)
    refine FX.flow_g rfl rfl (by simp) ⟨_, 0, rfl⟩ (fun v A B h hE => h.ext hE) (fun v A h => h.sh) (fun w5 hE5 _ => ?_) (fun v hv => ?_)
    · refine wpList_valw (exec_alloc_keyed w5 rfl) rfl (wpList_nil ?_)
      exact ⟨rfl, _, rfl, (Keep.refl _ w5).alloc _, newCell_keyed (((Keep.refl _ W2).drew).trans hE5)⟩
    obtain ⟨g1, rfl⟩ := hv
    simp only [Act.put, List.setIfInBounds_toArray, List.set_cons_succ, List.set_cons_zero]
    clear d0 d1 d2
    refine FX.flow_b rfl rfl (FX.bar_all (by kernel_rfl)) (fun w6 hE6 hf => ?_)
    have hnc : NewCell W2.heap.size 86 33 (.pointer (some ⟨g1, 0, none⟩)) w6 := hf 10
    have hE6' : Ext W2 w6 := ((Keep.refl _ W2).drew).trans hE6
    obtain ⟨_, C0, q, hb0, hlen0, hc0⟩ := hnc
    cases q
    have hK7 : Keep (fun k _ => W2.heap.size ≤ k) w6 (w6.setRow g1 D2.toArray) := (keep_setRow w6 g1 D2.toArray).mono (fun k o _ hx => by rw [hx]; exact hb0)
    have hE7 : Ext W2 (w6.setRow g1 D2.toArray) := ((Keep.of_ext hE6').trans hK7).mono (fun k o ho hx => by have := Keep.lt ho; replace hx : W2.heap.size ≤ k := hx; omega)
    have hsz : C0.toArray.size = D2.toArray.size := by rw [List.size_toArray, hlen0]; exact HO2.out
    have HK7 := Lib.hid hK7
    have HE7 := Lib.hid hE7
    have HSZ := Lib.hid hsz
    have HC0 := Lib.hid hc0
    clear hf hE6 hE6' hK7 hE7 hsz hc0 hlen0 hb0
    go_wp2_with (first
      | (refine wpList_skipw (o := ⟨none, .store _ _ _, _, _, _, _⟩) (w' := w6.setRow g1 D2.toArray) ?_ ?_ ?_; exact exec_store_row rfl rfl rfl HC0.out HI2.out HSZ.out HN2.out; rfl)
      | fail)
    refine ⟨HK7.out, ?_⟩
    refine FX.flow_r rfl rfl ?_; go_big_quiet_step (fail); refine wpQuiet_nil ?_
    refine FX.flow_end (fun w8 hE8 _ => ?_)
    replace hE8 : Ext W2 w8 := HE7.out.trans hE8
    have aR3 := aR2.ext hE8
    have aC3 := aC2.ext hE8
    have aE3 := aE2.ext hE8
    have HEW3 := Lib.hid (HEW2.out.trans hE8)
    obtain ⟨W3, hW3⟩ : ∃ W3, w8 = W3 := ⟨_, rfl⟩
    rw [hW3] at aR3 aC3 aE3 HEW3 ⊢
    clear hW3 hE8 HK7 HE7 HSZ HC0 aR2 aC2 aE2 HX
    cases p2 with
    | false =>
      have hC : changeP st ⟨6, who, group, realm⟩ = some (212, st) := by
        unfold changeP
        simp [HP1.out, HP2.out]
      have c0 := aE3.cell (i := 0) rfl
      have f0 := aE3.frozen 0
      have hs1 := aE3.set 0 (.int .i64 212)
      have k9 := errX_set (B := w.heap.size) (v := .int .i64 212) aE3 (by omega)
      have hfin := FIN.out 212 st W3 _ (HRA.out.ext HEW3.out) (Keep.of_ext HEW3.out) k9 hC
      have HC := Lib.hid hC
      have cv := hs1.cell (i := 0) rfl
      clear FIN FNO k9 hC hs1 HL1 HL2
      go_wp2
      refine mark0_ret (v := .int .i64 212) rfl (by simp [results, Tryz.results36, go_sem]; rw [cv]) hfin
    | true =>
      obtain ⟨bm, hbm, hlm, hsm⟩ := HH.out.set_rdr HM.out (HH.out.hasr realm HP2.out)
      have hhas := fun A' (hE : Ext w A') => (hsm A' hE).has HG.out
      obtain ⟨p3, hp3⟩ : ∃ p, (getA (rdrA st.1 realm) group).isSome = p := ⟨_, rfl⟩
      rw [hp3] at hhas
      have HLM := Lib.hid hlm
      have HSM := Lib.hid hsm
      have HHAS := Lib.hid hhas
      have HP3 := Lib.hid hp3
      have HBM := Lib.hid hbm
      clear hlm hsm hhas hp3 hbm
      have c4 := aC3.cell (i := 0) rfl
      go_wp2_with fail
      clear c4
      have d0 := fun g : At W3.drew => (aR3.ext (((Keep.refl _ W3).drew).trans g.ext)).cell (i := 0) rfl
      have d1 := fun g : At W3.drew => Ext.cell (((Keep.refl _ W3).drew).trans g.ext) (Ext.cell HEW3.out (HH.out.cells.cell (i := 5) rfl))
      have d2 := fun g : At W3.drew => (aC3.ext (((Keep.refl _ W3).drew).trans g.ext)).cell (i := 3) rfl
      have d3 := fun g : At W3.drew => (aC3.ext (((Keep.refl _ W3).drew).trans g.ext)).cell (i := 2) rfl
      cases p3
      all_goals
        refine wp_flow (fun _ => .reads) (by kernel_rfl) (by kernel_rfl) ?_
        iterate 6 (refine flow_r rfl rfl ?_; go_big_quiet_step (fail); refine wpQuiet_nil ?_)
        refine flow_v (v := .map (some bm)) rfl rfl (fun w' hE => exec_lookup' rfl (HLM.out w' ((HEW3.out.drew).trans hE))) ?_
        simp only [Act.put, List.setIfInBounds_toArray, List.set_cons_succ, List.set_cons_zero]
        iterate 2 (refine flow_r rfl rfl ?_; go_big_quiet_step (fail); refine wpQuiet_nil ?_)
      case true =>
        refine flow_v (v := .bool true) rfl rfl (fun w' hE => exec_lookup' rfl (HHAS.out w' ((HEW3.out.drew).trans hE))) ?_
        simp only [Act.put, List.setIfInBounds_toArray, List.set_cons_succ, List.set_cons_zero]
        iterate 2 (refine flow_r rfl rfl ?_; go_big_quiet_step (fail); refine wpQuiet_nil ?_)
        clear d0 d1 d2 d3
        refine flow_end (fun W4 hE4 _ => ?_)
        replace hE4 : Ext W3 W4 := ((Keep.refl _ W3).drew).trans hE4
        have aE4 := aE3.ext hE4
        have hC : changeP st ⟨6, who, group, realm⟩ = some (0, st) := by
          unfold changeP
          simp [HP1.out, HP2.out, HP3.out]
        have c0 := aE4.cell (i := 0) rfl
        have f0 := aE4.frozen 0
        have hs1 := aE4.set 0 (.int .i64 0)
        have k9 := errX_set (B := w.heap.size) (v := .int .i64 0) aE4 (by omega)
        have hfin := FIN.out 0 st W4 _ (HRA.out.ext (HEW3.out.trans hE4)) (Keep.of_ext (HEW3.out.trans hE4)) k9 hC
        have HC := Lib.hid hC
        have cv := hs1.cell (i := 0) rfl
        clear FIN FNO k9 hC hs1 HL1 HL2 hE4
        go_wp2
        refine mark0_ret (v := .int .i64 0) rfl (by simp [results, Tryz.results36, go_sem]; rw [cv]) hfin
      case false =>
        refine flow_v (v := .bool false) rfl rfl (fun w' hE => exec_lookup' rfl (HHAS.out w' ((HEW3.out.drew).trans hE))) ?_
        simp only [Act.put, List.setIfInBounds_toArray, List.set_cons_succ, List.set_cons_zero]
        iterate 2 (refine flow_r rfl rfl ?_; go_big_quiet_step (fail); refine wpQuiet_nil ?_)
        clear d0 d1 d2 d3
        refine flow_end (fun W4 hE4 _ => ?_)
        replace hE4 : Ext W3 W4 := ((Keep.refl _ W3).drew).trans hE4
        have aR4 := aR3.ext hE4
        have aC4 := aC3.ext hE4
        have aE4 := aE3.ext hE4
        have HEW4 := Lib.hid (HEW3.out.trans hE4)
        clear hE4 aR3 aC3 aE3
        go_wp2_with fail
        have d0 := fun g : At W4.drew => (aR4.ext (((Keep.refl _ W4).drew).trans g.ext)).cell (i := 0) rfl
        have d1 := fun g : At W4.drew => Ext.cell (((Keep.refl _ W4).drew).trans g.ext) (Ext.cell HEW4.out (HH.out.cells.cell (i := 5) rfl))
        have d2 := fun g : At W4.drew => (aC4.ext (((Keep.refl _ W4).drew).trans g.ext)).cell (i := 3) rfl
        have d3 := fun g : At W4.drew => (aC4.ext (((Keep.refl _ W4).drew).trans g.ext)).cell (i := 2) rfl
        refine wp_flow (fun n => if n = 9 then .bar else .reads) (by kernel_rfl) (by kernel_rfl) ?_
        iterate 6 (refine flow_r rfl rfl ?_; go_big_quiet_step (fail); refine wpQuiet_nil ?_)
        refine flow_v (v := .map (some bm)) rfl rfl (fun w' hE => exec_lookup' rfl (HLM.out w' ((HEW4.out.drew).trans hE))) ?_
        simp only [Act.put, List.setIfInBounds_toArray, List.set_cons_succ, List.set_cons_zero]
        iterate 2 (refine flow_r rfl rfl ?_; go_big_quiet_step (fail); refine wpQuiet_nil ?_)
        clear d0 d1 d2 d3
        refine flow_b rfl (by kernel_rfl) (fun w5 hE5 _ => ?_)
        replace hE5 : Ext W4 w5 := ((Keep.refl _ W4).drew).trans hE5
        have e5 : Ext w w5 := HEW4.out.trans hE5
        obtain ⟨w6, hrun, hm6, hk6⟩ := (HSM.out w5 e5).put (V := SetV) Tryz.underlying137 (by have := HS.out.irdr realm; unfold maxLen; omega) HG.out ()
        replace hrun : (Instr.mapUpdate 137 (.map (some bm)) (.int .u32 (group : Int)) (.bool true)).run Tryz.prog w5 = .ok () w6 := hrun
        have hr6 := (HH.out.ext e5).turnRdr HBM.out hm6 hk6
        have HRUN := Lib.hid hrun
        have hRA6 : RingAt w6 N R Q TB A PL ({ st.1 with rdr := putA st.1.rdr realm (putA (rdrA st.1 realm) group ()) }, st.2) := ⟨b1, b2, b3, b4, b5, L4, L5, v, bv, hr6⟩
        have HRA6 := Lib.hid hRA6
        have aR6 := (aR4.ext hE5).keep hk6 MapX.cells
        have aC6 := (aC4.ext hE5).keep hk6 MapX.cells
        have aE6 := (aE4.ext hE5).keep hk6 MapX.cells
        have HK6 := Lib.hid ((Keep.of_ext e5).trans (hk6.mono (fun k o _ hx => MapX.rg (N := N) (TB := TB) (A := A) (PL := PL) (HH.out.h5 _ _ HBM.out).1 hx)))
        clear hrun hm6 hk6 hr6 hRA6 e5 hE5 aR4 aC4 aE4
        go_wp2_with (first
          | (refine wpList_skipw (o := ⟨none, .mapUpdate _ _ _ _, _, _, _, _⟩) (w' := w6) ?_ ?_ ?_; exact exec_mapUpdate' rfl HRUN.out; rfl)
          | fail)
        refine flow_end (fun w7 hE7 _ => ?_)
        replace hE7 : Ext w6 w7 := hE7
        have aR7 := aR6.ext hE7
        have aC7 := aC6.ext hE7
        have aE7 := aE6.ext hE7
        have HK7 := Lib.hid (HK6.out.trans (Keep.of_ext hE7))
        have HRA7 := Lib.hid (HRA6.out.ext hE7)
        obtain ⟨st6, hst6⟩ : ∃ s6 : St, (({ st.1 with rdr := putA st.1.rdr realm (putA (rdrA st.1 realm) group ()) }, st.2) : St) = s6 := ⟨_, rfl⟩
        have hC : changeP st ⟨6, who, group, realm⟩ = (readerP st6 realm group).map fun st => (0, st) := by
          rw [← hst6]
          unfold changeP
          simp [HP1.out, HP2.out, HP3.out]
        have hbx : st6.1.box.length ≤ 1000000 := by rw [← hst6]; have := HS.out.box; show st.1.box.length ≤ 1000000; omega
        rw [hst6] at HRA7
        have hcall := reader_any HRA7.out realm group HM.out HG.out hbx
        have HC := Lib.hid hC
        clear hE7 HK6 HRA6 aR6 aC6 aE6 HRUN HLM HHAS HBM hC hbx
        have c0 := aR7.cell (i := 0) rfl
        have c1 := aC7.cell (i := 3) rfl
        have c2 := aC7.cell (i := 2) rfl
        go_wp2_with fail
        refine hcall.mono ?_
        rintro e w9 ⟨hlo, hhi⟩
        clear hcall c0 c1 c2
        cases hB : readerP st6 realm group with
        | none =>
          obtain ⟨rfl, k9⟩ := hlo hB
          have aE9 := aE7.keep k9 (RgX.cells (by decide) (by decide) (by decide))
          have hC : changeP st ⟨6, who, group, realm⟩ = none := by rw [HC.out, hB]; rfl
          have ke := errX_set (B := w.heap.size) (v := .int .i64 60) aE9 (by omega)
          have c0 := aE9.cell (i := 0) rfl
          have f0 := aE9.frozen 0
          have hs1 := aE9.set 0 (.int .i64 60)
          have cv := hs1.cell (i := 0) rfl
          have hfin := FNO.out w9 _ (HK7.out.trans k9) ke hC
          clear FIN FNO hlo hhi hB k9 hC ke hs1
          go_wp2
          refine mark0_ret (v := .int .i64 60) rfl (by simp [results, Tryz.results36, go_sem]; rw [cv]) hfin
        | some st9 =>
          obtain ⟨rfl, hr9, k9⟩ := hhi st9 hB
          have aE9 := aE7.keep k9 (RgX.cells (by decide) (by decide) (by decide))
          have hC : changeP st ⟨6, who, group, realm⟩ = some (0, st9) := by rw [HC.out, hB]; rfl
          have ke := errX_set (B := w.heap.size) (v := .int .i64 0) aE9 (by omega)
          have c0 := aE9.cell (i := 0) rfl
          have f0 := aE9.frozen 0
          have hs1 := aE9.set 0 (.int .i64 0)
          have cv := hs1.cell (i := 0) rfl
          have hfin := FIN.out 0 st9 w9 _ hr9 (HK7.out.trans k9) ke hC
          clear FIN FNO hlo hhi hB k9 hC ke hs1 hr9
          go_wp2
          refine mark0_ret (v := .int .i64 0) rfl (by simp [results, Tryz.results36, go_sem]; rw [cv]) hfin
end Go.Proofs.YtcmhgpgookiomaaGreat
