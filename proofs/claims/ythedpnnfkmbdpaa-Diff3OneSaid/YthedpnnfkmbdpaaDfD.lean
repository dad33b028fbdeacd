/-
  diff3: hunks in memory; merged.between.
-/
import Derived.Test.YthedpnnfkmbdpaaDfC
namespace Go.Proofs.Ythedpnnfkmbdpaa
open Go.RowKit Go.Shelf

attribute [local go_sem] Oper.semAt_some

/-- A block as a merged one has them. -/
def MT (o : Obj) : Prop := ∃ cur t, o = .cells cur t (0, 0) ∧ (t = 67 ∨ t = 44 ∨ t = 9)
theorem mt_merged (cur : Array Value) : MT (.cells cur 67 (0, 0)) := ⟨cur, _, rfl, .inl rfl⟩
theorem mt_hunk (cur : Array Value) : MT (.cells cur 44 (0, 0)) := ⟨cur, _, rfl, .inr (.inl rfl)⟩
theorem mt_str (cur : Array Value) : MT (.cells cur 9 (0, 0)) := ⟨cur, _, rfl, .inr (.inr rfl)⟩
theorem mt_cells {o : Obj} (h : MT o) : o.isCells = true := by obtain ⟨cur, t, rfl, _⟩ := h; rfl
theorem mt_not {cur : Array Value} {t : TypeId} (h1 : t ≠ 67) (h2 : t ≠ 44) (h3 : t ≠ 9) : ¬ MT (.cells cur t (0, 0)) := fun h => by
  obtain ⟨cur', t', he, h⟩ := h
  cases he
  rcases h with h | h | h
  · exact h1 h
  · exact h2 h
  · exact h3 h

/-- A hunk as it lies in memory. -/
structure HV where
  k : Int
  x : Value
  a : Value
  b : Value
def HV.cells (h : HV) : List Value := [.int .i64 h.k, h.x, h.a, h.b]
def HV.bl (h : HV) : List (Option Nat) := [h.x.ownBlock, h.a.ownBlock, h.b.ownBlock]
abbrev ApartL (l : List (Option Nat)) : Prop := l.Pairwise (fun s t => ∀ k, s = some k → t ≠ some k)
/-- The three slices of the hunk h are g's, each in a block of its own. -/
def HIn (w : World) (g : HV) (h : Hunk ByteArray) : Prop :=
  g.k = h.k ∧ w.ownsRow 0 9 1 g.x h.x.length (h.x.map Value.string) ∧ w.ownsRow 0 9 1 g.a h.a.length (h.a.map Value.string) ∧ w.ownsRow 0 9 1 g.b h.b.length (h.b.map Value.string)
theorem HIn.keep {X : Nat → Obj → Prop} {w w' : World} {g : HV} {h : Hunk ByteArray} (hi : HIn w g h) (hk : Keep X w w') (hX : ∀ k cur, some k ∈ g.bl → ¬ X k (.cells cur 9 (0, 0))) : HIn w' g h := by
  obtain ⟨h1, h2, h3, h4⟩ := hi
  exact ⟨h1, hk.owns' h2 (fun k cur hk => hX k cur (by rw [← hk]; simp [HV.bl])), hk.owns' h3 (fun k cur hk => hX k cur (by rw [← hk]; simp [HV.bl])), hk.owns' h4 (fun k cur hk => hX k cur (by rw [← hk]; simp [HV.bl]))⟩
theorem HIn.lt {w : World} {g : HV} {h : Hunk ByteArray} (hi : HIn w g h) {k : Nat} (hk : some k ∈ g.bl) : k < w.heap.size := by
  obtain ⟨_, h2, h3, h4⟩ := hi
  simp only [HV.bl, List.mem_cons, List.not_mem_nil, or_false] at hk
  rcases hk with hk | hk | hk
  · exact (h2.lt k hk.symm).2
  · exact (h3.lt k hk.symm).2
  · exact (h4.lt k hk.symm).2

/-- Hunks that grow: block P holds the slice v of the hunks hs, their slices are hv's; all lie in blocks of G, apart from each other. -/
structure MIn (G : Nat → Prop) (w : World) (P : Nat) (v : Value) (hv : List HV) (hs : List (Hunk ByteArray)) : Prop where
  box : Arr w P 67 [v]
  gP : G P
  own : w.ownsRow 0 44 4 v hs.length (hv.flatMap HV.cells)
  gv : ∀ k, v.ownBlock = some k → G k
  len : hv.length = hs.length
  each : ∀ (i : Nat) (h : Hunk ByteArray) (g : HV), hs[i]? = some h → hv[i]? = some g → HIn w g h
  apart : ApartL (hv.flatMap HV.bl)
  gb : ∀ k, some k ∈ hv.flatMap HV.bl → G k

section
variable {G : Nat → Prop} {w w' : World} {P : Nat} {v : Value} {hv : List HV} {hs : List (Hunk ByteArray)}
theorem MIn.keep {X : Nat → Obj → Prop} (h : MIn G w P v hv hs) (hk : Keep X w w') (h1 : ∀ cur, ¬ X P (.cells cur 67 (0, 0))) (h2 : ∀ k cur, v.ownBlock = some k → ¬ X k (.cells cur 44 (0, 0)))
    (h3 : ∀ k cur, some k ∈ hv.flatMap HV.bl → ¬ X k (.cells cur 9 (0, 0))) : MIn G w' P v hv hs :=
  ⟨h.box.keep hk (h1 _), h.gP, hk.owns' h.own h2, h.gv, h.len, fun i a g ha hg => (h.each i a g ha hg).keep hk (fun k cur hb => h3 k cur (List.mem_flatMap.2 ⟨g, List.mem_of_getElem? hg, hb⟩)), h.apart, h.gb⟩
theorem MIn.ext (h : MIn G w P v hv hs) (hk : Ext w w') : MIn G w' P v hv hs := h.keep hk (fun _ h => h) (fun _ _ _ h => h) (fun _ _ _ h => h)
theorem MIn.bl_lt (h : MIn G w P v hv hs) {k : Nat} (hk : some k ∈ hv.flatMap HV.bl) : k < w.heap.size := by
  obtain ⟨g, hg, hb⟩ := List.mem_flatMap.1 hk
  obtain ⟨i, hi⟩ := List.mem_iff_getElem?.1 hg
  have hlt := (List.getElem?_eq_some_iff.1 hi).1
  obtain ⟨a, ha⟩ : ∃ a, hs[i]? = some a := ⟨_, List.getElem?_eq_getElem (by rw [← h.len]; exact hlt)⟩
  exact (h.each i a g ha hi).lt hb
theorem info_hunk : (Try.prog.info? 44).map (fun i => (i.zero, i.size, i.bytes)) = some (some (.agg #[.int .i64 0, .slice none 0 0, .slice none 0 0, .slice none 0 0]), 4, 80) := by kernel_rfl
/-- A hunk more: the slice v' that append has handed back is stored. -/
theorem MIn.push (h : MIn G w P v hv hs) (hG : ∀ k, w.heap.size ≤ k → G k) {w5 : World} (hE : Ext w w5) {g : HV} {a : Hunk ByteArray} (ha : HIn w5 g a) (hf : ∀ k, some k ∈ g.bl → w.heap.size ≤ k) (hap : ApartL g.bl)
    {v' : Value} (hown : w'.ownsRow 0 44 4 v' (hs.length + 1) (hv.flatMap HV.cells ++ g.cells)) (k1 : Keep (fun k o => v.ownBlock = some k ∧ ∃ cur, o = .cells cur 44 (0, 0)) w5 w') (hblk : v'.ownBlock = v.ownBlock ∨ v'.ownBlock = some w5.heap.size) :
    MIn G (w'.setCell ⟨P, 0, none⟩ v') P v' (hv ++ [g]) (hs ++ [a]) ∧ Keep (fun k o => G k ∧ MT o) w (w'.setCell ⟨P, 0, none⟩ v') := by
  have h5 := h.ext hE
  have b1 := h5.box.keep k1 (fun hx => by obtain ⟨_, _, hx⟩ := hx; cases hx)
  have k2 : Keep (fun k o => k = P ∧ ∃ cur, o = .cells cur 67 (0, 0)) w' (w'.setCell ⟨P, 0, none⟩ v') := (Keep.refl _ _).setCell _ _ (fun o ho => ⟨rfl, by rw [show w'.heap[P]? = _ from b1] at ho; cases ho; exact ⟨_, rfl⟩⟩)
  have b2 := b1.set 0 v'
  have hs5 := hE.size
  refine ⟨⟨b2, h.gP, ?_, fun k hk => ?_, by rw [List.length_append, List.length_append, h.len]; rfl, fun i c q hc hq => ?_, ?_, fun k hk => ?_⟩, ?_⟩
  · rw [List.length_append, List.flatMap_append]
    have := k2.owns' hown (fun k cur _ hx => by obtain ⟨_, _, hx⟩ := hx; cases hx)
    simpa using this
  · rcases hblk with hb | hb
    · exact h.gv k (by rw [← hb]; exact hk)
    · rw [hb] at hk; cases hk; exact hG _ hs5
  · have hold : ∀ {q : HV} {c : Hunk ByteArray}, HIn w5 q c → HIn (w'.setCell ⟨P, 0, none⟩ v') q c := fun hh =>
      (hh.keep k1 (fun k cur _ hx => by obtain ⟨_, _, hx⟩ := hx; cases hx)).keep k2 (fun k cur _ hx => by obtain ⟨_, _, hx⟩ := hx; cases hx)
    by_cases hlt : i < hs.length
    · rw [List.getElem?_append_left hlt] at hc
      rw [List.getElem?_append_left (by rw [h.len]; exact hlt)] at hq
      exact hold (h5.each i c q hc hq)
    · rw [List.getElem?_append_right (by omega)] at hc
      rw [List.getElem?_append_right (by rw [h.len]; omega), h.len] at hq
      cases hk : i - hs.length with
      | zero => rw [hk] at hc hq; simp at hc hq; subst hc; subst hq; exact hold ha
      | succ k => rw [hk] at hc; simp at hc
  · rw [List.flatMap_append]
    refine List.pairwise_append.2 ⟨h.apart, by simpa using hap, fun s hs' t ht k hk1 hk2 => ?_⟩
    subst hk1
    subst hk2
    have h1 := h.bl_lt hs'
    have h2 := hf k (by simpa using ht)
    omega
  · rw [List.flatMap_append] at hk
    rcases List.mem_append.1 hk with hk | hk
    · exact h.gb k hk
    · exact hG k (hf k (by simpa using hk))
  · refine ((Keep.of_ext hE).trans (k1.mono (fun k o _ hx => ?_))).trans (k2.mono (fun k o _ hx => ?_))
    · obtain ⟨h1, cur, rfl⟩ := hx
      exact ⟨h.gv k h1, mt_hunk _⟩
    · obtain ⟨rfl, cur, rfl⟩ := hx
      exact ⟨h.gP, mt_merged _⟩
end

/-- What hunk hands back. -/
def HunkV (base : Nat) (k : Int) (x a b : List ByteArray) (v : Value) (w : World) : Prop := ∃ p1 p2 p3 d1 d2 d3, v = .agg #[.int .i64 k, .slice p1 x.length d1, .slice p2 a.length d2, .slice p3 b.length d3] ∧
  w.ownsRow base 9 1 (.slice p1 x.length d1) x.length (x.map Value.string) ∧ w.ownsRow base 9 1 (.slice p2 a.length d2) a.length (a.map Value.string) ∧ w.ownsRow base 9 1 (.slice p3 b.length d3) b.length (b.map Value.string) ∧
  Apart (.slice p1 x.length d1) (.slice p2 a.length d2) ∧ Apart (.slice p1 x.length d1) (.slice p3 b.length d3) ∧ Apart (.slice p2 a.length d2) (.slice p3 b.length d3)
def HunkVSh (k : Int) (n1 n2 n3 : Nat) (v : Value) : Prop := ∃ p1 p2 p3 d1 d2 d3, v = .agg #[.int .i64 k, .slice p1 n1 d1, .slice p2 n2 d2, .slice p3 n3 d3]
theorem HunkV.ext {base : Nat} {k : Int} {x a b : List ByteArray} {v : Value} {w w' : World} (h : HunkV base k x a b v w) (hE : Ext w w') : HunkV base k x a b v w' := by
  obtain ⟨p1, p2, p3, d1, d2, d3, h0, h1, h2, h3, h4, h5, h6⟩ := h
  exact ⟨p1, p2, p3, d1, d2, d3, h0, Ext.owns hE h1, Ext.owns hE h2, Ext.owns hE h3, h4, h5, h6⟩
/-- A slice of one hunk. -/
def HunkS (base : Nat) (k : Int) (x a b : List ByteArray) (v : Value) (w : World) : Prop := ∃ g p1 p2 p3 d1 d2 d3, v = .slice (some ⟨g, 0, none⟩) 1 1 ∧
  w.heap[g]? = some (.cells #[.int .i64 k, .slice p1 x.length d1, .slice p2 a.length d2, .slice p3 b.length d3] 44 (0, 0)) ∧ HunkV base k x a b (.agg #[.int .i64 k, .slice p1 x.length d1, .slice p2 a.length d2, .slice p3 b.length d3]) w
def OneSh (v : Value) : Prop := ∃ g, v = .slice (some ⟨g, 0, none⟩) 1 1
theorem HunkS.ext {base : Nat} {k : Int} {x a b : List ByteArray} {v : Value} {w w' : World} (h : HunkS base k x a b v w) (hE : Ext w w') : HunkS base k x a b v w' := by
  obtain ⟨g, p1, p2, p3, d1, d2, d3, h0, h1, h2⟩ := h
  exact ⟨g, p1, p2, p3, d1, d2, d3, h0, hE.block _ _ h1 (fun h => h), h2.ext hE⟩

/-- What between (and the like) leaves. -/
def MQ (G : Nat → Prop) (w : World) (P : Nat) (hs : List (Hunk ByteArray)) (e : Ending) (w' : World) : Prop := (∃ u, e = .returned u) ∧ (∃ v hv, MIn G w' P v hv hs) ∧ Keep (fun k o => G k ∧ MT o) w w'

set_option maxRecDepth 20000 in
set_option maxHeartbeats 4000000 in
theorem between_any {G : Nat → Prop} {w : World} {P : Nat} {v : Value} {hv : List HV} {hs : List (Hunk ByteArray)} (h : MIn G w P v hv hs) (hG : ∀ k, w.heap.size ≤ k → G k) (hn : hs.length ≤ 100000)
    (a1 a2 a3 : Option Addr) (n1 c1 n2 c2 n3 c3 : Nat) (x a b : List ByteArray) (r1 : Row 1 w a1 n1 c1 (x.map Value.string)) (r2 : Row 1 w a2 n2 c2 (a.map Value.string)) (r3 : Row 1 w a3 n3 c3 (b.map Value.string))
    (l1 : n1 ≤ 1000000) (l2 : n2 ≤ 1000000) (l3 : n3 ≤ 1000000) :
    Calls Try.prog 36 #[.pointer (some ⟨P, 0, none⟩), .slice a1 n1 c1, .slice a2 n2 c2, .slice a3 n3 c3] w (MQ G w P (betweenL hs x a b)) := by
  have hlx : x.length = n1 := by have := r1.2.2.1; simpa using this
  have hla : a.length = n2 := by have := r2.2.2.1; simpa using this
  have hlb : b.length = n3 := by have := r3.2.2.1; simpa using this
  refine calls_cps fun R hR => ?_
  have HR := Lib.hid hR
  clear hR
  go_enter Try.func36, Try.ntmps36
  by_cases h0 : 0 < n1 + n2 + n3
  · have h0' : (0 : Int) < (n1 : Int) + (n2 : Int) + (n3 : Int) := by omega
    have hbet : betweenL hs x a b = hs ++ [⟨kindL x a b, x, a, b⟩] := by unfold betweenL; rw [if_pos (by omega)]
    obtain ⟨kd, hkd⟩ : ∃ k, kindL x a b = k := ⟨_, rfl⟩
    rw [hbet, hkd] at HR
    have H := Lib.hid h
    obtain ⟨av, cv, rfl, _⟩ := owns_row h.own
    have cP := h.box.cell (i := 0) rfl
    have R1 := Lib.hid r1
    have R2 := Lib.hid r2
    have R3 := Lib.hid r3
    have HX := Lib.hid hlx
    have HA := Lib.hid hla
    have HB := Lib.hid hlb
    clear h r1 r2 r3 hlx hla hlb hbet
    go_wp2
    have hD : ∀ g : FY.At (fun _ _ => False) w.drew, Ext w g.w := fun g => ((Keep.refl _ w).drew).trans g.ext
    have d0 := fun g => Ext.cell (hD g) cP
    refine FY.wp_flow (X := fun k o => (Value.slice av hs.length cv).ownBlock = some k ∧ ∃ cur, o = .cells cur 44 (0, 0)) (0 :: 1 :: 2 :: 3 :: 4 :: 5 :: 6 :: 7 :: 8 :: 9 :: 10 :: 11 :: 12 :: 13 :: 14 :: 15 :: 16 :: 17 :: [])
      (fun n => if n = 0 then .still else if n = 8 then .grows (Is (.int .i64 kd)) (IsSh (.int .i64 kd)) else if n = 12 then .grows (HunkV w.heap.size kd x a b) (HunkVSh kd n1 n2 n3) else if n = 13 then .grows (HunkS w.heap.size kd x a b) OneSh else if n = 14 then .bar else if n = 17 then .last else .reads) (by kernel_rfl) (by kernel_rfl) ?_
    refine FY.flow_q rfl rfl rfl ?_; go_big_quiet_step (fail); refine wpQuiet_nil ?_
    iterate 7 (refine FY.flow_r rfl rfl rfl ?_; go_big_quiet_step (fail); refine wpQuiet_nil ?_)
    refine FY.flow_g rfl rfl rfl (by simp) ⟨_, rfl⟩ (fun _ _ _ h hE => h) (fun _ _ h => h) (fun w5 hE5 _ => ?_) (fun v hv' => ?_)
    · have hx5 : Ext w w5 := ((Keep.refl _ w).drew).trans hE5
      have hc := kind_any a1 a2 a3 n1 c1 n2 c2 n3 c3 x a b w5 (R1.out.ext hx5) (R2.out.ext hx5) (R3.out.ext hx5)
      rw [hkd] at hc
      go_wp2_with fail
      refine hc.mono ?_
      rintro e w6 ⟨rfl, hE6⟩
      go_wp2
      first | exact ⟨hE6, rfl⟩ | exact rfl
    cases hv'
    simp only [Act.put, List.setIfInBounds_toArray, List.set_cons_succ, List.set_cons_zero]
    iterate 3 (refine FY.flow_r rfl rfl rfl ?_; go_big_quiet_step (fail); refine wpQuiet_nil ?_)
    refine FY.flow_g rfl rfl rfl (by simp) ⟨_, none, none, none, 0, 0, 0, rfl⟩ (fun _ _ _ h hE => h.ext hE) (fun v A h => ?_) (fun w5 hE5 _ => ?_) (fun v hv' => ?_)
    · obtain ⟨p1, p2, p3, d1, d2, d3, h0, _⟩ := h
      exact ⟨p1, p2, p3, d1, d2, d3, by rw [h0, HX.out, HA.out, HB.out]⟩
    · have hx5 : Ext w w5 := ((Keep.refl _ w).drew).trans hE5
      have hc := hunk_any kd a1 a2 a3 n1 c1 n2 c2 n3 c3 x a b w5 (R1.out.ext hx5) (R2.out.ext hx5) (R3.out.ext hx5) l1 l2 l3
      have hs5 := hx5.size
      go_wp2_with fail
      refine hc.mono ?_
      rintro e w6 ⟨p1, p2, p3, d1, d2, d3, rfl, q1, q2, q3, q4, q5, q6, hE6⟩
      have hv6 : HunkV w.heap.size kd x a b (.agg #[.int .i64 kd, .slice p1 n1 d1, .slice p2 n2 d2, .slice p3 n3 d3]) w6 := by
        refine ⟨p1, p2, p3, d1, d2, d3, ?_⟩
        rw [HX.out, HA.out, HB.out]
        exact ⟨rfl, owns_mono q1 hs5, owns_mono q2 hs5, owns_mono q3 hs5, q4, q5, q6⟩
      clear hc q1 q2 q3 q4 q5 q6
      go_wp2
    obtain ⟨p1, p2, p3, d1, d2, d3, rfl⟩ := hv'
    simp only [Act.put, List.setIfInBounds_toArray, List.set_cons_succ, List.set_cons_zero]
    refine FY.flow_g rfl rfl rfl (by simp) ⟨_, 0, rfl⟩ (fun _ _ _ h hE => h.ext hE) (fun v A ⟨g, _, _, _, _, _, _, h, _⟩ => ⟨g, h⟩) (fun w5 hE5 hf => ?_) (fun v hv' => ?_)
    · have hV : HunkV w.heap.size kd x a b (.agg #[.int .i64 kd, .slice p1 n1 d1, .slice p2 n2 d2, .slice p3 n3 d3]) w5 := hf 12 (by kernel_rfl)
      have hS : HunkS w.heap.size kd x a b (.slice (some ⟨w5.heap.size, 0, none⟩) 1 1) (w5.alloc (.cells #[.int .i64 kd, .slice p1 n1 d1, .slice p2 n2 d2, .slice p3 n3 d3] 44)) := by
        refine ⟨w5.heap.size, p1, p2, p3, d1, d2, d3, rfl, ?_⟩
        rw [HX.out, HA.out, HB.out]
        exact ⟨World.alloc_heap_new _ _, hV.ext ((Keep.refl _ _).alloc _)⟩
      have hE6 : Ext w5 (w5.alloc (.cells #[.int .i64 kd, .slice p1 n1 d1, .slice p2 n2 d2, .slice p3 n3 d3] 44)) := (Keep.refl _ _).alloc _
      clear hf hV
      go_wp2
    obtain ⟨g, rfl⟩ := hv'
    simp only [Act.put, List.setIfInBounds_toArray, List.set_cons_succ, List.set_cons_zero]
    refine FY.flow_bvs rfl rfl rfl (by simp) (by kernel_rfl) (fun w5 hE5 hf => ?_)
    obtain ⟨g', q1, q2, q3, e1, e2, e3, hg1, hg2, hV⟩ : HunkS w.heap.size kd x a b (.slice (some ⟨g, 0, none⟩) 1 1) w5 := hf 13
    cases hg1
    obtain ⟨q1', q2', q3', e1', e2', e3', heq, o1, o2, o3, A12, A13, A23⟩ := hV
    simp only [Value.agg.injEq, Array.mk.injEq, List.cons.injEq, Value.slice.injEq, true_and, and_true] at heq
    obtain ⟨⟨rfl, rfl⟩, ⟨rfl, rfl⟩, rfl, rfl⟩ := heq
    have hx5 : Ext w w5 := ((Keep.refl _ w).drew).trans hE5
    have h5 := H.out.ext hx5
    obtain ⟨i, hi, hz, hsz, hb⟩ := info_parts info_hunk
    obtain ⟨v', w6, hrun, hown', hgrow, _, hblk⟩ := run_append_own_at (P := Try.prog) w5 0 41 41 44 i _ 4 80 Try.underlying41 hi hz hsz hb rfl (by decide) _ _ _ h5.own ⟨g, 0, none⟩ 1 1 [.int .i64 kd, .slice q1 x.length e1, .slice q2 a.length e2, .slice q3 b.length e3] rfl
      (fun j u hu => by rw [addr_add, Nat.zero_add, cell_of_row _ _ _ _ 44 (0, 0) hg2]; simpa using hu) (by simp [Value.oneCell']) (by unfold maxLen; omega) (by omega) (Nat.zero_le _)
    have hk6 : Keep (fun k o => (Value.slice av hs.length cv).ownBlock = some k ∧ ∃ cur, o = .cells cur 44 (0, 0)) w5 w6 := Keep.of_grownBy hgrow (fun k o hk ho => by
      rcases h5.own.2 with ⟨hn0, _⟩ | ⟨g', cap, cur, hn0, hb, hgb, _⟩
      · rw [hn0] at hk; simp [Value.ownBlock] at hk
      · rw [hn0] at hk
        obtain rfl : g' = k := by simpa [Value.ownBlock] using hk
        rw [hgb] at ho; cases ho; exact ⟨by rw [hn0]; rfl, _, rfl⟩)
    have hpush := fun C2 (hC2 : Ext w6 C2) => H.out.push hG hx5 (g := ⟨kd, .slice q1 x.length e1, .slice q2 a.length e2, .slice q3 b.length e3⟩) (a := ⟨kd, x, a, b⟩) ⟨rfl, owns_mono o1 (Nat.zero_le _), owns_mono o2 (Nat.zero_le _), owns_mono o3 (Nat.zero_le _)⟩
      (fun k hk => by
        simp only [HV.bl, List.mem_cons, List.not_mem_nil, or_false] at hk
        rcases hk with hk | hk | hk
        · exact (o1.lt k hk.symm).1
        · exact (o2.lt k hk.symm).1
        · exact (o3.lt k hk.symm).1)
      (by
        refine List.Pairwise.cons (fun t ht k h1 h2 => ?_) (List.Pairwise.cons (fun t ht k h1 h2 => ?_) (List.pairwise_singleton _ _))
        · simp only [List.mem_cons, List.not_mem_nil, or_false] at ht
          rcases ht with rfl | rfl
          · exact A12 k h1 h2
          · exact A13 k h1 h2
        · simp only [List.mem_cons, List.not_mem_nil, or_false] at ht
          subst ht
          exact A23 k h1 h2) (Ext.owns hC2 hown') (hk6.trans (Keep.of_ext hC2)) hblk
    have cP6 := (h5.box.keep hk6 (fun hx => by obtain ⟨_, _, hx⟩ := hx; cases hx))
    have c0 := cP6.cell (i := 0) rfl
    have f0 := cP6.frozen 0
    obtain ⟨a6, c6, rfl, _⟩ := owns_row hown'
    have Hrun := Lib.hid hrun
    have HP := Lib.hid hpush
    clear hf hrun hpush hown' hgrow hblk o1 o2 o3 h5 hg2 d0 hD
    go_wp2_with (at_builtin; go_must (refine wpList_append_run Hrun.out rfl rfl rfl rfl ?_))
    iterate 2 (refine FY.flow_r rfl rfl rfl ?_; go_big_quiet_step (fail); refine wpQuiet_nil ?_)
    refine FY.flow_l rfl rfl (by kernel_rfl) (fun C2 hE2 _ => ?_)
    have hp := HP.out C2 hE2
    have c2 := Ext.cell hE2 c0
    have f2 := (cP6.ext hE2).frozen 0
    have hfin := fun u => HR.out (.returned u) _ ⟨⟨_, rfl⟩, ⟨_, _, hp.1⟩, hp.2⟩
    clear HP hp c0 f0 cP6 HR
    go_wp2
    go_end0
    exact hfin _
  · have h0' : ¬ ((0 : Int) < (n1 : Int) + (n2 : Int) + (n3 : Int)) := by omega
    have hbet : betweenL hs x a b = hs := by unfold betweenL; rw [if_neg (by omega)]
    rw [hbet] at HR
    have hfin := fun u => HR.out (.returned u) w ⟨⟨_, rfl⟩, ⟨v, hv, h⟩, Keep.refl _ _⟩
    clear HR h r1 r2 r3
    go_wp2
    go_end0
    exact hfin _
end Go.Proofs.Ythedpnnfkmbdpaa
