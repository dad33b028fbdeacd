/-
  slices.Clone of bytes; a log in memory; took, Count, Room.
-/
import Derived.Test.YtdopaoajbjodeaaSlB
import Derived.Test.YtdopaoajbjodeaaFlowZ
import Derived.Test.YtdopaoajbjodeaaVecMb
import Derived.Maps.AppendAt
namespace Go.Proofs.Ytdopaoajbjodeaa
open Go.RowKit Go.Shelf

attribute [local go_sem] Oper.semAt_some

set_option maxRecDepth 20000 in
set_option maxHeartbeats 1000000 in
theorem clone_any (a : Option Addr) (n c : Nat) (l : List UInt8) (w : World) (h : Row 1 w a n c (l.map u8v)) (hn : n ≤ 1000000) :
    Calls Try.prog 45 #[.slice a n c] w fun e w' => ∃ v, e = .returned v ∧ w'.ownsRow w.heap.size 5 1 v n (l.map u8v) ∧ Ext w w' := by
  refine calls_cps fun R hR => ?_
  have heq := fun w => Lib.run_eql_slice_nil (P := Try.prog) w 25 5 a n c 0 0 Try.underlying25
  go_enter Try.func45, Try.ntmps45
  cases a with
  | none =>
    simp only [Option.isNone_none] at heq
    have hc0 : c = 0 := h.2.2.2.1 rfl
    have hn0 : n = 0 := by have := h.1; omega
    subst hn0
    have H := Lib.hid h
    clear h hc0
    go_wp2
    exact ⟨_, rfl, ⟨by simpa using (H.out).2.2.1, .inl ⟨rfl, rfl⟩⟩, Keep.refl _ _⟩
  | some p =>
    simp only [Option.isNone_some] at heq
    have hown0 := World.ownsRow_lit (base := w.heap.size) (e := 5) (size := 1) w #[] 0 (Nat.le_refl _) (by simp [maxLen]) rfl
    have eA : Ext w (w.alloc (.cells #[] 5)) := (Keep.refl _ w).alloc _
    obtain ⟨v', w', hrun, hown', hgrow, _⟩ := run_append_row (w.alloc (.cells #[] 5)) w.heap.size 25 25 5 _ 1 1 Try.underlying25 info_u8 rfl (by decide) hown0 (h.ext eA) (u8v_one l) (by unfold maxLen; omega) (by omega) (by simp)
    rw [Nat.zero_add, List.nil_append] at hown'
    obtain ⟨a2, c2, rfl, hr2⟩ := owns_row hown'
    have hE : Ext w w' := Keep.grown eA hgrow (fun k o hk ho => by cases hk; have := Keep.lt ho; simp at this)
    have Hrun := Lib.hid hrun
    have HB := Lib.hid hown'
    clear hrun hown0 hown' h hr2
    go_wp2_with (at_builtin; go_must (refine wpList_append_run Hrun.out rfl rfl rfl rfl ?_))
    exact ⟨_, rfl, HB.out, hE⟩

/-- A log's state. -/
structure LSt where
  fr : Nat
  n : Nat
  gen : UInt32
  at' : Nat
  recs : List (List UInt8)
  br : Bool

/-- A log in the block LB (a struct of the type T, with cells ex behind those that both have); its disk in the block B; v: the slice of its records. -/
structure LA (T : TypeId) (ex : List Value) (w : World) (LB B : Nat) (v : Value) (s : LSt) : Prop where
  cells : Arr w LB T ([.pointer (some ⟨B, 0, none⟩), .int .i64 (s.fr : Int), .int .i64 (s.n : Int), .int .u32 (s.gen.toNat : Int), .int .i64 (s.at' : Int), v, .bool s.br] ++ ex)
  own : ∃ vs, w.ownsRow 0 25 1 v s.recs.length vs ∧ OwnTexts w vs s.recs
  reg : s.fr + s.n ≤ 65536
  le : s.at' ≤ s.n
  few : s.recs.length ≤ s.at'
  short : ∀ l ∈ s.recs, l.length ≤ 262144
abbrev PL := LA 33 [.bool true]
abbrev RL := LA 52 []

theorem LA.keep {X : Nat → Obj → Prop} {T : TypeId} {ex : List Value} {w w' : World} {LB B : Nat} {v : Value} {s : LSt} (h : LA T ex w LB B v s) (hk : Keep X w w') (h1 : ∀ cur, ¬ X LB (.cells cur T (0, 0)))
    (h2 : ∀ k cur, v.ownBlock = some k → ¬ X k (.cells cur 25 (0, 0))) (h3 : ∀ k cur, ¬ X k (.cells cur 5 (0, 0))) : LA T ex w' LB B v s := by
  obtain ⟨vs, o1, o2⟩ := h.own
  exact ⟨h.cells.keep hk (h1 _), ⟨vs, hk.owns' o1 h2, o2.keep hk h3⟩, h.reg, h.le, h.few, h.short⟩
theorem LA.ext {T : TypeId} {ex : List Value} {w w' : World} {LB B : Nat} {v : Value} {s : LSt} (h : LA T ex w LB B v s) (hk : Ext w w') : LA T ex w' LB B v s := h.keep hk (fun _ h => h) (fun _ _ _ h => h) (fun _ _ h => h)

/-- What a log has when it has taken a record. -/
def LSt.took (s : LSt) (l : List UInt8) : LSt := { s with at' := s.at' + spanN l.length, recs := s.recs ++ [l] }
/-- What append of a record to a log's records leaves: of the blocks that were there only the slice's own turns. -/
theorem run_append_rec {w : World} {T : TypeId} {ex : List Value} {LB B : Nat} {v : Value} {s : LSt} (h : LA T ex w LB B v s) {u : Value} {l : List UInt8} (hu : w.ownsRow 0 5 1 u l.length (l.map u8v)) {g c : Nat} (hs : Row 1 w (some ⟨g, 0, none⟩) 1 c [u]) (u1 : u.oneCell' = true) (ty : TypeId) :
    ∃ v' w', (Builtin.append_ #[31, 31] ty #[v, .slice (some ⟨g, 0, none⟩) 1 c]).run Try.prog w = .ok v' w' ∧ (∃ a c, v' = .slice a (s.recs.length + 1) c) ∧
      (∃ vs, w'.ownsRow 0 25 1 v' (s.recs ++ [l]).length vs ∧ OwnTexts w' vs (s.recs ++ [l])) ∧ Keep (fun k o => v.ownBlock = some k ∧ ∃ cur, o = .cells cur 25 (0, 0)) w w' ∧ (v'.ownBlock = v.ownBlock ∨ v'.ownBlock = some w.heap.size) := by
  obtain ⟨vs, o1, o2⟩ := h.own
  have hfew := h.few
  have hle := h.le
  have hreg := h.reg
  obtain ⟨i, hi, hz, hsz, hb⟩ := info_parts (show (Try.prog.info? 25).map (fun i => (i.zero, i.size, i.bytes)) = some (some (.slice none 0 0), 1, 24) by kernel_rfl)
  have hcell : ∀ j x, ([u] : List Value)[j]? = some x → w.cell? ((⟨g, 0, none⟩ : Addr).add j) = some x := fun j x hx => by rw [addr_add]; exact hs.cell rfl hx (by decide)
  obtain ⟨v', w', hrun, hown', hgrow, _, hblk⟩ := run_append_own_at (P := Try.prog) w 0 31 ty 25 i _ 1 24 Try.underlying31 hi hz hsz hb rfl (by decide) v _ vs o1 ⟨g, 0, none⟩ 1 c [u] rfl hcell (by simpa using u1) (by unfold maxLen; omega) (by omega) (Nat.zero_le _)
  obtain ⟨a, c', rfl, _⟩ := owns_row hown'
  have hK : Keep (fun k o => v.ownBlock = some k ∧ ∃ cur, o = .cells cur 25 (0, 0)) w w' := Keep.of_grownBy hgrow (fun k o hk ho => by
    rcases o1.2 with ⟨rfl, _⟩ | ⟨g', cap, cur, rfl, hb, hgb, _⟩
    · simp [Value.ownBlock] at hk
    · obtain rfl : g' = k := by simpa [Value.ownBlock] using hk
      rw [hgb] at ho; cases ho; exact ⟨rfl, _, rfl⟩)
  have hX : ∀ (k : Nat) (cur : Array Value), ¬ (v.ownBlock = some k ∧ ∃ cur', (Obj.cells cur 5 (0, 0)) = .cells cur' 25 (0, 0)) := fun k cur ⟨_, _, h⟩ => by cases h
  refine ⟨_, w', hrun, ⟨a, c', rfl⟩, ⟨vs ++ [u], by rw [List.length_append]; exact hown', (o2.keep hK hX).snoc (hK.owns' hu (fun k cur _ => hX k cur))⟩, hK, hblk⟩

def OwnB (l : List UInt8) (v : Value) (w : World) : Prop := w.ownsRow 0 5 1 v l.length (l.map u8v)
def OneOf (u : Value) (v : Value) (w : World) : Prop := ∃ g, v = .slice (some ⟨g, 0, none⟩) 1 1 ∧ Row 1 w (some ⟨g, 0, none⟩) 1 1 [u]
def OneOfSh (v : Value) : Prop := ∃ g, v = .slice (some ⟨g, 0, none⟩) 1 1
/-- What took (and the like) leaves. -/
def TookQ (T : TypeId) (ex : List Value) (w : World) (LB B : Nat) (v : Value) (s : LSt) (w' : World) : Prop :=
  ∃ v', LA T ex w' LB B v' s ∧ Keep (fun k o => (k = LB ∧ ∃ cur, o = .cells cur T (0, 0)) ∨ (v.ownBlock = some k ∧ ∃ cur, o = .cells cur 25 (0, 0))) w w' ∧ (v'.ownBlock = v.ownBlock ∨ ∀ k, v'.ownBlock = some k → w.heap.size ≤ k)

set_option maxRecDepth 20000 in
set_option maxHeartbeats 2000000 in
theorem took_any {w : World} {LB B : Nat} {v : Value} {s : LSt} (h : PL w LB B v s) (a : Option Addr) (m c : Nat) (l : List UInt8) (hr : Row 1 w a m c (l.map u8v)) (hm : m ≤ 262144) (hfit : s.at' + spanN m ≤ s.n) :
    Calls Try.prog 32 #[.pointer (some ⟨LB, 0, none⟩), .slice a m c] w fun e w' => (∃ u, e = .returned u) ∧ TookQ 33 [.bool true] w LB B v (s.took l) w' := by
  have hll : l.length = m := by have := hr.2.2.1; simpa using this
  subst hll
  have hmc := hr.1
  have hsp := spanN_pos hm
  have hspl := spanN_le l.length
  have hreg := h.reg
  obtain ⟨vs, o1, o2⟩ := h.own
  refine calls_cps fun R hR => ?_
  have hfin : ∀ u w', TookQ 33 [.bool true] w LB B v (s.took l) w' → R (.returned u) w' := fun u w' hq => hR _ _ ⟨⟨u, rfl⟩, hq⟩
  clear hR
  obtain ⟨av, nv, cv, rfl⟩ : ∃ a n c, v = .slice a n c := by obtain ⟨a, c, q, _⟩ := owns_row o1; exact ⟨a, _, c, q⟩
  have c4 := h.cells.cell (i := 4) rfl
  have c5 := h.cells.cell (i := 5) rfl
  have f5 := h.cells.frozen 5
  obtain ⟨at0, hat⟩ : ∃ x, s.at' = x := ⟨_, rfl⟩
  have hle := h.le
  rw [hat] at c4 hfit hle
  clear o1 o2
  go_enter Try.func32, Try.ntmps32
  go_wp2
  refine FY.wp_flow (X := fun k o => (Value.slice av nv cv).ownBlock = some k ∧ ∃ cur, o = .cells cur 25 (0, 0)) (0 :: 1 :: 2 :: 3 :: 4 :: 5 :: 6 :: 7 :: 8 :: 9 :: 10 :: 11 :: [])
    (fun n => if n = 6 then .grows (OwnB l) (SliceN l.length) else if n = 7 then .grows (fun v w => ∃ au cu, OneOf (.slice au l.length cu) v w ∧ OwnB l (.slice au l.length cu) w) OneOfSh else if n = 8 then .bar else if n = 11 then .last else .still) (by kernel_rfl) (by kernel_rfl) ?_
  have hXL : ∀ cur, ¬ (fun (k : Nat) (o : Obj) => (Value.slice av nv cv).ownBlock = some k ∧ ∃ cur, o = .cells cur 25 (0, 0)) LB (.cells cur 33 (0, 0)) := fun cur ⟨_, _, h⟩ => by cases h
  have hDs : ∀ g : FY.At (fun k o => (Value.slice av nv cv).ownBlock = some k ∧ ∃ cur, o = .cells cur 25 (0, 0)) w.drew, g.w.cell? ⟨LB, 5, none⟩ = some (.slice av nv cv) := fun g => (h.cells.keep (((Keep.refl _ w).drew).trans g.ext) (hXL _)).cell (i := 5) rfl
  iterate 6 (refine FY.flow_q rfl rfl rfl ?_; go_big_quiet_step (fail); refine wpQuiet_nil ?_)
  refine FY.flow_g rfl rfl rfl (by simp) ⟨_, none, 0, rfl⟩ (fun _ _ _ h hE => hE.owns h) (fun _ _ h => by obtain ⟨a, c, q, _⟩ := owns_row h; exact ⟨a, c, q⟩) (fun w5 hE5 _ => ?_) (fun v hv => ?_)
  · have hc := clone_any a l.length c l w5 (hr.ext (((Keep.refl _ w).drew).trans hE5)) (by omega)
    go_wp2_with fail
    refine hc.mono ?_
    rintro e w6 ⟨u, rfl, hown, hE6⟩
    have HO := Lib.hid (show OwnB l u w6 from owns_mono hown (Nat.zero_le _))
    obtain ⟨a', c', rfl, _⟩ := owns_row hown
    clear hown hc
    go_wp2
    first | exact ⟨hE6, HO.out⟩ | exact HO.out
  obtain ⟨au, cu, rfl⟩ := hv
  simp only [Act.put, List.setIfInBounds_toArray, List.set_cons_succ, List.set_cons_zero]
  refine FY.flow_g rfl rfl rfl (by simp) ⟨_, 0, rfl⟩ (fun v A B ⟨a1, c1, ⟨g, h1, h2⟩, h3⟩ hE => ⟨a1, c1, ⟨g, h1, h2.ext hE⟩, hE.owns h3⟩) (fun v A ⟨_, _, ⟨g, h1, _⟩, _⟩ => ⟨g, h1⟩) (fun w5 hE5 hf => ?_) (fun v hv => ?_)
  · have HO := Lib.hid (show OwnB l (.slice au l.length cu) w5 from hf 6 (by kernel_rfl))
    have HW := Lib.hid (lit_row (base := 0) w5 25 #[.slice au l.length cu] 1 (by simp [maxLen]) rfl (Nat.zero_le _)).2
    have eA : Ext w5 (w5.alloc (.cells #[.slice au l.length cu] 25)) := (Keep.refl _ w5).alloc _
    clear hf
    go_wp2
    first | exact ⟨eA, au, cu, ⟨_, rfl, HW.out⟩, eA.owns HO.out⟩ | exact ⟨au, cu, ⟨_, rfl, HW.out⟩, eA.owns HO.out⟩
  obtain ⟨g, rfl⟩ := hv
  simp only [Act.put, List.setIfInBounds_toArray, List.set_cons_succ, List.set_cons_zero]
  refine FY.flow_bvs rfl rfl rfl (by simp) (by kernel_rfl) (fun w7 hE7 hf => ?_)
  obtain ⟨a1, c1, ⟨_, q, hrow⟩, hob⟩ := hf 7
  have hX7 : Ext w w7 := ((Keep.refl _ w).drew).trans hE7
  cases q
  obtain ⟨v', w8, hrun, ⟨a2, c2, rfl⟩, ⟨vs, o1, o2⟩, hK8, hblk⟩ := run_append_rec (h.ext hX7) hob hrow rfl 31
  have hc8 := (h.ext hX7).cells.keep hK8 (hXL _)
  have hK := (Keep.of_ext hX7).trans hK8
  clear hf
  refine wpList_append_run hrun rfl rfl rfl rfl ?_
  refine ⟨rfl, _, rfl, hK8, ?_⟩
  simp only [Act.put, List.setIfInBounds_toArray, List.set_cons_succ, List.set_cons_zero]
  clear hrun hE7 hrow hob c5 f5 c4 hDs
  iterate 2 (refine FY.flow_q rfl rfl rfl ?_; go_big_quiet_step (fail); refine wpQuiet_nil ?_)
  refine FY.flow_l rfl rfl (by kernel_rfl) (fun w9 hE9 _ => ?_)
  replace hE9 : Ext w8 w9 := hE9
  have hc9 := hc8.ext hE9
  have f5 := hc9.frozen 5
  have c5 := hc9.cell (i := 5) rfl
  have hc10 := hc9.set 5 (.slice a2 (s.recs.length + 1) c2)
  have kc : Keep (fun k o => k = LB ∧ ∃ cur, o = .cells cur 33 (0, 0)) w9 (w9.setCell ⟨LB, 5, none⟩ (.slice a2 (s.recs.length + 1) c2)) := (Keep.refl _ w9).setCell _ _ (fun o ho => ⟨rfl, by rw [show w9.heap[LB]? = _ from hc9] at ho; cases ho; exact ⟨_, rfl⟩⟩)
  have o1' := kc.owns' (hE9.owns o1) (fun k cur _ ⟨_, _, h⟩ => by cases h)
  have o2' := (o2.keep (X := fun _ _ => False) hE9 (fun _ _ h => h)).keep kc (fun k cur ⟨_, _, h⟩ => by cases h)
  have hK' : Keep (fun k o => (k = LB ∧ ∃ cur, o = .cells cur 33 (0, 0)) ∨ ((Value.slice av nv cv).ownBlock = some k ∧ ∃ cur, o = .cells cur 25 (0, 0))) w (w9.setCell ⟨LB, 5, none⟩ (.slice a2 (s.recs.length + 1) c2)) :=
    ((hK.trans (Keep.of_ext hE9)).mono (fun k o _ h => .inr h)).trans (kc.mono (fun k o _ h => .inl h))
  have hblk' : (Value.slice a2 (s.recs.length + 1) c2).ownBlock = (Value.slice av nv cv).ownBlock ∨ ∀ k, (Value.slice a2 (s.recs.length + 1) c2).ownBlock = some k → w.heap.size ≤ k := by
    rcases hblk with hb | hb
    · exact .inl hb
    · exact .inr (fun k hk => by rw [hb] at hk; cases hk; exact hX7.size)
  have HO := Lib.hid (⟨vs, o1', o2'⟩ : ∃ vs, (w9.setCell ⟨LB, 5, none⟩ (.slice a2 (s.recs.length + 1) c2)).ownsRow 0 25 1 (.slice a2 (s.recs.length + 1) c2) (s.recs ++ [l]).length vs ∧ OwnTexts (w9.setCell ⟨LB, 5, none⟩ (.slice a2 (s.recs.length + 1) c2)) vs (s.recs ++ [l]))
  have HK := Lib.hid hK'
  have HBK := Lib.hid hblk'
  have HH := Lib.hid h
  rw [hat] at hc10
  simp only [List.cons_append, List.nil_append, List.set_cons_succ, List.set_cons_zero] at hc10
  clear o1 o2 o1' o2' hK hK' hblk hblk' kc hK8 hX7 hc8 hc9 hE9 hXL h
  go_wp2
  obtain ⟨W, hW⟩ : ∃ x, w9.setCell ⟨LB, 5, none⟩ (.slice a2 (s.recs.length + 1) c2) = x := ⟨_, rfl⟩
  rw [hW] at hc10 HO HK ⊢
  have c4 := hc10.cell (i := 4) rfl
  have hD : ∀ g : FY.At (fun _ _ => False) W.drew, g.w.cell? ⟨LB, 4, none⟩ = some (.int .i64 (at0 : Int)) := fun g => Ext.cell (((Keep.refl _ W).drew).trans g.ext) c4
  clear f5 c5 hW
  refine FY.wp_flow (X := fun _ _ => False) (0 :: 1 :: 2 :: 3 :: 4 :: 5 :: 6 :: 7 :: 8 :: 9 :: 10 :: [])
    (fun n => if n = 6 then .grows (Is (.int .i64 (spanN l.length : Int))) (IsSh (.int .i64 (spanN l.length : Int))) else if n = 10 then .last else .reads) (by kernel_rfl) (by kernel_rfl) ?_
  iterate 6 (refine FY.flow_r rfl rfl rfl ?_; go_big_quiet_step (fail); refine wpQuiet_nil ?_)
  refine FY.flow_g rfl rfl rfl (by simp) ⟨_, rfl⟩ (fun _ _ _ h hE => h) (fun _ _ h => h) (fun w5 hE5 _ => ?_) (fun v hv => ?_)
  · have hc := span_any (l.length : Int) w5 (by omega)
    rw [spanZ_nat] at hc
    go_wp2_with fail
    refine hc.mono ?_
    rintro e w6 ⟨rfl, rfl⟩
    go_wp2
    first | exact ⟨Keep.refl _ _, rfl⟩ | exact rfl
  cases hv
  simp only [Act.put, List.setIfInBounds_toArray, List.set_cons_succ, List.set_cons_zero]
  iterate 3 (refine FY.flow_r rfl rfl rfl ?_; go_big_quiet_step (fail); refine wpQuiet_nil ?_)
  refine FY.flow_l rfl rfl (by kernel_rfl) (fun w11 hE11 _ => ?_)
  replace hE11 : Ext W w11 := ((Keep.refl _ W).drew).trans hE11
  have hc11 := hc10.ext hE11
  have f4 := hc11.frozen 4
  replace c4 := hc11.cell (i := 4) rfl
  have hc12 := hc11.set 4 (.int .i64 ((at0 : Int) + (spanN l.length : Int)))
  simp only [List.set_cons_succ, List.set_cons_zero] at hc12
  have kc : Keep (fun k o => k = LB ∧ ∃ cur, o = .cells cur 33 (0, 0)) w11 (w11.setCell ⟨LB, 4, none⟩ (.int .i64 ((at0 : Int) + (spanN l.length : Int)))) := (Keep.refl _ w11).setCell _ _ (fun o ho => ⟨rfl, by rw [show w11.heap[LB]? = _ from hc11] at ho; cases ho; exact ⟨_, rfl⟩⟩)
  have HR : TookQ 33 [.bool true] w LB B (.slice av nv cv) (s.took l) (w11.setCell ⟨LB, 4, none⟩ (.int .i64 ((at0 : Int) + (spanN l.length : Int)))) := by
    obtain ⟨vs, o1, o2⟩ := HO.out
    refine ⟨.slice a2 (s.recs.length + 1) c2, ⟨?_, ⟨vs, kc.owns' (hE11.owns o1) (fun k cur _ ⟨_, _, h⟩ => by cases h), (o2.keep (X := fun _ _ => False) hE11 (fun _ _ h => h)).keep kc (fun k cur ⟨_, _, h⟩ => by cases h)⟩, ?_, ?_, ?_, ?_⟩, ((HK.out).trans (Keep.of_ext hE11)).trans (kc.mono (fun k o _ h => .inl h)), HBK.out⟩
    · simp only [LSt.took, hat]; exact hc12
    · exact hreg
    · simp only [LSt.took, hat]; exact hfit
    · have := (HH.out).few
      simp only [LSt.took, List.length_append, List.length_singleton]; omega
    · intro x hx
      simp only [LSt.took, List.mem_append, List.mem_singleton] at hx
      rcases hx with hx | rfl
      · exact (HH.out).short x hx
      · exact hm
  have HR := Lib.hid HR
  clear HO HK HBK HH kc hc12 hc10 hD
  go_wp2
  refine bodyPost_end (results_none rfl _ _ _) rfl (hfin _ _ HR.out)

theorem count_any {w : World} {LB B : Nat} {v : Value} {s : LSt} (h : PL w LB B v s) : Calls Try.prog 15 #[.pointer (some ⟨LB, 0, none⟩)] w fun e w' => e = .returned (.int .i64 (s.recs.length : Int)) ∧ w = w' := by
  obtain ⟨vs, o1, _⟩ := h.own
  obtain ⟨av, cv, rfl, _⟩ := owns_row o1
  have c5 := h.cells.cell (i := 5) rfl
  refine calls_cps fun R hR => ?_
  clear o1 h
  go_enter Try.func15, Try.ntmps15
  go_wp2
  try exact hR _ _ ⟨rfl, rfl⟩

theorem count_nil (w : World) : Calls Try.prog 15 #[.pointer none] w fun e w' => e = .returned (.int .i64 0) ∧ w = w' := by
  refine calls_cps fun R hR => ?_
  go_enter Try.func15, Try.ntmps15
  go_wp2
  try exact hR _ _ ⟨rfl, rfl⟩

theorem room_nil (w : World) : Calls Try.prog 16 #[.pointer none] w fun e w' => e = .returned (.int .i64 0) ∧ w = w' := by
  refine calls_cps fun R hR => ?_
  go_enter Try.func16, Try.ntmps16
  go_wp2
  try exact hR _ _ ⟨rfl, rfl⟩

set_option maxRecDepth 20000 in
theorem room_any {w : World} {LB B : Nat} {v : Value} {s : LSt} (h : PL w LB B v s) : Calls Try.prog 16 #[.pointer (some ⟨LB, 0, none⟩)] w fun e w' => e = .returned (.int .i64 ((s.n - s.at' : Nat) : Int)) ∧ Ext w w' := by
  have c7 := h.cells.cell (i := 7) rfl
  have c2 := h.cells.cell (i := 2) rfl
  have c4 := h.cells.cell (i := 4) rfl
  have hle := h.le
  have hreg := h.reg
  refine calls_cps fun R hR => ?_
  rw [Int.ofNat_sub hle] at hR
  obtain ⟨n, hn⟩ : ∃ n, s.n = n := ⟨_, rfl⟩
  obtain ⟨t, ht⟩ : ∃ n, s.at' = n := ⟨_, rfl⟩
  rw [hn] at c2 hR hle hreg
  rw [ht] at c4 hR hle
  clear h
  go_enter Try.func16, Try.ntmps16
  go_wp2
  have hD : ∀ g : FY.At (fun _ _ => False) w.drew, Ext w g.w := fun g => ((Keep.refl _ w).drew).trans g.ext
  have d2 := fun g => Ext.cell (hD g) c2
  have d4 := fun g => Ext.cell (hD g) c4
  refine FY.wp_flow (X := fun _ _ => False) (0 :: 1 :: 2 :: 3 :: 4 :: 5 :: 6 :: 7 :: 8 :: 9 :: 10 :: []) (fun _ => .reads) (by kernel_rfl) (by kernel_rfl) ?_
  iterate 11 (refine FY.flow_r rfl rfl rfl ?_; go_big_quiet_step (fail); refine wpQuiet_nil ?_)
  refine FY.flow_end (fun w9 hE9 _ => ?_)
  replace hE9 : Ext w w9 := ((Keep.refl _ w).drew).trans hE9
  clear d2 d4 hD
  go_wp2
  exact ⟨rfl, hE9⟩
end Go.Proofs.Ytdopaoajbjodeaa
