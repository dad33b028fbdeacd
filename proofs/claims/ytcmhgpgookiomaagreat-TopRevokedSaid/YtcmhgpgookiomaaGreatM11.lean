/-
  TopRevoked: maps.Clone; sets of sets (ring.sets). boxes and a ring in memory; slices.Clone of boxes. the twin of a ring. a box is made: box.
-/
import Derived.Test.YtcmhgpgookiomaaGreatM10
import Derived.Shelf.SlMaps.Clone
import Derived.Maps.RangeWalk
import Derived.Maps.AppendAt
namespace Go.Proofs.YtcmhgpgookiomaaGreat
open Go.RowKit Go.Shelf Go.Maps

attribute [local go_sem] Oper.semAt_some

theorem NMap.copy {α : Type} {V : α → Value} {l : List (Nat × α)} {w : World} {b : Nat} (h : NMap w b V l) : ∃ es c, w.heap[b]? = some (.map es c) ∧ NMap (w.alloc (.map es c)) w.heap.size V l := by
  obtain ⟨S, ⟨D, ⟨es, clock, hb, rest⟩, h2⟩, h3⟩ := h.map
  exact ⟨es, clock, hb, ⟨S, ⟨D, ⟨es, clock, World.alloc_heap_new w _, rest⟩, h2⟩, h3⟩, h.rise, h.lt⟩

set_option maxRecDepth 20000 in
theorem secs_clone {α : Type} {V : α → Value} {l : List (Nat × α)} {w : World} {b : Nat} (h : NMap w b V l) : Calls Tryz.prog 30 #[.map (some b)] w fun e w' => e = .returned (.map (some w.heap.size)) ∧ NMap w' w.heap.size V l ∧ Ext w w' ∧ w'.heap.size = w.heap.size + 1 := by
  obtain ⟨es, c, hb, hc⟩ := h.copy
  have hE : Ext w (w.alloc (.map es c)) := (Keep.refl _ w).alloc _
  refine calls_cps fun R hR => ?_
  have hRR := hR (.returned (.map (some w.heap.size))) (w.alloc (.map es c)) ⟨rfl, hc, hE, by simp⟩
  clear hR hc hE h
  have hq := fun w => run_eql_map_nil_sl (P := Tryz.prog) w 71 _ _ (some b) Tryz.underlying71
  go_enter Tryz.func30, Tryz.ntmps30
  go_wp2
  rw [run_callFunc_extern Tryz.func54 (by kernel_rfl) (by kernel_rfl) (by kernel_rfl) (e := Extern.MapsClone.clone) (by kernel_rfl), run_maps_clone_sl w 71 hb]
  simp only [Result.andThen]
  rw [Oper.upon_value]
  go_wp2
  rw [run_typeAssert_map_sl _ 71 _ _ _ _ Tryz.underlying71]
  simp only [Result.andThen]
  rw [Oper.upon_value]
  go_wp2
  exact hRR

set_option maxRecDepth 20000 in
theorem keyeds_clone {α : Type} {V : α → Value} {l : List (Nat × α)} {w : World} {b : Nat} (h : NMap w b V l) : Calls Tryz.prog 31 #[.map (some b)] w fun e w' => e = .returned (.map (some w.heap.size)) ∧ NMap w' w.heap.size V l ∧ Ext w w' ∧ w'.heap.size = w.heap.size + 1 := by
  obtain ⟨es, c, hb, hc⟩ := h.copy
  have hE : Ext w (w.alloc (.map es c)) := (Keep.refl _ w).alloc _
  refine calls_cps fun R hR => ?_
  have hRR := hR (.returned (.map (some w.heap.size))) (w.alloc (.map es c)) ⟨rfl, hc, hE, by simp⟩
  clear hR hc hE h
  have hq := fun w => run_eql_map_nil_sl (P := Tryz.prog) w 72 _ _ (some b) Tryz.underlying72
  go_enter Tryz.func31, Tryz.ntmps31
  go_wp2
  rw [run_callFunc_extern Tryz.func54 (by kernel_rfl) (by kernel_rfl) (by kernel_rfl) (e := Extern.MapsClone.clone) (by kernel_rfl), run_maps_clone_sl w 72 hb]
  simp only [Result.andThen]
  rw [Oper.upon_value]
  go_wp2
  rw [run_typeAssert_map_sl _ 72 _ _ _ _ Tryz.underlying72]
  simp only [Result.andThen]
  rw [Oper.upon_value]
  go_wp2
  exact hRR

set_option maxRecDepth 20000 in
theorem bools_clone {α : Type} {V : α → Value} {l : List (Nat × α)} {w : World} {b : Nat} (h : NMap w b V l) : Calls Tryz.prog 55 #[.map (some b)] w fun e w' => e = .returned (.map (some w.heap.size)) ∧ NMap w' w.heap.size V l ∧ Ext w w' ∧ w'.heap.size = w.heap.size + 1 := by
  obtain ⟨es, c, hb, hc⟩ := h.copy
  have hE : Ext w (w.alloc (.map es c)) := (Keep.refl _ w).alloc _
  refine calls_cps fun R hR => ?_
  have hRR := hR (.returned (.map (some w.heap.size))) (w.alloc (.map es c)) ⟨rfl, hc, hE, by simp⟩
  clear hR hc hE h
  have hq := fun w => run_eql_map_nil_sl (P := Tryz.prog) w 137 _ _ (some b) Tryz.underlying137
  go_enter Tryz.func55, Tryz.ntmps55
  go_wp2
  rw [run_callFunc_extern Tryz.func54 (by kernel_rfl) (by kernel_rfl) (by kernel_rfl) (e := Extern.MapsClone.clone) (by kernel_rfl), run_maps_clone_sl w 137 hb]
  simp only [Result.andThen]
  rw [Oper.upon_value]
  go_wp2
  rw [run_typeAssert_map_sl _ 137 _ _ _ _ Tryz.underlying137]
  simp only [Result.andThen]
  rw [Oper.upon_value]
  go_wp2
  exact hRR

def SetV : Unit → Value := fun _ => .bool true
def refV (b : Nat) : Value := .map (some b)
/-- Sets by numbers: block B leads to the blocks L, which are the sets M. -/
structure SetsAt (w : World) (B : Nat) (L : List (Nat × Nat)) (M : List (Nat × List (Nat × Unit))) : Prop where
  map : NMap w B refV L
  inner : ∀ g, (getA L g = none ∧ getA M g = none) ∨ ∃ b s, getA L g = some b ∧ getA M g = some s ∧ NMap w b SetV s
  inj : ∀ g g' b, getA L g = some b → getA L g' = some b → g = g'
  ne : ∀ g, getA L g ≠ some B
  rise : Rise M
section
variable {w w' : World} {B : Nat} {L : List (Nat × Nat)} {M : List (Nat × List (Nat × Unit))}
theorem SetsAt.keep {X : Nat → Obj → Prop} (h : SetsAt w B L M) (hk : Keep X w w') (h1 : ∀ es c, ¬ X B (.map es c)) (h2 : ∀ g b es c, getA L g = some b → ¬ X b (.map es c)) : SetsAt w' B L M :=
  ⟨h.map.block hk h1, fun g => (h.inner g).imp id (fun ⟨b, s, q1, q2, q3⟩ => ⟨b, s, q1, q2, q3.block hk (fun es c => h2 g b es c q1)⟩), h.inj, h.ne, h.rise⟩
theorem SetsAt.ext (h : SetsAt w B L M) (hk : Ext w w') : SetsAt w' B L M := h.keep hk (fun _ _ h => h) (fun _ _ _ _ _ h => h)
theorem SetsAt.at (h : SetsAt w B L M) {g : Nat} {s : List (Nat × Unit)} (hs : getA M g = some s) : ∃ b, getA L g = some b ∧ NMap w b SetV s := by
  rcases h.inner g with ⟨_, h2⟩ | ⟨b, s', h1, h2, h3⟩
  · rw [hs] at h2; cases h2
  · rw [hs] at h2; cases h2; exact ⟨b, h1, h3⟩
theorem SetsAt.at' (h : SetsAt w B L M) {g b : Nat} (hs : getA L g = some b) : ∃ s, getA M g = some s ∧ NMap w b SetV s := by
  rcases h.inner g with ⟨h2, _⟩ | ⟨b', s', h1, h2, h3⟩
  · rw [hs] at h2; cases h2
  · rw [hs] at h1; cases h1; exact ⟨s', h2, h3⟩
end
theorem ranges_keep {X : Nat → Obj → Prop} {w w' : World} {b r n : Nat} {D : DataW Value} {left : Lit → Bool} {cnt : Nat} (h : w.ranges Tryz.prog 22 hv b r n D left cnt) (hk : Keep X w w') (h1 : ∀ es c, ¬ X b (.map es c)) (h3 : ∀ a s x c, ¬ X r (.mapIter a s x c)) : w'.ranges Tryz.prog 22 hv b r n D left cnt := by
  obtain ⟨es, clock, since, seen, c0, hb, F, hs, hD, hr, rest⟩ := h
  exact ⟨es, clock, since, seen, c0, hk.block b _ hb (h1 _ _), F, hs, hD, hk.block r _ hr (h3 _ _ _ _), rest⟩

/-- What has been cloned so far. -/
structure Cloned (w wr : World) (B' r : Nat) (L : List (Nat × Nat)) (M : List (Nat × List (Nat × Unit))) (left : Lit → Bool) (Lo : List (Nat × Nat)) : Prop where
  map : NMap wr B' refV Lo
  dom : ∀ g, g < 4294967296 → ((getA Lo g).isSome = true ↔ (getA L g).isSome = true ∧ left (nlit g) = false)
  inner : ∀ g b, getA Lo g = some b → r < b ∧ ∃ s, getA M g = some s ∧ NMap wr b SetV s
  inj : ∀ g g' b, getA Lo g = some b → getA Lo g' = some b → g = g'
  ext : Ext w wr

theorem len_put {α : Type} (l : List (Nat × α)) (n : Nat) (x : α) : (putA l n x).length ≤ l.length + 1 := by
  induction l with
  | nil => simp [putA]
  | cons p l ih =>
    obtain ⟨k, v⟩ := p
    unfold putA
    split
    · simp
    · split
      · simp
      · simp only [List.length_cons]; omega
theorem nums_eq {α β : Type} {l : List (Nat × α)} {l' : List (Nat × β)} (h : Rise l) (h' : Rise l') (he : ∀ g, (getA l g).isSome = (getA l' g).isSome) : numsA l = numsA l' :=
  up_perm ((List.perm_ext_iff_of_nodup (nums_nodup h) (nums_nodup h')).2 fun g => by rw [mem_nums, mem_nums, he]) (up_nums h) (up_nums h')

set_option maxRecDepth 20000 in
set_option maxHeartbeats 4000000 in
theorem sets_any {w : World} {B : Nat} {L : List (Nat × Nat)} {M : List (Nat × List (Nat × Unit))} (h : SetsAt w B L M) (hl : L.length ≤ 1000) :
    Calls Tryz.prog 32 #[.map (some B)] w fun e w' => ∃ B' L', e = .returned (.map (some B')) ∧ w.heap.size ≤ B' ∧ (∀ g b, getA L' g = some b → w.heap.size ≤ b) ∧ SetsAt w' B' L' M ∧ Ext w w' ∧ numsA L' = numsA L := by
  obtain ⟨D0, hown, hsz, hD⟩ := nmap_open h.map
  have HD := Lib.hid hD
  have HH := Lib.hid h
  have hmm := @run_makeMap Tryz.prog
  have hBl := h.map.below
  clear hD h
  refine calls_cps fun R hR => ?_
  have HR := Lib.hid hR
  clear hR
  go_enter Tryz.func32, Tryz.ntmps32
  go_wp2_with (first
    | (at_range; refine wpList_range_own _ rfl _ 73 rfl 22 137 law_u32 Tryz.underlying73 _ B L.length _ rfl (hown.alloc _) ?_; intro w0 hrg0 hg0 hs0)
    | fail)
  go_frame
  rw [World.size_alloc] at hrg0
  obtain ⟨r, hr⟩ : ∃ r, w.heap.size + 1 = r := ⟨_, rfl⟩
  obtain ⟨B', hB'⟩ : ∃ r, w.heap.size = r := ⟨_, rfl⟩
  have HSR := Lib.hid hr
  have HSB := Lib.hid hB'
  rw [hr] at hrg0
  have e0 : Ext w w0 := ((Keep.refl _ w).alloc _).trans (Keep.of_grownBy hg0 (fun k o hk => by cases hk))
  have m0 : NMap w0 B' refV ([] : List (Nat × Nat)) := by
    rw [← hB']
    exact (NMap.made w refV).ext (Keep.of_grownBy hg0 (fun k o hk => by cases hk))
  rw [World.size_alloc, hr, hB']
  clear hr hB'
  go_loopw [4] (fun _ wr => ∃ (left : Lit → Bool) (cnt : Nat) (Lo : List (Nat × Nat)), wr.ranges Tryz.prog 22 hv B r L.length D0 left cnt ∧ Cloned w wr B' r L M left Lo ∧ Lo.length + cnt ≤ L.length)
    (fun _ wr => wr.rangeLeft B r)
  case atStart =>
    refine ⟨_, _, [], hrg0, ⟨m0, fun g hg => ?_, fun _ _ h => by simp [getA] at h, fun _ _ _ h => by simp [getA] at h, e0⟩, by simpa using hsz⟩
    rw [(HD.out g hg).1]
    cases (getA L g).isSome <;> simp [getA]
  case round =>
    obtain ⟨left, cnt, Lo, hrg, hC, hlen⟩ := hrel
    have HC := Lib.hid hC
    clear hC
    go_wp2_with (first
      | (at_next; refine wpList_next_ranges _ rfl _ rfl 22 law_u32 hv u32n id (fun key kl hk => by obtain ⟨x, _, hx, _⟩ := key_u32_inv hk; exact ⟨x, hx⟩) (fun v _ _ => ⟨v, rfl⟩) B r L.length _ _ _ rfl hrg ?_ ?_)
      | fail)
    · intro hc0 hl0
      have hnum : numsA Lo = numsA L := nums_eq HC.out.map.rise HH.out.map.rise (fun g => by
        by_cases hg : g < 4294967296
        · have := HC.out.dom g hg
          rw [hl0] at this
          simpa using this
        · have a1 : getA Lo g = none := by
            cases hq : getA Lo g with
            | none => rfl
            | some x => exact absurd (HC.out.map.lt _ (getA_mem hq)) hg
          have a2 : getA L g = none := by
            cases hq : getA L g with
            | none => rfl
            | some x => exact absurd (HH.out.map.lt _ (getA_mem hq)) hg
          rw [a1, a2])
      have hS : SetsAt wr B' Lo M := by
        refine ⟨HC.out.map, fun g => ?_, HC.out.inj, fun g hg => ?_, HH.out.rise⟩
        · cases hq : getA Lo g with
          | some b =>
            obtain ⟨_, s, h2, h3⟩ := HC.out.inner g b hq
            exact .inr ⟨b, s, rfl, h2, h3⟩
          | none =>
            refine .inl ⟨rfl, ?_⟩
            rcases HH.out.inner g with ⟨_, h2⟩ | ⟨b, s, h1, _⟩
            · exact h2
            · have h5 : g ∈ numsA L := mem_nums.2 (by rw [h1]; rfl)
              rw [← hnum, mem_nums, hq] at h5
              cases h5
        · have := (HC.out.inner g _ hg).1
          have := HSR.out
          have := HSB.out
          omega
      have hfin := HR.out (.returned (.map (some B'))) wr ⟨B', Lo, rfl, by have := HSB.out; omega, fun g b hg => by have := (HC.out.inner g b hg).1; have := HSR.out; omega, hS, HC.out.ext, hnum⟩
      clear HR hS hnum hrg HC HH HD hl0
      go_wp2
      exact hfin
    · intro x c kl yd yp w2 cnt2 hkey hlk hvv hat hrg2 hlt hg2 hs2 hen
      obtain ⟨x', hx', ex, rfl⟩ := key_u32_inv hkey
      obtain rfl : x = x' := u32n_inj ex
      obtain ⟨b, hb, rfl⟩ : ∃ b, getA L x = some b ∧ c = refV b := by
        have h1 : Maps.has D0 (nlit x) = true := has_true_of_atKey hat
        rw [(HD.out x hx').1] at h1
        obtain ⟨b, hb⟩ := Option.isSome_iff_exists.1 h1
        have h2 := hat (.held undef)
        rw [(HD.out x hx').2, hb] at h2
        simp only [hv, Option.some.injEq, Prod.mk.injEq] at hvv
        rw [← hvv.1] at h2
        simp only [Option.map_some, Option.getD_some, DataW.held.injEq] at h2
        exact ⟨b, hb, h2.symm⟩
      have hE2 : Ext w w2 := ((Keep.of_ext HC.out.ext).trans (Keep.of_grownBy (X := fun k _ => k = r) hg2 (fun k o hk _ => by cases hk; rfl))).mono (fun k o ho hx => by have := Keep.lt ho; have := HSR.out; have : k = r := hx; omega)
      obtain ⟨s, hM, hmap⟩ := HH.out.at' hb
      have cl := bools_clone (hmap.ext hE2)
      have k2 : Keep (fun k _ => k = r) wr w2 := Keep.of_grownBy hg2 (fun k o hk _ => by cases hk; rfl)
      have hB2 : B < w.heap.size := hBl
      have hlx : Lo.length < maxLen := by unfold maxLen; omega
      unfold u32n refV at hen
      unfold u32n refV
      clear hs2
      go_wp2_with fail
      refine cl.mono ?_
      rintro e w3 ⟨rfl, hN3, hE3, hs3⟩
      have hN' : NMap w3 B' refV Lo := (HC.out.map.block k2 (fun es c h => by have := HSR.out; have := HSB.out; have : B' = r := h; omega)).ext hE3
      obtain ⟨w4, hrun, hN4, k4⟩ := hN'.put Tryz.underlying73 hlx hx' w2.heap.size
      have hrg4 := ranges_keep (ranges_keep hrg2 (Keep.of_ext (X := fun _ _ => False) hE3) (fun _ _ h => h) (fun _ _ _ _ h => h)) k4 (fun es c h => by have := h.1; have := HSB.out; omega) (fun a s x c h => by obtain ⟨_, _, _, h⟩ := h; cases h)
      have hsz2 : r < w2.heap.size := by
        obtain ⟨o', ho', _⟩ := hrg2.iter_walk
        exact Keep.lt ho'
      have hC4 : Cloned w w4 B' r L M (fun z => left z && !z.sameKey (nlit x)) (putA Lo x w2.heap.size) := by
        have hnew : getA Lo x = none := by
          cases hq : getA Lo x with
          | none => rfl
          | some y =>
            have := ((HC.out.dom x hx').1 (by rw [hq]; rfl)).2
            rw [hlk] at this; cases this
        have hblt : ∀ g b', getA Lo g = some b' → b' < w2.heap.size := fun g b' hq => by
          obtain ⟨_, s', _, h3⟩ := HC.out.inner g b' hq
          have := h3.below
          have := k2.size
          omega
        refine ⟨hN4, fun g hg => ?_, fun g b' hq => ?_, fun g g' b' hq hq' => ?_, ((Keep.of_ext (hE2.trans hE3)).trans k4).mono (fun k o ho hx => by have := Keep.lt ho; have := hx.1; have := HSB.out; omega)⟩
        · rw [getA_put _ _ _ _ HC.out.map.rise]
          by_cases e : g = x
          · subst e
            simp [hb, nlit, Lit.sameKey]
          · rw [if_neg e, HC.out.dom g hg]
            have : ¬ (g : Int) = (x : Int) := by omega
            simp [nlit, Lit.sameKey, this]
        · rw [getA_put _ _ _ _ HC.out.map.rise] at hq
          by_cases e : g = x
          · rw [if_pos e] at hq
            cases hq
            subst e
            exact ⟨hsz2, s, hM, hN3.block k4 (fun es c h => by have := h.1; have := HSR.out; have := HSB.out; omega)⟩
          · rw [if_neg e] at hq
            obtain ⟨h1, s', h2, h3⟩ := HC.out.inner g b' hq
            refine ⟨h1, s', h2, ((h3.block k2 (fun es c h => by have : b' = r := h; omega)).ext hE3).block k4 (fun es c h => by have := h.1; have := HSR.out; have := HSB.out; omega)⟩
        · rw [getA_put _ _ _ _ HC.out.map.rise] at hq hq'
          by_cases e : g = x
          · by_cases e' : g' = x
            · rw [e, e']
            · rw [if_pos e] at hq
              rw [if_neg e'] at hq'
              cases hq
              have := hblt _ _ hq'
              omega
          · by_cases e' : g' = x
            · rw [if_neg e] at hq
              rw [if_pos e'] at hq'
              cases hq'
              have := hblt _ _ hq
              omega
            · rw [if_neg e] at hq
              rw [if_neg e'] at hq'
              exact HC.out.inj _ _ _ hq hq'
      have hlen4 : (putA Lo x w2.heap.size).length + cnt2 ≤ L.length := by have := len_put Lo x w2.heap.size; omega
      have HC4 := Lib.hid hC4
      have HRUN := Lib.hid hrun
      clear hC4 hN4 hN' hN3 cl hE3 k2 k4 hsz2 hs3 hrun
      go_wp2_with (first | (refine wpList_skipw (o := ⟨none, .mapUpdate _ _ _ _, _, _, _, _⟩) (w' := w4) ?_ ?_ ?_; exact exec_mapUpdate' rfl HRUN.out; rfl; go_frame) | fail)
      go_roundw
      case rel => exact ⟨_, cnt2, _, hrg4, HC4.out, hlen4⟩
      case measure => rw [hrg4.left_eq, hrg.left_eq]; exact hlt
end Go.Proofs.YtcmhgpgookiomaaGreat
namespace Go.Proofs.YtcmhgpgookiomaaGreat
open Go.RowKit Go.Shelf Go.Maps

attribute [local go_sem] Oper.semAt_some

theorem info_box : (Tryz.prog.info? 107).map (fun i => (i.zero, i.size, i.bytes)) = some (some (.agg #[.int .i64 0, .int .u32 0, .int .u32 0, .int .u32 0, .int .u32 0, .slice none 0 0]), 6, 48) := by kernel_rfl
/-- A box's cells, its text as v. -/
def boxC (b : BoxP) (v : Value) : List Value := [.int .i64 (b.kind : Int), u32n b.of, u32n b.ep, u32n b.fr, u32n b.at', v]
/-- A sealed key in memory. -/
def CtAt (w : World) (v : Value) (ct : By) : Prop := ct.length = 108 ∧ ∃ a c, v = .slice a 108 c ∧ Row 1 w a 108 c (ct.map u8v) ∧ InBytes w a
theorem CtAt.keep {X : Nat → Obj → Prop} {w w' : World} {v : Value} {ct : By} (h : CtAt w v ct) (hk : Keep X w w') (hX : ∀ k cur fr, ¬ X k (.cells cur 5 fr)) : CtAt w' v ct := by
  obtain ⟨h0, a, c, h1, h2, h3⟩ := h
  refine ⟨h0, a, c, h1, h2.keep hk (fun p o hp ho _ hx => ?_), h3.keep hk hX⟩
  obtain ⟨cur, fr, hc⟩ := h3 p hp
  rw [hc] at ho
  cases ho
  exact hX _ _ _ hx
/-- Boxes in memory, in a slice of the ring's own. -/
structure BoxesAt (w : World) (base : Nat) (v : Value) (bv : List (BoxP × Value)) : Prop where
  own : w.ownsRow base 107 6 v bv.length (bv.flatMap fun p => boxC p.1 p.2)
  ct : ∀ p ∈ bv, CtAt w p.2 p.1.ct
  lt : ∀ p ∈ bv, p.1.kind < 4294967296 ∧ p.1.of < 4294967296 ∧ p.1.ep < 4294967296 ∧ p.1.fr < 4294967296 ∧ p.1.at' < 4294967296
theorem BoxesAt.keep {X : Nat → Obj → Prop} {w w' : World} {base : Nat} {v : Value} {bv : List (BoxP × Value)} (h : BoxesAt w base v bv) (hk : Keep X w w') (h1 : ∀ k cur, v.ownBlock = some k → ¬ X k (.cells cur 107 (0, 0))) (h2 : ∀ k cur fr, ¬ X k (.cells cur 5 fr)) : BoxesAt w' base v bv :=
  ⟨hk.owns' h.own h1, fun p hp => (h.ct p hp).keep hk h2, h.lt⟩
theorem BoxesAt.ext {w w' : World} {base : Nat} {v : Value} {bv : List (BoxP × Value)} (h : BoxesAt w base v bv) (hk : Ext w w') : BoxesAt w' base v bv := h.keep hk (fun _ _ _ h => h) (fun _ _ _ h => h)
theorem boxC_one {b : BoxP} {w : World} {v : Value} {ct : By} (h : CtAt w v ct) : ∀ u ∈ boxC b v, u.oneCell' = true := by
  obtain ⟨_, a, c, rfl, _⟩ := h
  intro u hu
  simp only [boxC, List.mem_cons, List.not_mem_nil, or_false] at hu
  rcases hu with rfl | rfl | rfl | rfl | rfl | rfl <;> rfl
theorem boxes_one {w : World} {base : Nat} {v : Value} {bv : List (BoxP × Value)} (h : BoxesAt w base v bv) : ∀ u ∈ (bv.flatMap fun p => boxC p.1 p.2), u.oneCell' = true := fun u hu => by
  obtain ⟨p, hp, hu⟩ := List.mem_flatMap.1 hu
  exact boxC_one (h.ct p hp) u hu

set_option maxRecDepth 20000 in
set_option maxHeartbeats 1000000 in
theorem boxesClone_any {w : World} {base : Nat} {v : Value} {bv : List (BoxP × Value)} (h : BoxesAt w base v bv) (hn : bv.length ≤ 1000000) :
    Calls Tryz.prog 33 #[v] w fun e w' => ∃ v', e = .returned v' ∧ BoxesAt w' w.heap.size v' bv ∧ Ext w w' := by
  obtain ⟨a, c, rfl, hr⟩ := owns_row h.own
  obtain ⟨n, hN⟩ : ∃ n, bv.length = n := ⟨_, rfl⟩
  have h1 := boxes_one h
  have hown := h.own
  rw [hN] at hr hn hown ⊢
  have HN := Lib.hid hN
  have HH := Lib.hid h
  clear hN h
  refine calls_cps fun R hR => ?_
  have HR := Lib.hid hR
  clear hR
  have heq := fun w => Lib.run_eql_slice_nil (P := Tryz.prog) w 40 107 a n c 0 0 Tryz.underlying40
  cases a with
  | none =>
    simp only [Option.isNone_none] at heq
    have hfin := HR.out (.returned (.slice none 0 0)) w ⟨_, rfl, ⟨by
      have hc0 : c = 0 := hr.2.2.2.1 rfl
      have hn0 : n = 0 := by have := hr.1; omega
      have hbv : bv = [] := List.eq_nil_of_length_eq_zero (by rw [HN.out, hn0])
      subst hbv
      exact World.ownsRow_nil _ _ _ _, HH.out.ct, HH.out.lt⟩, Keep.refl _ _⟩
    clear hr hown HR
    go_enter Tryz.func33, Tryz.ntmps33
    go_wp2
    exact hfin
  | some p =>
    simp only [Option.isNone_some] at heq
    have hown0 := World.ownsRow_lit (base := w.heap.size) (e := 107) (size := 6) w #[] 0 (Nat.le_refl _) (by simp [maxLen]) rfl
    have eA : Ext w (w.alloc (.cells #[] 107)) := (Keep.refl _ w).alloc _
    obtain ⟨v', w', hrun, hown', hgrow, _⟩ := run_append_row (P := Tryz.prog) (w.alloc (.cells #[] 107)) w.heap.size 40 40 107 _ 6 48 Tryz.underlying40 info_box rfl (by decide) hown0 (hr.ext eA) h1 (by unfold maxLen; omega) (by omega) (by simp)
    rw [Nat.zero_add, List.nil_append] at hown'
    obtain ⟨a2, c2, rfl, hr2⟩ := owns_row hown'
    have hE : Ext w w' := Keep.grown eA hgrow (fun k o hk ho => by cases hk; have := Keep.lt ho; simp at this)
    have Hrun := Lib.hid hrun
    have hfin := HR.out (.returned (.slice a2 n c2)) w' ⟨_, rfl, ⟨by rw [HN.out]; exact hown', fun p hp => (HH.out.ct p hp).keep hE (fun _ _ _ h => h), HH.out.lt⟩, hE⟩
    clear hrun hown0 hown' hr2 hr hown h1 HR hE hgrow
    go_enter Tryz.func33, Tryz.ntmps33
    go_wp2_with (at_builtin; go_must (refine wpList_append_run Hrun.out rfl rfl rfl rfl ?_))
    exact hfin

/-- A key of an epoch as a value. -/
def keyedC (p : Nat × By) : List Value := u32n p.1 :: p.2.map u8v
def keyedV (p : Nat × By) : Value := .agg (keyedC p).toArray
/-- The ring's cells. -/
def ringC (Q b1 b2 b3 b4 b5 : Nat) (v : Value) : List Value := [.pointer (some ⟨Q, 0, none⟩), .map (some b1), .map (some b2), .map (some b3), .map (some b4), .map (some b5), v]
/-- What the operations of a ring whose blocks lie from N on turn. -/
def RgX (N TB A PL : Nat) (k : Nat) (o : Obj) : Prop := SuiteX TB A PL k o ∨ (N ≤ k ∧ ((∃ es c, o = .map es c) ∨ (∃ cur fr, o = .cells cur 75 fr) ∨ ∃ cur fr, o = .cells cur 107 fr))
theorem RgX.cells {N TB A PL k : Nat} {cur : Array Value} {t : TypeId} {fr : Nat × Nat} (h1 : t ≠ 69) (h2 : t ≠ 75) (h3 : t ≠ 107) : ¬ RgX N TB A PL k (.cells cur t fr) := fun h => by
  rcases h with h | ⟨_, ⟨_, _, h⟩ | ⟨_, _, h⟩ | ⟨_, _, h⟩⟩
  · exact SuiteX.cells h1 h
  · cases h
  · cases h; exact h2 rfl
  · cases h; exact h3 rfl

structure RingIn (w : World) (N R Q TB A PL : Nat) (r : PR) (s : SSt) (b1 b2 b3 b4 b5 : Nat) (L4 L5 : List (Nat × Nat)) (v : Value) (bv : List (BoxP × Value)) : Prop where
  cells : Arr w R 75 (ringC Q b1 b2 b3 b4 b5 v)
  sec : NMap w b1 aggK r.sec
  grp : NMap w b2 keyedV r.grp
  rlm : NMap w b3 keyedV r.rlm
  mem : SetsAt w b4 L4 r.mem
  rdr : SetsAt w b5 L5 r.rdr
  box : BoxesAt w N v bv
  boxes : bv.map (·.1) = r.box
  suite : SuiteAt w Q TB A PL s
  low : Q < N ∧ TB < N ∧ A < N ∧ PL < N
  high : N ≤ R ∧ N ≤ b1 ∧ N ≤ b2 ∧ N ≤ b3 ∧ N ≤ b4 ∧ N ≤ b5
  h4 : ∀ g b, getA L4 g = some b → N ≤ b ∧ b ≠ b1 ∧ b ≠ b2 ∧ b ≠ b3 ∧ b ≠ b5
  h5 : ∀ g b, getA L5 g = some b → N ≤ b ∧ b ≠ b1 ∧ b ≠ b2 ∧ b ≠ b3 ∧ b ≠ b4
  h45 : ∀ g g' b, getA L4 g = some b → getA L5 g' ≠ some b
  dis : b1 ≠ b2 ∧ b1 ≠ b3 ∧ b1 ≠ b4 ∧ b1 ≠ b5 ∧ b2 ≠ b3 ∧ b2 ≠ b4 ∧ b2 ≠ b5 ∧ b3 ≠ b4 ∧ b3 ≠ b5 ∧ b4 ≠ b5
  ksec : ∀ p ∈ r.sec, p.2.length = 32
  kgrp : ∀ p ∈ r.grp, p.2.2.length = 32 ∧ p.2.1 * 32 + s.tape.length ≤ 32000
  krlm : ∀ p ∈ r.rlm, p.2.2.length = 32 ∧ p.2.1 * 32 + s.tape.length ≤ 32000
  hasm : ∀ g, In r.grp g → In r.mem g
  hasr : ∀ m, In r.rlm m → In r.rdr m
/-- A ring in memory, its suite too. -/
def RingAt (w : World) (N R Q TB A PL : Nat) (st : St) : Prop := ∃ b1 b2 b3 b4 b5 L4 L5 v bv, RingIn w N R Q TB A PL st.1 st.2 b1 b2 b3 b4 b5 L4 L5 v bv
section
variable {w w' : World} {N R Q TB A PL : Nat} {r : PR} {s : SSt} {b1 b2 b3 b4 b5 : Nat} {L4 L5 : List (Nat × Nat)} {v : Value} {bv : List (BoxP × Value)}
/-- Nothing of the ring and of its suite has turned. -/
theorem RingIn.keep {X : Nat → Obj → Prop} (h : RingIn w N R Q TB A PL r s b1 b2 b3 b4 b5 L4 L5 v bv) (hk : Keep X w w') (hm : ∀ k es c, ¬ X k (.map es c)) (hc : ∀ k cur t fr, t = 75 ∨ t = 107 ∨ t = 5 ∨ t = 67 ∨ t = 69 → ¬ X k (.cells cur t fr)) : RingIn w' N R Q TB A PL r s b1 b2 b3 b4 b5 L4 L5 v bv :=
  { h with
    cells := h.cells.keep hk (hc _ _ _ _ (.inl rfl))
    sec := h.sec.block hk (hm _)
    grp := h.grp.block hk (hm _)
    rlm := h.rlm.block hk (hm _)
    mem := h.mem.keep hk (hm _) (fun _ b es c _ => hm b es c)
    rdr := h.rdr.keep hk (hm _) (fun _ b es c _ => hm b es c)
    box := h.box.keep hk (fun _ _ _ => hc _ _ _ _ (.inr (.inl rfl))) (fun _ _ _ => hc _ _ _ _ (.inr (.inr (.inl rfl))))
    suite := h.suite.keep hk (fun _ => hc _ _ _ _ (.inr (.inr (.inr (.inl rfl))))) (fun _ => hc _ _ _ _ (.inr (.inr (.inr (.inr rfl))))) (fun _ _ => hc _ _ _ _ (.inr (.inr (.inl rfl)))) (hm _) (hm _) }
theorem RingIn.ext (h : RingIn w N R Q TB A PL r s b1 b2 b3 b4 b5 L4 L5 v bv) (hk : Ext w w') : RingIn w' N R Q TB A PL r s b1 b2 b3 b4 b5 L4 L5 v bv := h.keep hk (fun _ _ _ h => h) (fun _ _ _ _ _ h => h)
end
theorem RingAt.ext {w w' : World} {N R Q TB A PL : Nat} {st : St} (h : RingAt w N R Q TB A PL st) (hk : Ext w w') : RingAt w' N R Q TB A PL st := by
  obtain ⟨b1, b2, b3, b4, b5, L4, L5, v, bv, h⟩ := h
  exact ⟨b1, b2, b3, b4, b5, L4, L5, v, bv, h.ext hk⟩
end Go.Proofs.YtcmhgpgookiomaaGreat
namespace Go.Proofs.YtcmhgpgookiomaaGreat
open Go.RowKit Go.Shelf Go.Maps

attribute [local go_sem] Oper.semAt_some

theorem SetsAt.len {w : World} {B : Nat} {L : List (Nat × Nat)} {M : List (Nat × List (Nat × Unit))} (h : SetsAt w B L M) : L.length = M.length := by
  have := nums_eq h.map.rise h.rise (fun g => by
    rcases h.inner g with ⟨h1, h2⟩ | ⟨b, s, h1, h2, _⟩
    · rw [h1, h2]; rfl
    · rw [h1, h2]; rfl)
  simpa [numsA] using congrArg List.length this

set_option maxRecDepth 20000 in
set_option maxHeartbeats 8000000 in
theorem twin_any {w : World} {N R Q TB A PL : Nat} {st : St} (h : RingAt w N R Q TB A PL st) (hbx : st.1.box.length ≤ 1000000) (hm : st.1.mem.length ≤ 1000) (hr : st.1.rdr.length ≤ 1000) :
    Calls Tryz.prog 16 #[.pointer (some ⟨R, 0, none⟩)] w fun e w' => ∃ R', e = .returned (.pointer (some ⟨R', 0, none⟩)) ∧ w.heap.size ≤ R' ∧ RingAt w' w.heap.size R' Q TB A PL st ∧ Ext w w' := by
  obtain ⟨b1, b2, b3, b4, b5, L4, L5, v, bv, h⟩ := h
  have hbl : bv.length ≤ 1000000 := by rw [← h.boxes] at hbx; simpa using hbx
  have HBL := Lib.hid hbl
  have HL4 := Lib.hid (show L4.length ≤ 1000 by rw [h.mem.len]; exact hm)
  have HL5 := Lib.hid (show L5.length ≤ 1000 by rw [h.rdr.len]; exact hr)
  have HH := Lib.hid h
  clear hbx hm hr h hbl
  refine calls_cps fun R0 hR => ?_
  have HR := Lib.hid hR
  clear hR
  have d0 := fun g : FY.At (fun _ _ => False) w.drew => Ext.cell (((Keep.refl _ w).drew).trans g.ext) (HH.out.cells.cell (i := 0) rfl)
  have d1 := fun g : FY.At (fun _ _ => False) w.drew => Ext.cell (((Keep.refl _ w).drew).trans g.ext) (HH.out.cells.cell (i := 1) rfl)
  have d2 := fun g : FY.At (fun _ _ => False) w.drew => Ext.cell (((Keep.refl _ w).drew).trans g.ext) (HH.out.cells.cell (i := 2) rfl)
  have d3 := fun g : FY.At (fun _ _ => False) w.drew => Ext.cell (((Keep.refl _ w).drew).trans g.ext) (HH.out.cells.cell (i := 3) rfl)
  have d4 := fun g : FY.At (fun _ _ => False) w.drew => Ext.cell (((Keep.refl _ w).drew).trans g.ext) (HH.out.cells.cell (i := 4) rfl)
  have d5 := fun g : FY.At (fun _ _ => False) w.drew => Ext.cell (((Keep.refl _ w).drew).trans g.ext) (HH.out.cells.cell (i := 5) rfl)
  have d6 := fun g : FY.At (fun _ _ => False) w.drew => Ext.cell (((Keep.refl _ w).drew).trans g.ext) (HH.out.cells.cell (i := 6) rfl)
  go_enter Tryz.func16, Tryz.ntmps16
  go_wp2_with fail
  refine FY.wp_flow (X := fun _ _ => False) (0 :: 1 :: 2 :: 3 :: 4 :: 5 :: 6 :: 7 :: 9 :: 10 :: 11 :: 12 :: 14 :: 15 :: 16 :: 17 :: 19 :: 20 :: 21 :: 22 :: 24 :: 25 :: 26 :: 27 :: 29 :: 30 :: 31 :: 32 :: 8 :: 13 :: 18 :: 23 :: 28 :: 33 :: 34 :: 35 :: 36 :: []) (fun n => if n = 8 ∨ n = 13 ∨ n = 18 ∨ n = 23 ∨ n = 28 ∨ n = 33 ∨ n = 35 then .bar else .still) (by kernel_rfl) (by kernel_rfl) ?_
  iterate 28 (refine FY.flow_q rfl rfl rfl ?_; go_big_quiet_step (fail); refine wpQuiet_nil ?_)
  clear d0 d1 d2 d3 d4 d5 d6
  refine FY.flow_bvs rfl rfl rfl (by simp) (by kernel_rfl) (fun w1 hE1 _ => ?_)
  have e1 : Ext w w1 := ((Keep.refl _ w).drew).trans hE1
  have c1 := secs_clone (HH.out.sec.ext e1)
  go_wp2_with fail
  refine c1.mono ?_
  rintro e w2 ⟨rfl, m1, x2, s2⟩
  clear c1 hE1
  go_wp2
  have M1 := Lib.hid m1
  have E2 := Lib.hid (e1.trans x2)
  have S2 := Lib.hid (show w.heap.size ≤ w1.heap.size ∧ w1.heap.size < w2.heap.size by have := e1.size; omega)
  clear m1 x2 s2 e1
  refine FY.flow_bvs rfl rfl rfl (by simp) (by kernel_rfl) (fun w3 hE3 _ => ?_)
  have c2 := keyeds_clone (HH.out.grp.ext (E2.out.trans hE3))
  go_wp2_with fail
  refine c2.mono ?_
  rintro e w4 ⟨rfl, m2, x4, s4⟩
  have X4 := Lib.hid (hE3.trans x4)
  clear c2
  go_wp2
  have M2 := Lib.hid m2
  have S4 := Lib.hid (show w2.heap.size ≤ w3.heap.size ∧ w3.heap.size < w4.heap.size by have := hE3.size; omega)
  clear m2 s4 x4 hE3
  refine FY.flow_bvs rfl rfl rfl (by simp) (by kernel_rfl) (fun w5 hE5 _ => ?_)
  have c3 := keyeds_clone (HH.out.rlm.ext ((E2.out.trans X4.out).trans hE5))
  go_wp2_with fail
  refine c3.mono ?_
  rintro e w6 ⟨rfl, m3, x6, s6⟩
  have X6 := Lib.hid (hE5.trans x6)
  clear c3
  go_wp2
  have M3 := Lib.hid m3
  have S6 := Lib.hid (show w4.heap.size ≤ w5.heap.size ∧ w5.heap.size < w6.heap.size by have := hE5.size; omega)
  clear m3 s6 x6 hE5
  refine FY.flow_bvs rfl rfl rfl (by simp) (by kernel_rfl) (fun w7 hE7 _ => ?_)
  have c4 := sets_any (HH.out.mem.ext (((E2.out.trans X4.out).trans X6.out).trans hE7)) HL4.out
  go_wp2_with fail
  refine c4.mono ?_
  rintro e w8 ⟨b4', L4', rfl, p4, q4, m4, x8, _⟩
  have X8 := Lib.hid (hE7.trans x8)
  clear c4
  go_wp2
  have M4 := Lib.hid m4
  have P4 := Lib.hid p4
  have Q4 := Lib.hid q4
  have S8 := Lib.hid (show w6.heap.size ≤ w7.heap.size ∧ w7.heap.size ≤ w8.heap.size from ⟨hE7.size, x8.size⟩)
  clear m4 x8 hE7 p4 q4
  refine FY.flow_bvs rfl rfl rfl (by simp) (by kernel_rfl) (fun w9 hE9 _ => ?_)
  have c5 := sets_any (HH.out.rdr.ext ((((E2.out.trans X4.out).trans X6.out).trans X8.out).trans hE9)) HL5.out
  go_wp2_with fail
  refine c5.mono ?_
  rintro e w10 ⟨b5', L5', rfl, p5, q5, m5, x10, _⟩
  have X10 := Lib.hid (hE9.trans x10)
  clear c5
  go_wp2
  have M5 := Lib.hid m5
  have P5 := Lib.hid p5
  have Q5 := Lib.hid q5
  have S10 := Lib.hid (show w8.heap.size ≤ w9.heap.size ∧ w9.heap.size ≤ w10.heap.size from ⟨hE9.size, x10.size⟩)
  clear m5 x10 hE9 p5 q5
  refine FY.flow_bvs rfl rfl rfl (by simp) (by kernel_rfl) (fun w11 hE11 _ => ?_)
  have c6 := boxesClone_any (HH.out.box.ext (((((E2.out.trans X4.out).trans X6.out).trans X8.out).trans X10.out).trans hE11)) HBL.out
  go_wp2_with fail
  refine c6.mono ?_
  rintro e w12 ⟨v', rfl, m6, x12⟩
  have X12 := Lib.hid (hE11.trans x12)
  obtain ⟨av, cv, rfl, _⟩ := owns_row m6.own
  clear c6
  go_wp2
  have M6 := Lib.hid m6
  have S12 := Lib.hid hE11.size
  clear m6 x12 hE11
  refine FY.flow_q rfl rfl rfl ?_; go_big_quiet_step (fail); refine wpQuiet_nil ?_
  refine FY.flow_bvs rfl rfl rfl (by simp) (by kernel_rfl) (fun w13 hE13 _ => ?_)
  have eA : Ext w13 (w13.alloc (.cells (ringC Q w1.heap.size w3.heap.size w5.heap.size b4' b5' (.slice av bv.length cv)).toArray 75)) := (Keep.refl _ w13).alloc _
  have bA := Arr.new w13 75 (ringC Q w1.heap.size w3.heap.size w5.heap.size b4' b5' (.slice av bv.length cv))
  obtain ⟨w14, h14⟩ : ∃ w14, w13.alloc (.cells (ringC Q w1.heap.size w3.heap.size w5.heap.size b4' b5' (.slice av bv.length cv)).toArray 75) = w14 := ⟨_, rfl⟩
  rw [h14] at eA bA
  have X14 := Lib.hid (hE13.trans eA)
  have BA := Lib.hid bA
  have H14 := Lib.hid h14
  have S13 := Lib.hid (show w12.heap.size ≤ w13.heap.size from hE13.size)
  clear eA bA h14 hE13
  go_wp2
  refine ⟨(Keep.refl _ w13).alloc _, ?_⟩
  refine FY.flow_q rfl rfl rfl ?_; go_big_quiet_step (fail); refine wpQuiet_nil ?_
  refine FY.flow_end (fun w15 hE15 _ => ?_)
  have HE15 : Ext w14 w15 := by rw [← H14.out]; exact hE15
  clear hE15
  have hh := HH.out
  have t15 := HE15
  have t14 := X14.out.trans t15
  have t12 := X12.out.trans t14
  have t10 := X10.out.trans t12
  have t8 := X8.out.trans t10
  have t6 := X6.out.trans t8
  have t4 := X4.out.trans t6
  have tw := E2.out.trans t4
  have l4 : ∀ g b, getA L4' g = some b → b < w8.heap.size := fun g b hg => by
    obtain ⟨s, _, hs⟩ := M4.out.at' hg
    exact hs.below
  have z1 := S2.out
  have z2 := S4.out
  have z3 := S6.out
  have z4 := S8.out
  have z5 := S10.out
  have z6 := S12.out
  have z7 := S13.out
  have y4 := M4.out.map.below
  have y5 := M5.out.map.below
  have yp4 := P4.out
  have yp5 := P5.out
  have yR := hh.cells.lt
  have yN := hh.high.1
  have zx := X12.out.size
  have hfin : RingIn w15 w.heap.size w13.heap.size Q TB A PL st.1 st.2 w1.heap.size w3.heap.size w5.heap.size b4' b5' L4' L5' (.slice av bv.length cv) bv :=
    { cells := BA.out.ext t15
      sec := M1.out.ext t4
      grp := M2.out.ext t6
      rlm := M3.out.ext t8
      mem := M4.out.ext t10
      rdr := M5.out.ext t12
      box := { own := ownMono (Ext.owns t14 M6.out.own) (by omega), ct := fun p hp => (M6.out.ct p hp).keep t14 (fun _ _ _ h => h), lt := M6.out.lt }
      boxes := hh.boxes
      suite := hh.suite.ext tw
      low := ⟨by have := hh.low.1; omega, by have := hh.low.2.1; omega, by have := hh.low.2.2.1; omega, by have := hh.low.2.2.2; omega⟩
      high := ⟨by omega, by omega, by omega, by omega, by omega, by omega⟩
      h4 := fun g b hg => by
        have q1 := Q4.out g b hg
        have q2 := l4 g b hg
        exact ⟨by omega, by omega, by omega, by omega, by omega⟩
      h5 := fun g b hg => by
        have q1 := Q5.out g b hg
        exact ⟨by omega, by omega, by omega, by omega, by omega⟩
      h45 := fun g g' b hg hg' => by
        have q1 := Q5.out g' b hg'
        have q2 := l4 g b hg
        omega
      dis := ⟨by omega, by omega, by omega, by omega, by omega, by omega, by omega, by omega, by omega, by omega⟩
      ksec := hh.ksec
      kgrp := hh.kgrp
      krlm := hh.krlm
      hasm := hh.hasm
      hasr := hh.hasr }
  have hRR := HR.out (.returned (.pointer (some ⟨w13.heap.size, 0, none⟩))) w15 ⟨w13.heap.size, rfl, by omega, ⟨_, _, _, _, _, _, _, _, _, hfin⟩, tw⟩
  clear HR hfin hh t15 t14 t12 t10 t8 t6 t4 tw l4 z1 z2 z3 z4 z5 z6 z7 y4 y5 yp4 yp5 yR yN zx HE15
  go_wp2
  exact hRR
end Go.Proofs.YtcmhgpgookiomaaGreat
namespace Go.Proofs.YtcmhgpgookiomaaGreat
open Go.RowKit Go.Shelf Go.Maps

attribute [local go_sem] Oper.semAt_some

def OneBox (C : List Value) (v : Value) (w' : World) : Prop := ∃ g, v = .slice (some ⟨g, 0, none⟩) 1 1 ∧ Arr w' g 107 C
def OneBoxSh (v : Value) : Prop := ∃ g, v = .slice (some ⟨g, 0, none⟩) 1 1

/-- What the making of a box turns. -/
def BoxX (N TB A PL : Nat) (k : Nat) (o : Obj) : Prop := SuiteX TB A PL k o ∨ (N ≤ k ∧ ∃ cur t fr, o = .cells cur t fr ∧ (t = 75 ∨ t = 107))
theorem BoxX.rg {N TB A PL k : Nat} {o : Obj} (h : BoxX N TB A PL k o) : RgX N TB A PL k o := by
  rcases h with h | ⟨h1, cur, t, fr, rfl, rfl | rfl⟩
  · exact .inl h
  · exact .inr ⟨h1, .inr (.inl ⟨_, _, rfl⟩)⟩
  · exact .inr ⟨h1, .inr (.inr ⟨_, _, rfl⟩)⟩
theorem BoxX.map {N TB A PL k : Nat} (hA : A < N) (hP : PL < N) (hk : N ≤ k) {es : Array MapEntry} {c : Nat} : ¬ BoxX N TB A PL k (.map es c) := fun h => by
  rcases h with (⟨_, _, h⟩ | ⟨h, _⟩) | ⟨_, _, _, _, h, _⟩
  · cases h
  · omega
  · cases h
theorem BoxX.bytes {N TB A PL k : Nat} {cur : Array Value} {fr : Nat × Nat} : ¬ BoxX N TB A PL k (.cells cur 5 fr) := fun h => by
  rcases h with h | ⟨_, _, _, _, h, h1 | h1⟩
  · exact SuiteX.bytes h
  · cases h; cases h1
  · cases h; cases h1
theorem wrap_tape {s s' : SSt} {kek k ct : By} (h : wrapP s kek k = some (ct, s')) : s'.tape.length ≤ s.tape.length := by
  unfold wrapP at h
  split at h
  · cases h; exact Nat.le_refl _
  · split at h
    · cases h
    · cases h; simp
/-- A ring with other boxes and another suite. -/
theorem RingIn.boxed {w w' : World} {N R Q TB A PL : Nat} {r : PR} {s s' : SSt} {b1 b2 b3 b4 b5 : Nat} {L4 L5 : List (Nat × Nat)} {v v' : Value} {bv bv' : List (BoxP × Value)} (h : RingIn w N R Q TB A PL r s b1 b2 b3 b4 b5 L4 L5 v bv)
    (hk : Keep (BoxX N TB A PL) w w') (hs : SuiteAt w' Q TB A PL s') (hc : Arr w' R 75 (ringC Q b1 b2 b3 b4 b5 v')) (hb : BoxesAt w' N v' bv') (ht : s'.tape.length ≤ s.tape.length) : RingIn w' N R Q TB A PL { r with box := bv'.map (·.1) } s' b1 b2 b3 b4 b5 L4 L5 v' bv' :=
  { cells := hc
    sec := h.sec.block hk (fun _ _ => BoxX.map h.low.2.2.1 h.low.2.2.2 h.high.2.1)
    grp := h.grp.block hk (fun _ _ => BoxX.map h.low.2.2.1 h.low.2.2.2 h.high.2.2.1)
    rlm := h.rlm.block hk (fun _ _ => BoxX.map h.low.2.2.1 h.low.2.2.2 h.high.2.2.2.1)
    mem := h.mem.keep hk (fun _ _ => BoxX.map h.low.2.2.1 h.low.2.2.2 h.high.2.2.2.2.1) (fun g b _ _ hg => BoxX.map h.low.2.2.1 h.low.2.2.2 (h.h4 g b hg).1)
    rdr := h.rdr.keep hk (fun _ _ => BoxX.map h.low.2.2.1 h.low.2.2.2 h.high.2.2.2.2.2) (fun g b _ _ hg => BoxX.map h.low.2.2.1 h.low.2.2.2 (h.h5 g b hg).1)
    box := hb
    boxes := rfl
    suite := hs
    low := h.low
    high := h.high
    h4 := h.h4
    h5 := h.h5
    h45 := h.h45
    dis := h.dis
    ksec := h.ksec
    kgrp := fun p hp => ⟨(h.kgrp p hp).1, by have := (h.kgrp p hp).2; omega⟩
    krlm := fun p hp => ⟨(h.krlm p hp).1, by have := (h.krlm p hp).2; omega⟩
    hasm := h.hasm
    hasr := h.hasr }

set_option maxRecDepth 20000 in
set_option maxHeartbeats 8000000 in
theorem box_any {w : World} {N R Q TB A PL : Nat} {st : St} (h : RingAt w N R Q TB A PL st) (b : BoxP) (kek k : By) (hk : kek.length = 32) (hk2 : k.length = 32) (hbx : st.1.box.length ≤ 1000000)
    (hb32 : b.kind < 4294967296 ∧ b.of < 4294967296 ∧ b.ep < 4294967296 ∧ b.fr < 4294967296 ∧ b.at' < 4294967296) :
    Calls Tryz.prog 78 #[.pointer (some ⟨R, 0, none⟩), .agg (boxC b (.slice none 0 0)).toArray, aggK kek, aggK k] w fun e w' =>
      (boxP st b kek k = none → e = .returned (.int .i64 60) ∧ Keep (RgX N TB A PL) w w') ∧
      (∀ st', boxP st b kek k = some st' → e = .returned (.int .i64 0) ∧ RingAt w' N R Q TB A PL st' ∧ Keep (RgX N TB A PL) w w') := by
  obtain ⟨b1, b2, b3, b4, b5, L4, L5, v, bv, h⟩ := h
  have hwr := fun A' (hE : Ext w A') => wrap_any (h.suite.ext hE) kek k hk hk2
  unfold aggK at hwr ⊢
  obtain ⟨O, hO⟩ : ∃ O, kek.map u8v = O := ⟨_, rfl⟩
  obtain ⟨K, hK⟩ : ∃ K, k.map u8v = K := ⟨_, rfl⟩
  have hOl : O.length = 32 := by rw [← hO, List.length_map, hk]
  have hKl : K.length = 32 := by rw [← hK, List.length_map, hk2]
  have hiO := Lib.hid (show (Tryz.prog.info? 51).map (·.size) = some O.toArray.size by rw [info_key, List.size_toArray, hOl])
  have hiK := Lib.hid (show (Tryz.prog.info? 51).map (·.size) = some K.toArray.size by rw [info_key, List.size_toArray, hKl])
  rw [hO, hK] at hwr ⊢
  have hbl : bv.length ≤ 1000000 := by rw [← h.boxes] at hbx; simpa using hbx
  have HBL := Lib.hid hbl
  have HWR := Lib.hid hwr
  have HH := Lib.hid h
  have HB32 := Lib.hid hb32
  clear hbx hbl hwr h hOl hKl hO hK hb32
  obtain ⟨bk, bof, bep, bfr, bat, bct⟩ := b
  simp only [boxC, u32n]
  refine calls_cps fun R0 hR => ?_
  have HR := Lib.hid hR
  clear hR
  go_enter Tryz.func78, Tryz.ntmps78
  go_wp2_with fail
  refine wp_laid3 fun W eW h1 h2 h3 => ?_
  have aB : Arr W w.heap.size 107 [.int .i64 (bk : Int), .int .u32 (bof : Int), .int .u32 (bep : Int), .int .u32 (bfr : Int), .int .u32 (bat : Int), .slice none 0 0] := h1
  have aO : Arr W (w.heap.size + 1) 51 O := h2
  have aK : Arr W (w.heap.size + 1 + 1) 51 K := h3
  have HEW := Lib.hid eW
  clear h1 h2 h3
  have d0 := fun g : FY.At (SuiteX TB A PL) W.drew => (((Keep.refl (SuiteX TB A PL) W).drew).trans g.ext).cell (Ext.cell HEW.out (HH.out.cells.cell (i := 0) rfl)) (fun o ho _ => by
    rw [show W.heap[R]? = _ from HH.out.cells.ext HEW.out] at ho
    cases ho
    exact SuiteX.cells (by decide))
  have hD : ∀ w', Keep (SuiteX TB A PL) W.drew w' → Keep (SuiteX TB A PL) W w' := fun w' h => ((Keep.refl _ W).drew).trans h
  refine FY.wp_flow (X := SuiteX TB A PL) (0 :: 1 :: 2 :: 3 :: 4 :: 5 :: 6 :: 7 :: 8 :: 9 :: 10 :: 11 :: []) (fun n => if n = 6 then .bar else .still) (by kernel_rfl) (by kernel_rfl) ?_
  iterate 4 (refine FY.flow_q rfl rfl rfl ?_; go_big_quiet_step (fail); refine wpQuiet_nil ?_)
  refine FY.flow_vq (v := .agg O.toArray) rfl rfl rfl (fun w' hE => exec_load_row rfl rfl (aO.keep (hD w' hE) (SuiteX.cells (by decide))) Tryz.underlying51 rfl hiO.out) ?_
  simp only [Act.put, List.setIfInBounds_toArray, List.set_cons_succ, List.set_cons_zero]
  refine FY.flow_vq (v := .agg K.toArray) rfl rfl rfl (fun w' hE => exec_load_row rfl rfl (aK.keep (hD w' hE) (SuiteX.cells (by decide))) Tryz.underlying51 rfl hiK.out) ?_
  simp only [Act.put, List.setIfInBounds_toArray, List.set_cons_succ, List.set_cons_zero]
  clear d0 hD
  refine FY.flow_bvs rfl rfl rfl (by simp) (by kernel_rfl) (fun w1 hE1 _ => ?_)
  have e1 : Ext W w1 := ((Keep.refl _ W).drew).trans hE1
  have hcall := HWR.out w1 (HEW.out.trans e1)
  have HE1 := Lib.hid e1
  clear e1 hE1
  go_wp2_with fail
  refine hcall.mono ?_
  rintro e w2 ⟨hlo, hhi⟩
  clear hcall
  cases hw : wrapP st.2 kek k with
  | none =>
    obtain ⟨rfl, e2⟩ := hlo hw
    have hn : boxP st ⟨bk, bof, bep, bfr, bat, bct⟩ kek k = none := by unfold boxP; rw [hw]; rfl
    have hRR := fun w' (hE : Ext w2 w') => HR.out (.returned (.int .i64 60)) w' ⟨fun _ => ⟨rfl, Keep.of_ext (((HEW.out.trans HE1.out).trans e2).trans hE)⟩, fun st' h => (by rw [hn] at h; cases h)⟩
    have K2 : Keep (SuiteX TB A PL) w1 w2 := Keep.of_ext e2
    clear HR hlo hhi hw e2 hn
    go_wp2
    iterate 5 (refine FY.flow_q rfl rfl rfl ?_; go_big_quiet_step (fail); refine wpQuiet_nil ?_)
    refine FY.flow_end (fun w9 hE9 _ => ?_)
    have hfin := hRR w9 hE9
    clear hRR
    go_wp2
    exact hfin
  | some x =>
    obtain ⟨ct, s'⟩ := x
    obtain ⟨ac, cc, rfl, hrow, hib, hsu, K2⟩ := hhi ct s' hw
    have hn : boxP st ⟨bk, bof, bep, bfr, bat, bct⟩ kek k = some ({ st.1 with box := st.1.box ++ [⟨bk, bof, bep, bfr, bat, ct⟩] }, s') := by unfold boxP; rw [hw]; rfl
    have hctl : ct.length = 108 := by have := hrow.2.2.1; simpa using this
    have HW := Lib.hid hw
    have HN := Lib.hid hn
    have HROW := Lib.hid hrow
    have HIB := Lib.hid hib
    have HSU := Lib.hid hsu
    have aB2 := (aB.ext HE1.out).keep K2 (SuiteX.cells (by decide))
    have HCT := Lib.hid hctl
    clear hw hn hrow hib hsu hlo hhi hctl
    have HK2 := Lib.hid K2
    go_wp2
    iterate 5 (refine FY.flow_q rfl rfl rfl ?_; go_big_quiet_step (fail); refine wpQuiet_nil ?_)
    refine FY.flow_end (fun w3 hE3 _ => ?_)
    have aB3 := aB2.ext hE3
    have c5 := aB3.cell (i := 5) rfl
    have f5 := aB3.frozen 5
    have a4 := aB3.set 5 (.slice ac 108 cc)
    have k4 : Keep (fun k o => k = w.heap.size ∧ ∃ cur, o = .cells cur 107 (0, 0)) w3 (w3.setCell ⟨w.heap.size, 5, none⟩ (.slice ac 108 cc)) := (keep_setCell w3 w.heap.size 5 (.slice ac 108 cc)).mono (fun k o ho hx => ⟨hx, by
      subst hx
      rw [show w3.heap[w.heap.size]? = _ from aB3] at ho
      cases ho
      exact ⟨_, rfl⟩⟩)
    have HE3 := Lib.hid hE3
    clear K2 hE3
    go_wp2_with fail
    obtain ⟨w4, hw4⟩ : ∃ w4, w3.setCell ⟨w.heap.size, 5, none⟩ (.slice ac 108 cc) = w4 := ⟨_, rfl⟩
    rw [hw4] at a4 k4 ⊢
    clear hw4 c5 f5 aB3 aB2
    obtain ⟨C, hC⟩ : ∃ C, boxC ⟨bk, bof, bep, bfr, bat, ct⟩ (.slice ac 108 cc) = C := ⟨_, rfl⟩
    have hCl : C.length = 6 := by rw [← hC]; rfl
    have a4' : Arr w4 w.heap.size 107 C := by rw [← hC]; exact a4
    clear a4
    have hk3 : Keep (SuiteX TB A PL) w w3 := ((Keep.of_ext (HEW.out.trans HE1.out)).trans HK2.out).trans (Keep.of_ext HE3.out)
    have hk4 : Keep (SuiteX TB A PL) w w4 := (Keep.or hk3 k4).mono (fun k o ho hx => by
      rcases hx with hx | hx
      · exact hx
      · have := Keep.lt ho; have := hx.1; omega)
    have hX4 : ∀ k (cur : Array Value) (t : TypeId) fr, t ≠ 107 → ¬ (k = w.heap.size ∧ ∃ cur', Obj.cells cur t fr = .cells cur' 107 (0, 0)) := fun k cur t fr ht h => by
      obtain ⟨_, _, h⟩ := h
      cases h
      exact ht rfl
    have hc4 : Arr w4 R 75 (ringC Q b1 b2 b3 b4 b5 v) := HH.out.cells.keep hk4 (SuiteX.cells (by decide))
    have ho4 : w4.ownsRow N 107 6 v bv.length (bv.flatMap fun p => boxC p.1 p.2) := hk4.owns' HH.out.box.own (fun _ _ _ => SuiteX.cells (by decide))
    have hs4 : SuiteAt w4 Q TB A PL s' := (HSU.out.ext HE3.out).keep k4 (fun _ => hX4 _ _ _ _ (by decide)) (fun _ => hX4 _ _ _ _ (by decide)) (fun _ _ => hX4 _ _ _ _ (by decide)) (fun _ _ h => by obtain ⟨_, _, h⟩ := h; cases h) (fun _ _ h => by obtain ⟨_, _, h⟩ := h; cases h)
    have hct4 : CtAt w4 (.slice ac 108 cc) ct := (show CtAt w2 (.slice ac 108 cc) ct from ⟨HCT.out, ac, cc, rfl, HROW.out, HIB.out⟩).keep ((Keep.of_ext (X := fun k o => k = w.heap.size ∧ ∃ cur, o = .cells cur 107 (0, 0)) HE3.out).trans k4) (fun _ _ _ => hX4 _ _ _ _ (by decide))
    have hN4 : N ≤ w4.heap.size := by have := hc4.lt; have := HH.out.high.1; omega
    have hNw : N ≤ w.heap.size := by have := HH.out.cells.lt; have := HH.out.high.1; omega
    have HHK4 := Lib.hid hk4
    have HS4 := Lib.hid hs4
    have HCT4 := Lib.hid hct4
    have HC4 := Lib.hid hc4
    have HO4 := Lib.hid ho4
    have HC := Lib.hid hC
    have hiB := Lib.hid (show (Tryz.prog.info? 107).map (·.size) = some C.toArray.size by rw [List.size_toArray, hCl]; kernel_rfl)
    have h1C : ∀ u ∈ C, u.oneCell' = true := by rw [← hC]; exact boxC_one hct4
    have H1C := Lib.hid h1C
    have HCl := Lib.hid hCl
    clear hX4 hc4 ho4 hs4 hct4 hk4 hk3 k4 hC h1C hCl
    have d6 := fun g : FY.At (fun _ _ => False) w4.drew => (HC4.out.ext (((Keep.refl _ w4).drew).trans g.ext)).cell (i := 6) rfl
    refine FY.wp_flow (X := BoxX N TB A PL) (0 :: 1 :: 2 :: 3 :: 4 :: 5 :: 6 :: 7 :: 8 :: 9 :: 10 :: []) (fun n => if n = 6 then .grows (OneBox C) OneBoxSh else if n = 7 ∨ n = 10 then .bar else if n = 4 ∨ n = 5 then .reads else .still) (by kernel_rfl) (by kernel_rfl) ?_
    iterate 4 (refine FY.flow_q rfl rfl rfl ?_; go_big_quiet_step (fail); refine wpQuiet_nil ?_)
    refine FY.flow_r rfl rfl rfl ?_; go_big_quiet_step (fail); refine wpQuiet_nil ?_
    refine FY.flow_v (v := .agg C.toArray) rfl rfl rfl (fun w' hE => exec_load_row rfl rfl (a4'.ext (((Keep.refl _ w4).drew).trans hE)) Tryz.underlying107 rfl hiB.out) ?_
    simp only [Act.put, List.setIfInBounds_toArray, List.set_cons_succ, List.set_cons_zero]
    clear d6
    refine FY.flow_g rfl rfl rfl (by simp) ⟨_, 0, rfl⟩ (fun v A B ⟨g, h1, h2⟩ hE => ⟨g, h1, h2.ext hE⟩) (fun v A ⟨g, h1, _⟩ => ⟨g, h1⟩) (fun w5 hE5 _ => ?_) (fun v hv => ?_)
    · rw [← HC.out]
      simp only [boxC, u32n]
      go_wp2
      exact ⟨(Keep.refl _ w5).alloc _, w5.heap.size, rfl, Arr.new w5 _ _⟩
    obtain ⟨g1, rfl⟩ := hv
    simp only [Act.put, List.setIfInBounds_toArray, List.set_cons_succ, List.set_cons_zero]
    refine FY.flow_bvs rfl rfl rfl (by simp) (by kernel_rfl) (fun w5 hE5 hf => ?_)
    obtain ⟨_, q, hAg⟩ : OneBox C (.slice (some ⟨g1, 0, none⟩) 1 1) w5 := hf 6
    cases q
    have hX5 : Ext w4 w5 := ((Keep.refl _ w4).drew).trans hE5
    have hrow1 : Row 6 w5 (some ⟨g1, 0, none⟩) 1 1 C := ⟨Nat.le_refl _, by simp [maxLen], by rw [HCl.out], by simp, fun _ => ⟨g1, 0, rfl, fun i u hu => by rw [Nat.zero_add]; exact hAg.cell hu⟩⟩
    obtain ⟨v', w6, hrun, hown6, hgrow, _⟩ := run_append_row (P := Tryz.prog) w5 N 40 40 107 _ 6 48 Tryz.underlying40 info_box rfl (by decide) (Ext.owns hX5 HO4.out) hrow1 H1C.out (by have := HBL.out; unfold maxLen; omega) (by have := HBL.out; omega) (by have := hX5.size; omega)
    have k6 : Keep (fun k o => N ≤ k ∧ ∃ cur, o = .cells cur 107 (0, 0)) w5 w6 := Keep.of_grownBy hgrow (fun k o hk ho => by
      rcases (Ext.owns hX5 HO4.out).2 with ⟨q, _⟩ | ⟨g', cap, cur, q, hb, hgb, _⟩
      · rw [q] at hk; simp [Value.ownBlock] at hk
      · rw [q] at hk
        obtain rfl : g' = k := by simpa [Value.ownBlock] using hk
        rw [hgb] at ho; cases ho; exact ⟨hb, _, rfl⟩)
    obtain ⟨a2, c2, rfl, _⟩ := owns_row hown6
    have hXb : ∀ k (cur : Array Value) (t : TypeId) fr, t ≠ 107 → ¬ (N ≤ k ∧ ∃ cur', Obj.cells cur t fr = .cells cur' 107 (0, 0)) := fun k cur t fr ht h => by
      obtain ⟨_, _, h⟩ := h
      cases h
      exact ht rfl
    have hs6 := (HS4.out.ext hX5).keep k6 (fun _ => hXb _ _ _ _ (by decide)) (fun _ => hXb _ _ _ _ (by decide)) (fun _ _ => hXb _ _ _ _ (by decide)) (fun _ _ h => by obtain ⟨_, _, h⟩ := h; cases h) (fun _ _ h => by obtain ⟨_, _, h⟩ := h; cases h)
    have hc6 := (HC4.out.ext hX5).keep k6 (hXb _ _ _ _ (by decide))
    have hk6 : Keep (BoxX N TB A PL) w w6 := ((HHK4.out.mono (fun _ _ _ h => .inl h)).trans (Keep.of_ext hX5)).trans (k6.mono (fun k o _ hx => by obtain ⟨h1, cur, h2⟩ := hx; exact .inr ⟨h1, _, _, _, h2, .inr rfl⟩))
    have hct6 := (HCT4.out.keep hX5 (fun _ _ _ h => h)).keep k6 (fun _ _ _ => hXb _ _ _ _ (by decide))
    have kX6 : Keep (BoxX N TB A PL) w5 w6 := k6.mono (fun k o _ hx => by obtain ⟨h1, cur, h2⟩ := hx; exact .inr ⟨h1, _, _, _, h2, .inr rfl⟩)
    refine wpList_append_run hrun rfl rfl rfl rfl ?_
    refine ⟨rfl, _, rfl, kX6, ?_⟩
    simp only [Act.put, List.setIfInBounds_toArray, List.set_cons_succ, List.set_cons_zero]
    have HK6 := Lib.hid hk6
    have HS6 := Lib.hid hs6
    have HCT6 := Lib.hid hct6
    have HO6 := Lib.hid hown6
    clear hrun hgrow hrow1 hAg hf hX5 hE5 k6 hXb hs6 hk6 hct6 hown6 kX6 a4'
    iterate 2 (refine FY.flow_q rfl rfl rfl ?_; go_big_quiet_step (fail); refine wpQuiet_nil ?_)
    refine FY.flow_ba rfl rfl rfl (by kernel_rfl) (fun w7 hE7 _ => ?_)
    have hc7 := hc6.ext hE7
    have c6 := hc7.cell (i := 6) rfl
    have f6 := hc7.frozen 6
    have hc8 := hc7.set 6 (.slice a2 (bv.length + 1) c2)
    have k8 : Keep (fun k o => k = R ∧ ∃ cur, o = .cells cur 75 (0, 0)) w7 (w7.setCell ⟨R, 6, none⟩ (.slice a2 (bv.length + 1) c2)) := (keep_setCell w7 R 6 (.slice a2 (bv.length + 1) c2)).mono (fun k o ho hx => ⟨hx, by
      subst hx
      rw [show w7.heap[k]? = _ from hc7] at ho
      cases ho
      exact ⟨_, rfl⟩⟩)
    obtain ⟨w8, hw8⟩ : ∃ w8, w7.setCell ⟨R, 6, none⟩ (.slice a2 (bv.length + 1) c2) = w8 := ⟨_, rfl⟩
    rw [hw8] at hc8 k8
    have kX8 : Keep (BoxX N TB A PL) w7 w8 := k8.mono (fun k o _ hx => by
      obtain ⟨h1, cur, h2⟩ := hx
      exact .inr ⟨by rw [h1]; exact HH.out.high.1, _, _, _, h2, .inl rfl⟩)
    have hE7' : Ext w6 w7 := hE7
    have HW8 := Lib.hid hw8
    have HC8 := Lib.hid hc8
    have HK8 := Lib.hid k8
    have HE7 := Lib.hid hE7'
    have HKX8 := Lib.hid kX8
    clear hc8 k8 hE7' hw8 hc7 hc6 hE7 kX8
    go_wp2
    rw [HW8.out]
    refine ⟨HKX8.out, ?_⟩
    refine FY.flow_end (fun w9 hE9 _ => ?_)
    have hE9' : Ext w8 w9 := hE9
    have hXr : ∀ k (cur : Array Value) (t : TypeId) fr, t ≠ 75 → ¬ (k = R ∧ ∃ cur', Obj.cells cur t fr = .cells cur' 75 (0, 0)) := fun k cur t fr ht h => by
      obtain ⟨_, _, h⟩ := h
      cases h
      exact ht rfl
    have hs9 := ((HS6.out.ext HE7.out).keep HK8.out (fun _ => hXr _ _ _ _ (by decide)) (fun _ => hXr _ _ _ _ (by decide)) (fun _ _ => hXr _ _ _ _ (by decide)) (fun _ _ h => by obtain ⟨_, _, h⟩ := h; cases h) (fun _ _ h => by obtain ⟨_, _, h⟩ := h; cases h)).ext hE9'
    have hct9 := ((HCT6.out.keep HE7.out (fun _ _ _ h => h)).keep HK8.out (fun _ _ _ => hXr _ _ _ _ (by decide))).keep hE9' (fun _ _ _ h => h)
    have ho9 := Ext.owns hE9' (HK8.out.owns' (Ext.owns HE7.out HO6.out) (fun _ _ _ => hXr _ _ _ _ (by decide)))
    have hk9 : Keep (BoxX N TB A PL) w w9 := ((HK6.out.trans (Keep.of_ext HE7.out)).trans HKX8.out).trans (Keep.of_ext hE9')
    have hb9 : BoxesAt w9 N (.slice a2 (bv.length + 1) c2) (bv ++ [(⟨bk, bof, bep, bfr, bat, ct⟩, .slice ac 108 cc)]) :=
      ⟨by
        rw [List.length_append, List.flatMap_append]
        simp only [List.length_cons, List.length_nil, List.flatMap_cons, List.flatMap_nil, List.append_nil]
        rw [HC.out]
        exact ho9,
       fun p hp => by
        rcases List.mem_append.1 hp with hp | hp
        · exact (HH.out.box.ct p hp).keep hk9 (fun _ _ _ => BoxX.bytes)
        · obtain rfl := List.mem_singleton.1 hp
          exact hct9,
       fun p hp => by
        rcases List.mem_append.1 hp with hp | hp
        · exact HH.out.box.lt p hp
        · obtain rfl := List.mem_singleton.1 hp
          exact HB32.out⟩
    have hfin := HH.out.boxed hk9 hs9 (HC8.out.ext hE9') hb9 (wrap_tape HW.out)
    have hbx : (bv ++ [((⟨bk, bof, bep, bfr, bat, ct⟩ : BoxP), (Value.slice ac 108 cc))]).map (·.1) = st.1.box ++ [⟨bk, bof, bep, bfr, bat, ct⟩] := by rw [List.map_append, HH.out.boxes]; rfl
    rw [hbx] at hfin
    have hRR := HR.out (.returned (.int .i64 0)) w9 ⟨fun h => (by rw [HN.out] at h; cases h), fun st' h => (by
      rw [HN.out] at h
      cases h
      exact ⟨rfl, ⟨_, _, _, _, _, _, _, _, _, hfin⟩, hk9.mono (fun _ _ _ h => h.rg)⟩)⟩
    clear HR hfin hb9 hk9 ho9 hct9 hs9 hXr hE9' hbx hE9
    go_wp2
    exact hRR
end Go.Proofs.YtcmhgpgookiomaaGreat
