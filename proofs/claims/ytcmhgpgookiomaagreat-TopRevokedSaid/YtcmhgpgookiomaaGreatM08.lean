/-
  TopRevoked: the tape. a key from the tape. Maps of the call's own whose values are whatever they are. The keys of the suite's and the openers' maps. The letters of the suite's questions. an ideal suite in memory; Draw. the draws are laid; a tape is made of them. a new ideal suite. questions are built; look-ups in drawn regions.
-/
import Derived.Test.YtcmhgpgookiomaaGreatM01
import Derived.Test.YtcmhgpgookiomaaGreatM04
import Derived.Test.YtcmhgpgookiomaaGreatM06
import Derived.Test.YtcmhgpgookiomaaGreatM07
import Derived.Test.YtcmhgpgookiomaaGreatRows
import Derived.Lib.AppendStr
import Derived.Maps.OwnSet
import Derived.Maps.Ext
import Derived.DeepKeys5
import Derived.ProofKit
import Derived.Carry
import Derived.Laws.Tables
import Derived.Laws.IdiomStrings
namespace Go.Proofs.YtcmhgpgookiomaaGreat
open Go.RowKit Go.Shelf

attribute [local go_sem] Oper.semAt_some

/-- A tape's block; its draws lie in a block that nobody turns. -/
def TapeX (B : Nat) (k : Nat) (o : Obj) : Prop := k = B ∧ ∃ cur, o = .cells cur 69 (0, 0)
structure TapeAt (w : World) (B : Nat) (t : By) (v : Value) : Prop where
  box : Arr w B 69 [v]
  row : ∃ a c, v = .slice a t.length c ∧ Row 1 w a t.length c (t.map u8v) ∧ ∀ p, a = some p → ∃ cur, w.heap[p.block]? = some (.cells cur 5 (0, 0))
theorem TapeAt.keep {X : Nat → Obj → Prop} {w w' : World} {B : Nat} {t : By} {v : Value} (h : TapeAt w B t v) (hk : Keep X w w') (h1 : ∀ cur, ¬ X B (.cells cur 69 (0, 0))) (h2 : ∀ k cur, ¬ X k (.cells cur 5 (0, 0))) : TapeAt w' B t v := by
  obtain ⟨a, c, rfl, hr, ha⟩ := h.row
  refine ⟨h.box.keep hk (h1 _), a, c, rfl, hr.keep hk (fun p o hp ho _ hx => ?_), fun p hp => ?_⟩
  · obtain ⟨cur, hc⟩ := ha p hp
    rw [hc] at ho; cases ho
    exact h2 _ _ hx
  · obtain ⟨cur, hc⟩ := ha p hp
    exact ⟨cur, hk.block _ _ hc (h2 _ _)⟩
theorem TapeAt.ext {w w' : World} {B : Nat} {t : By} {v : Value} (h : TapeAt w B t v) (hk : Ext w w') : TapeAt w' B t v := h.keep hk (fun _ h => h) (fun _ _ h => h)

theorem left_any {w : World} {B : Nat} {t : By} {v : Value} (h : TapeAt w B t v) : Calls Tryz.prog 106 #[.pointer (some ⟨B, 0, none⟩)] w fun e w' => e = .returned (.int .i64 (t.length : Int)) ∧ w' = w := by
  obtain ⟨a, c, rfl, hr, _⟩ := h.row
  have c0 := h.box.cell (i := 0) rfl
  refine calls_cps fun R hR => ?_
  clear h hr
  go_enter Tryz.func106, Tryz.ntmps106
  go_wp2

theorem slice_to (b off N c n : Nat) (hn : n ≤ N) (hc : N ≤ c) (w : World) : (Instr.sliceAt 26 (.slice (some ⟨b, off, none⟩) N c) none (some (.int .i64 (n : Int))) (some (.int .i64 (n : Int)))).run Tryz.prog w = .ok (.slice (some ⟨b, off, none⟩) n n) w := by
  have h1 : n ≤ c := by omega
  simp [Instr.sliceAt, Instr.slice, Instr.sliceBounds, Instr.sliceBound, Result.andThen, asIntOf, h1, addr_add]
theorem slice_off (a : Option Addr) (len c j : Nat) (hj : j ≤ len) (w : World) : (Instr.sliceAt 26 (.slice a len c) (some (.int .i64 (j : Int))) none none).run Tryz.prog w = .ok (.slice (if c = j then a else Option.map (fun x => x.add j) a) (len - j) (c - j)) w := by
  simp [Instr.sliceAt, Instr.slice, Instr.sliceBounds, Instr.sliceBound, Result.andThen, asIntOf, hj]

set_option maxHeartbeats 2000000 in
/-- A draw of n bytes. -/
theorem take_any {w : World} {B : Nat} {t : By} {v : Value} (h : TapeAt w B t v) (n : Nat) (hn : 0 < n) (hn2 : n ≤ 1000) (ht : t.length ≤ 1000000) :
    Calls Tryz.prog 92 #[.pointer (some ⟨B, 0, none⟩), .int .i64 (n : Int)] w fun e w' =>
      (t.length < n → e = .returned (.tuple #[.slice none 0 0, .int .i64 60]) ∧ w' = w) ∧
      (n ≤ t.length → ∃ a c v', e = .returned (.tuple #[.slice a n c, .int .i64 0]) ∧ w'.ownsRow w.heap.size 5 1 (.slice a n c) n ((t.take n).map u8v) ∧ TapeAt w' B (t.drop n) v' ∧ Keep (TapeX B) w w') := by
  have hleft := left_any h
  refine calls_cps fun R hR => ?_
  have HH := Lib.hid h
  obtain ⟨N, hN⟩ : ∃ N, t.length = N := ⟨_, rfl⟩
  rw [hN] at hleft ht
  have HN := Lib.hid hN
  clear h hN
  have h0 : ¬ ((n : Int) < 0) := by omega
  have h00 : ((n : Int) == 0) = false := by simp; omega
  by_cases hlt : N < n
  · have hb : (N : Int) < (n : Int) := by omega
    have hRR : R (.returned (.tuple #[.slice none 0 0, .int .i64 60])) w := hR _ _ ⟨fun _ => ⟨rfl, rfl⟩, fun h => by have := HN.out; omega⟩
    clear hR
    go_enter Tryz.func92, Tryz.ntmps92
    go_wp2_with fail
    refine hleft.mono ?_
    rintro e w' ⟨rfl, rfl⟩
    go_wp2
    exact hRR
  · have hb : ¬ ((N : Int) < (n : Int)) := by omega
    obtain ⟨a, c, rfl, hr, ha⟩ := HH.out.row
    rw [HN.out] at hr HH
    have hnc := hr.1
    have hcm := hr.2.1
    unfold maxLen at hcm
    obtain ⟨b, off, rfl, hcell⟩ := hr.2.2.2.2 (by omega)
    have c0 := HH.out.box.cell (i := 0) rfl
    have hr1 : Row 1 w (some ⟨b, off, none⟩) n n ((t.take n).map u8v) := ⟨Nat.le_refl _, by unfold maxLen; omega, by rw [List.length_map, List.length_take, HN.out]; omega, by simp, fun _ => ⟨b, off, rfl, fun i u hu => hcell i u (by
      rw [List.map_take, List.getElem?_take] at hu
      split at hu
      · exact hu
      · cases hu)⟩⟩
    have s1 := slice_to b off N c n (by omega) hnc w
    obtain ⟨v', w', hrun, hown, hgrow, _⟩ := run_append_row (P := Tryz.prog) w w.heap.size 26 26 5 (.int .u8 0) 1 1 Tryz.underlying26 info_u8 rfl (by decide) (World.ownsRow_nil w w.heap.size 5 1) hr1 (u8v_one _) (by unfold maxLen; omega) (by omega) (Nat.le_refl _)
    rw [Nat.zero_add, List.nil_append] at hown
    obtain ⟨a', c', rfl, _⟩ := owns_row hown
    have hE : Ext w w' := (Keep.of_grownBy hgrow (fun k o hk ho => by simp [Value.ownBlock] at hk) : Keep (fun _ _ => False) w w')
    have hT := HH.out.ext hE
    have c1 := hT.box.cell (i := 0) rfl
    have f1 := hT.box.frozen 0
    have s2 := slice_off (some ⟨b, off, none⟩) N c n (by omega) w'
    obtain ⟨y, hy⟩ : ∃ y, (if c = n then some (⟨b, off, none⟩ : Addr) else Option.map (fun x => x.add n) (some (⟨b, off, none⟩ : Addr))) = y := ⟨_, rfl⟩
    rw [hy] at s2
    have hcut := (hr.ext hE).cut (lo := n) (hi := N) (by omega) (Nat.le_refl _)
    rw [Nat.mul_one, hy] at hcut
    have hkB : Keep (TapeX B) w' (w'.setCell ⟨B, 0, none⟩ (.slice y (N - n) (c - n))) := (Keep.refl _ _).setCell _ _ (fun o ho => ⟨rfl, by
      have := hT.box
      unfold Arr at this
      rw [show w'.heap[B]? = _ from this] at ho; cases ho; exact ⟨_, rfl⟩⟩)
    have hfin : TapeAt (w'.setCell ⟨B, 0, none⟩ (.slice y (N - n) (c - n))) B (t.drop n) (.slice y (N - n) (c - n)) := by
      have hl : (t.drop n).length = N - n := by rw [List.length_drop, HN.out]
      refine ⟨hT.box.set 0 _, y, c - n, by rw [hl], ?_, fun p hp => ?_⟩
      · rw [hl]
        have e : ((t.map u8v).drop n).take (N - n) = (t.drop n).map u8v := by rw [← List.map_drop, List.take_of_length_le (by simp [HN.out])]
        rw [Nat.mul_one, e] at hcut
        refine hcut.keep hkB (fun p o hp ho _ hx => ?_)
        have hpb : p.block = b := by
          rw [← hy] at hp
          split at hp
          · cases hp; rfl
          · simp at hp; rw [← hp, addr_add]
        obtain ⟨cur, hc⟩ := ha _ rfl
        have := hE.block _ _ hc (fun h => h)
        obtain ⟨_, cur', hx⟩ := hx
        rw [hpb, show w'.heap[b]? = _ from this] at ho; cases ho; cases hx
      · have hpb : p.block = b := by
          rw [← hy] at hp
          split at hp
          · cases hp; rfl
          · simp at hp; rw [← hp, addr_add]
        obtain ⟨cur, hc⟩ := ha _ rfl
        have := hE.block _ _ hc (fun h => h)
        refine ⟨cur, ?_⟩
        rw [hpb]
        exact hkB.block _ _ this (fun hx => by obtain ⟨_, _, hx⟩ := hx; cases hx)
    have hown2 := hkB.owns' hown (fun k cur hk hx => by obtain ⟨_, _, hx⟩ := hx; cases hx)
    have hRR : R (.returned (.tuple #[.slice a' n c', .int .i64 0])) (w'.setCell ⟨B, 0, none⟩ (.slice y (N - n) (c - n))) := hR _ _ ⟨fun h => by have := HN.out; omega, fun _ => ⟨a', c', _, rfl, hown2, hfin, (Keep.of_ext hE).trans hkB⟩⟩
    have Hrun := Lib.hid hrun
    clear hR hrun hown hown2 hfin hkB hcut hT hE hgrow hr1 hcell hr ha HH hy
    go_enter Tryz.func92, Tryz.ntmps92
    go_wp2_with fail
    refine hleft.mono ?_
    rintro e w' ⟨rfl, rfl⟩
    clear hleft
    go_wp2_with (at_builtin; go_must (refine wpList_append_run Hrun.out rfl rfl rfl rfl ?_))
    exact hRR
end Go.Proofs.YtcmhgpgookiomaaGreat
namespace Go.Proofs.YtcmhgpgookiomaaGreat
open Go.RowKit Go.Shelf

attribute [local go_sem] Oper.semAt_some

theorem Keep.or {X Y : Nat → Obj → Prop} {A B C : World} (h : Keep X A B) (k : Keep Y B C) : Keep (fun i o => X i o ∨ Y i o) A C := (h.mono (fun _ _ _ h => .inl h)).trans (k.mono (fun _ _ _ h => .inr h))
theorem all_one (l : List UInt8) : (l.map u8v).toArray.all (·.oneCell') = true := by
  rw [List.all_toArray, List.all_eq_true]; exact u8v_one l
theorem results_cell_slot {P : Program} {fn : Func} {p q : Tmp} {ty : TypeId} (h : fn.results = #[.cell p ty, .tmp q]) (tmps : Array Value) (w : World) (g : Nat) (t : TypeId) (cs : Array Value) (fr : Nat × Nat) (d : TypeDesc) (v : Value)
    (hp : tmps.getD p undef = .pointer (some ⟨g, 0, none⟩)) (hq : tmps.getD q undef = v) (hg : w.heap[g]? = some (.cells cs t fr))
    (hu : P.underlying ty = some d) (hd : (match d with | .struct _ | .array _ _ => true | _ => false) = true) (hi : (P.info? ty).map (·.size) = some cs.size) :
    (results fn tmps).run P w = .ok (.tuple #[.agg cs, v]) w := by
  have hp' : tmps[p]?.getD undef = .pointer (some ⟨g, 0, none⟩) := by simpa using hp
  have hq' : tmps[q]?.getD undef = v := by simpa using hq
  simp [results, h, hp', hq', asAddr, run_loadVar_row w g t ty cs fr d hg hu hd hi]
/-- A key as a value. -/
def aggK (l : By) : Value := .agg (l.map u8v).toArray
theorem info_key : (Tryz.prog.info? 51).map (·.size) = some 32 := by kernel_rfl
theorem array_key (a : Addr) (c : Nat) (w : World) : (Instr.arrayAt 51 (.slice (some a) 32 c)).run Tryz.prog w = .ok (.pointer (some a)) w := by
  simp [Instr.arrayAt, Result.andThen]

set_option maxRecDepth 20000 in
set_option maxHeartbeats 2000000 in
theorem key_any {w : World} {B : Nat} {t : By} {v : Value} (h : TapeAt w B t v) (ht : t.length ≤ 1000000) :
    Calls Tryz.prog 77 #[.pointer (some ⟨B, 0, none⟩)] w fun e w' =>
      (t.length < 32 → e = .returned (.tuple #[aggK key0, .int .i64 60]) ∧ Ext w w') ∧
      (32 ≤ t.length → ∃ v', e = .returned (.tuple #[aggK (t.take 32), .int .i64 0]) ∧ TapeAt w' B (t.drop 32) v' ∧ Keep (TapeX B) w w') := by
  have hk := fun A (hE : Ext w A) => (take_any (h.ext hE) 32 (by omega) (by omega) ht).mono (fun e w' (hq : _ ∧ _) => (⟨fun hl => ⟨(hq.1 hl).1, by rw [(hq.1 hl).2]; exact Keep.refl _ _⟩, hq.2⟩ : (t.length < 32 → e = .returned (.tuple #[.slice none 0 0, .int .i64 60]) ∧ Ext A w') ∧ _))
  unfold aggK
  have hB := h.box.lt
  obtain ⟨zz, hzz⟩ : ∃ z, key0.map u8v = z := ⟨_, rfl⟩
  have HZ := Lib.hid (show (List.replicate 32 (.int .u8 0) : List Value) = zz by rw [← hzz]; rfl)
  have HO := Lib.hid (show zz.toArray.all (·.oneCell') = true by rw [← hzz]; exact all_one _)
  have HZs := Lib.hid (show (Tryz.prog.info? 51).map (·.size) = some zz.toArray.size by rw [info_key, ← hzz]; rfl)
  have HZ64 := Lib.hid (show zz.toArray.size = 32 by rw [← hzz]; rfl)
  rw [hzz]
  clear h hzz
  refine calls_cps fun R hR => ?_
  have HR := Lib.hid hR
  clear hR
  go_enter Tryz.func77, Tryz.ntmps77
  go_wp2_with fail
  refine (hk _ ((Keep.refl _ w).alloc _)).mono ?_
  rintro e w1 ⟨hlo, hhi⟩
  clear hk
  by_cases hl : t.length < 32
  · obtain ⟨rfl, e1⟩ := hlo hl
    have hZ : Arr w1 w.heap.size 51 (List.replicate 32 (.int .u8 0)) := (Arr.new w _ (List.replicate 32 (.int .u8 0))).ext e1
    have hE : Ext w w1 := ((Keep.refl _ w).alloc _).trans e1
    rw [HZ.out] at hZ
    have hRR := fun w' (hE : Ext w w') => HR.out (.returned (.tuple #[.agg zz.toArray, .int .i64 60])) w' ⟨fun _ => ⟨rfl, hE⟩, fun h => by omega⟩
    clear hlo hhi HR e1
    go_wp2_with (refine wpList_store_row ?_ 51 (.tmp 2) (.tmp 13) ?_ w.heap.size (List.replicate 32 (.int .u8 0)).toArray ?_ ?_ 51 zz.toArray ?_ (by rw [HZ.out]; exact HZs.out) (by rw [HZ.out]) (by rw [HZ.out]; exact HO.out) ?_; rfl; rfl; rfl; rfl; exact hZ)
    have h2 := hZ.setRow (List.replicate 32 (.int .u8 0))
    unfold Arr at h2
    rw [show (some (Obj.cells (List.replicate 32 (.int .u8 0)).toArray 51 (0, 0)) : Option Obj) = some (Obj.cells zz.toArray 51 (0, 0)) by rw [HZ.out]] at h2
    exact bodyPost_ret (results_cell_slot rfl _ _ w.heap.size 51 zz.toArray (0, 0) _ (.int .i64 60) rfl rfl h2 Tryz.underlying51 rfl HZs.out) rfl (hRR _ (((Keep.of_ext hE).trans (keep_setRow w1 w.heap.size _)).mono (fun k o ho hx => by have := Keep.lt ho; omega)))
  · obtain ⟨a, c, v', rfl, hown, hT, e1⟩ := hhi (by omega)
    have hZ : Arr w1 w.heap.size 51 (List.replicate 32 (.int .u8 0)) := (Arr.new w _ (List.replicate 32 (.int .u8 0))).keep e1 (fun hx => by obtain ⟨_, _, hx⟩ := hx; cases hx)
    have hE : Keep (TapeX B) w w1 := (Keep.of_ext ((Keep.refl _ w).alloc _)).trans e1
    rw [HZ.out] at hZ
    obtain ⟨O, hO⟩ : ∃ O, (t.take 32).map u8v = O := ⟨_, rfl⟩
    have hOl : O.length = 32 := by rw [← hO, List.length_map, List.length_take]; omega
    have HO1 := Lib.hid (show O.toArray.all (·.oneCell') = true by rw [← hO]; exact all_one _)
    have HOs := Lib.hid (show (Tryz.prog.info? 51).map (·.size) = some O.length by rw [info_key, hOl])
    have HOz := Lib.hid (show zz.toArray.size = O.toArray.size by rw [HZ64.out, List.size_toArray, hOl])
    rw [hO] at hown HR
    obtain ⟨_, _, q, hrow⟩ := owns_row hown
    cases q
    obtain ⟨b5, o5, rfl, _⟩ := hrow.2.2.2.2 (by omega)
    have HLD := Lib.hid (show (loadCellsFrom ⟨b5, o5, none⟩ 0 O.length #[]).run Tryz.prog w1 = .ok O.toArray w1 by rw [hOl]; exact hrow.loads (by omega))
    have har := array_key ⟨b5, o5, none⟩ c w1
    have hkS : Keep (fun k o => k = w.heap.size ∧ ∃ cur, o = .cells cur 51 (0, 0)) w1 (w1.setRow w.heap.size O.toArray) := (keep_setRow w1 w.heap.size O.toArray).mono (fun k o ho hx => ⟨hx, by
      subst hx
      rw [show w1.heap[w.heap.size]? = _ from hZ] at ho; cases ho; exact ⟨_, rfl⟩⟩)
    have hRR := HR.out (.returned (.tuple #[.agg O.toArray, .int .i64 0])) (w1.setRow w.heap.size O.toArray) ⟨fun h => by omega, fun _ => ⟨v', rfl, hT.keep hkS (fun _ hx => by have := hx.1; omega) (fun _ _ hx => by obtain ⟨_, _, hx⟩ := hx; cases hx), (Keep.or hE hkS).mono (fun k o ho hx => by rcases hx with hx | hx; exact hx; have := Keep.lt ho; have := hx.1; omega)⟩⟩
    clear hlo hhi HR hown hrow hkS e1 hO
    go_wp2_with (first | (refine wpList_load_cells ?_ 51 (.tmp 16) ?_ ⟨b5, o5, none⟩ ?_ O _ ?_ Tryz.underlying51 rfl HOs.out ?_; rfl; rfl; rfl; exact HLD.out) | (refine wpList_store_row ?_ 51 (.tmp 2) (.tmp 17) ?_ w.heap.size O.toArray ?_ ?_ 51 zz.toArray ?_ HOs.out HOz.out HO1.out ?_; rfl; rfl; rfl; rfl; exact hZ))
    exact bodyPost_ret (results_cell_slot rfl _ _ w.heap.size 51 O.toArray (0, 0) _ (.int .i64 0) rfl rfl (hZ.setRow O) Tryz.underlying51 rfl HOs.out) rfl hRR
end Go.Proofs.YtcmhgpgookiomaaGreat
namespace Go.Proofs.YtcmhgpgookiomaaGreat
open Go.RowKit Go.Shelf Go.Maps

attribute [local go_sem] Oper.semAt_some

/-- A value reads as itself. -/
def hv (v : Value) : Option (DataW Value × List MemPlace) := some (.held v, [])
/-- Block B is a map of at most n entries: S says what it holds at a key's letters. -/
def KMap (P : Program) (k : TypeId) (w : World) (B n : Nat) (S : Lit → Option Value) : Prop :=
  ∃ D : DataW Value, w.ownsMap P k hv B n D ∧ IsMap D ∧ ∀ l z, Maps.has D l = (S l).isSome ∧ D.atKey l (.held z) = .held ((S l).getD z)
open Classical in
/-- Another value at a key. -/
noncomputable def updS (S : Lit → Option Value) (kl : Lit) (v : Option Value) : Lit → Option Value := fun l => if l = kl then v else S l
theorem updS_same (S : Lit → Option Value) (kl : Lit) (v : Option Value) : updS S kl v kl = v := if_pos rfl
theorem updS_other (S : Lit → Option Value) {kl l : Lit} (v : Option Value) (h : l ≠ kl) : updS S kl v l = S l := if_neg h
section
variable {P : Program} {t k e : TypeId} {w : World} {B n : Nat} {S : Lit → Option Value}
theorem KMap.made (P : Program) (k : TypeId) (w : World) : KMap P k (w.alloc (.map #[] 0)) w.heap.size 0 (fun _ => none) := ⟨_, World.ownsMap_made _ _ _ _, isMap_empty, fun _ _ => ⟨rfl, rfl⟩⟩
theorem KMap.block {X : Nat → Obj → Prop} {w' : World} (h : KMap P k w B n S) (hk : Keep X w w') (hX : ∀ es c, ¬ X B (.map es c)) : KMap P k w' B n S := by
  obtain ⟨D, ⟨es, clock, hb, rest⟩, h2⟩ := h
  exact ⟨D, ⟨es, clock, hk.block B _ hb (hX _ _), rest⟩, h2⟩
theorem KMap.ext {w' : World} (h : KMap P k w B n S) (hk : Ext w w') : KMap P k w' B n S := h.block hk (fun _ _ h => h)
theorem KMap.lt (h : KMap P k w B n S) : B < w.heap.size := by obtain ⟨D, h1, _⟩ := h; exact h1.lt
theorem KMap.look (h : KMap P k w B n S) (K : Keyed P k) (ht : P.underlying t = some (.map k e)) {z : Value} (hz : (zeroValue e).run P w = .ok z w) {key : Value} {kl : Lit} (hkey : keyOf P k key = some kl) :
    (Instr.lookup t (.map (some B)) key true).run P w = .ok (.tuple #[(S kl).getD z, .bool (S kl).isSome]) w := by
  obtain ⟨D, h1, _, h3⟩ := h
  obtain ⟨v, ps, hrun, hv'⟩ := h1.look_ok K ht hz (show hv z = some (.held z, []) from rfl) hkey
  rw [(h3 kl z).2] at hv'
  simp only [hv, Option.some.injEq, Prod.mk.injEq, DataW.held.injEq] at hv'
  rw [hrun, (h3 kl z).1, hv'.1]
theorem KMap.look1 (h : KMap P k w B n S) (K : Keyed P k) (ht : P.underlying t = some (.map k e)) {z : Value} (hz : (zeroValue e).run P w = .ok z w) {key : Value} {kl : Lit} (hkey : keyOf P k key = some kl) :
    (Instr.lookup t (.map (some B)) key false).run P w = .ok ((S kl).getD z) w := by
  obtain ⟨D, h1, _, h3⟩ := h
  obtain ⟨v, ps, hrun, hv'⟩ := h1.lookup K ht hz (show hv z = some (.held z, []) from rfl) hkey
  rw [(h3 kl z).2] at hv'
  simp only [hv, Option.some.injEq, Prod.mk.injEq, DataW.held.injEq] at hv'
  rw [hrun, hv'.1]
theorem KMap.put (h : KMap P k w B n S) (K : Keyed P k) (ht : P.underlying t = some (.map k e)) (hn : n < maxLen) {key v : Value} {kl : Lit} (hkey : keyOf P k key = some kl) :
    ∃ w', (Instr.mapUpdate t (.map (some B)) key v).run P w = .ok () w' ∧ KMap P k w' B (n + 1) (updS S kl (some v)) ∧ w.grownBy w' (some B) := by
  obtain ⟨D, h1, h2, h3⟩ := h
  obtain ⟨w', hrun, h4, h5⟩ := h1.update K ht hn hkey (show hv v = some (.held v, []) from rfl)
  refine ⟨w', hrun, ⟨_, h4, h2.put _ _, fun l z => ?_⟩, h5⟩
  by_cases hj : l = kl
  · subst hj
    rw [updS_same, has_put_same h2 (K.key hkey), atKey_put_same h2 (K.key hkey)]
    exact ⟨rfl, rfl⟩
  · rw [updS_other _ _ hj, has_put_other hj, atKey_put_other hj]
    exact h3 l z
theorem KMap.del (h : KMap P k w B n S) (K : Keyed P k) (ht : P.underlying t = some (.map k e)) {key : Value} {kl : Lit} (hkey : keyOf P k key = some kl) (ty : TypeId) :
    ∃ w', (Builtin.delete_ #[t, k] ty #[.map (some B), key]).run P w = .ok (.tuple #[]) w' ∧ KMap P k w' B n (updS S kl none) ∧ w.mapTurned w' B := by
  obtain ⟨D, h1, h2, h3⟩ := h
  obtain ⟨w', hrun, h4, h5⟩ := h1.drop K ht hkey ty
  refine ⟨w', hrun, ⟨_, h4, h2.del _, fun l z => ?_⟩, h5⟩
  by_cases hj : l = kl
  · subst hj
    rw [updS_same, has_del_same, atKey_del_same]
    exact ⟨rfl, rfl⟩
  · rw [updS_other _ _ hj, has_del_other hj, atKey_del_other hj]
    exact h3 l z
end
end Go.Proofs.YtcmhgpgookiomaaGreat
namespace Go.Proofs.YtcmhgpgookiomaaGreat
open Go.RowKit Go.Shelf Go.Maps

attribute [local go_sem] Oper.semAt_some

theorem laidTp : laidOutB Tryz.prog = true := by kernel_rfl
theorem law_u32 : Keyed Tryz.prog 22 := int_keyed Tryz.underlying22
theorem law_pair : Keyed Tryz.prog 149 := Keyed.of_law (deep_law_laid laidTp (m := 3) (by omega) (of_decide_eq_true (by kernel_rfl)) (by kernel_rfl) (by kernel_rfl))
theorem law_ask : Keyed Tryz.prog 216 := Keyed.of_law (deep_law_laid laidTp (m := 4) (by omega) (of_decide_eq_true (by kernel_rfl)) (by kernel_rfl) (by kernel_rfl))
theorem law_given : Keyed Tryz.prog 189 := Keyed.of_law (deep_law_laid laidTp (m := 4) (by omega) (of_decide_eq_true (by kernel_rfl)) (by kernel_rfl) (by kernel_rfl))
end Go.Proofs.YtcmhgpgookiomaaGreat
namespace Go.Proofs.YtcmhgpgookiomaaGreat
open Go.RowKit Go.Shelf Go.Maps

attribute [local go_sem] Oper.semAt_some

theorem mapM_ex {α β : Type} {f : α → Option β} : ∀ {l : List α}, (∀ x ∈ l, ∃ y, f x = some y) → ∃ ys, l.mapM f = some ys
  | [], _ => ⟨[], rfl⟩
  | x :: l, h => by
    obtain ⟨y, hy⟩ := h x (List.mem_cons_self ..)
    obtain ⟨ys, hys⟩ := mapM_ex (l := l) (fun z hz => h z (List.mem_cons_of_mem _ hz))
    exact ⟨y :: ys, by rw [List.mapM_cons, hy, hys]; rfl⟩
theorem size_types : ∃ m, Tryz.prog.types.size + 1 = m + 4 := ⟨Tryz.prog.types.size - 3, by
  have : 3 ≤ Tryz.prog.types.size := of_decide_eq_true (by kernel_rfl)
  omega⟩
theorem cells_u8 : Tryz.prog.cellsOf 5 = 1 := by kernel_rfl
theorem cells_key : Tryz.prog.cellsOf 51 = 32 := by kernel_rfl
theorem lits_u8 (m : Nat) (b : UInt8) : ∃ L, Tryz.prog.keyLits (m + 1) 5 [u8v b] = some L := by
  unfold Program.keyLits
  rw [Tryz.underlying5]
  unfold u8v
  refine ⟨[.int .u8 (b.toNat : Int)], if_pos ⟨rfl, ?_⟩⟩
  have := b.toNat_lt
  exact WalkArith.wf_u8 (by omega)
theorem lits_key (m : Nat) (l : By) (h : l.length = 32) : ∃ L, Tryz.prog.keyLits (m + 2) 51 (l.map u8v) = some L := by
  unfold Program.keyLits
  rw [Tryz.underlying51]
  simp only [cells_u8, cells_key]
  rw [if_pos (by rw [List.length_map]; exact h)]
  obtain ⟨ys, hys⟩ := mapM_ex (f := fun i => Tryz.prog.keyLits (m + 1) 5 (((l.map u8v).drop (i * 1)).take 1)) (l := List.range 32) (fun i hi => by
    have hi' : i < l.length := by rw [h]; exact List.mem_range.1 hi
    have : ((l.map u8v).drop (i * 1)).take 1 = [u8v l[i]] := by
      rw [Nat.mul_one, List.drop_eq_getElem_cons (by simpa using hi'), List.take_succ_cons, List.take_zero, List.getElem_map]
    rw [this]
    exact lits_u8 m _)
  rw [hys]
  exact ⟨_, rfl⟩
theorem lits_int (m : Nat) : ∃ L, Tryz.prog.keyLits (m + 1) 3 [.int .i64 2] = some L := by
  unfold Program.keyLits
  rw [Tryz.underlying3]
  exact ⟨[.int .i64 2], if_pos ⟨rfl, by decide⟩⟩
theorem lits_str (m : Nat) (x : ByteArray) (h : x.size ≤ maxLen) : ∃ L, Tryz.prog.keyLits (m + 1) 9 [.string x] = some L := by
  unfold Program.keyLits
  rw [Tryz.underlying9]
  exact ⟨[.string x.data.toList], if_pos h⟩
theorem cells_int : Tryz.prog.cellsOf 3 = 1 := by kernel_rfl
theorem cells_str : Tryz.prog.cellsOf 9 = 1 := by kernel_rfl
theorem cells_ask : Tryz.prog.cellsOf 216 = 35 := by kernel_rfl
theorem cells_given : Tryz.prog.cellsOf 189 = 34 := by kernel_rfl
theorem kt_ask : Tryz.prog.keyType 216 = true := by kernel_rfl
theorem kt_given : Tryz.prog.keyType 189 = true := by kernel_rfl
/-- The question of a wrap, and its answer's. -/
def askC (kek k : By) : List Value := [.int .i64 2] ++ kek.map u8v ++ [.string ⟨#[119, 114, 97, 112]⟩, .string ⟨k.toArray⟩]
def askV (kek k : By) : Value := .agg (askC kek k).toArray
def givenC (kek ct : By) : List Value := kek.map u8v ++ [.string ⟨#[119, 114, 97, 112]⟩, .string ⟨ct.toArray⟩]
def givenV (kek ct : By) : Value := .agg (givenC kek ct).toArray
theorem ask_lit (kek k : By) (h : kek.length = 32) (hk : k.length ≤ 1000) : ∃ l, keyOf Tryz.prog 216 (askV kek k) = some l := by
  obtain ⟨m, hm⟩ := size_types
  have hsz : (⟨k.toArray⟩ : ByteArray).size ≤ maxLen := by unfold maxLen; simp [ByteArray.size]; omega
  have hlen : (askC kek k).length = 35 := by simp [askC, h]
  have hf : (askV kek k).formed Tryz.prog 216 = true := by
    unfold Value.formed askV
    rw [Tryz.underlying216]
    simp [cells_ask, hlen]
  have hl : ∃ L, Tryz.prog.keyLits (m + 4) 216 (askV kek k).cells.toList = some L := by
    have hc : (askV kek k).cells.toList = askC kek k := by simp [askV, Value.cells]
    rw [hc]
    unfold Program.keyLits
    rw [Tryz.underlying216]
    simp only [cells_ask]
    rw [if_pos ⟨hlen, by simp⟩]
    obtain ⟨L1, e1⟩ := lits_int (m + 2)
    obtain ⟨L2, e2⟩ := lits_key (m + 1) kek h
    obtain ⟨L3, e3⟩ := lits_str (m + 2) ⟨#[119, 114, 97, 112]⟩ (by decide)
    obtain ⟨L4, e4⟩ := lits_str (m + 2) ⟨k.toArray⟩ hsz
    have d1 : (askC kek k).take 1 = [.int .i64 2] := by simp [askC]
    have d2 : (askC kek k).tail.take 32 = kek.map u8v := by simp [askC, h]
    have d3 : ((askC kek k).drop 33).take 1 = [.string ⟨#[119, 114, 97, 112]⟩] := by simp [askC, h]
    have d4 : ((askC kek k).drop 34).take 1 = [.string ⟨k.toArray⟩] := by simp [askC, h, List.drop_append, List.drop_of_length_le (l := kek.map u8v) (i := 33) (by simp [h])]
    simp [List.mapM_cons, cells_int, cells_key, cells_str, d1, d2, d3, d4, e1, e2, e3, e4]
  obtain ⟨L, hL⟩ := hl
  unfold keyOf
  rw [Tryz.underlying216, hm]
  simp only [kt_ask, hf, Bool.and_self, if_true, hL]
  exact ⟨_, rfl⟩
theorem given_lit (kek ct : By) (h : kek.length = 32) (hk : ct.length ≤ 1000) : ∃ l, keyOf Tryz.prog 189 (givenV kek ct) = some l := by
  obtain ⟨m, hm⟩ := size_types
  have hsz : (⟨ct.toArray⟩ : ByteArray).size ≤ maxLen := by unfold maxLen; simp [ByteArray.size]; omega
  have hlen : (givenC kek ct).length = 34 := by simp [givenC, h]
  have hf : (givenV kek ct).formed Tryz.prog 189 = true := by
    unfold Value.formed givenV
    rw [Tryz.underlying189]
    simp [cells_given, hlen]
  have hl : ∃ L, Tryz.prog.keyLits (m + 4) 189 (givenV kek ct).cells.toList = some L := by
    have hc : (givenV kek ct).cells.toList = givenC kek ct := by simp [givenV, Value.cells]
    rw [hc]
    unfold Program.keyLits
    rw [Tryz.underlying189]
    simp only [cells_given]
    rw [if_pos ⟨hlen, by simp⟩]
    obtain ⟨L2, e2⟩ := lits_key (m + 1) kek h
    obtain ⟨L3, e3⟩ := lits_str (m + 2) ⟨#[119, 114, 97, 112]⟩ (by decide)
    obtain ⟨L4, e4⟩ := lits_str (m + 2) ⟨ct.toArray⟩ hsz
    have d2 : (givenC kek ct).take 32 = kek.map u8v := by simp [givenC, h]
    have d3 : ((givenC kek ct).drop 32).take 1 = [.string ⟨#[119, 114, 97, 112]⟩] := by simp [givenC, h]
    have d4 : ((givenC kek ct).drop 33).take 1 = [.string ⟨ct.toArray⟩] := by simp [givenC, h, List.drop_append, List.drop_of_length_le (l := kek.map u8v) (i := 33) (by simp [h])]
    simp [List.mapM_cons, cells_key, cells_str, d2, d3, d4, e2, e3, e4]
  obtain ⟨L, hL⟩ := hl
  unfold keyOf
  rw [Tryz.underlying189, hm]
  simp only [kt_given, hf, Bool.and_self, if_true, hL]
  exact ⟨_, rfl⟩
end Go.Proofs.YtcmhgpgookiomaaGreat
namespace Go.Proofs.YtcmhgpgookiomaaGreat
open Go.RowKit Go.Shelf Go.Maps

attribute [local go_sem] Oper.semAt_some

def strV (l : By) : Value := .string ⟨l.toArray⟩
/-- What a suite's operations turn. -/
def SuiteX (TB A PL : Nat) (k : Nat) (o : Obj) : Prop := TapeX TB k o ∨ ((k = A ∨ k = PL) ∧ ∃ es c, o = .map es c)
def suiteC (TB A PL b3 b4 : Nat) : List Value := [.int .i64 1, .pointer (some ⟨TB, 0, none⟩), .map (some A), .map (some PL), .map (some b3), .map (some b4), .slice none 0 0, .slice none 0 0, .bool false, .bool true]
/-- An ideal suite that was asked for wraps alone. -/
structure SuiteAt (w : World) (Q TB A PL : Nat) (s : SSt) : Prop where
  box : ∃ b3 b4, Arr w Q 67 (suiteC TB A PL b3 b4)
  tape : ∃ v, TapeAt w TB s.tape v
  ans : ∃ S n, KMap Tryz.prog 216 w A n S ∧ n + s.tape.length ≤ 40000 ∧ ∀ kek k l, kek.length = 32 → k.length = 32 → keyOf Tryz.prog 216 (askV kek k) = some l → S l = (s.ans kek k).map strV
  pl : ∃ S n, KMap Tryz.prog 189 w PL n S ∧ n + s.tape.length ≤ 40000 ∧ ∀ kek ct l, kek.length = 32 → ct.length = 108 → keyOf Tryz.prog 189 (givenV kek ct) = some l → S l = (s.pl kek ct).map strV
  ne : A ≠ PL
  la : ∀ kek k ct, s.ans kek k = some ct → ct.length = 108
  lp : ∀ kek ct k, s.pl kek ct = some k → k.length = 32
  lt : s.tape.length ≤ 32000
section
variable {w w' : World} {Q TB A PL : Nat} {s : SSt}
theorem SuiteAt.keep {X : Nat → Obj → Prop} (h : SuiteAt w Q TB A PL s) (hk : Keep X w w') (h1 : ∀ cur, ¬ X Q (.cells cur 67 (0, 0))) (h2 : ∀ cur, ¬ X TB (.cells cur 69 (0, 0))) (h3 : ∀ k cur, ¬ X k (.cells cur 5 (0, 0)))
    (h4 : ∀ es c, ¬ X A (.map es c)) (h5 : ∀ es c, ¬ X PL (.map es c)) : SuiteAt w' Q TB A PL s := by
  obtain ⟨b3, b4, hb⟩ := h.box
  obtain ⟨v, ht⟩ := h.tape
  obtain ⟨S, n, a1, a2, a3⟩ := h.ans
  obtain ⟨S', n', p1, p2, p3⟩ := h.pl
  exact ⟨⟨b3, b4, hb.keep hk (h1 _)⟩, ⟨v, ht.keep hk h2 h3⟩, ⟨S, n, a1.block hk h4, a2, a3⟩, ⟨S', n', p1.block hk h5, p2, p3⟩, h.ne, h.la, h.lp, h.lt⟩
theorem SuiteAt.ext (h : SuiteAt w Q TB A PL s) (hk : Ext w w') : SuiteAt w' Q TB A PL s := h.keep hk (fun _ h => h) (fun _ h => h) (fun _ _ h => h) (fun _ _ h => h) (fun _ _ h => h)
theorem sok_any (h : SuiteAt w Q TB A PL s) : Calls Tryz.prog 76 #[.pointer (some ⟨Q, 0, none⟩)] w fun e w' => e = .returned (.bool true) ∧ w' = w := by
  obtain ⟨b3, b4, hb⟩ := h.box
  have c9 := hb.cell (i := 9) rfl
  refine calls_cps fun R hR => ?_
  clear h hb
  go_enter Tryz.func76, Tryz.ntmps76
  go_wp2
end

set_option maxRecDepth 20000 in
set_option maxHeartbeats 2000000 in
theorem draw_any {w : World} {Q TB A PL : Nat} {s : SSt} (h : SuiteAt w Q TB A PL s) :
    Calls Tryz.prog 56 #[.pointer (some ⟨Q, 0, none⟩)] w fun e w' =>
      (drawP s = none → e = .returned (.tuple #[aggK key0, .int .i64 60]) ∧ Ext w w') ∧
      (∀ k s', drawP s = some (k, s') → e = .returned (.tuple #[aggK k, .int .i64 0]) ∧ SuiteAt w' Q TB A PL s' ∧ Keep (SuiteX TB A PL) w w') := by
  obtain ⟨b3, b4, hb⟩ := h.box
  obtain ⟨v, ht⟩ := h.tape
  have hlt := h.lt
  have hok := fun A' (hE : Ext w A') => sok_any (h.ext hE)
  have hky := fun A' (hE : Ext w A') => key_any (ht.ext hE) (by omega)
  unfold aggK
  unfold aggK at hky
  obtain ⟨zz, hzz⟩ : ∃ z, key0.map u8v = z := ⟨_, rfl⟩
  have HZ := Lib.hid (show (List.replicate 32 (.int .u8 0) : List Value) = zz by rw [← hzz]; rfl)
  have HO := Lib.hid (show zz.toArray.all (·.oneCell') = true by rw [← hzz]; exact all_one _)
  have HZs := Lib.hid (show (Tryz.prog.info? 51).map (·.size) = some zz.toArray.size by rw [info_key, ← hzz]; rfl)
  have HZ64 := Lib.hid (show zz.toArray.size = 32 by rw [← hzz]; rfl)
  rw [hzz] at hky ⊢
  have HH := Lib.hid h
  have hc1 := fun A' (hE : Ext w A') => Ext.cell hE (hb.cell (i := 1) rfl)
  have hQ := hb.lt
  clear hzz h hb ht
  refine calls_cps fun R hR => ?_
  have HR := Lib.hid hR
  clear hR
  go_enter Tryz.func56, Tryz.ntmps56
  go_wp2_with fail
  refine (hok _ ((Keep.refl _ w).alloc _)).mono ?_
  rintro e w1 ⟨rfl, e1⟩
  have eA : Ext w w1 := by rw [e1]; exact (Keep.refl _ w).alloc _
  have hZ : Arr w1 w.heap.size 51 (List.replicate 32 (.int .u8 0)) := by rw [e1]; exact Arr.new w _ (List.replicate 32 (.int .u8 0))
  have c1 := hc1 w1 eA
  have hk1 := hky w1 eA
  clear e1 hok hky hc1
  go_wp2_with fail
  refine hk1.mono ?_
  rintro e w2 ⟨hlo, hhi⟩
  clear hk1
  by_cases hl : s.tape.length < 32
  · obtain ⟨rfl, e2⟩ := hlo hl
    have hd : drawP s = none := by unfold drawP; rw [if_pos hl]
    have hE := eA.trans e2
    have hZ2 := hZ.ext e2
    rw [HZ.out] at hZ2
    have hRR := fun w' (hE : Ext w w') => HR.out (.returned (.tuple #[.agg zz.toArray, .int .i64 60])) w' ⟨fun _ => ⟨rfl, hE⟩, fun k s' h => by rw [hd] at h; cases h⟩
    clear hlo hhi HR e2 hd hZ
    go_wp2_with (refine wpList_store_row ?_ 51 (.tmp 2) (.tmp 13) ?_ w.heap.size zz.toArray ?_ ?_ 51 zz.toArray ?_ HZs.out rfl HO.out ?_; rfl; rfl; rfl; rfl; exact hZ2)
    exact bodyPost_ret (results_cell_slot rfl _ _ w.heap.size 51 zz.toArray (0, 0) _ (.int .i64 60) rfl rfl (hZ2.setRow zz) Tryz.underlying51 rfl HZs.out) rfl (hRR _ (((Keep.of_ext hE).trans (keep_setRow w2 w.heap.size _)).mono (fun k o ho hx => by have := Keep.lt ho; omega)))
  · obtain ⟨v', rfl, hT, e2⟩ := hhi (by omega)
    have hd : drawP s = some (s.tape.take 32, { s with tape := s.tape.drop 32 }) := by unfold drawP; rw [if_neg hl]
    have hZ2 := hZ.keep e2 (fun hx => by obtain ⟨_, _, hx⟩ := hx; cases hx)
    rw [HZ.out] at hZ2
    obtain ⟨O, hO⟩ : ∃ O, (s.tape.take 32).map u8v = O := ⟨_, rfl⟩
    have hOl : O.length = 32 := by rw [← hO, List.length_map, List.length_take]; omega
    have HO1 := Lib.hid (show O.toArray.all (·.oneCell') = true by rw [← hO]; exact all_one _)
    have HOs := Lib.hid (show (Tryz.prog.info? 51).map (·.size) = some O.toArray.size by rw [info_key, List.size_toArray, hOl])
    have HOz := Lib.hid (show zz.toArray.size = O.toArray.size by rw [HZ64.out, List.size_toArray, hOl])
    have hkS : Keep (fun k o => k = w.heap.size ∧ ∃ cur, o = .cells cur 51 (0, 0)) w2 (w2.setRow w.heap.size O.toArray) := (keep_setRow w2 w.heap.size O.toArray).mono (fun k o ho hx => ⟨hx, by
      subst hx
      rw [show w2.heap[w.heap.size]? = _ from hZ2] at ho; cases ho; exact ⟨_, rfl⟩⟩)
    have hKK : Keep (fun k o => TapeX TB k o ∨ (k = w.heap.size ∧ ∃ cur, o = .cells cur 51 (0, 0))) w (w2.setRow w.heap.size O.toArray) := Keep.or ((Keep.of_ext eA).trans e2) hkS
    have hS : SuiteAt (w2.setRow w.heap.size O.toArray) Q TB A PL { s with tape := s.tape.drop 32 } := by
      obtain ⟨b3, b4, hb⟩ := HH.out.box
      obtain ⟨S, n, a1, a2, a3⟩ := HH.out.ans
      obtain ⟨S', n', p1, p2, p3⟩ := HH.out.pl
      have hnm : ∀ k es c, ¬ (TapeX TB k (.map es c) ∨ (k = w.heap.size ∧ ∃ cur, Obj.map es c = .cells cur 51 (0, 0))) := fun k es c hx => by
        rcases hx with ⟨_, _, hx⟩ | ⟨_, _, hx⟩ <;> cases hx
      have hTB : TB < w.heap.size := by obtain ⟨v, ht⟩ := HH.out.tape; exact ht.box.lt
      refine ⟨⟨b3, b4, hb.keep hKK (fun hx => by rcases hx with ⟨_, _, hx⟩ | ⟨_, _, hx⟩ <;> cases hx)⟩, ⟨v', hT.keep hkS (fun _ hx => by have := hx.1; omega) (fun _ _ hx => by obtain ⟨_, _, hx⟩ := hx; cases hx)⟩,
        ⟨S, n, a1.block hKK (hnm _), by simp only [List.length_drop]; omega, a3⟩, ⟨S', n', p1.block hKK (hnm _), by simp only [List.length_drop]; omega, p3⟩, HH.out.ne, HH.out.la, HH.out.lp, by simp only [List.length_drop]; omega⟩
    have hRR := HR.out (.returned (.tuple #[.agg O.toArray, .int .i64 0])) (w2.setRow w.heap.size O.toArray) ⟨fun h => by (rw [hd] at h; cases h), fun k s' h => by
      rw [hd] at h; cases h
      rw [hO]
      exact ⟨rfl, hS, hKK.mono (fun k o ho hx => by rcases hx with hx | hx; exact .inl hx; have := Keep.lt ho; have := hx.1; omega)⟩⟩
    clear hlo hhi HR e2 hd hZ hS hKK hkS
    rw [hO]
    clear hO
    go_wp2_with (refine wpList_store_row ?_ 51 (.tmp 2) (.tmp 13) ?_ w.heap.size O.toArray ?_ ?_ 51 zz.toArray ?_ HOs.out HOz.out HO1.out ?_; rfl; rfl; rfl; rfl; exact hZ2)
    exact bodyPost_ret (results_cell_slot rfl _ _ w.heap.size 51 O.toArray (0, 0) _ (.int .i64 0) rfl rfl (hZ2.setRow O) Tryz.underlying51 rfl HOs.out) rfl hRR
end Go.Proofs.YtcmhgpgookiomaaGreat
namespace Go.Proofs.YtcmhgpgookiomaaGreat
open Go.RowKit Go.Shelf Go.Maps

attribute [local go_sem] Oper.semAt_some

set_option maxHeartbeats 2000000 in
theorem tape7_any (start words : Nat) (hw : words ≤ 10000) (w : World) :
    Calls Tryz.prog 7 #[.int .u32 (start : Int), .int .i64 (words : Int)] w fun e w' => ∃ a c, e = .returned (.slice a (4 * words) c) ∧ w'.ownsRow w.heap.size 5 1 (.slice a (4 * words) c) (4 * words) ((tapeL start words).map u8v) ∧ Ext w w' := by
  refine calls_cps fun R hR => ?_
  have HR := Lib.hid hR
  clear hR
  go_enter Tryz.func7, Tryz.ntmps7
  go_wp2
  go_loopw [5, 6] (fun b i wr => ∃ (k : Nat) (a : Option Addr) (c : Nat), k ≤ words ∧ i = .int .i64 k ∧ b = .slice a (4 * k) c ∧ wr.ownsRow w.heap.size 5 1 (.slice a (4 * k) c) (4 * k) ((tapeL start k).map u8v) ∧ Ext w wr) (fun _ i _ => words - (intOf i).toNat)
  case atStart => exact ⟨0, none, 0, by omega, rfl, rfl, World.ownsRow_nil _ _ _ _, Keep.refl _ _⟩
  case round =>
    obtain ⟨k, a, c, hk, rfl, rfl, hown, hE⟩ := hrel
    by_cases hlt : k < words
    · obtain ⟨x, hx⟩ : ∃ x, (start + k) % 4294967296 = x := ⟨_, rfl⟩
      have e1 : ((k : Int)) % 4294967296 = (k : Int) := by omega
      have e2 : ((start : Int) + (k : Int)) % 4294967296 = (x : Int) := by omega
      have hx32 : x < 4294967296 := by omega
      have hc : ([.int .u8 ((x : Int) / 16777216), .int .u8 ((x : Int) / 65536 % 256), .int .u8 ((x : Int) / 256 % 256), .int .u8 ((x : Int) % 256)] : List Value) = (word4 x).map u8v := by
        simp only [word4, List.map_cons, List.map_nil, u8v, UInt8.toNat_ofNat']
        congr 1
        · congr 1; omega
      have hsrc := (lit_row (base := 0) wr 5 #[.int .u8 ((x : Int) / 16777216), .int .u8 ((x : Int) / 65536 % 256), .int .u8 ((x : Int) / 256 % 256), .int .u8 ((x : Int) % 256)] 4 (by simp [maxLen]) rfl (Nat.zero_le _)).2
      obtain ⟨v', w', hrun, hown', hgrow, _⟩ := run_append_row (P := Tryz.prog) (wr.alloc (.cells #[.int .u8 ((x : Int) / 16777216), .int .u8 ((x : Int) / 65536 % 256), .int .u8 ((x : Int) / 256 % 256), .int .u8 ((x : Int) % 256)] 5)) w.heap.size 26 26 5 (.int .u8 0) 1 1 Tryz.underlying26 info_u8 rfl (by decide) (hown.alloc _) hsrc (by simp [Value.oneCell']) (by unfold maxLen; omega) (by omega) (by have := hE.size; simp; omega)
      have hE' : Ext w w' := Ext.of_below (((Ext.below hE).alloc hE.size _).grown hgrow (by have := hE.size; simp; omega) (fun g hg => (hown.lt g hg).1))
      rw [show (#[.int .u8 ((x : Int) / 16777216), .int .u8 ((x : Int) / 65536 % 256), .int .u8 ((x : Int) / 256 % 256), .int .u8 ((x : Int) % 256)] : Array Value).toList = (word4 x).map u8v from hc, ← List.map_append, ← hx, ← tape_succ] at hown'
      obtain ⟨a2, c2, rfl, _⟩ := owns_row hown'
      have Hrun := Lib.hid hrun
      have Hown := Lib.hid hown'
      clear hrun hgrow hown hown' hsrc hc hx hE
      go_wp2_with (at_builtin; go_must (refine wpList_append_run Hrun.out rfl rfl rfl rfl ?_))
      go_roundw
      case rel => exact ⟨k + 1, a2, c2, by omega, by go_num, rfl, Hown.out, hE'⟩
      case measure => simp [intOf]; omega
    · obtain rfl : k = words := by omega
      have hfin := HR.out _ wr ⟨a, c, rfl, hown, hE⟩
      clear hown hE HR
      go_wp2
      first | exact hfin | trace_state
theorem TapeAt.of_own {w : World} {B base : Nat} {l : By} {v : Value} (hb : Arr w B 69 [v]) (h : w.ownsRow base 5 1 v l.length (l.map u8v)) : TapeAt w B l v := by
  obtain ⟨a, c, rfl, hr⟩ := owns_row h
  refine ⟨hb, a, c, rfl, hr, fun p hp => ?_⟩
  rcases h.2 with ⟨h1, _⟩ | ⟨g, cap, cur, h1, _, hg, _⟩
  · simp only [Value.slice.injEq] at h1
    rw [h1.1] at hp; cases hp
  · simp only [Value.slice.injEq] at h1
    rw [h1.1] at hp; cases hp
    exact ⟨cur, hg⟩

set_option maxHeartbeats 1000000 in
theorem tapeNew_any {w : World} (a : Option Addr) (n c : Nat) (l : By) (hr : Row 1 w a n c (l.map u8v)) (hn : n ≤ 1000000) :
    Calls Tryz.prog 6 #[.slice a n c] w fun e w' => ∃ B v, e = .returned (.pointer (some ⟨B, 0, none⟩)) ∧ w.heap.size ≤ B ∧ TapeAt w' B l v ∧ Ext w w' := by
  have hl : l.length = n := by have := hr.2.2.1; simpa using this
  obtain ⟨v', w', hrun, hown', hgrow, _⟩ := run_append_row (P := Tryz.prog) w w.heap.size 26 26 5 (.int .u8 0) 1 1 Tryz.underlying26 info_u8 rfl (by decide) (World.ownsRow_nil w w.heap.size 5 1) hr (u8v_one _) (by unfold maxLen; omega) (by omega) (Nat.le_refl _)
  rw [Nat.zero_add, List.nil_append] at hown'
  have hE : Ext w w' := (Keep.of_grownBy hgrow (fun k o hk ho => by simp [Value.ownBlock] at hk) : Keep (fun _ _ => False) w w')
  obtain ⟨a2, c2, rfl, _⟩ := owns_row hown'
  have eA : Ext w' (w'.alloc (.cells #[.slice a2 n c2] 69)) := (Keep.refl _ w').alloc _
  have hT : TapeAt (w'.alloc (.cells #[.slice a2 n c2] 69)) w'.heap.size l (.slice a2 n c2) := TapeAt.of_own (Arr.new w' 69 [.slice a2 n c2]) (by rw [hl]; exact Ext.owns eA hown')
  have hfin : ∃ B v, (Ending.returned (.pointer (some ⟨w'.heap.size, 0, none⟩))) = Ending.returned (.pointer (some ⟨B, 0, none⟩)) ∧ w.heap.size ≤ B ∧ TapeAt (w'.alloc (.cells #[.slice a2 n c2] 69)) B l v ∧ Ext w (w'.alloc (.cells #[.slice a2 n c2] 69)) := ⟨_, _, rfl, hE.size, hT, hE.trans eA⟩
  refine calls_cps fun R hR => ?_
  have hRR := hR _ _ hfin
  have Hrun := Lib.hid hrun
  clear hR hfin hT eA hE hrun hown' hgrow hr hl
  go_enter Tryz.func6, Tryz.ntmps6
  go_wp2_with (at_builtin; go_must (refine wpList_append_run Hrun.out rfl rfl rfl rfl ?_))
  first | exact hRR | trace_state
end Go.Proofs.YtcmhgpgookiomaaGreat
namespace Go.Proofs.YtcmhgpgookiomaaGreat
open Go.RowKit Go.Shelf Go.Maps

attribute [local go_sem] Oper.semAt_some

set_option maxHeartbeats 2000000 in
theorem suiteNew_any {w : World} {TB : Nat} {t : By} {v : Value} (h : TapeAt w TB t v) (ht : t.length ≤ 32000) :
    Calls Tryz.prog 5 #[.int .i64 1, .pointer (some ⟨TB, 0, none⟩)] w fun e w' => ∃ Q A PL, e = .returned (.pointer (some ⟨Q, 0, none⟩)) ∧ w.heap.size ≤ Q ∧ w.heap.size ≤ A ∧ w.heap.size ≤ PL ∧ SuiteAt w' Q TB A PL ⟨t, fun _ _ => none, fun _ _ => none⟩ ∧ Ext w w' := by
  have e : ∀ (A : World) (o : Obj), Ext A (A.alloc o) := fun A o => (Keep.refl _ A).alloc o
  obtain ⟨w1, h1⟩ : ∃ w1, w.alloc (.map #[] 0) = w1 := ⟨_, rfl⟩
  obtain ⟨w2, h2⟩ : ∃ w2, w1.alloc (.map #[] 0) = w2 := ⟨_, rfl⟩
  obtain ⟨w3, h3⟩ : ∃ w3, w2.alloc (.map #[] 0) = w3 := ⟨_, rfl⟩
  obtain ⟨w4, h4⟩ : ∃ w4, w3.alloc (.map #[] 0) = w4 := ⟨_, rfl⟩
  obtain ⟨w5, h5⟩ : ∃ w5, w4.alloc (.cells (suiteC TB w.heap.size w1.heap.size w2.heap.size w3.heap.size).toArray 67) = w5 := ⟨_, rfl⟩
  have s1 : w1.heap.size = w.heap.size + 1 := by rw [← h1]; simp
  have s2 : w2.heap.size = w.heap.size + 2 := by rw [← h2]; simp [s1]
  have s3 : w3.heap.size = w.heap.size + 3 := by rw [← h3]; simp [s2]
  have s4 : w4.heap.size = w.heap.size + 4 := by rw [← h4]; simp [s3]
  have x1 : Ext w w1 := by rw [← h1]; exact e _ _
  have x2 : Ext w1 w2 := by rw [← h2]; exact e _ _
  have x3 : Ext w2 w3 := by rw [← h3]; exact e _ _
  have x4 : Ext w3 w4 := by rw [← h4]; exact e _ _
  have x5 : Ext w4 w5 := by rw [← h5]; exact e _ _
  have m1 : KMap Tryz.prog 216 w5 w.heap.size 0 (fun _ => none) := by
    have : KMap Tryz.prog 216 w1 w.heap.size 0 (fun _ => none) := by rw [← h1]; exact KMap.made _ _ _
    exact this.ext (((x2.trans x3).trans x4).trans x5)
  have m2 : KMap Tryz.prog 189 w5 w1.heap.size 0 (fun _ => none) := by
    have : KMap Tryz.prog 189 w2 w1.heap.size 0 (fun _ => none) := by rw [← h2]; exact KMap.made _ _ _
    exact this.ext ((x3.trans x4).trans x5)
  have hb : Arr w5 w4.heap.size 67 (suiteC TB w.heap.size w1.heap.size w2.heap.size w3.heap.size) := by rw [← h5]; exact Arr.new _ _ _
  have hE : Ext w w5 := (((x1.trans x2).trans x3).trans x4).trans x5
  have hS : SuiteAt w5 w4.heap.size TB w.heap.size w1.heap.size ⟨t, fun _ _ => none, fun _ _ => none⟩ :=
    ⟨⟨_, _, hb⟩, ⟨v, h.ext hE⟩, ⟨_, 0, m1, by simp; omega, fun _ _ _ _ _ _ => rfl⟩, ⟨_, 0, m2, by simp; omega, fun _ _ _ _ _ _ => rfl⟩, by omega, fun _ _ _ h => by simp at h, fun _ _ _ h => by simp at h, ht⟩
  rw [s1, s2, s3] at h5
  rw [s4] at hS
  subst h1 h2 h3 h4
  simp only [suiteC] at h5
  have hmm := @run_makeMap Tryz.prog
  refine calls_cps fun R hR => ?_
  have hRR := hR (.returned (.pointer (some ⟨w.heap.size + 4, 0, none⟩))) w5 ⟨_, _, _, rfl, by omega, by omega, by omega, hS, hE⟩
  have H5 := Lib.hid h5
  clear hR hS hE hb m1 m2 x1 x2 x3 x4 x5 s1 s2 s3 s4 h5 h e
  go_enter Tryz.func5, Tryz.ntmps5
  go_wp2
  rw [← H5.out] at hRR
  exact hRR
end Go.Proofs.YtcmhgpgookiomaaGreat
namespace Go.Proofs.YtcmhgpgookiomaaGreat
open Go.RowKit Go.Shelf Go.Maps

attribute [local go_sem] Oper.semAt_some

set_option maxRecDepth 20000 in
theorem build_given (l : List Value) (h : l.length = 32) (s1 s2 : ByteArray) (w : World) : (Instr.build 189 #[(0, .agg l.toArray), (1, .string s1), (2, .string s2)]).run Tryz.prog w = .ok (.agg (l ++ [Value.string s1, Value.string s2]).toArray) w := by
  match l, h with
  | [b0, b1, b2, b3, b4, b5, b6, b7, b8, b9, b10, b11, b12, b13, b14, b15, b16, b17, b18, b19, b20, b21, b22, b23, b24, b25, b26, b27, b28, b29, b30, b31], _ => exact run_build w _ _ _ (by kernel_rfl)
set_option maxRecDepth 20000 in
theorem build_ask (l : List Value) (h : l.length = 32) (s1 s2 : ByteArray) (w : World) : (Instr.build 216 #[(0, .int .i64 2), (1, .agg l.toArray), (2, .string s1), (3, .string s2)]).run Tryz.prog w = .ok (.agg ([Value.int .i64 2] ++ l ++ [Value.string s1, Value.string s2]).toArray) w := by
  match l, h with
  | [b0, b1, b2, b3, b4, b5, b6, b7, b8, b9, b10, b11, b12, b13, b14, b15, b16, b17, b18, b19, b20, b21, b22, b23, b24, b25, b26, b27, b28, b29, b30, b31], _ => exact run_build w _ _ _ (by kernel_rfl)
theorem exec_build3 {P : Program} {w : World} {o : Oper} {a : Act} {t : TypeId} {i0 i1 i2 : Nat} {x0 x1 x2 : Operand} {v0 v1 v2 v : Value} (ho : o.op = .build t #[(i0, x0), (i1, x1), (i2, x2)]) (h0 : a.eval x0 = v0) (h1 : a.eval x1 = v1) (h2 : a.eval x2 = v2)
    (h : (Instr.build t #[(i0, v0), (i1, v1), (i2, v2)]).run P w = .ok v w) : (execOp a.eval o).run P w = .ok (.value v) w := by
  unfold execOp
  simp [ho, h0, h1, h2, h, Result.andThen]
theorem exec_lookup' {P : Program} {w : World} {o : Oper} {a : Act} {t : TypeId} {m k : Operand} {ok : Bool} {v : Value} (ho : o.op = .lookup t m k ok)
    (h : (Instr.lookup t (a.eval m) (a.eval k) ok).run P w = .ok v w) : (execOp a.eval o).run P w = .ok (.value v) w := by
  unfold execOp
  simp [ho, h, Result.andThen]
/-- '[]byte(s)'. -/
theorem bytes_row (w : World) (l : By) (h : l.length ≤ 1000000) : ∃ c w', (convert 9 26 (.string ⟨l.toArray⟩)).run Tryz.prog w = .ok (.slice (some ⟨w.heap.size, 0, none⟩) l.length c) w' ∧ Row 1 w' (some ⟨w.heap.size, 0, none⟩) l.length c (l.map u8v) ∧ Ext w w' ∧ ∃ cur fr, w'.heap[w.heap.size]? = some (.cells cur 5 fr) := by
  have hsz : (⟨l.toArray⟩ : ByteArray).size = l.length := by simp [ByteArray.size]
  have hrun := run_bytes_of_string (P := Tryz.prog) w 9 26 5 ⟨l.toArray⟩ Tryz.underlying9 Tryz.underlying26 Tryz.underlying5
  have hge := grownCap_ge w (⟨l.toArray⟩ : ByteArray).size 0 5
  have hle := grownCap_le_maxLen w (⟨l.toArray⟩ : ByteArray).size 0 5 (by rw [hsz]; unfold maxLen; omega)
  rw [hsz] at hrun hge hle
  have hnew := World.alloc_heap_new w.drew (.cells (bytesRow ⟨l.toArray⟩ (grownCap w l.length 0 5)) 5 ((bytesRow ⟨l.toArray⟩ (grownCap w l.length 0 5)).size, (bytesRow ⟨l.toArray⟩ (grownCap w l.length 0 5)).size + 1))
  refine ⟨_, _, hrun, ⟨hge, hle, by simp, by simp, fun _ => ⟨_, 0, rfl, fun i u hu => ?_⟩⟩, ((Keep.refl _ w).drew).trans ((Keep.refl _ _).alloc _), _, _, hnew⟩
  have hi : i < l.length := by have := (List.getElem?_eq_some_iff.1 hu).1; simpa using this
  rw [Nat.zero_add]
  refine (cell_of_row _ _ _ _ 5 _ hnew).trans ?_
  rw [bytesRow_at _ _ _ (by simpa using hi)]
  rw [List.getElem?_map, List.getElem?_eq_getElem hi] at hu
  simpa [u8v] using hu
theorem zero_str (w : World) : (zeroValue 9).run Tryz.prog w = .ok (.string ⟨#[]⟩) w := by
  simp [go_sem]
end Go.Proofs.YtcmhgpgookiomaaGreat
