/-
  diff3: the last hunk's slices grow.
-/
import Derived.Test.YthedpnnfkmbdpaaDfD
namespace Go.Proofs.Ythedpnnfkmbdpaa
open Go.RowKit Go.Shelf

attribute [local go_sem] Oper.semAt_some

def Off (s t : Option Nat) : Prop := ∀ k, s = some k → t ≠ some k
theorem Off.symm {s t : Option Nat} (h : Off s t) : Off t s := fun k h1 h2 => h k h2 h1
theorem apart3 {l : List (Option Nat)} {x a b : Option Nat} : ApartL (l ++ [x, a, b]) ↔ ApartL l ∧ (∀ s ∈ l, Off s x ∧ Off s a ∧ Off s b) ∧ Off x a ∧ Off x b ∧ Off a b := by
  refine List.pairwise_append.trans ⟨fun ⟨h1, h2, h3⟩ => ?_, fun ⟨h1, h2, h3, h4, h5⟩ => ?_⟩
  · obtain ⟨h4, h5⟩ := List.pairwise_cons.1 h2
    obtain ⟨h6, _⟩ := List.pairwise_cons.1 h5
    exact ⟨h1, fun s hs => ⟨h3 s hs x (by simp), h3 s hs a (by simp), h3 s hs b (by simp)⟩, h4 a (by simp), h4 b (by simp), h6 b (by simp)⟩
  · refine ⟨h1, List.Pairwise.cons (fun t ht => ?_) (List.Pairwise.cons (fun t ht => ?_) (List.pairwise_singleton _ _)), fun s hs t ht => ?_⟩
    · simp only [List.mem_cons, List.not_mem_nil, or_false] at ht
      rcases ht with rfl | rfl
      · exact h3
      · exact h4
    · simp only [List.mem_cons, List.not_mem_nil, or_false] at ht
      subst ht; exact h5
    · simp only [List.mem_cons, List.not_mem_nil, or_false] at ht
      obtain ⟨q1, q2, q3⟩ := h2 s hs
      rcases ht with rfl | rfl | rfl
      · exact q1
      · exact q2
      · exact q3
theorem Off.grown {s x x' : Option Nat} {N : Nat} (h : Off s x) (hx : x' = x ∨ x' = some N) (hs : ∀ k, s = some k → k < N) : Off s x' := fun k h1 h2 => by
  rcases hx with hx | hx
  · rw [hx] at h2; exact h k h1 h2
  · rw [hx] at h2
    cases h2
    exact absurd (hs _ h1) (Nat.lt_irrefl _)

/-- MIn but for the hunks' own cells; the last hunk is told apart. -/
structure MRest (G : Nat → Prop) (w : World) (P : Nat) (v : Value) (hv : List HV) (hs : List (Hunk ByteArray)) (x a b : Value) (lx la lb : List ByteArray) : Prop where
  box : Arr w P 67 [v]
  gP : G P
  gv : ∀ k, v.ownBlock = some k → G k
  len : hv.length = hs.length
  each : ∀ (i : Nat) (h : Hunk ByteArray) (g : HV), hs[i]? = some h → hv[i]? = some g → HIn w g h
  ox : w.ownsRow 0 9 1 x lx.length (lx.map Value.string)
  oa : w.ownsRow 0 9 1 a la.length (la.map Value.string)
  ob : w.ownsRow 0 9 1 b lb.length (lb.map Value.string)
  ap : ApartL (hv.flatMap HV.bl)
  an : ∀ s ∈ hv.flatMap HV.bl, Off s x.ownBlock ∧ Off s a.ownBlock ∧ Off s b.ownBlock
  axa : Off x.ownBlock a.ownBlock
  axb : Off x.ownBlock b.ownBlock
  aab : Off a.ownBlock b.ownBlock
  gb : ∀ k, some k ∈ hv.flatMap HV.bl → G k
  gx : ∀ k, x.ownBlock = some k → G k
  ga : ∀ k, a.ownBlock = some k → G k
  gB : ∀ k, b.ownBlock = some k → G k

section
variable {G : Nat → Prop} {w w' : World} {P : Nat} {v x a b : Value} {hv : List HV} {hs : List (Hunk ByteArray)} {lx la lb : List ByteArray}
theorem each_lt (hl : hv.length = hs.length) (he : ∀ (i : Nat) (h : Hunk ByteArray) (g : HV), hs[i]? = some h → hv[i]? = some g → HIn w g h) {k : Nat} (hk : some k ∈ hv.flatMap HV.bl) : k < w.heap.size := by
  obtain ⟨g, hg, hb⟩ := List.mem_flatMap.1 hk
  obtain ⟨i, hi⟩ := List.mem_iff_getElem?.1 hg
  have hlt := (List.getElem?_eq_some_iff.1 hi).1
  obtain ⟨a, ha⟩ : ∃ a, hs[i]? = some a := ⟨_, List.getElem?_eq_getElem (by rw [← hl]; exact hlt)⟩
  exact (he i a g ha hi).lt hb
theorem MIn.rest {k : Int} (h : MIn G w P v (hv ++ [⟨k, x, a, b⟩]) (hs ++ [⟨k, lx, la, lb⟩])) : MRest G w P v hv hs x a b lx la lb := by
  have hl : hv.length = hs.length := by have := h.len; simpa using this
  have hlast := h.each hs.length ⟨k, lx, la, lb⟩ ⟨k, x, a, b⟩ (by simp) (by rw [← hl]; simp)
  obtain ⟨_, o1, o2, o3⟩ := hlast
  have hap := h.apart
  rw [List.flatMap_append, show List.flatMap HV.bl [⟨k, x, a, b⟩] = [x.ownBlock, a.ownBlock, b.ownBlock] by simp [HV.bl]] at hap
  obtain ⟨a1, a2, a3, a4, a5⟩ := apart3.1 hap
  have hgb : ∀ k', some k' ∈ hv.flatMap HV.bl ++ [x.ownBlock, a.ownBlock, b.ownBlock] → G k' := fun k' hk => h.gb k' (by rw [List.flatMap_append, show List.flatMap HV.bl [⟨k, x, a, b⟩] = [x.ownBlock, a.ownBlock, b.ownBlock] by simp [HV.bl]]; exact hk)
  exact ⟨h.box, h.gP, h.gv, hl, fun i c g hc hg => h.each i c g (by rw [List.getElem?_append_left (List.getElem?_eq_some_iff.1 hc).1]; exact hc) (by rw [List.getElem?_append_left (List.getElem?_eq_some_iff.1 hg).1]; exact hg), o1, o2, o3,
    a1, a2, a3, a4, a5, fun k hk => hgb k (List.mem_append_left _ hk), fun k hk => hgb k (by rw [← hk]; simp), fun k hk => hgb k (by rw [← hk]; simp), fun k hk => hgb k (by rw [← hk]; simp)⟩
theorem MRest.full {k : Int} (h : MRest G w P v hv hs x a b lx la lb) (own : w.ownsRow 0 44 4 v (hs.length + 1) (hv.flatMap HV.cells ++ [.int .i64 k, x, a, b])) : MIn G w P v (hv ++ [⟨k, x, a, b⟩]) (hs ++ [⟨k, lx, la, lb⟩]) := by
  have hbl : (hv ++ [(⟨k, x, a, b⟩ : HV)]).flatMap HV.bl = hv.flatMap HV.bl ++ [x.ownBlock, a.ownBlock, b.ownBlock] := by rw [List.flatMap_append]; simp [HV.bl]
  refine ⟨h.box, h.gP, ?_, h.gv, by rw [List.length_append, List.length_append, h.len]; rfl, fun i c g hc hg => ?_, ?_, fun k' hk => ?_⟩
  · rw [List.length_append, List.flatMap_append]
    simpa [HV.cells] using own
  · by_cases hlt : i < hs.length
    · rw [List.getElem?_append_left hlt] at hc
      rw [List.getElem?_append_left (by rw [h.len]; exact hlt)] at hg
      exact h.each i c g hc hg
    · rw [List.getElem?_append_right (by omega)] at hc
      rw [List.getElem?_append_right (by rw [h.len]; omega), h.len] at hg
      cases hk : i - hs.length with
      | zero => rw [hk] at hc hg; simp at hc hg; subst hc; subst hg; exact ⟨rfl, h.ox, h.oa, h.ob⟩
      | succ k => rw [hk] at hc; simp at hc
  · rw [hbl]; exact apart3.2 ⟨h.ap, h.an, h.axa, h.axb, h.aab⟩
  · rw [hbl] at hk
    rcases List.mem_append.1 hk with hk | hk
    · exact h.gb k' hk
    · simp only [List.mem_cons, List.not_mem_nil, or_false] at hk
      rcases hk with hk | hk | hk
      · exact h.gx k' hk.symm
      · exact h.ga k' hk.symm
      · exact h.gB k' hk.symm
theorem MRest.keep {X : Nat → Obj → Prop} (h : MRest G w P v hv hs x a b lx la lb) (hk : Keep X w w') (h1 : ∀ cur, ¬ X P (.cells cur 67 (0, 0))) (h3 : ∀ k cur, ¬ X k (.cells cur 9 (0, 0))) : MRest G w' P v hv hs x a b lx la lb :=
  ⟨h.box.keep hk (h1 _), h.gP, h.gv, h.len, fun i c g hc hg => (h.each i c g hc hg).keep hk (fun k cur _ => h3 k cur), hk.owns' h.ox (fun k cur _ => h3 k cur), hk.owns' h.oa (fun k cur _ => h3 k cur), hk.owns' h.ob (fun k cur _ => h3 k cur), h.ap, h.an, h.axa, h.axb, h.aab, h.gb, h.gx, h.ga, h.gB⟩
theorem MRest.ext (h : MRest G w P v hv hs x a b lx la lb) (hk : Ext w w') : MRest G w' P v hv hs x a b lx la lb := h.keep hk (fun _ h => h) (fun _ _ h => h)
/-- What an append to the slice u turns. -/
def strX (u : Value) (k : Nat) (o : Obj) : Prop := u.ownBlock = some k ∧ ∃ cur, o = .cells cur 9 (0, 0)
section
variable {u : Value} {s : ByteArray}
theorem MRest.app1 (h : MRest G w P v hv hs x a b lx la lb) (hk : Keep (strX x) w w') (ho : w'.ownsRow 0 9 1 u (lx ++ [s]).length ((lx ++ [s]).map Value.string)) (hb : u.ownBlock = x.ownBlock ∨ u.ownBlock = some w.heap.size) (hG : G w.heap.size) : MRest G w' P v hv hs u a b (lx ++ [s]) la lb := by
  have hlt := fun k (hk : some k ∈ hv.flatMap HV.bl) => each_lt h.len h.each hk
  refine ⟨h.box.keep hk (fun hx => by obtain ⟨_, _, hx⟩ := hx; cases hx), h.gP, h.gv, h.len, fun i c g hc hg => (h.each i c g hc hg).keep hk (fun k cur hm hx => ?_), ho, hk.owns' h.oa (fun k cur hm hx => h.axa k hx.1 hm), hk.owns' h.ob (fun k cur hm hx => h.axb k hx.1 hm), h.ap,
    fun t ht => ⟨(h.an t ht).1.grown hb (fun k hk => hlt k (by rw [← hk]; exact ht)), (h.an t ht).2⟩, ((h.axa.symm).grown hb (fun k hk => (h.oa.lt k hk).2)).symm, ((h.axb.symm).grown hb (fun k hk => (h.ob.lt k hk).2)).symm, h.aab, h.gb, fun k hk => ?_, h.ga, h.gB⟩
  · exact (h.an (some k) (List.mem_flatMap.2 ⟨g, List.mem_of_getElem? hg, hm⟩)).1 k rfl hx.1
  · rcases hb with hb | hb
    · exact h.gx k (by rw [← hb]; exact hk)
    · rw [hb] at hk; cases hk; exact hG
theorem MRest.app2 (h : MRest G w P v hv hs x a b lx la lb) (hk : Keep (strX a) w w') (ho : w'.ownsRow 0 9 1 u (la ++ [s]).length ((la ++ [s]).map Value.string)) (hb : u.ownBlock = a.ownBlock ∨ u.ownBlock = some w.heap.size) (hG : G w.heap.size) : MRest G w' P v hv hs x u b lx (la ++ [s]) lb := by
  have hlt := fun k (hk : some k ∈ hv.flatMap HV.bl) => each_lt h.len h.each hk
  refine ⟨h.box.keep hk (fun hx => by obtain ⟨_, _, hx⟩ := hx; cases hx), h.gP, h.gv, h.len, fun i c g hc hg => (h.each i c g hc hg).keep hk (fun k cur hm hx => ?_), hk.owns' h.ox (fun k cur hm hx => h.axa k hm hx.1), ho, hk.owns' h.ob (fun k cur hm hx => h.aab k hx.1 hm), h.ap,
    fun t ht => ⟨(h.an t ht).1, (h.an t ht).2.1.grown hb (fun k hk => hlt k (by rw [← hk]; exact ht)), (h.an t ht).2.2⟩, h.axa.grown hb (fun k hk => (h.ox.lt k hk).2), h.axb, ((h.aab.symm).grown hb (fun k hk => (h.ob.lt k hk).2)).symm, h.gb, h.gx, fun k hk => ?_, h.gB⟩
  · exact (h.an (some k) (List.mem_flatMap.2 ⟨g, List.mem_of_getElem? hg, hm⟩)).2.1 k rfl hx.1
  · rcases hb with hb | hb
    · exact h.ga k (by rw [← hb]; exact hk)
    · rw [hb] at hk; cases hk; exact hG
theorem MRest.app3 (h : MRest G w P v hv hs x a b lx la lb) (hk : Keep (strX b) w w') (ho : w'.ownsRow 0 9 1 u (lb ++ [s]).length ((lb ++ [s]).map Value.string)) (hb : u.ownBlock = b.ownBlock ∨ u.ownBlock = some w.heap.size) (hG : G w.heap.size) : MRest G w' P v hv hs x a u lx la (lb ++ [s]) := by
  have hlt := fun k (hk : some k ∈ hv.flatMap HV.bl) => each_lt h.len h.each hk
  refine ⟨h.box.keep hk (fun hx => by obtain ⟨_, _, hx⟩ := hx; cases hx), h.gP, h.gv, h.len, fun i c g hc hg => (h.each i c g hc hg).keep hk (fun k cur hm hx => ?_), hk.owns' h.ox (fun k cur hm hx => h.axb k hm hx.1), hk.owns' h.oa (fun k cur hm hx => h.aab k hm hx.1), ho, h.ap,
    fun t ht => ⟨(h.an t ht).1, (h.an t ht).2.1, (h.an t ht).2.2.grown hb (fun k hk => hlt k (by rw [← hk]; exact ht))⟩, h.axa, h.axb.grown hb (fun k hk => (h.ox.lt k hk).2), h.aab.grown hb (fun k hk => (h.oa.lt k hk).2), h.gb, h.gx, h.ga, fun k hk => ?_⟩
  · exact (h.an (some k) (List.mem_flatMap.2 ⟨g, List.mem_of_getElem? hg, hm⟩)).2.2 k rfl hx.1
  · rcases hb with hb | hb
    · exact h.gB k (by rw [← hb]; exact hk)
    · rw [hb] at hk; cases hk; exact hG
end
end

/-- append of one string to a slice of the call's own. -/
theorem append_own_str {w : World} {u : Value} {l : List ByteArray} {s : ByteArray} (h : w.ownsRow 0 9 1 u l.length (l.map Value.string)) (hn : l.length ≤ 1000000) {q : Nat} (hq : w.heap[q]? = some (.cells #[.string s] 9 (0, 0))) :
    ∃ a c w', (Builtin.append_ #[22, 22] 22 #[u, .slice (some ⟨q, 0, none⟩) 1 1]).run Try.prog w = .ok (.slice a (l.length + 1) c) w' ∧ w'.ownsRow 0 9 1 (.slice a (l.length + 1) c) (l ++ [s]).length ((l ++ [s]).map Value.string) ∧
      Keep (strX u) w w' ∧ ((Value.slice a (l.length + 1) c).ownBlock = u.ownBlock ∨ (Value.slice a (l.length + 1) c).ownBlock = some w.heap.size) := by
  obtain ⟨i, hi, hz, hsz, hb⟩ := info_parts info_str
  obtain ⟨v', w', hrun, hown', hgrow, _, hblk⟩ := run_append_own_at (P := Try.prog) w 0 22 22 9 i _ 1 16 Try.underlying22 hi hz hsz hb rfl (by decide) u _ _ h ⟨q, 0, none⟩ 1 1 [.string s] rfl
    (fun j x hx => by rw [addr_add, Nat.zero_add, cell_of_row _ _ _ _ 9 (0, 0) hq]; simpa using hx) (by simp [Value.oneCell']) (by unfold maxLen; omega) (by omega) (Nat.zero_le _)
  obtain ⟨a, c, rfl, _⟩ := owns_row hown'
  refine ⟨a, c, w', hrun, by rw [List.length_append, List.map_append]; exact hown', Keep.of_grownBy hgrow (fun k o hk ho => ?_), hblk⟩
  rcases h.2 with ⟨rfl, _⟩ | ⟨g', cap, cur, rfl, hb, hgb, _⟩
  · simp [Value.ownBlock] at hk
  · obtain rfl : g' = k := by simpa [Value.ownBlock] using hk
    rw [hgb] at ho; cases ho; exact ⟨rfl, _, rfl⟩
end Go.Proofs.Ythedpnnfkmbdpaa
