/-
  TopRevoked: the document's ring in memory: its rows of persons, groups, realms, and of who was seen. the document's ring: Reader. the document's ring: reads. the document's ring: turn: a realm's next epoch.
-/
import Derived.Test.YtcmhgpgookiomaaGreatM21
namespace Go.Proofs.YtcmhgpgookiomaaGreat
open Go.RowKit Go.Shelf Go.Maps

attribute [local go_sem] Oper.semAt_some

/-- Blocks from b on, of one of the types ts. -/
def TX (b : Nat) (ts : List TypeId) (k : Nat) (o : Obj) : Prop := b ≤ k ∧ ∃ cur t, o = .cells cur t (0, 0) ∧ t ∈ ts
theorem TX.no {b k : Nat} {ts : List TypeId} {cur : Array Value} {t : TypeId} {fr : Nat × Nat} (h : t ∉ ts) : ¬ TX b ts k (.cells cur t fr) := fun ⟨_, _, _, q, ht⟩ => by cases q; exact h ht
theorem TX.mono {b k : Nat} {o : Obj} {ts ts' : List TypeId} (h : ∀ t ∈ ts, t ∈ ts') (hx : TX b ts k o) : TX b ts' k o := by
  obtain ⟨h1, cur, t, q, ht⟩ := hx
  exact ⟨h1, cur, t, q, h t ht⟩
/-- What the functions of the document's ring turn: blocks from b on, no numbers. -/
abbrev DK (b : Nat) : Nat → Obj → Prop := TX b [43, 111, 84, 81, 119]
theorem keep_dk {b : Nat} {ts : List TypeId} {w w' : World} (h : Keep (TX b ts) w w') (hs : ∀ t ∈ ts, t ∈ [43, 111, 84, 81, 119]) : Keep (DK b) w w' :=
  h.mono (fun _ _ _ hx => hx.mono hs)

/-- A slice of numbers that nobody turns. -/
def URow (w : World) (v : Value) (ms : List Nat) : Prop := ∃ a c, v = .slice a ms.length c ∧ Row 1 w a ms.length c (ms.map u32n) ∧ ∀ p, a = some p → ∃ cur, w.heap[p.block]? = some (.cells cur 22 (0, 0))
theorem URow.keep {X : Nat → Obj → Prop} {w w' : World} {v : Value} {ms : List Nat} (h : URow w v ms) (hk : Keep X w w') (hX : ∀ k cur, ¬ X k (.cells cur 22 (0, 0))) : URow w' v ms := by
  obtain ⟨a, c, rfl, hr, ha⟩ := h
  refine ⟨a, c, rfl, hr.keep hk (fun p o hp ho _ hx => ?_), fun p hp => ?_⟩
  · obtain ⟨cur, hc⟩ := ha p hp
    rw [hc] at ho; cases ho
    exact hX _ _ hx
  · obtain ⟨cur, hc⟩ := ha p hp
    exact ⟨cur, hk.block _ _ hc (hX _ _)⟩
theorem URow.ext {w w' : World} {v : Value} {ms : List Nat} (h : URow w v ms) (hk : Ext w w') : URow w' v ms := h.keep hk (fun _ _ h => h)
theorem URow.of_own {w : World} {b : Nat} {v : Value} {ms : List Nat} (h : w.ownsRow b 22 1 v ms.length (ms.map u32n)) : URow w v ms := by
  obtain ⟨a, c, rfl, hr⟩ := owns_row h
  refine ⟨a, c, rfl, hr, fun p hp => ?_⟩
  rcases h.2 with ⟨q, _⟩ | ⟨g, cap, cur, q, _, hg, _⟩
  · simp only [Value.slice.injEq] at q
    rw [q.1] at hp; cases hp
  · simp only [Value.slice.injEq] at q
    rw [q.1] at hp; cases hp
    exact ⟨cur, hg⟩
theorem URow.one {w : World} {v : Value} {ms : List Nat} (h : URow w v ms) : v.oneCell' = true := by obtain ⟨a, c, rfl, _⟩ := h; rfl
theorem URow.nil (w : World) : URow w (.slice none 0 0) [] := ⟨none, 0, rfl, Row.nil _ _, fun _ h => by cases h⟩

/-- The cells of persons. -/
structure PSec (ps : List Nat) (cs : List Value) : Prop where
  len : cs.length = ps.length * 33
  one : ∀ v ∈ cs, v.oneCell' = true
  has : ∀ i n, ps[i]? = some n → cs[i * 33]? = some (u32n n)
/-- The cells of groups (realms) with their members (readers). -/
structure GSec (w : World) (l : List (Nat × List Nat)) (cs : List Value) : Prop where
  len : cs.length = l.length * 35
  one : ∀ v ∈ cs, v.oneCell' = true
  has : ∀ i n ms, l[i]? = some (n, ms) → cs[i * 35]? = some (u32n n) ∧ (∃ e : Nat, cs[i * 35 + 1]? = some (u32n e)) ∧ ∃ v, cs[i * 35 + 34]? = some v ∧ URow w v ms
theorem GSec.keep {X : Nat → Obj → Prop} {w w' : World} {l : List (Nat × List Nat)} {cs : List Value} (h : GSec w l cs) (hk : Keep X w w') (hX : ∀ k cur, ¬ X k (.cells cur 22 (0, 0))) : GSec w' l cs :=
  ⟨h.len, h.one, fun i n ms hi => by
    obtain ⟨h1, h2, v, h3, h4⟩ := h.has i n ms hi
    exact ⟨h1, h2, v, h3, h4.keep hk hX⟩⟩
theorem GSec.nil (w : World) : GSec w [] [] := ⟨rfl, by simp, by simp⟩
theorem PSec.nil : PSec [] [] := ⟨rfl, by simp, by simp⟩
theorem PSec.snoc {ps : List Nat} {cs C : List Value} (h : PSec ps cs) {n : Nat} (hl : C.length = 33) (h1 : ∀ v ∈ C, v.oneCell' = true) (h0 : C[0]? = some (u32n n)) : PSec (ps ++ [n]) (cs ++ C) :=
  ⟨by simp [h.len, hl]; omega, fun v hv => by rcases List.mem_append.1 hv with hv | hv; exact h.one v hv; exact h1 v hv, fun i m hi => by
    have hlen := h.len
    rcases Nat.lt_or_ge i ps.length with hlt | hge
    · rw [List.getElem?_append_left hlt] at hi
      rw [List.getElem?_append_left (by omega)]
      exact h.has i m hi
    · rw [List.getElem?_append_right hge] at hi
      have : i = ps.length := by
        rcases Nat.lt_or_ge 0 (i - ps.length) with q | q
        · rw [List.getElem?_eq_none (by simp; omega)] at hi; cases hi
        · omega
      subst this
      simp at hi
      subst hi
      rw [List.getElem?_append_right (by omega), hlen, Nat.sub_self]
      exact h0⟩
theorem GSec.snoc {w : World} {l : List (Nat × List Nat)} {cs C : List Value} (h : GSec w l cs) {n e : Nat} {ms : List Nat} {v : Value} (hl : C.length = 35) (h1 : ∀ v ∈ C, v.oneCell' = true) (h0 : C[0]? = some (u32n n)) (he : C[1]? = some (u32n e)) (hv : C[34]? = some v) (hu : URow w v ms) : GSec w (l ++ [(n, ms)]) (cs ++ C) :=
  ⟨by simp [h.len, hl]; omega, fun v hv => by rcases List.mem_append.1 hv with hv | hv; exact h.one v hv; exact h1 v hv, fun i m ms' hi => by
    have hlen := h.len
    rcases Nat.lt_or_ge i l.length with hlt | hge
    · rw [List.getElem?_append_left hlt] at hi
      rw [List.getElem?_append_left (by omega), List.getElem?_append_left (by omega), List.getElem?_append_left (by omega)]
      exact h.has i m ms' hi
    · rw [List.getElem?_append_right hge] at hi
      have : i = l.length := by
        rcases Nat.lt_or_ge 0 (i - l.length) with q | q
        · rw [List.getElem?_eq_none (by simp; omega)] at hi; cases hi
        · omega
      subst this
      simp at hi
      obtain ⟨rfl, rfl⟩ := hi
      rw [List.getElem?_append_right (by omega), List.getElem?_append_right (by omega), List.getElem?_append_right (by omega), hlen, Nat.sub_self, Nat.add_sub_cancel_left, Nat.add_sub_cancel_left]
      exact ⟨h0, ⟨e, he⟩, v, hv, hu⟩⟩
theorem lt_of_get {α : Type} {l : List α} {i : Nat} {x : α} (h : l[i]? = some x) : i < l.length := (List.getElem?_eq_some_iff.1 h).1
/-- Other members. -/
theorem GSec.members {w : World} {l : List (Nat × List Nat)} {cs : List Value} (h : GSec w l cs) {i n : Nat} {ms ms' : List Nat} {v : Value} (hi : l[i]? = some (n, ms)) (hu : URow w v ms') : GSec w (l.set i (n, ms')) (cs.set (i * 35 + 34) v) :=
  ⟨by simp [h.len], fun u hu' => by
    rcases List.mem_or_eq_of_mem_set hu' with q | rfl
    · exact h.one u q
    · exact hu.one, fun j m ms2 hj => by
    have hlen := h.len
    have hlt := lt_of_get hi
    rw [List.getElem?_set] at hj
    split at hj
    · rename_i e
      subst e
      cases hj
      obtain ⟨h1, h2, _⟩ := h.has i _ _ hi
      rw [List.getElem?_set_ne (by omega), List.getElem?_set_ne (by omega), List.getElem?_set_self (by omega)]
      exact ⟨h1, h2, v, rfl, hu⟩
    · rename_i e
      rw [List.getElem?_set_ne (by omega), List.getElem?_set_ne (by omega), List.getElem?_set_ne (by omega)]
      exact h.has j m ms2 hj⟩
theorem over_get {xs cs : List Value} {off i : Nat} (hl : off + cs.length ≤ xs.length) : (over xs off cs)[i]? = if i < off then xs[i]? else if i < off + cs.length then cs[i - off]? else xs[i]? := by
  unfold over
  have h0 : (xs.take off).length = off := by simp; omega
  by_cases h1 : i < off
  · rw [if_pos h1, List.append_assoc, List.getElem?_append_left (by omega), List.getElem?_take, if_pos h1]
  · rw [if_neg h1, List.append_assoc, List.getElem?_append_right (by omega), h0]
    by_cases h2 : i < off + cs.length
    · rw [if_pos h2, List.getElem?_append_left (by omega)]
    · rw [if_neg h2, List.getElem?_append_right (by omega), List.getElem?_drop]
      congr 1
      omega
theorem over_one {xs cs : List Value} {off : Nat} (h1 : ∀ v ∈ xs, v.oneCell' = true) (h2 : ∀ v ∈ cs, v.oneCell' = true) : ∀ v ∈ over xs off cs, v.oneCell' = true := fun v hv => by
  unfold over at hv
  rcases List.mem_append.1 hv with hv | hv
  · rcases List.mem_append.1 hv with hv | hv
    · exact h1 v (List.mem_of_mem_take hv)
    · exact h2 v hv
  · exact h1 v (List.mem_of_mem_drop hv)
/-- A group's cells anew, its number and its members the same. -/
theorem GSec.anew {w : World} {l : List (Nat × List Nat)} {cs C : List Value} (h : GSec w l cs) {i n e : Nat} {ms : List Nat} {v : Value} (hi : l[i]? = some (n, ms)) (hl : C.length = 35) (h1 : ∀ v ∈ C, v.oneCell' = true) (h0 : C[0]? = some (u32n n)) (he : C[1]? = some (u32n e)) (hv : C[34]? = some v) (hu : URow w v ms) : GSec w l (over cs (i * 35) C) := by
  have hlt := lt_of_get hi
  have hlen := h.len
  have hfit : i * 35 + C.length ≤ cs.length := by omega
  refine ⟨by rw [over_length hfit, hlen], over_one h.one h1, fun j m ms2 hj => ?_⟩
  rw [over_get hfit, over_get hfit, over_get hfit]
  by_cases e1 : j = i
  · subst e1
    rw [hi] at hj; cases hj
    rw [if_neg (by omega), if_pos (by omega), if_neg (by omega), if_pos (by omega), if_neg (by omega), if_pos (by omega), Nat.sub_self, Nat.add_sub_cancel_left, Nat.add_sub_cancel_left]
    exact ⟨h0, ⟨e, he⟩, v, hv, hu⟩
  · have q := h.has j m ms2 hj
    rcases Nat.lt_or_ge j i with q1 | q1
    · rw [if_pos (by omega), if_pos (by omega), if_pos (by omega)]; exact q
    · rw [if_neg (by omega), if_neg (by omega), if_neg (by omega), if_neg (by omega), if_neg (by omega), if_neg (by omega)]; exact q

/-- The ring's block and its rows; all rows lie in blocks from b on. -/
structure RIn (w : World) (b X : Nat) (x : RX) (vp vg vm vs : Value) (pc gc mc sc : List Value) (ns : Nat) : Prop where
  cells : Arr w X 43 [.pointer none, vp, vg, vm, .slice none 0 0, vs]
  low : b ≤ X
  po : w.ownsRow b 111 33 vp x.ps.length pc
  ps : PSec x.ps pc
  go : w.ownsRow b 84 35 vg x.gs.length gc
  gs : GSec w x.gs gc
  mo : w.ownsRow b 81 35 vm x.ms.length mc
  ms : GSec w x.ms mc
  so : w.ownsRow b 119 3 vs ns sc
  ss : ∃ l : List Nat, sc = l.map u32n
/-- The document's ring x lies at X; at most s were seen. -/
def RingX (w : World) (b X : Nat) (x : RX) (s : Nat) : Prop := ∃ vp vg vm vs pc gc mc sc ns, RIn w b X x vp vg vm vs pc gc mc sc ns ∧ ns ≤ s
section
variable {w w' : World} {b X : Nat} {x : RX} {vp vg vm vs vp' vg' vm' vs' : Value} {pc gc mc sc pc' gc' mc' sc' : List Value} {ns ns' : Nat}
theorem RIn.keep {Y : Nat → Obj → Prop} (h : RIn w b X x vp vg vm vs pc gc mc sc ns) (hk : Keep Y w w') (hY : ∀ k cur t, t ∈ [22, 43, 111, 84, 81, 119] → ¬ Y k (.cells cur t (0, 0))) : RIn w' b X x vp vg vm vs pc gc mc sc ns :=
  ⟨h.cells.keep hk (hY _ _ _ (by decide)), h.low, hk.owns' h.po (fun _ _ _ => hY _ _ _ (by decide)), h.ps, hk.owns' h.go (fun _ _ _ => hY _ _ _ (by decide)), h.gs.keep hk (fun _ _ => hY _ _ _ (by decide)), hk.owns' h.mo (fun _ _ _ => hY _ _ _ (by decide)), h.ms.keep hk (fun _ _ => hY _ _ _ (by decide)),
   hk.owns' h.so (fun _ _ _ => hY _ _ _ (by decide)), h.ss⟩
theorem RIn.ext (h : RIn w b X x vp vg vm vs pc gc mc sc ns) (hk : Ext w w') : RIn w' b X x vp vg vm vs pc gc mc sc ns := h.keep hk (fun _ _ _ _ h => h)
theorem RIn.putP {ps' : List Nat} (h : RIn w b X x vp vg vm vs pc gc mc sc ns) (hk : Keep (TX b [43, 111]) w w') (hc : Arr w' X 43 [.pointer none, vp', vg, vm, .slice none 0 0, vs]) (ho : w'.ownsRow b 111 33 vp' ps'.length pc') (hs : PSec ps' pc') :
    RIn w' b X { x with ps := ps' } vp' vg vm vs pc' gc mc sc ns :=
  ⟨hc, h.low, ho, hs, hk.owns' h.go (fun _ _ _ => TX.no (by decide)), h.gs.keep hk (fun _ _ => TX.no (by decide)), hk.owns' h.mo (fun _ _ _ => TX.no (by decide)), h.ms.keep hk (fun _ _ => TX.no (by decide)), hk.owns' h.so (fun _ _ _ => TX.no (by decide)), h.ss⟩
theorem RIn.putG {gs' : List (Nat × List Nat)} (h : RIn w b X x vp vg vm vs pc gc mc sc ns) (hk : Keep (TX b [43, 84]) w w') (hc : Arr w' X 43 [.pointer none, vp, vg', vm, .slice none 0 0, vs]) (ho : w'.ownsRow b 84 35 vg' gs'.length gc') (hs : GSec w' gs' gc') :
    RIn w' b X { x with gs := gs' } vp vg' vm vs pc gc' mc sc ns :=
  ⟨hc, h.low, hk.owns' h.po (fun _ _ _ => TX.no (by decide)), h.ps, ho, hs, hk.owns' h.mo (fun _ _ _ => TX.no (by decide)), h.ms.keep hk (fun _ _ => TX.no (by decide)), hk.owns' h.so (fun _ _ _ => TX.no (by decide)), h.ss⟩
theorem RIn.putM {ms' : List (Nat × List Nat)} (h : RIn w b X x vp vg vm vs pc gc mc sc ns) (hk : Keep (TX b [43, 81]) w w') (hc : Arr w' X 43 [.pointer none, vp, vg, vm', .slice none 0 0, vs]) (ho : w'.ownsRow b 81 35 vm' ms'.length mc') (hs : GSec w' ms' mc') :
    RIn w' b X { x with ms := ms' } vp vg vm' vs pc gc mc' sc ns :=
  ⟨hc, h.low, hk.owns' h.po (fun _ _ _ => TX.no (by decide)), h.ps, hk.owns' h.go (fun _ _ _ => TX.no (by decide)), h.gs.keep hk (fun _ _ => TX.no (by decide)), ho, hs, hk.owns' h.so (fun _ _ _ => TX.no (by decide)), h.ss⟩
theorem RIn.putS (h : RIn w b X x vp vg vm vs pc gc mc sc ns) (hk : Keep (TX b [43, 119]) w w') (hc : Arr w' X 43 [.pointer none, vp, vg, vm, .slice none 0 0, vs']) (ho : w'.ownsRow b 119 3 vs' ns' sc') (hs : ∃ l : List Nat, sc' = l.map u32n) :
    RIn w' b X x vp vg vm vs' pc gc mc sc' ns' :=
  ⟨hc, h.low, hk.owns' h.po (fun _ _ _ => TX.no (by decide)), h.ps, hk.owns' h.go (fun _ _ _ => TX.no (by decide)), h.gs.keep hk (fun _ _ => TX.no (by decide)), hk.owns' h.mo (fun _ _ _ => TX.no (by decide)), h.ms.keep hk (fun _ _ => TX.no (by decide)), ho, hs⟩
theorem heads_of {a : Option Addr} {c : Nat} {l : List (Nat × List Nat)} {cs : List Value} (hr : Row 35 w a l.length c cs) (hs : GSec w l cs) : Heads 35 w a (l.map (·.1)) := fun hn => by
  obtain ⟨g, o, rfl, hc⟩ := hr.2.2.2.2 (by simpa using hn)
  refine ⟨g, o, rfl, fun i k hi => ?_⟩
  rw [List.getElem?_map] at hi
  cases hq : l[i]? with
  | none => rw [hq] at hi; cases hi
  | some p =>
    rw [hq] at hi
    cases hi
    exact hc _ _ (hs.has i p.1 p.2 hq).1
end
/-- The cells of a struct in a row, loaded. -/
theorem row_loads {P : Program} {sz : Nat} {w : World} {g off n c : Nat} {xs : List Value} (h : Row sz w (some ⟨g, off, none⟩) n c xs) (hn : 0 < n) {i k : Nat} (hi : i + k ≤ n * sz) : (loadCellsFrom ⟨g, off + i, none⟩ 0 k #[]).run P w = .ok ((xs.drop i).take k).toArray w := by
  have hl : ((xs.drop i).take k).length = k := by have := h.2.2.1; simp; omega
  have := run_loadCells_list (P := P) (w := w) ⟨g, off + i, none⟩ ((xs.drop i).take k) (fun j v hv => by
    rw [addr_add, Nat.add_assoc]
    refine h.cell rfl ?_ hn
    rw [List.getElem?_take] at hv
    split at hv
    · rwa [List.getElem?_drop] at hv
    · cases hv)
  rw [hl] at this
  exact this

theorem info_person : (Tryz.prog.info? 111).map (fun i => (i.zero, i.size, i.bytes)) = some (some (.agg (#[.int .u32 0] ++ Array.replicate 32 (.int .u8 0))), 33, 36) := by kernel_rfl
theorem info_group : (Tryz.prog.info? 84).map (fun i => (i.zero, i.size, i.bytes)) = some (some (.agg (#[.int .u32 0, .int .u32 0] ++ Array.replicate 32 (.int .u8 0) ++ #[.slice none 0 0])), 35, 64) := by kernel_rfl
theorem info_realm : (Tryz.prog.info? 81).map (fun i => (i.zero, i.size, i.bytes)) = some (some (.agg (#[.int .u32 0, .int .u32 0] ++ Array.replicate 32 (.int .u8 0) ++ #[.slice none 0 0])), 35, 64) := by kernel_rfl
theorem info_seen : (Tryz.prog.info? 119).map (fun i => (i.zero, i.size, i.bytes)) = some (some (.agg #[.int .u32 0, .int .u32 0, .int .u32 0]), 3, 12) := by kernel_rfl

/-- A struct is appended to a row. -/
theorem own_app {P : Program} {W : World} {b g n sz bytes : Nat} {e t : TypeId} {z v : Value} {xs C : List Value} (ht : P.underlying t = some (.slice e)) (hinfo : (P.info? e).map (fun i => (i.zero, i.size, i.bytes)) = some (some z, sz, bytes)) (hzs : z.cells.size = sz) (hsz : 0 < sz) (hbt : bytes ≤ 64)
    (hown : W.ownsRow b e sz v n xs) (hC : Arr W g e C) (hl : C.length = sz) (h1 : ∀ u ∈ C, u.oneCell' = true) (hn : n ≤ 1000000) (hb : b ≤ W.heap.size) :
    ∃ a' c' w', (Builtin.append_ #[t, t] t #[v, .slice (some ⟨g, 0, none⟩) 1 1]).run P W = .ok (.slice a' (n + 1) c') w' ∧ w'.ownsRow b e sz (.slice a' (n + 1) c') (n + 1) (xs ++ C) ∧ Keep (TX b [e]) W w' ∧ Keep (fun k _ => v.ownBlock = some k) W w' := by
  have hrow : Row sz W (some ⟨g, 0, none⟩) 1 1 C := ⟨Nat.le_refl _, by simp [maxLen], by omega, by simp, fun _ => ⟨g, 0, rfl, fun i u hu => by rw [Nat.zero_add]; exact hC.cell hu⟩⟩
  have hby : (n + 1) * bytes ≤ 140737488355328 := Nat.le_trans (Nat.mul_le_mul (show n + 1 ≤ 1000001 by omega) hbt) (by omega)
  obtain ⟨v', w', hrun, hown', hgrow, _⟩ := run_append_row (P := P) W b t t e z sz bytes ht hinfo hzs hsz hown hrow h1 (by unfold maxLen; omega) hby hb
  obtain ⟨a', c', rfl, _⟩ := owns_row hown'
  refine ⟨a', c', w', hrun, hown', Keep.of_grownBy hgrow (fun k o hk ho => ?_), Keep.of_grownBy hgrow (fun k o hk _ => hk.symm ▸ rfl)⟩
  rcases hown.2 with ⟨q, _⟩ | ⟨g', cap, cur, q, hbg, hgb, _⟩
  · rw [q] at hk; simp [Value.ownBlock] at hk
  · rw [q] at hk
    obtain rfl : g' = k := by simpa [Value.ownBlock] using hk
    rw [hgb] at ho; cases ho
    exact ⟨hbg, _, _, rfl, List.mem_singleton.2 rfl⟩
/-- A cell of a struct in a row is stored. -/
theorem own_set {w : World} {b sz n cap g j : Nat} {e : TypeId} {xs : List Value} {u : Value} (h : w.ownsRow b e sz (.slice (some ⟨g, 0, none⟩) n cap) n xs) : (w.setCell ⟨g, j, none⟩ u).ownsRow b e sz (.slice (some ⟨g, 0, none⟩) n cap) n (xs.set j u) ∧ Keep (TX b [e]) w (w.setCell ⟨g, j, none⟩ u) := by
  refine ⟨(h.stored j u).1, (Keep.refl _ w).setCell _ _ (fun o ho => ?_)⟩
  rcases h.2 with ⟨q, _⟩ | ⟨g', cap', cur, q, hbg, hgb, _⟩
  · cases q
  · cases q
    rw [hgb] at ho; cases ho
    exact ⟨hbg, _, _, rfl, List.mem_singleton.2 rfl⟩
/-- A struct of a row is stored. -/
theorem own_over {P : Program} {w : World} {b sz n cap g off : Nat} {e ty : TypeId} {xs C : List Value} (h : w.ownsRow b e sz (.slice (some ⟨g, 0, none⟩) n cap) n xs) (hi : (P.info? ty).map (·.size) = some C.length) (hfit : off + C.length ≤ n * sz) (h1 : ∀ v ∈ C, v.oneCell' = true) :
    ∃ w', (storeVar ty ⟨g, off, none⟩ (.agg C.toArray)).run P w = .ok () w' ∧ w'.ownsRow b e sz (.slice (some ⟨g, 0, none⟩) n cap) n (over xs off C) ∧ Keep (TX b [e]) w w' ∧ Keep (fun k _ => k = g) w w' := by
  have hxl := h.1
  rcases h.2 with ⟨q, _⟩ | ⟨g', cap', cur, q, hbg, hgb, hnc, hcm, hcs, htake⟩
  · cases q
  · cases q
    have hle : n * sz ≤ cap * sz := Nat.mul_le_mul_right _ hnc
    have hrun := run_storeCells_at (P := P) g off e C 0 cur w hgb (by omega) h1
    rw [Nat.add_zero] at hrun
    have hst : (storeVar ty ⟨g, off, none⟩ (.agg C.toArray)).run P w = .ok () (w.setRow g (cur.toList.take off ++ C ++ cur.toList.drop (off + C.length)).toArray) := by
      cases hq : P.info? ty with
      | none => simp [hq] at hi
      | some i =>
        have hs : C.length = i.size := by simp [hq] at hi; omega
        rw [hs] at hrun
        simp [storeVar, sizeOf, typeInfo, hq, Value.cells, hs, hrun]
    have hk := keep_setRow w g (cur.toList.take off ++ C ++ cur.toList.drop (off + C.length)).toArray
    have hcl : cur.toList.length = cap * sz := by rw [Array.length_toList, hcs]
    refine ⟨_, hst, ⟨by rw [over_length (by omega), hxl], .inr ⟨g, cap, (cur.toList.take off ++ C ++ cur.toList.drop (off + C.length)).toArray, rfl, hbg, setRow_heap w g cur _ e _ hgb, hnc, hcm, by simp; omega, ?_⟩⟩, hk.mono (fun k o ho hx => ?_), hk⟩
    · rw [← htake]
      unfold over
      show List.take (n * sz) (cur.toList.take off ++ C ++ cur.toList.drop (off + C.length)) = _
      have ha : (cur.toList.take off).length = off := by simp; omega
      rw [List.take_append, List.take_append, List.take_take, List.take_take, List.drop_take, List.length_append, ha, Nat.min_eq_right (show off ≤ n * sz by omega), Nat.min_eq_left (show off ≤ n * sz by omega), List.take_of_length_le (show C.length ≤ n * sz - off by omega)]
    · subst hx
      rw [hgb] at ho; cases ho
      exact ⟨hbg, _, _, rfl, List.mem_singleton.2 rfl⟩
end Go.Proofs.YtcmhgpgookiomaaGreat
namespace Go.Proofs.YtcmhgpgookiomaaGreat
open Go.RowKit Go.Shelf Go.Maps

attribute [local go_sem] Oper.semAt_some

/-- The ring is small. -/
structure BndX (x : RX) : Prop where
  p : x.ps.length ≤ 1000
  g : x.gs.length ≤ 1000
  m : x.ms.length ≤ 1000
  gm : ∀ q ∈ x.gs, q.2.length ≤ 1000
  mg : ∀ q ∈ x.ms, q.2.length ≤ 1000
section
variable {α : Type}
theorem getA_at : ∀ {l : List (Nat × α)} {i n : Nat} {v : α}, l[i]? = some (n, v) → n ∉ (l.map (·.1)).take i → getA l n = some v
  | [], _, _, _, h, _ => by simp at h
  | (k, u) :: l, 0, n, v, h, _ => by
    simp at h
    obtain ⟨rfl, rfl⟩ := h
    simp [getA]
  | (k, u) :: l, i + 1, n, v, h, h2 => by
    simp at h h2
    unfold getA
    rw [if_neg (fun e => h2.1 e.symm)]
    exact getA_at h (by simpa using h2.2)
theorem getA_no : ∀ {l : List (Nat × α)} {n : Nat}, n ∉ l.map (·.1) → getA l n = none
  | [], _, _ => rfl
  | (k, u) :: l, n, h => by
    simp at h
    unfold getA
    rw [if_neg (fun e => h.1 e.symm)]
    exact getA_no (by simpa using h.2)
theorem at_of_map {l : List (Nat × α)} {i n : Nat} (h : (l.map (·.1))[i]? = some n) : ∃ v, l[i]? = some (n, v) := by
  rw [List.getElem?_map] at h
  cases hq : l[i]? with
  | none => rw [hq] at h; cases h
  | some p => rw [hq] at h; cases h; exact ⟨p.2, rfl⟩
end
/-- A group's (realm's) struct in its row: where its members lie. -/
theorem sec_members {w : World} {a : Option Addr} {c : Nat} {l : List (Nat × List Nat)} {cs : List Value} (hr : Row 35 w a l.length c cs) (hs : GSec w l cs) {i n : Nat} {ms : List Nat} (hi : l[i]? = some (n, ms)) :
    ∃ g o v, a = some ⟨g, o, none⟩ ∧ w.cell? ⟨g, o + i * 35 + 34, none⟩ = some v ∧ w.cell? ⟨g, o + i * 35, none⟩ = some (u32n n) ∧ URow w v ms := by
  have hlt := lt_of_get hi
  obtain ⟨g, o, rfl, hc⟩ := hr.2.2.2.2 (by omega)
  obtain ⟨h1, _, v, h2, h3⟩ := hs.has i n ms hi
  exact ⟨g, o, v, rfl, by rw [Nat.add_assoc]; exact hc _ _ h2, hc _ _ h1, h3⟩

set_option maxRecDepth 20000 in
set_option maxHeartbeats 4000000 in
theorem reader11_any {w : World} {b X : Nat} {x : RX} {s : Nat} (h : RingX w b X x s) (hB : BndX x) (who realm : Nat) :
    Calls Tryz.prog 11 #[.pointer (some ⟨X, 0, none⟩), .int .u32 (who : Int), .int .u32 (realm : Int)] w fun e w' => (∃ t : Bool, e = .returned (.bool t) ∧ (t = true ↔ RdX x who realm)) ∧ w' = w := by
  obtain ⟨vp, vg, vm, vs, pc, gc, mc, sc, ns, h, _⟩ := h
  obtain ⟨am, cm, rfl, hrm⟩ := owns_row h.mo
  obtain ⟨ag, cg, rfl, hrg⟩ := owns_row h.go
  have hhm := heads_of hrm h.ms
  have hhg := heads_of hrg h.gs
  have c2 := h.cells.cell (i := 2) rfl
  have c3 := h.cells.cell (i := 3) rfl
  have hcm := realmX_any X am cm (x.ms.map (·.1)) realm w (by have := hB.m; simp; omega) (by simpa using c3) hhm
  have hcg := fun g : Nat => groupX_any X ag cg (x.gs.map (·.1)) g w (by have := hB.g; simp; omega) (by simpa using c2) hhg
  have HCM := Lib.hid hcm
  have HCG := Lib.hid hcg
  have HRM := Lib.hid hrm
  have HRG := Lib.hid hrg
  have HH := Lib.hid h
  have HB := Lib.hid hB
  clear hcm hcg hrm hrg h hB hhm hhg
  obtain ⟨M, hM⟩ : ∃ M, x.ms.length = M := ⟨_, rfl⟩
  obtain ⟨G, hG⟩ : ∃ G, x.gs.length = G := ⟨_, rfl⟩
  rw [hM] at c3
  rw [hG] at c2
  have HM := Lib.hid hM
  have HG := Lib.hid hG
  clear hM hG
  refine calls_cps fun R hR => ?_
  have HR := Lib.hid hR
  clear hR
  go_enter Tryz.func11, Tryz.ntmps11
  go_wp2_with fail
  refine HCM.out.mono ?_
  rintro e w' ⟨⟨r, rfl, (⟨i, hi, rfl, hni⟩ | ⟨hno, rfl⟩)⟩, rfl⟩
  · obtain ⟨rs, hrs⟩ := at_of_map hi
    obtain ⟨gm, om, vr, rfl, hcv, _, hur⟩ := sec_members HRM.out HH.out.ms hrs
    obtain ⟨ar, cr, rfl, hrow, _⟩ := hur
    have hrx : rdrX x realm = rs := by unfold rdrX; rw [getA_at hrs hni]; rfl
    have hlt : i < M := by have := lt_of_get hrs; have := HM.out; omega
    obtain ⟨n, hn⟩ : ∃ n, rs.length = n := ⟨_, rfl⟩
    have hn1 : n ≤ 1000 := by rw [← hn]; exact HB.out.mg _ (List.mem_of_getElem? hrs)
    rw [hn] at hcv hrow
    have hmc : M ≤ cm := by have := HRM.out.1; have := HM.out; omega
    have HN := Lib.hid hn
    have HRX := Lib.hid hrx
    have HROW := Lib.hid hrow
    clear hi hrs hni hrx hn hrow
    go_wp2
    go_loopw [25] (fun ix wr => ∃ k : Nat, k ≤ n ∧ ix = .int .i64 (k : Int) ∧ Hid (∀ g ∈ rs.take k, who ∉ memX x g) ∧ wr = w') (fun ix _ => n - (vI ix).toNat)
    case atStart => exact ⟨0, by omega, rfl, Lib.hid (by simp), rfl⟩
    case round =>
      obtain ⟨k, hk, rfl, HX, rfl⟩ := hrel
      by_cases hlt2 : k < n
      · obtain ⟨g, hg⟩ : ∃ g, rs[k]? = some g := ⟨_, List.getElem?_eq_getElem (by have := HN.out; omega)⟩
        obtain ⟨bb, oo, rfl, hcell⟩ := HROW.out.2.2.2.2 (by omega)
        have ck := hcell k (.int .u32 (g : Int)) (by rw [List.getElem?_map, hg]; rfl)
        have HGET := Lib.hid hg
        clear hcell hg
        go_wp2_with fail
        refine (HCG.out g).mono ?_
        rintro e w2 ⟨⟨r, rfl, (⟨j, hj, rfl, hnj⟩ | ⟨hno, rfl⟩)⟩, rfl⟩
        · obtain ⟨ms, hms⟩ := at_of_map hj
          obtain ⟨gg, og, vg, rfl, hcv2, _, hug⟩ := sec_members HRG.out HH.out.gs hms
          obtain ⟨ag, cgm, rfl, hrow2, _⟩ := hug
          have hgx : memX x g = ms := by unfold memX; rw [getA_at hms hnj]; rfl
          have hltj : j < G := by have := lt_of_get hms; have := HG.out; omega
          have hgc : G ≤ cg := by have := HRG.out.1; have := HG.out; omega
          have hhas := has_any ag cgm ms who w2 hrow2
          have h0 : (0 : Int) ≤ (j : Int) := by omega
          have HHAS := Lib.hid hhas
          have HGX := Lib.hid hgx
          clear hj hms hnj hgx hrow2 hhas
          go_wp2_with fail
          refine HHAS.out.mono ?_
          rintro e w3 ⟨rfl, rfl⟩
          by_cases hw : who ∈ ms
          · have hfin := HR.out (.returned (.bool true)) w3 ⟨⟨true, rfl, fun _ => ⟨g, by rw [HRX.out]; exact List.mem_of_getElem? HGET.out, by rw [HGX.out]; exact hw⟩, fun _ => rfl⟩, rfl⟩
            rw [show decide (who ∈ ms) = true from by simp [hw]]
            clear HR hw
            go_wp2
            exact hfin
          · have HX2 := Lib.hid (show ∀ g ∈ rs.take (k + 1), who ∉ memX x g by
              rw [List.take_add_one, HGET.out]
              intro q hq
              rcases List.mem_append.1 hq with hq | hq
              · exact HX.out q hq
              · obtain rfl : q = g := by simpa using hq
                rw [HGX.out]; exact hw)
            rw [show decide (who ∈ ms) = false from by simp [hw]]
            clear hw
            go_wp2
            go_roundw
            case rel => exact ⟨k + 1, by omega, by go_num, HX2, by first | trivial | rfl⟩
            case measure => simp [vI]; omega
        · have HX2 := Lib.hid (show ∀ g ∈ rs.take (k + 1), who ∉ memX x g by
            rw [List.take_add_one, HGET.out]
            intro q hq
            rcases List.mem_append.1 hq with hq | hq
            · exact HX.out q hq
            · obtain rfl : q = g := by simpa using hq
              unfold memX
              rw [getA_no hno]; simp)
          clear hno
          go_wp2
          go_roundw
          case rel => exact ⟨k + 1, by omega, by go_num, HX2, by first | trivial | rfl⟩
          case measure => simp [vI]; omega
      · obtain rfl : k = n := by omega
        have hfin := HR.out (.returned (.bool false)) wr ⟨⟨false, rfl, fun h => (by cases h), fun ⟨g, h1, h2⟩ => absurd h2 (by
          rw [HRX.out] at h1
          exact HX.out g (by rw [List.take_of_length_le (by have := HN.out; omega)]; exact h1))⟩, rfl⟩
        clear HR
        go_wp2
        exact hfin
  · have hfin := HR.out (.returned (.bool false)) w' ⟨⟨false, rfl, fun h => (by cases h), fun ⟨g, h1, h2⟩ => by
      unfold rdrX at h1
      rw [getA_no hno] at h1
      simp at h1⟩, rfl⟩
    clear HR hno
    go_wp2
    exact hfin
end Go.Proofs.YtcmhgpgookiomaaGreat
namespace Go.Proofs.YtcmhgpgookiomaaGreat
open Go.RowKit Go.Shelf Go.Maps

attribute [local go_sem] Oper.semAt_some

/-- A group's (realm's) struct in its row, loaded. -/
theorem sec_struct {w : World} {a : Option Addr} {c : Nat} {l : List (Nat × List Nat)} {cs : List Value} (hr : Row 35 w a l.length c cs) (hs : GSec w l cs) {i n : Nat} {ms : List Nat} (hi : l[i]? = some (n, ms)) :
    ∃ (g o : Nat) (C : List Value) (v : Value) (e : Nat), a = some ⟨g, o, none⟩ ∧ C.length = 35 ∧ (∀ u ∈ C, u.oneCell' = true) ∧ C[0]? = some (u32n n) ∧ C[1]? = some (u32n e) ∧ C[34]? = some v ∧ URow w v ms ∧ ∀ B, Ext w B → (loadCellsFrom ⟨g, o + i * 35, none⟩ 0 C.length #[]).run Tryz.prog B = .ok C.toArray B := by
  have hlt := lt_of_get hi
  have hlen := hs.len
  obtain ⟨g, o, rfl, hc⟩ := hr.2.2.2.2 (by omega)
  obtain ⟨h1, ⟨e, h2⟩, v, h3, h4⟩ := hs.has i n ms hi
  have hl : ((cs.drop (i * 35)).take 35).length = 35 := by simp; omega
  refine ⟨g, o, (cs.drop (i * 35)).take 35, v, e, rfl, hl, fun u hu => hs.one u (List.mem_of_mem_drop (List.mem_of_mem_take hu)), ?_, ?_, ?_, h4, fun B hB => ?_⟩
  · rw [List.getElem?_take, if_pos (by omega), List.getElem?_drop]; exact h1
  · rw [List.getElem?_take, if_pos (by omega), List.getElem?_drop]; exact h2
  · rw [List.getElem?_take, if_pos (by omega), List.getElem?_drop]; exact h3
  · rw [hl]
    exact row_loads (hr.ext hB) (by omega) (by omega)
/-- A person's struct in its row, loaded. -/
theorem sec_person {w : World} {a : Option Addr} {c : Nat} {l : List Nat} {cs : List Value} (hr : Row 33 w a l.length c cs) (hs : PSec l cs) {i n : Nat} (hi : l[i]? = some n) :
    ∃ (g o : Nat) (C : List Value), a = some ⟨g, o, none⟩ ∧ C.length = 33 ∧ (∀ u ∈ C, u.oneCell' = true) ∧ C[0]? = some (u32n n) ∧ ∀ B, Ext w B → (loadCellsFrom ⟨g, o + i * 33, none⟩ 0 C.length #[]).run Tryz.prog B = .ok C.toArray B := by
  have hlt := lt_of_get hi
  have hlen := hs.len
  obtain ⟨g, o, rfl, hc⟩ := hr.2.2.2.2 (by omega)
  have hl : ((cs.drop (i * 33)).take 33).length = 33 := by simp; omega
  refine ⟨g, o, (cs.drop (i * 33)).take 33, rfl, hl, fun u hu => hs.one u (List.mem_of_mem_drop (List.mem_of_mem_take hu)), ?_, fun B hB => ?_⟩
  · rw [List.getElem?_take, if_pos (by omega), List.getElem?_drop]; exact hs.has i n hi
  · rw [hl]
    exact row_loads (hr.ext hB) (by omega) (by omega)
theorem size_group : (Tryz.prog.info? 84).map (·.size) = some 35 := by kernel_rfl
theorem size_realm : (Tryz.prog.info? 81).map (·.size) = some 35 := by kernel_rfl
theorem size_person : (Tryz.prog.info? 111).map (·.size) = some 33 := by kernel_rfl
theorem all_of {C : List Value} (h : ∀ u ∈ C, u.oneCell' = true) : C.toArray.all (·.oneCell') = true := by
  rw [List.all_toArray, List.all_eq_true]; exact h

theorem rises_len (l : List Nat) (n : Nat) : (risesX l n).length = l.length + 1 := by
  induction l with
  | nil => rfl
  | cons x l ih =>
    unfold risesX
    split
    · rfl
    · rw [List.length_cons, ih, List.length_cons]

set_option maxRecDepth 20000 in
set_option maxHeartbeats 4000000 in
theorem reads64_any {w : World} {b X : Nat} {x : RX} {s : Nat} (h : RingX w b X x s) (hB : BndX x) (i n0 : Nat) (ms0 : List Nat) (hi : x.gs[i]? = some (n0, ms0)) :
    Calls Tryz.prog 64 #[.pointer (some ⟨X, 0, none⟩), .int .i64 (i : Int)] w fun e w' => (∃ v l, e = .returned v ∧ URow w' v l ∧ (∀ n ∈ l, n ∈ x.ms.map (·.1)) ∧ l.length ≤ 1000) ∧ Ext w w' := by
  obtain ⟨vp, vg, vm, vs, pc, gc, mc, sc, ns, h, _⟩ := h
  obtain ⟨am, cm, rfl, hrm⟩ := owns_row h.mo
  obtain ⟨ag, cg, rfl, hrg⟩ := owns_row h.go
  have c3 := h.cells.cell (i := 3) rfl
  have hlg : i < x.gs.length := lt_of_get hi
  obtain ⟨g0, o0, v0, rfl, _, hc0, _⟩ := sec_members hrg h.gs hi
  obtain ⟨M, hM⟩ : ∃ M, x.ms.length = M := ⟨_, rfl⟩
  obtain ⟨G, hG⟩ : ∃ G, x.gs.length = G := ⟨_, rfl⟩
  have hgc : x.gs.length ≤ cg := hrg.1
  have h2 := h.cells
  rw [hM] at c3 h2
  rw [hG] at h2 hlg hgc
  have hmc : M ≤ cm := by have := hrm.1; omega
  have hM1 : M ≤ 1000 := by have := hB.m; omega
  have HRM := Lib.hid hrm
  have HMS := Lib.hid h.ms
  have HCS := Lib.hid h2
  have HM := Lib.hid hM
  have HC0 := Lib.hid hc0
  clear hrm hrg h hB hM hG hi h2 hc0
  refine calls_cps fun R hR => ?_
  have HR := Lib.hid hR
  clear hR
  go_enter Tryz.func64, Tryz.ntmps64
  go_wp2
  go_loopw [5, 13] (fun out ix wr => ∃ (k m : Nat) (ao : Option Addr) (co : Nat) (l : List Nat), k ≤ M ∧ m ≤ k ∧ ix = .int .i64 (k : Int) ∧ out = .slice ao m co ∧ Hid (l.length = m) ∧ Hid (wr.ownsRow w.heap.size 22 1 (.slice ao m co) m (l.map u32n)) ∧ Hid (∀ n ∈ l, n ∈ x.ms.map (·.1)) ∧ Hid (Ext w wr)) (fun _ ix _ => M - (vI ix).toNat)
  case atStart => exact ⟨0, 0, none, 0, [], by omega, by omega, rfl, rfl, Lib.hid rfl, Lib.hid (World.ownsRow_nil _ _ _ _), Lib.hid (by simp), Lib.hid (Keep.refl _ _)⟩
  case round =>
    obtain ⟨k, m, ao, co, l, hk, hmk, rfl, rfl, HL, HOWN, HIN, HE⟩ := hrel
    by_cases hlt : k < M
    · obtain ⟨⟨n, rs⟩, hp⟩ : ∃ p, x.ms[k]? = some p := ⟨_, List.getElem?_eq_getElem (by have := HM.out; omega)⟩
      obtain ⟨gm, om, C, v, e, rfl, hCl, hC1, hC0, _, hC34, hU, hld⟩ := sec_struct HRM.out HMS.out hp
      obtain ⟨av, cv, rfl, hrow, hUa⟩ := hU
      have HP := Lib.hid (show n ∈ x.ms.map (·.1) from List.mem_map.2 ⟨_, List.mem_of_getElem? hp, rfl⟩)
      have hlk := Lib.hid (hld wr HE.out)
      have hiC := Lib.hid (show (Tryz.prog.info? 81).map (·.size) = some C.length by rw [size_realm, hCl])
      have hiC2 := Lib.hid (show (Tryz.prog.info? 81).map (·.size) = some C.toArray.size by rw [size_realm, List.size_toArray, hCl])
      have hCs := Lib.hid (show 35 = C.toArray.size by rw [List.size_toArray, hCl])
      have h1C := Lib.hid (all_of hC1)
      have HROW := Lib.hid hrow
      have HC00 := Lib.hid hC0
      have HC34 := Lib.hid hC34
      clear hp hCl hC1 hC0 hC34 hld hrow hUa
      go_wp2_with (first
        | (refine wpList_val (o := ⟨some 16, _, _, _, _, _⟩) (v := .agg C.toArray) ?_ ?_ ?_; exact exec_load_mid' rfl rfl hlk.out Tryz.underlying81 rfl hiC.out; rfl)
        | (refine wpList_skip0 (o := ⟨none, .store _ _ _, _, _, _, _⟩) (w' := wr.alloc (.cells C.toArray 81)) ?_ ?_ ?_ ?_; exact exec_store_new rfl rfl rfl hiC2.out hCs.out h1C.out; rfl; rfl; refine wpList_laid1 fun W eW hG => ?_)
        | fail)
      have aB : Arr W wr.heap.size 81 C := hG
      have hX : ∀ B, Ext W.drew B → Ext W B := fun B hB => ((Keep.refl _ W).drew).trans hB
      have d34 := fun g : FY.At (fun _ _ => False) W.drew => (aB.ext (hX _ g.ext)).cell HC34.out
      have d2 := fun g : FY.At (fun _ _ => False) W.drew => (HCS.out.ext ((HE.out.trans eW).trans (hX _ g.ext))).cell (i := 2) rfl
      have d0 := fun g : FY.At (fun _ _ => False) W.drew => Ext.cell ((HE.out.trans eW).trans (hX _ g.ext)) HC0.out
      have c00 := aB.cell HC00.out
      have hcall := fun B (hB : Ext W B) => has_any av cv rs n0 B (HROW.out.ext ((HE.out.trans eW).trans hB))
      have HCALL := Lib.hid hcall
      have HEW := Lib.hid eW
      have HX := Lib.hid hX
      have HA := Lib.hid c00
      clear hcall eW hG hX aB c00
      refine FY.wp_flow (X := fun _ _ => False) (0 :: 1 :: 2 :: 3 :: 4 :: 5 :: 6 :: 7 :: 8 :: 9 :: 10 :: []) (fun j => if j = 10 then .grows (fun v _ => v = .bool (decide (n0 ∈ rs))) (fun v => v = .bool (decide (n0 ∈ rs))) else .still) (by kernel_rfl) (by kernel_rfl) ?_
      iterate 10 (refine FY.flow_q rfl rfl rfl ?_; go_big_quiet_step (fail); refine wpQuiet_nil ?_)
      clear d34 d2 d0
      refine FY.flow_g rfl rfl rfl (by simp) ⟨_, rfl⟩ (fun _ _ _ h _ => h) (fun _ _ h => h) (fun w5 hE5 _ => ?_) (fun v hv => ?_)
      · have hcall := HCALL.out w5 (HX.out w5 hE5)
        go_wp2_with fail
        refine hcall.mono ?_
        rintro e w6 ⟨rfl, rfl⟩
        clear hcall
        go_wp2
        exact Keep.refl _ _
      subst hv
      simp only [Act.put, List.setIfInBounds_toArray, List.set_cons_succ, List.set_cons_zero]
      refine FY.flow_end (fun w5 hE5 _ => ?_)
      have hE5' := HX.out w5 hE5
      have cA := Ext.cell hE5' HA.out
      have hO5 := Ext.owns (HEW.out.trans hE5') HOWN.out
      obtain ⟨a3, c3', q, hrow3⟩ := owns_row hO5
      cases q
      have hrs := rises_any ao co l n w5 (by rw [HL.out]; exact hrow3) (by have := HL.out; omega)
      rw [HL.out] at hrs
      have HE5 := Lib.hid ((HE.out.trans HEW.out).trans hE5')
      have HRS := Lib.hid hrs
      have HO5 := Lib.hid hO5
      clear hE5 hE5' hO5 hrow3 hrs
      by_cases hq : n0 ∈ rs
      · rw [show decide (n0 ∈ rs) = true from by simp [hq]]
        clear hq
        go_wp2_with fail
        refine HRS.out.mono ?_
        rintro e w6 ⟨v6, rfl, hown6, e6⟩
        obtain ⟨a6, c6, rfl, _⟩ := owns_row hown6
        have hlr : (risesX l n).length = m + 1 := by rw [rises_len, HL.out]
        rw [hlr] at hown6
        have HO6 := Lib.hid (ownMono hown6 HE5.out.size)
        have HL6 := Lib.hid hlr
        rw [hlr]
        have HE6 := Lib.hid (HE5.out.trans e6)
        have HIN6 : Hid (∀ q ∈ risesX l n, q ∈ x.ms.map (·.1)) := Lib.hid (fun q hq => by
          rcases mem_rises.1 hq with rfl | hq
          · exact HP.out
          · exact HIN.out q hq)
        clear hown6 e6 hlr
        go_wp2
        go_roundw
        case rel => exact ⟨k + 1, m + 1, a6, c6, risesX l n, by omega, by omega, by go_num, rfl, HL6, HO6, HIN6, HE6⟩
        case measure => simp [vI]; omega
      · rw [show decide (n0 ∈ rs) = false from by simp [hq]]
        clear hq
        go_wp2
        go_roundw
        case rel => exact ⟨k + 1, m, ao, co, l, by omega, by omega, by go_num, rfl, HL, HO5, HIN, HE5⟩
        case measure => simp [vI]; omega
    · obtain rfl : k = M := by omega
      have hfin := HR.out (.returned (.slice ao m co)) wr ⟨⟨_, l, rfl, URow.of_own (by rw [HL.out]; exact HOWN.out), HIN.out, by have := HL.out; omega⟩, HE.out⟩
      clear HR
      go_wp2
      exact hfin
end Go.Proofs.YtcmhgpgookiomaaGreat
namespace Go.Proofs.YtcmhgpgookiomaaGreat
open Go.RowKit Go.Shelf Go.Maps

attribute [local go_sem] Oper.semAt_some

/-- Members are persons, readers are groups. -/
structure TightX (x : RX) : Prop where
  g : ∀ q ∈ x.gs, ∀ p ∈ q.2, p ∈ x.ps
  m : ∀ q ∈ x.ms, ∀ g ∈ q.2, g ∈ x.gs.map (·.1)
theorem exec_store_of {P : Program} {o : Oper} {a : Act} {w w' : World} {ty : TypeId} {x y : Operand} {p : Addr} {v : Value} (ho : o.op = .store ty x y) (hx : a.eval x = .pointer (some p)) (hy : a.eval y = v) (h : (storeVar ty p v).run P w = .ok () w') : (execOp a.eval o).run P w = .ok .skip w' := by
  unfold execOp
  simp only [ho, hx, hy, Instr.storeAt, Instr.sureAddr, Sem.run_bind, Sem.run_pure, Result.andThen_ok, h]
/-- A struct in the middle of a block is stored. -/
theorem arr_over {P : Program} {w : World} {g off : Nat} {e ty : TypeId} {xs C : List Value} (h : Arr w g e xs) (hi : (P.info? ty).map (·.size) = some C.length) (hfit : off + C.length ≤ xs.length) (h1 : ∀ v ∈ C, v.oneCell' = true) :
    (storeVar ty ⟨g, off, none⟩ (.agg C.toArray)).run P w = .ok () (w.setRow g (over xs off C).toArray) := by
  have hrun := run_storeCells_at (P := P) g off e C 0 xs.toArray w h (by simp; omega) h1
  rw [Nat.add_zero] at hrun
  cases hq : P.info? ty with
  | none => simp [hq] at hi
  | some i =>
    have hs : C.length = i.size := by simp [hq] at hi; omega
    rw [hs] at hrun
    simp [storeVar, sizeOf, typeInfo, hq, Value.cells, hs, hrun]
    unfold over
    rw [hs, List.append_assoc]

theorem first_at : ∀ {l : List Nat} {g : Nat}, g ∈ l → ∃ j, l[j]? = some g ∧ g ∉ l.take j
  | [], _, h => by cases h
  | x :: l, g, h => by
    by_cases e : g = x
    · exact ⟨0, by simp [e], by simp⟩
    · obtain ⟨j, h1, h2⟩ := first_at (show g ∈ l by simpa [e] using h)
      exact ⟨j + 1, by simpa using h1, by simp [e, h2]⟩
theorem first_unique {l : List Nat} {g i j : Nat} (h1 : l[i]? = some g) (h2 : g ∉ l.take i) (h3 : l[j]? = some g) (h4 : g ∉ l.take j) : i = j := by
  rcases Nat.lt_trichotomy i j with q | q | q
  · exact absurd (List.mem_of_getElem? (i := i) (by rw [List.getElem?_take, if_pos q]; exact h1)) h4
  · exact q
  · exact absurd (List.mem_of_getElem? (i := j) (by rw [List.getElem?_take, if_pos q]; exact h3)) h2
theorem own_form {w : World} {base size n : Nat} {e : TypeId} {v : Value} {xs : List Value} (h : w.ownsRow base e size v n xs) (hn : 0 < n) : ∃ g o cap, v = .slice (some ⟨g, o, none⟩) n cap ∧ o = 0 := by
  rcases h.2 with ⟨_, q⟩ | ⟨g, cap, _, q, _⟩
  · omega
  · exact ⟨g, 0, cap, q, rfl⟩
theorem own_over' {P : Program} {w : World} {b sz n cap g o off : Nat} {e ty : TypeId} {xs C : List Value} (ho : o = 0) (h : w.ownsRow b e sz (.slice (some ⟨g, o, none⟩) n cap) n xs) (hi : (P.info? ty).map (·.size) = some C.length) (hfit : off + C.length ≤ n * sz) (h1 : ∀ v ∈ C, v.oneCell' = true) :
    ∃ w', (storeVar ty ⟨g, o + off, none⟩ (.agg C.toArray)).run P w = .ok () w' ∧ w'.ownsRow b e sz (.slice (some ⟨g, o, none⟩) n cap) n (over xs off C) ∧ Keep (TX b [e]) w w' ∧ Keep (fun k _ => k = g) w w' := by
  subst ho
  rw [Nat.zero_add]
  exact own_over h hi hfit h1
theorem own_set' {w : World} {b sz n cap g o j : Nat} {e : TypeId} {xs : List Value} {u : Value} (ho : o = 0) (h : w.ownsRow b e sz (.slice (some ⟨g, o, none⟩) n cap) n xs) : (w.setCell ⟨g, o + j, none⟩ u).ownsRow b e sz (.slice (some ⟨g, o, none⟩) n cap) n (xs.set j u) ∧ Keep (TX b [e]) w (w.setCell ⟨g, o + j, none⟩ u) := by
  subst ho
  rw [Nat.zero_add]
  exact own_set h
theorem own_frozen {w : World} {b sz n cap g o : Nat} {e : TypeId} {xs : List Value} (h : w.ownsRow b e sz (.slice (some ⟨g, o, none⟩) n cap) n xs) (j : Nat) : w.frozen? ⟨g, j, none⟩ = false := by
  rcases h.2 with ⟨q, _⟩ | ⟨g', cap', cur, q, _, hg, _⟩
  · cases q
  · cases q
    simp [World.frozen?, hg]

set_option maxRecDepth 20000 in
set_option maxHeartbeats 8000000 in
theorem turn45_any {w : World} {b X : Nat} {x : RX} {s : Nat} (h : RingX w b X x s) (hB : BndX x) (hT : TightX x) (i n : Nat) (rs : List Nat) (hi : x.ms[i]? = some (n, rs)) :
    Calls Tryz.prog 45 #[.pointer (some ⟨X, 0, none⟩), .int .i64 (i : Int)] w fun e w' => e = .returned (.int .i64 0) ∧ RingX w' b X x s ∧ Keep (TX b [81]) w w' := by
  obtain ⟨vp, vg, vm, vs, pc, gc, mc, sc, ns, h, hns⟩ := h
  have hlm : i < x.ms.length := lt_of_get hi
  obtain ⟨gm, om, cm, rfl, hom⟩ := own_form h.mo (by omega)
  obtain ⟨_, _, q, hrm⟩ := owns_row h.mo
  cases q
  obtain ⟨ag, cg, rfl, hrg⟩ := owns_row h.go
  have hhg := heads_of hrg h.gs
  obtain ⟨_, _, C, v34, e, q, hCl, hC1, hC0, hCe, hC34, hU, hld⟩ := sec_struct hrm h.ms hi
  cases q
  have HOM := Lib.hid hom
  clear hom
  have hdraw := drawX_any X w (h.cells.cell (i := 0) rfl)
  unfold aggK at hdraw
  obtain ⟨Z, hZ⟩ : ∃ Z, key0.map u8v = Z := ⟨_, rfl⟩
  rw [hZ] at hdraw
  have hZl : Z.length = 32 := by rw [← hZ, List.length_map, key0_len]
  have h1Z : ∀ u ∈ Z, u.oneCell' = true := by rw [← hZ]; exact u8v_one _
  obtain ⟨M, hM⟩ : ∃ M, x.ms.length = M := ⟨_, rfl⟩
  obtain ⟨G, hG⟩ : ∃ G, x.gs.length = G := ⟨_, rfl⟩
  have hmc : M ≤ cm := by have := hrm.1; omega
  have hgc : G ≤ cg := by have := hrg.1; omega
  have hh := h
  rw [hM] at hh hlm
  rw [hG] at hh
  have hiZ := Lib.hid (show (Tryz.prog.info? 51).map (·.size) = some Z.toArray.size by rw [info_key, List.size_toArray, hZl])
  have hiZ2 := Lib.hid (show (Tryz.prog.info? 51).map (·.size) = some Z.length by rw [info_key, hZl])
  have hZs := Lib.hid (show 32 = Z.toArray.size by rw [List.size_toArray, hZl])
  have h1Z' := Lib.hid (all_of h1Z)
  have hiC := Lib.hid (show (Tryz.prog.info? 81).map (·.size) = some C.length by rw [size_realm, hCl])
  have hiC2 := Lib.hid (show (Tryz.prog.info? 81).map (·.size) = some C.toArray.size by rw [size_realm, List.size_toArray, hCl])
  have hCs := Lib.hid (show 35 = C.toArray.size by rw [List.size_toArray, hCl])
  have h1C := Lib.hid (all_of hC1)
  obtain ⟨K, hK⟩ : ∃ K, (C.drop 2).take 32 = K := ⟨_, rfl⟩
  have hKl : K.length = 32 := by rw [← hK]; simp; omega
  have hiK := Lib.hid (show (Tryz.prog.info? 51).map (·.size) = some K.toArray.size by rw [info_key, List.size_toArray, hKl])
  have hiK2 := Lib.hid (show (Tryz.prog.info? 51).map (·.size) = some K.length by rw [info_key, hKl])
  have hKs := Lib.hid (show 32 = K.toArray.size by rw [List.size_toArray, hKl])
  have h1K := Lib.hid (show K.toArray.all (·.oneCell') = true from all_of (fun u hu => hC1 u (by rw [← hK] at hu; exact List.mem_of_mem_drop (List.mem_of_mem_take hu))))
  have HCF := Lib.hid (And.intro hCl (And.intro hC1 (And.intro hC0 (And.intro hCe (And.intro hC34 hU)))))
  have HK := Lib.hid hK
  have HZF := Lib.hid (And.intro hZl h1Z)
  have HLD := Lib.hid hld
  have HH := Lib.hid hh
  have HI := Lib.hid hi
  have HB := Lib.hid hB
  have HT := Lib.hid hT
  have HM := Lib.hid hM
  have HG := Lib.hid hG
  have HRG := Lib.hid hrg
  have HHG := Lib.hid hhg
  have c3 := hh.cells.cell (i := 3) rfl
  clear hZ hZl h1Z hCl hC1 hC0 hCe hC34 hU hld hh h hi hB hT hM hG hrg hhg hrm hK hKl
  refine calls_cps fun R0 hR => ?_
  have HR := Lib.hid hR
  clear hR
  go_enter Tryz.func45, Tryz.ntmps45
  go_wp2_with fail
  refine hdraw.mono ?_
  rintro e1 w1 ⟨rfl, e1⟩
  clear hdraw
  have HE1 := Lib.hid e1
  have c3' := Ext.cell e1 c3
  have hlk := HLD.out
  clear c3 e1
  go_wp2_with (first
    | (refine wpList_skip0 (o := ⟨none, .store _ _ _, _, _, _, _⟩) (w' := w1.alloc (.cells Z.toArray 51)) ?_ ?_ ?_ ?_; exact exec_store_new rfl rfl rfl hiZ.out hZs.out h1Z'.out; rfl; rfl; refine wpList_laid1 fun W eW hG => ?_; have c3 := Ext.cell eW c3')
    | (refine wpList_val (o := ⟨some 27, _, _, _, _, _⟩) (v := .agg C.toArray) ?_ ?_ ?_; exact exec_load_mid' rfl rfl (HLD.out _ (HE1.out.trans eW)) Tryz.underlying81 rfl hiC.out; rfl)
    | (refine wpList_skip0 (o := ⟨none, .store _ _ _, _, _, _, _⟩) (w' := W.alloc (.cells C.toArray 81)) ?_ ?_ ?_ ?_; exact exec_store_new rfl rfl rfl hiC2.out hCs.out h1C.out; rfl; rfl; refine wpList_laid1 fun W2 eW2 hG2 => ?_)
    | (refine wpList_val (o := ⟨some 29, _, _, _, _, _⟩) (v := .agg K.toArray) ?_ ?_ ?_; exact exec_load_mid' rfl rfl (by rw [← HK.out]; exact load_part (off := 2) (show Arr W2 W.heap.size 81 C from hG2) (by have := HCF.out.1; omega)) Tryz.underlying51 rfl hiK2.out; rfl)
    | (refine wpList_skip0 (o := ⟨none, .store _ _ _, _, _, _, _⟩) (w' := W2.alloc (.cells K.toArray 51)) ?_ ?_ ?_ ?_; exact exec_store_new rfl rfl rfl hiK.out hKs.out h1K.out; rfl; rfl; refine wpList_laid1 fun W3 eW3 hG3 => ?_)
    | fail)
  have eW03 : Ext w W3 := ((HE1.out.trans eW).trans eW2).trans eW3
  have aZ : Arr W3 w1.heap.size 51 Z := (Arr.ext hG eW2).ext eW3
  have aM : Arr W3 W.heap.size 81 C := Arr.ext hG2 eW3
  have aK : Arr W3 W2.heap.size 51 K := hG3
  have hp5l : w.heap.size ≤ w1.heap.size := HE1.out.size
  have hp8l : w.heap.size ≤ W2.heap.size := by have := HE1.out.size; have := eW.size; have := eW2.size; omega
  have hp7 : w.heap.size ≤ W.heap.size := by have := HE1.out.size; have := eW.size; omega
  have h57 : w1.heap.size ≠ W.heap.size := by have := Keep.lt hG; omega
  have h87 : W2.heap.size ≠ W.heap.size := by have := Keep.lt hG2; omega
  obtain ⟨p5, hp5⟩ : ∃ p, w1.heap.size = p := ⟨_, rfl⟩
  obtain ⟨p7, hp7'⟩ : ∃ p, W.heap.size = p := ⟨_, rfl⟩
  obtain ⟨p8, hp8⟩ : ∃ p, W2.heap.size = p := ⟨_, rfl⟩
  rw [hp5] at aZ h57 hp5l
  rw [hp7'] at aM hp7 h57 h87
  rw [hp8] at aK h87 hp8l
  rw [hp5, hp7', hp8]
  have HE03 := Lib.hid eW03
  clear c3 c3' hlk hG hG2 hG3 eW eW2 eW3 eW03 hp5 hp7' hp8
  obtain ⟨e', he'⟩ : ∃ e' : Nat, (e + 1) % 4294967296 = e' := ⟨_, rfl⟩
  have d1 : ∀ g : FY.At (fun _ _ => False) W3.drew, g.w.cell? ⟨p7, 1, none⟩ = some (.int .u32 (e : Int)) := fun g => (aM.ext (((Keep.refl _ W3).drew).trans g.ext)).cell HCF.out.2.2.2.1
  refine FY.wp_flow (X := fun k _ => k = p7) (0 :: 1 :: 2 :: 3 :: 4 :: 5 :: 6 :: 7 :: []) (fun j => if j = 5 ∨ j = 7 then .bar else if j = 1 then .reads else .still) (by kernel_rfl) (by kernel_rfl) ?_
  iterate 1 (refine FY.flow_q rfl rfl rfl ?_; go_big_quiet_step (fail); refine wpQuiet_nil ?_)
  refine FY.flow_r rfl rfl rfl ?_; go_big_quiet_step (fail); refine wpQuiet_nil ?_
  iterate 1 (refine FY.flow_q rfl rfl rfl ?_; go_big_quiet_step (fail); refine wpQuiet_nil ?_)
  refine FY.flow_vq (v := .agg Z.toArray) rfl rfl rfl (fun w' hE => exec_load_row rfl rfl (aZ.keep (((Keep.refl _ W3).drew).trans hE) h57) Tryz.underlying51 rfl hiZ.out) ?_
  simp only [Act.put, List.setIfInBounds_toArray, List.set_cons_succ, List.set_cons_zero]
  iterate 1 (refine FY.flow_q rfl rfl rfl ?_; go_big_quiet_step (fail); refine wpQuiet_nil ?_)
  clear d1
  have hee : ((e : Int) + 1) % 4294967296 = (e' : Int) := by omega
  rw [hee]
  clear hee he'
  refine FY.flow_ba rfl rfl rfl (by kernel_rfl) (fun w5 hE5 _ => ?_)
  have hX5 : Ext W3 w5 := ((Keep.refl _ W3).drew).trans hE5
  have aM5 := aM.ext hX5
  have c71 := aM5.cell HCF.out.2.2.2.1
  have f71 := aM5.frozen 1
  have aM6 := aM5.set 1 (.int .u32 (e' : Int))
  obtain ⟨w6, hw6⟩ : ∃ w6, w5.setCell ⟨p7, 1, none⟩ (.int .u32 (e' : Int)) = w6 := ⟨_, rfl⟩
  have k56 : Keep (fun k _ => k = p7) w5 w6 := by rw [← hw6]; exact keep_setCell w5 p7 1 _
  rw [hw6] at aM6
  have HW6 := Lib.hid hw6
  have HK56 := Lib.hid k56
  have HX5 := Lib.hid hX5
  clear hw6 k56 hX5 hE5 aM5 aM
  go_wp2
  rw [HW6.out]
  refine ⟨HK56.out, ?_⟩
  clear c71 f71
  iterate 1 (refine FY.flow_q rfl rfl rfl ?_; go_big_quiet_step (fail); refine wpQuiet_nil ?_)
  refine FY.flow_ba rfl rfl rfl (by kernel_rfl) (fun w7 hE7 _ => ?_)
  have aM7 := aM6.ext hE7
  have hst7 := arr_over (P := Tryz.prog) (off := 2) (C := Z) (ty := 51) aM7 hiZ2.out (by have := HCF.out.1; have := HZF.out.1; simp; omega) HZF.out.2
  have aM8 := aM7.setRow (over (C.set 1 (.int .u32 (e' : Int))) 2 Z)
  have k78 := keep_setRow w7 p7 (over (C.set 1 (.int .u32 (e' : Int))) 2 Z).toArray
  obtain ⟨w8, hw8⟩ : ∃ w8, w7.setRow p7 (over (C.set 1 (.int .u32 (e' : Int))) 2 Z).toArray = w8 := ⟨_, rfl⟩
  rw [hw8] at hst7 aM8 k78
  obtain ⟨D, hD⟩ : ∃ D, over (C.set 1 (.int .u32 (e' : Int))) 2 Z = D := ⟨_, rfl⟩
  rw [hD] at aM8
  have HST7 := Lib.hid hst7
  have HK78 := Lib.hid k78
  clear hst7 hw8 k78 aM7
  go_wp2_with (first
    | (refine wpList_skip0 (o := ⟨none, .store _ _ _, _, _, _, _⟩) (w' := w8) ?_ ?_ ?_ ?_; exact exec_store_of rfl rfl rfl HST7.out; rfl; rfl)
    | fail)
  refine ⟨HK78.out, ?_⟩
  refine FY.flow_end (fun w9 hE9 _ => ?_)
  have hfit : 2 + Z.length ≤ (C.set 1 (.int .u32 (e' : Int))).length := by have := HCF.out.1; have := HZF.out.1; simp; omega
  have hDl : D.length = 35 := by rw [← hD, over_length hfit]; simp [HCF.out.1]
  have hDo : ∀ u ∈ D, u.oneCell' = true := by
    rw [← hD]
    refine over_one (fun u hu => ?_) HZF.out.2
    rcases List.mem_or_eq_of_mem_set hu with q | rfl
    · exact HCF.out.2.1 u q
    · rfl
  have hD0 : D[0]? = some (u32n n) := by
    rw [← hD, over_get hfit, if_pos (by omega), List.getElem?_set_ne (by omega)]
    exact HCF.out.2.2.1
  have hD1 : D[1]? = some (u32n e') := by
    rw [← hD, over_get hfit, if_pos (by omega), List.getElem?_set_self (by have := HCF.out.1; omega)]
    rfl
  have hD34 : D[34]? = some v34 := by
    rw [← hD, over_get hfit, if_neg (by omega), if_neg (by have := HZF.out.1; omega), List.getElem?_set_ne (by omega)]
    exact HCF.out.2.2.2.2.1
  have aM9 := aM8.ext hE9
  have hEw9 : Ext w w9 := ((((Keep.of_ext (X := fun k _ => k = p7) (HE03.out.trans HX5.out)).trans HK56.out).trans (Keep.of_ext hE7)).trans (HK78.out.trans (Keep.of_ext hE9))).mono (fun k o ho hx => by have := Keep.lt ho; omega)
  have aZ9 : Arr w9 p5 51 Z := ((((aZ.ext HX5.out).keep HK56.out h57).ext hE7).keep HK78.out h57).ext hE9
  have aK9 : Arr w9 p8 51 K := ((((aK.ext HX5.out).keep HK56.out h87).ext hE7).keep HK78.out h87).ext hE9
  have HDF := Lib.hid (And.intro hDl (And.intro hDo (And.intro hD0 (And.intro hD1 hD34))))
  have HEW9 := Lib.hid hEw9
  clear HK78 HST7 HK56 HW6 HX5 aM8 aM6 aZ aK hE7 hE9 hDl hDo hD0 hD1 hD34 hD hfit hEw9 h57 h87
  have d3 := fun g : FY.At (fun _ _ => False) w9.drew => (HH.out.ext (HEW9.out.trans (((Keep.refl _ w9).drew).trans g.ext))).cells.cell (i := 3) rfl
  have hiD := Lib.hid (show (Tryz.prog.info? 81).map (·.size) = some D.toArray.size by rw [size_realm, List.size_toArray, HDF.out.1])
  go_wp2
  refine FY.wp_flow (X := fun _ _ => False) (0 :: 1 :: 2 :: 3 :: 4 :: 5 :: 6 :: 7 :: []) (fun j => if j = 7 then .last else .still) (by kernel_rfl) (by kernel_rfl) ?_
  iterate 5 (refine FY.flow_q rfl rfl rfl ?_; go_big_quiet_step (fail); refine wpQuiet_nil ?_)
  refine FY.flow_vq (v := .agg D.toArray) rfl rfl rfl (fun w' hE => exec_load_row rfl rfl (aM9.ext (((Keep.refl _ w9).drew).trans hE)) Tryz.underlying81 rfl hiD.out) ?_
  simp only [Act.put, List.setIfInBounds_toArray, List.set_cons_succ, List.set_cons_zero]
  iterate 1 (refine FY.flow_q rfl rfl rfl ?_; go_big_quiet_step (fail); refine wpQuiet_nil ?_)
  clear d3
  refine FY.flow_l rfl rfl (by kernel_rfl) (fun w10 hE10 _ => ?_)
  have e910 : Ext w9 w10 := ((Keep.refl _ w9).drew).trans hE10
  have h10 := HH.out.ext (HEW9.out.trans e910)
  have hmo10 : w10.ownsRow b 81 35 (.slice (some ⟨gm, om, none⟩) M cm) M mc := by have := h10.mo; rw [HM.out] at this; exact this
  obtain ⟨w11, hst11, hown11, hk11, hkg11⟩ := own_over' (P := Tryz.prog) (off := i * 35) (C := D) (ty := 81) HOM.out hmo10 (by rw [size_realm, HDF.out.1]) (by have := HDF.out.1; omega) HDF.out.2.1
  have hgm : gm < w.heap.size := (HH.out.mo.lt gm rfl).2
  have h11 := h10.putM (ms' := x.ms) (hk11.mono (fun _ _ _ hx => hx.mono (by decide))) (h10.cells.keep hk11 (TX.no (by decide))) (by rw [HM.out]; exact hown11) ((h10.ms.keep hk11 (fun _ _ => TX.no (by decide))).anew HI.out HDF.out.1 HDF.out.2.1 HDF.out.2.2.1 HDF.out.2.2.2.1 HDF.out.2.2.2.2 ((HCF.out.2.2.2.2.2.ext (HEW9.out.trans e910)).keep hk11 (fun _ _ => TX.no (by decide))))
  have aM11 : Arr w11 p7 81 D := (aM9.ext e910).keep hkg11 (by omega)
  have aZ11 : Arr w11 p5 51 Z := (aZ9.ext e910).keep hkg11 (by omega)
  have aK11 : Arr w11 p8 51 K := (aK9.ext e910).keep hkg11 (by omega)
  have k011 : Keep (TX b [81]) w w11 := (Keep.of_ext (HEW9.out.trans e910)).trans hk11
  have c70 : w11.cell? ⟨p7, 0, none⟩ = some (.int .u32 (n : Int)) := aM11.cell HDF.out.2.2.1
  have c71 : w11.cell? ⟨p7, 1, none⟩ = some (.int .u32 (e' : Int)) := aM11.cell HDF.out.2.2.2.1
  have hbx := fun bl => boxX_any X w11 (h11.cells.cell (i := 0) rfl) bl Z K
  have HST11 := Lib.hid hst11
  have H11 := Lib.hid h11
  have HK011 := Lib.hid k011
  have HAM := Lib.hid aM11
  have HU11 := Lib.hid ((HCF.out.2.2.2.2.2.ext (HEW9.out.trans e910)).keep hk11 (fun _ _ => TX.no (by decide)))
  clear hst11 h11 k011 hown11 hk11 hkg11 hmo10 h10 e910 hE10 aM11 aM9 aZ9 aK9 hgm
  go_wp2_with (first
    | (refine wpList_skip0 (o := ⟨none, .store _ _ _, _, _, _, _⟩) (w' := w11) ?_ ?_ ?_ ?_; exact exec_store_of rfl rfl rfl HST11.out; rfl; rfl)
    | (refine wpList_val (o := ⟨some 52, _, _, _, _, _⟩) (v := .agg Z.toArray) ?_ ?_ ?_; exact exec_load_row rfl rfl aZ11 Tryz.underlying51 rfl hiZ.out; rfl)
    | (refine wpList_val (o := ⟨some 53, _, _, _, _, _⟩) (v := .agg K.toArray) ?_ ?_ ?_; exact exec_load_row rfl rfl aK11 Tryz.underlying51 rfl hiK.out; rfl)
    | fail)
  refine (hbx [_, _, _, _, _, _]).mono ?_
  rintro e2 w12 ⟨rfl, e12⟩
  have hu12 := HU11.out.ext e12
  obtain ⟨ar, cr, hv34, hrow, _⟩ := hu12
  obtain ⟨N, hN⟩ : ∃ N, rs.length = N := ⟨_, rfl⟩
  have hN1 : N ≤ 1000 := by rw [← hN]; exact HB.out.mg _ (List.mem_of_getElem? HI.out)
  rw [hN] at hv34 hrow
  have c734 : w12.cell? ⟨p7, 34, none⟩ = some (.slice ar N cr) := by rw [← hv34]; exact (HAM.out.ext e12).cell HDF.out.2.2.2.2
  have HROW := Lib.hid hrow
  have HN := Lib.hid hN
  have HAM12 := Lib.hid (HAM.out.ext e12)
  have H12 := Lib.hid (H11.out.ext e12)
  have HK012 := Lib.hid (HK011.out.trans (Keep.of_ext e12))
  have HSG := Lib.hid (HH.out.gs)
  clear hbx c70 c71 aZ11 aK11 e12 hrow hN HAM H11 HK011 HST11 HU11 hv34
  go_wp2
  clear c734
  go_loopw [61] (fun ix wr => ∃ k : Nat, k ≤ N ∧ ix = .int .i64 (k : Int) ∧ Hid (Ext w12 wr)) (fun ix _ => N - (vI ix).toNat)
  case atStart => exact ⟨0, by omega, rfl, Lib.hid (Keep.refl _ _)⟩
  case round =>
    obtain ⟨k, hk, rfl, HE⟩ := hrel
    by_cases hlt : k < N
    · obtain ⟨g, hg⟩ : ∃ g, rs[k]? = some g := ⟨_, List.getElem?_eq_getElem (by have := HN.out; omega)⟩
      obtain ⟨br, orr, rfl, hcell⟩ := HROW.out.2.2.2.2 (by omega)
      have ck := Ext.cell HE.out (hcell k (.int .u32 (g : Int)) (by rw [List.getElem?_map, hg]; rfl))
      have hgin : g ∈ x.gs.map (·.1) := HT.out.m _ (List.mem_of_getElem? HI.out) g (List.mem_of_getElem? hg)
      have hwr := H12.out.ext HE.out
      obtain ⟨_, _, q, hrgr⟩ := owns_row hwr.go
      have hrgr' : Row 35 wr ag x.gs.length cg gc := by cases q; rw [HG.out]; rw [HG.out] at hrgr; exact hrgr
      have hhr := heads_of hrgr' hwr.gs
      have c2 := hwr.cells.cell (i := 2) rfl
      obtain ⟨jx, hjx, hnj⟩ := first_at hgin
      obtain ⟨gms, hgms⟩ := at_of_map hjx
      have hjG : jx < G := by have := lt_of_get hgms; have := HG.out; omega
      obtain ⟨g2, o2, C2, v2, e2, rfl, h2l, h21, h20, h2e, _, _, h2ld⟩ := sec_struct hrgr' hwr.gs hgms
      have hcg := fun B (hB : Ext wr B) => groupX_any X (some ⟨g2, o2, none⟩) cg (x.gs.map (·.1)) g B (by have := HB.out.g; simp; omega) (by rw [List.length_map, HG.out]; exact Ext.cell hB c2) (fun hn => by
        obtain ⟨b1, o1, q1, hc1⟩ := hhr hn
        exact ⟨b1, o1, q1, fun i k hi => Ext.cell hB (hc1 i k hi)⟩)
      have hcg' : ∀ B, Ext wr B → Calls Tryz.prog 22 #[.pointer (some ⟨X, 0, none⟩), .int .u32 (g : Int)] B fun e w' => e = .returned (.int .i64 (jx : Int)) ∧ w' = B := fun B hB => (hcg B hB).mono (fun e w' h => by
        obtain ⟨⟨r, rfl, h⟩, rfl⟩ := h
        rcases h with ⟨i2, h2, rfl, h3⟩ | ⟨h2, _⟩
        · rw [first_unique h2 h3 hjx hnj]; exact ⟨rfl, rfl⟩
        · exact absurd hgin h2)
      have hrd := fun B (hB : Ext wr B) => readerX_any X B (Ext.cell hB (hwr.cells.cell (i := 0) rfl)) D C2 n e' g e2 HDF.out.1 h2l HDF.out.2.2.1 HDF.out.2.2.2.1 h20 h2e
      have d2 := fun g : FY.At (fun _ _ => False) wr.drew => (hwr.ext (((Keep.refl _ wr).drew).trans g.ext)).cells.cell (i := 2) rfl
      have aMr := HAM12.out.ext HE.out
      have hi2 := Lib.hid (show (Tryz.prog.info? 84).map (·.size) = some C2.length by rw [size_group, h2l])
      have HCG := Lib.hid hcg'
      have HRD := Lib.hid hrd
      have HLD2 := Lib.hid h2ld
      have hX : ∀ B, Ext wr.drew B → Ext wr B := fun B hB => ((Keep.refl _ wr).drew).trans hB
      have HX := Lib.hid hX
      clear hcg hcg' hrd h2l h21 h20 h2e h2ld hgms hjx hnj hgin hg hcell hrgr hrgr' q hhr hwr c2 hX
      go_wp2
      clear ck
      refine FY.wp_flow (X := fun _ _ => False) (0 :: 1 :: 2 :: 3 :: 4 :: 5 :: 6 :: 7 :: 8 :: 9 :: 10 :: 11 :: 12 :: []) (fun j => if j = 8 then .grows (fun v _ => v = .int .i64 (jx : Int)) (fun v => v = .int .i64 (jx : Int)) else if j = 11 then .grows (fun v _ => v = .int .i64 0) (fun v => v = .int .i64 0) else .still) (by kernel_rfl) (by kernel_rfl) ?_
      iterate 1 (refine FY.flow_q rfl rfl rfl ?_; go_big_quiet_step (fail); refine wpQuiet_nil ?_)
      refine FY.flow_vq (v := .agg D.toArray) rfl rfl rfl (fun w' hE => exec_load_row rfl rfl (aMr.ext (HX.out w' hE)) Tryz.underlying81 rfl hiD.out) ?_
      simp only [Act.put, List.setIfInBounds_toArray, List.set_cons_succ, List.set_cons_zero]
      iterate 6 (refine FY.flow_q rfl rfl rfl ?_; go_big_quiet_step (fail); refine wpQuiet_nil ?_)
      clear d2
      refine FY.flow_g rfl rfl rfl (by simp) ⟨_, rfl⟩ (fun _ _ _ h _ => h) (fun _ _ h => h) (fun w5 hE5 _ => ?_) (fun v hv => ?_)
      · have hcall := HCG.out w5 (HX.out w5 hE5)
        go_wp2_with fail
        refine hcall.mono ?_
        rintro e w6 ⟨rfl, rfl⟩
        clear hcall
        go_wp2
        exact Keep.refl _ _
      subst hv
      simp only [Act.put, List.setIfInBounds_toArray, List.set_cons_succ, List.set_cons_zero]
      iterate 1 (refine FY.flow_q rfl rfl rfl ?_; go_big_quiet_step (fail); refine wpQuiet_nil ?_)
      refine FY.flow_vq (v := .agg C2.toArray) rfl rfl rfl (fun w' hE => exec_load_mid' rfl rfl (HLD2.out w' (HX.out w' hE)) Tryz.underlying84 rfl hi2.out) ?_
      simp only [Act.put, List.setIfInBounds_toArray, List.set_cons_succ, List.set_cons_zero]
      refine FY.flow_g rfl rfl rfl (by simp) ⟨_, rfl⟩ (fun _ _ _ h _ => h) (fun _ _ h => h) (fun w5 hE5 _ => ?_) (fun v hv => ?_)
      · have hcall := HRD.out w5 (HX.out w5 hE5)
        go_wp2_with fail
        refine hcall.mono ?_
        rintro e w6 ⟨rfl, e6⟩
        clear hcall
        go_wp2
      subst hv
      simp only [Act.put, List.setIfInBounds_toArray, List.set_cons_succ, List.set_cons_zero]
      iterate 1 (refine FY.flow_q rfl rfl rfl ?_; go_big_quiet_step (fail); refine wpQuiet_nil ?_)
      refine FY.flow_end (fun w5 hE5 _ => ?_)
      have HE5 := Lib.hid (HE.out.trans (HX.out w5 hE5))
      clear hE5 aMr
      go_wp2
      go_roundw
      case rel => exact ⟨k + 1, by omega, by go_num, HE5⟩
      case measure => simp [vI]; omega
    · obtain rfl : k = N := by omega
      have hfin := HR.out (.returned (.int .i64 0)) wr ⟨rfl, ⟨_, _, _, _, _, _, _, _, _, H12.out.ext HE.out, hns⟩, HK012.out.trans (Keep.of_ext HE.out)⟩
      clear HR
      go_wp2
      exact hfin
end Go.Proofs.YtcmhgpgookiomaaGreat
