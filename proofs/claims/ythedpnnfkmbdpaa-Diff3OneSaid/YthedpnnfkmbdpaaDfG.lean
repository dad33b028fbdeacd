/-
  diff3: anchors, an iterator over the lines that all three have.
-/
import Derived.Test.YthedpnnfkmbdpaaDfF
import Derived.Test.YthedpnnfkmbdpaaLinG
import Derived.Test.YthedpnnfkmbdpaaRangeT
import Derived.Maps.OwnSet
namespace Go.Proofs.Ythedpnnfkmbdpaa
open Go.RowKit Go.Shelf Go.Maps

attribute [local go_sem] Oper.semAt_some

/-- Block B is a map of at most n entries: S says what it holds. -/
def IMap (P : Program) (k e : TypeId) (w : World) (B n : Nat) (S : Int → Option Int) : Prop :=
  ∃ D : DataW Unit, w.ownsMap P k (plainElem P e) B n D ∧ IsMap D ∧ ∀ i : Int, Maps.has D (.int .i64 i) = (S i).isSome ∧ D.atKey (.int .i64 i) (.lit (.int .i64 0)) = .lit (.int .i64 ((S i).getD 0))
section
variable {P : Program} {t k e : TypeId} {w : World} {B n : Nat} {S : Int → Option Int}
theorem IMap.made (P : Program) (k e : TypeId) (w : World) : IMap P k e (w.alloc (.map #[] 0)) w.heap.size 0 (fun _ => none) := ⟨_, World.ownsMap_made _ _ _ _, isMap_empty, fun _ => ⟨rfl, rfl⟩⟩
theorem IMap.block {X : Nat → Obj → Prop} {w' : World} (h : IMap P k e w B n S) (hk : Keep X w w') (hX : ∀ es c, ¬ X B (.map es c)) : IMap P k e w' B n S := by
  obtain ⟨D, ⟨es, clock, hb, rest⟩, h2⟩ := h
  exact ⟨D, ⟨es, clock, hk.block B _ hb (hX _ _), rest⟩, h2⟩
theorem IMap.ext {w' : World} (h : IMap P k e w B n S) (hk : Ext w w') : IMap P k e w' B n S := h.block hk (fun _ _ h => h)
theorem IMap.lt (h : IMap P k e w B n S) : B < w.heap.size := by obtain ⟨D, h1, _⟩ := h; exact h1.lt
theorem IMap.look (h : IMap P k e w B n S) (ht : P.underlying t = some (.map k e)) (hk : P.underlying k = some (.int .i64)) (he : P.underlying e = some (.int .i64)) (hz : (zeroValue e).run P w = .ok (.int .i64 0) w) {i : Int} (hi : (Lit.int .i64 i).wf = true) :
    (Instr.lookup t (.map (some B)) (.int .i64 i) true).run P w = .ok (.tuple #[.int .i64 ((S i).getD 0), .bool (S i).isSome]) w := by
  obtain ⟨D, h1, _, h3⟩ := h
  obtain ⟨v, ps, hrun, hv⟩ := h1.look_ok (int_keyed hk) ht hz (plainElem_int he (by decide)) (keyOf_int_mk hk hi)
  obtain ⟨c, rfl, hc, _⟩ := plainElem_int_inv he hv
  simp only [Prod.mk.injEq] at hc
  rw [(h3 i).2] at hc
  have := hc.1
  cases this
  rw [hrun, (h3 i).1]
theorem IMap.put (h : IMap P k e w B n S) (ht : P.underlying t = some (.map k e)) (hk : P.underlying k = some (.int .i64)) (he : P.underlying e = some (.int .i64)) (hn : n < maxLen) {i v : Int} (hi : (Lit.int .i64 i).wf = true) (hv : (Lit.int .i64 v).wf = true) :
    ∃ w', (Instr.mapUpdate t (.map (some B)) (.int .i64 i) (.int .i64 v)).run P w = .ok () w' ∧ IMap P k e w' B (n + 1) (fun j => if j = i then some v else S j) ∧ w.grownBy w' (some B) := by
  obtain ⟨D, h1, h2, h3⟩ := h
  obtain ⟨w', hrun, h4, h5⟩ := h1.update (int_keyed hk) ht hn (keyOf_int_mk hk hi) (plainElem_int he hv)
  refine ⟨w', hrun, ⟨_, h4, h2.put _ _, fun j => ?_⟩, h5⟩
  dsimp only
  by_cases hj : j = i
  · subst hj
    rw [if_pos rfl, has_put_same h2 (show WideAt.IsKeyLit (.int .i64 j) from trivial), atKey_put_same h2 (show WideAt.IsKeyLit (.int .i64 j) from trivial)]
    exact ⟨rfl, rfl⟩
  · rw [if_neg hj, has_put_other (by simpa using hj), atKey_put_other (by simpa using hj)]
    exact h3 j
end

/-- What the map holds behind the pairs l. -/
def sOf (l : List (Nat × Nat)) (i : Int) : Option Int := (l.find? (fun p => ((p.1 : Nat) : Int) == i)).map (fun p => ((p.2 : Nat) : Int))
theorem sOf_snoc {l : List (Nat × Nat)} {p : Nat × Nat} (h : ∀ q ∈ l, q.1 ≠ p.1) : sOf (l ++ [p]) = fun j => if j = ((p.1 : Nat) : Int) then some ((p.2 : Nat) : Int) else sOf l j := by
  funext j
  unfold sOf
  rw [List.find?_append]
  by_cases hj : j = ((p.1 : Nat) : Int)
  · subst hj
    rw [if_pos rfl]
    have : l.find? (fun q => ((q.1 : Nat) : Int) == ((p.1 : Nat) : Int)) = none := List.find?_eq_none.2 (fun q hq => by have := h q hq; simp; omega)
    rw [this]
    simp
  · rw [if_neg hj]
    cases l.find? (fun q => ((q.1 : Nat) : Int) == j) with
    | some q => rfl
    | none =>
      have : (((p.1 : Nat) : Int) == j) = false := by simp; omega
      simp [this]
theorem sOf_look (l : List (Nat × Nat)) (i : Nat) : sOf l (i : Int) = (lookL l i).map (fun k : Nat => (k : Int)) := by
  unfold sOf lookL
  have : (fun p : Nat × Nat => ((p.1 : Nat) : Int) == (i : Int)) = (fun p => p.1 == i) := by
    funext p
    by_cases h : p.1 = i
    · subst h; simp
    · have h1 : (((p.1 : Nat) : Int) == (i : Int)) = false := by simp; omega
      have h2 : (p.1 == i) = false := by simpa using h
      rw [h1, h2]
  rw [this, Option.map_map]
  rfl

theorem anchors_any (a1 a2 a3 : Option Addr) (n1 c1 n2 c2 n3 c3 : Nat) (w : World) : Calls Try.prog 35 #[.slice a1 n1 c1, .slice a2 n2 c2, .slice a3 n3 c3] w fun e w' =>
    e = .returned (.func (.func 41) #[] #[.pointer (some ⟨w.heap.size, 0, none⟩), .pointer (some ⟨w.heap.size + 1 + 1, 0, none⟩), .pointer (some ⟨w.heap.size + 1, 0, none⟩)]) ∧
      w' = ((w.alloc (.cells #[.slice a1 n1 c1] 22)).alloc (.cells #[.slice a2 n2 c2] 22)).alloc (.cells #[.slice a3 n3 c3] 22) := by
  go_enter Try.func35, Try.ntmps35
  go_wp2
  go_ret
  exact ⟨rfl, rfl⟩

/-- The places behind the first k lines that a and base have. -/
theorem midL_succ {p q : List (Nat × Nat)} {k : Nat} {u : Nat × Nat} (h : p[k]? = some u) : midL (p.take (k + 1)) q = midL (p.take k) q ++ (match lookL q u.1 with | some j => [(u.1, u.2, j)] | none => []) := by
  unfold midL
  rw [List.take_add_one, h, List.filterMap_append]
  congr 1
  cases hl : lookL q u.1 with
  | none => simp [hl]
  | some j => simp [hl]

set_option maxRecDepth 20000 in
set_option maxHeartbeats 8000000 in
theorem anchors1_iter (p1 p2 p3 : Nat) (a1 a2 a3 : Option Addr) (n1 c1 n2 c2 n3 c3 : Nat) (x a b : List ByteArray) (l1 : n1 ≤ 400) (l2 : n2 ≤ 400) (l3 : n3 ≤ 400) :
    IterT Try.prog 41 #[.pointer (some ⟨p1, 0, none⟩), .pointer (some ⟨p3, 0, none⟩), .pointer (some ⟨p2, 0, none⟩)] (anchL x a b).length
      (fun k _ args => ∃ t, (anchL x a b)[k]? = some t ∧ args = #[.agg #[.int .i64 (t.1 : Int), .int .i64 (t.2.1 : Int), .int .i64 (t.2.2 : Int)]])
      (fun A => Boxed A p1 22 (.slice a1 n1 c1) ∧ Boxed A p2 22 (.slice a2 n2 c2) ∧ Boxed A p3 22 (.slice a3 n3 c3) ∧ Row 1 A a1 n1 c1 (x.map Value.string) ∧ Row 1 A a2 n2 c2 (a.map Value.string) ∧ Row 1 A a3 n3 c3 (b.map Value.string))
      (fun b => b = p1 ∨ b = p2 ∨ b = p3) := by
  intro l' J W hPre hJ hY h0
  obtain ⟨bx1, bx2, bx3, r1, r2, r3⟩ := hPre
  have HX : Hid (x.length = n1) := Lib.hid (by have := r1.2.2.1; simpa using this)
  have HA : Hid (a.length = n2) := Lib.hid (by have := r2.2.2.1; simpa using this)
  have HB : Hid (b.length = n3) := Lib.hid (by have := r3.2.2.1; simpa using this)
  have hmm := @run_makeMap Try.prog
  have E0 : Ext W (W.alloc (.map #[] 0)) := (Keep.refl _ W).alloc _
  have m0 : IMap Try.prog 3 3 (W.alloc (.map #[] 0)) W.heap.size 0 (fun _ => none) := IMap.made _ _ _ W
  have hcom := common_any _ a1 a3 n1 c1 n3 c3 x b (r1.ext E0) (r3.ext E0) l1 l3
  obtain ⟨q, hq⟩ : ∃ q, commonL x 0 b 0 = q := ⟨_, rfl⟩
  rw [hq] at hcom
  obtain ⟨M, hM⟩ : ∃ M, q.length = M := ⟨_, rfl⟩
  have hMb : M ≤ 400 := by rw [← hM, ← hq, commonL_length]; have := lcs_le_length x b; have := HX.out; omega
  rw [hM] at hcom
  have HQ := Lib.hid hq
  have HM := Lib.hid hM
  clear hq hM
  refine callsIn_wide.1 (callsIn_of_wp (F := Fence.wide) (n := 3) Try.func41 rfl trivial ?_ rfl)
  simp only [Try.ntmps41, List.size_toArray, List.length_cons, List.length_nil, Nat.reduceAdd, Nat.reduceSub, Array.replicate_succ, Array.replicate_zero, List.push_toArray, List.append_toArray, List.nil_append, List.cons_append]
  refine wpIn_wide.2 (wp_scope_straight ((wpIn_wide (n := 3)).1 ?_))
  have cb1 := (E0.boxed bx1).cell
  have cb3 := (E0.boxed bx3).cell
  gi_wp2_with fail
  refine ⟨trivial, (callsIn_wide.2 hcom).mono ?_⟩
  rintro e w2 ⟨aq, cq, rfl, oq, e2⟩
  rw [World.size_alloc] at oq
  have E2 := E0.trans e2
  have m2 := m0.ext e2
  have hs2 : W.heap.size + 1 ≤ w2.heap.size := by have := e2.size; simp at this; omega
  obtain ⟨_, _, q1, rq⟩ := owns_row oq
  cases q1
  have hcq := rq.1
  have hcm := rq.2.1
  unfold maxLen at hcm
  have HUN : Hid (∀ (k : Nat) (u : Nat × Nat), q[k]? = some u → ∀ v ∈ q.take k, v.1 ≠ u.1) := Lib.hid (fun k u hu v hv => by
    have hp := cl_rises x 0 b 0
    rw [HQ.out] at hp
    obtain ⟨m, hm, he⟩ := List.mem_take_iff_getElem.1 hv
    have hk := (List.getElem?_eq_some_iff.1 hu).1
    have hpv := (List.getElem?_eq_some_iff.1 hu).2
    have := List.pairwise_iff_getElem.1 hp m k (by omega) hk (by omega)
    rw [he, hpv] at this; omega)
  have HBD : Hid (∀ (k : Nat) (u : Nat × Nat), q[k]? = some u → u.1 ≤ 400 ∧ u.2 ≤ 400) := Lib.hid (fun k u hu => by
    have hm := List.mem_of_getElem? hu
    rw [← HQ.out] at hm
    obtain ⟨_, _, s, s1, s2⟩ := cl_alike x 0 b 0 u hm
    have h1 := (List.getElem?_eq_some_iff.1 s1).1
    have h2 := (List.getElem?_eq_some_iff.1 s2).1
    have := HX.out; have := HB.out
    omega)
  have M2 : Hid (IMap Try.prog 3 3 w2 W.heap.size 0 (sOf (q.take 0))) := m2
  clear hcom m0 m2 e2 rq cb1 cb3
  gi_wp2
  gi_loopw [17] (fun ix wr => ∃ k : Nat, k ≤ M ∧ ix = .int .i64 k ∧ Hid (IMap Try.prog 3 3 wr W.heap.size k (sOf (q.take k))) ∧ wr.ownsRow (W.heap.size + 1) 27 2 (.slice aq M cq) M (pairsC q) ∧ Ext W wr ∧ W.heap.size + 1 ≤ wr.heap.size) (fun ix _ => M - (intOf ix).toNat)
  case atStart => exact ⟨0, by omega, rfl, M2, oq, E2, hs2⟩
  case round =>
    clear M2 oq E2 hs2
    obtain ⟨k, hk, rfl, MK, oq, hE, hsz⟩ := hrel
    by_cases hlt : k < M
    · obtain ⟨u, hu⟩ : ∃ u, q[k]? = some u := ⟨_, List.getElem?_eq_getElem (by have := HM.out; omega)⟩
      obtain ⟨_, _, q1, rq⟩ := owns_row oq
      cases q1
      obtain ⟨g1, g2⟩ := pairsC_get hu
      obtain ⟨bd1, bd2⟩ := HBD.out k u hu
      obtain ⟨bl, ol, rfl, hcl⟩ := rq.2.2.2.2 (by omega)
      have d1 := hcl _ _ g1
      have d2 := hcl _ _ g2
      rw [← Nat.add_assoc] at d2
      have hfr := HUN.out k u hu
      obtain ⟨u1, u2⟩ := u
      simp only at d1 d2 bd1 bd2 hfr
      have HU := Lib.hid hu
      have eA : Ext wr (wr.alloc (.cells #[.int .i64 (u1 : Int), .int .i64 (u2 : Int)] 27)) := (Keep.refl _ wr).alloc _
      obtain ⟨w', hrun, hm', hgrow⟩ := (MK.out.ext eA).put (t := 78) Try.underlying78 Try.underlying3 Try.underlying3 (by unfold maxLen; omega) (i := (u1 : Int)) (v := (u2 : Int)) (WalkArith.wf_i64 (by omega)) (WalkArith.wf_i64 (by omega))
      have hm'' : Hid (IMap Try.prog 3 3 w' W.heap.size (k + 1) (sOf (q.take (k + 1)))) := Lib.hid (by
        rw [List.take_add_one, hu]
        show IMap _ _ _ _ _ _ (sOf (q.take k ++ [(u1, u2)]))
        rw [sOf_snoc hfr]
        exact hm')
      have kG : Keep (fun b _ => b = W.heap.size) (wr.alloc (.cells #[.int .i64 (u1 : Int), .int .i64 (u2 : Int)] 27)) w' := Keep.of_grownBy hgrow (fun b o hb _ => by cases hb; rfl)
      have oq' := kG.owns' (Ext.owns eA oq) (fun b _ hb hx => by have := (oq.lt b hb).1; omega)
      have hE' : Ext W w' := ((Keep.of_ext (hE.trans eA)).trans kG).mono (fun b o ho hx => by have := Keep.lt ho; omega)
      have hsz' : W.heap.size + 1 ≤ w'.heap.size := by have := kG.size; have := eA.size; omega
      clear hcl g1 g2 hu hm' hgrow kG eA MK rq hfr hE oq
      gi_wp2
      go_roundw
      case rel => exact ⟨k + 1, by omega, by go_num, hm'', oq', hE', hsz'⟩
      case measure => simp [intOf]; omega
    · obtain rfl : k = M := by omega
      have hcom2 := common_any wr a1 a2 n1 c1 n2 c2 x a (r1.ext hE) (r2.ext hE) l1 l2
      obtain ⟨p, hp⟩ : ∃ p, commonL x 0 a 0 = p := ⟨_, rfl⟩
      rw [hp] at hcom2
      obtain ⟨N, hN⟩ : ∃ N, p.length = N := ⟨_, rfl⟩
      have hNb : N ≤ 400 := by rw [← hN, ← hp, commonL_length]; have := lcs_le_length x a; have := HX.out; omega
      rw [hN] at hcom2
      have HP := Lib.hid hp
      have HN := Lib.hid hN
      have cb1 := (hE.boxed bx1).cell
      have cb2 := (hE.boxed bx2).cell
      have MK' : Hid (IMap Try.prog 3 3 wr W.heap.size k (sOf q)) := Lib.hid (by have := MK.out; rwa [List.take_of_length_le (by have := HM.out; omega)] at this)
      clear hp hN MK oq hcq hcm HUN HBD
      gi_wp2
      refine wpIn_label ?_
      gi_wp2_with fail
      refine ⟨trivial, (callsIn_wide.2 hcom2).mono ?_⟩
      rintro e w3 ⟨ap, cp, rfl, op, e3⟩
      have hE3 := hE.trans e3
      have M3 : Hid (IMap Try.prog 3 3 w3 W.heap.size k (sOf q)) := Lib.hid (MK'.out.ext e3)
      have hT : W.heap.size + 1 ≤ w3.heap.size := Nat.le_trans hsz e3.size
      have hJ0 := h0 w3 hE3
      obtain ⟨T, hTe⟩ : ∃ T, w3.heap.size = T := ⟨_, rfl⟩
      have hopT : ∀ kk, (Value.slice ap N cp).ownBlock = some kk → W.heap.size + 1 ≤ kk ∧ kk < T := fun kk hk => by have := op.lt kk hk; omega
      rw [hTe] at hJ0 hT
      have hTle : T ≤ w3.heap.size := by omega
      have op' := owns_mono op (show 0 ≤ wr.heap.size from Nat.zero_le _)
      have B1 := Ext.boxed hE3 bx1
      have B2 := Ext.boxed hE3 bx2
      have B3 := Ext.boxed hE3 bx3
      obtain ⟨_, _, q1, rp⟩ := owns_row op'
      cases q1
      have hcp := rp.1
      have hcpm := rp.2.1
      unfold maxLen at hcpm
      have HANC : Hid (∀ (k : Nat) (u : Nat × Nat) (j : Nat), p[k]? = some u → lookL q u.1 = some j → (midL (p.take k) q).length < (anchL x a b).length ∧ (anchL x a b)[(midL (p.take k) q).length]? = some (u.1, u.2, j) ∧ (midL (p.take (k + 1)) q).length = (midL (p.take k) q).length + 1) := Lib.hid (fun k u j hu hj => by
        have h1 := midL_succ (q := q) hu
        rw [hj] at h1
        have h2 : midL p q = midL (p.take (k + 1)) q ++ midL (p.drop (k + 1)) q := by
          conv => lhs; rw [← List.take_append_drop (k + 1) p]
          unfold midL; rw [List.filterMap_append]
        have h3 : anchL x a b = midL (p.take k) q ++ ((u.1, u.2, j) :: (midL (p.drop (k + 1)) q ++ [(x.length, a.length, b.length)])) := by
          unfold anchL
          rw [HP.out, HQ.out, h2, h1]
          simp
        rw [h3, h1]
        refine ⟨by simp, ?_, by simp⟩
        rw [List.getElem?_append_right (Nat.le_refl _)]; simp)
      have HANN : Hid (∀ (k : Nat) (u : Nat × Nat), p[k]? = some u → lookL q u.1 = none → midL (p.take (k + 1)) q = midL (p.take k) q) := Lib.hid (fun k u hu hj => by
        have h1 := midL_succ (q := q) hu
        rw [hj] at h1
        simpa using h1)
      have HEND : Hid ((midL (p.take N) q).length + 1 = (anchL x a b).length ∧ (anchL x a b)[(midL (p.take N) q).length]? = some (n1, n2, n3)) := Lib.hid (by
        have h3 : anchL x a b = midL p q ++ [(x.length, a.length, b.length)] := by unfold anchL; rw [HP.out, HQ.out]
        rw [List.take_of_length_le (by have := HN.out; omega), h3]
        refine ⟨by simp, ?_⟩
        rw [List.getElem?_append_right (Nat.le_refl _), HX.out, HA.out, HB.out]; simp)
      have HPB : Hid (∀ (k : Nat) (u : Nat × Nat), p[k]? = some u → u.1 ≤ 400 ∧ u.2 ≤ 400) := Lib.hid (fun k u hu => by
        have hm := List.mem_of_getElem? hu
        rw [← HP.out] at hm
        obtain ⟨_, _, s, s1, s2⟩ := cl_alike x 0 a 0 u hm
        have h1 := (List.getElem?_eq_some_iff.1 s1).1
        have h2 := (List.getElem?_eq_some_iff.1 s2).1
        have := HX.out; have := HA.out
        omega)
      have hzi := fun A => (show (zeroValue 3).run Try.prog A = .ok (.int .i64 0) A by kernel_rfl)
      have HJ := Lib.hid hJ
      have HY := Lib.hid hY
      have HH0 : Hid (J T (midL (p.take 0) q).length w3) := hJ0
      have hWT : W.heap.size ≤ T := by omega
      clear hcom2 MK' bx1 bx2 bx3 r1 r2 r3 E0 hE hE3 e3 hsz hJ0 cb1 cb2 hJ hY h0 op rp HM hMb hlt hk
      gi_wp2
      gi_loopw [31] (fun ix wr => ∃ m : Nat, m ≤ N ∧ ix = .int .i64 m ∧ Hid (J T (midL (p.take m) q).length wr) ∧ Hid (IMap Try.prog 3 3 wr W.heap.size k (sOf q)) ∧ wr.ownsRow 0 27 2 (.slice ap N cp) N (pairsC p) ∧ Boxed wr p1 22 (.slice a1 n1 c1) ∧ Boxed wr p2 22 (.slice a2 n2 c2) ∧ Boxed wr p3 22 (.slice a3 n3 c3) ∧ T ≤ wr.heap.size) (fun ix _ => N - (intOf ix).toNat)
      case atStart => exact ⟨0, by omega, rfl, HH0, M3, op', B1, B2, B3, hTle⟩
      case round =>
        clear HH0 M3 op' B1 B2 B3 hTle
        obtain ⟨m, hm, rfl, HJm, Mm, om, B1, B2, B3, hTm⟩ := hrel
        by_cases hlt : m < N
        · obtain ⟨u, hu⟩ : ∃ u, p[m]? = some u := ⟨_, List.getElem?_eq_getElem (by have := HN.out; omega)⟩
          obtain ⟨_, _, q1, rp⟩ := owns_row om
          cases q1
          obtain ⟨g1, g2⟩ := pairsC_get hu
          obtain ⟨bd1, bd2⟩ := HPB.out m u hu
          obtain ⟨bl, ol, rfl, hcl⟩ := rp.2.2.2.2 (by omega)
          have d1 := hcl _ _ g1
          have d2 := hcl _ _ g2
          rw [← Nat.add_assoc] at d2
          have hanc := fun j => HANC.out m u j hu
          have hann := HANN.out m u hu
          obtain ⟨u1, u2⟩ := u
          simp only at d1 d2 bd1 bd2 hanc hann
          have eA : Ext wr (wr.alloc (.cells #[.int .i64 (u1 : Int), .int .i64 (u2 : Int)] 27)) := (Keep.refl _ wr).alloc _
          have hlook := (Mm.out.ext eA).look (t := 78) Try.underlying78 Try.underlying3 Try.underlying3 (hzi _) (i := (u1 : Int)) (WalkArith.wf_i64 (by omega))
          rw [sOf_look] at hlook
          have JA := HJ.out _ _ _ _ HJm.out eA
          have MA := Mm.out.ext eA
          have oA := Ext.owns eA om
          have C1 := Ext.boxed eA B1
          have C2 := Ext.boxed eA B2
          have C3 := Ext.boxed eA B3
          have hTA : T ≤ (wr.alloc (.cells #[.int .i64 (u1 : Int), .int .i64 (u2 : Int)] 27)).heap.size := Nat.le_trans hTm eA.size
          clear hcl g1 g2 hu rp HJm Mm om B1 B2 B3 hTm eA
          cases hlk : lookL q u1 with
          | none =>
            rw [hlk] at hlook
            have hml := hann hlk
            have JA' : Hid (J T (midL (p.take (m + 1)) q).length (wr.alloc (.cells #[.int .i64 (u1 : Int), .int .i64 (u2 : Int)] 27))) := Lib.hid (by rw [hml]; exact JA)
            have MA' := Lib.hid MA
            simp only [Option.map_none, Option.isSome_none, Option.getD_none] at hlook
            clear hanc hann hml JA MA hlk
            gi_wp2
            go_roundw
            case rel => exact ⟨m + 1, by omega, by go_num, JA', MA', oA, C1, C2, C3, hTA⟩
            case measure => simp [intOf]; omega
          | some j =>
            rw [hlk] at hlook
            obtain ⟨ha1, ha2, ha3⟩ := hanc j hlk
            simp only [Option.map_some, Option.isSome_some, Option.getD_some] at hlook
            have MA' := Lib.hid MA
            obtain ⟨fn, tmps, assign, body, hy, hRd⟩ := HY.out T _ _ #[.agg #[.int .i64 (u1 : Int), .int .i64 (u2 : Int), .int .i64 (j : Int)]] hWT hTA ha1 JA ⟨_, ha2, rfl⟩
            clear hanc hann JA MA hlk ha1 ha2
            gi_wp2
            refine (roundIn_wide hRd).mono ?_
            rintro e W3 ⟨rfl, hJ3, hK3⟩
            have B1 := hK3.boxed C1 (fun h => h.1 (.inl rfl))
            have B2 := hK3.boxed C2 (fun h => h.1 (.inr (.inl rfl)))
            have B3 := hK3.boxed C3 (fun h => h.1 (.inr (.inr rfl)))
            have M3 := Lib.hid (MA'.out.block hK3 (fun _ _ h => h.2 ⟨Nat.le_refl _, by omega⟩))
            have o3 := hK3.owns' oA (fun b _ hb h => h.2 (by have := hopT b hb; omega))
            have hT3 := Nat.le_trans hTA hK3.size
            have JJ : Hid (J T (midL (p.take (m + 1)) q).length W3) := Lib.hid (by rw [ha3]; exact hJ3)
            clear hRd hy hK3 C1 C2 C3 MA' oA hTA hJ3 ha3
            gi_wp2
            go_roundw
            case rel => exact ⟨m + 1, by omega, by go_num, JJ, M3, o3, B1, B2, B3, hT3⟩
            case measure => simp [intOf]; omega
        · obtain rfl : m = N := by omega
          have cb1 := B1.cell
          have cb2 := B2.cell
          have cb3 := B3.cell
          obtain ⟨fn, tmps, assign, body, hy, hRd⟩ := HY.out T _ _ #[.agg #[.int .i64 (n1 : Int), .int .i64 (n2 : Int), .int .i64 (n3 : Int)]] hWT hTm (by have := HEND.out.1; omega) HJm.out ⟨_, HEND.out.2, rfl⟩
          clear HANC HANN HPB Mm om B1 B2 B3
          gi_wp2
          refine (roundIn_wide hRd).mono ?_
          rintro e W3 ⟨rfl, hJ3, hK3⟩
          rw [HEND.out.1] at hJ3
          clear hRd hy
          gi_wp2
          try rw [Exit.noGoto_normal]
          go_end0
          exact ⟨⟨_, rfl⟩, T, hWT, hJ3⟩
end Go.Proofs.Ythedpnnfkmbdpaa
