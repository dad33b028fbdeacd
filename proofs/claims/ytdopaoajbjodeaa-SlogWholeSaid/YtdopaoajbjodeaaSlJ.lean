/-
  slog.Append.
-/
import Derived.Test.YtdopaoajbjodeaaSlI
import Derived.Test.YtdopaoajbjodeaaDkLts
namespace Go.Proofs.Ytdopaoajbjodeaa
open Go.RowKit Go.Shelf

attribute [local go_sem] Oper.semAt_some

/-- Writes, one behind the other, as far as they are answered with OK. -/
def runW : List (Nat × List UInt8) → DSt → Int × DSt
  | [], s => (0, s)
  | p :: r, s => if s.writeE (p.1 : Int) = 0 then runW r (s.write (p.1 : Int) p.2) else (s.writeE (p.1 : Int), s.write (p.1 : Int) p.2)
/-- The disk behind the first k writes. -/
def wS (l : List (Nat × List UInt8)) (s : DSt) (k : Nat) : DSt := (l.take k).foldl (fun s p => s.write (p.1 : Int) p.2) s
def okTo (l : List (Nat × List UInt8)) (s : DSt) (k : Nat) : Prop := ∀ j p, j < k → l[j]? = some p → (wS l s j).writeE (p.1 : Int) = 0
theorem wS_succ {l : List (Nat × List UInt8)} {s : DSt} {k : Nat} {p : Nat × List UInt8} (h : l[k]? = some p) : wS l s (k + 1) = (wS l s k).write (p.1 : Int) p.2 := by
  unfold wS
  rw [List.take_add_one, h]
  simp
theorem runW_from {l : List (Nat × List UInt8)} {s : DSt} : ∀ {k : Nat}, okTo l s k → k ≤ l.length → runW l s = runW (l.drop k) (wS l s k)
  | 0, _, _ => by simp [wS]
  | k + 1, h, hk => by
    rw [runW_from (k := k) (fun j p hj hp => h j p (by omega) hp) (by omega)]
    have hg : l[k]? = some l[k] := List.getElem?_eq_getElem (by omega)
    rw [List.drop_eq_getElem_cons (by omega), runW, if_pos (h k _ (by omega) hg), wS_succ hg]
theorem runW_ok {l : List (Nat × List UInt8)} {s : DSt} (h : okTo l s l.length) : runW l s = (0, wS l s l.length) := by
  rw [runW_from h (Nat.le_refl _), List.drop_length]; rfl
theorem runW_fail {l : List (Nat × List UInt8)} {s : DSt} {k : Nat} {p : Nat × List UInt8} (h : okTo l s k) (hp : l[k]? = some p) (he : (wS l s k).writeE (p.1 : Int) ≠ 0) : runW l s = ((wS l s k).writeE (p.1 : Int), (wS l s k).write (p.1 : Int) p.2) := by
  have hk : k < l.length := (List.getElem?_eq_some_iff.1 hp).1
  rw [runW_from h (by omega), List.drop_eq_getElem_cons hk]
  have : l[k] = p := (List.getElem?_eq_some_iff.1 hp).2
  rw [this, runW, if_neg he]
theorem write_cr (s : DSt) (i : Int) (b : List UInt8) : (s.write i b).cr = s.cr ∧ (s.write i b).wr ≤ s.wr + 1 ∧ (s.write i b).n = s.n := by
  unfold DSt.write DSt.put
  split
  · split
    · exact ⟨rfl, Nat.le_succ _, rfl⟩
    · exact ⟨rfl, Nat.le_refl _, rfl⟩
  · exact ⟨rfl, Nat.le_succ _, rfl⟩
theorem wS_cr (l : List (Nat × List UInt8)) (s : DSt) : ∀ k, (wS l s k).cr = s.cr ∧ (wS l s k).wr ≤ s.wr + k ∧ (wS l s k).n = s.n
  | 0 => by simp [wS]
  | k + 1 => by
    obtain ⟨h1, h2, h3⟩ := wS_cr l s k
    cases hp : l[k]? with
    | none =>
      have : wS l s (k + 1) = wS l s k := by unfold wS; rw [List.take_add_one, hp]; simp
      rw [this]
      exact ⟨h1, by omega, h3⟩
    | some p =>
      rw [wS_succ hp]
      obtain ⟨g1, g2, g3⟩ := write_cr (wS l s k) (p.1 : Int) p.2
      exact ⟨g1.trans h1, by omega, g3.trans h3⟩
theorem writes_64 {fr at' n g num : Nat} {b : List UInt8} {k : Nat} {p : Nat × List UInt8} (h : (writesL fr at' n g num b)[k]? = some p) : p.2.length = 64 := by
  have hm := List.mem_of_getElem? h
  unfold writesL at hm
  simp only [List.mem_append, List.mem_map, List.mem_singleton] at hm
  rcases hm with (⟨i, _, rfl⟩ | hm) | rfl
  · exact padTo_len64
  · split at hm
    · simp at hm; subst hm; rfl
    · simp at hm
  · exact firstL_length _ _ _

/-- What append does with a log and its disk. -/
def appL (st : LSt) (l : List UInt8) (d : DSt) : Int × LSt × DSt :=
  if st.br then (140, st, d) else if 262144 < l.length then (2, st, d) else if st.n - st.at' < spanN l.length then (141, st, d)
  else if (runW (writesL st.fr st.at' st.n st.gen.toNat st.recs.length l) d).1 = 0 then (0, st.took l, (runW (writesL st.fr st.at' st.n st.gen.toNat st.recs.length l) d).2)
  else ((runW (writesL st.fr st.at' st.n st.gen.toNat st.recs.length l) d).1, { st with br := true }, (runW (writesL st.fr st.at' st.n st.gen.toNat st.recs.length l) d).2)

/-- What a write may turn. -/
def diskX (TD : TypeId) (B gs : Nat) (k : Nat) (o : Obj) : Prop := (k = B ∧ ∃ cur, o = .cells cur TD (0, 0)) ∨ (k = gs ∧ ∃ cur, o = .cells cur 60 (0, 0))
theorem DA.turns {TD : TypeId} {fl : Bool} {w w' : World} {B gs gc : Nat} {s : DSt} (h : DA TD fl w B gs gc s) (hk : Keep (fun k _ => s.n ≠ 0 ∧ (k = B ∨ k = gs)) w w') : Keep (diskX TD B gs) w w' := by
  obtain ⟨ac, cc, cap, tl, e1, _, _, e4, _⟩ := h.ex
  refine hk.mono (fun k o ho hx => ?_)
  rcases hx.2 with rfl | rfl
  · rw [show w.heap[k]? = _ from e1] at ho
    cases ho; exact .inl ⟨rfl, _, rfl⟩
  · rw [show w.heap[k]? = _ from e4 (by omega)] at ho
    cases ho; exact .inr ⟨rfl, _, rfl⟩
/-- What append may turn. -/
def appX (T TD : TypeId) (B gs LB : Nat) (v : Value) (k : Nat) (o : Obj) : Prop :=
  diskX TD B gs k o ∨ (k = LB ∧ ∃ cur, o = .cells cur T (0, 0)) ∨ (v.ownBlock = some k ∧ ∃ cur, o = .cells cur 25 (0, 0))
def AppQ (T TD : TypeId) (ex : List Value) (DA' : World → DSt → Prop) (w : World) (LB B gs : Nat) (v : Value) (st : LSt) (l : List UInt8) (d : DSt) (e : Ending) (w' : World) : Prop :=
  ∃ v', e = .returned (.int .i64 (appL st l d).1) ∧ DA' w' (appL st l d).2.2 ∧ LA T ex w' LB B v' (appL st l d).2.1 ∧ Keep (appX T TD B gs LB v) w w' ∧ (v'.ownBlock = v.ownBlock ∨ ∀ k, v'.ownBlock = some k → w.heap.size ≤ k)

theorem writes_any (LB : Nat) (a : Option Addr) (m c : Nat) (w : World) : Calls Try.prog 33 #[.pointer (some ⟨LB, 0, none⟩), .slice a m c] w fun e w' =>
    e = .returned (.func (.func 46) #[] #[.pointer (some ⟨w.heap.size, 0, none⟩), .pointer (some ⟨w.heap.size + 1, 0, none⟩)]) ∧
      w' = (w.alloc (.cells #[.pointer (some ⟨LB, 0, none⟩)] 27)).alloc (.cells #[.slice a m c] 25) := by
  go_enter Try.func33, Try.ntmps33
  go_wp2
  go_ret
  exact ⟨rfl, rfl⟩

set_option maxRecDepth 20000 in
set_option maxHeartbeats 4000000 in
theorem append_any {w : World} {LB B gs gc : Nat} {v : Value} {st : LSt} {d : DSt} (h : PL w LB B v st) (hd : PD w B gs gc d) (a : Option Addr) (m c : Nat) (l : List UInt8) (hr : Row 1 w a m c (l.map u8v)) (hm : m ≤ 1000000)
    (hw : d.wr < 4000000000000000000) (hab : ∀ p, a = some p → 0 < m → p.block ≠ B ∧ p.block ≠ gs ∧ p.block ≠ LB) (hgc : 0 < d.cr.length → gc ≠ LB ∧ ∀ k, v.ownBlock = some k → gc ≠ k) :
    Calls Try.prog 14 #[.pointer (some ⟨LB, 0, none⟩), .slice a m c] w (AppQ 33 66 [.bool true] (fun w d => PD w B gs gc d) w LB B gs v st l d) := by
  have hll : l.length = m := by have := hr.2.2.1; simpa using this
  have hmc := hr.1
  obtain ⟨vs, o1, o2⟩ := h.own
  obtain ⟨av, cv, rfl, _⟩ := owns_row o1
  have hE0 : Ext w ((w.alloc (.cells #[.pointer (some ⟨LB, 0, none⟩)] 27)).alloc (.cells #[.int .i64 0] 37)) := ((Keep.refl _ w).alloc _).alloc _
  have b2 : Boxed ((w.alloc (.cells #[.pointer (some ⟨LB, 0, none⟩)] 27)).alloc (.cells #[.int .i64 0] 37)) w.heap.size 27 (.pointer (some ⟨LB, 0, none⟩)) := (Boxed.new w _ _).alloc _
  have b4 : Boxed ((w.alloc (.cells #[.pointer (some ⟨LB, 0, none⟩)] 27)).alloc (.cells #[.int .i64 0] 37)) (w.heap.size + 1) 37 (.int .i64 0) := by
    have := Boxed.new (w.alloc (.cells #[.pointer (some ⟨LB, 0, none⟩)] 27)) 37 (.int .i64 0)
    rw [World.size_alloc] at this
    exact this
  have h0 := h.ext hE0
  have hd0 := hd.ext hE0
  have k7 := h0.cells.cell (i := 7) rfl
  have k6 := h0.cells.cell (i := 6) rfl
  obtain ⟨br, hbr⟩ : ∃ x, st.br = x := ⟨_, rfl⟩
  rw [hbr] at k6
  refine calls_cps fun R hR => ?_
  have hlt0 : LB < w.heap.size := h.cells.lt
  refine calls_marks Try.func14 rfl ?_
  simp only [Try.ntmps14, List.size_toArray, List.length_cons, List.length_nil, Nat.reduceAdd, Nat.reduceSub, Array.replicate_succ, Array.replicate_zero, List.push_toArray, List.append_toArray, List.nil_append, List.cons_append]
  have f4 := b4.frozen
  have c4 := b4.cell
  -- the answer stands in the result's cell
  have hend : ∀ (x : Int), appL st l d = (x, st, d) → ∀ A, Ext w A → R (.returned (.int .i64 x)) A := by
    intro x ha A hEs
    refine hR _ _ ⟨_, ?_, ?_, ?_, ?_, .inl rfl⟩
    · rw [ha]
    · rw [ha]; exact hd.ext hEs
    · rw [ha]; exact h.ext hEs
    · exact Keep.of_ext hEs
  cases br with
  | true =>
    have hf := hend 140 (by unfold appL; rw [hbr]; rfl) ((w.alloc (.cells #[.pointer (some ⟨LB, 0, none⟩)] 27)).alloc (.cells #[.int .i64 140] 37)) (((Keep.refl _ w).alloc _).alloc _)
    clear hend hR h0 hd0 hE0 h hd o1 o2
    go_wp2
    refine mark0_ret (v := .int .i64 140) rfl (by simp [results, Try.results14, go_sem]) hf
  | false =>
    by_cases hlong : 262144 < m
    · have hl' : (262144 : Int) < (m : Int) := by omega
      have hf := hend 2 (by unfold appL; rw [hbr, if_neg (by simp), if_pos (by omega)]) ((w.alloc (.cells #[.pointer (some ⟨LB, 0, none⟩)] 27)).alloc (.cells #[.int .i64 2] 37)) (((Keep.refl _ w).alloc _).alloc _)
      clear hend hR h0 hd0 hE0 h hd o1 o2
      go_wp2
      refine mark0_ret (v := .int .i64 2) rfl (by simp [results, Try.results14, go_sem]) hf
    · have hl' : ¬ ((262144 : Int) < (m : Int)) := by omega
      go_wp2
      obtain ⟨W0, hW0⟩ : ∃ x, (w.alloc (.cells #[.pointer (some ⟨LB, 0, none⟩)] 27)).alloc (.cells #[.int .i64 0] 37) = x := ⟨_, rfl⟩
      have hsW : W0.heap.size = w.heap.size + 2 := by rw [← hW0]; simp
      rw [hW0] at b2 b4 h0 hd0 hE0 k7 k6 f4 c4 ⊢
      obtain ⟨p2, hp2⟩ : ∃ x, w.heap.size = x := ⟨_, rfl⟩
      rw [hp2] at b2 b4 f4 c4 hsW hlt0 ⊢
      clear hW0 f4 c4 k6 k7
      have hspan := fun A => span_any (m : Int) A (by omega)
      rw [spanZ_nat] at hspan
      have hsp := spanN_pos (n := m) (by omega)
      have hspl := spanN_le m
      obtain ⟨SN, hSN⟩ : ∃ x, spanN m = x := ⟨_, rfl⟩
      obtain ⟨RM, hRM⟩ : ∃ x, st.n - st.at' = x := ⟨_, rfl⟩
      have hroom := fun A (hA : Ext W0 A) => room_any (h0.ext hA)
      rw [hSN] at hspan hsp hspl
      rw [hRM] at hroom
      have HSP := Lib.hid hspan
      have HRO := Lib.hid hroom
      clear hspan hroom
      have c2 := b2.cell
      have hDs : ∀ g : FY.At (fun _ _ => False) W0.drew, Ext W0 g.w := fun g => ((Keep.refl _ W0).drew).trans g.ext
      have d2 := fun g => Ext.cell (hDs g) c2
      clear hDs c2
      refine FY.wp_flow (X := fun _ _ => False) (0 :: 1 :: 2 :: 3 :: 4 :: 5 :: 6 :: []) (fun n => if n = 2 then .grows (Is (.int .i64 (SN : Int))) (IsSh (.int .i64 (SN : Int))) else if n = 4 then .grows (Is (.int .i64 (RM : Int))) (IsSh (.int .i64 (RM : Int))) else .reads) (by kernel_rfl) (by kernel_rfl) ?_
      iterate 2 (refine FY.flow_r rfl rfl rfl ?_; go_big_quiet_step (fail); refine wpQuiet_nil ?_)
      refine FY.flow_g rfl rfl rfl (by simp) ⟨_, rfl⟩ (fun _ _ _ h hE => h) (fun _ _ h => h) (fun w5 hE5 _ => ?_) (fun v hv => ?_)
      · have hc := HSP.out w5
        go_wp2_with fail
        refine hc.mono ?_
        rintro e w6 ⟨rfl, rfl⟩
        go_wp2
        first | exact ⟨Keep.refl _ _, rfl⟩ | exact rfl
      cases hv
      simp only [Act.put, List.setIfInBounds_toArray, List.set_cons_succ, List.set_cons_zero]
      refine FY.flow_r rfl rfl rfl ?_; go_big_quiet_step (fail); refine wpQuiet_nil ?_
      refine FY.flow_g rfl rfl rfl (by simp) ⟨_, rfl⟩ (fun _ _ _ h hE => h) (fun _ _ h => h) (fun w5 hE5 _ => ?_) (fun v hv => ?_)
      · have hc := HRO.out w5 (((Keep.refl _ W0).drew).trans hE5)
        go_wp2_with fail
        refine hc.mono ?_
        rintro e w6 ⟨rfl, hE6⟩
        go_wp2
        first | exact ⟨hE6, rfl⟩ | exact rfl
      cases hv
      simp only [Act.put, List.setIfInBounds_toArray, List.set_cons_succ, List.set_cons_zero]
      iterate 2 (refine FY.flow_r rfl rfl rfl ?_; go_big_quiet_step (fail); refine wpQuiet_nil ?_)
      refine FY.flow_end (fun W2 hE2 _ => ?_)
      replace hE2 : Ext W0 W2 := ((Keep.refl _ W0).drew).trans hE2
      have e4 := Ext.boxed hE2 b4
      have e2 := Ext.boxed hE2 b2
      have hEw2 := hE0.trans hE2
      by_cases hfull : RM < SN
      · have hfull' : (RM : Int) < (SN : Int) := by omega
        have f4 := e4.frozen
        have c4 := e4.cell
        have hf := hend 141 (by unfold appL; rw [hbr, if_neg (by simp), if_neg (by omega), if_pos (by rw [hll, hSN, hRM]; exact hfull)]) (W2.setCell ⟨p2 + 1, 0, none⟩ (.int .i64 141)) (hEw2.setCell _ _ (fun o ho => by have := Keep.lt ho; replace this : p2 + 1 < w.heap.size := this; omega))
        have cc := (e4.set (.int .i64 141)).cell
        clear hend hR h0 hd0 hE0 h hd o1 o2 d2
        go_wp2
        refine mark0_ret (v := .int .i64 141) rfl (by simp [results, Try.results14, go_sem]; rw [cc]) hf
      · have hfull' : ¬ ((RM : Int) < (SN : Int)) := by omega
        have c2 := e2.cell
        clear hend d2
        go_wp2_with fail
        refine (writes_any LB a m c W2).mono ?_
        rintro e w3 ⟨rfl, hw3⟩
        have HW3 := Lib.hid hw3
        clear hw3
        go_wp2_with fail
        have hw3 := HW3.out
        have hE3 : Ext W2 w3 := by rw [hw3]; exact ((Keep.refl _ _).alloc _).alloc _
        have hs3 : w3.heap.size = W2.heap.size + 2 := by rw [hw3]; simp
        have bL : Boxed w3 W2.heap.size 27 (.pointer (some ⟨LB, 0, none⟩)) := by rw [hw3]; exact (Boxed.new W2 _ _).alloc _
        have bB : Boxed w3 (W2.heap.size + 1) 25 (.slice a m c) := by
          rw [hw3]; have := Boxed.new (W2.alloc (.cells #[.pointer (some ⟨LB, 0, none⟩)] 27)) 25 (.slice a m c); rw [World.size_alloc] at this; exact this
        have hEw3 := hEw2.trans hE3
        have hsz2 := hE2.size
        clear hw3
        obtain ⟨q2, hq2⟩ : ∃ x, W2.heap.size = x := ⟨_, rfl⟩
        rw [hq2] at bL bB hs3 hsz2 ⊢
        obtain ⟨lB, lG, lC⟩ := hd.lts
        have hLBB : LB ≠ B := fun he => by
          obtain ⟨_, _, _, _, e1, _⟩ := hd.ex
          have := h.cells
          rw [he] at this
          have h2 : w.heap[B]? = _ := this
          rw [show w.heap[B]? = _ from e1] at h2
          cases h2
        have hLBG : d.n ≠ 0 → LB ≠ gs := fun h0 he => by
          obtain ⟨_, _, _, _, _, _, _, e4, _⟩ := hd.ex
          have := h.cells
          rw [he] at this
          have h2 : w.heap[gs]? = _ := this
          rw [show w.heap[gs]? = _ from e4 (by omega)] at h2
          have h3 := congrArg (fun o : Option Obj => match o with | some (.cells _ t _) => t | _ => 0) h2
          exact absurd (show (60 : Nat) = 33 from h3) (by decide)
        have e23 := Ext.boxed hE3 e2
        have e43 := Ext.boxed hE3 e4
        have habx : ∀ p, a = some p → 0 < m → p.block < w.heap.size := fun p hp hl => by
          obtain ⟨b, off, h1, h2⟩ := hr.2.2.2.2 hl
          rw [hp] at h1; cases h1
          exact World.block_lt_of_cell? w _ (h2 0 _ (List.getElem?_eq_getElem (by simp; omega)))
        have hreg := h.reg
        have hle := h.le
        have hfew := h.few
        have hC3 := (h.ext hEw3).cells
        obtain ⟨WL, hWL⟩ : ∃ x, writesL st.fr st.at' st.n st.gen.toNat st.recs.length l = x := ⟨_, rfl⟩
        have hit := writes_iter q2 (q2 + 1) LB a m c l B st.fr st.n st.at' st.gen av st.recs.length cv st.br (by omega) (by omega) (by rw [hSN]; omega) hfew
        have hwl64 : ∀ (k : Nat) (p : Nat × List UInt8), WL[k]? = some p → p.2.length = 64 := fun k p hp => by rw [← hWL] at hp; exact writes_64 hp
        have hWLn : WL.length ≤ 4100 := by rw [← hWL, writes_len, hll, hSN]; split <;> omega
        unfold encW at hit
        rw [hWL] at hit
        have hpl : ∀ A, Keep (diskX 66 B gs) w A → PL A LB B (.slice av st.recs.length cv) st := fun A hA =>
          h.keep hA (fun cur hx => by rcases hx with ⟨_, _, hx⟩ | ⟨_, _, hx⟩ <;> cases hx) (fun k cur _ hx => by rcases hx with ⟨_, _, hx⟩ | ⟨_, _, hx⟩ <;> cases hx) (fun k cur hx => by rcases hx with ⟨_, _, hx⟩ | ⟨_, _, hx⟩ <;> cases hx)
        have hrow : ∀ A, Keep (diskX 66 B gs) w A → Row 1 A a m c (l.map u8v) := fun A hA => by
          refine ⟨hr.1, hr.2.1, hr.2.2.1, hr.2.2.2.1, fun hn => ?_⟩
          obtain ⟨b, off, rfl, hcell⟩ := hr.2.2.2.2 hn
          obtain ⟨x1, x2, _⟩ := hab _ rfl hn
          exact ⟨b, off, rfl, fun i u hu => hA.cell (hcell i u hu) (fun o _ _ hx => by rcases hx with ⟨hx, _⟩ | ⟨hx, _⟩; exact x1 hx; exact x2 hx)⟩
        have grows : ∀ {X : Nat → Obj → Prop} {A A' : World}, Keep X w A → Keep (grow w3.heap.size (fun _ => False)) A A' → Keep X w A' := fun {X A A'} h1 h2 =>
          ⟨h2.os.trans h1.os, h2.tape.trans h1.tape, h2.output.trans h1.output, Nat.le_trans h1.size h2.size, fun i o ho hx => h2.block i o (h1.block i o ho hx) (fun ht => by
            rcases ht with ht | ht
            · exact ht
            · have := Keep.lt ho; have := hEw3.size; omega)⟩
        have growPD : ∀ {A A' : World} {x : DSt}, PD A B gs gc x → x.cr = d.cr → Keep (grow w3.heap.size (fun _ => False)) A A' → PD A' B gs gc x := fun {A A' x} h1 hx h2 => by
          have := hEw3.size
          refine h1.keep h2 (fun _ h => ?_) (fun _ _ h => ?_) (fun hc _ h => ?_)
          · rcases h with h | h; exact h; omega
          · rcases h with h | h; exact h; omega
          · rcases h with h | h; exact h; (have := lC (by rw [← hx]; exact hc); omega)
        have growB : ∀ {A A' : World} {b : Nat} {t : TypeId} {u : Value}, b < w3.heap.size → Boxed A b t u → Keep (grow w3.heap.size (fun _ => False)) A A' → Boxed A' b t u := fun hb h1 h2 => h2.boxed h1 (fun h => by rcases h with h | h; exact h; omega)
        refine range2_wp rfl (enters_of Try.func46 (by kernel_rfl) rfl) hit (fun _ h => h.elim)
          (fun b h => by rcases h with rfl | rfl | rfl | ⟨p, hp, hl, rfl⟩; omega; omega; omega; (have := habx p hp hl; omega))
          (fun _ _ _ ⟨p, _, h⟩ => by rw [h]; rfl)
          (fun A hA => ⟨Ext.boxed hA bL, Ext.boxed hA bB, (hr.ext hEw3).ext hA, hC3.ext hA⟩)
          (fun k A => PD A B gs gc (wS WL d k) ∧ okTo WL d k ∧ Keep (diskX 66 B gs) w A ∧ Boxed A p2 27 (.pointer (some ⟨LB, 0, none⟩)) ∧ Boxed A (p2 + 1) 37 (.int .i64 0))
          (fun k c A => c = .ret ∧ ∃ p, WL[k]? = some p ∧ okTo WL d k ∧ (wS WL d k).writeE (p.1 : Int) ≠ 0 ∧ PD A B gs gc ((wS WL d k).write (p.1 : Int) p.2) ∧ Boxed A (p2 + 1) 37 (.int .i64 ((wS WL d k).writeE (p.1 : Int))) ∧
            Arr A LB 33 [.pointer (some ⟨B, 0, none⟩), .int .i64 (st.fr : Int), .int .i64 (st.n : Int), .int .u32 (st.gen.toNat : Int), .int .i64 (st.at' : Int), .slice av st.recs.length cv, .bool true, .bool true] ∧
            Keep (fun b o => diskX 66 B gs b o ∨ (b = LB ∧ ∃ cur, o = .cells cur 33 (0, 0))) w A) ?_ ?_ ?_ ?round ?done ?stop
        · rintro k A A' ⟨h1, h2, h3, h4, h5⟩ hk
          exact ⟨growPD h1 (wS_cr WL d k).1 hk, h2, grows h3 hk, growB (by omega) h4 hk, growB (by omega) h5 hk⟩
        · rintro k c' A A' ⟨h0, p, h1, h2, h3, h4, h5, h6, h7⟩ hk
          refine ⟨h0, p, h1, h2, h3, growPD h4 ((write_cr _ _ _).1.trans (wS_cr WL d k).1) hk, growB (by omega) h5 hk, h6.keep hk (fun h => by rcases h with h | h; exact h; omega), grows h7 hk⟩
        · exact ⟨hd.ext hEw3, fun j p hj _ => by omega, Keep.of_ext hEw3, e23, e43⟩
        case stop =>
          rintro D c' k A hD hk ⟨rfl, p, h1, h2, h3, h4, h5, h6, h7⟩ hdef
          have hrun := runW_fail h2 h1 h3
          have hap : appL st l d = ((wS WL d k).writeE (p.1 : Int), { st with br := true }, (wS WL d k).write (p.1 : Int) p.2) := by
            unfold appL
            rw [hbr, if_neg (by simp), if_neg (by omega), if_neg (by rw [hll, hSN, hRM]; exact hfull), hWL, hrun, if_neg h3]
          have e5 : Boxed (A.putObj D (.deferred none)) (p2 + 1) 37 (.int .i64 ((wS WL d k).writeE (p.1 : Int))) := (World.putObj_heap_other (by omega)).trans h5
          have cc := e5.cell
          have kD : Keep (grow w3.heap.size (fun _ => False)) A (A.putObj D (.deferred none)) := (Keep.refl _ _).putObj _ _ (fun _ _ => .inr hD)
          have hk7 := grows h7 kD
          have hf : R (.returned (.int .i64 ((wS WL d k).writeE (p.1 : Int)))) (A.putObj D (.deferred none)) := by
            refine hR _ _ ⟨.slice av st.recs.length cv, by rw [hap], ?_, ?_, ?_, .inl rfl⟩
            · rw [hap]; exact growPD h4 ((write_cr _ _ _).1.trans (wS_cr WL d k).1) kD
            · rw [hap]
              refine ⟨h6.keep kD (fun h => by rcases h with h | h; exact h; omega), ⟨vs, hk7.owns' o1 (fun k cur _ h => ?_), o2.keep hk7 (fun k cur h => ?_)⟩, hreg, hle, hfew, h.short⟩
              · rcases h with (⟨_, _, h⟩ | ⟨_, _, h⟩) | ⟨_, _, h⟩ <;> cases h
              · rcases h with (⟨_, _, h⟩ | ⟨_, _, h⟩) | ⟨_, _, h⟩ <;> cases h
            · exact hk7.mono (fun b o _ h => h.imp id .inl)
          clear hR h4 h6 h7 hk7 hrun hap grows growPD growB hpl hrow hit
          go_wp2
          refine mark_ret (v := .int .i64 ((wS WL d k).writeE (p.1 : Int))) hdef rfl (by simp [results, Try.results14, go_sem]; rw [cc]) hf
        case done =>
          rintro D A hD ⟨h1, h2, h3, h4, h5⟩ hdef
          have hrun := runW_ok h2
          have hap : appL st l d = (0, st.took l, wS WL d WL.length) := by
            unfold appL
            rw [hbr, if_neg (by simp), if_neg (by omega), if_neg (by rw [hll, hSN, hRM]; exact hfull), hWL, hrun]
            rfl
          have htk := took_any (hpl A h3) a m c l (hrow A h3) (by omega) (by rw [hSN]; omega)
          have hvB : ∀ k, (Value.slice av st.recs.length cv).ownBlock = some k → k ≠ B ∧ (d.n ≠ 0 → k ≠ gs) := fun k hk => by
            rcases o1.2 with ⟨hv, _⟩ | ⟨g', cap, cur, hv, _, hgb, _⟩
            · rw [hv] at hk; simp [Value.ownBlock] at hk
            · rw [hv] at hk
              obtain rfl : g' = k := by simpa [Value.ownBlock] using hk
              obtain ⟨_, _, _, _, e1, _, _, e4, _⟩ := hd.ex
              refine ⟨fun he => ?_, fun h0 he => ?_⟩
              · rw [he, show w.heap[B]? = _ from e1] at hgb
                have h3 := congrArg (fun o : Option Obj => match o with | some (.cells _ t _) => t | _ => 0) hgb
                exact absurd (show (66 : Nat) = 25 from h3) (by decide)
              · rw [he, show w.heap[gs]? = _ from e4 (by omega)] at hgb
                have h3 := congrArg (fun o : Option Obj => match o with | some (.cells _ t _) => t | _ => 0) hgb
                exact absurd (show (60 : Nat) = 25 from h3) (by decide)
          have thenB : ∀ {X : Nat → Obj → Prop} {A A' : World}, Keep X w A → Keep (fun b _ => w.heap.size ≤ b) A A' → Keep X w A' := fun {X A A'} h1 h2 =>
            ⟨h2.os.trans h1.os, h2.tape.trans h1.tape, h2.output.trans h1.output, Nat.le_trans h1.size h2.size, fun i o ho hx => h2.block i o (h1.block i o ho hx) (fun ht => by have := Keep.lt ho; omega)⟩
          have hws := wS_cr WL d WL.length
          have c4a := h4.cell
          go_wp2_with fail
          refine htk.mono ?_
          rintro e w5 ⟨⟨u, rfl⟩, v', hPL, hK, hb⟩
          have hPD5 : PD w5 B gs gc (wS WL d WL.length) := by
            refine h1.keep hK (fun o hx => ?_) (fun hn o hx => ?_) (fun hc o hx => ?_)
            · rcases hx with ⟨hx, _⟩ | ⟨hx, _⟩
              · exact hLBB hx.symm
              · exact (hvB _ hx).1 rfl
            · rw [hws.2.2] at hn
              rcases hx with ⟨hx, _⟩ | ⟨hx, _⟩
              · exact hLBG (by omega) hx.symm
              · exact (hvB _ hx).2 (by omega) rfl
            · rw [hws.1] at hc
              rcases hx with ⟨hx, _⟩ | ⟨hx, _⟩
              · exact (hgc hc).1 hx
              · exact (hgc hc).2 _ hx rfl
          have e5 : Boxed w5 (p2 + 1) 37 (.int .i64 0) := hK.boxed h5 (fun hx => by rcases hx with ⟨hx, _⟩ | ⟨_, _, hx⟩; omega; cases hx)
          have hdef5 : w5.heap[D]? = some (.deferred (some [])) := hK.block _ _ hdef (fun hx => by rcases hx with ⟨_, _, hx⟩ | ⟨_, _, hx⟩ <;> cases hx)
          have f5 := e5.frozen
          have c5 := e5.cell
          have e6 := e5.set (.int .i64 0)
          have hDp : D ≠ p2 + 1 := by omega
          have hdef6 : (w5.setCell ⟨p2 + 1, 0, none⟩ (.int .i64 0)).heap[D]? = some (.deferred (some [])) := (Below.heap_setCell w5 ⟨p2 + 1, 0, none⟩ _ D hDp).trans hdef5
          have e7 : Boxed ((w5.setCell ⟨p2 + 1, 0, none⟩ (.int .i64 0)).putObj D (.deferred none)) (p2 + 1) 37 (.int .i64 0) := (World.putObj_heap_other (fun h => hDp h.symm)).trans e6
          have cc := e7.cell
          have k9 : Keep (fun b o => (b = p2 + 1 ∧ ∃ cur, o = .cells cur 37 (0, 0)) ∨ (b = D ∧ o.isCells = false)) w5 ((w5.setCell ⟨p2 + 1, 0, none⟩ (.int .i64 0)).putObj D (.deferred none)) :=
            ((Keep.refl _ _).setCell _ _ (fun o ho => .inl ⟨rfl, by rw [show w5.heap[p2 + 1]? = _ from e5] at ho; cases ho; exact ⟨_, rfl⟩⟩)).putObj _ _ (fun o ho => .inr ⟨rfl, by rw [hdef5] at ho; cases ho; rfl⟩)
          have hf : R (.returned (.int .i64 0)) ((w5.setCell ⟨p2 + 1, 0, none⟩ (.int .i64 0)).putObj D (.deferred none)) := by
            refine hR _ _ ⟨v', by rw [hap], ?_, ?_, ?_, ?_⟩
            · rw [hap]
              refine hPD5.keep k9 (fun o hx => ?_) (fun hn o hx => ?_) (fun hc o hx => ?_)
              · rcases hx with ⟨hx, _⟩ | ⟨hx, _⟩ <;> omega
              · rcases hx with ⟨hx, _⟩ | ⟨hx, _⟩ <;> omega
              · have := lC (by rw [hws.1] at hc; exact hc)
                rcases hx with ⟨hx, _⟩ | ⟨hx, _⟩ <;> omega
            · rw [hap]
              refine hPL.keep k9 (fun cur hx => ?_) (fun k cur _ hx => ?_) (fun k cur hx => ?_)
              · rcases hx with ⟨_, _, hx⟩ | ⟨_, hx⟩ <;> cases hx
              · rcases hx with ⟨_, _, hx⟩ | ⟨_, hx⟩ <;> cases hx
              · rcases hx with ⟨_, _, hx⟩ | ⟨_, hx⟩ <;> cases hx
            · refine thenB ((h3.mono (fun b o _ h => .inl h)).trans (hK.mono (fun b o _ h => .inr h))) (k9.mono (fun b o _ hx => ?_))
              rcases hx with ⟨hx, _⟩ | ⟨hx, _⟩ <;> omega
            · rcases hb with hb | hb
              · exact .inl hb
              · exact .inr (fun k hk => Nat.le_trans h3.size (hb k hk))
          clear hR h3 h1 hK hPL hPD5 hrun hap grows growPD growB hpl hrow hit k9 thenB htk e7 e6
          go_wp2
          refine mark_ret (v := .int .i64 0) hdef6 rfl (by simp [results, Try.results14, go_sem]; rw [cc]) hf
        case round =>
          rintro l2 k A args KN KX hk ⟨h1, h2, h3, h4, h5⟩ ⟨p, hp, rfl⟩ hKN hKX
          have hp64 := hwl64 k p hp
          have hws := wS_cr WL d k
          have HP := Lib.hid hp
          unfold aggB
          obtain ⟨O, hO⟩ : ∃ O, p.2.map u8v = O := ⟨_, rfl⟩
          have hOl : O.length = 64 := by rw [← hO, List.length_map, hp64]
          have hO1 : ∀ u ∈ O, u.oneCell' = true := by rw [← hO]; exact u8v_one _
          rw [hO]
          have hi1 := Lib.hid (show (Try.prog.info? 60).map (·.size) = some O.toArray.size by rw [info_sec]; simp [hOl])
          have hst := stores_new (P := Try.prog) (t := 60) (cs := List.replicate 64 (.int .u8 0)) (cs' := O) (by rw [hOl]; rfl) hO1 A
          simp only [List.replicate] at hst
          have HOA := Lib.hid (show aggB p.2 = .agg O.toArray by unfold aggB; rw [hO])
          clear hO hO1 hp
          gi_wp2
          refine ⟨Keep.of_ext ((Keep.refl _ A).alloc _), fun C hC => ?_⟩
          have eA1 : Ext A (A.alloc (.cells O.toArray 60)) := (Keep.refl _ A).alloc _
          have z6 := (Arr.new A 60 O).keep hC (fun h => by rcases h with h | h; exact h; cases h.2)
          have kAC : Keep (grow w3.heap.size (fun _ => False)) A C := (Keep.of_ext eA1).trans (hC.mono (fun b o _ h => .inr (by rcases h with h | h; exact h.elim; exact h.1)))
          have g1 := growPD h1 hws.1 kAC
          have g3 := grows h3 kAC
          have g4 := growB (by omega) h4 kAC
          have g5 := growB (by omega) h5 kAC
          have HZ6 := Lib.hid z6
          obtain ⟨p6, hp6⟩ : ∃ x, A.heap.size = x := ⟨_, rfl⟩
          rw [hp6] at HZ6 ⊢
          have c2a := g4.cell
          have c0a := (hpl C g3).cells.cell (i := 0) rfl
          clear h1 h3 h4 h5 kAC hC eA1 z6 hst
          gi_wp2
          have hDs : ∀ g : FY.At (fun _ _ => False) C.drew, Ext C g.w := fun g => ((Keep.refl _ C).drew).trans g.ext
          have d2 := fun g => Ext.cell (hDs g) c2a
          have d0 := fun g => Ext.cell (hDs g) c0a
          clear hDs c2a c0a
          refine FY.wpIn_flow (X := fun _ _ => True) (0 :: 1 :: 2 :: 3 :: 4 :: 5 :: 6 :: 7 :: 8 :: []) (fun n => if n = 7 then .bar else .reads) (fun n => by split <;> simp) (by kernel_rfl) (by kernel_rfl) (by kernel_rfl) ?_
          iterate 6 (refine FY.flow_r rfl rfl rfl ?_; go_big_quiet_step (fail); refine wpQuiet_nil ?_)
          refine FY.flow_v (v := .agg O.toArray) rfl rfl rfl (fun w' hE => exec_load_row rfl rfl ((HZ6.out).ext (((Keep.refl _ C).drew).trans hE)) Try.underlying60 rfl hi1.out) ?_
          simp only [Act.put, List.setIfInBounds_toArray, List.set_cons_succ, List.set_cons_zero]
          refine FY.flow_bvs rfl rfl rfl (by simp) (by kernel_rfl) (fun w5 hE5 _ => ?_)
          have hX5 : Ext C w5 := ((Keep.refl _ C).drew).trans hE5
          have hc := dwrite_any (g1.ext hX5) (p.1 : Int) p.2 hp64 (by omega)
          rw [HOA.out] at hc
          clear d2 d0 hE5
          go_wp2_with fail
          refine hc.mono ?_
          rintro e w6 ⟨rfl, hPD, hK⟩
          have hK6 := (g1.ext hX5).turns hK
          obtain ⟨E, hE⟩ : ∃ x, (wS WL d k).writeE (p.1 : Int) = x := ⟨_, rfl⟩
          rw [hE]
          have HPD := Lib.hid hPD
          have HK6 := Lib.hid hK6
          have HK6b := Lib.hid hK
          have HX5 := Lib.hid hX5
          clear hc hPD hK6 hK hX5
          go_wp2
          refine ⟨HK6.out.mono (fun _ _ _ _ => trivial), ?_⟩
          refine FY.flow_r rfl rfl rfl ?_; go_big_quiet_step (fail); refine wpQuiet_nil ?_
          refine FY.flow_end (fun D hED _ => ?_)
          replace hED : Ext w6 D := hED
          have hPD := (HPD.out).ext hED
          have kCD : Keep (diskX 66 B gs) C D := ((Keep.of_ext HX5.out).trans HK6.out).trans (Keep.of_ext hED)
          have q3 := g3.trans kCD
          have nb : ∀ b, w.heap.size ≤ b → ∀ o, ¬ diskX 66 B gs b o := fun b hb o hx => by rcases hx with ⟨hx, _⟩ | ⟨hx, _⟩ <;> omega
          have q4 := kCD.boxed g4 (nb _ (by omega) _)
          have q5 := kCD.boxed g5 (nb _ (by omega) _)
          have hkr : Keep (round2 w3.heap.size (fun b => b = q2 ∨ b = q2 + 1 ∨ b = LB ∨ ∃ p, a = some p ∧ 0 < m ∧ b = p.block)) C D := kCD.mono (fun b o ho hx => by
            have hlt : b < w.heap.size := by rcases hx with ⟨hx, _⟩ | ⟨hx, _⟩ <;> omega
            refine ⟨fun hz => ?_, by have := hEw3.size; omega⟩
            rcases hz with hz | hz | hz | ⟨p', hp', hl', hz⟩
            · omega
            · omega
            · rw [hz, show C.heap[LB]? = _ from (hpl C g3).cells] at ho
              rcases hx with ⟨_, cur, hx⟩ | ⟨_, cur, hx⟩ <;> (rw [hx] at ho; cases ho)
            · obtain ⟨x1, x2, _⟩ := hab p' hp' hl'
              rcases hx with ⟨hx, _⟩ | ⟨hx, _⟩ <;> omega)
          by_cases hE0 : E = 0
          · have hI : Hid (PD D B gs gc (wS WL d (k + 1)) ∧ okTo WL d (k + 1) ∧ Keep (diskX 66 B gs) w D ∧ Boxed D p2 27 (.pointer (some ⟨LB, 0, none⟩)) ∧ Boxed D (p2 + 1) 37 (.int .i64 0)) := by
              refine ⟨by rw [wS_succ HP.out]; exact hPD, fun j pj hj hpj => ?_, q3, q4, q5⟩
              by_cases hjk : j = k
              · subst hjk
                rw [HP.out] at hpj
                cases hpj
                rw [hE, hE0]
              · exact h2 j pj (by omega) hpj
            have HKR := Lib.hid hkr
            subst hE0
            clear hPD q3 q4 q5 hkr kCD g1 g3 g4 g5 nb hE
            gi_wp2
            exact hKN _ _ HKR.out hI.out
          · have hEb : (E != 0) = true := by simpa using hE0
            have hC5 := (hpl D q3).cells
            simp only [List.cons_append, List.nil_append] at hC5
            have c6 := hC5.cell (i := 6) rfl
            have f6 := hC5.frozen 6
            have hC6 := hC5.set 6 (.bool true)
            simp only [List.set_cons_succ, List.set_cons_zero] at hC6
            have c2b := q4.cell
            have kL : Keep (fun b o => b = LB ∧ ∃ cur, o = .cells cur 33 (0, 0)) D (D.setCell ⟨LB, 6, none⟩ (.bool true)) := (Keep.refl _ _).setCell _ _ (fun o ho => ⟨rfl, by rw [show D.heap[LB]? = _ from hC5] at ho; cases ho; exact ⟨_, rfl⟩⟩)
            have q5b := q5.other (show p2 + 1 ≠ LB by omega) (.bool true)
            have q5c : Boxed (D.setCell ⟨LB, 6, none⟩ (.bool true)) (p2 + 1) 37 (.int .i64 0) := kL.boxed q5 (fun h => by omega)
            have c4b := q5c.cell
            have f4b := q5c.frozen
            have kR : Keep (fun b _ => b = p2 + 1) (D.setCell ⟨LB, 6, none⟩ (.bool true)) ((D.setCell ⟨LB, 6, none⟩ (.bool true)).setCell ⟨p2 + 1, 0, none⟩ (.int .i64 E)) := keep_setCell _ _ 0 _
            have hIx : Hid (PD ((D.setCell ⟨LB, 6, none⟩ (.bool true)).setCell ⟨p2 + 1, 0, none⟩ (.int .i64 E)) B gs gc ((wS WL d k).write (p.1 : Int) p.2) ∧ Boxed ((D.setCell ⟨LB, 6, none⟩ (.bool true)).setCell ⟨p2 + 1, 0, none⟩ (.int .i64 E)) (p2 + 1) 37 (.int .i64 E) ∧
                Arr ((D.setCell ⟨LB, 6, none⟩ (.bool true)).setCell ⟨p2 + 1, 0, none⟩ (.int .i64 E)) LB 33 [.pointer (some ⟨B, 0, none⟩), .int .i64 (st.fr : Int), .int .i64 (st.n : Int), .int .u32 (st.gen.toNat : Int), .int .i64 (st.at' : Int), .slice av st.recs.length cv, .bool true, .bool true] ∧
                Keep (fun b o => diskX 66 B gs b o ∨ (b = LB ∧ ∃ cur, o = .cells cur 33 (0, 0))) w ((D.setCell ⟨LB, 6, none⟩ (.bool true)).setCell ⟨p2 + 1, 0, none⟩ (.int .i64 E)) ∧
                Keep (fun b _ => b < w3.heap.size) C ((D.setCell ⟨LB, 6, none⟩ (.bool true)).setCell ⟨p2 + 1, 0, none⟩ (.int .i64 E))) := by
              have hwc := (write_cr (wS WL d k) (p.1 : Int) p.2).1.trans hws.1
              have hwn := (write_cr (wS WL d k) (p.1 : Int) p.2).2.2.trans hws.2.2
              refine ⟨?_, q5c.set _, hC6.keep kR (fun h => by replace h : LB = p2 + 1 := h; omega), ?_, ?_⟩
              · have x1 : PD (D.setCell ⟨LB, 6, none⟩ (.bool true)) B gs gc ((wS WL d k).write (p.1 : Int) p.2) := by
                  refine hPD.keep kL (fun o hx => hLBB hx.1.symm) (fun hn o hx => ?_) (fun hc o hx => ?_)
                  · exact hLBG (by rw [hwn] at hn; omega) hx.1.symm
                  · exact (hgc (by rw [hwc] at hc; exact hc)).1 hx.1
                refine x1.keep kR (fun o hx => ?_) (fun hn o hx => ?_) (fun hc o hx => ?_)
                · replace hx : B = p2 + 1 := hx; omega
                · replace hx : gs = p2 + 1 := hx; omega
                · replace hx : gc = p2 + 1 := hx; (have := lC (by rw [hwc] at hc; exact hc)); omega
              · have x2 : Keep (fun b o => diskX 66 B gs b o ∨ (b = LB ∧ ∃ cur, o = .cells cur 33 (0, 0))) w (D.setCell ⟨LB, 6, none⟩ (.bool true)) := (q3.mono (fun b o _ h => .inl h)).trans (kL.mono (fun b o _ h => .inr h))
                exact ⟨kR.os.trans x2.os, kR.tape.trans x2.tape, kR.output.trans x2.output, Nat.le_trans x2.size kR.size, fun i o ho hx => kR.block i o (x2.block i o ho hx) (fun ht => by have := Keep.lt ho; replace ht : i = p2 + 1 := ht; omega)⟩
              · have hs := hEw3.size
                refine ((hkr.mono (fun b o _ h => h.2)).trans (kL.mono (fun b o _ h => ?_))).trans (kR.mono (fun b o _ h => ?_))
                · rw [h.1]; omega
                · replace h : b = p2 + 1 := h; omega
            have HE := Lib.hid hE
            have H2 := Lib.hid h2
            clear hPD q3 q5 q5b q5c hkr kCD kL kR g1 g3 g4 g5 nb hC5 hC6 hE h2
            gi_wp2
            obtain ⟨x1, x2, x3, x4, x5⟩ := hIx.out
            exact hKX _ _ _ x5 ⟨rfl, p, HP.out, H2.out, by rw [HE.out]; exact hE0, x1, by rw [HE.out]; exact x2, x3, x4⟩
end Go.Proofs.Ytdopaoajbjodeaa
