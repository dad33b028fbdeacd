/-
  slog.writes: the sectors that lay a record, told in order.
-/
import Derived.Test.YtdopaoajbjodeaaSlG
import Derived.Test.YtdopaoajbjodeaaRange2
import Derived.Test.YtdopaoajbjodeaaRange3
import Derived.Test.YtdopaoajbjodeaaFlowR
namespace Go.Proofs.Ytdopaoajbjodeaa
open Go.RowKit Go.Shelf

attribute [local go_sem] Oper.semAt_some

/-- The sectors that lay a record, with their places, in order. -/
def writesL (fr at' n : Nat) (g num : Nat) (b : List UInt8) : List (Nat × List UInt8) :=
  (List.range (spanN b.length - 1)).map (fun i => (fr + at' + (1 + i), padTo 64 (chunkAt 64 (b.drop (min 51 b.length)) i))) ++
    (if at' + spanN b.length < n then [(fr + at' + spanN b.length, zeros 64)] else []) ++ [(fr + at', firstL b g num)]
theorem chunkN_span {m : Nat} (hm : m ≤ 262144) : chunkN 64 (m - min 51 m) = spanN m - 1 := by
  unfold chunkN spanN
  rw [if_neg (by omega), if_neg (by omega)]
  simp only [show (64 : Int).toNat = 64 from rfl]
  by_cases h : m ≤ 51
  · rw [if_pos h, Nat.min_eq_right h]; simp
  · rw [if_neg h, Nat.min_eq_left (by omega)]; omega
theorem padTo_over (c : List UInt8) (h : c.length ≤ 64) : overB (zeros 64) 0 c = padTo 64 c := by
  unfold overB padTo
  rw [List.take_zero, List.nil_append, Nat.zero_add, List.take_of_length_le h]
  unfold zeros
  rw [List.drop_replicate]
/-- What is handed to yield. -/
def encW (fr at' n g num : Nat) (b : List UInt8) (k : Nat) (args : Array Value) : Prop := ∃ p, (writesL fr at' n g num b)[k]? = some p ∧ args = #[.int .i64 (p.1 : Int), aggB p.2]

theorem writes_at {fr at' n g num : Nat} {b : List UInt8} {k : Nat} (hk : k < spanN b.length - 1) : (writesL fr at' n g num b)[k]? = some (fr + at' + (1 + k), padTo 64 (chunkAt 64 (b.drop (min 51 b.length)) k)) := by
  unfold writesL
  rw [List.append_assoc, List.getElem?_append_left (by simpa using hk)]
  rw [List.getElem?_map, List.getElem?_range hk]
  rfl
theorem writes_mid {fr at' n g num : Nat} {b : List UInt8} (h : at' + spanN b.length < n) : (writesL fr at' n g num b)[spanN b.length - 1]? = some (fr + at' + spanN b.length, zeros 64) := by
  unfold writesL
  rw [if_pos h, List.append_assoc, List.getElem?_append_right (by simp)]
  simp
theorem writes_len {fr at' n g num : Nat} {b : List UInt8} : (writesL fr at' n g num b).length = spanN b.length - 1 + (if at' + spanN b.length < n then 1 else 0) + 1 := by
  unfold writesL
  split <;> simp
theorem writes_last {fr at' n g num : Nat} {b : List UInt8} : (writesL fr at' n g num b)[spanN b.length - 1 + (if at' + spanN b.length < n then 1 else 0)]? = some (fr + at', firstL b g num) := by
  unfold writesL
  split
  · rw [List.getElem?_append_right (by simp)]; simp
  · rw [List.getElem?_append_right (by simp)]; simp
theorem padTo_len64 {c : List UInt8} : (padTo 64 c).length = 64 := padTo_length 64 c

set_option maxRecDepth 20000 in
set_option maxHeartbeats 4000000 in
theorem writes_iter (lbx bbx LB : Nat) (a : Option Addr) (m c : Nat) (l : List UInt8) (B : Nat) (fr n at0 : Nat) (gen : UInt32) (av : Option Addr) (num cv : Nat) (br : Bool) (hm : m ≤ 262144) (hfn : fr + n ≤ 65536) (hat : at0 + spanN m ≤ n) (hnum : num ≤ at0) :
    Iter2 Try.prog 46 #[.pointer (some ⟨lbx, 0, none⟩), .pointer (some ⟨bbx, 0, none⟩)] (writesL fr at0 n gen.toNat num l).length
    (fun k _ args => encW fr at0 n gen.toNat num l k args)
    (fun A => Boxed A lbx 27 (.pointer (some ⟨LB, 0, none⟩)) ∧ Boxed A bbx 25 (.slice a m c) ∧ Row 1 A a m c (l.map u8v) ∧
      Arr A LB 33 [.pointer (some ⟨B, 0, none⟩), .int .i64 (fr : Int), .int .i64 (n : Int), .int .u32 (gen.toNat : Int), .int .i64 (at0 : Int), .slice av num cv, .bool br, .bool true])
    (fun _ => False) (fun b => b = lbx ∨ b = bbx ∨ b = LB ∨ ∃ p, a = some p ∧ 0 < m ∧ b = p.block) := by
  intro l' J Jx W ⟨hL, hB, hr, hC⟩ hJ hJx hY h0
  have hll : l.length = m := by have := hr.2.2.1; simpa using this
  have hsp := spanN_pos hm
  have hspl := spanN_le m
  refine calls_marks_in Try.func46 rfl ?_
  simp only [Try.ntmps46, List.size_toArray, List.length_cons, List.length_nil, Nat.reduceAdd, Nat.reduceSub, Array.replicate_succ, Array.replicate_zero, List.push_toArray, List.append_toArray, List.nil_append, List.cons_append]
  gi_wp2
  refine wpIn_laid1 fun W1 hE1 b3 => ?_
  obtain ⟨p3, hp3⟩ : ∃ x, W.heap.size = x := ⟨_, rfl⟩
  have hlt3 : p3 < W1.heap.size := by rw [← hp3]; exact Keep.lt b3
  rw [hp3] at b3 ⊢
  have hL1 := hE1.boxed hL
  have hC1 := hC.ext hE1
  have k0 := hL1.cell
  have k1 := hC1.cell (i := 1) rfl
  have k4 := hC1.cell (i := 4) rfl
  refine wpIn_mono (Q := fun e a' w' => e = .normal ∧ ∃ p4 p5, p4 ≠ p5 ∧ W1.heap.size ≤ p4 ∧ W1.heap.size ≤ p5 ∧ Ext W1 w' ∧ Boxed w' p4 3 (.int .i64 ((fr : Int) + (at0 : Int))) ∧ Boxed w' p5 3 (.int .i64 1) ∧
      a' = { tmps := ((.func (.yield l') #[] #[]) :: (.pointer (some ⟨lbx, 0, none⟩)) :: (.pointer (some ⟨bbx, 0, none⟩)) :: (.pointer (some ⟨p3, 0, none⟩)) :: (.pointer (some ⟨p4, 0, none⟩)) :: (.pointer (some ⟨p5, 0, none⟩)) :: undef :: undef :: (.pointer (some ⟨LB, 0, none⟩)) :: (.pointer (some ⟨LB, 0, none⟩)) :: (.pointer (some ⟨LB, 0, none⟩)) :: (.pointer (some ⟨LB, 1, none⟩)) :: (.int .i64 (fr : Int)) :: (.pointer (some ⟨LB, 0, none⟩)) :: (.pointer (some ⟨LB, 0, none⟩)) :: (.pointer (some ⟨LB, 4, none⟩)) :: (.int .i64 (at0 : Int)) :: (.int .i64 ((fr : Int) + (at0 : Int))) :: undef :: undef :: undef :: undef :: undef :: undef :: undef :: undef :: undef :: undef :: undef :: undef :: undef :: undef :: undef :: undef :: undef :: undef :: undef :: undef :: undef :: undef :: undef :: undef :: undef :: undef :: undef :: undef :: undef :: undef :: undef :: undef :: undef :: undef :: undef :: undef :: undef :: undef :: undef :: undef :: undef :: undef :: undef :: undef :: undef :: undef :: undef :: undef :: undef :: undef :: undef :: undef :: undef :: undef :: undef :: ([] : List Value)).toArray, defers := [] }) ?_ ?_
  · have eA : Ext W1 (W1.alloc (.cells #[.int .i64 0] 3)) := (Keep.refl _ W1).alloc _
    have eB : Ext W1 ((W1.alloc (.cells #[.int .i64 0] 3)).alloc (.cells #[.int .i64 0] 3)) := eA.alloc _
    have k0a := eA.cell k0
    have k1a := eA.cell k1
    have k4a := eA.cell k4
    have k0b := eB.cell k0
    have k1b := eB.cell k1
    have k4b := eB.cell k4
    gi_region
    · refine ⟨rfl, _, _, (show W1.heap.size ≠ W1.heap.size + 1 by omega), Nat.le_refl _, (show W1.heap.size ≤ W1.heap.size + 1 by omega), ?_, ?_, ?_, rfl⟩
      · exact (((Keep.refl _ W1).alloc _).alloc _).drew
      · exact (Boxed.new W1 3 (.int .i64 ((fr : Int) + (at0 : Int)))).alloc (.cells #[.int .i64 1] 3)
      · have := Boxed.new (W1.alloc (.cells #[.int .i64 ((fr : Int) + (at0 : Int))] 3)) 3 (.int .i64 1)
        rw [World.size_alloc] at this
        exact this
    · refine ⟨rfl, _, _, (show W1.heap.size + 1 ≠ W1.heap.size by omega), (show W1.heap.size ≤ W1.heap.size + 1 by omega), Nat.le_refl _, ?_, ?_, ?_, rfl⟩
      · exact (((Keep.refl _ W1).alloc _).alloc _).drew
      · have := Boxed.new (W1.alloc (.cells #[.int .i64 1] 3)) 3 (.int .i64 ((fr : Int) + (at0 : Int)))
        rw [World.size_alloc] at this
        exact this
      · exact (Boxed.new W1 3 (.int .i64 1)).alloc (.cells #[.int .i64 ((fr : Int) + (at0 : Int))] 3)
  · rintro e a' w2 ⟨rfl, p4, p5, hne, hl4, hl5, hE2, b4, b5, rfl⟩
    obtain ⟨mn, hmn⟩ : ∃ x, min 51 m = x := ⟨_, rfl⟩
    have hmnz : (min 51 (m : Int)) = (mn : Int) := by omega
    have hmnm : mn ≤ m := by omega
    have hmc := hr.1
    have hmx := hr.2.1
    unfold maxLen at hmx
    have hcut := hr.cut (lo := mn) (hi := m) hmnm (Nat.le_refl _)
    rw [Nat.mul_one, ← List.map_drop, List.take_of_length_le (by rw [List.length_map, List.length_drop]; omega)] at hcut
    obtain ⟨ac, hac⟩ : ∃ x, (if c = mn then a else Option.map (fun x => x.add mn) a) = x := ⟨_, rfl⟩
    have hsf : ∀ w, (Instr.sliceAt 25 (.slice a m c) (some (.int .i64 (mn : Int))) none none).run Try.prog w = .ok (.slice ac (m - mn) (c - mn)) w := fun w => by
      rw [← hac]
      simp [Instr.sliceAt, Instr.slice, Instr.sliceBounds, Instr.sliceBound, Result.andThen, asIntOf, hmnm]
    rw [hac] at hcut
    have hblk : ∀ p, ac = some p → 0 < m - mn → ∃ p', a = some p' ∧ 0 < m ∧ p.block = p'.block := fun p hp h0 => by
      rw [← hac] at hp
      cases a with
      | none => split at hp <;> simp at hp
      | some p' =>
        refine ⟨p', rfl, by omega, ?_⟩
        split at hp
        · cases hp; rfl
        · simp at hp; rw [← hp]; unfold Addr.add; split <;> rfl
    have hE := hE1.trans hE2
    have kb := (Ext.boxed hE hB).cell
    clear hac
    gi_wp2_with (first | fail | (refine wpListIn_val (v := .int .i64 (mn : Int)) (fun _ => trivial) rfl (fun c h => by cases h) ?_ ?_; rw [← hmnz]; exact exec_min rfl rfl rfl) | (refine wpListIn_val (v := .slice ac (m - mn) (c - mn)) (fun _ => trivial) rfl (fun c h => by cases h) ?_ ?_; exact exec_slice rfl (hsf _)))
    refine ⟨trivial, callsIn_wide.2 ((chunks_any ac (m - mn) (c - mn) 64 w2).mono ?_)⟩
    rintro e w3 ⟨rfl, hw3⟩
    have HW3 := Lib.hid hw3
    have hE3 : Ext w2 w3 := by rw [hw3]; exact ((Keep.refl _ _).alloc _).alloc _
    have hs3 : w3.heap.size = w2.heap.size + 2 := by rw [hw3]; simp
    have hsE := hE1.size
    have hsE2 := hE2.size
    have bP : Boxed w3 w2.heap.size 25 (.slice ac (m - mn) (c - mn)) := by
      rw [hw3]; exact (Boxed.new w2 25 (.slice ac (m - mn) (c - mn))).alloc _
    have bQ : Boxed w3 (w2.heap.size + 1) 3 (.int .i64 64) := by
      rw [hw3]; have := Boxed.new (w2.alloc (.cells #[.slice ac (m - mn) (c - mn)] 25)) 3 (.int .i64 64); rw [World.size_alloc] at this; exact this
    have hl42 : p4 < w2.heap.size := Keep.lt b4
    have hl52 : p5 < w2.heap.size := Keep.lt b5
    replace b4 := Ext.boxed hE3 b4
    replace b5 := Ext.boxed hE3 b5
    have bY : Boxed w3 p3 94 (.func (.yield l') #[] #[]) := Ext.boxed hE3 (Ext.boxed hE2 b3)
    obtain ⟨pb, hpb⟩ : ∃ x, w2.heap.size = x := ⟨_, rfl⟩
    rw [hpb] at bP bQ hs3 hl42 hl52 hsE2 ⊢
    have hE4 : Ext W w3 := hE.trans hE3
    have hlx : lbx < W.heap.size := Keep.lt hL
    have hbx : bbx < W.heap.size := Keep.lt hB
    have hLBx : LB < W.heap.size := hC.lt
    have hab : ∀ p, a = some p → 0 < m → p.block < W.heap.size := fun p hp hl => by
      obtain ⟨b, off, h1, h2⟩ := hr.2.2.2.2 hl
      rw [hp] at h1; cases h1
      exact World.block_lt_of_cell? W _ (h2 0 _ (List.getElem?_eq_getElem (by simp; omega)))
    have hcut3 := hcut.ext hE4
    clear hw3 kb k0 k1 k4
    gi_wp2_with fail
    refine range3_outer rfl (enters_of Try.func52 (by kernel_rfl) rfl)
      (chunks1_iter (pb + 1) pb ac (m - mn) (c - mn) 64 (l.drop mn) (by omega) (by omega))
      (fun _ h => h.elim) (fun b h => by rcases h with rfl | rfl | ⟨p, hp, hl, rfl⟩; omega; omega; (obtain ⟨p', hp', hl', he⟩ := hblk p hp hl; have := hab p' hp' hl'; omega))
      (fun _ _ _ ⟨v, h, _⟩ => by rw [h]; rfl) (fun A hA => ⟨Ext.boxed hA bQ, Ext.boxed hA bP, hcut3.ext hA⟩)
      (fun k A => J k A ∧ w3.heap.size ≤ A.heap.size ∧ Boxed A p3 94 (.func (.yield l') #[] #[]) ∧ Boxed A p4 3 (.int .i64 ((fr : Int) + (at0 : Int))) ∧ Boxed A p5 3 (.int .i64 (1 + (k : Int))) ∧
        Boxed A lbx 27 (.pointer (some ⟨LB, 0, none⟩)) ∧ Boxed A bbx 25 (.slice a m c) ∧ Row 1 A a m c (l.map u8v) ∧
        Arr A LB 33 [.pointer (some ⟨B, 0, none⟩), .int .i64 (fr : Int), .int .i64 (n : Int), .int .u32 (gen.toNat : Int), .int .i64 (at0 : Int), .slice av num cv, .bool br, .bool true])
      (fun k c A => c = .ret ∧ Jx k A) ?_ ?_ (fun h => h.elim) ?_ ?round ?done ?stop
    · rintro k A B ⟨h1, h2, h3, h4, h5, h6, h7, h8, h9⟩ hk
      refine ⟨hJ _ _ _ h1 (hk.mono (fun b o _ h => .inr (by rcases h with h | h; exact h.elim; omega))), Nat.le_trans h2 hk.size, hk.boxed_turn h3 id, hk.boxed_turn h4 id, hk.boxed_turn h5 id, hk.boxed_turn h6 id, hk.boxed_turn h7 id, h8.turn hk (fun _ _ => id), h9.keep hk (fun h => by rcases h with h | h; exact h; cases h.2)⟩
    · rintro k c A B ⟨h1, h2⟩ hk
      exact ⟨h1, hJx _ _ _ h2 (hk.mono (fun b o _ h => .inr (by rcases h with h | h; exact h.elim; omega)))⟩
    · exact ⟨hJ _ _ _ h0 (Keep.of_ext hE4), Nat.le_refl _, bY, b4, b5, Ext.boxed hE4 hL, Ext.boxed hE4 hB, hr.ext hE4, hC.ext hE4⟩
    case round =>
      rintro l2 k A args KN KX hk ⟨h1, h2, h3, h4, h5, h6, h7, h8, h9⟩ ⟨v, rfl, hv⟩ hKN hKX
      have hk' : k < spanN m - 1 := by rw [← chunkN_span hm, hmn]; exact hk
      simp only [show (64 : Int).toNat = 64 from rfl] at hv
      obtain ⟨ch, hch⟩ : ∃ x, chunkAt 64 (l.drop mn) k = x := ⟨_, rfl⟩
      rw [hch] at hv
      have hchl : ch.length ≤ 64 := by rw [← hch]; unfold chunkAt; rw [List.length_take]; omega
      obtain ⟨ach, cch, rfl, hrch⟩ := owns_row hv
      have hwa := writes_at (fr := fr) (at' := at0) (n := n) (g := gen.toNat) (num := num) (b := l) (k := k) (by rw [hll]; exact hk')
      rw [hll, hmn, hch] at hwa
      have HWA := Lib.hid hwa
      clear hch hwa hk
      gi_wp2
      refine ⟨Keep.refl _ _, fun C hC => ?_⟩
      have tn : ∀ {b : Nat} {o : Obj}, o.isCells = true → ¬ turn w3.heap.size (fun _ => False) b o := fun ho h => by rcases h with h | h; exact h; rw [ho] at h; cases h.2
      replace h1 := hJ _ _ _ h1 (hC.mono (fun b o _ h => .inr (by rcases h with h | h; exact h.elim; omega)))
      replace h2 := Nat.le_trans h2 hC.size
      replace h3 := hC.boxed_turn h3 id
      replace h4 := hC.boxed_turn h4 id
      replace h5 := hC.boxed_turn h5 id
      replace h6 := hC.boxed_turn h6 id
      replace h7 := hC.boxed_turn h7 id
      replace h8 := h8.turn hC (fun _ _ => id)
      replace h9 := h9.keep hC (tn rfl)
      replace hrch := hrch.turn hC (fun _ _ => id)
      clear hC tn hv
      have hEc : Ext C (C.alloc (.cells (List.replicate 64 (.int .u8 0)).toArray 60)) := (Keep.refl _ C).alloc _
      have B7 : Arr (C.alloc (.cells (List.replicate 64 (.int .u8 0)).toArray 60)) C.heap.size 60 ((zeros 64).map u8v) := by rw [← F64_eq]; exact Arr.new C 60 F64
      obtain ⟨C2, hrun, B72, hK2⟩ := B7.copyMin (P := Try.prog) 25 25 3 5 Try.underlying25 size_u8 (hrch.ext hEc) (u8v_one _) 0 64 64 (by simp [zeros])
      rw [List.take_of_length_le (by rw [List.length_map]; exact hchl), over_put, padTo_over ch hchl] at B72
      have hE2c : Ext C C2 := ((Keep.of_ext hEc).trans hK2).mono (fun k o ho hx => by have := Keep.lt ho; omega)
      have hp7g : w3.heap.size ≤ C.heap.size := h2
      have g1 := hJ _ _ _ h1 (Keep.of_ext hE2c)
      have g3 := Ext.boxed hE2c h3
      have g4 := Ext.boxed hE2c h4
      have g5 := Ext.boxed hE2c h5
      have g6 := Ext.boxed hE2c h6
      have g7 := Ext.boxed hE2c h7
      have g8 := h8.ext hE2c
      have g9 := h9.ext hE2c
      have kY := g3.cell
      have k4' := g4.cell
      have k5' := g5.cell
      have hpl : (padTo 64 ch).length = 64 := padTo_len64
      have HE2C := Lib.hid hE2c
      obtain ⟨fn, tmps, assign, body, hy, hRd⟩ := hY k C2 #[.int .i64 ((fr : Int) + (at0 : Int) + (1 + (k : Int))), aggB (padTo 64 ch)] (by rw [writes_len, hll]; omega) g1 ⟨_, HWA.out, by simp⟩
      unfold aggB at hy
      obtain ⟨O, hO⟩ : ∃ O, ((padTo 64 ch).map u8v).toArray = O := ⟨_, rfl⟩
      have hi1 := Lib.hid (show (Try.prog.info? 60).map (·.size) = some O.size by rw [info_sec, ← hO]; simp [hpl])
      have HB7 := Lib.hid (show C2.heap[C.heap.size]? = some (.cells O 60 (0, 0)) by rw [← hO]; exact B72)
      rw [hO] at hy
      have hsw := slice_whole C.heap.size
      simp only [List.replicate] at hrun
      clear h3 h4 h5 h6 h7 h8 h9 hEc B7 B72 hK2 hO hrch hE2c hpl
      gi_wp2_with (first | fail | (refine wpListIn_copy_run hrun rfl rfl rfl rfl ?_) | (refine wpListIn_val (v := .agg O) (fun _ => trivial) rfl (fun c h => by cases h) ?_ ?_; exact exec_load_row rfl rfl HB7.out Try.underlying60 rfl hi1.out))
      refine RoundIn.mono (show RoundIn (Fence.wide.inRound l2) _ Try.prog l' fn tmps assign body C2 _ from roundIn_wide hRd) ?_
      rintro e D (⟨rfl, hJ3, hK3⟩ | ⟨rfl, hJx3, hK3⟩)
      · have q3 := hK3.boxed g3 (fun h => by have := h.2; omega)
        have q4 := hK3.boxed g4 (fun h => by have := h.2; omega)
        have q5 := hK3.boxed g5 (fun h => by have := h.2; omega)
        have q6 := hK3.boxed g6 (fun h => h.1 (.inl rfl))
        have q7 := hK3.boxed g7 (fun h => h.1 (.inr (.inl rfl)))
        have q8 : Row 1 D a m c (l.map u8v) := by
          refine ⟨g8.1, g8.2.1, g8.2.2.1, g8.2.2.2.1, fun hn => ?_⟩
          obtain ⟨b, off, rfl, hcell⟩ := g8.2.2.2.2 hn
          exact ⟨b, off, rfl, fun i u hu => hK3.cell (hcell i u hu) (fun o _ _ h => h.1 (.inr (.inr (.inr ⟨_, rfl, hn, rfl⟩))))⟩
        have q9 := g9.keep hK3 (fun h => h.1 (.inr (.inr (.inl rfl))))
        have kY2 := q3.cell
        have k52 := q5.cell
        have f52 := q5.frozen
        have hsD := hK3.size
        have r5 := q5.set (.int .i64 (1 + (k : Int) + 1))
        have r3 := q3.other (show p3 ≠ p5 by omega) (.int .i64 (1 + (k : Int) + 1))
        have r4 := q4.other hne (.int .i64 (1 + (k : Int) + 1))
        have r6 := q6.other (show lbx ≠ p5 by omega) (.int .i64 (1 + (k : Int) + 1))
        have r7 := q7.other (show bbx ≠ p5 by omega) (.int .i64 (1 + (k : Int) + 1))
        have kc := keep_setCell D p5 0 (.int .i64 (1 + (k : Int) + 1))
        have r9 := q9.keep kc (fun h => by replace h : LB = p5 := h; omega)
        have r8 : Row 1 (D.setCell ⟨p5, 0, none⟩ (.int .i64 (1 + (k : Int) + 1))) a m c (l.map u8v) := by
          refine ⟨q8.1, q8.2.1, q8.2.2.1, q8.2.2.2.1, fun hn => ?_⟩
          obtain ⟨b, off, rfl, hcell⟩ := q8.2.2.2.2 hn
          have := hab _ rfl hn
          exact ⟨b, off, rfl, fun i u hu => kc.cell (hcell i u hu) (fun o _ _ h => by replace h : b = p5 := h; replace this : b < W.heap.size := this; omega)⟩
        have r1 := hJ _ _ _ hJ3 (kc.mono (fun b o _ h => .inr (by rw [h]; omega)) : Keep (grow W.heap.size fun _ => False) D _)
        have hKr : Keep (Go.Proofs.Ytdopaoajbjodeaa.round w3.heap.size (fun b => b = pb + 1 ∨ b = pb ∨ ∃ p, ac = some p ∧ 0 < m - mn ∧ b = p.block)) C (D.setCell ⟨p5, 0, none⟩ (.int .i64 (1 + (k : Int) + 1))) := by
          refine ((Keep.of_ext HE2C.out).trans (hK3.mono (fun b o _ h => ?_))).trans (kc.mono (fun b o _ h => ?_))
          · refine ⟨fun hz => ?_, .inl (by have := h.2; omega)⟩
            have := h.2
            rcases hz with hz | hz | ⟨p, hp, hl, hz⟩
            · omega
            · omega
            · obtain ⟨p', hp', hl', he⟩ := hblk p hp hl
              exact h.1 (.inr (.inr (.inr ⟨p', hp', hl', by rw [hz, he]⟩)))
          · rw [h]
            refine ⟨fun hz => ?_, .inl (by omega)⟩
            rcases hz with hz | hz | ⟨p, hp, hl, hz⟩
            · omega
            · omega
            · obtain ⟨p', hp', hl', he⟩ := hblk p hp hl
              have := hab p' hp' hl'
              omega
        have HKR := Lib.hid hKr
        have HALL := Lib.hid (show (_ ∧ _ ∧ _ ∧ _ ∧ _ ∧ _ ∧ _ ∧ _ ∧ _) from ⟨r1, (show w3.heap.size ≤ (D.setCell ⟨p5, 0, none⟩ (.int .i64 (1 + (k : Int) + 1))).heap.size from Nat.le_trans h2 (Nat.le_trans HE2C.out.size (Nat.le_trans hsD kc.size))), r3, r4, r5, r6, r7, r8, r9⟩)
        clear r1 r3 r4 r5 r6 r7 r8 r9 hKr kc q3 q4 q5 q6 q7 q8 q9 g1 g3 g4 g5 g6 g7 g8 g9 hJ3 hK3 hy hRd hrun
        gi_wp2
        refine hKN _ _ HKR.out ?_
        obtain ⟨r1, r2, r3, r4, r5, r6, r7, r8, r9⟩ := HALL.out
        exact ⟨r1, r2, r3, r4, by rw [show (1 + ((k + 1 : Nat) : Int)) = 1 + (k : Int) + 1 by omega]; exact r5, r6, r7, r8, r9⟩
      · clear g3 g4 g5 g6 g7 g8 g9 hy hRd hrun
        gi_wp2
        refine hKX _ _ _ ?_ ⟨rfl, hJx3⟩
        exact (Keep.of_ext HE2C.out).trans (hK3.mono (fun b o _ h => .inl (by omega)))
    case stop =>
      rintro D c' k A hD hk ⟨rfl, hx⟩ hdef
      have hk' : k < spanN m - 1 := by rw [← chunkN_span hm, hmn]; exact hk
      gi_wp2
      refine mark_ret hdef rfl (results_none rfl _ _ _) ⟨⟨_, rfl⟩, .inr ⟨k, by rw [writes_len, hll]; omega, hJx _ _ _ hx ?_⟩⟩
      exact (Keep.refl _ _).putObj _ _ (fun _ _ => .inr (by omega))
    case done =>
      rintro D A hD ⟨h1, h2, h3, h4, h5, h6, h7, h8, h9⟩ hdef
      obtain ⟨SN, hSN⟩ : ∃ x, spanN m = x := ⟨_, rfl⟩
      have hKN : chunkN 64 (m - mn) = SN - 1 := by rw [← hSN, ← chunkN_span hm, hmn]
      rw [hKN] at h1 h5
      rw [hSN] at hsp hspl hat
      rw [show (1 + ((SN - 1 : Nat) : Int)) = (SN : Int) by omega] at h5
      have k1 := h6.cell
      have k3 := h3.cell
      have k4 := h4.cell
      have k5 := h5.cell
      have kat := h9.cell (i := 4) rfl
      have kn := h9.cell (i := 2) rfl
      gi_wp2
      by_cases hlt : at0 + SN < n
      · have hlt' : (at0 : Int) + (SN : Int) < (n : Int) := by omega
        have hDw : ∀ g : FR.At (fun _ _ => False) A.drew, Ext A g.w := fun g => ((Keep.refl _ A).drew).trans g.ext
        have d1 := fun g => Ext.cell (hDw g) k1
        have d3 := fun g => Ext.cell (hDw g) k3
        have d4 := fun g => Ext.cell (hDw g) k4
        have d5 := fun g => Ext.cell (hDw g) k5
        have dat := fun g => Ext.cell (hDw g) kat
        have dn := fun g => Ext.cell (hDw g) kn
        clear hDw k1 k3 k4 k5 kat kn
        refine FR.wpIn_flow (X := fun b _ => b < W.heap.size) (0 :: 1 :: 2 :: 3 :: 4 :: 5 :: 6 :: 7 :: 8 :: 9 :: 10 :: 11 :: 12 :: 13 :: 14 :: 15 :: 16 :: 17 :: 18 :: 19 :: 20 :: []) (fun n => if n = 18 then .bar else .reads) (fun n => by split <;> simp) (by kernel_rfl) (by kernel_rfl) (by kernel_rfl) ?_
        iterate 17 (refine FR.flow_r rfl rfl rfl ?_; go_big_quiet_step (fail); refine wpQuiet_nil ?_)
        refine FR.flow_r rfl rfl rfl ?_; go_big_quiet_step (fail); refine wpQuiet_nil ?_
        refine FR.flow_y rfl rfl rfl (by kernel_rfl) (fun w5 hE5 _ => ?_)
        have hX5 : Ext A w5 := ((Keep.refl _ A).drew).trans hE5
        have hwm := writes_mid (fr := fr) (at' := at0) (n := n) (g := gen.toNat) (num := num) (b := l) (by rw [hll, hSN]; exact hlt)
        rw [hll, hSN] at hwm
        obtain ⟨fn, tmps, assign, body, hy, hRd⟩ := hY (SN - 1) w5 #[.int .i64 ((fr : Int) + (at0 : Int) + (SN : Int)), aggB (zeros 64)] (by rw [writes_len, hll, hSN]; omega) (hJ _ _ _ h1 (Keep.of_ext hX5)) ⟨_, hwm, by simp⟩
        rw [aggB_zeros] at hy
        refine ⟨l', fn, tmps, assign, body, (FR.exec_yield2 rfl rfl rfl rfl).trans hy, RoundIn.mono (roundIn_wide hRd) ?_⟩
        rintro e B1 (⟨rfl, hJ3, hK3⟩ | ⟨rfl, hJx3, hK3⟩)
        · refine ⟨_, rfl, hK3.mono (fun b o _ h => h.2), ?_⟩
          simp only [Act.put, List.setIfInBounds_toArray, List.set_cons_succ, List.set_cons_zero]
          clear hy hRd d1 d3 d4 d5 dat dn
          iterate 2 (refine FR.flow_r rfl rfl rfl ?_; go_big_quiet_step (fail); refine wpQuiet_nil ?_)
          refine FR.flow_end (fun w6 hE6 _ => ?_)
          replace hE6 : Ext B1 w6 := hE6
          have kk : Keep (round2 W.heap.size (fun b => b = lbx ∨ b = bbx ∨ b = LB ∨ ∃ p, a = some p ∧ 0 < m ∧ b = p.block)) A w6 := ((Keep.of_ext hX5).trans hK3).trans (Keep.of_ext hE6)
          have q3 := kk.boxed h3 (fun h => by have := h.2; omega)
          have q4 := kk.boxed h4 (fun h => by have := h.2; omega)
          have q6 := kk.boxed h6 (fun h => h.1 (.inl rfl))
          have q7 := kk.boxed h7 (fun h => h.1 (.inr (.inl rfl)))
          have q8 : Row 1 w6 a m c (l.map u8v) := by
            refine ⟨h8.1, h8.2.1, h8.2.2.1, h8.2.2.2.1, fun hn => ?_⟩
            obtain ⟨b, off, rfl, hcell⟩ := h8.2.2.2.2 hn
            exact ⟨b, off, rfl, fun i u hu => kk.cell (hcell i u hu) (fun o _ _ h => h.1 (.inr (.inr (.inr ⟨_, rfl, hn, rfl⟩))))⟩
          have q9 := h9.keep kk (fun h => h.1 (.inr (.inr (.inl rfl))))
          have hdz : w6.heap[D]? = some (.deferred (some [])) := kk.block _ _ hdef (fun h => by have := h.2; omega)
          have hjz := hJ _ _ _ hJ3 (Keep.of_ext hE6)
          rw [show SN - 1 + 1 = SN by omega] at hjz
          clear hE6 hK3 hJ3 kk h1 h3 h4 h5 h6 h7 h8 h9 hdef hX5 hE5 hwm
          have t1 := q6.cell
          have t2 := q7.cell
          have t3 := q3.cell
          have t4 := q4.cell
          have tg := q9.cell (i := 3) rfl
          have tr := q9.cell (i := 5) rfl
          gi_wp2
          have hDw : ∀ g : FR.At (fun _ _ => False) w6.drew, Ext w6 g.w := fun g => ((Keep.refl _ w6).drew).trans g.ext
          have d1 := fun g => Ext.cell (hDw g) t1
          have d2 := fun g => Ext.cell (hDw g) t2
          have d3 := fun g => Ext.cell (hDw g) t3
          have d4 := fun g => Ext.cell (hDw g) t4
          have dg := fun g => Ext.cell (hDw g) tg
          have dr := fun g => Ext.cell (hDw g) tr
          clear hDw t1 t2 t3 t4 tg tr
          refine FR.wpIn_flow (X := fun b _ => b < W.heap.size) (0 :: 1 :: 2 :: 3 :: 4 :: 5 :: 6 :: 7 :: 8 :: 9 :: 10 :: 11 :: 12 :: 13 :: 14 :: [])
            (fun n => if n = 13 then .grows (Is (aggB (firstL l gen.toNat num))) (IsSh (aggB (firstL l gen.toNat num))) else if n = 14 then .bar else .reads) (fun n => by split; simp; split <;> simp) (by kernel_rfl) (by kernel_rfl) (by kernel_rfl) ?_
          iterate 13 (refine FR.flow_r rfl rfl rfl ?_; go_big_quiet_step (fail); refine wpQuiet_nil ?_)
          refine FR.flow_g rfl rfl rfl (by simp) ⟨_, rfl⟩ (fun _ _ _ h hE => h) (fun _ _ h => h) (fun w7 hE7 _ => ?_) (fun v hv => ?_)
          · have hc := first_any l gen num a m c w7 (q8.ext (((Keep.refl _ w6).drew).trans hE7)) hm (by omega)
            go_wp2_with fail
            refine hc.mono ?_
            rintro e w8 ⟨rfl, hE8⟩
            go_wp2
            first | exact ⟨hE8, rfl⟩ | exact rfl
          cases hv
          simp only [Act.put, List.setIfInBounds_toArray, List.set_cons_succ, List.set_cons_zero]
          refine FR.flow_y rfl rfl rfl (by kernel_rfl) (fun w7 hE7 _ => ?_)
          have hX7 : Ext w6 w7 := ((Keep.refl _ w6).drew).trans hE7
          have hwl := writes_last (fr := fr) (at' := at0) (n := n) (g := gen.toNat) (num := num) (b := l)
          have hwn := writes_len (fr := fr) (at' := at0) (n := n) (g := gen.toNat) (num := num) (b := l)
          rw [hll, hSN, if_pos hlt, show SN - 1 + 1 = SN by omega] at hwl hwn
          obtain ⟨fn, tmps, assign, body, hy, hRd⟩ := hY (SN) w7 #[.int .i64 ((fr : Int) + (at0 : Int)), aggB (firstL l gen.toNat num)] (by rw [hwn]; omega) (hJ _ _ _ hjz (Keep.of_ext hX7)) ⟨_, hwl, by simp⟩
          refine ⟨l', fn, tmps, assign, body, (FR.exec_yield2 rfl rfl rfl rfl).trans hy, RoundIn.mono (roundIn_wide hRd) ?_⟩
          rintro e B2 (⟨rfl, hJ4, hK4⟩ | ⟨rfl, hJx4, hK4⟩)
          · refine ⟨_, rfl, hK4.mono (fun b o _ h => h.2), ?_⟩
            simp only [Act.put, List.setIfInBounds_toArray, List.set_cons_succ, List.set_cons_zero]
            clear hy hRd d1 d2 d3 d4 dg dr
            refine FR.flow_end (fun w8 hE8 _ => ?_)
            replace hE8 : Ext B2 w8 := hE8
            have HD8 := Lib.hid (hE8.block _ _ (hK4.block _ _ (hX7.block _ _ hdz (fun h => h)) (fun h => by have := h.2; omega)) (fun h => h))
            have HJ8 := Lib.hid (hJ _ _ _ hJ4 (Keep.of_ext hE8))
            have HWN := Lib.hid hwn
            clear hJ4 hK4 hE8 hwn hwl
            gi_wp2
            refine mark_end HD8.out rfl (results_none rfl _ _ _) ⟨⟨_, rfl⟩, .inl ?_⟩
            rw [HWN.out]
            exact hJ _ _ _ HJ8.out ((Keep.refl _ _).putObj _ _ (fun _ _ => .inr (by omega)))
          · refine ⟨_, rfl, hK4, ?_⟩
            simp only [Act.put, List.setIfInBounds_toArray, List.set_cons_succ, List.set_cons_zero]
            clear hy hRd d1 d2 d3 d4 dg dr
            refine FR.flow_end (fun w8 hE8 _ => ?_)
            replace hE8 : Ext B2 w8 := hE8
            have HD8 := Lib.hid (hE8.block _ _ (hK4.block _ _ (hX7.block _ _ hdz (fun h => h)) (fun h => by omega)) (fun h => h))
            have HJ8 := Lib.hid (hJx _ _ _ hJx4 (Keep.of_ext hE8))
            have HWN := Lib.hid hwn
            clear hJx4 hK4 hE8 hwn hwl
            gi_wp2
            refine mark_end HD8.out rfl (results_none rfl _ _ _) ⟨⟨_, rfl⟩, .inr ⟨SN, by rw [HWN.out]; omega, ?_⟩⟩
            exact hJx _ _ _ HJ8.out ((Keep.refl _ _).putObj _ _ (fun _ _ => .inr (by omega)))
        · refine ⟨_, rfl, hK3, ?_⟩
          simp only [Act.put, List.setIfInBounds_toArray, List.set_cons_succ, List.set_cons_zero]
          clear hy hRd d1 d3 d4 d5 dat dn
          iterate 2 (refine FR.flow_r rfl rfl rfl ?_; go_big_quiet_step (fail); refine wpQuiet_nil ?_)
          refine FR.flow_end (fun w6 hE6 _ => ?_)
          replace hE6 : Ext B1 w6 := hE6
          have hd6 : w6.heap[D]? = some (.deferred (some [])) := hE6.block _ _ (hK3.block _ _ (hX5.block _ _ hdef (fun h => h)) (fun h => by omega)) (fun h => h)
          have HX6 := Lib.hid (hJx _ _ _ hJx3 (Keep.of_ext hE6))
          have HD6 := Lib.hid hd6
          clear hE6 hd6 hJx3 hK3
          gi_wp2
          refine mark_ret HD6.out rfl (results_none rfl _ _ _) ⟨⟨_, rfl⟩, .inr ⟨SN - 1, by rw [writes_len, hll, hSN]; omega, hJx _ _ _ HX6.out ?_⟩⟩
          exact (Keep.refl _ _).putObj _ _ (fun _ _ => .inr (by omega))
      · have hlt' : ¬ ((at0 : Int) + (SN : Int) < (n : Int)) := by omega
        have hDw : ∀ g : FR.At (fun _ _ => False) A.drew, Ext A g.w := fun g => ((Keep.refl _ A).drew).trans g.ext
        have d1 := fun g => Ext.cell (hDw g) k1
        have d3 := fun g => Ext.cell (hDw g) k3
        have d4 := fun g => Ext.cell (hDw g) k4
        have d5 := fun g => Ext.cell (hDw g) k5
        have dat := fun g => Ext.cell (hDw g) kat
        have dn := fun g => Ext.cell (hDw g) kn
        clear hDw k1 k3 k4 k5 kat kn
        refine FR.wpIn_flow (X := fun b _ => b < W.heap.size) (0 :: 1 :: 2 :: 3 :: 4 :: 5 :: 6 :: 7 :: 8 :: 9 :: 10 :: 11 :: 12 :: 13 :: 14 :: 15 :: 16 :: 17 :: 18 :: 19 :: 20 :: []) (fun _ => .reads) (fun n => by simp) (by kernel_rfl) (by kernel_rfl) (by kernel_rfl) ?_
        iterate 13 (refine FR.flow_r rfl rfl rfl ?_; go_big_quiet_step (fail); refine wpQuiet_nil ?_)
        iterate 7 (refine FR.flow_s rfl rfl rfl ?_; simp only [Act.put, List.setIfInBounds_toArray, List.set_cons_succ, List.set_cons_zero])
        refine FR.flow_r rfl rfl rfl ?_; go_big_quiet_step (fail); refine wpQuiet_nil ?_
        refine FR.flow_end (fun w6 hE6 _ => ?_)
        replace hE6 : Ext A w6 := ((Keep.refl _ A).drew).trans hE6
        have q3 := Ext.boxed hE6 h3
        have q4 := Ext.boxed hE6 h4
        have q6 := Ext.boxed hE6 h6
        have q7 := Ext.boxed hE6 h7
        have q8 := h8.ext hE6
        have q9 := h9.ext hE6
        have hdz : w6.heap[D]? = some (.deferred (some [])) := hE6.block _ _ hdef (fun h => h)
        have hjz := hJ _ _ _ h1 (Keep.of_ext hE6)
        clear hE6 h1 h3 h4 h5 h6 h7 h8 h9 hdef d1 d3 d4 d5 dat dn
        have t1 := q6.cell
        have t2 := q7.cell
        have t3 := q3.cell
        have t4 := q4.cell
        have tg := q9.cell (i := 3) rfl
        have tr := q9.cell (i := 5) rfl
        gi_wp2
        have hDw : ∀ g : FR.At (fun _ _ => False) w6.drew, Ext w6 g.w := fun g => ((Keep.refl _ w6).drew).trans g.ext
        have d1 := fun g => Ext.cell (hDw g) t1
        have d2 := fun g => Ext.cell (hDw g) t2
        have d3 := fun g => Ext.cell (hDw g) t3
        have d4 := fun g => Ext.cell (hDw g) t4
        have dg := fun g => Ext.cell (hDw g) tg
        have dr := fun g => Ext.cell (hDw g) tr
        clear hDw t1 t2 t3 t4 tg tr
        refine FR.wpIn_flow (X := fun b _ => b < W.heap.size) (0 :: 1 :: 2 :: 3 :: 4 :: 5 :: 6 :: 7 :: 8 :: 9 :: 10 :: 11 :: 12 :: 13 :: 14 :: [])
          (fun n => if n = 13 then .grows (Is (aggB (firstL l gen.toNat num))) (IsSh (aggB (firstL l gen.toNat num))) else if n = 14 then .bar else .reads) (fun n => by split; simp; split <;> simp) (by kernel_rfl) (by kernel_rfl) (by kernel_rfl) ?_
        iterate 13 (refine FR.flow_r rfl rfl rfl ?_; go_big_quiet_step (fail); refine wpQuiet_nil ?_)
        refine FR.flow_g rfl rfl rfl (by simp) ⟨_, rfl⟩ (fun _ _ _ h hE => h) (fun _ _ h => h) (fun w7 hE7 _ => ?_) (fun v hv => ?_)
        · have hc := first_any l gen num a m c w7 (q8.ext (((Keep.refl _ w6).drew).trans hE7)) hm (by omega)
          go_wp2_with fail
          refine hc.mono ?_
          rintro e w8 ⟨rfl, hE8⟩
          go_wp2
          first | exact ⟨hE8, rfl⟩ | exact rfl
        cases hv
        simp only [Act.put, List.setIfInBounds_toArray, List.set_cons_succ, List.set_cons_zero]
        refine FR.flow_y rfl rfl rfl (by kernel_rfl) (fun w7 hE7 _ => ?_)
        have hX7 : Ext w6 w7 := ((Keep.refl _ w6).drew).trans hE7
        have hwl := writes_last (fr := fr) (at' := at0) (n := n) (g := gen.toNat) (num := num) (b := l)
        have hwn := writes_len (fr := fr) (at' := at0) (n := n) (g := gen.toNat) (num := num) (b := l)
        rw [hll, hSN, if_neg hlt, Nat.add_zero] at hwl hwn
        obtain ⟨fn, tmps, assign, body, hy, hRd⟩ := hY (SN - 1) w7 #[.int .i64 ((fr : Int) + (at0 : Int)), aggB (firstL l gen.toNat num)] (by rw [hwn]; omega) (hJ _ _ _ hjz (Keep.of_ext hX7)) ⟨_, hwl, by simp⟩
        refine ⟨l', fn, tmps, assign, body, (FR.exec_yield2 rfl rfl rfl rfl).trans hy, RoundIn.mono (roundIn_wide hRd) ?_⟩
        rintro e B2 (⟨rfl, hJ4, hK4⟩ | ⟨rfl, hJx4, hK4⟩)
        · refine ⟨_, rfl, hK4.mono (fun b o _ h => h.2), ?_⟩
          simp only [Act.put, List.setIfInBounds_toArray, List.set_cons_succ, List.set_cons_zero]
          clear hy hRd d1 d2 d3 d4 dg dr
          refine FR.flow_end (fun w8 hE8 _ => ?_)
          replace hE8 : Ext B2 w8 := hE8
          have HD8 := Lib.hid (hE8.block _ _ (hK4.block _ _ (hX7.block _ _ hdz (fun h => h)) (fun h => by have := h.2; omega)) (fun h => h))
          have HJ8 := Lib.hid (hJ _ _ _ hJ4 (Keep.of_ext hE8))
          have HWN := Lib.hid hwn
          clear hJ4 hK4 hE8 hwn hwl
          gi_wp2
          refine mark_end HD8.out rfl (results_none rfl _ _ _) ⟨⟨_, rfl⟩, .inl ?_⟩
          rw [HWN.out]
          exact hJ _ _ _ HJ8.out ((Keep.refl _ _).putObj _ _ (fun _ _ => .inr (by omega)))
        · refine ⟨_, rfl, hK4, ?_⟩
          simp only [Act.put, List.setIfInBounds_toArray, List.set_cons_succ, List.set_cons_zero]
          clear hy hRd d1 d2 d3 d4 dg dr
          refine FR.flow_end (fun w8 hE8 _ => ?_)
          replace hE8 : Ext B2 w8 := hE8
          have HD8 := Lib.hid (hE8.block _ _ (hK4.block _ _ (hX7.block _ _ hdz (fun h => h)) (fun h => by omega)) (fun h => h))
          have HJ8 := Lib.hid (hJx _ _ _ hJx4 (Keep.of_ext hE8))
          have HWN := Lib.hid hwn
          clear hJx4 hK4 hE8 hwn hwl
          gi_wp2
          refine mark_end HD8.out rfl (results_none rfl _ _ _) ⟨⟨_, rfl⟩, .inr ⟨SN - 1, by rw [HWN.out]; omega, ?_⟩⟩
          exact hJx _ _ _ HJ8.out ((Keep.refl _ _).putObj _ _ (fun _ _ => .inr (by omega)))
end Go.Proofs.Ytdopaoajbjodeaa
