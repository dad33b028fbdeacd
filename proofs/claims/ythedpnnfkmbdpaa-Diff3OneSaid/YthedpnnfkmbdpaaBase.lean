/-
  What a stretch of a run leaves as it was ('Keep'), what an iterator promises ('Iter'), and the law of a loop over an iterator ('range_outer'). Nothing here names the program.
-/
import Derived.RangeFuncNested
import Derived.RangeFuncBound
import Derived.Shelf.Abstract
import Derived.Shelf.RegionOpen
import Derived.WalkKit
import Derived.OwnWalkIn
import Derived.TacticsInMore
import Derived.LoopNIn
import Derived.LoopIn
import Derived.Lib.Hide
namespace Go.Proofs.Ythedpnnfkmbdpaa
open Go.RowKit Go.Shelf

/-- From A to B nothing has turned but new blocks and the blocks that X lets turn. -/
structure Keep (X : Nat → Obj → Prop) (A B : World) : Prop where
  os : B.os = A.os
  tape : B.tape = A.tape
  output : B.output = A.output
  size : A.heap.size ≤ B.heap.size
  block : ∀ k o, A.heap[k]? = some o → ¬ X k o → B.heap[k]? = some o

/-- No old block has turned. -/
abbrev Ext (A B : World) : Prop := Keep (fun _ _ => False) A B

section
variable {X Y : Nat → Obj → Prop} {A B C : World}
theorem Keep.refl (X : Nat → Obj → Prop) (A : World) : Keep X A A := ⟨rfl, rfl, rfl, Nat.le_refl _, fun _ _ h _ => h⟩
theorem Keep.trans (h : Keep X A B) (k : Keep X B C) : Keep X A C :=
  ⟨k.os.trans h.os, k.tape.trans h.tape, k.output.trans h.output, Nat.le_trans h.size k.size, fun i o ho hx => k.block i o (h.block i o ho hx) hx⟩
theorem Keep.mono (h : Keep X A B) (hXY : ∀ k o, A.heap[k]? = some o → X k o → Y k o) : Keep Y A B :=
  ⟨h.os, h.tape, h.output, h.size, fun k o ho hx => h.block k o ho (fun hX => hx (hXY k o ho hX))⟩
theorem Keep.of_ext (h : Ext A B) : Keep X A B := h.mono (fun _ _ _ h => h.elim)
theorem Keep.lt {k : Nat} {o : Obj} (h : A.heap[k]? = some o) : k < A.heap.size := (Array.getElem?_eq_some_iff.1 h).1
theorem Keep.of_below {n : Nat} (h : Below n A B) (hX : ∀ k o, A.heap[k]? = some o → n ≤ k → X k o) : Keep X A B :=
  ⟨h.os, h.tape, h.output, h.size, fun k o ho hx => (h.block k (Nat.lt_of_not_le (fun hn => hx (hX k o ho hn)))).trans ho⟩
theorem Keep.below {n : Nat} (h : Keep X A B) (hn : n ≤ A.heap.size) (hX : ∀ k o, A.heap[k]? = some o → X k o → n ≤ k) : Below n A B :=
  ⟨h.os, h.tape, h.output, h.size, fun k hk => by
    have hlt : k < A.heap.size := by omega
    have ho : A.heap[k]? = some A.heap[k] := Array.getElem?_eq_getElem hlt
    exact (h.block k _ ho (fun hx => by have := hX k _ ho hx; omega)).trans ho.symm⟩
theorem Ext.of_below (h : Below A.heap.size A B) : Ext A B := Keep.of_below h (fun k o ho hn => by have := Keep.lt ho; omega)
theorem Ext.below (h : Ext A B) : Below A.heap.size A B := Keep.below h (Nat.le_refl _) (fun _ _ _ h => h.elim)
theorem Ext.below' {n : Nat} (h : Ext A B) (hn : n ≤ A.heap.size) : Below n A B := Keep.below h hn (fun _ _ _ h => h.elim)
theorem Keep.alloc (h : Keep X A B) (o : Obj) : Keep X A (B.alloc o) :=
  h.trans ⟨rfl, rfl, rfl, by simp, fun k o' ho _ => (Below.heap_alloc B o k (Keep.lt ho)).trans ho⟩
theorem Keep.drew (h : Keep X A B) : Keep X A B.drew := ⟨h.os, h.tape, h.output, h.size, h.block⟩
theorem Keep.setCell (h : Keep X A B) (p : Addr) (v : Value) (hX : ∀ o, A.heap[p.block]? = some o → X p.block o) : Keep X A (B.setCell p v) :=
  ⟨h.os, h.tape, h.output, by simpa using h.size, fun k o ho hx => by
    have hne : k ≠ p.block := fun e => by subst e; exact hx (hX o ho)
    exact (Below.heap_setCell B p v k hne).trans (h.block k o ho hx)⟩
theorem Keep.putObj (h : Keep X A B) (l : Nat) (o' : Obj) (hX : ∀ o, A.heap[l]? = some o → X l o) : Keep X A (B.putObj l o') :=
  ⟨h.os, h.tape, h.output, by simpa using h.size, fun k o ho hx => by
    have hne : k ≠ l := fun e => by subst e; exact hx (hX o ho)
    exact (World.putObj_heap_other hne).trans (h.block k o ho hx)⟩
theorem Keep.of_grownBy {row : Option Nat} (h : A.grownBy B row) (hX : ∀ k o, row = some k → A.heap[k]? = some o → X k o) : Keep X A B :=
  ⟨h.os, h.tape, h.output, h.size, fun k o ho hx => (h.block k (Keep.lt ho) (fun e => hx (hX k o e.symm ho))).trans ho⟩
theorem Keep.grown {row : Option Nat} (h : Keep X A B) (hg : B.grownBy C row) (hX : ∀ k o, row = some k → A.heap[k]? = some o → X k o) : Keep X A C :=
  ⟨hg.os.trans h.os, hg.tape.trans h.tape, hg.output.trans h.output, Nat.le_trans h.size hg.size,
    fun k o ho hx => (hg.block k (Nat.lt_of_lt_of_le (Keep.lt ho) h.size) (fun e => hx (hX k o e.symm ho))).trans (h.block k o ho hx)⟩
theorem Keep.cell {p : Addr} {v : Value} (h : Keep X A B) (hc : A.cell? p = some v) (hX : ∀ o, A.heap[p.block]? = some o → o.isCells = true → ¬ X p.block o) : B.cell? p = some v := by
  have hlt := World.block_lt_of_cell? A p hc
  have ho : A.heap[p.block]? = some A.heap[p.block] := Array.getElem?_eq_getElem hlt
  have hcells : A.heap[p.block].isCells = true := by
    unfold World.cell? at hc
    rw [ho] at hc
    cases hh : A.heap[p.block] <;> simp_all [Obj.isCells]
  have hb := h.block _ _ ho (hX _ ho hcells)
  exact (World.cell?_of_block (w := A) (hb.trans ho.symm)).trans hc
theorem Ext.cell {p : Addr} {v : Value} (h : Ext A B) (hc : A.cell? p = some v) : B.cell? p = some v := Keep.cell h hc (fun _ _ _ h => h)
theorem Keep.boxed {b : Nat} {t : TypeId} {v : Value} (h : Keep X A B) (hb : Boxed A b t v) (hX : ¬ X b (.cells #[v] t (0, 0))) : Boxed B b t v := h.block b _ hb hX
theorem Ext.boxed {b : Nat} {t : TypeId} {v : Value} (h : Ext A B) (hb : Boxed A b t v) : Boxed B b t v := h.block b _ hb (fun h => h)
theorem Keep.owns {base : Nat} {e : TypeId} {sz n : Nat} {v : Value} {xs : List Value} (h : Keep X A B) (ho : A.ownsRow base e sz v n xs)
    (hX : ∀ k o, v.ownBlock = some k → A.heap[k]? = some o → o.isCells = true → ¬ X k o) : B.ownsRow base e sz v n xs := by
  refine ⟨ho.1, ?_⟩
  rcases ho.2 with hn | ⟨g, cap, cur, rfl, hb, hg, rest⟩
  · exact .inl hn
  · exact .inr ⟨g, cap, cur, rfl, hb, h.block g _ hg (hX g _ rfl hg rfl), rest⟩
theorem Ext.owns {base : Nat} {e : TypeId} {sz n : Nat} {v : Value} {xs : List Value} (h : Ext A B) (ho : A.ownsRow base e sz v n xs) : B.ownsRow base e sz v n xs :=
  Keep.owns h ho (fun _ _ _ _ _ h => h)
end

/-- What the book-keeping of a loop (its record, its block for deferred calls, both from block B on) and its iterator (the blocks X) may turn. -/
abbrev turn (B : Nat) (X : Nat → Prop) : Nat → Obj → Prop := fun b o => X b ∨ (B ≤ b ∧ o.isCells = false)
/-- What a round may turn: not what the iterator reads (Z), and no record of a loop. -/
abbrev round (B : Nat) (Z : Nat → Prop) : Nat → Obj → Prop := fun b o => ¬ Z b ∧ (b < B ∨ o.isCells = true)

section
variable {n : Nat} {X : Nat → Prop} {A B C : World}
theorem Keep.boxed_turn {b : Nat} {t : TypeId} {v : Value} (h : Keep (turn n X) A B) (hb : Boxed A b t v) (hX : ¬ X b) : Boxed B b t v :=
  h.boxed hb (fun hx => by rcases hx with hx | hx; exact hX hx; cases hx.2)
theorem Keep.cell_turn {p : Addr} {v : Value} (h : Keep (turn n X) A B) (hc : A.cell? p = some v) (hX : ¬ X p.block) : B.cell? p = some v :=
  h.cell hc (fun o _ hc hx => by rcases hx with hx | hx; exact hX hx; rw [hc] at hx; cases hx.2)
theorem Keep.owns_turn {base : Nat} {e : TypeId} {sz m : Nat} {v : Value} {xs : List Value} (h : Keep (turn n X) A B) (ho : A.ownsRow base e sz v m xs)
    (hX : ∀ k, v.ownBlock = some k → ¬ X k) : B.ownsRow base e sz v m xs :=
  h.owns ho (fun k o hk _ hc hx => by rcases hx with hx | hx; exact hX k hk hx; rw [hc] at hx; cases hx.2)
/-- What turned neither before nor by the loop's book-keeping. -/
theorem Keep.then_turn {Y : Nat → Obj → Prop} (h : Keep Y A B) (k : Keep (turn n X) B C) (hn : A.heap.size ≤ n) (hX : ∀ b o, X b → A.heap[b]? = some o → Y b o) : Keep Y A C :=
  ⟨k.os.trans h.os, k.tape.trans h.tape, k.output.trans h.output, Nat.le_trans h.size k.size, fun i o ho hx => k.block i o (h.block i o ho hx) (fun ht => by
    rcases ht with ht | ht
    · exact hx (hX i o ht ho)
    · have := Keep.lt ho; omega)⟩
end

/-- What an iterator (function gf, captured lb) promises: for k = 0, 1, .. below N it calls yield on arguments that 'Enc k' names; it goes on where yield says true, it stops where yield says false. X: the old blocks that it turns; Z: the blocks that a round must leave alone; inf: it never ends by itself. -/
def Iter (P : Program) (gf : Nat) (lb : Array Value) (N : Nat) (inf : Prop) (Enc : Nat → World → Array Value → Prop) (Pre : World → Prop) (X Z : Nat → Prop) : Prop :=
  ∀ (l : Nat) (J Jx : Nat → World → Prop) (W : World), Pre W →
    (∀ k A B, J k A → Keep (fun b _ => X b) A B → J k B) → (∀ k A B, Jx k A → Keep (fun b _ => X b) A B → Jx k B) →
    (∀ k A args, k < N → J k A → Enc k A args → YieldAt Fence.wide 0 P l args A fun e B =>
      (e = .returned (.bool true) ∧ J (k + 1) B ∧ Keep (fun b _ => ¬ Z b) A B) ∨ (e = .returned (.bool false) ∧ Jx k B)) →
    (inf → ∀ B, ¬ J N B) → J 0 W →
    Calls P gf (#[.func (.yield l) #[] #[]] ++ lb) W fun e B => (∃ v, e = .returned v) ∧ (J N B ∨ ∃ k, k < N ∧ Jx k B)

/-- How the body of a round may be left. -/
def roundQ (KN : World → Prop) (KX : Code → World → Prop) : Exit → Act → World → Prop
  | .normal, _, C => KN C
  | .ret, _, C => KX .ret C
  | .exit id, _, C => KX (.exit id) C
  | .goto t, _, C => KX (.goto t) C
  | .panic _, _, _ => False
  | .outgrown, _, _ => False

/-- The variables of the loop are set (a', A1); what is left of the round. C: the world when the record is marked as busy. -/
def Started (P : Program) (l n : Nat) (B : Nat) (Z : Nat → Prop) (KN : World → World → Prop) (KX : Code → World → World → Prop) (body : Code) (A : World) (a' : Act) (A1 : World) : Prop :=
  Keep (round B Z) A A1 ∧ ∀ C, Keep (turn B (fun _ => False)) A1 C → body.wpIn (Fence.wide.inRound l) n P (roundQ (KN C) (fun c => KX c C)) a' C

theorem roundIn_wide {P : Program} {l : Nat} {f : FuncId} {tmps : Array Value} {assign body : Code} {w : World} {R : Ending → World → Prop} {n m : Nat}
    (h : RoundIn Fence.wide n P l f tmps assign body w R) : RoundIn Fence.wide m P l f tmps assign body w R :=
  ⟨h.1, fun c cs _ => h.2 c cs (room_wide _)⟩

/-- A loop over an iterator, in the code of an activation (not in a round). -/
theorem range_outer {P : Program} {n : Nat} {g : Operand} {ps : Array Tmp} {assign body : Code} {Q : Exit → Act → World → Prop} {a : Act} {w : World}
    {gf : Nat} {lb : Array Value} {N : Nat} {inf : Prop} {Enc : Nat → World → Array Value → Prop} {Pre : World → Prop} {X Z : Nat → Prop}
    (hg : a.eval g = .func (.func gf) #[] lb) (eg : ∀ args w, (callFunc gf args).run P w = .ok (.enter gf args) w)
    (hit : Iter P gf lb N inf Enc Pre X Z) (hX : ∀ b, X b → b < w.heap.size) (hZ : ∀ b, Z b → b < w.heap.size)
    (hps : ∀ k A args, Enc k A args → args.size = ps.size) (hPre : ∀ A, Ext w A → Pre A)
    (I : Nat → World → Prop) (Ix : Nat → Code → World → Prop)
    (hI : ∀ k A B, I k A → Keep (turn w.heap.size X) A B → I k B)
    (hIx : ∀ k c A B, Ix k c A → Keep (turn w.heap.size X) A B → Ix k c B)
    (hinf : inf → ∀ B, ¬ I N B) (h0 : I 0 w)
    (hround : ∀ (l k : Nat) (A : World) (args : Array Value) (KN : World → World → Prop) (KX : Code → World → World → Prop), k < N → I k A → Enc k A args →
      (∀ C D, Keep (round w.heap.size Z) C D → I (k + 1) D → KN C D) → (∀ c C D, Keep (round w.heap.size Z) C D → Ix k c D → KX c C D) →
      assign.wpIn (Fence.wide.inRound l) n P (Exit.then (Started P l n w.heap.size Z KN KX body A) (fun _ _ _ => False)) { tmps := (ps.zip args).foldl (fun t (p, v) => t.setIfInBounds p v) a.tmps, defers := [] } A)
    (hdone : ∀ (D : Nat) (A : World), w.heap.size ≤ D → I N A → A.heap[D]? = some (.deferred (some [])) → Q .normal { a with defers := { target := .collected D, args := #[] } :: a.defers } A)
    (hstop : ∀ (D : Nat) (c : Code) (k : Nat) (A : World), w.heap.size ≤ D → k < N → Ix k c A → A.heap[D]? = some (.deferred (some [])) → c.wpIn Fence.wide n P Q { a with defers := { target := .collected D, args := #[] } :: a.defers } A) :
    (Code.rangeFunc g ps assign body).wpIn Fence.wide n P Q a w := by
  refine wpIn_rangeFunc ?_
  intro fn _
  have hro : Fence.wide.round = none := rfl
  rw [hro]
  obtain ⟨rec, hrec⟩ : ∃ rec : LoopState → Option Code → Loop, rec = fun st pe => { state := st, pending := pe, fn, tmps := a.tmps, params := ps, assign, body, defers := w.heap.size } := ⟨_, rfl⟩
  obtain ⟨W1, hW1⟩ : ∃ W1, (w.alloc (.deferred (some []))).alloc (.loop (rec .ready none)) = W1 := ⟨_, rfl⟩
  have hL1 : W1.heap[w.heap.size + 1]? = some (.loop (rec .ready none)) := by
    rw [← hW1]; have := World.alloc_heap_new (w.alloc (.deferred (some []))) (.loop (rec .ready none)); rwa [World.size_alloc] at this
  have hK1 : W1.heap[w.heap.size]? = some (.deferred (some [])) := by
    rw [← hW1]; exact (Below.heap_alloc _ _ _ (by simp)).trans (World.alloc_heap_new w _)
  have hE1 : Ext w W1 := by rw [← hW1]; exact ((Keep.refl _ w).alloc _).alloc _
  have hI1 : I 0 W1 := hI _ _ _ h0 (Keep.of_ext hE1)
  have stay : ∀ {A B : World} {k : Nat} {o : Obj}, Keep (fun b _ => X b) A B → w.heap.size ≤ k → A.heap[k]? = some o → B.heap[k]? = some o :=
    fun h hk ho => h.block _ _ ho (fun hx => by have := hX _ hx; omega)
  have stay' : ∀ {A B : World} {k : Nat} {o : Obj}, Keep (round w.heap.size Z) A B → w.heap.size ≤ k → A.heap[k]? = some o → o.isCells = false → B.heap[k]? = some o :=
    fun h hk ho hc => h.block _ _ ho (fun hx => by rcases hx.2 with hx | hx; omega; rw [hc] at hx; cases hx)
  have put : ∀ {A : World} {l : Nat} {o : Obj} (o' : Obj), w.heap.size ≤ l → A.heap[l]? = some o → o.isCells = false → Keep (turn w.heap.size X) A (A.putObj l o') :=
    fun o' hl ho hc => (Keep.refl _ _).putObj _ _ (fun o2 h2 => by rw [ho] at h2; cases h2; exact .inr ⟨hl, hc⟩)
  have put0 : ∀ {A : World} {l : Nat} {o : Obj} (o' : Obj), w.heap.size ≤ l → A.heap[l]? = some o → o.isCells = false → Keep (turn w.heap.size (fun _ => False)) A (A.putObj l o') :=
    fun o' hl ho hc => (Keep.refl _ _).putObj _ _ (fun o2 h2 => by rw [ho] at h2; cases h2; exact .inr ⟨hl, hc⟩)
  have putZ : ∀ {A : World} {l : Nat} (o' : Obj), w.heap.size ≤ l → Keep (fun b _ => ¬ Z b) A (A.putObj l o') :=
    fun o' hl => (Keep.refl _ _).putObj _ _ (fun o2 h2 hz => by have := hZ _ hz; omega)
  have tt : ∀ {A B : World}, Keep (fun b _ => X b) A B → Keep (turn w.heap.size X) A B := fun h => h.mono (fun _ _ _ hx => .inl hx)
  have rz : ∀ {A B : World}, Keep (round w.heap.size Z) A B → Keep (fun b _ => ¬ Z b) A B := fun h => h.mono (fun _ _ _ hx => hx.1)
  refine ⟨w.heap.size + 1, [{ target := .collected w.heap.size, args := #[] }], W1, { target := .fn (.func gf) lb, args := #[.func (.yield (w.heap.size + 1)) #[] #[]] }, W1, gf,
    #[.func (.yield (w.heap.size + 1)) #[] #[]] ++ lb, W1, ?_, ?_, ?_, ?_, fun h => by simp [Fence.wide] at h, ?_⟩
  · rw [← hW1, hrec]; exact run_enterLoop_outer _ _ _ _ _
  · simp only [resolve, hg]
    simp [go_sem]
  · intro f' _; trivial
  · simp [invoke, go_sem, eg]
  · refine callsIn_wide.2 ((hit (w.heap.size + 1)
      (fun k A => I k A ∧ A.heap[w.heap.size + 1]? = some (.loop (rec .ready none)) ∧ A.heap[w.heap.size]? = some (.deferred (some [])))
      (fun k A => ∃ c, Ix k c A ∧ A.heap[w.heap.size + 1]? = some (.loop (rec .done (some c))) ∧ A.heap[w.heap.size]? = some (.deferred (some [])))
      W1 (hPre _ hE1)
      (fun k A B hs hk => ⟨hI k A B hs.1 (tt hk), stay hk (by omega) hs.2.1, stay hk (Nat.le_refl _) hs.2.2⟩)
      (fun k A B hs hk => by
        obtain ⟨c, hc, hl, hd⟩ := hs
        exact ⟨c, hIx k c A B hc (tt hk), stay hk (by omega) hl, stay hk (Nat.le_refl _) hd⟩)
      ?_ (fun hi B hB => hinf hi B hB.1) ⟨hI1, hL1, hK1⟩).mono ?_)
    · rintro k A args hk ⟨hi, hl, hd⟩ henc
      have hy := run_yield (P := P) (args := args) hl (by rw [hrec]; exact hps k A args henc)
      rw [hrec] at hy
      refine ⟨fn, _, assign, body, hy, roundIn_wide (roundIn_of_wpIn (n := n) trivial (wpIn_mono (hround _ k A args (fun C D => Keep (round w.heap.size Z) C D ∧ I (k + 1) D) (fun c C D => Keep (round w.heap.size Z) C D ∧ Ix k c D) hk hi henc (fun _ _ h h' => ⟨h, h'⟩) (fun _ _ _ h h' => ⟨h, h'⟩)) ?_))⟩
      clear hy
      intro e0 a' B he0
      cases e0 with
      | normal => ?_
      | _ => exact he0.elim
      obtain ⟨hkB, hbody⟩ := he0
      replace hl := stay' hkB (by omega) hl rfl
      replace hd := stay' hkB (Nat.le_refl _) hd rfl
      have hlt : w.heap.size + 1 < B.heap.size := Keep.lt hl
      refine ⟨_, run_beginRound hl (by rw [hrec]), ?_⟩
      have hl2 : (B.putObj (w.heap.size + 1) (.loop { rec .ready none with state := .busy })).heap[w.heap.size + 1]? = some (.loop { rec .ready none with state := .busy }) := World.putObj_heap_same hlt
      have hd2 : (B.putObj (w.heap.size + 1) (.loop { rec .ready none with state := .busy })).heap[w.heap.size]? = some (.deferred (some [])) := (World.putObj_heap_other (by omega)).trans hd
      have hz2 := putZ (A := B) (.loop { rec .ready none with state := .busy }) (show w.heap.size ≤ w.heap.size + 1 by omega)
      refine wpIn_mono (hbody _ (put0 _ (by omega) hl rfl)) ?_
      have fin : ∀ (jump : Option Code) (W3 : World), Keep (round w.heap.size Z) (B.putObj (w.heap.size + 1) (.loop { rec .ready none with state := .busy })) W3 →
          (Instr.endRound (w.heap.size + 1) jump).run P W3 = .ok (.bool jump.isNone) (W3.putObj (w.heap.size + 1) (.loop (rec (if jump.isNone then .ready else .done) jump))) ∧
          W3.heap[w.heap.size + 1]? = some (.loop { rec .ready none with state := .busy }) ∧
          (W3.putObj (w.heap.size + 1) (.loop (rec (if jump.isNone then .ready else .done) jump))).heap[w.heap.size + 1]? = some (.loop (rec (if jump.isNone then .ready else .done) jump)) ∧
          (W3.putObj (w.heap.size + 1) (.loop (rec (if jump.isNone then .ready else .done) jump))).heap[w.heap.size]? = some (.deferred (some [])) := fun jump W3 hk3 => by
        have hl3 := stay' hk3 (by omega) hl2 rfl
        have hd3 := stay' hk3 (Nat.le_refl _) hd2 rfl
        have := run_endRound (P := P) jump hl3
        rw [hrec] at this ⊢
        exact ⟨this, by rw [hrec] at hl3; exact hl3, World.putObj_heap_same (Keep.lt hl3), (World.putObj_heap_other (by omega)).trans hd3⟩
      rintro e a3 W3 hp
      cases e with
      | normal =>
        obtain ⟨hk3, hi3⟩ := hp
        obtain ⟨hr, hl3, hl4, hd4⟩ := fin none W3 hk3
        exact ⟨_, _, hr, .inl ⟨rfl, ⟨hI _ _ _ hi3 (put _ (by omega) hl3 rfl), hl4, hd4⟩, (((rz hkB).trans hz2).trans (rz hk3)).trans (putZ _ (by omega))⟩⟩
      | ret =>
        obtain ⟨hk3, hi3⟩ := hp
        obtain ⟨hr, hl3, hl4, hd4⟩ := fin (some .ret) W3 hk3
        exact ⟨_, _, hr, .inr ⟨rfl, .ret, hIx _ _ _ _ hi3 (put _ (by omega) hl3 rfl), hl4, hd4⟩⟩
      | exit id =>
        obtain ⟨hk3, hi3⟩ := hp
        obtain ⟨hr, hl3, hl4, hd4⟩ := fin (some (.exit id)) W3 hk3
        exact ⟨_, _, hr, .inr ⟨rfl, .exit id, hIx _ _ _ _ hi3 (put _ (by omega) hl3 rfl), hl4, hd4⟩⟩
      | goto t =>
        obtain ⟨hk3, hi3⟩ := hp
        obtain ⟨hr, hl3, hl4, hd4⟩ := fin (some (.goto t)) W3 hk3
        exact ⟨_, _, hr, .inr ⟨rfl, .goto t, hIx _ _ _ _ hi3 (put _ (by omega) hl3 rfl), hl4, hd4⟩⟩
      | panic ch => exact hp.elim
      | outgrown => exact hp.elim
    · rintro e W2 ⟨⟨v, rfl⟩, (⟨hi, hl, hd⟩ | ⟨k, hk, c, hi, hl, hd⟩)⟩
      · exact ⟨none, _, by have := run_endLoop (P := P) hl (by rw [hrec]; simp); rw [hrec] at this; exact this, hdone _ _ (Nat.le_refl _) (hI _ _ _ hi (put _ (by omega) hl rfl)) ((World.putObj_heap_other (by omega)).trans hd)⟩
      · exact ⟨some c, _, by have := run_endLoop (P := P) hl (by rw [hrec]; simp); rw [hrec] at this; exact this, hstop _ c k _ (Nat.le_refl _) hk (hIx _ _ _ _ hi (put _ (by omega) hl rfl)) ((World.putObj_heap_other (by omega)).trans hd)⟩

/-- The same for the plain walk. -/
theorem range_wp {P : Program} {g : Operand} {ps : Array Tmp} {assign body : Code} {Q : Exit → Act → World → Prop} {a : Act} {w : World}
    {gf : Nat} {lb : Array Value} {N : Nat} {inf : Prop} {Enc : Nat → World → Array Value → Prop} {Pre : World → Prop} {X Z : Nat → Prop}
    (hg : a.eval g = .func (.func gf) #[] lb) (eg : ∀ args w, (callFunc gf args).run P w = .ok (.enter gf args) w)
    (hit : Iter P gf lb N inf Enc Pre X Z) (hX : ∀ b, X b → b < w.heap.size) (hZ : ∀ b, Z b → b < w.heap.size)
    (hps : ∀ k A args, Enc k A args → args.size = ps.size) (hPre : ∀ A, Ext w A → Pre A)
    (I : Nat → World → Prop) (Ix : Nat → Code → World → Prop)
    (hI : ∀ k A B, I k A → Keep (turn w.heap.size X) A B → I k B)
    (hIx : ∀ k c A B, Ix k c A → Keep (turn w.heap.size X) A B → Ix k c B)
    (hinf : inf → ∀ B, ¬ I N B) (h0 : I 0 w)
    (hround : ∀ (l k : Nat) (A : World) (args : Array Value) (KN : World → World → Prop) (KX : Code → World → World → Prop), k < N → I k A → Enc k A args →
      (∀ C D, Keep (round w.heap.size Z) C D → I (k + 1) D → KN C D) → (∀ c C D, Keep (round w.heap.size Z) C D → Ix k c D → KX c C D) →
      assign.wpIn (Fence.wide.inRound l) 3 P (Exit.then (Started P l 3 w.heap.size Z KN KX body A) (fun _ _ _ => False)) { tmps := (ps.zip args).foldl (fun t (p, v) => t.setIfInBounds p v) a.tmps, defers := [] } A)
    (hdone : ∀ (D : Nat) (A : World), w.heap.size ≤ D → I N A → A.heap[D]? = some (.deferred (some [])) → Q .normal { a with defers := { target := .collected D, args := #[] } :: a.defers } A)
    (hstop : ∀ (D : Nat) (c : Code) (k : Nat) (A : World), w.heap.size ≤ D → k < N → Ix k c A → A.heap[D]? = some (.deferred (some [])) → c.wp P Q { a with defers := { target := .collected D, args := #[] } :: a.defers } A) :
    (Code.rangeFunc g ps assign body).wp P Q a w :=
  (wpIn_wide (n := 3)).1 (range_outer hg eg hit hX hZ hps hPre I Ix hI hIx hinf h0 hround hdone (fun D c k A h1 h2 h3 h4 => wpIn_wide.2 (hstop D c k A h1 h2 h3 h4)))

/-- The post behind a variable, so that the walk leaves it alone. -/
theorem calls_cps {P : Program} {f : FuncId} {args : Array Value} {w : World} {post : Ending → World → Prop}
    (h : ∀ R : Ending → World → Prop, (∀ e w', post e w' → R e w') → Calls P f args w R) : Calls P f args w post := h _ (fun _ _ h => h)

/-- A function whose body holds a loop over an iterator. -/
theorem calls_marks {P : Program} {f : FuncId} {fn : Func} {c : Code} {args : Array Value} {w : World} {R : Ending → World → Prop}
    (hf : P.funcs[f]? = some fn) (hb : fn.body = some c)
    (h : c.wp P (bodyPostM Fence.wide 3 P fn R) { tmps := args ++ Array.replicate (fn.ntmps - args.size) undef, defers := [] } w) : Calls P f args w R :=
  callsIn_wide.1 (callsIn_of_wp_marks hf hb trivial (wpIn_wide.2 h) rfl)

/-- Such a function's end ahead of the loop. -/
theorem mark0_ret {P : Program} {n : Nat} {fn : Func} {R : Ending → World → Prop} {a : Act} {w : World} {v : Value}
    (hd : a.defers = []) (hr : (results fn a.tmps).run P w = .ok v w) (hR : R (.returned v) w) : bodyPostM Fence.wide n P fn R .ret a w := by
  show LeavesInM _ _ _ _ _ _ _ _ _
  rw [hd]
  exact ⟨v, hr, hR⟩

/-- The function's end behind one loop over an iterator. -/
theorem mark_ret {P : Program} {n : Nat} {fn : Func} {R : Ending → World → Prop} {a : Act} {w : World} {v : Value} {D : Nat}
    (hD : w.heap[D]? = some (.deferred (some []))) (hd : a.defers = [{ target := .collected D, args := #[] }])
    (hr : (results fn a.tmps).run P (w.putObj D (.deferred none)) = .ok v (w.putObj D (.deferred none)))
    (hR : R (.returned v) (w.putObj D (.deferred none))) : bodyPostM Fence.wide n P fn R .ret a w := by
  show LeavesInM _ _ _ _ _ _ _ _ _
  rw [hd]
  exact ⟨by simp, .inl ⟨D, _, rfl, run_takeDeferred hD, v, hr, hR⟩⟩
theorem mark_end {P : Program} {n : Nat} {fn : Func} {R : Ending → World → Prop} {a : Act} {w : World} {v : Value} {D : Nat}
    (hD : w.heap[D]? = some (.deferred (some []))) (hd : a.defers = [{ target := .collected D, args := #[] }])
    (hr : (results fn a.tmps).run P (w.putObj D (.deferred none)) = .ok v (w.putObj D (.deferred none)))
    (hR : R (.returned v) (w.putObj D (.deferred none))) : bodyPostM Fence.wide n P fn R .normal a w := mark_ret hD hd hr hR

end Go.Proofs.Ythedpnnfkmbdpaa
