/-
  TopRevoked: What a stretch of a run leaves as it was ('Keep'), what an iterator promises ('Iter'), and the law of a loop over an iterator ('range_outer'). Nothing here names the program. XFlow once more, in an order of the caller's choice ('ord'), where an operation that turns memory (within X) may be unordered with operations that give the same whatever X holds ('still'). A region that draws its order, whose operations read, or make memory and turn none that was there: ONE walk serves every order. What a making operation hands back is known by a predicate that stays true as memory grows; another operation may use it only if it waits for that one. Nothing here names the program. One more step of XFlowY: an operation with a value that turns memory, unordered with operations that stand ahead of it and read nothing that it turns. Nothing here names the program. The flow law for a region whose operations turn memory while others, unordered with them, make memory. Kinds: 'pure' (a value, whatever memory is), 'still' (a value, the same whatever X holds), 'keeps' (makes memory; what is known of its value stays true whatever X holds), 'bar' (turns memory within X, its run given; unordered with pure, still or keeping operations that stand ahead of it in the caller's order), 'wall' (turns any memory, its run given; unordered with pure ones ahead alone). ONE walk, in the order of the caller's list, serves every order. Nothing here names the program. The flow law for a region in which operations that turn memory stand unordered with one another ('free': its run given, within X) beside operations that give the same whatever X holds ('still'): the still ones of the list 'lead' are walked first, in its order; then the orders that are left are walked each ('two', 'one', 'none'). Nothing here names the program.
-/
import Derived.RangeFuncNested
import Derived.RangeFuncBound
import Derived.Shelf.Abstract
import Derived.Shelf.RegionOpen
import Derived.WalkKit
import Derived.OwnWalkIn
import Derived.TacticsInMore
import Derived.LoopNIn
import Derived.LoopIn
import Derived.Lib.Hide
import Derived.BigQuiet
namespace Go.Proofs.YtcmhgpgookiomaaGreat
open Go.RowKit Go.Shelf

/-- From A to B nothing has turned but new blocks and the blocks that X lets turn. -/
structure Keep (X : Nat → Obj → Prop) (A B : World) : Prop where
  os : B.os = A.os
  tape : B.tape = A.tape
  output : B.output = A.output
  size : A.heap.size ≤ B.heap.size
  block : ∀ k o, A.heap[k]? = some o → ¬ X k o → B.heap[k]? = some o

/-- No old block has turned. -/
abbrev Ext (A B : World) : Prop := Keep (fun _ _ => False) A B

section
variable {X Y : Nat → Obj → Prop} {A B C : World}
theorem Keep.refl (X : Nat → Obj → Prop) (A : World) : Keep X A A := ⟨rfl, rfl, rfl, Nat.le_refl _, fun _ _ h _ => h⟩
theorem Keep.trans (h : Keep X A B) (k : Keep X B C) : Keep X A C :=
  ⟨k.os.trans h.os, k.tape.trans h.tape, k.output.trans h.output, Nat.le_trans h.size k.size, fun i o ho hx => k.block i o (h.block i o ho hx) hx⟩
theorem Keep.mono (h : Keep X A B) (hXY : ∀ k o, A.heap[k]? = some o → X k o → Y k o) : Keep Y A B :=
  ⟨h.os, h.tape, h.output, h.size, fun k o ho hx => h.block k o ho (fun hX => hx (hXY k o ho hX))⟩
theorem Keep.of_ext (h : Ext A B) : Keep X A B := h.mono (fun _ _ _ h => h.elim)
theorem Keep.lt {k : Nat} {o : Obj} (h : A.heap[k]? = some o) : k < A.heap.size := (Array.getElem?_eq_some_iff.1 h).1
theorem Keep.of_below {n : Nat} (h : Below n A B) (hX : ∀ k o, A.heap[k]? = some o → n ≤ k → X k o) : Keep X A B :=
  ⟨h.os, h.tape, h.output, h.size, fun k o ho hx => (h.block k (Nat.lt_of_not_le (fun hn => hx (hX k o ho hn)))).trans ho⟩
theorem Keep.below {n : Nat} (h : Keep X A B) (hn : n ≤ A.heap.size) (hX : ∀ k o, A.heap[k]? = some o → X k o → n ≤ k) : Below n A B :=
  ⟨h.os, h.tape, h.output, h.size, fun k hk => by
    have hlt : k < A.heap.size := by omega
    have ho : A.heap[k]? = some A.heap[k] := Array.getElem?_eq_getElem hlt
    exact (h.block k _ ho (fun hx => by have := hX k _ ho hx; omega)).trans ho.symm⟩
theorem Ext.of_below (h : Below A.heap.size A B) : Ext A B := Keep.of_below h (fun k o ho hn => by have := Keep.lt ho; omega)
theorem Ext.below (h : Ext A B) : Below A.heap.size A B := Keep.below h (Nat.le_refl _) (fun _ _ _ h => h.elim)
theorem Keep.alloc (h : Keep X A B) (o : Obj) : Keep X A (B.alloc o) :=
  h.trans ⟨rfl, rfl, rfl, by simp, fun k o' ho _ => (Below.heap_alloc B o k (Keep.lt ho)).trans ho⟩
theorem Keep.drew (h : Keep X A B) : Keep X A B.drew := ⟨h.os, h.tape, h.output, h.size, h.block⟩
theorem Keep.setCell (h : Keep X A B) (p : Addr) (v : Value) (hX : ∀ o, A.heap[p.block]? = some o → X p.block o) : Keep X A (B.setCell p v) :=
  ⟨h.os, h.tape, h.output, by simpa using h.size, fun k o ho hx => by
    have hne : k ≠ p.block := fun e => by subst e; exact hx (hX o ho)
    exact (Below.heap_setCell B p v k hne).trans (h.block k o ho hx)⟩
theorem Keep.putObj (h : Keep X A B) (l : Nat) (o' : Obj) (hX : ∀ o, A.heap[l]? = some o → X l o) : Keep X A (B.putObj l o') :=
  ⟨h.os, h.tape, h.output, by simpa using h.size, fun k o ho hx => by
    have hne : k ≠ l := fun e => by subst e; exact hx (hX o ho)
    exact (World.putObj_heap_other hne).trans (h.block k o ho hx)⟩
theorem Keep.of_grownBy {row : Option Nat} (h : A.grownBy B row) (hX : ∀ k o, row = some k → A.heap[k]? = some o → X k o) : Keep X A B :=
  ⟨h.os, h.tape, h.output, h.size, fun k o ho hx => (h.block k (Keep.lt ho) (fun e => hx (hX k o e.symm ho))).trans ho⟩
theorem Keep.grown {row : Option Nat} (h : Keep X A B) (hg : B.grownBy C row) (hX : ∀ k o, row = some k → A.heap[k]? = some o → X k o) : Keep X A C :=
  ⟨hg.os.trans h.os, hg.tape.trans h.tape, hg.output.trans h.output, Nat.le_trans h.size hg.size,
    fun k o ho hx => (hg.block k (Nat.lt_of_lt_of_le (Keep.lt ho) h.size) (fun e => hx (hX k o e.symm ho))).trans (h.block k o ho hx)⟩
theorem Keep.cell {p : Addr} {v : Value} (h : Keep X A B) (hc : A.cell? p = some v) (hX : ∀ o, A.heap[p.block]? = some o → o.isCells = true → ¬ X p.block o) : B.cell? p = some v := by
  have hlt := World.block_lt_of_cell? A p hc
  have ho : A.heap[p.block]? = some A.heap[p.block] := Array.getElem?_eq_getElem hlt
  have hcells : A.heap[p.block].isCells = true := by
    unfold World.cell? at hc
    rw [ho] at hc
    cases hh : A.heap[p.block] <;> simp_all [Obj.isCells]
  have hb := h.block _ _ ho (hX _ ho hcells)
  exact (World.cell?_of_block (w := A) (hb.trans ho.symm)).trans hc
theorem Ext.cell {p : Addr} {v : Value} (h : Ext A B) (hc : A.cell? p = some v) : B.cell? p = some v := Keep.cell h hc (fun _ _ _ h => h)
theorem Keep.boxed {b : Nat} {t : TypeId} {v : Value} (h : Keep X A B) (hb : Boxed A b t v) (hX : ¬ X b (.cells #[v] t (0, 0))) : Boxed B b t v := h.block b _ hb hX
theorem Ext.boxed {b : Nat} {t : TypeId} {v : Value} (h : Ext A B) (hb : Boxed A b t v) : Boxed B b t v := h.block b _ hb (fun h => h)
theorem Keep.owns {base : Nat} {e : TypeId} {sz n : Nat} {v : Value} {xs : List Value} (h : Keep X A B) (ho : A.ownsRow base e sz v n xs)
    (hX : ∀ k o, v.ownBlock = some k → A.heap[k]? = some o → o.isCells = true → ¬ X k o) : B.ownsRow base e sz v n xs := by
  refine ⟨ho.1, ?_⟩
  rcases ho.2 with hn | ⟨g, cap, cur, rfl, hb, hg, rest⟩
  · exact .inl hn
  · exact .inr ⟨g, cap, cur, rfl, hb, h.block g _ hg (hX g _ rfl hg rfl), rest⟩
theorem Ext.owns {base : Nat} {e : TypeId} {sz n : Nat} {v : Value} {xs : List Value} (h : Ext A B) (ho : A.ownsRow base e sz v n xs) : B.ownsRow base e sz v n xs :=
  Keep.owns h ho (fun _ _ _ _ _ h => h)
end

/-- What the book-keeping of a loop (its record, its block for deferred calls, both from block B on) and its iterator (the blocks X) may turn. -/
abbrev turn (B : Nat) (X : Nat → Prop) : Nat → Obj → Prop := fun b o => X b ∨ (B ≤ b ∧ o.isCells = false)
/-- What a round may turn: not what the iterator reads (Z), and no record of a loop. -/
abbrev round (B : Nat) (Z : Nat → Prop) : Nat → Obj → Prop := fun b o => ¬ Z b ∧ (b < B ∨ o.isCells = true)

section
variable {n : Nat} {X : Nat → Prop} {A B C : World}
theorem Keep.boxed_turn {b : Nat} {t : TypeId} {v : Value} (h : Keep (turn n X) A B) (hb : Boxed A b t v) (hX : ¬ X b) : Boxed B b t v :=
  h.boxed hb (fun hx => by rcases hx with hx | hx; exact hX hx; cases hx.2)
/-- What turned neither before nor by the loop's book-keeping. -/
theorem Keep.then_turn {Y : Nat → Obj → Prop} (h : Keep Y A B) (k : Keep (turn n X) B C) (hn : A.heap.size ≤ n) (hX : ∀ b o, X b → A.heap[b]? = some o → Y b o) : Keep Y A C :=
  ⟨k.os.trans h.os, k.tape.trans h.tape, k.output.trans h.output, Nat.le_trans h.size k.size, fun i o ho hx => k.block i o (h.block i o ho hx) (fun ht => by
    rcases ht with ht | ht
    · exact hx (hX i o ht ho)
    · have := Keep.lt ho; omega)⟩
end

/-- What an iterator (function gf, captured lb) promises: for k = 0, 1, .. below N it calls yield on arguments that 'Enc k' names; it goes on where yield says true, it stops where yield says false. X: the old blocks that it turns; Z: the blocks that a round must leave alone; inf: it never ends by itself. -/
def Iter (P : Program) (gf : Nat) (lb : Array Value) (N : Nat) (inf : Prop) (Enc : Nat → World → Array Value → Prop) (Pre : World → Prop) (X Z : Nat → Prop) : Prop :=
  ∀ (l : Nat) (J Jx : Nat → World → Prop) (W : World), Pre W →
    (∀ k A B, J k A → Keep (fun b _ => X b) A B → J k B) → (∀ k A B, Jx k A → Keep (fun b _ => X b) A B → Jx k B) →
    (∀ k A args, k < N → J k A → Enc k A args → YieldAt Fence.wide 0 P l args A fun e B =>
      (e = .returned (.bool true) ∧ J (k + 1) B ∧ Keep (fun b _ => ¬ Z b) A B) ∨ (e = .returned (.bool false) ∧ Jx k B)) →
    (inf → ∀ B, ¬ J N B) → J 0 W →
    Calls P gf (#[.func (.yield l) #[] #[]] ++ lb) W fun e B => (∃ v, e = .returned v) ∧ (J N B ∨ ∃ k, k < N ∧ Jx k B)

/-- How the body of a round may be left. -/
def roundQ (KN : World → Prop) (KX : Code → World → Prop) : Exit → Act → World → Prop
  | .normal, _, C => KN C
  | .ret, _, C => KX .ret C
  | .exit id, _, C => KX (.exit id) C
  | .goto t, _, C => KX (.goto t) C
  | .panic _, _, _ => False
  | .outgrown, _, _ => False

/-- The variables of the loop are set (a', A1); what is left of the round. C: the world when the record is marked as busy. -/
def Started (P : Program) (l n : Nat) (B : Nat) (Z : Nat → Prop) (KN : World → World → Prop) (KX : Code → World → World → Prop) (body : Code) (A : World) (a' : Act) (A1 : World) : Prop :=
  Keep (round B Z) A A1 ∧ ∀ C, Keep (turn B (fun _ => False)) A1 C → body.wpIn (Fence.wide.inRound l) n P (roundQ (KN C) (fun c => KX c C)) a' C

theorem roundIn_wide {P : Program} {l : Nat} {f : FuncId} {tmps : Array Value} {assign body : Code} {w : World} {R : Ending → World → Prop} {n m : Nat}
    (h : RoundIn Fence.wide n P l f tmps assign body w R) : RoundIn Fence.wide m P l f tmps assign body w R :=
  ⟨h.1, fun c cs _ => h.2 c cs (room_wide _)⟩

/-- A loop over an iterator, in the code of an activation (not in a round). -/
theorem range_outer {P : Program} {n : Nat} {g : Operand} {ps : Array Tmp} {assign body : Code} {Q : Exit → Act → World → Prop} {a : Act} {w : World}
    {gf : Nat} {lb : Array Value} {N : Nat} {inf : Prop} {Enc : Nat → World → Array Value → Prop} {Pre : World → Prop} {X Z : Nat → Prop}
    (hg : a.eval g = .func (.func gf) #[] lb) (eg : ∀ args w, (callFunc gf args).run P w = .ok (.enter gf args) w)
    (hit : Iter P gf lb N inf Enc Pre X Z) (hX : ∀ b, X b → b < w.heap.size) (hZ : ∀ b, Z b → b < w.heap.size)
    (hps : ∀ k A args, Enc k A args → args.size = ps.size) (hPre : ∀ A, Ext w A → Pre A)
    (I : Nat → World → Prop) (Ix : Nat → Code → World → Prop)
    (hI : ∀ k A B, I k A → Keep (turn w.heap.size X) A B → I k B)
    (hIx : ∀ k c A B, Ix k c A → Keep (turn w.heap.size X) A B → Ix k c B)
    (hinf : inf → ∀ B, ¬ I N B) (h0 : I 0 w)
    (hround : ∀ (l k : Nat) (A : World) (args : Array Value) (KN : World → World → Prop) (KX : Code → World → World → Prop), k < N → I k A → Enc k A args →
      (∀ C D, Keep (round w.heap.size Z) C D → I (k + 1) D → KN C D) → (∀ c C D, Keep (round w.heap.size Z) C D → Ix k c D → KX c C D) →
      assign.wpIn (Fence.wide.inRound l) n P (Exit.then (Started P l n w.heap.size Z KN KX body A) (fun _ _ _ => False)) { tmps := (ps.zip args).foldl (fun t (p, v) => t.setIfInBounds p v) a.tmps, defers := [] } A)
    (hdone : ∀ (D : Nat) (A : World), w.heap.size ≤ D → I N A → A.heap[D]? = some (.deferred (some [])) → Q .normal { a with defers := { target := .collected D, args := #[] } :: a.defers } A)
    (hstop : ∀ (D : Nat) (c : Code) (k : Nat) (A : World), w.heap.size ≤ D → k < N → Ix k c A → A.heap[D]? = some (.deferred (some [])) → c.wpIn Fence.wide n P Q { a with defers := { target := .collected D, args := #[] } :: a.defers } A) :
    (Code.rangeFunc g ps assign body).wpIn Fence.wide n P Q a w := by
  refine wpIn_rangeFunc ?_
  intro fn _
  have hro : Fence.wide.round = none := rfl
  rw [hro]
  obtain ⟨rec, hrec⟩ : ∃ rec : LoopState → Option Code → Loop, rec = fun st pe => { state := st, pending := pe, fn, tmps := a.tmps, params := ps, assign, body, defers := w.heap.size } := ⟨_, rfl⟩
  obtain ⟨W1, hW1⟩ : ∃ W1, (w.alloc (.deferred (some []))).alloc (.loop (rec .ready none)) = W1 := ⟨_, rfl⟩
  have hL1 : W1.heap[w.heap.size + 1]? = some (.loop (rec .ready none)) := by
    rw [← hW1]; have := World.alloc_heap_new (w.alloc (.deferred (some []))) (.loop (rec .ready none)); rwa [World.size_alloc] at this
  have hK1 : W1.heap[w.heap.size]? = some (.deferred (some [])) := by
    rw [← hW1]; exact (Below.heap_alloc _ _ _ (by simp)).trans (World.alloc_heap_new w _)
  have hE1 : Ext w W1 := by rw [← hW1]; exact ((Keep.refl _ w).alloc _).alloc _
  have hI1 : I 0 W1 := hI _ _ _ h0 (Keep.of_ext hE1)
  have stay : ∀ {A B : World} {k : Nat} {o : Obj}, Keep (fun b _ => X b) A B → w.heap.size ≤ k → A.heap[k]? = some o → B.heap[k]? = some o :=
    fun h hk ho => h.block _ _ ho (fun hx => by have := hX _ hx; omega)
  have stay' : ∀ {A B : World} {k : Nat} {o : Obj}, Keep (round w.heap.size Z) A B → w.heap.size ≤ k → A.heap[k]? = some o → o.isCells = false → B.heap[k]? = some o :=
    fun h hk ho hc => h.block _ _ ho (fun hx => by rcases hx.2 with hx | hx; omega; rw [hc] at hx; cases hx)
  have put : ∀ {A : World} {l : Nat} {o : Obj} (o' : Obj), w.heap.size ≤ l → A.heap[l]? = some o → o.isCells = false → Keep (turn w.heap.size X) A (A.putObj l o') :=
    fun o' hl ho hc => (Keep.refl _ _).putObj _ _ (fun o2 h2 => by rw [ho] at h2; cases h2; exact .inr ⟨hl, hc⟩)
  have put0 : ∀ {A : World} {l : Nat} {o : Obj} (o' : Obj), w.heap.size ≤ l → A.heap[l]? = some o → o.isCells = false → Keep (turn w.heap.size (fun _ => False)) A (A.putObj l o') :=
    fun o' hl ho hc => (Keep.refl _ _).putObj _ _ (fun o2 h2 => by rw [ho] at h2; cases h2; exact .inr ⟨hl, hc⟩)
  have putZ : ∀ {A : World} {l : Nat} (o' : Obj), w.heap.size ≤ l → Keep (fun b _ => ¬ Z b) A (A.putObj l o') :=
    fun o' hl => (Keep.refl _ _).putObj _ _ (fun o2 h2 hz => by have := hZ _ hz; omega)
  have tt : ∀ {A B : World}, Keep (fun b _ => X b) A B → Keep (turn w.heap.size X) A B := fun h => h.mono (fun _ _ _ hx => .inl hx)
  have rz : ∀ {A B : World}, Keep (round w.heap.size Z) A B → Keep (fun b _ => ¬ Z b) A B := fun h => h.mono (fun _ _ _ hx => hx.1)
  refine ⟨w.heap.size + 1, [{ target := .collected w.heap.size, args := #[] }], W1, { target := .fn (.func gf) lb, args := #[.func (.yield (w.heap.size + 1)) #[] #[]] }, W1, gf,
    #[.func (.yield (w.heap.size + 1)) #[] #[]] ++ lb, W1, ?_, ?_, ?_, ?_, fun h => by simp [Fence.wide] at h, ?_⟩
  · rw [← hW1, hrec]; exact run_enterLoop_outer _ _ _ _ _
  · simp only [resolve, hg]
    simp [go_sem]
  · intro f' _; trivial
  · simp [invoke, go_sem, eg]
  · refine callsIn_wide.2 ((hit (w.heap.size + 1)
      (fun k A => I k A ∧ A.heap[w.heap.size + 1]? = some (.loop (rec .ready none)) ∧ A.heap[w.heap.size]? = some (.deferred (some [])))
      (fun k A => ∃ c, Ix k c A ∧ A.heap[w.heap.size + 1]? = some (.loop (rec .done (some c))) ∧ A.heap[w.heap.size]? = some (.deferred (some [])))
      W1 (hPre _ hE1)
      (fun k A B hs hk => ⟨hI k A B hs.1 (tt hk), stay hk (by omega) hs.2.1, stay hk (Nat.le_refl _) hs.2.2⟩)
      (fun k A B hs hk => by
        obtain ⟨c, hc, hl, hd⟩ := hs
        exact ⟨c, hIx k c A B hc (tt hk), stay hk (by omega) hl, stay hk (Nat.le_refl _) hd⟩)
      ?_ (fun hi B hB => hinf hi B hB.1) ⟨hI1, hL1, hK1⟩).mono ?_)
    · rintro k A args hk ⟨hi, hl, hd⟩ henc
      have hy := run_yield (P := P) (args := args) hl (by rw [hrec]; exact hps k A args henc)
      rw [hrec] at hy
      refine ⟨fn, _, assign, body, hy, roundIn_wide (roundIn_of_wpIn (n := n) trivial (wpIn_mono (hround _ k A args (fun C D => Keep (round w.heap.size Z) C D ∧ I (k + 1) D) (fun c C D => Keep (round w.heap.size Z) C D ∧ Ix k c D) hk hi henc (fun _ _ h h' => ⟨h, h'⟩) (fun _ _ _ h h' => ⟨h, h'⟩)) ?_))⟩
      clear hy
      intro e0 a' B he0
      cases e0 with
      | normal => ?_
      | _ => exact he0.elim
      obtain ⟨hkB, hbody⟩ := he0
      replace hl := stay' hkB (by omega) hl rfl
      replace hd := stay' hkB (Nat.le_refl _) hd rfl
      have hlt : w.heap.size + 1 < B.heap.size := Keep.lt hl
      refine ⟨_, run_beginRound hl (by rw [hrec]), ?_⟩
      have hl2 : (B.putObj (w.heap.size + 1) (.loop { rec .ready none with state := .busy })).heap[w.heap.size + 1]? = some (.loop { rec .ready none with state := .busy }) := World.putObj_heap_same hlt
      have hd2 : (B.putObj (w.heap.size + 1) (.loop { rec .ready none with state := .busy })).heap[w.heap.size]? = some (.deferred (some [])) := (World.putObj_heap_other (by omega)).trans hd
      have hz2 := putZ (A := B) (.loop { rec .ready none with state := .busy }) (show w.heap.size ≤ w.heap.size + 1 by omega)
      refine wpIn_mono (hbody _ (put0 _ (by omega) hl rfl)) ?_
      have fin : ∀ (jump : Option Code) (W3 : World), Keep (round w.heap.size Z) (B.putObj (w.heap.size + 1) (.loop { rec .ready none with state := .busy })) W3 →
          (Instr.endRound (w.heap.size + 1) jump).run P W3 = .ok (.bool jump.isNone) (W3.putObj (w.heap.size + 1) (.loop (rec (if jump.isNone then .ready else .done) jump))) ∧
          W3.heap[w.heap.size + 1]? = some (.loop { rec .ready none with state := .busy }) ∧
          (W3.putObj (w.heap.size + 1) (.loop (rec (if jump.isNone then .ready else .done) jump))).heap[w.heap.size + 1]? = some (.loop (rec (if jump.isNone then .ready else .done) jump)) ∧
          (W3.putObj (w.heap.size + 1) (.loop (rec (if jump.isNone then .ready else .done) jump))).heap[w.heap.size]? = some (.deferred (some [])) := fun jump W3 hk3 => by
        have hl3 := stay' hk3 (by omega) hl2 rfl
        have hd3 := stay' hk3 (Nat.le_refl _) hd2 rfl
        have := run_endRound (P := P) jump hl3
        rw [hrec] at this ⊢
        exact ⟨this, by rw [hrec] at hl3; exact hl3, World.putObj_heap_same (Keep.lt hl3), (World.putObj_heap_other (by omega)).trans hd3⟩
      rintro e a3 W3 hp
      cases e with
      | normal =>
        obtain ⟨hk3, hi3⟩ := hp
        obtain ⟨hr, hl3, hl4, hd4⟩ := fin none W3 hk3
        exact ⟨_, _, hr, .inl ⟨rfl, ⟨hI _ _ _ hi3 (put _ (by omega) hl3 rfl), hl4, hd4⟩, (((rz hkB).trans hz2).trans (rz hk3)).trans (putZ _ (by omega))⟩⟩
      | ret =>
        obtain ⟨hk3, hi3⟩ := hp
        obtain ⟨hr, hl3, hl4, hd4⟩ := fin (some .ret) W3 hk3
        exact ⟨_, _, hr, .inr ⟨rfl, .ret, hIx _ _ _ _ hi3 (put _ (by omega) hl3 rfl), hl4, hd4⟩⟩
      | exit id =>
        obtain ⟨hk3, hi3⟩ := hp
        obtain ⟨hr, hl3, hl4, hd4⟩ := fin (some (.exit id)) W3 hk3
        exact ⟨_, _, hr, .inr ⟨rfl, .exit id, hIx _ _ _ _ hi3 (put _ (by omega) hl3 rfl), hl4, hd4⟩⟩
      | goto t =>
        obtain ⟨hk3, hi3⟩ := hp
        obtain ⟨hr, hl3, hl4, hd4⟩ := fin (some (.goto t)) W3 hk3
        exact ⟨_, _, hr, .inr ⟨rfl, .goto t, hIx _ _ _ _ hi3 (put _ (by omega) hl3 rfl), hl4, hd4⟩⟩
      | panic ch => exact hp.elim
      | outgrown => exact hp.elim
    · rintro e W2 ⟨⟨v, rfl⟩, (⟨hi, hl, hd⟩ | ⟨k, hk, c, hi, hl, hd⟩)⟩
      · exact ⟨none, _, by have := run_endLoop (P := P) hl (by rw [hrec]; simp); rw [hrec] at this; exact this, hdone _ _ (Nat.le_refl _) (hI _ _ _ hi (put _ (by omega) hl rfl)) ((World.putObj_heap_other (by omega)).trans hd)⟩
      · exact ⟨some c, _, by have := run_endLoop (P := P) hl (by rw [hrec]; simp); rw [hrec] at this; exact this, hstop _ c k _ (Nat.le_refl _) hk (hIx _ _ _ _ hi (put _ (by omega) hl rfl)) ((World.putObj_heap_other (by omega)).trans hd)⟩

/-- The same for the plain walk. -/
theorem range_wp {P : Program} {g : Operand} {ps : Array Tmp} {assign body : Code} {Q : Exit → Act → World → Prop} {a : Act} {w : World}
    {gf : Nat} {lb : Array Value} {N : Nat} {inf : Prop} {Enc : Nat → World → Array Value → Prop} {Pre : World → Prop} {X Z : Nat → Prop}
    (hg : a.eval g = .func (.func gf) #[] lb) (eg : ∀ args w, (callFunc gf args).run P w = .ok (.enter gf args) w)
    (hit : Iter P gf lb N inf Enc Pre X Z) (hX : ∀ b, X b → b < w.heap.size) (hZ : ∀ b, Z b → b < w.heap.size)
    (hps : ∀ k A args, Enc k A args → args.size = ps.size) (hPre : ∀ A, Ext w A → Pre A)
    (I : Nat → World → Prop) (Ix : Nat → Code → World → Prop)
    (hI : ∀ k A B, I k A → Keep (turn w.heap.size X) A B → I k B)
    (hIx : ∀ k c A B, Ix k c A → Keep (turn w.heap.size X) A B → Ix k c B)
    (hinf : inf → ∀ B, ¬ I N B) (h0 : I 0 w)
    (hround : ∀ (l k : Nat) (A : World) (args : Array Value) (KN : World → World → Prop) (KX : Code → World → World → Prop), k < N → I k A → Enc k A args →
      (∀ C D, Keep (round w.heap.size Z) C D → I (k + 1) D → KN C D) → (∀ c C D, Keep (round w.heap.size Z) C D → Ix k c D → KX c C D) →
      assign.wpIn (Fence.wide.inRound l) 3 P (Exit.then (Started P l 3 w.heap.size Z KN KX body A) (fun _ _ _ => False)) { tmps := (ps.zip args).foldl (fun t (p, v) => t.setIfInBounds p v) a.tmps, defers := [] } A)
    (hdone : ∀ (D : Nat) (A : World), w.heap.size ≤ D → I N A → A.heap[D]? = some (.deferred (some [])) → Q .normal { a with defers := { target := .collected D, args := #[] } :: a.defers } A)
    (hstop : ∀ (D : Nat) (c : Code) (k : Nat) (A : World), w.heap.size ≤ D → k < N → Ix k c A → A.heap[D]? = some (.deferred (some [])) → c.wp P Q { a with defers := { target := .collected D, args := #[] } :: a.defers } A) :
    (Code.rangeFunc g ps assign body).wp P Q a w :=
  (wpIn_wide (n := 3)).1 (range_outer hg eg hit hX hZ hps hPre I Ix hI hIx hinf h0 hround hdone (fun D c k A h1 h2 h3 h4 => wpIn_wide.2 (hstop D c k A h1 h2 h3 h4)))

/-- The post behind a variable, so that the walk leaves it alone. -/
theorem calls_cps {P : Program} {f : FuncId} {args : Array Value} {w : World} {post : Ending → World → Prop}
    (h : ∀ R : Ending → World → Prop, (∀ e w', post e w' → R e w') → Calls P f args w R) : Calls P f args w post := h _ (fun _ _ h => h)

/-- A function whose body holds a loop over an iterator. -/
theorem calls_marks {P : Program} {f : FuncId} {fn : Func} {c : Code} {args : Array Value} {w : World} {R : Ending → World → Prop}
    (hf : P.funcs[f]? = some fn) (hb : fn.body = some c)
    (h : c.wp P (bodyPostM Fence.wide 3 P fn R) { tmps := args ++ Array.replicate (fn.ntmps - args.size) undef, defers := [] } w) : Calls P f args w R :=
  callsIn_wide.1 (callsIn_of_wp_marks hf hb trivial (wpIn_wide.2 h) rfl)

/-- Such a function's end ahead of the loop. -/
theorem mark0_ret {P : Program} {n : Nat} {fn : Func} {R : Ending → World → Prop} {a : Act} {w : World} {v : Value}
    (hd : a.defers = []) (hr : (results fn a.tmps).run P w = .ok v w) (hR : R (.returned v) w) : bodyPostM Fence.wide n P fn R .ret a w := by
  show LeavesInM _ _ _ _ _ _ _ _ _
  rw [hd]
  exact ⟨v, hr, hR⟩

/-- The function's end behind one loop over an iterator. -/
theorem mark_ret {P : Program} {n : Nat} {fn : Func} {R : Ending → World → Prop} {a : Act} {w : World} {v : Value} {D : Nat}
    (hD : w.heap[D]? = some (.deferred (some []))) (hd : a.defers = [{ target := .collected D, args := #[] }])
    (hr : (results fn a.tmps).run P (w.putObj D (.deferred none)) = .ok v (w.putObj D (.deferred none)))
    (hR : R (.returned v) (w.putObj D (.deferred none))) : bodyPostM Fence.wide n P fn R .ret a w := by
  show LeavesInM _ _ _ _ _ _ _ _ _
  rw [hd]
  exact ⟨by simp, .inl ⟨D, _, rfl, run_takeDeferred hD, v, hr, hR⟩⟩

end Go.Proofs.YtcmhgpgookiomaaGreat
namespace Go.Proofs.YtcmhgpgookiomaaGreat.FY
open Go.RowKit

/-- A world that w0 has grown into. -/
structure At (X : Nat → Obj → Prop) (w0 : World) where
  w : World
  ext : Keep X w0 w
instance {X : Nat → Obj → Prop} {w0 : World} : Nonempty (At X w0) := ⟨⟨w0, Keep.refl _ _⟩⟩

/-- What an operation is: it reads; it makes memory, its value of the shape Sh, known by S; it comes behind all others; it may turn memory, and all others come ahead of it or behind it. -/
inductive Kind where
  | reads
  | still
  | grows (S : Value → World → Prop) (Sh : Value → Prop)
  | last
  | bar

def Kind.isStill : Kind → Bool
  | .still => true
  | _ => false

def noCall (o : Oper) : Bool :=
  match o.op with
  | .call c => (match c.callee with | .builtin .len => true | .builtin .cap => true | .builtin .min => true | .builtin .max => true | _ => false)
  | .go _ | .defer _ | .send .. | .recv .. | .select .. | .panic _ => false
  | _ => true

section
variable {P : Program} {ops : Array Oper} {md : Region.Mode} {w0 : World} {X : Nat → Obj → Prop} {ord : List Nat}

/-- What an operation's run must be: a value of which T holds; or a call that hands back one. -/
def givesVal (P : Program) (T : Value → World → Prop) : Result Next → Prop
  | .ok (.value u) w' => T u w'
  | .ok .skip w' => T undef w'
  | .ok (.enter f args) w' => Calls P f args w' (fun e w'' => ∃ u, e = .returned u ∧ T u w'')
  | .ok (.row row args) w' => Rows P row args w' T
  | _ => False

/-- Operation o, in the frame a and the world w, hands back a value (undef: it is passed over), of which T holds. -/
def opTo (P : Program) (ops : Array Oper) (o : Oper) (a : Act) (w : World) (T : Value → World → Prop) : Prop :=
  if Region.wanted o (yielded ops a.tmps) then givesVal P T ((execOp a.eval o).run P w) else T undef w

/-- It reads: a value, the same in every world that w0 has grown into. -/
def opIs (P : Program) (ops : Array Oper) (o : Oper) (a : Act) (w : World) (v : Value) : Prop :=
  if Region.wanted o (yielded ops a.tmps) then (execOp a.eval o).run P w = .ok (.value v) w ∨ ((execOp a.eval o).run P w = .ok .skip w ∧ v = undef) else v = undef

theorem opIs_unique {o : Oper} {a : Act} {w : World} {u v : Value} (h : opIs P ops o a w u) (k : opIs P ops o a w v) : u = v := by
  unfold opIs at h k
  split at h
  · rename_i hw
    rw [if_pos hw] at k
    rcases h with h | ⟨h, rfl⟩ <;> rcases k with k | ⟨k, rfl⟩
    · rw [h] at k; cases k; rfl
    · rw [h] at k; cases k
    · rw [h] at k; cases k
    · rfl
  · rename_i hw
    rw [if_neg hw] at k
    rw [h, k]

/-- Whether operation j waits for operation d. -/
def ancB (md : Region.Mode) (ops : Array Oper) : Nat → Nat → Nat → Bool
  | 0, _, _ => false
  | n + 1, j, d => match ops[j]? with
    | none => false
    | some o => o.after.any fun e => Region.binds md e && (e.on == d || ancB md ops n e.on d)


/-- What is listed waits for nothing that isn't. -/
def Closed (md : Region.Mode) (ops : Array Oper) (listed : Array Bool) : Prop :=
  ∀ j o, ops[j]? = some o → listed.getD j false = true → ∀ e ∈ o.after, Region.binds md e = true → listed.getD e.on false = true

theorem closed_anc {listed : Array Bool} (hc : Closed md ops listed) : ∀ (n j d : Nat), (∀ o, ops[j]? = some o → ∀ e ∈ o.after, Region.binds md e = true → listed.getD e.on false = true) →
    ancB md ops n j d = true → listed.getD d false = true
  | 0, _, _, _, h => by simp [ancB] at h
  | n + 1, j, d, hj, h => by
    unfold ancB at h
    cases ho : ops[j]? with
    | none => simp [ho] at h
    | some o =>
      simp only [ho] at h
      obtain ⟨e, he, hb⟩ := Array.any_eq_true'.1 h
      simp only [Bool.and_eq_true, Bool.or_eq_true, beq_iff_eq] at hb
      have hl := hj o ho e he hb.1
      rcases hb.2 with rfl | hb
      · exact hl
      · exact closed_anc hc n e.on d (fun o' ho' e' he' hb' => hc e.on o' ho' hl e' he' hb') hb

theorem closed_set {listed : Array Bool} {i : Nat} (hc : Closed md ops listed) (hr : i ∈ Region.ready md ops listed) : Closed md ops (listed.setIfInBounds i true) := by
  intro j o ho hl e he hb
  refine getD_set_true ?_
  by_cases hji : j = i
  · subst hji
    obtain ⟨_, o', ho', hall⟩ := mem_ready.1 hr
    rw [ho] at ho'; cases ho'
    exact hall e he hb
  · rw [getD_set_ne false (Ne.symm hji)] at hl
    exact hc j o ho hl e he hb

def upd (facts : Nat → World → Prop) (k : Nat) (S : World → Prop) : Nat → World → Prop := fun d => if d = k then S else facts d

/-- Operation k comes up. -/
def flowOp (ord : List Nat) (X : Nat → Obj → Prop) (P : Program) (ops : Array Oper) (md : Region.Mode) (w0 : World) (tab : Nat → Kind) (Q : Exit → Act → World → Prop) (k : Nat) (K : World → (Nat → World → Prop) → Act → Prop)
    (facts : Nat → World → Prop) (a : Act) : Prop :=
  match ops[k]? with
  | none => False
  | some o => match tab k with
    | .reads => ∃ v, (∀ w, Ext w0 w → opIs P ops o a w v) ∧ K w0 facts (a.put o.dst v)
    | .still => ∃ v, (∀ w, Keep X w0 w → opIs P ops o a w v) ∧ K w0 facts (a.put o.dst v)
    | .grows S Sh => (∃ v, Sh v) ∧ (∀ v w w', S v w → Ext w w' → S v w') ∧ (∀ v w, S v w → Sh v) ∧
        (∀ w, Ext w0 w → (∀ d, ancB md ops ops.size k d = true → facts d w) → opTo P ops o a w (fun u w' => Ext w w' ∧ S u w')) ∧
        ∀ v, Sh v → K w0 (upd facts k (S v)) (a.put o.dst v)
    | .last => (∀ i, i < ops.size → i ≠ k → ancB md ops ops.size k i = true) ∧ ∀ w, Ext w0 w → (∀ d, facts d w) → wpOp P ops Q k (Q .normal) a w
    | .bar => (∀ i, i < ops.size → i ≠ k → (ancB md ops ops.size k i = true ∨ ((ord.takeWhile (· != k)).contains i = true ∧ (tab i).isStill = true)) ∨ ancB md ops ops.size i k = true) ∧
        ∀ w, Ext w0 w → (∀ d, facts d w) → opTo P ops o a w (fun u w' => Keep X w w' ∧ K w' (fun _ _ => True) (a.put o.dst u))

/-- THE WALK, in the order rest. -/
def wpFlow (ord : List Nat) (X : Nat → Obj → Prop) (P : Program) (ops : Array Oper) (md : Region.Mode) (tab : Nat → Kind) (Q : Exit → Act → World → Prop) : List Nat → World → (Nat → World → Prop) → Act → Prop
  | [], w0, facts, a => ∀ w, Ext w0 w → (∀ d, facts d w) → Q .normal a w
  | k :: rest, w0, facts, a => flowOp ord X P ops md w0 tab Q k (fun w0 facts a => wpFlow ord X P ops md tab Q rest w0 facts a) facts a

/-- Whatever order is picked from here on. -/
def anyFlow (ord : List Nat) (X : Nat → Obj → Prop) (P : Program) (ops : Array Oper) (md : Region.Mode) (tab : Nat → Kind) (Q : Exit → Act → World → Prop) : Nat → Array Bool → World → (Nat → World → Prop) → Act → Prop
  | 0, listed, w0, facts, a => Region.ready md ops listed = [] ∧ ∀ w, Ext w0 w → (∀ d, facts d w) → Q .normal a w
  | n + 1, listed, w0, facts, a => (Region.ready md ops listed = [] → ∀ w, Ext w0 w → (∀ d, facts d w) → Q .normal a w) ∧
      ∀ i ∈ Region.ready md ops listed, flowOp ord X P ops md w0 tab Q i (anyFlow ord X P ops md tab Q n (listed.setIfInBounds i true)) facts a

variable {tab : Nat → Kind} {Q : Exit → Act → World → Prop}

theorem opTo_mono {o : Oper} {a : Act} {w : World} {T T' : Value → World → Prop} (h : ∀ u w', T u w' → T' u w') (hh : opTo P ops o a w T) : opTo P ops o a w T' := by
  unfold opTo at *
  split
  · rename_i hw
    rw [if_pos hw] at hh
    generalize (execOp a.eval o).run P w = r at *
    cases r with
    | ok n w' =>
      cases n <;> simp only [givesVal] at hh ⊢
      · exact h _ _ hh
      · exact h _ _ hh
      · exact hh.mono (fun e w'' ⟨u, he, hT⟩ => ⟨u, he, h _ _ hT⟩)
      · exact hh.mono (fun u w'' hT => h _ _ hT)
    | halt x w' => simp only [givesVal] at hh
  · rename_i hw
    rw [if_neg hw] at hh
    exact h _ _ hh

theorem flowOp_mono {k : Nat} {K K' : World → (Nat → World → Prop) → Act → Prop} {facts : Nat → World → Prop} {a : Act} (h : ∀ w f a, K w f a → K' w f a) (hh : flowOp ord X P ops md w0 tab Q k K facts a) : flowOp ord X P ops md w0 tab Q k K' facts a := by
  unfold flowOp at *
  split at hh
  · exact hh
  · split at hh
    · obtain ⟨v, h1, h2⟩ := hh; exact ⟨v, h1, h _ _ _ h2⟩
    · obtain ⟨v, h1, h2⟩ := hh; exact ⟨v, h1, h _ _ _ h2⟩
    · exact ⟨hh.1, hh.2.1, hh.2.2.1, hh.2.2.2.1, fun v hv => h _ _ _ (hh.2.2.2.2 v hv)⟩
    · exact hh
    · exact ⟨hh.1, fun w hE hf => opTo_mono (fun _ _ h' => ⟨h'.1, h _ _ _ h'.2⟩) (hh.2 w hE hf)⟩

theorem wp_of_gives {o : Oper} {a : Act} {w : World} {T : Value → World → Prop} {K : Act → World → Prop} {Q' : Exit → Act → World → Prop} (h : ∀ v w', T v w' → K (a.put o.dst v) w')
    (hh : givesVal P T ((execOp a.eval o).run P w)) : o.wp P a w K Q' := by
  unfold Oper.wp
  generalize (execOp a.eval o).run P w = r at *
  cases r with
  | ok n w' =>
    cases n <;> simp only [givesVal] at hh <;> simp only [Oper.upon]
    · exact h _ _ hh
    · exact h _ _ hh
    · exact hh.mono (fun e w'' ⟨u, he, hT⟩ => by subst he; exact h _ _ hT)
    · exact hh.mono (fun u w'' hT => h _ _ hT)
  | halt x w' => cases x <;> simp only [givesVal] at hh

theorem gives_of_wp {o : Oper} {a : Act} {w : World} {T : Value → World → Prop} {d : Tmp} (hd : o.dst = some d) (hlt : d < a.tmps.size)
    (hh : o.wp P a w (fun b w' => ∃ v, b = a.put o.dst v ∧ T v w') (fun _ _ _ => False)) : givesVal P T ((execOp a.eval o).run P w) := by
  have inj : ∀ u v, a.put o.dst u = a.put o.dst v → u = v := by
    intro u v h
    rw [hd] at h
    have := congrArg (fun x : Act => x.tmps[d]?) h
    simpa [Act.put, hlt] using this
  unfold Oper.wp at hh
  generalize hr : (execOp a.eval o).run P w = r at *
  cases r with
  | ok n w' =>
    cases n <;> simp only [Oper.upon] at hh <;> simp only [givesVal]
    case value u => obtain ⟨v, h1, h2⟩ := hh; rw [inj _ _ h1]; exact h2
    case skip => obtain ⟨v, h1, h2⟩ := hh; rw [inj _ _ h1]; exact h2
    case enter f args =>
      refine hh.mono (fun e w'' he => ?_)
      cases e with
      | returned u => obtain ⟨v, h1, h2⟩ := he; exact ⟨u, rfl, by rw [inj _ _ h1]; exact h2⟩
      | panicked c => exact he.elim
      | outgrown => obtain ⟨_, _, he⟩ := he; exact he.elim
    case defer f =>
      obtain ⟨v, h1, _⟩ := hh
      have := congrArg Act.defers h1
      rw [hd] at this
      simp [Act.put] at this
    case row r args =>
      exact hh.mono (fun u w'' ⟨v, h1, h2⟩ => by rw [inj _ _ h1]; exact h2)
  | halt x w' => cases x <;> simp only [Oper.upon] at hh

theorem wpOp_of_opTo {i : Nat} {o : Oper} (ho : ops[i]? = some o) {a : Act} {w : World} {T : Value → World → Prop} {K : Act → World → Prop} (h : opTo P ops o a w T) (hK : ∀ v w', T v w' → K (a.put o.dst v) w') : wpOp P ops Q i K a w := by
  unfold wpOp
  simp only [ho]
  unfold opTo at h
  split
  · rename_i hw; rw [if_pos hw] at h
    exact .inl (wp_of_gives hK h)
  · rename_i hw; rw [if_neg hw] at h
    exact hK _ _ h

theorem opTo_of_opIs {o : Oper} {a : Act} {w : World} {v : Value} (h : opIs P ops o a w v) : opTo P ops o a w (fun u w' => u = v ∧ w' = w) := by
  unfold opIs at h
  unfold opTo
  split at h
  · rename_i hw
    rw [if_pos hw]
    rcases h with h | ⟨h, rfl⟩
    · rw [h]; exact ⟨rfl, rfl⟩
    · rw [h]; exact ⟨rfl, rfl⟩
  · rename_i hw
    rw [if_neg hw]
    exact ⟨h.symm, rfl⟩

theorem ready_nil_of_last {listed : Array Bool} {i : Nat} (hc : Closed md ops listed) (hr : i ∈ Region.ready md ops listed) (ha : ∀ j, j < ops.size → j ≠ i → ancB md ops ops.size i j = true) :
    Region.ready md ops (listed.setIfInBounds i true) = [] := by
  rw [List.eq_nil_iff_forall_not_mem]
  intro j hj
  obtain ⟨hun, oj, hoj, _⟩ := mem_ready.1 hj
  have hjlt : j < ops.size := (Array.getElem?_eq_some_iff.1 hoj).1
  obtain ⟨hiu, oi, hoi, hall⟩ := mem_ready.1 hr
  have hlisted : listed.getD j false = true ∨ j = i := by
    by_cases hji : j = i
    · exact .inr hji
    · exact .inl (closed_anc hc ops.size i j (fun o ho e he hb => by rw [hoi] at ho; cases ho; exact hall e he hb) (ha j hjlt hji))
  rcases hlisted with h | rfl
  · have := getD_set_true (i := i) h
    have hlt : j < (listed.setIfInBounds i true).size := by
      rcases Nat.lt_or_ge j (listed.setIfInBounds i true).size with h' | h'
      · exact h'
      · simp [Array.getElem?_eq_none h'] at this
    simp only [Array.getD_eq_getD_getElem?, Array.getElem?_eq_getElem hlt, Option.getD_some] at this hun
    rw [this] at hun; cases hun
  · have hlt : j < listed.size := by
      rcases Nat.lt_or_ge j listed.size with h' | h'
      · exact h'
      · simp [Array.getElem?_eq_none h'] at hiu
    simp [hlt] at hun

theorem wpAny_of_flow : ∀ (n : Nat) (listed : Array Bool) (w0 : World) (facts : Nat → World → Prop) (a : Act) (w : World), Closed md ops listed → (∀ d w w', facts d w → Ext w w' → facts d w') → Ext w0 w → (∀ d, facts d w) →
    anyFlow ord X P ops md tab Q n listed w0 facts a → wpAny P md ops Q n listed a w
  | 0, _, _, _, _, w, _, _, hw, hf, h => ⟨h.1, h.2 w hw hf⟩
  | n + 1, listed, w0, facts, a, w, hc, hst, hw, hf, h => ⟨fun h0 => h.1 h0 w hw hf, fun i hi => by
    have h1 := h.2 i hi
    unfold flowOp at h1
    split at h1
    · exact h1.elim
    · rename_i o ho
      split at h1
      · obtain ⟨v, hv, hK⟩ := h1
        refine wpOp_of_opTo ho (opTo_of_opIs (hv w hw)) ?_
        rintro u w' ⟨rfl, rfl⟩
        exact wpAny_of_flow n _ w0 facts _ _ (closed_set hc hi) hst hw hf hK
      · obtain ⟨v, hv, hK⟩ := h1
        refine wpOp_of_opTo ho (opTo_of_opIs (hv w (Keep.of_ext hw))) ?_
        rintro u w' ⟨rfl, rfl⟩
        exact wpAny_of_flow n _ w0 facts _ _ (closed_set hc hi) hst hw hf hK
      · rename_i S Sh _
        obtain ⟨_, hS, hSh, hop, hK⟩ := h1
        refine wpOp_of_opTo ho (hop w hw (fun d _ => hf d)) ?_
        rintro u w' ⟨hE, hu⟩
        refine wpAny_of_flow n _ w0 _ _ _ (closed_set hc hi) ?_ (hw.trans hE) ?_ (hK u (hSh _ _ hu))
        · intro d w1 w2 h12 hE12
          unfold upd at *
          split at h12
          · rename_i hd; rw [if_pos hd]; exact hS _ _ _ h12 hE12
          · rename_i hd; rw [if_neg hd]; exact hst d w1 w2 h12 hE12
        · intro d
          unfold upd
          split
          · exact hu
          · exact hst d w w' (hf d) hE
      · have hnil := ready_nil_of_last hc hi h1.1
        refine wpOp_mono ?_ (h1.2 w hw hf)
        intro b w' hb
        cases n with
        | zero => exact ⟨hnil, hb⟩
        | succ n => exact ⟨fun _ => hb, fun j hj => by rw [hnil] at hj; cases hj⟩
      · refine wpOp_of_opTo ho (h1.2 w hw hf) ?_
        intro u w' hb
        exact wpAny_of_flow n _ w' _ _ _ (closed_set hc hi) (fun _ _ _ _ _ => trivial) (Keep.refl _ _) (fun _ => trivial) hb.2⟩

theorem opTo_put {o : Oper} (hs : ∀ cs b, o.op ≠ .select cs b) {a : Act} {dst : Option Tmp} {v : Value} (h : ∀ d, dst = some d → d ∉ o.looksAt ops) {w : World} {T : Value → World → Prop} :
    opTo P ops o (a.put dst v) w T ↔ opTo P ops o a w T := by
  unfold opTo
  rw [execOp_put o hs a dst v h, wanted_put o a dst v h]
theorem opIs_put {o : Oper} (hs : ∀ cs b, o.op ≠ .select cs b) {a : Act} {dst : Option Tmp} {v : Value} (h : ∀ d, dst = some d → d ∉ o.looksAt ops) {w : World} {u : Value} :
    opIs P ops o (a.put dst v) w u ↔ opIs P ops o a w u := by
  unfold opIs
  rw [execOp_put o hs a dst v h, wanted_put o a dst v h]
theorem upd_comm (facts : Nat → World → Prop) {i j : Nat} (h : i ≠ j) (S T : World → Prop) : upd (upd facts i S) j T = upd (upd facts j T) i S := by
  funext d
  unfold upd
  by_cases h1 : d = j
  · subst h1; rw [if_pos rfl, if_neg (Ne.symm h), if_pos rfl]
  · by_cases h2 : d = i
    · subst h2; simp [h1]
    · simp [h1, h2]

/-- j, apart from i and not waiting for it: i may come behind it as well. -/
theorem flowOp_swap {i j : Nat} {oi oj : Oper} (hi : ops[i]? = some oi) (hj : ops[j]? = some oj) (hij : i ≠ j) (hap : oi.apart ops oj = true)
    (hsi : ∀ cs b, oi.op ≠ .select cs b) (hsj : ∀ cs b, oj.op ≠ .select cs b) (hanc : ancB md ops ops.size j i = false) (hanc' : ancB md ops ops.size i j = false) (hti : tab i ≠ .last) (htb : tab i ≠ .bar)
    {K : World → (Nat → World → Prop) → Act → Prop} {facts : Nat → World → Prop} {a : Act}
    (h : flowOp ord X P ops md w0 tab Q i (fun w0 facts a => flowOp ord X P ops md w0 tab Q j K facts a) facts a) : flowOp ord X P ops md w0 tab Q j (fun w0 facts a => flowOp ord X P ops md w0 tab Q i K facts a) facts a := by
  obtain ⟨h1, h2, h3⟩ := Oper.apart_spec hap
  have ilt : i < ops.size := (Array.getElem?_eq_some_iff.1 hi).1
  have updI : ∀ (S : World → Prop) (w : World), (∀ d, ancB md ops ops.size j d = true → facts d w) → (∀ d, ancB md ops ops.size j d = true → upd facts i S d w) := fun S w hf d hd => by
    unfold upd; rw [if_neg (fun e => by subst e; rw [hanc] at hd; cases hd)]; exact hf d hd
  have updJ : ∀ (S : World → Prop) (w : World), (∀ d, ancB md ops ops.size i d = true → upd facts j S d w) → (∀ d, ancB md ops ops.size i d = true → facts d w) := fun S w hf d hd => by
    have := hf d hd; unfold upd at this; rwa [if_neg (fun e => by subst e; rw [hanc'] at hd; cases hd)] at this
  unfold flowOp at h ⊢
  simp only [hi, hj] at h ⊢
  cases hki : tab i with
  | last => exact absurd hki hti
  | bar => exact absurd hki htb
  | reads =>
    simp only [hki] at h ⊢
    obtain ⟨v, hv, h⟩ := h
    cases hkj : tab j with
    | last => simp only [hkj] at h; have := h.1 i ilt hij; rw [hanc] at this; cases this
    | bar => simp only [hkj] at h; rcases h.1 i ilt hij with (this | this) | this; (rw [hanc] at this; cases this); (rw [hki] at this; cases this.2); (rw [hanc'] at this; cases this)
    | reads =>
      simp only [hkj] at h
      obtain ⟨u, hu, hK⟩ := h
      exact ⟨u, fun w hw => (opIs_put hsj h1).1 (hu w hw), v, fun w hw => (opIs_put hsi h3).2 (hv w hw), by rw [← Act.put_comm a v u h2]; exact hK⟩
    | still =>
      simp only [hkj] at h
      obtain ⟨u, hu, hK⟩ := h
      exact ⟨u, fun w hw => (opIs_put hsj h1).1 (hu w hw), v, fun w hw => (opIs_put hsi h3).2 (hv w hw), by rw [← Act.put_comm a v u h2]; exact hK⟩
    | grows S Sh =>
      simp only [hkj] at h
      obtain ⟨e1, e2, e3, e4, hK⟩ := h
      exact ⟨e1, e2, e3, fun w hw hf => (opTo_put hsj h1).1 (e4 w hw hf), fun u hu => ⟨v, fun w hw => (opIs_put hsi h3).2 (hv w hw), by rw [← Act.put_comm a v u h2]; exact hK u hu⟩⟩
  | still =>
    simp only [hki] at h ⊢
    obtain ⟨v, hv, h⟩ := h
    cases hkj : tab j with
    | last => simp only [hkj] at h; have := h.1 i ilt hij; rw [hanc] at this; cases this
    | bar =>
      simp only [hkj] at h
      refine ⟨h.1, fun w hE hf => opTo_mono (fun u w' hu => ⟨hu.1, v, fun w'' hw'' => (opIs_put hsi h3).2 (hv w'' (((Keep.of_ext hE).trans hu.1).trans hw'')), ?_⟩) ((opTo_put hsj h1).1 (h.2 w hE hf))⟩
      rw [← Act.put_comm a v u h2]
      exact hu.2
    | reads =>
      simp only [hkj] at h
      obtain ⟨u, hu, hK⟩ := h
      exact ⟨u, fun w hw => (opIs_put hsj h1).1 (hu w hw), v, fun w hw => (opIs_put hsi h3).2 (hv w hw), by rw [← Act.put_comm a v u h2]; exact hK⟩
    | still =>
      simp only [hkj] at h
      obtain ⟨u, hu, hK⟩ := h
      exact ⟨u, fun w hw => (opIs_put hsj h1).1 (hu w hw), v, fun w hw => (opIs_put hsi h3).2 (hv w hw), by rw [← Act.put_comm a v u h2]; exact hK⟩
    | grows S Sh =>
      simp only [hkj] at h
      obtain ⟨e1, e2, e3, e4, hK⟩ := h
      exact ⟨e1, e2, e3, fun w hw hf => (opTo_put hsj h1).1 (e4 w hw hf), fun u hu => ⟨v, fun w hw => (opIs_put hsi h3).2 (hv w hw), by rw [← Act.put_comm a v u h2]; exact hK u hu⟩⟩
  | grows Si Shi =>
    simp only [hki] at h ⊢
    obtain ⟨⟨v0, hv0⟩, f2, f3, f4, h⟩ := h
    cases hkj : tab j with
    | last => have h0 := h v0 hv0; simp only [hkj] at h0; have := h0.1 i ilt hij; rw [hanc] at this; cases this
    | bar => have h0 := h v0 hv0; simp only [hkj] at h0; rcases h0.1 i ilt hij with (this | this) | this; (rw [hanc] at this; cases this); (rw [hki] at this; cases this.2); (rw [hanc'] at this; cases this)
    | reads =>
      have h0 := h v0 hv0
      simp only [hkj] at h0
      obtain ⟨u, hu, _⟩ := h0
      refine ⟨u, fun w hw => (opIs_put hsj h1).1 (hu w hw), ⟨v0, hv0⟩, f2, f3, fun w hw hf => (opTo_put hsi h3).2 (f4 w hw hf), fun v hv => ?_⟩
      have h' := h v hv
      simp only [hkj] at h'
      obtain ⟨u', hu', hK⟩ := h'
      obtain rfl : u = u' := opIs_unique ((opIs_put hsj h1).1 (hu w0 (Keep.refl _ _))) ((opIs_put hsj h1).1 (hu' w0 (Keep.refl _ _)))
      rw [← Act.put_comm a v u h2]; exact hK
    | still =>
      have h0 := h v0 hv0
      simp only [hkj] at h0
      obtain ⟨u, hu, _⟩ := h0
      refine ⟨u, fun w hw => (opIs_put hsj h1).1 (hu w hw), ⟨v0, hv0⟩, f2, f3, fun w hw hf => (opTo_put hsi h3).2 (f4 w hw hf), fun v hv => ?_⟩
      have h' := h v hv
      simp only [hkj] at h'
      obtain ⟨u', hu', hK⟩ := h'
      obtain rfl : u = u' := opIs_unique ((opIs_put hsj h1).1 (hu w0 (Keep.refl _ _))) ((opIs_put hsj h1).1 (hu' w0 (Keep.refl _ _)))
      rw [← Act.put_comm a v u h2]; exact hK
    | grows S Sh =>
      have h0 := h v0 hv0
      simp only [hkj] at h0
      obtain ⟨e1, e2, e3, e4, _⟩ := h0
      refine ⟨e1, e2, e3, fun w hw hf => (opTo_put hsj h1).1 (e4 w hw (updI _ w hf)), fun u hu => ⟨⟨v0, hv0⟩, f2, f3, fun w hw hf => (opTo_put hsi h3).2 (f4 w hw (updJ _ w hf)), fun v hv => ?_⟩⟩
      have h' := h v hv
      simp only [hkj] at h'
      have hK := h'.2.2.2.2 u hu
      rw [← Act.put_comm a v u h2, upd_comm facts (Ne.symm hij)]; exact hK

theorem flowOp_some {i : Nat} {K : World → (Nat → World → Prop) → Act → Prop} {facts : Nat → World → Prop} {a : Act} (hti : tab i ≠ .last) (htb : tab i ≠ .bar) (h : flowOp ord X P ops md w0 tab Q i K facts a) : ∃ w f b, K w f b := by
  unfold flowOp at h
  split at h
  · exact h.elim
  · split at h
    · obtain ⟨v, _, h⟩ := h; exact ⟨_, _, _, h⟩
    · obtain ⟨v, _, h⟩ := h; exact ⟨_, _, _, h⟩
    · obtain ⟨⟨v, hv⟩, _, _, _, h⟩ := h; exact ⟨_, _, _, h v hv⟩
    · rename_i hk; exact absurd hk hti
    · rename_i hk; exact absurd hk htb

theorem anc_unlisted {listed : Array Bool} (hc : Closed md ops listed) {i j : Nat} (hr : j ∈ Region.ready md ops listed) (hi : i ∈ Region.ready md ops listed) : ancB md ops ops.size j i = false := by
  cases h : ancB md ops ops.size j i with
  | false => rfl
  | true =>
    obtain ⟨_, oj, hoj, hall⟩ := mem_ready.1 hr
    have hl := closed_anc hc ops.size j i (fun o ho e he hb => by rw [hoj] at ho; cases ho; exact hall e he hb) h
    have hu := (mem_ready.1 hi).1
    have hlt : i < listed.size := by
      rcases Nat.lt_or_ge i listed.size with h' | h'
      · exact h'
      · simp [Array.getElem?_eq_none h'] at hl
    simp [hlt] at hl hu
    rw [hl] at hu; cases hu

theorem anyFlow_first {i : Nat} {oi : Oper} (hi : ops[i]? = some oi) (hsel : ∀ (j : Nat) (o : Oper) cs b, ops[j]? = some o → o.op ≠ .select cs b) (hti : tab i ≠ .last) (htb : tab i ≠ .bar) :
    ∀ (fuel : Nat) (listed : Array Bool) (w0 : World) (facts : Nat → World → Prop) (a : Act), Closed md ops listed →
      (∀ j oj, ops[j]? = some oj → j ≠ i → listed.getD j true = false → (∀ e ∈ oj.after, Region.binds md e = true → e.on ≠ i) → oi.apart ops oj = true) →
      i ∈ Region.ready md ops listed → flowOp ord X P ops md w0 tab Q i (anyFlow ord X P ops md tab Q fuel (listed.setIfInBounds i true)) facts a →
      anyFlow ord X P ops md tab Q (fuel + 1) listed w0 facts a := by
  intro fuel
  induction fuel with
  | zero =>
    intro listed w0 facts a hc _ hr H
    refine ⟨fun h => (by rw [h] at hr; cases hr), fun j hj => ?_⟩
    by_cases hji : j = i
    · subst hji; exact H
    · have := ready_mono hj hji
      obtain ⟨_, f, b, hK⟩ := flowOp_some hti htb H
      rw [hK.1] at this
      cases this
  | succ fuel ih =>
    intro listed w0 facts a hc hfree hr H
    refine ⟨fun h => (by rw [h] at hr; cases hr), fun j hj => ?_⟩
    by_cases hji : j = i
    · subst hji; exact H
    · obtain ⟨hjun, oj, hoj, hall⟩ := mem_ready.1 hj
      have hnot : ∀ e ∈ oj.after, Region.binds md e = true → e.on ≠ i := fun e he hb heq => by
        have h1 := hall e he hb
        have h0 := (mem_ready.1 hr).1
        rw [heq] at h1
        rcases Nat.lt_or_ge i listed.size with h' | h'
        · simp [h'] at h0 h1; rw [h0] at h1; cases h1
        · simp [Array.getElem?_eq_none h'] at h1
      have h1 := flowOp_mono (fun w f b hK => hK.2 j (ready_mono hj hji)) H
      have h2 := flowOp_swap hi hoj (Ne.symm hji) (hfree j oj hoj hji hjun hnot) (fun cs b => hsel i oi cs b hi) (fun cs b => hsel j oj cs b hoj)
        (anc_unlisted hc hj hr) (anc_unlisted hc hr hj) hti htb h1
      have hfree' : ∀ k ok, ops[k]? = some ok → k ≠ i → (listed.setIfInBounds j true).getD k true = false →
          (∀ e ∈ ok.after, Region.binds md e = true → e.on ≠ i) → oi.apart ops ok = true := fun k ok hk hki hun hno => by
        refine hfree k ok hk hki ?_ hno
        by_cases hjk : j = k
        · subst hjk; exact hjun
        · rw [getD_set_ne true hjk] at hun; exact hun
      refine flowOp_mono (fun w f b hK => ih (listed.setIfInBounds j true) w f b (closed_set hc hj) hfree' (ready_mono hr (Ne.symm hji)) ?_) h2
      rw [Array.setIfInBounds_comm _ _ hji]
      exact hK

theorem mem_ahead {k j : Nat} : ∀ {pre rest : List Nat}, j ∈ (pre ++ k :: rest).takeWhile (· != k) → j ∈ pre
  | [], rest, h => by simp at h
  | p :: pre, rest, h => by
    rw [List.cons_append, List.takeWhile_cons] at h
    split at h
    · rcases List.mem_cons.1 h with rfl | h
      · exact List.mem_cons_self
      · exact List.mem_cons_of_mem _ (mem_ahead h)
    · cases h

/-- Whether the order ord is one: each in its turn waits for none, and what waits not for it is apart from it. -/
def ordFrom (md : Region.Mode) (ops : Array Oper) : List Nat → Array Bool → Bool
  | [], listed => (Region.ready md ops listed).isEmpty
  | k :: rest, listed => (Region.ready md ops listed).contains k && Region.free md ops listed k && ordFrom md ops rest (listed.setIfInBounds k true)
def ordB (md : Region.Mode) (ops : Array Oper) (ord : List Nat) : Bool := Region.noSelect ops && (ord.length == ops.size) && ordFrom md ops ord (Array.replicate ops.size false)

theorem anyFlow_ord (hs : Region.noSelect ops = true) : ∀ (pre rest : List Nat) (listed : Array Bool) (w0 : World) (facts : Nat → World → Prop) (a : Act), ord = pre ++ rest → Closed md ops listed → (∀ m, m ∈ pre → listed.getD m true = true) →
    ordFrom md ops rest listed = true → wpFlow ord X P ops md tab Q rest w0 facts a → anyFlow ord X P ops md tab Q rest.length listed w0 facts a
  | _, [], _, _, _, _, _, _, _, hB, h => ⟨by simpa [ordFrom] using hB, h⟩
  | pre, k :: rest, listed, w0, facts, a, hk, hc, hls, hB, h => by
    have hls' : ∀ m, m ∈ pre ++ [k] → (listed.setIfInBounds k true).getD m true = true := fun m hm => by
      by_cases hmk : m = k
      · subst hmk
        by_cases hb : m < listed.size
        · simp [hb]
        · simp [hb]
      · rw [getD_set_ne true (Ne.symm hmk)]
        refine hls m ?_
        rcases List.mem_append.1 hm with h' | h'
        · exact h'
        · exact absurd (List.mem_singleton.1 h') hmk
    simp only [ordFrom, Bool.and_eq_true] at hB
    obtain ⟨⟨hr, hf⟩, hB'⟩ := hB
    have hr' : k ∈ Region.ready md ops listed := by simpa using hr
    obtain ⟨_, ok, h0, _⟩ := mem_ready.1 hr'
    have hk' : ord = (pre ++ [k]) ++ rest := by rw [hk]; simp
    by_cases hl : tab k = .last
    · have h' := h
      unfold wpFlow flowOp at h'
      simp only [h0, hl] at h'
      refine ⟨fun e => (by rw [e] at hr'; cases hr'), fun j hj => ?_⟩
      by_cases hjk : j = k
      · subst hjk
        unfold flowOp
        simp only [h0, hl]
        exact h'
      · obtain ⟨_, oj, hoj, _⟩ := mem_ready.1 hj
        have := h'.1 j (Array.getElem?_eq_some_iff.1 hoj).1 hjk
        rw [anc_unlisted hc hr' hj] at this
        cases this
    · by_cases hb : tab k = .bar
      · have h' := h
        unfold wpFlow at h'
        have hbar : ∀ i, i < ops.size → i ≠ k → (ancB md ops ops.size k i = true ∨ ((ord.takeWhile (· != k)).contains i = true ∧ (tab i).isStill = true)) ∨ ancB md ops ops.size i k = true := by
          unfold flowOp at h'
          simp only [h0, hb] at h'
          exact h'.1
        refine ⟨fun e => (by rw [e] at hr'; cases hr'), fun j hj => ?_⟩
        by_cases hjk : j = k
        · subst hjk
          exact flowOp_mono (fun w f b hK => anyFlow_ord hs (pre ++ [j]) rest _ w f b hk' (closed_set hc hr') hls' hB' hK) h'
        · obtain ⟨hju, oj, hoj, _⟩ := mem_ready.1 hj
          rcases hbar j (Array.getElem?_eq_some_iff.1 hoj).1 hjk with (this | this) | this
          · rw [anc_unlisted hc hr' hj] at this
            cases this
          · have hm : j ∈ ord.takeWhile (· != k) := by simpa using this.1
            rw [hk] at hm
            rw [hls j (mem_ahead hm)] at hju; cases hju
          · rw [anc_unlisted hc hj hr'] at this
            cases this
      · exact anyFlow_first h0 (Region.noSelect_spec hs) hl hb rest.length listed w0 facts a hc (Region.free_spec h0 hf) hr'
          (flowOp_mono (fun w f b hK => anyFlow_ord hs (pre ++ [k]) rest _ w f b hk' (closed_set hc hr') hls' hB' hK) h)

/-- **ONE WALK SERVES EVERY ORDER.** -/
theorem wp_region_flow {id : Nat} {a : Act} {w : World} (ord : List Nat) (tab : Nat → Kind) (hm : P.follows .mixedOrders = true) (hB : ordB .any ops ord = true)
    (h : wpFlow ord X P ops .any tab Q ord w.drew (fun _ _ => True) a) : (Code.region id ops true).wp P Q a w := by
  simp only [ordB, Bool.and_eq_true, beq_iff_eq] at hB
  refine wp_region_any hm ?_
  have h1 := anyFlow_ord hB.1.1 [] ord (Array.replicate ops.size false) w.drew (fun _ _ => True) a rfl (by
    intro j o ho hl
    simp [Array.getElem?_replicate] at hl
    split at hl <;> simp at hl) (fun m hm => by cases hm) hB.2 h
  rw [hB.1.2] at h1
  exact wpAny_of_flow ops.size _ _ _ a _ (by
    intro j o ho hl
    simp [Array.getElem?_replicate] at hl
    split at hl <;> simp at hl) (fun _ _ _ _ _ => trivial) (Keep.refl _ _) (fun _ => trivial) h1

theorem noCall_run {o : Oper} {ρ : Operand → Value} {w w' : World} {f : FuncId} {args : Array Value} (h : noCall o = true) : (execOp ρ o).run P w ≠ .ok (.enter f args) w' := by
  have hv : ∀ (s : Sem Value), ((do pure (Next.value (← s)) : Sem Next)).run P w ≠ .ok (.enter f args) w' := fun s e => by
    rw [Sem.run_bind] at e
    cases hs : s.run P w with
    | ok a w1 => rw [hs] at e; simp [Result.andThen] at e
    | halt x w1 => rw [hs] at e; simp [Result.andThen] at e
  have hu : ∀ (s : Sem Unit), ((do s; pure Next.skip : Sem Next)).run P w ≠ .ok (.enter f args) w' := fun s e => by
    rw [Sem.run_bind] at e
    cases hs : s.run P w with
    | ok a w1 => rw [hs] at e; simp [Result.andThen] at e
    | halt x w1 => rw [hs] at e; simp [Result.andThen] at e
  have hb : ∀ (s : Sem Bool) (x y : Value), ((do pure (Next.value (if ← s then x else y)) : Sem Next)).run P w ≠ .ok (.enter f args) w' := fun s x y e => by
    rw [Sem.run_bind] at e
    cases hs : s.run P w with
    | ok a w1 => rw [hs] at e; simp [Result.andThen] at e
    | halt x w1 => rw [hs] at e; simp [Result.andThen] at e
  by_cases hnc : ∃ x, o.op = .nilCheck x
  · obtain ⟨x, hx⟩ := hnc
    unfold execOp
    simp only [hx]
    split <;> try (intro e; cases e; done)
    split <;> try (intro e; cases e; done)
    rename_i name first captured _ _ t v _
    intro e
    simp only [Sem.run_bind] at e
    cases hs : (program : Sem Program).run P w with
    | halt y w1 => rw [hs] at e; simp [Result.andThen] at e
    | ok p w1 =>
      rw [hs] at e
      simp only [Result.andThen] at e
      cases hs2 : (nilAhead (p.types.size + Made.depth) t v name).run P w1 with
      | halt y w2 => rw [hs2] at e; simp at e
      | ok q w2 =>
        rw [hs2] at e
        simp only at e
        split at e <;> cases e
  unfold noCall at h
  unfold execOp
  split at h
  · rename_i c hc
    rw [hc]
    split at h
    · rename_i hb
      simp only [resolve, hb]
      intro e
      simp only [Sem.run_bind, Sem.run_pure, Result.andThen, invoke, builtin] at e
      split at e <;> cases e
    · rename_i hb
      simp only [resolve, hb]
      intro e
      simp only [Sem.run_bind, Sem.run_pure, Result.andThen, invoke, builtin] at e
      split at e <;> cases e
    · rename_i hb
      simp only [resolve, hb]
      intro e
      simp only [Sem.run_bind, Sem.run_pure, Result.andThen, invoke, builtin] at e
      split at e <;> cases e
    · rename_i hb
      simp only [resolve, hb]
      intro e
      simp only [Sem.run_bind, Sem.run_pure, Result.andThen, invoke, builtin] at e
      split at e <;> cases e
    · cases h
  all_goals first
    | (cases h; done)
    | skip
  rename_i h1 h2 h3 h4 h5 h6 h7
  cases ho : o.op <;> simp only [] <;> first
    | exact hv _
    | exact hu _
    | exact hb _ _ _
    | (simp only [Sem.run_pure]; intro e; cases e; done)
    | (exact absurd ho (by first | exact h1 _ | exact h2 _ | exact h3 _ | exact h4 _ _ | exact h5 _ _ _ | exact h6 _ _ | exact h7 _ | exact fun e => hnc ⟨_, e⟩))

theorem opIs_of_quiet {o : Oper} {a : Act} {w : World} {v : Value} {C : World → Prop} (hn : noCall o = true) (h : o.quietAt P a C w v) :
    (execOp a.eval o).run P w = .ok (.value v) w ∨ ((execOp a.eval o).run P w = .ok .skip w ∧ v = undef) := by
  unfold Oper.quietAt at h
  generalize hr : (execOp a.eval o).run P w = r at *
  cases r with
  | ok n w' =>
    cases n <;> simp only [Oper.quietUpon] at h
    case value u => obtain ⟨rfl, rfl⟩ := h; exact .inl rfl
    case skip => obtain ⟨rfl, rfl⟩ := h; exact .inr ⟨rfl, rfl⟩
    case enter f args => exact absurd hr (noCall_run hn)
  | halt x w' => simp only [Oper.quietUpon] at h

variable {k : Nat} {facts : Nat → World → Prop} {a : Act} {o : Oper} {rest : List Nat} {tl : List Oper}

theorem at_of_drop (h : ops.toList.drop k = o :: tl) : ops[k]? = some o := by
  have := congrArg (fun l : List Oper => l[0]?) h
  simpa using this

theorem flows_cons (h : flowOp ord X P ops md w0 tab Q k (fun w0 facts a => wpFlow ord X P ops md tab Q rest w0 facts a) facts a) : wpFlow ord X P ops md tab Q (k :: rest) w0 facts a := h

theorem flow_r (hk0 : ops.toList.drop k = o :: tl) (ht : tab k = .reads) (hn : noCall o = true)
    (h : wpQuiet P ops (fun w => ∃ g : At (fun _ _ => False) w0, w = g.w) (fun a' => wpFlow ord X P ops md tab Q rest w0 facts a') [o] a) : wpFlow ord X P ops md tab Q (k :: rest) w0 facts a := by
  have hk := at_of_drop hk0
  refine flows_cons ?_
  unfold flowOp
  simp only [hk, ht]
  unfold wpQuiet at h
  split at h
  · rename_i hw
    obtain ⟨v, h1, h2⟩ := h
    exact ⟨v, fun w hE => by unfold opIs; rw [if_pos hw]; exact opIs_of_quiet hn (h1 w ⟨⟨w, hE⟩, rfl⟩), h2⟩
  · rename_i hw
    exact ⟨undef, fun w hE => by unfold opIs; rw [if_neg hw], h⟩

theorem flow_q (hk0 : ops.toList.drop k = o :: tl) (ht : tab k = .still) (hn : noCall o = true)
    (h : wpQuiet P ops (fun w => ∃ g : At X w0, w = g.w) (fun a' => wpFlow ord X P ops md tab Q rest w0 facts a') [o] a) : wpFlow ord X P ops md tab Q (k :: rest) w0 facts a := by
  have hk := at_of_drop hk0
  refine flows_cons ?_
  unfold flowOp
  simp only [hk, ht]
  unfold wpQuiet at h
  split at h
  · rename_i hw
    obtain ⟨v, h1, h2⟩ := h
    exact ⟨v, fun w hE => by unfold opIs; rw [if_pos hw]; exact opIs_of_quiet hn (h1 w ⟨⟨w, hE⟩, rfl⟩), h2⟩
  · rename_i hw
    exact ⟨undef, fun w hE => by unfold opIs; rw [if_neg hw], h⟩



theorem flow_g {S : Value → World → Prop} {Sh : Value → Prop} (hk0 : ops.toList.drop k = o :: tl) (ht : tab k = .grows S Sh) {d : Tmp} (hd : o.dst = some d) (hlt : d < a.tmps.size)
    (hne : ∃ v, Sh v) (hst : ∀ v w w', S v w → Ext w w' → S v w') (hsh : ∀ v w, S v w → Sh v)
    (hop : ∀ w, Ext w0 w → (∀ d, ancB md ops ops.size k d = true → facts d w) → wpList P ops (fun e b w' => e = .normal ∧ ∃ v, b = a.put o.dst v ∧ Ext w w' ∧ S v w') [o] a w)
    (h : ∀ v, Sh v → wpFlow ord X P ops md tab Q rest w0 (upd facts k (S v)) (a.put o.dst v)) : wpFlow ord X P ops md tab Q (k :: rest) w0 facts a := by
  have hk := at_of_drop hk0
  refine flows_cons ?_
  unfold flowOp
  simp only [hk, ht]
  refine ⟨hne, hst, hsh, fun w hE hf => ?_, h⟩
  have h1 := hop w hE hf
  unfold wpList at h1
  unfold opTo
  split at h1
  · rename_i hw
    rw [if_pos hw]
    rcases h1 with h1 | ⟨_, _, _, h1, _⟩
    · refine gives_of_wp hd hlt ?_
      unfold Oper.wp at h1 ⊢
      generalize (execOp a.eval o).run P w = r at *
      cases r with
      | ok n w' =>
        cases n <;> simp only [Oper.upon] at h1 ⊢ <;>
          first
            | (obtain ⟨_, v, h2, h3, h4⟩ := h1; exact ⟨v, h2, h3, h4⟩)
            | (refine Calls.mono h1 (fun e w'' he => ?_)
               cases e with
               | returned u => obtain ⟨_, v, h2, h3, h4⟩ := he; exact ⟨v, h2, h3, h4⟩
               | panicked c => obtain ⟨h2, _⟩ := he; cases h2
               | outgrown => obtain ⟨_, _, h2, _⟩ := he; cases h2)
            | (exact Rows.mono h1 (fun u w'' he => by obtain ⟨_, v, h2, h3, h4⟩ := he; exact ⟨v, h2, h3, h4⟩))
      | halt x w' => cases x <;> simp only [Oper.upon] at h1 ⊢ <;> first | exact h1.elim | (obtain ⟨h2, _⟩ := h1; cases h2)
    · cases h1
  · rename_i hw
    rw [if_neg hw]
    obtain ⟨_, v, h2, h3, h4⟩ := h1
    have : v = undef := by
      rw [hd] at h2
      have := congrArg (fun x : Act => x.tmps[d]?) h2
      simpa [Act.put, hlt, eq_comm] using this
    subst this
    exact ⟨h3, h4⟩

theorem flow_l (hk0 : ops.toList.drop k = o :: tl) (ht : tab k = .last) (hanc : ((List.range ops.size).all fun i => i == k || ancB md ops ops.size k i) = true)
    (h : ∀ w, Ext w0 w → (∀ d, facts d w) → wpList P ops Q [o] a w) : wpFlow ord X P ops md tab Q (k :: rest) w0 facts a := by
  have hk := at_of_drop hk0
  refine flows_cons ?_
  unfold flowOp
  simp only [hk, ht]
  refine ⟨fun i hi hne => ?_, fun w hE hf => ?_⟩
  · have := List.all_eq_true.1 hanc i (List.mem_range.2 hi)
    simpa [hne] using this
  · have h1 := h w hE hf
    unfold wpList at h1
    unfold wpOp
    simp only [hk]
    exact h1



theorem flow_end (h : ∀ w, Ext w0 w → (∀ d, facts d w) → Q .normal a w) : wpFlow ord X P ops md tab Q [] w0 facts a := h

theorem wp_flow {id : Nat} {w : World} (ord : List Nat) (tab : Nat → Kind) (hm : P.follows .mixedOrders = true) (hB : ordB .any ops ord = true)
    (h : wpFlow ord X P ops .any tab Q ord w.drew (fun _ _ => True) a) : (Code.region id ops true).wp P Q a w :=
  wp_region_flow ord tab hm hB h

/-! The same in a round of a loop over an iterator. -/
end

section
variable {P : Program} {ops : Array Oper} {md : Region.Mode} {w0 : World} {X : Nat → Obj → Prop} {ord : List Nat} {tab : Nat → Kind} {Q : Exit → Act → World → Prop}



/-- A reading operation whose run is given. -/
theorem flow_v {k : Nat} {facts : Nat → World → Prop} {a : Act} {o : Oper} {rest : List Nat} {tl : List Oper} {v : Value} (hk0 : ops.toList.drop k = o :: tl) (ht : tab k = .reads) (hw : Region.wanted o (yielded ops a.tmps) = true) (h1 : ∀ w, Ext w0 w → (execOp a.eval o).run P w = .ok (.value v) w)
    (h : wpFlow ord X P ops md tab Q rest w0 facts (a.put o.dst v)) : wpFlow ord X P ops md tab Q (k :: rest) w0 facts a := by
  have hk := at_of_drop hk0
  refine flows_cons ?_
  unfold flowOp
  simp only [hk, ht]
  exact ⟨v, fun w hE => by unfold opIs; rw [if_pos hw]; exact .inl (h1 w hE), h⟩
end

end Go.Proofs.YtcmhgpgookiomaaGreat.FY
namespace Go.Proofs.YtcmhgpgookiomaaGreat.FY
open Go.RowKit

section
variable {P : Program} {ops : Array Oper} {md : Region.Mode} {w0 : World} {X : Nat → Obj → Prop} {ord : List Nat}
variable {tab : Nat → Kind} {Q : Exit → Act → World → Prop}
variable {k : Nat} {facts : Nat → World → Prop} {a : Act} {o : Oper} {rest : List Nat} {tl : List Oper}
/-- An operation with a value that turns memory within X; all others wait for it or it for them, or stand ahead of it in the order and read nothing within X. -/
theorem flow_bvs (hk0 : ops.toList.drop k = o :: tl) (ht : tab k = .bar) {d : Tmp} (hd : o.dst = some d) (hlt : d < a.tmps.size) (hanc : ((List.range ops.size).all fun i => i == k || ((tab i).isStill && (ord.takeWhile (· != k)).contains i) || ancB md ops ops.size k i || ancB md ops ops.size i k) = true)
    (h : ∀ w, Ext w0 w → (∀ d, facts d w) → wpList P ops (fun e b w' => e = .normal ∧ ∃ v, b = a.put o.dst v ∧ Keep X w w' ∧ wpFlow ord X P ops md tab Q rest w' (fun _ _ => True) (a.put o.dst v)) [o] a w) : wpFlow ord X P ops md tab Q (k :: rest) w0 facts a := by
  have hk := at_of_drop hk0
  refine flows_cons ?_
  unfold flowOp
  simp only [hk, ht]
  refine ⟨fun i hi hne => ?_, fun w hE hf => ?_⟩
  · have := List.all_eq_true.1 hanc i (List.mem_range.2 hi)
    simp only [Bool.or_eq_true, beq_iff_eq, hne, false_or, Bool.and_eq_true] at this
    rcases this with (this | this) | this
    · exact .inl (.inr ⟨this.2, this.1⟩)
    · exact .inl (.inl this)
    · exact .inr this
  have h1 := h w hE hf
  unfold wpList at h1
  unfold opTo
  split at h1
  · rename_i hw
    rw [if_pos hw]
    rcases h1 with h1 | ⟨_, _, _, h1, _⟩
    · refine gives_of_wp hd hlt ?_
      unfold Oper.wp at h1 ⊢
      generalize (execOp a.eval o).run P w = r at *
      cases r with
      | ok n w' =>
        cases n <;> simp only [Oper.upon] at h1 ⊢ <;>
          first
            | (obtain ⟨_, v, h2, h3, h4⟩ := h1; exact ⟨v, h2, h3, h4⟩)
            | (refine Calls.mono h1 (fun e w'' he => ?_)
               cases e with
               | returned u => obtain ⟨_, v, h2, h3, h4⟩ := he; exact ⟨v, h2, h3, h4⟩
               | panicked c => obtain ⟨h2, _⟩ := he; cases h2
               | outgrown => obtain ⟨_, _, h2, _⟩ := he; cases h2)
            | (exact Rows.mono h1 (fun u w'' he => by obtain ⟨_, v, h2, h3, h4⟩ := he; exact ⟨v, h2, h3, h4⟩))
      | halt x w' => cases x <;> simp only [Oper.upon] at h1 ⊢ <;> first | exact h1.elim | (obtain ⟨h2, _⟩ := h1; cases h2)
    · cases h1
  · rename_i hw
    rw [if_neg hw]
    obtain ⟨_, v, h2, h3, h4⟩ := h1
    have : v = undef := by
      rw [hd] at h2
      have := congrArg (fun x : Act => x.tmps[d]?) h2
      simpa [Act.put, hlt, eq_comm] using this
    subst this
    exact ⟨h3, h4⟩

/-- An operation without a value that turns memory within X; the others wait for it, or it for them, in one step or more. -/
theorem flow_ba (hk0 : ops.toList.drop k = o :: tl) (ht : tab k = .bar) (hd : o.dst = none) (hanc : ((List.range ops.size).all fun i => i == k || ((tab i).isStill && (ord.takeWhile (· != k)).contains i) || ancB md ops ops.size k i || ancB md ops ops.size i k) = true)
    (h : ∀ w, Ext w0 w → (∀ d, facts d w) → wpList P ops (fun e b w' => e = .normal ∧ b.defers = a.defers ∧ Keep X w w' ∧ wpFlow ord X P ops md tab Q rest w' (fun _ _ => True) a) [o] a w) : wpFlow ord X P ops md tab Q (k :: rest) w0 facts a := by
  have hk := at_of_drop hk0
  refine flows_cons ?_
  unfold flowOp
  simp only [hk, ht]
  refine ⟨fun i hi hne => ?_, fun w hE hf => ?_⟩
  · have := List.all_eq_true.1 hanc i (List.mem_range.2 hi)
    simp only [Bool.or_eq_true, beq_iff_eq, hne, false_or, Bool.and_eq_true] at this
    rcases this with (this | this) | this
    · exact .inl (.inr ⟨this.2, this.1⟩)
    · exact .inl (.inl this)
    · exact .inr this
  · have h1 := h w hE hf
    unfold wpList at h1
    unfold opTo
    split at h1
    · rename_i hw
      rw [if_pos hw]
      rcases h1 with h1 | ⟨_, _, _, h1, _⟩
      · unfold Oper.wp at h1
        generalize (execOp a.eval o).run P w = r at *
        cases r with
        | ok n w' =>
          cases n <;> simp only [Oper.upon] at h1 <;> simp only [givesVal, hd]
          case value u => exact h1.2.2
          case skip => exact h1.2.2
          case enter f args =>
            refine Calls.mono h1 (fun e w'' he => ?_)
            cases e with
            | returned u => exact ⟨u, rfl, he.2.2⟩
            | panicked c => cases he.1
            | outgrown => obtain ⟨_, _, h2, _⟩ := he; cases h2
          case defer f =>
            have h2 := h1.2.1
            rw [hd] at h2
            simp [Act.put] at h2
          case row r args => exact Rows.mono h1 (fun u w'' he => he.2.2)
        | halt x w' => cases x <;> simp only [Oper.upon] at h1 <;> first | exact h1.elim | (obtain ⟨h2, _⟩ := h1; cases h2)
      · cases h1
    · rename_i hw
      rw [if_neg hw, hd]
      exact h1.2.2

/-- A still operation whose run is given. -/
theorem flow_vq {v : Value} (hk0 : ops.toList.drop k = o :: tl) (ht : tab k = .still) (hw : Region.wanted o (yielded ops a.tmps) = true) (h1 : ∀ w, Keep X w0 w → (execOp a.eval o).run P w = .ok (.value v) w)
    (h : wpFlow ord X P ops md tab Q rest w0 facts (a.put o.dst v)) : wpFlow ord X P ops md tab Q (k :: rest) w0 facts a := by
  have hk := at_of_drop hk0
  refine flows_cons ?_
  unfold flowOp
  simp only [hk, ht]
  exact ⟨v, fun w hE => by unfold opIs; rw [if_pos hw]; exact .inl (h1 w hE), h⟩
end
end Go.Proofs.YtcmhgpgookiomaaGreat.FY
namespace Go.Proofs.YtcmhgpgookiomaaGreat.FW
open Go.RowKit FY


section
variable {P : Program} {ops : Array Oper} {md : Region.Mode} {w0 : World} {X : Nat → Obj → Prop} {ord : List Nat} {tab : Nat → Kind} {Q : Exit → Act → World → Prop}

/-- Operation o, in the frame a and the world w, runs to the value u and the world w'. -/
def opRuns (P : Program) (ops : Array Oper) (o : Oper) (a : Act) (w : World) (u : Value) (w' : World) : Prop :=
  if Region.wanted o (yielded ops a.tmps) then (execOp a.eval o).run P w = .ok (.value u) w' ∨ ((execOp a.eval o).run P w = .ok .skip w' ∧ u = undef) else u = undef ∧ w' = w
theorem opTo_of_runs {o : Oper} {a : Act} {w w' : World} {v : Value} (h : opRuns P ops o a w v w') : opTo P ops o a w (fun u w'' => u = v ∧ w'' = w') := by
  unfold opRuns at h
  unfold opTo
  split at h
  · rename_i hw
    rw [if_pos hw]
    rcases h with h | ⟨h, rfl⟩
    · rw [h]; exact ⟨rfl, rfl⟩
    · rw [h]; exact ⟨rfl, rfl⟩
  · rename_i hw
    rw [if_neg hw]
    exact ⟨h.1.symm, h.2.symm⟩
theorem opRuns_put {o : Oper} (hs : ∀ cs b, o.op ≠ .select cs b) {a : Act} {dst : Option Tmp} {v : Value} (h : ∀ d, dst = some d → d ∉ o.looksAt ops) {w w' : World} {u : Value} :
    opRuns P ops o (a.put dst v) w u w' ↔ opRuns P ops o a w u w' := by
  unfold opRuns
  rw [execOp_put o hs a dst v h, wanted_put o a dst v h]












variable {k : Nat} {facts : Nat → World → Prop} {a : Act} {o : Oper} {rest : List Nat} {tl : List Oper}








theorem opRuns_val {v : Value} {w w' : World} (hw : Region.wanted o (yielded ops a.tmps) = true) (h : (execOp a.eval o).run P w = .ok (.value v) w') : opRuns P ops o a w v w' := by
  unfold opRuns
  rw [if_pos hw]
  exact .inl h
end
end Go.Proofs.YtcmhgpgookiomaaGreat.FW
namespace Go.Proofs.YtcmhgpgookiomaaGreat.FV
open Go.RowKit FY

section
variable {P : Program} {ops : Array Oper} {md : Region.Mode} {w0 : World} {X : Nat → Obj → Prop} {still : Nat → Bool} {Q : Exit → Act → World → Prop}

/-- Operation k comes up. -/
def flowOp (X : Nat → Obj → Prop) (P : Program) (ops : Array Oper) (w0 : World) (still : Nat → Bool) (k : Nat) (K : World → Act → Prop) (a : Act) : Prop :=
  match ops[k]? with
  | none => False
  | some o => if still k = true then ∃ v, (∀ w, Keep X w0 w → opIs P ops o a w v) ∧ K w0 (a.put o.dst v)
      else ∀ w, Ext w0 w → ∃ u w', FW.opRuns P ops o a w u w' ∧ Keep X w w' ∧ K w' (a.put o.dst u)
/-- Whatever order is picked from here on. -/
def anyFlow (X : Nat → Obj → Prop) (P : Program) (ops : Array Oper) (md : Region.Mode) (still : Nat → Bool) (Q : Exit → Act → World → Prop) : Nat → Array Bool → World → Act → Prop
  | 0, listed, w0, a => Region.ready md ops listed = [] ∧ ∀ w, Ext w0 w → Q .normal a w
  | n + 1, listed, w0, a => (Region.ready md ops listed = [] → ∀ w, Ext w0 w → Q .normal a w) ∧
      ∀ i ∈ Region.ready md ops listed, flowOp X P ops w0 still i (anyFlow X P ops md still Q n (listed.setIfInBounds i true)) a

theorem flowOp_mono {k : Nat} {K K' : World → Act → Prop} {a : Act} (h : ∀ w a, K w a → K' w a) (hh : flowOp X P ops w0 still k K a) : flowOp X P ops w0 still k K' a := by
  unfold flowOp at *
  split at hh
  · exact hh
  · split at hh
    · rename_i hs
      rw [if_pos hs]
      obtain ⟨v, h1, h2⟩ := hh; exact ⟨v, h1, h _ _ h2⟩
    · rename_i hs
      rw [if_neg hs]
      intro w hE
      obtain ⟨u, w', h1, h2, h3⟩ := hh w hE
      exact ⟨u, w', h1, h2, h _ _ h3⟩

theorem wpAny_of_flow : ∀ (n : Nat) (listed : Array Bool) (w0 : World) (a : Act) (w : World), Closed md ops listed → Ext w0 w → anyFlow X P ops md still Q n listed w0 a → wpAny P md ops Q n listed a w
  | 0, _, _, _, w, _, hw, h => ⟨h.1, h.2 w hw⟩
  | n + 1, listed, w0, a, w, hc, hw, h => ⟨fun h0 => h.1 h0 w hw, fun i hi => by
    have h1 := h.2 i hi
    unfold flowOp at h1
    split at h1
    · exact h1.elim
    · rename_i o ho
      split at h1
      · obtain ⟨v, hv, hK⟩ := h1
        refine wpOp_of_opTo ho (opTo_of_opIs (hv w (Keep.of_ext hw))) ?_
        rintro u w' ⟨rfl, rfl⟩
        exact wpAny_of_flow n _ w0 _ _ (closed_set hc hi) hw hK
      · obtain ⟨u0, w0', hr, _, hK⟩ := h1 w hw
        refine wpOp_of_opTo ho (FW.opTo_of_runs hr) ?_
        rintro u w' ⟨rfl, rfl⟩
        exact wpAny_of_flow n _ w' _ _ (closed_set hc hi) (Keep.refl _ _) hK⟩

/-- A still operation may come behind one that does not wait for it. -/
theorem flowOp_swap {i j : Nat} {oi oj : Oper} (hi : ops[i]? = some oi) (hj : ops[j]? = some oj) (hap : oi.apart ops oj = true) (hsi : ∀ cs b, oi.op ≠ .select cs b) (hsj : ∀ cs b, oj.op ≠ .select cs b) (hti : still i = true)
    {K : World → Act → Prop} {a : Act} (h : flowOp X P ops w0 still i (fun w0 a => flowOp X P ops w0 still j K a) a) : flowOp X P ops w0 still j (fun w0 a => flowOp X P ops w0 still i K a) a := by
  obtain ⟨h1, h2, h3⟩ := Oper.apart_spec hap
  unfold flowOp at h ⊢
  simp only [hi, hj, hti, if_true] at h ⊢
  obtain ⟨v, hv, h⟩ := h
  split at h
  · rename_i hsj'
    rw [if_pos hsj']
    obtain ⟨u, hu, hK⟩ := h
    exact ⟨u, fun w hw => (opIs_put hsj h1).1 (hu w hw), v, fun w hw => (opIs_put hsi h3).2 (hv w hw), by rw [← Act.put_comm a v u h2]; exact hK⟩
  · rename_i hsj'
    rw [if_neg hsj']
    intro w hE
    obtain ⟨u, w', r1, r2, r3⟩ := h w hE
    exact ⟨u, w', (FW.opRuns_put hsj h1).1 r1, r2, v, fun w'' hw'' => (opIs_put hsi h3).2 (hv w'' (((Keep.of_ext hE).trans r2).trans hw'')), by rw [← Act.put_comm a v u h2]; exact r3⟩

theorem anyFlow_first {i : Nat} {oi : Oper} (hi : ops[i]? = some oi) (hsel : ∀ (j : Nat) (o : Oper) cs b, ops[j]? = some o → o.op ≠ .select cs b) (hti : still i = true) :
    ∀ (fuel : Nat) (listed : Array Bool) (w0 : World) (a : Act), Closed md ops listed →
      (∀ j oj, ops[j]? = some oj → j ≠ i → listed.getD j true = false → (∀ e ∈ oj.after, Region.binds md e = true → e.on ≠ i) → oi.apart ops oj = true) →
      i ∈ Region.ready md ops listed → flowOp X P ops w0 still i (anyFlow X P ops md still Q fuel (listed.setIfInBounds i true)) a →
      anyFlow X P ops md still Q (fuel + 1) listed w0 a := by
  intro fuel
  induction fuel with
  | zero =>
    intro listed w0 a hc _ hr H
    refine ⟨fun h => (by rw [h] at hr; cases hr), fun j hj => ?_⟩
    by_cases hji : j = i
    · subst hji; exact H
    · have := ready_mono hj hji
      unfold flowOp at H
      simp only [hi, hti, if_true] at H
      obtain ⟨_, _, hK⟩ := H
      rw [hK.1] at this
      cases this
  | succ fuel ih =>
    intro listed w0 a hc hfree hr H
    refine ⟨fun h => (by rw [h] at hr; cases hr), fun j hj => ?_⟩
    by_cases hji : j = i
    · subst hji; exact H
    · obtain ⟨hjun, oj, hoj, hall⟩ := mem_ready.1 hj
      have hnot : ∀ e ∈ oj.after, Region.binds md e = true → e.on ≠ i := fun e he hb heq => by
        have h1 := hall e he hb
        have h0 := (mem_ready.1 hr).1
        rw [heq] at h1
        rcases Nat.lt_or_ge i listed.size with h' | h'
        · simp [h'] at h0 h1; rw [h0] at h1; cases h1
        · simp [Array.getElem?_eq_none h'] at h1
      have h1 := flowOp_mono (fun w b hK => hK.2 j (ready_mono hj hji)) H
      have h2 := flowOp_swap hi hoj (hfree j oj hoj hji hjun hnot) (fun cs b => hsel i oi cs b hi) (fun cs b => hsel j oj cs b hoj) hti h1
      have hfree' : ∀ k ok, ops[k]? = some ok → k ≠ i → (listed.setIfInBounds j true).getD k true = false →
          (∀ e ∈ ok.after, Region.binds md e = true → e.on ≠ i) → oi.apart ops ok = true := fun k ok hk hki hun hno => by
        refine hfree k ok hk hki ?_ hno
        by_cases hjk : j = k
        · subst hjk; exact hjun
        · rw [getD_set_ne true hjk] at hun; exact hun
      refine flowOp_mono (fun w b hK => ih (listed.setIfInBounds j true) w b (closed_set hc hj) hfree' (ready_mono hr (Ne.symm hji)) ?_) h2
      rw [Array.setIfInBounds_comm _ _ hji]
      exact hK

/-- Whether the list leads: each in its turn is still, waits for none, and what waits not for it is apart from it. -/
def leadB (md : Region.Mode) (ops : Array Oper) (still : Nat → Bool) : List Nat → Array Bool → Bool
  | [], _ => true
  | k :: rest, listed => still k && (Region.ready md ops listed).contains k && Region.free md ops listed k && leadB md ops still rest (listed.setIfInBounds k true)
def listedBy : List Nat → Array Bool → Array Bool
  | [], listed => listed
  | k :: rest, listed => listedBy rest (listed.setIfInBounds k true)
/-- The still operations of the list, one behind the other. -/
def wpLead (X : Nat → Obj → Prop) (P : Program) (ops : Array Oper) (still : Nat → Bool) (Z : World → Act → Prop) : List Nat → World → Act → Prop
  | [], w0, a => Z w0 a
  | k :: rest, w0, a => flowOp X P ops w0 still k (wpLead X P ops still Z rest) a

theorem anyFlow_lead (hs : Region.noSelect ops = true) (n : Nat) : ∀ (lead : List Nat) (listed : Array Bool) (w0 : World) (a : Act), Closed md ops listed → leadB md ops still lead listed = true →
    wpLead X P ops still (anyFlow X P ops md still Q n (listedBy lead listed)) lead w0 a → anyFlow X P ops md still Q (n + lead.length) listed w0 a
  | [], _, _, _, _, _, h => h
  | k :: rest, listed, w0, a, hc, hB, h => by
    simp only [leadB, Bool.and_eq_true] at hB
    obtain ⟨⟨⟨ht, hr⟩, hf⟩, hB'⟩ := hB
    have hr' : k ∈ Region.ready md ops listed := by simpa using hr
    obtain ⟨_, ok, h0, _⟩ := mem_ready.1 hr'
    exact anyFlow_first h0 (Region.noSelect_spec hs) ht (n + rest.length) listed w0 a hc (Region.free_spec h0 hf) hr'
      (flowOp_mono (fun w b hK => anyFlow_lead hs n rest _ w b (closed_set hc hr') hB' hK) h)

/-- The walk: the still ones first, then what is left. -/
theorem wp_flow {id : Nat} {a : Act} {w : World} (n : Nat) (lead : List Nat) (still : Nat → Bool) (hm : P.follows .mixedOrders = true) (hs : Region.noSelect ops = true) (hn : n + lead.length = ops.size)
    (hB : leadB .any ops still lead (Array.replicate ops.size false) = true)
    (h : wpLead X P ops still (anyFlow X P ops .any still Q n (listedBy lead (Array.replicate ops.size false))) lead w.drew a) : (Code.region id ops true).wp P Q a w := by
  refine wp_region_any hm ?_
  have hc : Closed .any ops (Array.replicate ops.size false) := by
    intro j o ho hl
    simp [Array.getElem?_replicate] at hl
    split at hl <;> simp at hl
  have h1 := anyFlow_lead hs n lead _ _ _ hc hB h
  rw [hn] at h1
  exact wpAny_of_flow ops.size _ _ a _ hc (Keep.refl _ _) h1

variable {k : Nat} {a : Act} {o : Oper} {rest : List Nat} {tl : List Oper} {Z : World → Act → Prop}
theorem flow_q (hk0 : ops.toList.drop k = o :: tl) (ht : still k = true) (hn : noCall o = true) (h : wpQuiet P ops (fun w => ∃ g : At X w0, w = g.w) (fun a' => wpLead X P ops still Z rest w0 a') [o] a) : wpLead X P ops still Z (k :: rest) w0 a := by
  have hk := at_of_drop hk0
  show flowOp X P ops w0 still k _ a
  unfold flowOp
  simp only [hk, ht, if_true]
  unfold wpQuiet at h
  split at h
  · rename_i hw
    obtain ⟨v, h1, h2⟩ := h
    exact ⟨v, fun w hE => by unfold opIs; rw [if_pos hw]; exact opIs_of_quiet hn (h1 w ⟨⟨w, hE⟩, rfl⟩), h2⟩
  · rename_i hw
    exact ⟨undef, fun w hE => by unfold opIs; rw [if_neg hw], h⟩
theorem flow_vq {v : Value} (hk0 : ops.toList.drop k = o :: tl) (ht : still k = true) (hw : Region.wanted o (yielded ops a.tmps) = true) (h1 : ∀ w, Keep X w0 w → (execOp a.eval o).run P w = .ok (.value v) w)
    (h : wpLead X P ops still Z rest w0 (a.put o.dst v)) : wpLead X P ops still Z (k :: rest) w0 a := by
  have hk := at_of_drop hk0
  show flowOp X P ops w0 still k _ a
  unfold flowOp
  simp only [hk, ht, if_true]
  exact ⟨v, fun w hE => by unfold opIs; rw [if_pos hw]; exact .inl (h1 w hE), h⟩
theorem flow_lead (h : Z w0 a) : wpLead X P ops still Z [] w0 a := h
variable {n i j : Nat} {listed : Array Bool}
/-- Two are ready: both ways. -/
theorem two (hr : Region.ready md ops listed = [i, j]) (h1 : flowOp X P ops w0 still i (anyFlow X P ops md still Q n (listed.setIfInBounds i true)) a) (h2 : flowOp X P ops w0 still j (anyFlow X P ops md still Q n (listed.setIfInBounds j true)) a) : anyFlow X P ops md still Q (n + 1) listed w0 a :=
  ⟨fun h => (by rw [hr] at h; cases h), fun k hk => by
    rw [hr] at hk
    simp only [List.mem_cons, List.not_mem_nil, or_false] at hk
    rcases hk with rfl | rfl
    · exact h1
    · exact h2⟩
/-- One is ready. -/
theorem one (hr : Region.ready md ops listed = [i]) (h1 : flowOp X P ops w0 still i (anyFlow X P ops md still Q n (listed.setIfInBounds i true)) a) : anyFlow X P ops md still Q (n + 1) listed w0 a :=
  ⟨fun h => (by rw [hr] at h; cases h), fun k hk => by
    rw [hr] at hk
    obtain rfl : k = i := by simpa using hk
    exact h1⟩
theorem none (hr : Region.ready md ops listed = []) (h : ∀ w, Ext w0 w → Q .normal a w) : anyFlow X P ops md still Q 0 listed w0 a := ⟨hr, h⟩
/-- Such an operation's run. -/
theorem free (hk0 : ops.toList.drop k = o :: tl) (ht : still k = false) {K : World → Act → Prop} (h : ∀ w, Ext w0 w → ∃ u w', FW.opRuns P ops o a w u w' ∧ Keep X w w' ∧ K w' (a.put o.dst u)) : flowOp X P ops w0 still k K a := by
  have hk := at_of_drop hk0
  unfold flowOp
  simp only [hk, ht]
  exact h
end
end Go.Proofs.YtcmhgpgookiomaaGreat.FV
