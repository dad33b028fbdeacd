/-
  A loop over an iterator that keeps memory of its own through its rounds (made ahead of the first one), while the rounds make and turn memory of theirs: 'IterT', 'rangeT_wp'. No round leaves the loop. Nothing here names the program.
-/
import Derived.Test.YthedpnnfkmbdpaaBase
namespace Go.Proofs.Ythedpnnfkmbdpaa
open Go.RowKit Go.Shelf

/-- What a round must leave alone: what the iterator reads (Z), and what it has made ahead of the first round (from the start W to T). -/
abbrev roundT (S T : Nat) (Z : Nat → Prop) : Nat → Obj → Prop := fun b _ => ¬ Z b ∧ ¬ (S ≤ b ∧ b < T)

/-- What an iterator promises that turns no old block, makes memory of its own ahead of its first round (up to block T) and reads it later. -/
def IterT (P : Program) (gf : Nat) (lb : Array Value) (N : Nat) (Enc : Nat → World → Array Value → Prop) (Pre : World → Prop) (Z : Nat → Prop) : Prop :=
  ∀ (l : Nat) (J : Nat → Nat → World → Prop) (W : World), Pre W → (∀ T k A B, J T k A → Ext A B → J T k B) →
    (∀ T k A args, W.heap.size ≤ T → T ≤ A.heap.size → k < N → J T k A → Enc k A args → YieldAt Fence.wide 0 P l args A fun e B =>
      e = .returned (.bool true) ∧ J T (k + 1) B ∧ Keep (roundT W.heap.size T Z) A B) →
    (∀ A, Ext W A → J A.heap.size 0 A) →
    Calls P gf (#[.func (.yield l) #[] #[]] ++ lb) W fun e B => (∃ v, e = .returned v) ∧ ∃ T, W.heap.size ≤ T ∧ J T N B

/-- The variables of the loop are set (a', A1); what is left of the round. -/
def StartedT (P : Program) (l n : Nat) (B T : Nat) (Z : Nat → Prop) (KN : World → World → Prop) (body : Code) (A : World) (a' : Act) (A1 : World) : Prop :=
  Keep (fun b o => roundT (B + 2) T Z b o ∧ (b < B ∨ o.isCells = true)) A A1 ∧ ∀ C, Keep (turn B (fun _ => False)) A1 C → body.wpIn (Fence.wide.inRound l) n P (roundQ (KN C) (fun _ _ => False)) a' C

/-- A loop over such an iterator, in the code of an activation (not in a round). -/
theorem rangeT_outer {P : Program} {n : Nat} {g : Operand} {ps : Array Tmp} {assign body : Code} {Q : Exit → Act → World → Prop} {a : Act} {w : World}
    {gf : Nat} {lb : Array Value} {N : Nat} {Enc : Nat → World → Array Value → Prop} {Pre : World → Prop} {Z : Nat → Prop}
    (hg : a.eval g = .func (.func gf) #[] lb) (eg : ∀ args w, (callFunc gf args).run P w = .ok (.enter gf args) w)
    (hit : IterT P gf lb N Enc Pre Z) (hZ : ∀ b, Z b → b < w.heap.size)
    (hps : ∀ k A args, Enc k A args → args.size = ps.size) (hPre : ∀ A, Ext w A → Pre A)
    (I : Nat → Nat → World → Prop)
    (hI : ∀ T k A B, I T k A → Keep (turn w.heap.size (fun _ => False)) A B → I T k B)
    (h0 : ∀ A, Keep (turn w.heap.size (fun _ => False)) w A → I A.heap.size 0 A)
    (hround : ∀ (l T k : Nat) (A : World) (args : Array Value) (KN : World → World → Prop), w.heap.size + 2 ≤ T → T ≤ A.heap.size → k < N → I T k A → Enc k A args →
      (∀ C D, Keep (fun b o => roundT (w.heap.size + 2) T Z b o ∧ (b < w.heap.size ∨ o.isCells = true)) C D → I T (k + 1) D → KN C D) →
      assign.wpIn (Fence.wide.inRound l) n P (Exit.then (StartedT P l n w.heap.size T Z KN body A) (fun _ _ _ => False)) { tmps := (ps.zip args).foldl (fun t (p, v) => t.setIfInBounds p v) a.tmps, defers := [] } A)
    (hdone : ∀ (D T : Nat) (A : World), w.heap.size ≤ D → I T N A → A.heap[D]? = some (.deferred (some [])) → Q .normal { a with defers := { target := .collected D, args := #[] } :: a.defers } A) :
    (Code.rangeFunc g ps assign body).wpIn Fence.wide n P Q a w := by
  refine wpIn_rangeFunc ?_
  intro fn _
  have hro : Fence.wide.round = none := rfl
  rw [hro]
  obtain ⟨rec, hrec⟩ : ∃ rec : LoopState → Option Code → Loop, rec = fun st pe => { state := st, pending := pe, fn, tmps := a.tmps, params := ps, assign, body, defers := w.heap.size } := ⟨_, rfl⟩
  obtain ⟨W1, hW1⟩ : ∃ W1, (w.alloc (.deferred (some []))).alloc (.loop (rec .ready none)) = W1 := ⟨_, rfl⟩
  have hL1 : W1.heap[w.heap.size + 1]? = some (.loop (rec .ready none)) := by
    rw [← hW1]; have := World.alloc_heap_new (w.alloc (.deferred (some []))) (.loop (rec .ready none)); rwa [World.size_alloc] at this
  have hK1 : W1.heap[w.heap.size]? = some (.deferred (some [])) := by
    rw [← hW1]; exact (Below.heap_alloc _ _ _ (by simp)).trans (World.alloc_heap_new w _)
  have hE1 : Ext w W1 := by rw [← hW1]; exact ((Keep.refl _ w).alloc _).alloc _
  have hs1 : W1.heap.size = w.heap.size + 2 := by rw [← hW1]; simp
  have stay' : ∀ {A B : World} {k T : Nat} {o : Obj}, Keep (fun b o => roundT (w.heap.size + 2) T Z b o ∧ (b < w.heap.size ∨ o.isCells = true)) A B → w.heap.size ≤ k → A.heap[k]? = some o → o.isCells = false → B.heap[k]? = some o :=
    fun h hk ho hc => h.block _ _ ho (fun hx => by rcases hx.2 with hx | hx; omega; rw [hc] at hx; cases hx)
  have put : ∀ {A : World} {l : Nat} {o : Obj} (o' : Obj), w.heap.size ≤ l → A.heap[l]? = some o → o.isCells = false → Keep (turn w.heap.size (fun _ => False)) A (A.putObj l o') :=
    fun o' hl ho hc => (Keep.refl _ _).putObj _ _ (fun o2 h2 => by rw [ho] at h2; cases h2; exact .inr ⟨hl, hc⟩)
  have putZ : ∀ {A : World} {l T : Nat} (o' : Obj), w.heap.size ≤ l → l < w.heap.size + 2 → Keep (roundT W1.heap.size T Z) A (A.putObj l o') :=
    fun o' hl hl2 => (Keep.refl _ _).putObj _ _ (fun o2 h2 => ⟨fun hz => by have := hZ _ hz; omega, by rw [hs1]; omega⟩)
  have tt : ∀ {A B : World}, Ext A B → Keep (turn w.heap.size (fun _ => False)) A B := fun h => Keep.of_ext h
  have rz : ∀ {A B : World} {T : Nat}, Keep (fun b o => roundT (w.heap.size + 2) T Z b o ∧ (b < w.heap.size ∨ o.isCells = true)) A B → Keep (roundT W1.heap.size T Z) A B := fun h => h.mono (fun _ _ _ hx => by rw [hs1]; exact hx.1)
  refine ⟨w.heap.size + 1, [{ target := .collected w.heap.size, args := #[] }], W1, { target := .fn (.func gf) lb, args := #[.func (.yield (w.heap.size + 1)) #[] #[]] }, W1, gf,
    #[.func (.yield (w.heap.size + 1)) #[] #[]] ++ lb, W1, ?_, ?_, ?_, ?_, fun h => by simp [Fence.wide] at h, ?_⟩
  · rw [← hW1, hrec]; exact run_enterLoop_outer _ _ _ _ _
  · simp only [resolve, hg]
    simp [go_sem]
  · intro f' _; trivial
  · simp [invoke, go_sem, eg]
  · refine callsIn_wide.2 ((hit (w.heap.size + 1)
      (fun T k A => I T k A ∧ A.heap[w.heap.size + 1]? = some (.loop (rec .ready none)) ∧ A.heap[w.heap.size]? = some (.deferred (some [])))
      W1 (hPre _ hE1)
      (fun T k A B hs hk => ⟨hI T k A B hs.1 (tt hk), hk.block _ _ hs.2.1 (fun h => h), hk.block _ _ hs.2.2 (fun h => h)⟩)
      ?_ (fun A hA => ⟨h0 A (tt (hE1.trans hA)), hA.block _ _ hL1 (fun h => h), hA.block _ _ hK1 (fun h => h)⟩)).mono ?_)
    · rintro T k A args hT1 hT2 hk ⟨hi, hl, hd⟩ henc
      have hy := run_yield (P := P) (args := args) hl (by rw [hrec]; exact hps k A args henc)
      rw [hrec] at hy
      refine ⟨fn, _, assign, body, hy, roundIn_wide (roundIn_of_wpIn (n := n) trivial (wpIn_mono (hround _ T k A args (fun C D => Keep (fun b o => roundT (w.heap.size + 2) T Z b o ∧ (b < w.heap.size ∨ o.isCells = true)) C D ∧ I T (k + 1) D) (by omega) hT2 hk hi henc (fun _ _ h h' => ⟨h, h'⟩)) ?_))⟩
      clear hy
      intro e0 a' B he0
      cases e0 with
      | normal => ?_
      | _ => exact he0.elim
      obtain ⟨hkB, hbody⟩ := he0
      replace hl := stay' hkB (by omega) hl rfl
      replace hd := stay' hkB (Nat.le_refl _) hd rfl
      have hlt : w.heap.size + 1 < B.heap.size := Keep.lt hl
      refine ⟨_, run_beginRound hl (by rw [hrec]), ?_⟩
      have hl2 : (B.putObj (w.heap.size + 1) (.loop { rec .ready none with state := .busy })).heap[w.heap.size + 1]? = some (.loop { rec .ready none with state := .busy }) := World.putObj_heap_same hlt
      have hd2 : (B.putObj (w.heap.size + 1) (.loop { rec .ready none with state := .busy })).heap[w.heap.size]? = some (.deferred (some [])) := (World.putObj_heap_other (by omega)).trans hd
      have hz2 := putZ (A := B) (T := T) (.loop { rec .ready none with state := .busy }) (show w.heap.size ≤ w.heap.size + 1 by omega) (by omega)
      refine wpIn_mono (hbody _ (put _ (by omega) hl rfl)) ?_
      have fin : ∀ (jump : Option Code) (W3 : World), Keep (fun b o => roundT (w.heap.size + 2) T Z b o ∧ (b < w.heap.size ∨ o.isCells = true)) (B.putObj (w.heap.size + 1) (.loop { rec .ready none with state := .busy })) W3 →
          (Instr.endRound (w.heap.size + 1) jump).run P W3 = .ok (.bool jump.isNone) (W3.putObj (w.heap.size + 1) (.loop (rec (if jump.isNone then .ready else .done) jump))) ∧
          W3.heap[w.heap.size + 1]? = some (.loop { rec .ready none with state := .busy }) ∧
          (W3.putObj (w.heap.size + 1) (.loop (rec (if jump.isNone then .ready else .done) jump))).heap[w.heap.size + 1]? = some (.loop (rec (if jump.isNone then .ready else .done) jump)) ∧
          (W3.putObj (w.heap.size + 1) (.loop (rec (if jump.isNone then .ready else .done) jump))).heap[w.heap.size]? = some (.deferred (some [])) := fun jump W3 hk3 => by
        have hl3 := stay' hk3 (by omega) hl2 rfl
        have hd3 := stay' hk3 (Nat.le_refl _) hd2 rfl
        have := run_endRound (P := P) jump hl3
        rw [hrec] at this ⊢
        exact ⟨this, by rw [hrec] at hl3; exact hl3, World.putObj_heap_same (Keep.lt hl3), (World.putObj_heap_other (by omega)).trans hd3⟩
      rintro e a3 W3 hp
      cases e with
      | normal =>
        obtain ⟨hk3, hi3⟩ := hp
        obtain ⟨hr, hl3, hl4, hd4⟩ := fin none W3 hk3
        exact ⟨_, _, hr, rfl, ⟨hI _ _ _ _ hi3 (put _ (by omega) hl3 rfl), hl4, hd4⟩, (((rz hkB).trans hz2).trans (rz hk3)).trans (putZ _ (by omega) (by omega))⟩
      | ret => exact hp.elim
      | exit id => exact hp.elim
      | goto t => exact hp.elim
      | panic ch => exact hp.elim
      | outgrown => exact hp.elim
    · rintro e W2 ⟨⟨v, rfl⟩, T, hT, hi, hl, hd⟩
      exact ⟨none, _, by have := run_endLoop (P := P) hl (by rw [hrec]; simp); rw [hrec] at this; exact this, hdone _ T _ (Nat.le_refl _) (hI _ _ _ _ hi (put _ (by omega) hl rfl)) ((World.putObj_heap_other (by omega)).trans hd)⟩

/-- The same for the plain walk. -/
theorem rangeT_wp {P : Program} {g : Operand} {ps : Array Tmp} {assign body : Code} {Q : Exit → Act → World → Prop} {a : Act} {w : World}
    {gf : Nat} {lb : Array Value} {N : Nat} {Enc : Nat → World → Array Value → Prop} {Pre : World → Prop} {Z : Nat → Prop}
    (hg : a.eval g = .func (.func gf) #[] lb) (eg : ∀ args w, (callFunc gf args).run P w = .ok (.enter gf args) w)
    (hit : IterT P gf lb N Enc Pre Z) (hZ : ∀ b, Z b → b < w.heap.size)
    (hps : ∀ k A args, Enc k A args → args.size = ps.size) (hPre : ∀ A, Ext w A → Pre A)
    (I : Nat → Nat → World → Prop)
    (hI : ∀ T k A B, I T k A → Keep (turn w.heap.size (fun _ => False)) A B → I T k B)
    (h0 : ∀ A, Keep (turn w.heap.size (fun _ => False)) w A → I A.heap.size 0 A)
    (hround : ∀ (l T k : Nat) (A : World) (args : Array Value) (KN : World → World → Prop), w.heap.size + 2 ≤ T → T ≤ A.heap.size → k < N → I T k A → Enc k A args →
      (∀ C D, Keep (fun b o => roundT (w.heap.size + 2) T Z b o ∧ (b < w.heap.size ∨ o.isCells = true)) C D → I T (k + 1) D → KN C D) →
      assign.wpIn (Fence.wide.inRound l) 3 P (Exit.then (StartedT P l 3 w.heap.size T Z KN body A) (fun _ _ _ => False)) { tmps := (ps.zip args).foldl (fun t (p, v) => t.setIfInBounds p v) a.tmps, defers := [] } A)
    (hdone : ∀ (D T : Nat) (A : World), w.heap.size ≤ D → I T N A → A.heap[D]? = some (.deferred (some [])) → Q .normal { a with defers := { target := .collected D, args := #[] } :: a.defers } A) :
    (Code.rangeFunc g ps assign body).wp P Q a w :=
  (wpIn_wide (n := 3)).1 (rangeT_outer hg eg hit hZ hps hPre I hI h0 hround hdone)
end Go.Proofs.Ythedpnnfkmbdpaa
