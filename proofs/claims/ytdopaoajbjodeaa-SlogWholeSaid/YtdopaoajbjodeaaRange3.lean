/-
  'range_outer' once more: a round that leaves the loop may turn what the iterator reads. Nothing here names the program.
-/
import Derived.Test.YtdopaoajbjodeaaBase
namespace Go.Proofs.Ytdopaoajbjodeaa
open Go.RowKit Go.Shelf

/-- What a round may turn that leaves the loop. -/
abbrev loose (B : Nat) : Nat → Obj → Prop := fun b o => b < B ∨ o.isCells = true

/-- A loop over an iterator, in the code of an activation (not in a round). -/
theorem range3_outer {P : Program} {n : Nat} {g : Operand} {ps : Array Tmp} {assign body : Code} {Q : Exit → Act → World → Prop} {a : Act} {w : World}
    {gf : Nat} {lb : Array Value} {N : Nat} {inf : Prop} {Enc : Nat → World → Array Value → Prop} {Pre : World → Prop} {X Z : Nat → Prop}
    (hg : a.eval g = .func (.func gf) #[] lb) (eg : ∀ args w, (callFunc gf args).run P w = .ok (.enter gf args) w)
    (hit : Iter P gf lb N inf Enc Pre X Z) (hX : ∀ b, X b → b < w.heap.size) (hZ : ∀ b, Z b → b < w.heap.size)
    (hps : ∀ k A args, Enc k A args → args.size = ps.size) (hPre : ∀ A, Ext w A → Pre A)
    (I : Nat → World → Prop) (Ix : Nat → Code → World → Prop)
    (hI : ∀ k A B, I k A → Keep (turn w.heap.size X) A B → I k B)
    (hIx : ∀ k c A B, Ix k c A → Keep (turn w.heap.size X) A B → Ix k c B)
    (hinf : inf → ∀ B, ¬ I N B) (h0 : I 0 w)
    (hround : ∀ (l k : Nat) (A : World) (args : Array Value) (KN : World → World → Prop) (KX : Code → World → World → Prop), k < N → I k A → Enc k A args →
      (∀ C D, Keep (round w.heap.size Z) C D → I (k + 1) D → KN C D) → (∀ c C D, Keep (loose w.heap.size) C D → Ix k c D → KX c C D) →
      assign.wpIn (Fence.wide.inRound l) n P (Exit.then (Started P l n w.heap.size Z KN KX body A) (fun _ _ _ => False)) { tmps := (ps.zip args).foldl (fun t (p, v) => t.setIfInBounds p v) a.tmps, defers := [] } A)
    (hdone : ∀ (D : Nat) (A : World), w.heap.size ≤ D → I N A → A.heap[D]? = some (.deferred (some [])) → Q .normal { a with defers := { target := .collected D, args := #[] } :: a.defers } A)
    (hstop : ∀ (D : Nat) (c : Code) (k : Nat) (A : World), w.heap.size ≤ D → k < N → Ix k c A → A.heap[D]? = some (.deferred (some [])) → c.wpIn Fence.wide n P Q { a with defers := { target := .collected D, args := #[] } :: a.defers } A) :
    (Code.rangeFunc g ps assign body).wpIn Fence.wide n P Q a w := by
  refine wpIn_rangeFunc ?_
  intro fn _
  have hro : Fence.wide.round = none := rfl
  rw [hro]
  obtain ⟨rec, hrec⟩ : ∃ rec : LoopState → Option Code → Loop, rec = fun st pe => { state := st, pending := pe, fn, tmps := a.tmps, params := ps, assign, body, defers := w.heap.size } := ⟨_, rfl⟩
  obtain ⟨W1, hW1⟩ : ∃ W1, (w.alloc (.deferred (some []))).alloc (.loop (rec .ready none)) = W1 := ⟨_, rfl⟩
  have hL1 : W1.heap[w.heap.size + 1]? = some (.loop (rec .ready none)) := by
    rw [← hW1]; have := World.alloc_heap_new (w.alloc (.deferred (some []))) (.loop (rec .ready none)); rwa [World.size_alloc] at this
  have hK1 : W1.heap[w.heap.size]? = some (.deferred (some [])) := by
    rw [← hW1]; exact (Below.heap_alloc _ _ _ (by simp)).trans (World.alloc_heap_new w _)
  have hE1 : Ext w W1 := by rw [← hW1]; exact ((Keep.refl _ w).alloc _).alloc _
  have hI1 : I 0 W1 := hI _ _ _ h0 (Keep.of_ext hE1)
  have stay : ∀ {A B : World} {k : Nat} {o : Obj}, Keep (fun b _ => X b) A B → w.heap.size ≤ k → A.heap[k]? = some o → B.heap[k]? = some o :=
    fun h hk ho => h.block _ _ ho (fun hx => by have := hX _ hx; omega)
  have stay' : ∀ {A B : World} {k : Nat} {o : Obj}, Keep (loose w.heap.size) A B → w.heap.size ≤ k → A.heap[k]? = some o → o.isCells = false → B.heap[k]? = some o :=
    fun h hk ho hc => h.block _ _ ho (fun hx => by rcases hx with hx | hx; omega; rw [hc] at hx; cases hx)
  have rl : ∀ {A B : World}, Keep (round w.heap.size Z) A B → Keep (loose w.heap.size) A B := fun h => h.mono (fun _ _ _ hx => hx.2)
  have put : ∀ {A : World} {l : Nat} {o : Obj} (o' : Obj), w.heap.size ≤ l → A.heap[l]? = some o → o.isCells = false → Keep (turn w.heap.size X) A (A.putObj l o') :=
    fun o' hl ho hc => (Keep.refl _ _).putObj _ _ (fun o2 h2 => by rw [ho] at h2; cases h2; exact .inr ⟨hl, hc⟩)
  have put0 : ∀ {A : World} {l : Nat} {o : Obj} (o' : Obj), w.heap.size ≤ l → A.heap[l]? = some o → o.isCells = false → Keep (turn w.heap.size (fun _ => False)) A (A.putObj l o') :=
    fun o' hl ho hc => (Keep.refl _ _).putObj _ _ (fun o2 h2 => by rw [ho] at h2; cases h2; exact .inr ⟨hl, hc⟩)
  have putZ : ∀ {A : World} {l : Nat} (o' : Obj), w.heap.size ≤ l → Keep (fun b _ => ¬ Z b) A (A.putObj l o') :=
    fun o' hl => (Keep.refl _ _).putObj _ _ (fun o2 h2 hz => by have := hZ _ hz; omega)
  have tt : ∀ {A B : World}, Keep (fun b _ => X b) A B → Keep (turn w.heap.size X) A B := fun h => h.mono (fun _ _ _ hx => .inl hx)
  have rz : ∀ {A B : World}, Keep (round w.heap.size Z) A B → Keep (fun b _ => ¬ Z b) A B := fun h => h.mono (fun _ _ _ hx => hx.1)
  refine ⟨w.heap.size + 1, [{ target := .collected w.heap.size, args := #[] }], W1, { target := .fn (.func gf) lb, args := #[.func (.yield (w.heap.size + 1)) #[] #[]] }, W1, gf,
    #[.func (.yield (w.heap.size + 1)) #[] #[]] ++ lb, W1, ?_, ?_, ?_, ?_, fun h => by simp [Fence.wide] at h, ?_⟩
  · rw [← hW1, hrec]; exact run_enterLoop_outer _ _ _ _ _
  · simp only [resolve, hg]
    simp [go_sem]
  · intro f' _; trivial
  · simp [invoke, go_sem, eg]
  · refine callsIn_wide.2 ((hit (w.heap.size + 1)
      (fun k A => I k A ∧ A.heap[w.heap.size + 1]? = some (.loop (rec .ready none)) ∧ A.heap[w.heap.size]? = some (.deferred (some [])))
      (fun k A => ∃ c, Ix k c A ∧ A.heap[w.heap.size + 1]? = some (.loop (rec .done (some c))) ∧ A.heap[w.heap.size]? = some (.deferred (some [])))
      W1 (hPre _ hE1)
      (fun k A B hs hk => ⟨hI k A B hs.1 (tt hk), stay hk (by omega) hs.2.1, stay hk (Nat.le_refl _) hs.2.2⟩)
      (fun k A B hs hk => by
        obtain ⟨c, hc, hl, hd⟩ := hs
        exact ⟨c, hIx k c A B hc (tt hk), stay hk (by omega) hl, stay hk (Nat.le_refl _) hd⟩)
      ?_ (fun hi B hB => hinf hi B hB.1) ⟨hI1, hL1, hK1⟩).mono ?_)
    · rintro k A args hk ⟨hi, hl, hd⟩ henc
      have hy := run_yield (P := P) (args := args) hl (by rw [hrec]; exact hps k A args henc)
      rw [hrec] at hy
      refine ⟨fn, _, assign, body, hy, roundIn_wide (roundIn_of_wpIn (n := n) trivial (wpIn_mono (hround _ k A args (fun C D => Keep (round w.heap.size Z) C D ∧ I (k + 1) D) (fun c C D => Keep (loose w.heap.size) C D ∧ Ix k c D) hk hi henc (fun _ _ h h' => ⟨h, h'⟩) (fun _ _ _ h h' => ⟨h, h'⟩)) ?_))⟩
      clear hy
      intro e0 a' B he0
      cases e0 with
      | normal => ?_
      | _ => exact he0.elim
      obtain ⟨hkB, hbody⟩ := he0
      replace hl := stay' (rl hkB) (by omega) hl rfl
      replace hd := stay' (rl hkB) (Nat.le_refl _) hd rfl
      have hlt : w.heap.size + 1 < B.heap.size := Keep.lt hl
      refine ⟨_, run_beginRound hl (by rw [hrec]), ?_⟩
      have hl2 : (B.putObj (w.heap.size + 1) (.loop { rec .ready none with state := .busy })).heap[w.heap.size + 1]? = some (.loop { rec .ready none with state := .busy }) := World.putObj_heap_same hlt
      have hd2 : (B.putObj (w.heap.size + 1) (.loop { rec .ready none with state := .busy })).heap[w.heap.size]? = some (.deferred (some [])) := (World.putObj_heap_other (by omega)).trans hd
      have hz2 := putZ (A := B) (.loop { rec .ready none with state := .busy }) (show w.heap.size ≤ w.heap.size + 1 by omega)
      refine wpIn_mono (hbody _ (put0 _ (by omega) hl rfl)) ?_
      have fin : ∀ (jump : Option Code) (W3 : World), Keep (loose w.heap.size) (B.putObj (w.heap.size + 1) (.loop { rec .ready none with state := .busy })) W3 →
          (Instr.endRound (w.heap.size + 1) jump).run P W3 = .ok (.bool jump.isNone) (W3.putObj (w.heap.size + 1) (.loop (rec (if jump.isNone then .ready else .done) jump))) ∧
          W3.heap[w.heap.size + 1]? = some (.loop { rec .ready none with state := .busy }) ∧
          (W3.putObj (w.heap.size + 1) (.loop (rec (if jump.isNone then .ready else .done) jump))).heap[w.heap.size + 1]? = some (.loop (rec (if jump.isNone then .ready else .done) jump)) ∧
          (W3.putObj (w.heap.size + 1) (.loop (rec (if jump.isNone then .ready else .done) jump))).heap[w.heap.size]? = some (.deferred (some [])) := fun jump W3 hk3 => by
        have hl3 := stay' hk3 (by omega) hl2 rfl
        have hd3 := stay' hk3 (Nat.le_refl _) hd2 rfl
        have := run_endRound (P := P) jump hl3
        rw [hrec] at this ⊢
        exact ⟨this, by rw [hrec] at hl3; exact hl3, World.putObj_heap_same (Keep.lt hl3), (World.putObj_heap_other (by omega)).trans hd3⟩
      rintro e a3 W3 hp
      cases e with
      | normal =>
        obtain ⟨hk3, hi3⟩ := hp
        obtain ⟨hr, hl3, hl4, hd4⟩ := fin none W3 (rl hk3)
        exact ⟨_, _, hr, .inl ⟨rfl, ⟨hI _ _ _ hi3 (put _ (by omega) hl3 rfl), hl4, hd4⟩, (((rz hkB).trans hz2).trans (rz hk3)).trans (putZ _ (by omega))⟩⟩
      | ret =>
        obtain ⟨hk3, hi3⟩ := hp
        obtain ⟨hr, hl3, hl4, hd4⟩ := fin (some .ret) W3 hk3
        exact ⟨_, _, hr, .inr ⟨rfl, .ret, hIx _ _ _ _ hi3 (put _ (by omega) hl3 rfl), hl4, hd4⟩⟩
      | exit id =>
        obtain ⟨hk3, hi3⟩ := hp
        obtain ⟨hr, hl3, hl4, hd4⟩ := fin (some (.exit id)) W3 hk3
        exact ⟨_, _, hr, .inr ⟨rfl, .exit id, hIx _ _ _ _ hi3 (put _ (by omega) hl3 rfl), hl4, hd4⟩⟩
      | goto t =>
        obtain ⟨hk3, hi3⟩ := hp
        obtain ⟨hr, hl3, hl4, hd4⟩ := fin (some (.goto t)) W3 hk3
        exact ⟨_, _, hr, .inr ⟨rfl, .goto t, hIx _ _ _ _ hi3 (put _ (by omega) hl3 rfl), hl4, hd4⟩⟩
      | panic ch => exact hp.elim
      | outgrown => exact hp.elim
    · rintro e W2 ⟨⟨v, rfl⟩, (⟨hi, hl, hd⟩ | ⟨k, hk, c, hi, hl, hd⟩)⟩
      · exact ⟨none, _, by have := run_endLoop (P := P) hl (by rw [hrec]; simp); rw [hrec] at this; exact this, hdone _ _ (Nat.le_refl _) (hI _ _ _ hi (put _ (by omega) hl rfl)) ((World.putObj_heap_other (by omega)).trans hd)⟩
      · exact ⟨some c, _, by have := run_endLoop (P := P) hl (by rw [hrec]; simp); rw [hrec] at this; exact this, hstop _ c k _ (Nat.le_refl _) hk (hIx _ _ _ _ hi (put _ (by omega) hl rfl)) ((World.putObj_heap_other (by omega)).trans hd)⟩


/-- A function whose body holds a loop over an iterator and calls of yield. -/
theorem calls_marks_in {P : Program} {f : FuncId} {fn : Func} {c : Code} {args : Array Value} {w : World} {R : Ending → World → Prop}
    (hf : P.funcs[f]? = some fn) (hb : fn.body = some c)
    (h : c.wpIn Fence.wide 3 P (bodyPostM Fence.wide 3 P fn R) { tmps := args ++ Array.replicate (fn.ntmps - args.size) undef, defers := [] } w) : Calls P f args w R :=
  callsIn_wide.1 (callsIn_of_wp_marks hf hb trivial h rfl)
/-- An operation at the head of the fenced walk, its run known. -/
theorem wpListIn_val {F : Fence} {n : Nat} {P : Program} {ops : Array Oper} {rest : List Oper} {o : Oper} {a : Act} {w : World} {Q : Exit → Act → World → Prop} {v : Value} (hF : ∀ f, F.fn f) (hgd : o.guard = none) (hnd : ∀ c, o.op ≠ .defer c)
    (hr : (execOp a.eval o).run P w = .ok (.value v) w) (h : wpListIn F n P ops Q rest (a.put o.dst v) w) : wpListIn F n P ops Q (o :: rest) a w := by
  refine wpListIn_plain hgd fun K hK => ?_
  unfold Oper.wpIn
  refine ⟨fun f _ => hF f, ?_⟩
  rw [Oper.semAt_plain F _ _ hnd, hr]
  exact hK _ _ h
theorem wpIn_laid1 {F : Fence} {n : Nat} {P : Program} {c : Code} {Q : Exit → Act → World → Prop} {a : Act} {w : World} {o1 : Obj}
    (h : ∀ W, Ext w W → W.heap[w.heap.size]? = some o1 → Code.wpIn F n P c Q a W) : Code.wpIn F n P c Q a (w.alloc o1) :=
  h _ ((Keep.refl _ w).alloc _) (World.alloc_heap_new w o1)
end Go.Proofs.Ytdopaoajbjodeaa
