/-
  The flow law for a region whose operations turn memory while others, unordered with them, make memory. Kinds: 'pure' (a value, whatever memory is), 'still' (a value, the same whatever X holds), 'keeps' (makes memory; what is known of its value stays true whatever X holds), 'bar' (turns memory within X, its run given; unordered with pure, still or keeping operations that stand ahead of it in the caller's order), 'wall' (turns any memory, its run given; unordered with pure ones ahead alone). ONE walk, in the order of the caller's list, serves every order. Nothing here names the program.
-/
import Derived.Test.YthedpnnfkmbdpaaFlowY
namespace Go.Proofs.Ythedpnnfkmbdpaa.FW
open Go.RowKit FY

inductive Kind where
  | pure
  | still
  | keeps (S : Value → World → Prop) (Sh : Value → Prop)
  | bar
  | wall
def Kind.isPure : Kind → Bool
  | .pure => true
  | _ => false
def Kind.isStill : Kind → Bool
  | .pure => true
  | .still => true
  | .keeps _ _ => true
  | _ => false
def Kind.isKeeps : Kind → Bool
  | .keeps _ _ => true
  | _ => false

section
variable {P : Program} {ops : Array Oper} {md : Region.Mode} {w0 : World} {X : Nat → Obj → Prop} {ord : List Nat} {tab : Nat → Kind} {Q : Exit → Act → World → Prop}

/-- Operation o, in the frame a and the world w, runs to the value u and the world w'. -/
def opRuns (P : Program) (ops : Array Oper) (o : Oper) (a : Act) (w : World) (u : Value) (w' : World) : Prop :=
  if Region.wanted o (yielded ops a.tmps) then (execOp a.eval o).run P w = .ok (.value u) w' ∨ ((execOp a.eval o).run P w = .ok .skip w' ∧ u = undef) else u = undef ∧ w' = w
theorem opRuns_unique {o : Oper} {a : Act} {w : World} {u v : Value} {w1 w2 : World} (h : opRuns P ops o a w u w1) (k : opRuns P ops o a w v w2) : u = v ∧ w1 = w2 := by
  unfold opRuns at h k
  split at h
  · rename_i hw
    rw [if_pos hw] at k
    rcases h with h | ⟨h, rfl⟩ <;> rcases k with k | ⟨k, rfl⟩
    · rw [h] at k; cases k; exact ⟨rfl, rfl⟩
    · rw [h] at k; cases k
    · rw [h] at k; cases k
    · rw [h] at k; cases k; exact ⟨rfl, rfl⟩
  · rename_i hw
    rw [if_neg hw] at k
    exact ⟨h.1.trans k.1.symm, h.2.trans k.2.symm⟩
theorem opTo_of_runs {o : Oper} {a : Act} {w w' : World} {v : Value} (h : opRuns P ops o a w v w') : opTo P ops o a w (fun u w'' => u = v ∧ w'' = w') := by
  unfold opRuns at h
  unfold opTo
  split at h
  · rename_i hw
    rw [if_pos hw]
    rcases h with h | ⟨h, rfl⟩
    · rw [h]; exact ⟨rfl, rfl⟩
    · rw [h]; exact ⟨rfl, rfl⟩
  · rename_i hw
    rw [if_neg hw]
    exact ⟨h.1.symm, h.2.symm⟩
theorem opRuns_put {o : Oper} (hs : ∀ cs b, o.op ≠ .select cs b) {a : Act} {dst : Option Tmp} {v : Value} (h : ∀ d, dst = some d → d ∉ o.looksAt ops) {w w' : World} {u : Value} :
    opRuns P ops o (a.put dst v) w u w' ↔ opRuns P ops o a w u w' := by
  unfold opRuns
  rw [execOp_put o hs a dst v h, wanted_put o a dst v h]

def keepF (tab : Nat → Kind) (facts : Nat → World → Prop) : Nat → World → Prop := fun d => if (tab d).isKeeps then facts d else fun _ => True
theorem keepF_upd {facts : Nat → World → Prop} {i : Nat} {S : World → Prop} (h : (tab i).isKeeps = true) : keepF tab (upd facts i S) = upd (keepF tab facts) i S := by
  funext d
  unfold keepF upd
  by_cases hd : d = i
  · subst hd; simp [h]
  · simp [hd]

/-- Operation k comes up. -/
def flowOp (ord : List Nat) (X : Nat → Obj → Prop) (P : Program) (ops : Array Oper) (md : Region.Mode) (w0 : World) (tab : Nat → Kind) (k : Nat) (K : World → (Nat → World → Prop) → Act → Prop)
    (facts : Nat → World → Prop) (a : Act) : Prop :=
  match ops[k]? with
  | none => False
  | some o => match tab k with
    | .pure => ∃ v, (∀ w, opIs P ops o a w v) ∧ K w0 facts (a.put o.dst v)
    | .still => ∃ v, (∀ w, Keep X w0 w → opIs P ops o a w v) ∧ K w0 facts (a.put o.dst v)
    | .keeps S Sh => (∃ v, Sh v) ∧ (∀ v w w', S v w → Keep X w w' → S v w') ∧ (∀ v w, S v w → Sh v) ∧
        (∀ w, Keep X w0 w → (∀ d, ancB md ops ops.size k d = true → keepF tab facts d w) → opTo P ops o a w (fun u w' => Ext w w' ∧ S u w')) ∧
        ∀ v, Sh v → K w0 (upd facts k (S v)) (a.put o.dst v)
    | .bar => (∀ i, i < ops.size → i ≠ k → (ancB md ops ops.size k i = true ∨ ((ord.takeWhile (· != k)).contains i = true ∧ (tab i).isStill = true)) ∨ ancB md ops ops.size i k = true) ∧
        ∀ w, Ext w0 w → (∀ d, ancB md ops ops.size k d = true → facts d w) → ∃ u w', opRuns P ops o a w u w' ∧ Keep X w w' ∧ K w' (keepF tab facts) (a.put o.dst u)
    | .wall => (∀ i, i < ops.size → i ≠ k → (ancB md ops ops.size k i = true ∨ ((ord.takeWhile (· != k)).contains i = true ∧ (tab i).isPure = true)) ∨ ancB md ops ops.size i k = true) ∧
        ∀ w, Ext w0 w → (∀ d, facts d w) → opTo P ops o a w (fun u w' => K w' (fun _ _ => True) (a.put o.dst u))

/-- THE WALK, in the order rest. -/
def wpFlow (ord : List Nat) (X : Nat → Obj → Prop) (P : Program) (ops : Array Oper) (md : Region.Mode) (tab : Nat → Kind) (Q : Exit → Act → World → Prop) : List Nat → World → (Nat → World → Prop) → Act → Prop
  | [], w0, facts, a => ∀ w, Ext w0 w → (∀ d, facts d w) → Q .normal a w
  | k :: rest, w0, facts, a => flowOp ord X P ops md w0 tab k (fun w0 facts a => wpFlow ord X P ops md tab Q rest w0 facts a) facts a

/-- Whatever order is picked from here on. -/
def anyFlow (ord : List Nat) (X : Nat → Obj → Prop) (P : Program) (ops : Array Oper) (md : Region.Mode) (tab : Nat → Kind) (Q : Exit → Act → World → Prop) : Nat → Array Bool → World → (Nat → World → Prop) → Act → Prop
  | 0, listed, w0, facts, a => Region.ready md ops listed = [] ∧ ∀ w, Ext w0 w → (∀ d, facts d w) → Q .normal a w
  | n + 1, listed, w0, facts, a => (Region.ready md ops listed = [] → ∀ w, Ext w0 w → (∀ d, facts d w) → Q .normal a w) ∧
      ∀ i ∈ Region.ready md ops listed, flowOp ord X P ops md w0 tab i (anyFlow ord X P ops md tab Q n (listed.setIfInBounds i true)) facts a

theorem flowOp_mono {k : Nat} {K K' : World → (Nat → World → Prop) → Act → Prop} {facts : Nat → World → Prop} {a : Act} (h : ∀ w f a, K w f a → K' w f a) (hh : flowOp ord X P ops md w0 tab k K facts a) : flowOp ord X P ops md w0 tab k K' facts a := by
  unfold flowOp at *
  split at hh
  · exact hh
  · split at hh
    · obtain ⟨v, h1, h2⟩ := hh; exact ⟨v, h1, h _ _ _ h2⟩
    · obtain ⟨v, h1, h2⟩ := hh; exact ⟨v, h1, h _ _ _ h2⟩
    · exact ⟨hh.1, hh.2.1, hh.2.2.1, hh.2.2.2.1, fun v hv => h _ _ _ (hh.2.2.2.2 v hv)⟩
    · refine ⟨hh.1, fun w hE hf => ?_⟩
      obtain ⟨u, w', h1, h2, h3⟩ := hh.2 w hE hf
      exact ⟨u, w', h1, h2, h _ _ _ h3⟩
    · exact ⟨hh.1, fun w hE hf => opTo_mono (fun _ _ h' => h _ _ _ h') (hh.2 w hE hf)⟩

theorem wpAny_of_flow : ∀ (n : Nat) (listed : Array Bool) (w0 : World) (facts : Nat → World → Prop) (a : Act) (w : World), Closed md ops listed → (∀ d w w', facts d w → Ext w w' → facts d w') →
    (∀ d, (tab d).isKeeps = true → ∀ w w', facts d w → Keep X w w' → facts d w') → Ext w0 w → (∀ d, facts d w) →
    anyFlow ord X P ops md tab Q n listed w0 facts a → wpAny P md ops Q n listed a w
  | 0, _, _, _, _, w, _, _, _, hw, hf, h => ⟨h.1, h.2 w hw hf⟩
  | n + 1, listed, w0, facts, a, w, hc, hst, hst2, hw, hf, h => ⟨fun h0 => h.1 h0 w hw hf, fun i hi => by
    have h1 := h.2 i hi
    unfold flowOp at h1
    split at h1
    · exact h1.elim
    · rename_i o ho
      split at h1
      · obtain ⟨v, hv, hK⟩ := h1
        refine wpOp_of_opTo ho (opTo_of_opIs (hv w)) ?_
        rintro u w' ⟨rfl, rfl⟩
        exact wpAny_of_flow n _ w0 facts _ _ (closed_set hc hi) hst hst2 hw hf hK
      · obtain ⟨v, hv, hK⟩ := h1
        refine wpOp_of_opTo ho (opTo_of_opIs (hv w (Keep.of_ext hw))) ?_
        rintro u w' ⟨rfl, rfl⟩
        exact wpAny_of_flow n _ w0 facts _ _ (closed_set hc hi) hst hst2 hw hf hK
      · rename_i S Sh _
        obtain ⟨_, hS, hSh, hop, hK⟩ := h1
        refine wpOp_of_opTo ho (hop w (Keep.of_ext hw) (fun d _ => by unfold keepF; split; exact hf d; trivial)) ?_
        rintro u w' ⟨hE, hu⟩
        refine wpAny_of_flow n _ w0 _ _ _ (closed_set hc hi) ?_ ?_ (hw.trans hE) ?_ (hK u (hSh _ _ hu))
        · intro d w1 w2 h12 hE12
          unfold upd at *
          split at h12
          · rename_i hd; rw [if_pos hd]; exact hS _ _ _ h12 (Keep.of_ext hE12)
          · rename_i hd; rw [if_neg hd]; exact hst d w1 w2 h12 hE12
        · intro d hd' w1 w2 h12 hE12
          unfold upd at *
          split at h12
          · rename_i hd; rw [if_pos hd]; exact hS _ _ _ h12 hE12
          · rename_i hd; rw [if_neg hd]; exact hst2 d hd' w1 w2 h12 hE12
        · intro d
          unfold upd
          split
          · exact hu
          · exact hst d w w' (hf d) hE
      · obtain ⟨u0, w0', hr, hk, hK⟩ := h1.2 w hw (fun d _ => hf d)
        refine wpOp_of_opTo ho (opTo_of_runs hr) ?_
        rintro u w' ⟨rfl, rfl⟩
        refine wpAny_of_flow n _ w' _ _ _ (closed_set hc hi) ?_ ?_ (Keep.refl _ _) ?_ hK
        · intro d w1 w2 h12 hE12
          unfold keepF at *
          split at h12
          · rename_i hd; rw [if_pos hd]; exact hst d w1 w2 h12 hE12
          · rename_i hd; rw [if_neg hd]; trivial
        · intro d hd' w1 w2 h12 hE12
          unfold keepF at *
          rw [if_pos hd'] at h12 ⊢
          exact hst2 d hd' w1 w2 h12 hE12
        · intro d
          unfold keepF
          split
          · rename_i hd; exact hst2 d hd w w' (hf d) hk
          · trivial
      · refine wpOp_of_opTo ho (h1.2 w hw hf) ?_
        intro u w' hK
        exact wpAny_of_flow n _ w' _ _ _ (closed_set hc hi) (fun _ _ _ _ _ => trivial) (fun _ _ _ _ _ _ => trivial) (Keep.refl _ _) (fun _ => trivial) hK⟩

/-- j, apart from i and not waiting for it: i may come behind it as well. -/
theorem flowOp_swap {i j : Nat} {oi oj : Oper} (hi : ops[i]? = some oi) (hj : ops[j]? = some oj) (hij : i ≠ j) (hap : oi.apart ops oj = true)
    (hsi : ∀ cs b, oi.op ≠ .select cs b) (hsj : ∀ cs b, oj.op ≠ .select cs b) (hanc : ancB md ops ops.size j i = false) (hanc' : ancB md ops ops.size i j = false) (hti : tab i ≠ .wall) (htb : tab i ≠ .bar)
    {K : World → (Nat → World → Prop) → Act → Prop} {facts : Nat → World → Prop} {a : Act}
    (h : flowOp ord X P ops md w0 tab i (fun w0 facts a => flowOp ord X P ops md w0 tab j K facts a) facts a) : flowOp ord X P ops md w0 tab j (fun w0 facts a => flowOp ord X P ops md w0 tab i K facts a) facts a := by
  obtain ⟨h1, h2, h3⟩ := Oper.apart_spec hap
  have ilt : i < ops.size := (Array.getElem?_eq_some_iff.1 hi).1
  have updI : ∀ (S : World → Prop) (w : World), (∀ d, ancB md ops ops.size j d = true → facts d w) → (∀ d, ancB md ops ops.size j d = true → upd facts i S d w) := fun S w hf d hd => by
    unfold upd; rw [if_neg (fun e => by subst e; rw [hanc] at hd; cases hd)]; exact hf d hd
  have updIk : ∀ (S : World → Prop) (w : World), (∀ d, ancB md ops ops.size j d = true → keepF tab facts d w) → (∀ d, ancB md ops ops.size j d = true → keepF tab (upd facts i S) d w) := fun S w hf d hd => by
    have h0 := hf d hd
    unfold keepF upd at *
    split
    · rename_i hk
      rw [if_pos hk] at h0
      rw [if_neg (fun e => by subst e; rw [hanc] at hd; cases hd)]
      exact h0
    · trivial
  have updJk : ∀ (S : World → Prop) (w : World), (∀ d, ancB md ops ops.size i d = true → keepF tab (upd facts j S) d w) → (∀ d, ancB md ops ops.size i d = true → keepF tab facts d w) := fun S w hf d hd => by
    have h0 := hf d hd
    unfold keepF upd at *
    split
    · rename_i hk
      rw [if_pos hk, if_neg (fun e => by subst e; rw [hanc'] at hd; cases hd)] at h0
      exact h0
    · trivial
  unfold flowOp at h ⊢
  simp only [hi, hj] at h ⊢
  cases hki : tab i with
  | wall => exact absurd hki hti
  | bar => exact absurd hki htb
  | pure =>
    simp only [hki] at h ⊢
    obtain ⟨v, hv, h⟩ := h
    cases hkj : tab j with
    | wall =>
      simp only [hkj] at h
      refine ⟨h.1, fun w hE hf => opTo_mono (fun u w' r2 => ⟨v, fun w'' => (opIs_put hsi h3).2 (hv w''), ?_⟩) ((opTo_put hsj h1).1 (h.2 w hE hf))⟩
      rw [← Act.put_comm a v u h2]; exact r2
    | bar =>
      simp only [hkj] at h
      refine ⟨h.1, fun w hE hf => ?_⟩
      obtain ⟨u, w', r1, r2, r3⟩ := h.2 w hE hf
      exact ⟨u, w', (opRuns_put hsj h1).1 r1, r2, v, fun w'' => (opIs_put hsi h3).2 (hv w''), by rw [← Act.put_comm a v u h2]; exact r3⟩
    | pure =>
      simp only [hkj] at h
      obtain ⟨u, hu, hK⟩ := h
      exact ⟨u, fun w => (opIs_put hsj h1).1 (hu w), v, fun w => (opIs_put hsi h3).2 (hv w), by rw [← Act.put_comm a v u h2]; exact hK⟩
    | still =>
      simp only [hkj] at h
      obtain ⟨u, hu, hK⟩ := h
      exact ⟨u, fun w hw => (opIs_put hsj h1).1 (hu w hw), v, fun w => (opIs_put hsi h3).2 (hv w), by rw [← Act.put_comm a v u h2]; exact hK⟩
    | keeps S Sh =>
      simp only [hkj] at h
      obtain ⟨e1, e2, e3, e4, hK⟩ := h
      exact ⟨e1, e2, e3, fun w hw hf => (opTo_put hsj h1).1 (e4 w hw hf), fun u hu => ⟨v, fun w => (opIs_put hsi h3).2 (hv w), by rw [← Act.put_comm a v u h2]; exact hK u hu⟩⟩
  | still =>
    simp only [hki] at h ⊢
    obtain ⟨v, hv, h⟩ := h
    cases hkj : tab j with
    | wall => simp only [hkj] at h; rcases h.1 i ilt hij with (this | this) | this; (rw [hanc] at this; cases this); (rw [hki] at this; cases this.2); (rw [hanc'] at this; cases this)
    | bar =>
      simp only [hkj] at h
      refine ⟨h.1, fun w hE hf => ?_⟩
      obtain ⟨u, w', r1, r2, r3⟩ := h.2 w hE hf
      exact ⟨u, w', (opRuns_put hsj h1).1 r1, r2, v, fun w'' hw'' => (opIs_put hsi h3).2 (hv w'' (((Keep.of_ext hE).trans r2).trans hw'')), by rw [← Act.put_comm a v u h2]; exact r3⟩
    | pure =>
      simp only [hkj] at h
      obtain ⟨u, hu, hK⟩ := h
      exact ⟨u, fun w => (opIs_put hsj h1).1 (hu w), v, fun w hw => (opIs_put hsi h3).2 (hv w hw), by rw [← Act.put_comm a v u h2]; exact hK⟩
    | still =>
      simp only [hkj] at h
      obtain ⟨u, hu, hK⟩ := h
      exact ⟨u, fun w hw => (opIs_put hsj h1).1 (hu w hw), v, fun w hw => (opIs_put hsi h3).2 (hv w hw), by rw [← Act.put_comm a v u h2]; exact hK⟩
    | keeps S Sh =>
      simp only [hkj] at h
      obtain ⟨e1, e2, e3, e4, hK⟩ := h
      exact ⟨e1, e2, e3, fun w hw hf => (opTo_put hsj h1).1 (e4 w hw hf), fun u hu => ⟨v, fun w hw => (opIs_put hsi h3).2 (hv w hw), by rw [← Act.put_comm a v u h2]; exact hK u hu⟩⟩
  | keeps Si Shi =>
    have hkk : (tab i).isKeeps = true := by rw [hki]; rfl
    simp only [hki] at h ⊢
    obtain ⟨⟨v0, hv0⟩, f2, f3, f4, h⟩ := h
    cases hkj : tab j with
    | wall => have h0 := h v0 hv0; simp only [hkj] at h0; rcases h0.1 i ilt hij with (this | this) | this; (rw [hanc] at this; cases this); (rw [hki] at this; cases this.2); (rw [hanc'] at this; cases this)
    | bar =>
      have h0 := h v0 hv0
      simp only [hkj] at h0
      refine ⟨h0.1, fun w hE hf => ?_⟩
      obtain ⟨u, w', r1, r2, _⟩ := h0.2 w hE (updI _ w hf)
      refine ⟨u, w', (opRuns_put hsj h1).1 r1, r2, ⟨v0, hv0⟩, f2, f3, fun w'' hw'' hf'' => (opTo_put hsi h3).2 (f4 w'' (((Keep.of_ext hE).trans r2).trans hw'') (fun d hd => ?_)), fun v hv => ?_⟩
      · have h9 := hf'' d hd
        unfold keepF at h9 ⊢
        split
        · rename_i hk; simp only [if_pos hk] at h9; exact h9
        · trivial
      · have h' := h v hv
        simp only [hkj] at h'
        obtain ⟨u2, w2, s1, s2, s3⟩ := h'.2 w hE (updI _ w hf)
        obtain ⟨rfl, rfl⟩ := opRuns_unique ((opRuns_put hsj h1).1 r1) ((opRuns_put hsj h1).1 s1)
        rw [keepF_upd hkk] at s3
        rw [← Act.put_comm a v u h2]
        exact s3
    | pure =>
      have h0 := h v0 hv0
      simp only [hkj] at h0
      obtain ⟨u, hu, _⟩ := h0
      refine ⟨u, fun w => (opIs_put hsj h1).1 (hu w), ⟨v0, hv0⟩, f2, f3, fun w hw hf => (opTo_put hsi h3).2 (f4 w hw hf), fun v hv => ?_⟩
      have h' := h v hv
      simp only [hkj] at h'
      obtain ⟨u', hu', hK⟩ := h'
      obtain rfl : u = u' := opIs_unique ((opIs_put hsj h1).1 (hu w0)) ((opIs_put hsj h1).1 (hu' w0))
      rw [← Act.put_comm a v u h2]; exact hK
    | still =>
      have h0 := h v0 hv0
      simp only [hkj] at h0
      obtain ⟨u, hu, _⟩ := h0
      refine ⟨u, fun w hw => (opIs_put hsj h1).1 (hu w hw), ⟨v0, hv0⟩, f2, f3, fun w hw hf => (opTo_put hsi h3).2 (f4 w hw hf), fun v hv => ?_⟩
      have h' := h v hv
      simp only [hkj] at h'
      obtain ⟨u', hu', hK⟩ := h'
      obtain rfl : u = u' := opIs_unique ((opIs_put hsj h1).1 (hu w0 (Keep.refl _ _))) ((opIs_put hsj h1).1 (hu' w0 (Keep.refl _ _)))
      rw [← Act.put_comm a v u h2]; exact hK
    | keeps S Sh =>
      have h0 := h v0 hv0
      simp only [hkj] at h0
      obtain ⟨e1, e2, e3, e4, _⟩ := h0
      refine ⟨e1, e2, e3, fun w hw hf => (opTo_put hsj h1).1 (e4 w hw (updIk _ w hf)), fun u hu => ⟨⟨v0, hv0⟩, f2, f3, fun w hw hf => (opTo_put hsi h3).2 (f4 w hw (updJk _ w hf)), fun v hv => ?_⟩⟩
      have h' := h v hv
      simp only [hkj] at h'
      have hK := h'.2.2.2.2 u hu
      rw [← Act.put_comm a v u h2, upd_comm facts (Ne.symm hij)]; exact hK

theorem flowOp_some {i : Nat} {K : World → (Nat → World → Prop) → Act → Prop} {facts : Nat → World → Prop} {a : Act} (hti : tab i ≠ .wall) (htb : tab i ≠ .bar) (h : flowOp ord X P ops md w0 tab i K facts a) : ∃ w f b, K w f b := by
  unfold flowOp at h
  split at h
  · exact h.elim
  · split at h
    · obtain ⟨v, _, h⟩ := h; exact ⟨_, _, _, h⟩
    · obtain ⟨v, _, h⟩ := h; exact ⟨_, _, _, h⟩
    · obtain ⟨⟨v, hv⟩, _, _, _, h⟩ := h; exact ⟨_, _, _, h v hv⟩
    · rename_i hk; exact absurd hk htb
    · rename_i hk; exact absurd hk hti

theorem anyFlow_first {i : Nat} {oi : Oper} (hi : ops[i]? = some oi) (hsel : ∀ (j : Nat) (o : Oper) cs b, ops[j]? = some o → o.op ≠ .select cs b) (hti : tab i ≠ .wall) (htb : tab i ≠ .bar) :
    ∀ (fuel : Nat) (listed : Array Bool) (w0 : World) (facts : Nat → World → Prop) (a : Act), Closed md ops listed →
      (∀ j oj, ops[j]? = some oj → j ≠ i → listed.getD j true = false → (∀ e ∈ oj.after, Region.binds md e = true → e.on ≠ i) → oi.apart ops oj = true) →
      i ∈ Region.ready md ops listed → flowOp ord X P ops md w0 tab i (anyFlow ord X P ops md tab Q fuel (listed.setIfInBounds i true)) facts a →
      anyFlow ord X P ops md tab Q (fuel + 1) listed w0 facts a := by
  intro fuel
  induction fuel with
  | zero =>
    intro listed w0 facts a hc _ hr H
    refine ⟨fun h => (by rw [h] at hr; cases hr), fun j hj => ?_⟩
    by_cases hji : j = i
    · subst hji; exact H
    · have := ready_mono hj hji
      obtain ⟨_, f, b, hK⟩ := flowOp_some hti htb H
      rw [hK.1] at this
      cases this
  | succ fuel ih =>
    intro listed w0 facts a hc hfree hr H
    refine ⟨fun h => (by rw [h] at hr; cases hr), fun j hj => ?_⟩
    by_cases hji : j = i
    · subst hji; exact H
    · obtain ⟨hjun, oj, hoj, hall⟩ := mem_ready.1 hj
      have hnot : ∀ e ∈ oj.after, Region.binds md e = true → e.on ≠ i := fun e he hb heq => by
        have h1 := hall e he hb
        have h0 := (mem_ready.1 hr).1
        rw [heq] at h1
        rcases Nat.lt_or_ge i listed.size with h' | h'
        · simp [h'] at h0 h1; rw [h0] at h1; cases h1
        · simp [Array.getElem?_eq_none h'] at h1
      have h1 := flowOp_mono (fun w f b hK => hK.2 j (ready_mono hj hji)) H
      have h2 := flowOp_swap hi hoj (Ne.symm hji) (hfree j oj hoj hji hjun hnot) (fun cs b => hsel i oi cs b hi) (fun cs b => hsel j oj cs b hoj)
        (anc_unlisted hc hj hr) (anc_unlisted hc hr hj) hti htb h1
      have hfree' : ∀ k ok, ops[k]? = some ok → k ≠ i → (listed.setIfInBounds j true).getD k true = false →
          (∀ e ∈ ok.after, Region.binds md e = true → e.on ≠ i) → oi.apart ops ok = true := fun k ok hk hki hun hno => by
        refine hfree k ok hk hki ?_ hno
        by_cases hjk : j = k
        · subst hjk; exact hjun
        · rw [getD_set_ne true hjk] at hun; exact hun
      refine flowOp_mono (fun w f b hK => ih (listed.setIfInBounds j true) w f b (closed_set hc hj) hfree' (ready_mono hr (Ne.symm hji)) ?_) h2
      rw [Array.setIfInBounds_comm _ _ hji]
      exact hK

theorem anyFlow_ord (hs : Region.noSelect ops = true) : ∀ (pre rest : List Nat) (listed : Array Bool) (w0 : World) (facts : Nat → World → Prop) (a : Act), ord = pre ++ rest → Closed md ops listed → (∀ m, m ∈ pre → listed.getD m true = true) →
    ordFrom md ops rest listed = true → wpFlow ord X P ops md tab Q rest w0 facts a → anyFlow ord X P ops md tab Q rest.length listed w0 facts a
  | _, [], _, _, _, _, _, _, _, hB, h => ⟨by simpa [ordFrom] using hB, h⟩
  | pre, k :: rest, listed, w0, facts, a, hk, hc, hls, hB, h => by
    have hls' : ∀ m, m ∈ pre ++ [k] → (listed.setIfInBounds k true).getD m true = true := fun m hm => by
      by_cases hmk : m = k
      · subst hmk
        by_cases hb : m < listed.size
        · simp [hb]
        · simp [hb]
      · rw [getD_set_ne true (Ne.symm hmk)]
        refine hls m ?_
        rcases List.mem_append.1 hm with h' | h'
        · exact h'
        · exact absurd (List.mem_singleton.1 h') hmk
    simp only [ordFrom, Bool.and_eq_true] at hB
    obtain ⟨⟨hr, hf⟩, hB'⟩ := hB
    have hr' : k ∈ Region.ready md ops listed := by simpa using hr
    obtain ⟨_, ok, h0, _⟩ := mem_ready.1 hr'
    have hk' : ord = (pre ++ [k]) ++ rest := by rw [hk]; simp
    by_cases hl : tab k = .wall ∨ tab k = .bar
    · have h' := h
      unfold wpFlow at h'
      have hbar : ∀ i, i < ops.size → i ≠ k → (ancB md ops ops.size k i = true ∨ (ord.takeWhile (· != k)).contains i = true) ∨ ancB md ops ops.size i k = true := by
        unfold flowOp at h'
        rcases hl with hb | hb
        · simp only [h0, hb] at h'
          exact fun i hi hne => (h'.1 i hi hne).imp (fun h => h.imp id (fun h => h.1)) id
        · simp only [h0, hb] at h'
          exact fun i hi hne => (h'.1 i hi hne).imp (fun h => h.imp id (fun h => h.1)) id
      refine ⟨fun e => (by rw [e] at hr'; cases hr'), fun j hj => ?_⟩
      by_cases hjk : j = k
      · subst hjk
        exact flowOp_mono (fun w f b hK => anyFlow_ord hs (pre ++ [j]) rest _ w f b hk' (closed_set hc hr') hls' hB' hK) h'
      · obtain ⟨hju, oj, hoj, _⟩ := mem_ready.1 hj
        rcases hbar j (Array.getElem?_eq_some_iff.1 hoj).1 hjk with (this | this) | this
        · rw [anc_unlisted hc hr' hj] at this
          cases this
        · have hm : j ∈ ord.takeWhile (· != k) := by simpa using this
          rw [hk] at hm
          rw [hls j (mem_ahead hm)] at hju; cases hju
        · rw [anc_unlisted hc hj hr'] at this
          cases this
    · exact anyFlow_first h0 (Region.noSelect_spec hs) (fun h => hl (.inl h)) (fun h => hl (.inr h)) rest.length listed w0 facts a hc (Region.free_spec h0 hf) hr'
        (flowOp_mono (fun w f b hK => anyFlow_ord hs (pre ++ [k]) rest _ w f b hk' (closed_set hc hr') hls' hB' hK) h)

/-- **ONE WALK SERVES EVERY ORDER.** -/
theorem wp_flow {id : Nat} {a : Act} {w : World} (ord : List Nat) (tab : Nat → Kind) (hm : P.follows .mixedOrders = true) (hB : ordB .any ops ord = true)
    (h : wpFlow ord X P ops .any tab Q ord w.drew (fun _ _ => True) a) : (Code.region id ops true).wp P Q a w := by
  simp only [ordB, Bool.and_eq_true, beq_iff_eq] at hB
  refine wp_region_any hm ?_
  have h1 := anyFlow_ord hB.1.1 [] ord (Array.replicate ops.size false) w.drew (fun _ _ => True) a rfl (by
    intro j o ho hl
    simp [Array.getElem?_replicate] at hl
    split at hl <;> simp at hl) (fun m hm => by cases hm) hB.2 h
  rw [hB.1.2] at h1
  exact wpAny_of_flow ops.size _ _ _ a _ (by
    intro j o ho hl
    simp [Array.getElem?_replicate] at hl
    split at hl <;> simp at hl) (fun _ _ _ _ _ => trivial) (fun _ _ _ _ _ _ => trivial) (Keep.refl _ _) (fun _ => trivial) h1

variable {k : Nat} {facts : Nat → World → Prop} {a : Act} {o : Oper} {rest : List Nat} {tl : List Oper}

/-- Any world. -/
structure AnyW (w0 : World) where
  w : World
instance {w0 : World} : Nonempty (AnyW w0) := ⟨⟨w0⟩⟩

theorem flows_cons (h : flowOp ord X P ops md w0 tab k (fun w0 facts a => wpFlow ord X P ops md tab Q rest w0 facts a) facts a) : wpFlow ord X P ops md tab Q (k :: rest) w0 facts a := h

theorem flow_p (hk0 : ops.toList.drop k = o :: tl) (ht : tab k = .pure) (hn : noCall o = true)
    (h : wpQuiet P ops (fun w => ∃ g : AnyW w0, w = g.w) (fun a' => wpFlow ord X P ops md tab Q rest w0 facts a') [o] a) : wpFlow ord X P ops md tab Q (k :: rest) w0 facts a := by
  have hk := at_of_drop hk0
  refine flows_cons ?_
  unfold flowOp
  simp only [hk, ht]
  unfold wpQuiet at h
  split at h
  · rename_i hw
    obtain ⟨v, h1, h2⟩ := h
    exact ⟨v, fun w => by unfold opIs; rw [if_pos hw]; exact opIs_of_quiet hn (h1 w ⟨⟨w⟩, rfl⟩), h2⟩
  · rename_i hw
    exact ⟨undef, fun w => by unfold opIs; rw [if_neg hw], h⟩

theorem flow_q (hk0 : ops.toList.drop k = o :: tl) (ht : tab k = .still) (hn : noCall o = true)
    (h : wpQuiet P ops (fun w => ∃ g : At X w0, w = g.w) (fun a' => wpFlow ord X P ops md tab Q rest w0 facts a') [o] a) : wpFlow ord X P ops md tab Q (k :: rest) w0 facts a := by
  have hk := at_of_drop hk0
  refine flows_cons ?_
  unfold flowOp
  simp only [hk, ht]
  unfold wpQuiet at h
  split at h
  · rename_i hw
    obtain ⟨v, h1, h2⟩ := h
    exact ⟨v, fun w hE => by unfold opIs; rw [if_pos hw]; exact opIs_of_quiet hn (h1 w ⟨⟨w, hE⟩, rfl⟩), h2⟩
  · rename_i hw
    exact ⟨undef, fun w hE => by unfold opIs; rw [if_neg hw], h⟩

/-- A still operation whose run is given. -/
theorem flow_vq {v : Value} (hk0 : ops.toList.drop k = o :: tl) (ht : tab k = .still) (hw : Region.wanted o (yielded ops a.tmps) = true) (h1 : ∀ w, Keep X w0 w → (execOp a.eval o).run P w = .ok (.value v) w)
    (h : wpFlow ord X P ops md tab Q rest w0 facts (a.put o.dst v)) : wpFlow ord X P ops md tab Q (k :: rest) w0 facts a := by
  have hk := at_of_drop hk0
  refine flows_cons ?_
  unfold flowOp
  simp only [hk, ht]
  exact ⟨v, fun w hE => by unfold opIs; rw [if_pos hw]; exact .inl (h1 w hE), h⟩

/-- A guarded operation that is passed over. -/
theorem flow_sp (hk0 : ops.toList.drop k = o :: tl) (ht : tab k = .pure) (hw : Region.wanted o (yielded ops a.tmps) = false) (h : wpFlow ord X P ops md tab Q rest w0 facts (a.put o.dst undef)) : wpFlow ord X P ops md tab Q (k :: rest) w0 facts a := by
  have hk := at_of_drop hk0
  refine flows_cons ?_
  unfold flowOp
  simp only [hk, ht]
  exact ⟨undef, fun w => by unfold opIs; rw [hw]; simp, h⟩

/-- An operation that makes memory. -/
theorem flow_k {S : Value → World → Prop} {Sh : Value → Prop} (hk0 : ops.toList.drop k = o :: tl) (ht : tab k = .keeps S Sh) {d : Tmp} (hd : o.dst = some d) (hlt : d < a.tmps.size)
    (hne : ∃ v, Sh v) (hst : ∀ v w w', S v w → Keep X w w' → S v w') (hsh : ∀ v w, S v w → Sh v)
    (hop : ∀ w, Keep X w0 w → (∀ d, ancB md ops ops.size k d = true → keepF tab facts d w) → wpList P ops (fun e b w' => e = .normal ∧ ∃ v, b = a.put o.dst v ∧ Ext w w' ∧ S v w') [o] a w)
    (h : ∀ v, Sh v → wpFlow ord X P ops md tab Q rest w0 (upd facts k (S v)) (a.put o.dst v)) : wpFlow ord X P ops md tab Q (k :: rest) w0 facts a := by
  have hk := at_of_drop hk0
  refine flows_cons ?_
  unfold flowOp
  simp only [hk, ht]
  refine ⟨hne, hst, hsh, fun w hE hf => ?_, h⟩
  have h1 := hop w hE hf
  unfold wpList at h1
  unfold opTo
  split at h1
  · rename_i hw
    rw [if_pos hw]
    rcases h1 with h1 | ⟨_, _, _, h1, _⟩
    · refine gives_of_wp hd hlt ?_
      unfold Oper.wp at h1 ⊢
      generalize (execOp a.eval o).run P w = r at *
      cases r with
      | ok n w' =>
        cases n <;> simp only [Oper.upon] at h1 ⊢ <;>
          first
            | (obtain ⟨_, v, h2, h3, h4⟩ := h1; exact ⟨v, h2, h3, h4⟩)
            | (refine Calls.mono h1 (fun e w'' he => ?_)
               cases e with
               | returned u => obtain ⟨_, v, h2, h3, h4⟩ := he; exact ⟨v, h2, h3, h4⟩
               | panicked c => obtain ⟨h2, _⟩ := he; cases h2
               | outgrown => obtain ⟨_, _, h2, _⟩ := he; cases h2)
            | (exact Rows.mono h1 (fun u w'' he => by obtain ⟨_, v, h2, h3, h4⟩ := he; exact ⟨v, h2, h3, h4⟩))
      | halt x w' => cases x <;> simp only [Oper.upon] at h1 ⊢ <;> first | exact h1.elim | (obtain ⟨h2, _⟩ := h1; cases h2)
    · cases h1
  · rename_i hw
    rw [if_neg hw]
    obtain ⟨_, v, h2, h3, h4⟩ := h1
    have : v = undef := by
      rw [hd] at h2
      have := congrArg (fun x : Act => x.tmps[d]?) h2
      simpa [Act.put, hlt, eq_comm] using this
    subst this
    exact ⟨h3, h4⟩

/-- An operation that turns memory within X, its run given. -/
theorem flow_b (hk0 : ops.toList.drop k = o :: tl) (ht : tab k = .bar) (hanc : ((List.range ops.size).all fun i => i == k || ((tab i).isStill && (ord.takeWhile (· != k)).contains i) || ancB md ops ops.size k i || ancB md ops ops.size i k) = true)
    (h : ∀ w, Ext w0 w → (∀ d, ancB md ops ops.size k d = true → facts d w) → ∃ u w', opRuns P ops o a w u w' ∧ Keep X w w' ∧ wpFlow ord X P ops md tab Q rest w' (keepF tab facts) (a.put o.dst u)) : wpFlow ord X P ops md tab Q (k :: rest) w0 facts a := by
  have hk := at_of_drop hk0
  refine flows_cons ?_
  unfold flowOp
  simp only [hk, ht]
  refine ⟨fun i hi hne => ?_, h⟩
  have := List.all_eq_true.1 hanc i (List.mem_range.2 hi)
  simp only [Bool.or_eq_true, beq_iff_eq, hne, false_or, Bool.and_eq_true] at this
  rcases this with (this | this) | this
  · exact .inl (.inr ⟨this.2, this.1⟩)
  · exact .inl (.inl this)
  · exact .inr this
/-- An operation without a value that turns any memory. -/
theorem flow_w (hk0 : ops.toList.drop k = o :: tl) (ht : tab k = .wall) (hd : o.dst = none) (hanc : ((List.range ops.size).all fun i => i == k || ((tab i).isPure && (ord.takeWhile (· != k)).contains i) || edgeB md ops k i || edgeB md ops i k || ancB md ops ops.size k i || ancB md ops ops.size i k) = true)
    (h : ∀ w, Ext w0 w → (∀ d, facts d w) → wpList P ops (fun e b w' => e = .normal ∧ b.defers = a.defers ∧ wpFlow ord X P ops md tab Q rest w' (fun _ _ => True) a) [o] a w) : wpFlow ord X P ops md tab Q (k :: rest) w0 facts a := by
  have hk := at_of_drop hk0
  refine flows_cons ?_
  unfold flowOp
  simp only [hk, ht]
  refine ⟨fun i hi hne => ?_, fun w hE hf => ?_⟩
  · have := List.all_eq_true.1 hanc i (List.mem_range.2 hi)
    simp only [Bool.or_eq_true, beq_iff_eq, hne, false_or, Bool.and_eq_true] at this
    have hn : 0 < ops.size := by omega
    rcases this with (((this | this) | this) | this) | this
    · exact .inl (.inr ⟨this.2, this.1⟩)
    · exact .inl (.inl (anc_edge hn this))
    · exact .inr (anc_edge hn this)
    · exact .inl (.inl this)
    · exact .inr this
  · have h1 := h w hE hf
    unfold wpList at h1
    unfold opTo
    split at h1
    · rename_i hw
      rw [if_pos hw]
      rcases h1 with h1 | ⟨_, _, _, h1, _⟩
      · unfold Oper.wp at h1
        generalize (execOp a.eval o).run P w = r at *
        cases r with
        | ok n w' =>
          cases n <;> simp only [Oper.upon] at h1 <;> simp only [givesVal, hd]
          case value u => exact h1.2.2
          case skip => exact h1.2.2
          case enter f args =>
            refine Calls.mono h1 (fun e w'' he => ?_)
            cases e with
            | returned u => exact ⟨u, rfl, he.2.2⟩
            | panicked c => cases he.1
            | outgrown => obtain ⟨_, _, h2, _⟩ := he; cases h2
          case defer f =>
            have h2 := h1.2.1
            rw [hd] at h2
            simp [Act.put] at h2
          case row r args => exact Rows.mono h1 (fun u w'' he => he.2.2)
        | halt x w' => cases x <;> simp only [Oper.upon] at h1 <;> first | exact h1.elim | (obtain ⟨h2, _⟩ := h1; cases h2)
      · cases h1
    · rename_i hw
      rw [if_neg hw, hd]
      exact h1.2.2
theorem opRuns_val {v : Value} {w w' : World} (hw : Region.wanted o (yielded ops a.tmps) = true) (h : (execOp a.eval o).run P w = .ok (.value v) w') : opRuns P ops o a w v w' := by
  unfold opRuns
  rw [if_pos hw]
  exact .inl h
/-- append, its run known. -/
theorem exec_append {w w' : World} {s x : Operand} {t1 t2 : TypeId} {v xv v' : Value} (hrun : (Builtin.append_ #[t1, t2] o.type #[v, xv]).run P w = .ok v' w')
    (ho : o.op = .call { callee := .builtin .append, args := #[s, x], argTypes := #[t1, t2] }) (hs : a.eval s = v) (hx : a.eval x = xv) : (execOp a.eval o).run P w = .ok (.value v') w' := by
  simp [execOp, ho, resolve, invoke, builtin, hs, hx, hrun, Result.andThen]
theorem flow_end (h : ∀ w, Ext w0 w → (∀ d, facts d w) → Q .normal a w) : wpFlow ord X P ops md tab Q [] w0 facts a := h
end
end Go.Proofs.Ythedpnnfkmbdpaa.FW
