/-
  One more step of XFlowY: an operation with a value that turns memory, unordered with operations that stand ahead of it and read nothing that it turns. Nothing here names the program.
-/
import Derived.Test.YthedpnnfkmbdpaaFlowY
namespace Go.Proofs.Ythedpnnfkmbdpaa.FY
open Go.RowKit

section
variable {P : Program} {ops : Array Oper} {md : Region.Mode} {w0 : World} {X : Nat → Obj → Prop} {ord : List Nat}
variable {tab : Nat → Kind} {Q : Exit → Act → World → Prop}
variable {k : Nat} {facts : Nat → World → Prop} {a : Act} {o : Oper} {rest : List Nat} {tl : List Oper}
/-- An operation with a value that turns memory within X; all others wait for it or it for them, or stand ahead of it in the order and read nothing within X. -/
theorem flow_bvs (hk0 : ops.toList.drop k = o :: tl) (ht : tab k = .bar) {d : Tmp} (hd : o.dst = some d) (hlt : d < a.tmps.size) (hanc : ((List.range ops.size).all fun i => i == k || ((tab i).isStill && (ord.takeWhile (· != k)).contains i) || ancB md ops ops.size k i || ancB md ops ops.size i k) = true)
    (h : ∀ w, Ext w0 w → (∀ d, facts d w) → wpList P ops (fun e b w' => e = .normal ∧ ∃ v, b = a.put o.dst v ∧ Keep X w w' ∧ wpFlow ord X P ops md tab Q rest w' (fun _ _ => True) (a.put o.dst v)) [o] a w) : wpFlow ord X P ops md tab Q (k :: rest) w0 facts a := by
  have hk := at_of_drop hk0
  refine flows_cons ?_
  unfold flowOp
  simp only [hk, ht]
  refine ⟨fun i hi hne => ?_, fun w hE hf => ?_⟩
  · have := List.all_eq_true.1 hanc i (List.mem_range.2 hi)
    simp only [Bool.or_eq_true, beq_iff_eq, hne, false_or, Bool.and_eq_true] at this
    rcases this with (this | this) | this
    · exact .inl (.inr ⟨this.2, this.1⟩)
    · exact .inl (.inl this)
    · exact .inr this
  have h1 := h w hE hf
  unfold wpList at h1
  unfold opTo
  split at h1
  · rename_i hw
    rw [if_pos hw]
    rcases h1 with h1 | ⟨_, _, _, h1, _⟩
    · refine gives_of_wp hd hlt ?_
      unfold Oper.wp at h1 ⊢
      generalize (execOp a.eval o).run P w = r at *
      cases r with
      | ok n w' =>
        cases n <;> simp only [Oper.upon] at h1 ⊢ <;>
          first
            | (obtain ⟨_, v, h2, h3, h4⟩ := h1; exact ⟨v, h2, h3, h4⟩)
            | (refine Calls.mono h1 (fun e w'' he => ?_)
               cases e with
               | returned u => obtain ⟨_, v, h2, h3, h4⟩ := he; exact ⟨v, h2, h3, h4⟩
               | panicked c => obtain ⟨h2, _⟩ := he; cases h2
               | outgrown => obtain ⟨_, _, h2, _⟩ := he; cases h2)
            | (exact Rows.mono h1 (fun u w'' he => by obtain ⟨_, v, h2, h3, h4⟩ := he; exact ⟨v, h2, h3, h4⟩))
      | halt x w' => cases x <;> simp only [Oper.upon] at h1 ⊢ <;> first | exact h1.elim | (obtain ⟨h2, _⟩ := h1; cases h2)
    · cases h1
  · rename_i hw
    rw [if_neg hw]
    obtain ⟨_, v, h2, h3, h4⟩ := h1
    have : v = undef := by
      rw [hd] at h2
      have := congrArg (fun x : Act => x.tmps[d]?) h2
      simpa [Act.put, hlt, eq_comm] using this
    subst this
    exact ⟨h3, h4⟩

/-- An operation without a value that turns memory within X; the others wait for it, or it for them, in one step or more. -/
theorem flow_ba (hk0 : ops.toList.drop k = o :: tl) (ht : tab k = .bar) (hd : o.dst = none) (hanc : ((List.range ops.size).all fun i => i == k || ((tab i).isStill && (ord.takeWhile (· != k)).contains i) || ancB md ops ops.size k i || ancB md ops ops.size i k) = true)
    (h : ∀ w, Ext w0 w → (∀ d, facts d w) → wpList P ops (fun e b w' => e = .normal ∧ b.defers = a.defers ∧ Keep X w w' ∧ wpFlow ord X P ops md tab Q rest w' (fun _ _ => True) a) [o] a w) : wpFlow ord X P ops md tab Q (k :: rest) w0 facts a := by
  have hk := at_of_drop hk0
  refine flows_cons ?_
  unfold flowOp
  simp only [hk, ht]
  refine ⟨fun i hi hne => ?_, fun w hE hf => ?_⟩
  · have := List.all_eq_true.1 hanc i (List.mem_range.2 hi)
    simp only [Bool.or_eq_true, beq_iff_eq, hne, false_or, Bool.and_eq_true] at this
    rcases this with (this | this) | this
    · exact .inl (.inr ⟨this.2, this.1⟩)
    · exact .inl (.inl this)
    · exact .inr this
  · have h1 := h w hE hf
    unfold wpList at h1
    unfold opTo
    split at h1
    · rename_i hw
      rw [if_pos hw]
      rcases h1 with h1 | ⟨_, _, _, h1, _⟩
      · unfold Oper.wp at h1
        generalize (execOp a.eval o).run P w = r at *
        cases r with
        | ok n w' =>
          cases n <;> simp only [Oper.upon] at h1 <;> simp only [givesVal, hd]
          case value u => exact h1.2.2
          case skip => exact h1.2.2
          case enter f args =>
            refine Calls.mono h1 (fun e w'' he => ?_)
            cases e with
            | returned u => exact ⟨u, rfl, he.2.2⟩
            | panicked c => cases he.1
            | outgrown => obtain ⟨_, _, h2, _⟩ := he; cases h2
          case defer f =>
            have h2 := h1.2.1
            rw [hd] at h2
            simp [Act.put] at h2
          case row r args => exact Rows.mono h1 (fun u w'' he => he.2.2)
        | halt x w' => cases x <;> simp only [Oper.upon] at h1 <;> first | exact h1.elim | (obtain ⟨h2, _⟩ := h1; cases h2)
      · cases h1
    · rename_i hw
      rw [if_neg hw, hd]
      exact h1.2.2

/-- A still operation whose run is given. -/
theorem flow_vq {v : Value} (hk0 : ops.toList.drop k = o :: tl) (ht : tab k = .still) (hw : Region.wanted o (yielded ops a.tmps) = true) (h1 : ∀ w, Keep X w0 w → (execOp a.eval o).run P w = .ok (.value v) w)
    (h : wpFlow ord X P ops md tab Q rest w0 facts (a.put o.dst v)) : wpFlow ord X P ops md tab Q (k :: rest) w0 facts a := by
  have hk := at_of_drop hk0
  refine flows_cons ?_
  unfold flowOp
  simp only [hk, ht]
  exact ⟨v, fun w hE => by unfold opIs; rw [if_pos hw]; exact .inl (h1 w hE), h⟩
end
end Go.Proofs.Ythedpnnfkmbdpaa.FY
