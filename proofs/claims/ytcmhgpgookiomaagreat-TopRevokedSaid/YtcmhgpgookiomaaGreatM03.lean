/-
  TopRevoked: XFlowY once more, for the code of an iterator function (in the wide fence): an operation may also be a call of yield. Nothing here names the program. A loop over an iterator that keeps memory of its own while the rounds turn memory, known by a predicate Y on objects, and may leave the loop: 'IterR', 'rangeR_wp'. The iterator only makes memory. What it reads stays by Inv, which the loop's relation gives. Nothing here names the program. A loop over an iterator whose values come in an order that nobody knows (a range over a map): the relation goes by the list of what has come. The iterator's own steps turn a walk's object that it made itself. No round leaves the loop. Nothing here names the program.
-/
import Derived.Test.YtcmhgpgookiomaaGreatM01
import Derived.BigQuiet
import Derived.RangeFuncSeq
namespace Go.Proofs.YtcmhgpgookiomaaGreat.FR
open Go.RowKit

/-- A world that w0 has grown into. -/
structure At (X : Nat → Obj → Prop) (w0 : World) where
  w : World
  ext : Keep X w0 w
instance {X : Nat → Obj → Prop} {w0 : World} : Nonempty (At X w0) := ⟨⟨w0, Keep.refl _ _⟩⟩

/-- What an operation is: it reads; it makes memory, its value of the shape Sh, known by S; it comes behind all others; it may turn memory, and all others come ahead of it or behind it. -/
inductive Kind where
  | reads
  | still
  | grows (S : Value → World → Prop) (Sh : Value → Prop)
  | last
  | bar

def Kind.isStill : Kind → Bool
  | .still => true
  | _ => false

def noCall (o : Oper) : Bool :=
  match o.op with
  | .call c => (match c.callee with | .builtin .len => true | .builtin .cap => true | .builtin .min => true | .builtin .max => true | _ => false)
  | .go _ | .defer _ | .send .. | .recv .. | .select .. | .panic _ => false
  | _ => true

section
variable {P : Program} {ops : Array Oper} {md : Region.Mode} {w0 : World} {X : Nat → Obj → Prop} {ord : List Nat}

/-- What an operation's run must be: a value of which T holds; or a call that hands back one. -/
def givesVal (P : Program) (T : Value → World → Prop) : Result Next → Prop
  | .ok (.value u) w' => T u w'
  | .ok .skip w' => T undef w'
  | .ok (.enter f args) w' => Calls P f args w' (fun e w'' => ∃ u, e = .returned u ∧ T u w'')
  | .ok (.row row args) w' => Rows P row args w' T
  | .ok (.round l f tmps assign body) w' => RoundIn Fence.wide 0 P l f tmps assign body w' (fun e w'' => ∃ u, e = .returned u ∧ T u w'')
  | _ => False

/-- Operation o, in the frame a and the world w, hands back a value (undef: it is passed over), of which T holds. -/
def opTo (P : Program) (ops : Array Oper) (o : Oper) (a : Act) (w : World) (T : Value → World → Prop) : Prop :=
  if Region.wanted o (yielded ops a.tmps) then givesVal P T ((execOp a.eval o).run P w) else T undef w

/-- It reads: a value, the same in every world that w0 has grown into. -/
def opIs (P : Program) (ops : Array Oper) (o : Oper) (a : Act) (w : World) (v : Value) : Prop :=
  if Region.wanted o (yielded ops a.tmps) then (execOp a.eval o).run P w = .ok (.value v) w ∨ ((execOp a.eval o).run P w = .ok .skip w ∧ v = undef) else v = undef

theorem opIs_unique {o : Oper} {a : Act} {w : World} {u v : Value} (h : opIs P ops o a w u) (k : opIs P ops o a w v) : u = v := by
  unfold opIs at h k
  split at h
  · rename_i hw
    rw [if_pos hw] at k
    rcases h with h | ⟨h, rfl⟩ <;> rcases k with k | ⟨k, rfl⟩
    · rw [h] at k; cases k; rfl
    · rw [h] at k; cases k
    · rw [h] at k; cases k
    · rfl
  · rename_i hw
    rw [if_neg hw] at k
    rw [h, k]

/-- Whether operation j waits for operation d. -/
def ancB (md : Region.Mode) (ops : Array Oper) : Nat → Nat → Nat → Bool
  | 0, _, _ => false
  | n + 1, j, d => match ops[j]? with
    | none => false
    | some o => o.after.any fun e => Region.binds md e && (e.on == d || ancB md ops n e.on d)


/-- What is listed waits for nothing that isn't. -/
def Closed (md : Region.Mode) (ops : Array Oper) (listed : Array Bool) : Prop :=
  ∀ j o, ops[j]? = some o → listed.getD j false = true → ∀ e ∈ o.after, Region.binds md e = true → listed.getD e.on false = true

theorem closed_anc {listed : Array Bool} (hc : Closed md ops listed) : ∀ (n j d : Nat), (∀ o, ops[j]? = some o → ∀ e ∈ o.after, Region.binds md e = true → listed.getD e.on false = true) →
    ancB md ops n j d = true → listed.getD d false = true
  | 0, _, _, _, h => by simp [ancB] at h
  | n + 1, j, d, hj, h => by
    unfold ancB at h
    cases ho : ops[j]? with
    | none => simp [ho] at h
    | some o =>
      simp only [ho] at h
      obtain ⟨e, he, hb⟩ := Array.any_eq_true'.1 h
      simp only [Bool.and_eq_true, Bool.or_eq_true, beq_iff_eq] at hb
      have hl := hj o ho e he hb.1
      rcases hb.2 with rfl | hb
      · exact hl
      · exact closed_anc hc n e.on d (fun o' ho' e' he' hb' => hc e.on o' ho' hl e' he' hb') hb

theorem closed_set {listed : Array Bool} {i : Nat} (hc : Closed md ops listed) (hr : i ∈ Region.ready md ops listed) : Closed md ops (listed.setIfInBounds i true) := by
  intro j o ho hl e he hb
  refine getD_set_true ?_
  by_cases hji : j = i
  · subst hji
    obtain ⟨_, o', ho', hall⟩ := mem_ready.1 hr
    rw [ho] at ho'; cases ho'
    exact hall e he hb
  · rw [getD_set_ne false (Ne.symm hji)] at hl
    exact hc j o ho hl e he hb

def upd (facts : Nat → World → Prop) (k : Nat) (S : World → Prop) : Nat → World → Prop := fun d => if d = k then S else facts d

/-- Operation k comes up. -/
def flowOp (ord : List Nat) (X : Nat → Obj → Prop) (P : Program) (ops : Array Oper) (md : Region.Mode) (w0 : World) (tab : Nat → Kind) (Q : Exit → Act → World → Prop) (k : Nat) (K : World → (Nat → World → Prop) → Act → Prop)
    (facts : Nat → World → Prop) (a : Act) : Prop :=
  match ops[k]? with
  | none => False
  | some o => match tab k with
    | .reads => ∃ v, (∀ w, Ext w0 w → opIs P ops o a w v) ∧ K w0 facts (a.put o.dst v)
    | .still => ∃ v, (∀ w, Keep X w0 w → opIs P ops o a w v) ∧ K w0 facts (a.put o.dst v)
    | .grows S Sh => (∃ v, Sh v) ∧ (∀ v w w', S v w → Ext w w' → S v w') ∧ (∀ v w, S v w → Sh v) ∧
        (∀ w, Ext w0 w → (∀ d, ancB md ops ops.size k d = true → facts d w) → opTo P ops o a w (fun u w' => Ext w w' ∧ S u w')) ∧
        ∀ v, Sh v → K w0 (upd facts k (S v)) (a.put o.dst v)
    | .last => (∀ i, i < ops.size → i ≠ k → ancB md ops ops.size k i = true) ∧ ∀ w, Ext w0 w → (∀ d, facts d w) → wpOp P ops Q k (Q .normal) a w
    | .bar => (∀ i, i < ops.size → i ≠ k → (ancB md ops ops.size k i = true ∨ ((ord.takeWhile (· != k)).contains i = true ∧ (tab i).isStill = true)) ∨ ancB md ops ops.size i k = true) ∧
        ∀ w, Ext w0 w → (∀ d, facts d w) → opTo P ops o a w (fun u w' => Keep X w w' ∧ K w' (fun _ _ => True) (a.put o.dst u))

/-- THE WALK, in the order rest. -/
def wpFlow (ord : List Nat) (X : Nat → Obj → Prop) (P : Program) (ops : Array Oper) (md : Region.Mode) (tab : Nat → Kind) (Q : Exit → Act → World → Prop) : List Nat → World → (Nat → World → Prop) → Act → Prop
  | [], w0, facts, a => ∀ w, Ext w0 w → (∀ d, facts d w) → Q .normal a w
  | k :: rest, w0, facts, a => flowOp ord X P ops md w0 tab Q k (fun w0 facts a => wpFlow ord X P ops md tab Q rest w0 facts a) facts a

/-- Whatever order is picked from here on. -/
def anyFlow (ord : List Nat) (X : Nat → Obj → Prop) (P : Program) (ops : Array Oper) (md : Region.Mode) (tab : Nat → Kind) (Q : Exit → Act → World → Prop) : Nat → Array Bool → World → (Nat → World → Prop) → Act → Prop
  | 0, listed, w0, facts, a => Region.ready md ops listed = [] ∧ ∀ w, Ext w0 w → (∀ d, facts d w) → Q .normal a w
  | n + 1, listed, w0, facts, a => (Region.ready md ops listed = [] → ∀ w, Ext w0 w → (∀ d, facts d w) → Q .normal a w) ∧
      ∀ i ∈ Region.ready md ops listed, flowOp ord X P ops md w0 tab Q i (anyFlow ord X P ops md tab Q n (listed.setIfInBounds i true)) facts a

variable {tab : Nat → Kind} {Q : Exit → Act → World → Prop}

theorem opTo_mono {o : Oper} {a : Act} {w : World} {T T' : Value → World → Prop} (h : ∀ u w', T u w' → T' u w') (hh : opTo P ops o a w T) : opTo P ops o a w T' := by
  unfold opTo at *
  split
  · rename_i hw
    rw [if_pos hw] at hh
    generalize (execOp a.eval o).run P w = r at *
    cases r with
    | ok n w' =>
      cases n <;> simp only [givesVal] at hh ⊢ <;> first
        | exact h _ _ hh
        | exact Calls.mono hh (fun e w'' ⟨u, he, hT⟩ => ⟨u, he, h _ _ hT⟩)
        | exact Rows.mono hh (fun u w'' hT => h _ _ hT)
        | exact RoundIn.mono hh (fun e w'' ⟨u, he, hT⟩ => ⟨u, he, h _ _ hT⟩)
    | halt x w' => simp only [givesVal] at hh
  · rename_i hw
    rw [if_neg hw] at hh
    exact h _ _ hh

theorem flowOp_mono {k : Nat} {K K' : World → (Nat → World → Prop) → Act → Prop} {facts : Nat → World → Prop} {a : Act} (h : ∀ w f a, K w f a → K' w f a) (hh : flowOp ord X P ops md w0 tab Q k K facts a) : flowOp ord X P ops md w0 tab Q k K' facts a := by
  unfold flowOp at *
  split at hh
  · exact hh
  · split at hh
    · obtain ⟨v, h1, h2⟩ := hh; exact ⟨v, h1, h _ _ _ h2⟩
    · obtain ⟨v, h1, h2⟩ := hh; exact ⟨v, h1, h _ _ _ h2⟩
    · exact ⟨hh.1, hh.2.1, hh.2.2.1, hh.2.2.2.1, fun v hv => h _ _ _ (hh.2.2.2.2 v hv)⟩
    · exact hh
    · exact ⟨hh.1, fun w hE hf => opTo_mono (fun _ _ h' => ⟨h'.1, h _ _ _ h'.2⟩) (hh.2 w hE hf)⟩


theorem opTo_of_opIs {o : Oper} {a : Act} {w : World} {v : Value} (h : opIs P ops o a w v) : opTo P ops o a w (fun u w' => u = v ∧ w' = w) := by
  unfold opIs at h
  unfold opTo
  split at h
  · rename_i hw
    rw [if_pos hw]
    rcases h with h | ⟨h, rfl⟩
    · rw [h]; exact ⟨rfl, rfl⟩
    · rw [h]; exact ⟨rfl, rfl⟩
  · rename_i hw
    rw [if_neg hw]
    exact ⟨h.symm, rfl⟩

theorem opTo_put {o : Oper} (hs : ∀ cs b, o.op ≠ .select cs b) {a : Act} {dst : Option Tmp} {v : Value} (h : ∀ d, dst = some d → d ∉ o.looksAt ops) {w : World} {T : Value → World → Prop} :
    opTo P ops o (a.put dst v) w T ↔ opTo P ops o a w T := by
  unfold opTo
  rw [execOp_put o hs a dst v h, wanted_put o a dst v h]
theorem opIs_put {o : Oper} (hs : ∀ cs b, o.op ≠ .select cs b) {a : Act} {dst : Option Tmp} {v : Value} (h : ∀ d, dst = some d → d ∉ o.looksAt ops) {w : World} {u : Value} :
    opIs P ops o (a.put dst v) w u ↔ opIs P ops o a w u := by
  unfold opIs
  rw [execOp_put o hs a dst v h, wanted_put o a dst v h]
theorem upd_comm (facts : Nat → World → Prop) {i j : Nat} (h : i ≠ j) (S T : World → Prop) : upd (upd facts i S) j T = upd (upd facts j T) i S := by
  funext d
  unfold upd
  by_cases h1 : d = j
  · subst h1; rw [if_pos rfl, if_neg (Ne.symm h), if_pos rfl]
  · by_cases h2 : d = i
    · subst h2; simp [h1]
    · simp [h1, h2]

/-- j, apart from i and not waiting for it: i may come behind it as well. -/
theorem flowOp_swap {i j : Nat} {oi oj : Oper} (hi : ops[i]? = some oi) (hj : ops[j]? = some oj) (hij : i ≠ j) (hap : oi.apart ops oj = true)
    (hsi : ∀ cs b, oi.op ≠ .select cs b) (hsj : ∀ cs b, oj.op ≠ .select cs b) (hanc : ancB md ops ops.size j i = false) (hanc' : ancB md ops ops.size i j = false) (hti : tab i ≠ .last) (htb : tab i ≠ .bar)
    {K : World → (Nat → World → Prop) → Act → Prop} {facts : Nat → World → Prop} {a : Act}
    (h : flowOp ord X P ops md w0 tab Q i (fun w0 facts a => flowOp ord X P ops md w0 tab Q j K facts a) facts a) : flowOp ord X P ops md w0 tab Q j (fun w0 facts a => flowOp ord X P ops md w0 tab Q i K facts a) facts a := by
  obtain ⟨h1, h2, h3⟩ := Oper.apart_spec hap
  have ilt : i < ops.size := (Array.getElem?_eq_some_iff.1 hi).1
  have updI : ∀ (S : World → Prop) (w : World), (∀ d, ancB md ops ops.size j d = true → facts d w) → (∀ d, ancB md ops ops.size j d = true → upd facts i S d w) := fun S w hf d hd => by
    unfold upd; rw [if_neg (fun e => by subst e; rw [hanc] at hd; cases hd)]; exact hf d hd
  have updJ : ∀ (S : World → Prop) (w : World), (∀ d, ancB md ops ops.size i d = true → upd facts j S d w) → (∀ d, ancB md ops ops.size i d = true → facts d w) := fun S w hf d hd => by
    have := hf d hd; unfold upd at this; rwa [if_neg (fun e => by subst e; rw [hanc'] at hd; cases hd)] at this
  unfold flowOp at h ⊢
  simp only [hi, hj] at h ⊢
  cases hki : tab i with
  | last => exact absurd hki hti
  | bar => exact absurd hki htb
  | reads =>
    simp only [hki] at h ⊢
    obtain ⟨v, hv, h⟩ := h
    cases hkj : tab j with
    | last => simp only [hkj] at h; have := h.1 i ilt hij; rw [hanc] at this; cases this
    | bar => simp only [hkj] at h; rcases h.1 i ilt hij with (this | this) | this; (rw [hanc] at this; cases this); (rw [hki] at this; cases this.2); (rw [hanc'] at this; cases this)
    | reads =>
      simp only [hkj] at h
      obtain ⟨u, hu, hK⟩ := h
      exact ⟨u, fun w hw => (opIs_put hsj h1).1 (hu w hw), v, fun w hw => (opIs_put hsi h3).2 (hv w hw), by rw [← Act.put_comm a v u h2]; exact hK⟩
    | still =>
      simp only [hkj] at h
      obtain ⟨u, hu, hK⟩ := h
      exact ⟨u, fun w hw => (opIs_put hsj h1).1 (hu w hw), v, fun w hw => (opIs_put hsi h3).2 (hv w hw), by rw [← Act.put_comm a v u h2]; exact hK⟩
    | grows S Sh =>
      simp only [hkj] at h
      obtain ⟨e1, e2, e3, e4, hK⟩ := h
      exact ⟨e1, e2, e3, fun w hw hf => (opTo_put hsj h1).1 (e4 w hw hf), fun u hu => ⟨v, fun w hw => (opIs_put hsi h3).2 (hv w hw), by rw [← Act.put_comm a v u h2]; exact hK u hu⟩⟩
  | still =>
    simp only [hki] at h ⊢
    obtain ⟨v, hv, h⟩ := h
    cases hkj : tab j with
    | last => simp only [hkj] at h; have := h.1 i ilt hij; rw [hanc] at this; cases this
    | bar =>
      simp only [hkj] at h
      refine ⟨h.1, fun w hE hf => opTo_mono (fun u w' hu => ⟨hu.1, v, fun w'' hw'' => (opIs_put hsi h3).2 (hv w'' (((Keep.of_ext hE).trans hu.1).trans hw'')), ?_⟩) ((opTo_put hsj h1).1 (h.2 w hE hf))⟩
      rw [← Act.put_comm a v u h2]
      exact hu.2
    | reads =>
      simp only [hkj] at h
      obtain ⟨u, hu, hK⟩ := h
      exact ⟨u, fun w hw => (opIs_put hsj h1).1 (hu w hw), v, fun w hw => (opIs_put hsi h3).2 (hv w hw), by rw [← Act.put_comm a v u h2]; exact hK⟩
    | still =>
      simp only [hkj] at h
      obtain ⟨u, hu, hK⟩ := h
      exact ⟨u, fun w hw => (opIs_put hsj h1).1 (hu w hw), v, fun w hw => (opIs_put hsi h3).2 (hv w hw), by rw [← Act.put_comm a v u h2]; exact hK⟩
    | grows S Sh =>
      simp only [hkj] at h
      obtain ⟨e1, e2, e3, e4, hK⟩ := h
      exact ⟨e1, e2, e3, fun w hw hf => (opTo_put hsj h1).1 (e4 w hw hf), fun u hu => ⟨v, fun w hw => (opIs_put hsi h3).2 (hv w hw), by rw [← Act.put_comm a v u h2]; exact hK u hu⟩⟩
  | grows Si Shi =>
    simp only [hki] at h ⊢
    obtain ⟨⟨v0, hv0⟩, f2, f3, f4, h⟩ := h
    cases hkj : tab j with
    | last => have h0 := h v0 hv0; simp only [hkj] at h0; have := h0.1 i ilt hij; rw [hanc] at this; cases this
    | bar => have h0 := h v0 hv0; simp only [hkj] at h0; rcases h0.1 i ilt hij with (this | this) | this; (rw [hanc] at this; cases this); (rw [hki] at this; cases this.2); (rw [hanc'] at this; cases this)
    | reads =>
      have h0 := h v0 hv0
      simp only [hkj] at h0
      obtain ⟨u, hu, _⟩ := h0
      refine ⟨u, fun w hw => (opIs_put hsj h1).1 (hu w hw), ⟨v0, hv0⟩, f2, f3, fun w hw hf => (opTo_put hsi h3).2 (f4 w hw hf), fun v hv => ?_⟩
      have h' := h v hv
      simp only [hkj] at h'
      obtain ⟨u', hu', hK⟩ := h'
      obtain rfl : u = u' := opIs_unique ((opIs_put hsj h1).1 (hu w0 (Keep.refl _ _))) ((opIs_put hsj h1).1 (hu' w0 (Keep.refl _ _)))
      rw [← Act.put_comm a v u h2]; exact hK
    | still =>
      have h0 := h v0 hv0
      simp only [hkj] at h0
      obtain ⟨u, hu, _⟩ := h0
      refine ⟨u, fun w hw => (opIs_put hsj h1).1 (hu w hw), ⟨v0, hv0⟩, f2, f3, fun w hw hf => (opTo_put hsi h3).2 (f4 w hw hf), fun v hv => ?_⟩
      have h' := h v hv
      simp only [hkj] at h'
      obtain ⟨u', hu', hK⟩ := h'
      obtain rfl : u = u' := opIs_unique ((opIs_put hsj h1).1 (hu w0 (Keep.refl _ _))) ((opIs_put hsj h1).1 (hu' w0 (Keep.refl _ _)))
      rw [← Act.put_comm a v u h2]; exact hK
    | grows S Sh =>
      have h0 := h v0 hv0
      simp only [hkj] at h0
      obtain ⟨e1, e2, e3, e4, _⟩ := h0
      refine ⟨e1, e2, e3, fun w hw hf => (opTo_put hsj h1).1 (e4 w hw (updI _ w hf)), fun u hu => ⟨⟨v0, hv0⟩, f2, f3, fun w hw hf => (opTo_put hsi h3).2 (f4 w hw (updJ _ w hf)), fun v hv => ?_⟩⟩
      have h' := h v hv
      simp only [hkj] at h'
      have hK := h'.2.2.2.2 u hu
      rw [← Act.put_comm a v u h2, upd_comm facts (Ne.symm hij)]; exact hK

theorem flowOp_some {i : Nat} {K : World → (Nat → World → Prop) → Act → Prop} {facts : Nat → World → Prop} {a : Act} (hti : tab i ≠ .last) (htb : tab i ≠ .bar) (h : flowOp ord X P ops md w0 tab Q i K facts a) : ∃ w f b, K w f b := by
  unfold flowOp at h
  split at h
  · exact h.elim
  · split at h
    · obtain ⟨v, _, h⟩ := h; exact ⟨_, _, _, h⟩
    · obtain ⟨v, _, h⟩ := h; exact ⟨_, _, _, h⟩
    · obtain ⟨⟨v, hv⟩, _, _, _, h⟩ := h; exact ⟨_, _, _, h v hv⟩
    · rename_i hk; exact absurd hk hti
    · rename_i hk; exact absurd hk htb

theorem anc_unlisted {listed : Array Bool} (hc : Closed md ops listed) {i j : Nat} (hr : j ∈ Region.ready md ops listed) (hi : i ∈ Region.ready md ops listed) : ancB md ops ops.size j i = false := by
  cases h : ancB md ops ops.size j i with
  | false => rfl
  | true =>
    obtain ⟨_, oj, hoj, hall⟩ := mem_ready.1 hr
    have hl := closed_anc hc ops.size j i (fun o ho e he hb => by rw [hoj] at ho; cases ho; exact hall e he hb) h
    have hu := (mem_ready.1 hi).1
    have hlt : i < listed.size := by
      rcases Nat.lt_or_ge i listed.size with h' | h'
      · exact h'
      · simp [Array.getElem?_eq_none h'] at hl
    simp [hlt] at hl hu
    rw [hl] at hu; cases hu

theorem anyFlow_first {i : Nat} {oi : Oper} (hi : ops[i]? = some oi) (hsel : ∀ (j : Nat) (o : Oper) cs b, ops[j]? = some o → o.op ≠ .select cs b) (hti : tab i ≠ .last) (htb : tab i ≠ .bar) :
    ∀ (fuel : Nat) (listed : Array Bool) (w0 : World) (facts : Nat → World → Prop) (a : Act), Closed md ops listed →
      (∀ j oj, ops[j]? = some oj → j ≠ i → listed.getD j true = false → (∀ e ∈ oj.after, Region.binds md e = true → e.on ≠ i) → oi.apart ops oj = true) →
      i ∈ Region.ready md ops listed → flowOp ord X P ops md w0 tab Q i (anyFlow ord X P ops md tab Q fuel (listed.setIfInBounds i true)) facts a →
      anyFlow ord X P ops md tab Q (fuel + 1) listed w0 facts a := by
  intro fuel
  induction fuel with
  | zero =>
    intro listed w0 facts a hc _ hr H
    refine ⟨fun h => (by rw [h] at hr; cases hr), fun j hj => ?_⟩
    by_cases hji : j = i
    · subst hji; exact H
    · have := ready_mono hj hji
      obtain ⟨_, f, b, hK⟩ := flowOp_some hti htb H
      rw [hK.1] at this
      cases this
  | succ fuel ih =>
    intro listed w0 facts a hc hfree hr H
    refine ⟨fun h => (by rw [h] at hr; cases hr), fun j hj => ?_⟩
    by_cases hji : j = i
    · subst hji; exact H
    · obtain ⟨hjun, oj, hoj, hall⟩ := mem_ready.1 hj
      have hnot : ∀ e ∈ oj.after, Region.binds md e = true → e.on ≠ i := fun e he hb heq => by
        have h1 := hall e he hb
        have h0 := (mem_ready.1 hr).1
        rw [heq] at h1
        rcases Nat.lt_or_ge i listed.size with h' | h'
        · simp [h'] at h0 h1; rw [h0] at h1; cases h1
        · simp [Array.getElem?_eq_none h'] at h1
      have h1 := flowOp_mono (fun w f b hK => hK.2 j (ready_mono hj hji)) H
      have h2 := flowOp_swap hi hoj (Ne.symm hji) (hfree j oj hoj hji hjun hnot) (fun cs b => hsel i oi cs b hi) (fun cs b => hsel j oj cs b hoj)
        (anc_unlisted hc hj hr) (anc_unlisted hc hr hj) hti htb h1
      have hfree' : ∀ k ok, ops[k]? = some ok → k ≠ i → (listed.setIfInBounds j true).getD k true = false →
          (∀ e ∈ ok.after, Region.binds md e = true → e.on ≠ i) → oi.apart ops ok = true := fun k ok hk hki hun hno => by
        refine hfree k ok hk hki ?_ hno
        by_cases hjk : j = k
        · subst hjk; exact hjun
        · rw [getD_set_ne true hjk] at hun; exact hun
      refine flowOp_mono (fun w f b hK => ih (listed.setIfInBounds j true) w f b (closed_set hc hj) hfree' (ready_mono hr (Ne.symm hji)) ?_) h2
      rw [Array.setIfInBounds_comm _ _ hji]
      exact hK

theorem mem_ahead {k j : Nat} : ∀ {pre rest : List Nat}, j ∈ (pre ++ k :: rest).takeWhile (· != k) → j ∈ pre
  | [], rest, h => by simp at h
  | p :: pre, rest, h => by
    rw [List.cons_append, List.takeWhile_cons] at h
    split at h
    · rcases List.mem_cons.1 h with rfl | h
      · exact List.mem_cons_self
      · exact List.mem_cons_of_mem _ (mem_ahead h)
    · cases h

/-- Whether the order ord is one: each in its turn waits for none, and what waits not for it is apart from it. -/
def ordFrom (md : Region.Mode) (ops : Array Oper) : List Nat → Array Bool → Bool
  | [], listed => (Region.ready md ops listed).isEmpty
  | k :: rest, listed => (Region.ready md ops listed).contains k && Region.free md ops listed k && ordFrom md ops rest (listed.setIfInBounds k true)
def ordB (md : Region.Mode) (ops : Array Oper) (ord : List Nat) : Bool := Region.noSelect ops && (ord.length == ops.size) && ordFrom md ops ord (Array.replicate ops.size false)

theorem anyFlow_ord (hs : Region.noSelect ops = true) : ∀ (pre rest : List Nat) (listed : Array Bool) (w0 : World) (facts : Nat → World → Prop) (a : Act), ord = pre ++ rest → Closed md ops listed → (∀ m, m ∈ pre → listed.getD m true = true) →
    ordFrom md ops rest listed = true → wpFlow ord X P ops md tab Q rest w0 facts a → anyFlow ord X P ops md tab Q rest.length listed w0 facts a
  | _, [], _, _, _, _, _, _, _, hB, h => ⟨by simpa [ordFrom] using hB, h⟩
  | pre, k :: rest, listed, w0, facts, a, hk, hc, hls, hB, h => by
    have hls' : ∀ m, m ∈ pre ++ [k] → (listed.setIfInBounds k true).getD m true = true := fun m hm => by
      by_cases hmk : m = k
      · subst hmk
        by_cases hb : m < listed.size
        · simp [hb]
        · simp [hb]
      · rw [getD_set_ne true (Ne.symm hmk)]
        refine hls m ?_
        rcases List.mem_append.1 hm with h' | h'
        · exact h'
        · exact absurd (List.mem_singleton.1 h') hmk
    simp only [ordFrom, Bool.and_eq_true] at hB
    obtain ⟨⟨hr, hf⟩, hB'⟩ := hB
    have hr' : k ∈ Region.ready md ops listed := by simpa using hr
    obtain ⟨_, ok, h0, _⟩ := mem_ready.1 hr'
    have hk' : ord = (pre ++ [k]) ++ rest := by rw [hk]; simp
    by_cases hl : tab k = .last
    · have h' := h
      unfold wpFlow flowOp at h'
      simp only [h0, hl] at h'
      refine ⟨fun e => (by rw [e] at hr'; cases hr'), fun j hj => ?_⟩
      by_cases hjk : j = k
      · subst hjk
        unfold flowOp
        simp only [h0, hl]
        exact h'
      · obtain ⟨_, oj, hoj, _⟩ := mem_ready.1 hj
        have := h'.1 j (Array.getElem?_eq_some_iff.1 hoj).1 hjk
        rw [anc_unlisted hc hr' hj] at this
        cases this
    · by_cases hb : tab k = .bar
      · have h' := h
        unfold wpFlow at h'
        have hbar : ∀ i, i < ops.size → i ≠ k → (ancB md ops ops.size k i = true ∨ ((ord.takeWhile (· != k)).contains i = true ∧ (tab i).isStill = true)) ∨ ancB md ops ops.size i k = true := by
          unfold flowOp at h'
          simp only [h0, hb] at h'
          exact h'.1
        refine ⟨fun e => (by rw [e] at hr'; cases hr'), fun j hj => ?_⟩
        by_cases hjk : j = k
        · subst hjk
          exact flowOp_mono (fun w f b hK => anyFlow_ord hs (pre ++ [j]) rest _ w f b hk' (closed_set hc hr') hls' hB' hK) h'
        · obtain ⟨hju, oj, hoj, _⟩ := mem_ready.1 hj
          rcases hbar j (Array.getElem?_eq_some_iff.1 hoj).1 hjk with (this | this) | this
          · rw [anc_unlisted hc hr' hj] at this
            cases this
          · have hm : j ∈ ord.takeWhile (· != k) := by simpa using this.1
            rw [hk] at hm
            rw [hls j (mem_ahead hm)] at hju; cases hju
          · rw [anc_unlisted hc hj hr'] at this
            cases this
      · exact anyFlow_first h0 (Region.noSelect_spec hs) hl hb rest.length listed w0 facts a hc (Region.free_spec h0 hf) hr'
          (flowOp_mono (fun w f b hK => anyFlow_ord hs (pre ++ [k]) rest _ w f b hk' (closed_set hc hr') hls' hB' hK) h)

theorem noCall_run {o : Oper} {ρ : Operand → Value} {w w' : World} {f : FuncId} {args : Array Value} (h : noCall o = true) : (execOp ρ o).run P w ≠ .ok (.enter f args) w' := by
  have hv : ∀ (s : Sem Value), ((do pure (Next.value (← s)) : Sem Next)).run P w ≠ .ok (.enter f args) w' := fun s e => by
    rw [Sem.run_bind] at e
    cases hs : s.run P w with
    | ok a w1 => rw [hs] at e; simp [Result.andThen] at e
    | halt x w1 => rw [hs] at e; simp [Result.andThen] at e
  have hu : ∀ (s : Sem Unit), ((do s; pure Next.skip : Sem Next)).run P w ≠ .ok (.enter f args) w' := fun s e => by
    rw [Sem.run_bind] at e
    cases hs : s.run P w with
    | ok a w1 => rw [hs] at e; simp [Result.andThen] at e
    | halt x w1 => rw [hs] at e; simp [Result.andThen] at e
  have hb : ∀ (s : Sem Bool) (x y : Value), ((do pure (Next.value (if ← s then x else y)) : Sem Next)).run P w ≠ .ok (.enter f args) w' := fun s x y e => by
    rw [Sem.run_bind] at e
    cases hs : s.run P w with
    | ok a w1 => rw [hs] at e; simp [Result.andThen] at e
    | halt x w1 => rw [hs] at e; simp [Result.andThen] at e
  by_cases hnc : ∃ x, o.op = .nilCheck x
  · obtain ⟨x, hx⟩ := hnc
    unfold execOp
    simp only [hx]
    split <;> try (intro e; cases e; done)
    split <;> try (intro e; cases e; done)
    rename_i name first captured _ _ t v _
    intro e
    simp only [Sem.run_bind] at e
    cases hs : (program : Sem Program).run P w with
    | halt y w1 => rw [hs] at e; simp [Result.andThen] at e
    | ok p w1 =>
      rw [hs] at e
      simp only [Result.andThen] at e
      cases hs2 : (nilAhead (p.types.size + Made.depth) t v name).run P w1 with
      | halt y w2 => rw [hs2] at e; simp at e
      | ok q w2 =>
        rw [hs2] at e
        simp only at e
        split at e <;> cases e
  unfold noCall at h
  unfold execOp
  split at h
  · rename_i c hc
    rw [hc]
    split at h
    · rename_i hb
      simp only [resolve, hb]
      intro e
      simp only [Sem.run_bind, Sem.run_pure, Result.andThen, invoke, builtin] at e
      split at e <;> cases e
    · rename_i hb
      simp only [resolve, hb]
      intro e
      simp only [Sem.run_bind, Sem.run_pure, Result.andThen, invoke, builtin] at e
      split at e <;> cases e
    · rename_i hb
      simp only [resolve, hb]
      intro e
      simp only [Sem.run_bind, Sem.run_pure, Result.andThen, invoke, builtin] at e
      split at e <;> cases e
    · rename_i hb
      simp only [resolve, hb]
      intro e
      simp only [Sem.run_bind, Sem.run_pure, Result.andThen, invoke, builtin] at e
      split at e <;> cases e
    · cases h
  all_goals first
    | (cases h; done)
    | skip
  rename_i h1 h2 h3 h4 h5 h6 h7
  cases ho : o.op <;> simp only [] <;> first
    | exact hv _
    | exact hu _
    | exact hb _ _ _
    | (simp only [Sem.run_pure]; intro e; cases e; done)
    | (exact absurd ho (by first | exact h1 _ | exact h2 _ | exact h3 _ | exact h4 _ _ | exact h5 _ _ _ | exact h6 _ _ | exact h7 _ | exact fun e => hnc ⟨_, e⟩))

theorem opIs_of_quiet {o : Oper} {a : Act} {w : World} {v : Value} {C : World → Prop} (hn : noCall o = true) (h : o.quietAt P a C w v) :
    (execOp a.eval o).run P w = .ok (.value v) w ∨ ((execOp a.eval o).run P w = .ok .skip w ∧ v = undef) := by
  unfold Oper.quietAt at h
  generalize hr : (execOp a.eval o).run P w = r at *
  cases r with
  | ok n w' =>
    cases n <;> simp only [Oper.quietUpon] at h
    case value u => obtain ⟨rfl, rfl⟩ := h; exact .inl rfl
    case skip => obtain ⟨rfl, rfl⟩ := h; exact .inr ⟨rfl, rfl⟩
    case enter f args => exact absurd hr (noCall_run hn)
  | halt x w' => simp only [Oper.quietUpon] at h

variable {k : Nat} {facts : Nat → World → Prop} {a : Act} {o : Oper} {rest : List Nat} {tl : List Oper}

theorem at_of_drop (h : ops.toList.drop k = o :: tl) : ops[k]? = some o := by
  have := congrArg (fun l : List Oper => l[0]?) h
  simpa using this

theorem flows_cons (h : flowOp ord X P ops md w0 tab Q k (fun w0 facts a => wpFlow ord X P ops md tab Q rest w0 facts a) facts a) : wpFlow ord X P ops md tab Q (k :: rest) w0 facts a := h

theorem flow_r (hk0 : ops.toList.drop k = o :: tl) (ht : tab k = .reads) (hn : noCall o = true)
    (h : wpQuiet P ops (fun w => ∃ g : At (fun _ _ => False) w0, w = g.w) (fun a' => wpFlow ord X P ops md tab Q rest w0 facts a') [o] a) : wpFlow ord X P ops md tab Q (k :: rest) w0 facts a := by
  have hk := at_of_drop hk0
  refine flows_cons ?_
  unfold flowOp
  simp only [hk, ht]
  unfold wpQuiet at h
  split at h
  · rename_i hw
    obtain ⟨v, h1, h2⟩ := h
    exact ⟨v, fun w hE => by unfold opIs; rw [if_pos hw]; exact opIs_of_quiet hn (h1 w ⟨⟨w, hE⟩, rfl⟩), h2⟩
  · rename_i hw
    exact ⟨undef, fun w hE => by unfold opIs; rw [if_neg hw], h⟩








theorem flow_end (h : ∀ w, Ext w0 w → (∀ d, facts d w) → Q .normal a w) : wpFlow ord X P ops md tab Q [] w0 facts a := h

/-! The same in a round of a loop over an iterator. -/
def noDefer (ops : Array Oper) : Bool := ops.all fun o => match o.op with | .defer _ => false | _ => true
theorem noDefer_spec (h : noDefer ops = true) {j : Nat} {o : Oper} (ho : ops[j]? = some o) : ∀ c, o.op ≠ .defer c := fun c hc => by
  have := Array.all_eq_true_iff_forall_mem.1 h o (Array.mem_of_getElem? ho)
  simp [hc] at this
theorem wpIn_of_gives {n : Nat} {o : Oper} {a : Act} {w : World} {T : Value → World → Prop} {K : Act → World → Prop} {Q' : Exit → Act → World → Prop} (hnd : ∀ c, o.op ≠ .defer c) (h : ∀ v w', T v w' → K (a.put o.dst v) w')
    (hh : givesVal P T ((execOp a.eval o).run P w)) : o.wpIn Fence.wide n P a w K Q' := by
  unfold Oper.wpIn
  refine ⟨fun f _ => trivial, ?_⟩
  rw [Oper.semAt_plain Fence.wide _ _ hnd]
  generalize (execOp a.eval o).run P w = r at *
  cases r with
  | ok x w' =>
    cases x <;> simp only [givesVal] at hh <;> simp only [Oper.uponIn]
    · exact h _ _ hh
    · exact h _ _ hh
    · exact ⟨fun h => by simp [Fence.wide] at h, callsIn_wide.2 (Calls.mono hh (fun e w'' ⟨u, he, hT⟩ => by subst he; exact h _ _ hT))⟩
    · exact ⟨fun h => by simp [Fence.wide] at h, RoundIn.mono (roundIn_wide hh) (fun e w'' ⟨u, he, hT⟩ => by subst he; exact h _ _ hT)⟩
    · exact ⟨fun h => by simp [Fence.wide] at h, fun c cs _ => by
        obtain ⟨v, w'', hT, hs⟩ := hh c cs
        exact ⟨v, w'', h _ _ hT, stepsIn_wide.2 hs⟩⟩
  | halt x w' => cases x <;> simp only [givesVal] at hh
end

section
variable {P : Program} {ops : Array Oper} {md : Region.Mode} {w0 : World} {X : Nat → Obj → Prop} {ord : List Nat} {tab : Nat → Kind} {Q : Exit → Act → World → Prop}
theorem wpOpIn_of_opTo {n i : Nat} {o : Oper} (ho : ops[i]? = some o) (hnd : ∀ c, o.op ≠ .defer c) {a : Act} {w : World} {T : Value → World → Prop} {K : Act → World → Prop} (h : opTo P ops o a w T) (hK : ∀ v w', T v w' → K (a.put o.dst v) w') :
    wpOpIn Fence.wide n P ops Q i K a w := by
  unfold wpOpIn
  simp only [ho]
  unfold opTo at h
  split
  · rename_i hw; rw [if_pos hw] at h
    exact wpIn_of_gives hnd hK h
  · rename_i hw; rw [if_neg hw] at h
    exact ⟨fun _ _ => trivial, hK _ _ h⟩

theorem wpAnyIn_of_flow {m : Nat} (hnd : noDefer ops = true) (hnl : ∀ k, tab k ≠ .last) : ∀ (n : Nat) (listed : Array Bool) (w0 : World) (facts : Nat → World → Prop) (a : Act) (w : World), Closed md ops listed → (∀ d w w', facts d w → Ext w w' → facts d w') → Ext w0 w → (∀ d, facts d w) →
    anyFlow ord X P ops md tab Q n listed w0 facts a → wpAnyIn Fence.wide m P md ops Q n listed a w
  | 0, _, _, _, _, w, _, _, hw, hf, h => ⟨h.1, h.2 w hw hf⟩
  | n + 1, listed, w0, facts, a, w, hc, hst, hw, hf, h => ⟨fun h0 => h.1 h0 w hw hf, fun i hi => by
    have h1 := h.2 i hi
    unfold flowOp at h1
    split at h1
    · exact h1.elim
    · rename_i o ho
      have hd := noDefer_spec hnd ho
      split at h1
      · obtain ⟨v, hv, hK⟩ := h1
        refine wpOpIn_of_opTo ho hd (opTo_of_opIs (hv w hw)) ?_
        rintro u w' ⟨rfl, rfl⟩
        exact wpAnyIn_of_flow hnd hnl n _ w0 facts _ _ (closed_set hc hi) hst hw hf hK
      · obtain ⟨v, hv, hK⟩ := h1
        refine wpOpIn_of_opTo ho hd (opTo_of_opIs (hv w (Keep.of_ext hw))) ?_
        rintro u w' ⟨rfl, rfl⟩
        exact wpAnyIn_of_flow hnd hnl n _ w0 facts _ _ (closed_set hc hi) hst hw hf hK
      · rename_i S Sh _
        obtain ⟨_, hS, hSh, hop, hK⟩ := h1
        refine wpOpIn_of_opTo ho hd (hop w hw (fun d _ => hf d)) ?_
        rintro u w' ⟨hE, hu⟩
        refine wpAnyIn_of_flow hnd hnl n _ w0 _ _ _ (closed_set hc hi) ?_ (hw.trans hE) ?_ (hK u (hSh _ _ hu))
        · intro d w1 w2 h12 hE12
          unfold upd at *
          split at h12
          · rename_i hd; rw [if_pos hd]; exact hS _ _ _ h12 hE12
          · rename_i hd; rw [if_neg hd]; exact hst d w1 w2 h12 hE12
        · intro d
          unfold upd
          split
          · exact hu
          · exact hst d w w' (hf d) hE
      · rename_i hk; exact absurd hk (hnl i)
      · refine wpOpIn_of_opTo ho hd (h1.2 w hw hf) ?_
        intro u w' hb
        exact wpAnyIn_of_flow hnd hnl n _ w' _ _ _ (closed_set hc hi) (fun _ _ _ _ _ => trivial) (Keep.refl _ _) (fun _ => trivial) hb.2⟩

theorem wpIn_flow {id m : Nat} {a : Act} {w : World} (ord : List Nat) (tab : Nat → Kind) (hnl : ∀ k, tab k ≠ .last) (hm : P.follows .mixedOrders = true) (hnd : noDefer ops = true) (hB : ordB .any ops ord = true)
    (h : wpFlow ord X P ops .any tab Q ord w.drew (fun _ _ => True) a) : (Code.region id ops true).wpIn Fence.wide m P Q a w := by
  simp only [ordB, Bool.and_eq_true, beq_iff_eq] at hB
  refine wpIn_region_any hm ?_
  have h1 := anyFlow_ord hB.1.1 [] ord (Array.replicate ops.size false) w.drew (fun _ _ => True) a rfl (by
    intro j o ho hl
    simp [Array.getElem?_replicate] at hl
    split at hl <;> simp at hl) (fun m hm => by cases hm) hB.2 h
  rw [hB.1.2] at h1
  exact wpAnyIn_of_flow hnd hnl ops.size _ _ _ a _ (by
    intro j o ho hl
    simp [Array.getElem?_replicate] at hl
    split at hl <;> simp at hl) (fun _ _ _ _ _ => trivial) (Keep.refl _ _) (fun _ => trivial) h1

/-- A reading operation whose run is given. -/
theorem flow_v {k : Nat} {facts : Nat → World → Prop} {a : Act} {o : Oper} {rest : List Nat} {tl : List Oper} {v : Value} (hk0 : ops.toList.drop k = o :: tl) (ht : tab k = .reads) (hw : Region.wanted o (yielded ops a.tmps) = true) (h1 : ∀ w, Ext w0 w → (execOp a.eval o).run P w = .ok (.value v) w)
    (h : wpFlow ord X P ops md tab Q rest w0 facts (a.put o.dst v)) : wpFlow ord X P ops md tab Q (k :: rest) w0 facts a := by
  have hk := at_of_drop hk0
  refine flows_cons ?_
  unfold flowOp
  simp only [hk, ht]
  exact ⟨v, fun w hE => by unfold opIs; rw [if_pos hw]; exact .inl (h1 w hE), h⟩

end

end Go.Proofs.YtcmhgpgookiomaaGreat.FR
namespace Go.Proofs.YtcmhgpgookiomaaGreat
open Go.RowKit Go.Shelf

/-- What a round may turn, and the loop's own record. -/
abbrev loopY (Y : Nat → Obj → Prop) : Nat → Obj → Prop := fun b o => Y b o ∨ ∃ r, o = .loop r

/-- What the loop's book-keeping turns. -/
abbrev markR (B : Nat) : Nat → Obj → Prop := fun b o => B ≤ b ∧ ∃ r, o = .loop r

def IterR (P : Program) (gf : Nat) (lb : Array Value) (N : Nat) (E : Nat → Value) (Inv : World → Prop) (Y : Nat → Obj → Prop) (Pre : World → Prop) : Prop :=
  ∀ (l : Nat) (J Jx : Nat → World → Prop) (W : World), Pre W → (∀ k A B, J k A → Ext A B → J k B) → (∀ k A, J k A → Inv A) →
    (∀ k A, k < N → J k A → YieldAt Fence.wide 0 P l #[E k] A fun e B =>
      (e = .returned (.bool true) ∧ J (k + 1) B ∧ Keep (loopY Y) A B) ∨ (e = .returned (.bool false) ∧ Jx k B)) →
    J 0 W → Calls P gf (#[.func (.yield l) #[] #[]] ++ lb) W fun e B => (∃ v, e = .returned v) ∧ (J N B ∨ ∃ k, k < N ∧ Jx k B)

/-- The variables of the loop are set (a', A1); what is left of the round. -/
def StartedR (P : Program) (l n : Nat) (B : Nat) (Y : Nat → Obj → Prop) (KN : World → World → Prop) (KX : Code → World → World → Prop) (body : Code) (A : World) (a' : Act) (A1 : World) : Prop :=
  Keep Y A A1 ∧ ∀ C, Keep (markR B) A1 C → body.wpIn (Fence.wide.inRound l) n P (roundQ (KN C) (fun c => KX c C)) a' C

/-- A loop over such an iterator, in the code of an activation (not in a round). -/
theorem rangeR_outer {P : Program} {n : Nat} {g : Operand} {ps : Array Tmp} {assign body : Code} {Q : Exit → Act → World → Prop} {a : Act} {w : World}
    {gf : Nat} {lb : Array Value} {N : Nat} {E : Nat → Value} {Inv : World → Prop} {Y : Nat → Obj → Prop} {Pre : World → Prop}
    (hg : a.eval g = .func (.func gf) #[] lb) (eg : ∀ args w, (callFunc gf args).run P w = .ok (.enter gf args) w)
    (hit : IterR P gf lb N E Inv Y Pre) (hps : ps.size = 1) (hY1 : ∀ b r, ¬ Y b (.loop r)) (hY2 : ∀ b d, ¬ Y b (.deferred d)) (hPre : ∀ A, Ext w A → Pre A)
    (I : Nat → World → Prop) (Ix : Nat → Code → World → Prop)
    (hI : ∀ k A B, I k A → Keep (markR w.heap.size) A B → I k B)
    (hIx : ∀ k c A B, Ix k c A → Keep (markR w.heap.size) A B → Ix k c B)
    (hInv : ∀ k A, I k A → Inv A) (h0 : I 0 w)
    (hround : ∀ (l k : Nat) (A : World) (KN : World → World → Prop) (KX : Code → World → World → Prop), k < N → I k A →
      (∀ C D, Keep Y C D → I (k + 1) D → KN C D) → (∀ c C D, Keep Y C D → Ix k c D → KX c C D) →
      assign.wpIn (Fence.wide.inRound l) n P (Exit.then (StartedR P l n w.heap.size Y KN KX body A) (fun _ _ _ => False)) { tmps := (ps.zip #[E k]).foldl (fun t (p, v) => t.setIfInBounds p v) a.tmps, defers := [] } A)
    (hdone : ∀ (D : Nat) (A : World), w.heap.size ≤ D → I N A → A.heap[D]? = some (.deferred (some [])) → Q .normal { a with defers := { target := .collected D, args := #[] } :: a.defers } A)
    (hstop : ∀ (D : Nat) (c : Code) (k : Nat) (A : World), w.heap.size ≤ D → k < N → Ix k c A → A.heap[D]? = some (.deferred (some [])) → c.wpIn Fence.wide n P Q { a with defers := { target := .collected D, args := #[] } :: a.defers } A) :
    (Code.rangeFunc g ps assign body).wpIn Fence.wide n P Q a w := by
  refine wpIn_rangeFunc ?_
  intro fn _
  have hro : Fence.wide.round = none := rfl
  rw [hro]
  obtain ⟨rec, hrec⟩ : ∃ rec : LoopState → Option Code → Loop, rec = fun st pe => { state := st, pending := pe, fn, tmps := a.tmps, params := ps, assign, body, defers := w.heap.size } := ⟨_, rfl⟩
  obtain ⟨W1, hW1⟩ : ∃ W1, (w.alloc (.deferred (some []))).alloc (.loop (rec .ready none)) = W1 := ⟨_, rfl⟩
  have hL1 : W1.heap[w.heap.size + 1]? = some (.loop (rec .ready none)) := by
    rw [← hW1]; have := World.alloc_heap_new (w.alloc (.deferred (some []))) (.loop (rec .ready none)); rwa [World.size_alloc] at this
  have hK1 : W1.heap[w.heap.size]? = some (.deferred (some [])) := by
    rw [← hW1]; exact (Below.heap_alloc _ _ _ (by simp)).trans (World.alloc_heap_new w _)
  have hE1 : Ext w W1 := by rw [← hW1]; exact ((Keep.refl _ w).alloc _).alloc _
  have hI1 : I 0 W1 := hI _ _ _ h0 (Keep.of_ext hE1)
  have stayL : ∀ {A B : World} {k : Nat} {r : Loop}, Keep Y A B → A.heap[k]? = some (.loop r) → B.heap[k]? = some (.loop r) :=
    fun h ho => h.block _ _ ho (hY1 _ _)
  have stayD : ∀ {A B : World} {k : Nat} {d : Option (List Deferred)}, Keep Y A B → A.heap[k]? = some (.deferred d) → B.heap[k]? = some (.deferred d) :=
    fun h ho => h.block _ _ ho (hY2 _ _)
  have put : ∀ {A : World} {l : Nat} {r : Loop} (o' : Obj), w.heap.size ≤ l → A.heap[l]? = some (.loop r) → Keep (markR w.heap.size) A (A.putObj l o') :=
    fun o' hl ho => (Keep.refl _ _).putObj _ _ (fun o2 h2 => by rw [ho] at h2; cases h2; exact ⟨hl, _, rfl⟩)
  have putZ : ∀ {A : World} {l : Nat} {r : Loop} (o' : Obj), A.heap[l]? = some (.loop r) → Keep (loopY Y) A (A.putObj l o') :=
    fun o' ho => (Keep.refl _ _).putObj _ _ (fun o2 h2 => by rw [ho] at h2; cases h2; exact .inr ⟨_, rfl⟩)
  have rz : ∀ {A B : World}, Keep Y A B → Keep (loopY Y) A B := fun h => h.mono (fun _ _ _ hx => .inl hx)
  have tt : ∀ {A B : World}, Ext A B → Keep (markR w.heap.size) A B := fun h => Keep.of_ext h
  refine ⟨w.heap.size + 1, [{ target := .collected w.heap.size, args := #[] }], W1, { target := .fn (.func gf) lb, args := #[.func (.yield (w.heap.size + 1)) #[] #[]] }, W1, gf,
    #[.func (.yield (w.heap.size + 1)) #[] #[]] ++ lb, W1, ?_, ?_, ?_, ?_, fun h => by simp [Fence.wide] at h, ?_⟩
  · rw [← hW1, hrec]; exact run_enterLoop_outer _ _ _ _ _
  · simp only [resolve, hg]
    simp [go_sem]
  · intro f' _; trivial
  · simp [invoke, go_sem, eg]
  · refine callsIn_wide.2 ((hit (w.heap.size + 1)
      (fun k A => I k A ∧ A.heap[w.heap.size + 1]? = some (.loop (rec .ready none)) ∧ A.heap[w.heap.size]? = some (.deferred (some [])))
      (fun k A => ∃ c, Ix k c A ∧ A.heap[w.heap.size + 1]? = some (.loop (rec .done (some c))) ∧ A.heap[w.heap.size]? = some (.deferred (some [])))
      W1 (hPre _ hE1)
      (fun k A B hs hk => ⟨hI k A B hs.1 (tt hk), hk.block _ _ hs.2.1 (fun h => h), hk.block _ _ hs.2.2 (fun h => h)⟩)
      (fun k A hs => hInv k A hs.1)
      ?_ ⟨hI1, hL1, hK1⟩).mono ?_)
    · rintro k A hk ⟨hi, hl, hd⟩
      have hy := run_yield (P := P) (args := #[E k]) hl (by rw [hrec]; exact hps.symm)
      rw [hrec] at hy
      refine ⟨fn, _, assign, body, hy, roundIn_wide (roundIn_of_wpIn (n := n) trivial (wpIn_mono (hround _ k A (fun C D => Keep Y C D ∧ I (k + 1) D) (fun c C D => Keep Y C D ∧ Ix k c D) hk hi (fun _ _ h h' => ⟨h, h'⟩) (fun _ _ _ h h' => ⟨h, h'⟩)) ?_))⟩
      clear hy
      intro e0 a' B he0
      cases e0 with
      | normal => ?_
      | _ => exact he0.elim
      obtain ⟨hkB, hbody⟩ := he0
      replace hl := stayL hkB hl
      replace hd := stayD hkB hd
      have hlt : w.heap.size + 1 < B.heap.size := Keep.lt hl
      refine ⟨_, run_beginRound hl (by rw [hrec]), ?_⟩
      have hl2 : (B.putObj (w.heap.size + 1) (.loop { rec .ready none with state := .busy })).heap[w.heap.size + 1]? = some (.loop { rec .ready none with state := .busy }) := World.putObj_heap_same hlt
      have hd2 : (B.putObj (w.heap.size + 1) (.loop { rec .ready none with state := .busy })).heap[w.heap.size]? = some (.deferred (some [])) := (World.putObj_heap_other (by omega)).trans hd
      have hz2 := putZ (A := B) (.loop { rec .ready none with state := .busy }) hl
      refine wpIn_mono (hbody _ (put _ (by omega) hl)) ?_
      have fin : ∀ (jump : Option Code) (W3 : World), Keep Y (B.putObj (w.heap.size + 1) (.loop { rec .ready none with state := .busy })) W3 →
          (Instr.endRound (w.heap.size + 1) jump).run P W3 = .ok (.bool jump.isNone) (W3.putObj (w.heap.size + 1) (.loop (rec (if jump.isNone then .ready else .done) jump))) ∧
          W3.heap[w.heap.size + 1]? = some (.loop { rec .ready none with state := .busy }) ∧
          (W3.putObj (w.heap.size + 1) (.loop (rec (if jump.isNone then .ready else .done) jump))).heap[w.heap.size + 1]? = some (.loop (rec (if jump.isNone then .ready else .done) jump)) ∧
          (W3.putObj (w.heap.size + 1) (.loop (rec (if jump.isNone then .ready else .done) jump))).heap[w.heap.size]? = some (.deferred (some [])) := fun jump W3 hk3 => by
        have hl3 := stayL hk3 hl2
        have hd3 := stayD hk3 hd2
        have := run_endRound (P := P) jump hl3
        rw [hrec] at this ⊢
        exact ⟨this, by rw [hrec] at hl3; exact hl3, World.putObj_heap_same (Keep.lt hl3), (World.putObj_heap_other (by omega)).trans hd3⟩
      rintro e a3 W3 hp
      cases e with
      | normal =>
        obtain ⟨hk3, hi3⟩ := hp
        obtain ⟨hr, hl3, hl4, hd4⟩ := fin none W3 hk3
        exact ⟨_, _, hr, .inl ⟨rfl, ⟨hI _ _ _ hi3 (put _ (by omega) hl3), hl4, hd4⟩, (((rz hkB).trans hz2).trans (rz hk3)).trans (putZ _ hl3)⟩⟩
      | ret =>
        obtain ⟨hk3, hi3⟩ := hp
        obtain ⟨hr, hl3, hl4, hd4⟩ := fin (some .ret) W3 hk3
        exact ⟨_, _, hr, .inr ⟨rfl, .ret, hIx _ _ _ _ hi3 (put _ (by omega) hl3), hl4, hd4⟩⟩
      | exit id =>
        obtain ⟨hk3, hi3⟩ := hp
        obtain ⟨hr, hl3, hl4, hd4⟩ := fin (some (.exit id)) W3 hk3
        exact ⟨_, _, hr, .inr ⟨rfl, .exit id, hIx _ _ _ _ hi3 (put _ (by omega) hl3), hl4, hd4⟩⟩
      | goto t =>
        obtain ⟨hk3, hi3⟩ := hp
        obtain ⟨hr, hl3, hl4, hd4⟩ := fin (some (.goto t)) W3 hk3
        exact ⟨_, _, hr, .inr ⟨rfl, .goto t, hIx _ _ _ _ hi3 (put _ (by omega) hl3), hl4, hd4⟩⟩
      | panic ch => exact hp.elim
      | outgrown => exact hp.elim
    · rintro e W2 ⟨⟨v, rfl⟩, (⟨hi, hl, hd⟩ | ⟨k, hk, c, hi, hl, hd⟩)⟩
      · exact ⟨none, _, by have := run_endLoop (P := P) hl (by rw [hrec]; simp); rw [hrec] at this; exact this, hdone _ _ (Nat.le_refl _) (hI _ _ _ hi (put _ (by omega) hl)) ((World.putObj_heap_other (by omega)).trans hd)⟩
      · exact ⟨some c, _, by have := run_endLoop (P := P) hl (by rw [hrec]; simp); rw [hrec] at this; exact this, hstop _ c k _ (Nat.le_refl _) hk (hIx _ _ _ _ hi (put _ (by omega) hl)) ((World.putObj_heap_other (by omega)).trans hd)⟩

/-- The same for the plain walk. -/
theorem rangeR_wp {P : Program} {g : Operand} {ps : Array Tmp} {assign body : Code} {Q : Exit → Act → World → Prop} {a : Act} {w : World}
    {gf : Nat} {lb : Array Value} {N : Nat} {E : Nat → Value} {Inv : World → Prop} {Y : Nat → Obj → Prop} {Pre : World → Prop}
    (hg : a.eval g = .func (.func gf) #[] lb) (eg : ∀ args w, (callFunc gf args).run P w = .ok (.enter gf args) w)
    (hit : IterR P gf lb N E Inv Y Pre) (hps : ps.size = 1) (hY1 : ∀ b r, ¬ Y b (.loop r)) (hY2 : ∀ b d, ¬ Y b (.deferred d)) (hPre : ∀ A, Ext w A → Pre A)
    (I : Nat → World → Prop) (Ix : Nat → Code → World → Prop)
    (hI : ∀ k A B, I k A → Keep (markR w.heap.size) A B → I k B)
    (hIx : ∀ k c A B, Ix k c A → Keep (markR w.heap.size) A B → Ix k c B)
    (hInv : ∀ k A, I k A → Inv A) (h0 : I 0 w)
    (hround : ∀ (l k : Nat) (A : World) (KN : World → World → Prop) (KX : Code → World → World → Prop), k < N → I k A →
      (∀ C D, Keep Y C D → I (k + 1) D → KN C D) → (∀ c C D, Keep Y C D → Ix k c D → KX c C D) →
      assign.wpIn (Fence.wide.inRound l) 3 P (Exit.then (StartedR P l 3 w.heap.size Y KN KX body A) (fun _ _ _ => False)) { tmps := (ps.zip #[E k]).foldl (fun t (p, v) => t.setIfInBounds p v) a.tmps, defers := [] } A)
    (hdone : ∀ (D : Nat) (A : World), w.heap.size ≤ D → I N A → A.heap[D]? = some (.deferred (some [])) → Q .normal { a with defers := { target := .collected D, args := #[] } :: a.defers } A)
    (hstop : ∀ (D : Nat) (c : Code) (k : Nat) (A : World), w.heap.size ≤ D → k < N → Ix k c A → A.heap[D]? = some (.deferred (some [])) → c.wp P Q { a with defers := { target := .collected D, args := #[] } :: a.defers } A) :
    (Code.rangeFunc g ps assign body).wp P Q a w :=
  (wpIn_wide (n := 3)).1 (rangeR_outer hg eg hit hps hY1 hY2 hPre I Ix hI hIx hInv h0 hround hdone (fun D c k A h1 h2 h3 h4 => wpIn_wide.2 (hstop D c k A h1 h2 h3 h4)))
end Go.Proofs.YtcmhgpgookiomaaGreat
namespace Go.Proofs.YtcmhgpgookiomaaGreat
open Go.RowKit Go.Shelf

/-- What such an iterator promises: values E x, one behind the other, fewer than N at each; at the end all that came is as S says. -/
def IterL (P : Program) (gf : Nat) (lb : Array Value) (N : Nat) (E : Nat → Value) (S : List Nat → Prop) (Pre : World → Prop) : Prop :=
  ∀ (l : Nat) (J : List Nat → World → Prop) (W : World), Pre W → (∀ pre A B, J pre A → Keep (fun b o => W.heap.size ≤ b ∧ o.isWalk = true) A B → J pre B) →
    (∀ pre x A, pre.length < N → J pre A → YieldAt Fence.wide 0 P l #[E x] A fun e B => e = .returned (.bool true) ∧ J (pre ++ [x]) B ∧ Keep (fun _ o => o.isWalk = false) A B) →
    J [] W → Calls P gf (#[.func (.yield l) #[] #[]] ++ lb) W fun e B => (∃ v, e = .returned v) ∧ ∃ ss, S ss ∧ J ss B

/-- What the loop's book-keeping and the iterator's steps turn; what a round may turn. -/
abbrev turnL (B : Nat) : Nat → Obj → Prop := fun b o => B ≤ b ∧ o.isCells = false
abbrev roundL (B : Nat) : Nat → Obj → Prop := fun b o => o.isWalk = false ∧ (b < B ∨ o.isCells = true)

/-- The variables of the loop are set (a', A1); what is left of the round. -/
def StartedL (P : Program) (l n : Nat) (B : Nat) (KN : World → World → Prop) (body : Code) (A : World) (a' : Act) (A1 : World) : Prop :=
  Keep (roundL B) A A1 ∧ ∀ C, Keep (turnL B) A1 C → body.wpIn (Fence.wide.inRound l) n P (roundQ (KN C) (fun _ _ => False)) a' C

theorem walk_cells {o : Obj} (h : o.isWalk = true) : o.isCells = false := by cases o <;> simp_all [Obj.isWalk, Obj.isCells]

/-- A loop over such an iterator, in the code of an activation (not in a round). -/
theorem rangeL_outer {P : Program} {n : Nat} {g : Operand} {ps : Array Tmp} {assign body : Code} {Q : Exit → Act → World → Prop} {a : Act} {w : World}
    {gf : Nat} {lb : Array Value} {N : Nat} {E : Nat → Value} {S : List Nat → Prop} {Pre : World → Prop}
    (hg : a.eval g = .func (.func gf) #[] lb) (eg : ∀ args w, (callFunc gf args).run P w = .ok (.enter gf args) w)
    (hit : IterL P gf lb N E S Pre) (hps : ps.size = 1) (hPre : ∀ A, Ext w A → Pre A)
    (I : List Nat → World → Prop)
    (hI : ∀ pre A B, I pre A → Keep (turnL w.heap.size) A B → I pre B) (h0 : I [] w)
    (hround : ∀ (l : Nat) (pre : List Nat) (x : Nat) (A : World) (KN : World → World → Prop), pre.length < N → I pre A →
      (∀ C D, Keep (roundL w.heap.size) C D → I (pre ++ [x]) D → KN C D) →
      assign.wpIn (Fence.wide.inRound l) n P (Exit.then (StartedL P l n w.heap.size KN body A) (fun _ _ _ => False)) { tmps := (ps.zip #[E x]).foldl (fun t (p, v) => t.setIfInBounds p v) a.tmps, defers := [] } A)
    (hdone : ∀ (D : Nat) (ss : List Nat) (A : World), w.heap.size ≤ D → S ss → I ss A → A.heap[D]? = some (.deferred (some [])) → Q .normal { a with defers := { target := .collected D, args := #[] } :: a.defers } A) :
    (Code.rangeFunc g ps assign body).wpIn Fence.wide n P Q a w := by
  refine wpIn_rangeFunc ?_
  intro fn _
  have hro : Fence.wide.round = none := rfl
  rw [hro]
  obtain ⟨rec, hrec⟩ : ∃ rec : LoopState → Option Code → Loop, rec = fun st pe => { state := st, pending := pe, fn, tmps := a.tmps, params := ps, assign, body, defers := w.heap.size } := ⟨_, rfl⟩
  obtain ⟨W1, hW1⟩ : ∃ W1, (w.alloc (.deferred (some []))).alloc (.loop (rec .ready none)) = W1 := ⟨_, rfl⟩
  have hL1 : W1.heap[w.heap.size + 1]? = some (.loop (rec .ready none)) := by
    rw [← hW1]; have := World.alloc_heap_new (w.alloc (.deferred (some []))) (.loop (rec .ready none)); rwa [World.size_alloc] at this
  have hK1 : W1.heap[w.heap.size]? = some (.deferred (some [])) := by
    rw [← hW1]; exact (Below.heap_alloc _ _ _ (by simp)).trans (World.alloc_heap_new w _)
  have hE1 : Ext w W1 := by rw [← hW1]; exact ((Keep.refl _ w).alloc _).alloc _
  have hs1 : W1.heap.size = w.heap.size + 2 := by rw [← hW1]; simp
  have stay' : ∀ {A B : World} {k : Nat} {o : Obj}, Keep (roundL w.heap.size) A B → w.heap.size ≤ k → A.heap[k]? = some o → o.isCells = false → B.heap[k]? = some o :=
    fun h hk ho hc => h.block _ _ ho (fun hx => by rcases hx.2 with hx | hx; omega; rw [hc] at hx; cases hx)
  have put : ∀ {A : World} {l : Nat} {o : Obj} (o' : Obj), w.heap.size ≤ l → A.heap[l]? = some o → o.isCells = false → Keep (turnL w.heap.size) A (A.putObj l o') :=
    fun o' hl ho hc => (Keep.refl _ _).putObj _ _ (fun o2 h2 => by rw [ho] at h2; cases h2; exact ⟨hl, hc⟩)
  have putW : ∀ {A : World} {l : Nat} {o : Obj} (o' : Obj), A.heap[l]? = some o → o.isWalk = false → Keep (fun _ o => o.isWalk = false) A (A.putObj l o') :=
    fun o' ho hc => (Keep.refl _ _).putObj _ _ (fun o2 h2 => by rw [ho] at h2; cases h2; exact hc)
  have rz : ∀ {A B : World}, Keep (roundL w.heap.size) A B → Keep (fun _ o => o.isWalk = false) A B := fun h => h.mono (fun _ _ _ hx => hx.1)
  refine ⟨w.heap.size + 1, [{ target := .collected w.heap.size, args := #[] }], W1, { target := .fn (.func gf) lb, args := #[.func (.yield (w.heap.size + 1)) #[] #[]] }, W1, gf,
    #[.func (.yield (w.heap.size + 1)) #[] #[]] ++ lb, W1, ?_, ?_, ?_, ?_, fun h => by simp [Fence.wide] at h, ?_⟩
  · rw [← hW1, hrec]; exact run_enterLoop_outer _ _ _ _ _
  · simp only [resolve, hg]
    simp [go_sem]
  · intro f' _; trivial
  · simp [invoke, go_sem, eg]
  · refine callsIn_wide.2 ((hit (w.heap.size + 1)
      (fun pre A => I pre A ∧ A.heap[w.heap.size + 1]? = some (.loop (rec .ready none)) ∧ A.heap[w.heap.size]? = some (.deferred (some [])))
      W1 (hPre _ hE1)
      (fun pre A B hs hk => ⟨hI pre A B hs.1 (hk.mono (fun b o _ hx => ⟨by have := hx.1; omega, walk_cells hx.2⟩)), hk.block _ _ hs.2.1 (fun h => by have := h.1; omega), hk.block _ _ hs.2.2 (fun h => by have := h.1; omega)⟩)
      ?_ ⟨hI _ _ _ h0 (Keep.of_ext hE1), hL1, hK1⟩).mono ?_)
    · rintro pre x A hpre ⟨hi, hl, hd⟩
      have hy := run_yield (P := P) (args := #[E x]) hl (by rw [hrec]; exact hps.symm)
      rw [hrec] at hy
      refine ⟨fn, _, assign, body, hy, roundIn_wide (roundIn_of_wpIn (n := n) trivial (wpIn_mono (hround _ pre x A (fun C D => Keep (roundL w.heap.size) C D ∧ I (pre ++ [x]) D) hpre hi (fun _ _ h h' => ⟨h, h'⟩)) ?_))⟩
      clear hy
      intro e0 a' B he0
      cases e0 with
      | normal => ?_
      | _ => exact he0.elim
      obtain ⟨hkB, hbody⟩ := he0
      replace hl := stay' hkB (by omega) hl rfl
      replace hd := stay' hkB (Nat.le_refl _) hd rfl
      have hlt : w.heap.size + 1 < B.heap.size := Keep.lt hl
      refine ⟨_, run_beginRound hl (by rw [hrec]), ?_⟩
      have hl2 : (B.putObj (w.heap.size + 1) (.loop { rec .ready none with state := .busy })).heap[w.heap.size + 1]? = some (.loop { rec .ready none with state := .busy }) := World.putObj_heap_same hlt
      have hd2 : (B.putObj (w.heap.size + 1) (.loop { rec .ready none with state := .busy })).heap[w.heap.size]? = some (.deferred (some [])) := (World.putObj_heap_other (by omega)).trans hd
      have hz2 := putW (A := B) (.loop { rec .ready none with state := .busy }) hl rfl
      refine wpIn_mono (hbody _ (put _ (by omega) hl rfl)) ?_
      have fin : ∀ (jump : Option Code) (W3 : World), Keep (roundL w.heap.size) (B.putObj (w.heap.size + 1) (.loop { rec .ready none with state := .busy })) W3 →
          (Instr.endRound (w.heap.size + 1) jump).run P W3 = .ok (.bool jump.isNone) (W3.putObj (w.heap.size + 1) (.loop (rec (if jump.isNone then .ready else .done) jump))) ∧
          W3.heap[w.heap.size + 1]? = some (.loop { rec .ready none with state := .busy }) ∧
          (W3.putObj (w.heap.size + 1) (.loop (rec (if jump.isNone then .ready else .done) jump))).heap[w.heap.size + 1]? = some (.loop (rec (if jump.isNone then .ready else .done) jump)) ∧
          (W3.putObj (w.heap.size + 1) (.loop (rec (if jump.isNone then .ready else .done) jump))).heap[w.heap.size]? = some (.deferred (some [])) := fun jump W3 hk3 => by
        have hl3 := stay' hk3 (by omega) hl2 rfl
        have hd3 := stay' hk3 (Nat.le_refl _) hd2 rfl
        have := run_endRound (P := P) jump hl3
        rw [hrec] at this ⊢
        exact ⟨this, by rw [hrec] at hl3; exact hl3, World.putObj_heap_same (Keep.lt hl3), (World.putObj_heap_other (by omega)).trans hd3⟩
      rintro e a3 W3 hp
      cases e with
      | normal =>
        obtain ⟨hk3, hi3⟩ := hp
        obtain ⟨hr, hl3, hl4, hd4⟩ := fin none W3 hk3
        exact ⟨_, _, hr, rfl, ⟨hI _ _ _ hi3 (put _ (by omega) hl3 rfl), hl4, hd4⟩, (((rz hkB).trans hz2).trans (rz hk3)).trans (putW _ hl3 rfl)⟩
      | ret => exact hp.elim
      | exit id => exact hp.elim
      | goto t => exact hp.elim
      | panic ch => exact hp.elim
      | outgrown => exact hp.elim
    · rintro e W2 ⟨⟨v, rfl⟩, ss, hS, hi, hl, hd⟩
      exact ⟨none, _, by have := run_endLoop (P := P) hl (by rw [hrec]; simp); rw [hrec] at this; exact this, hdone _ ss _ (Nat.le_refl _) hS (hI _ _ _ hi (put _ (by omega) hl rfl)) ((World.putObj_heap_other (by omega)).trans hd)⟩

/-- The same for the plain walk. -/
theorem rangeL_wp {P : Program} {g : Operand} {ps : Array Tmp} {assign body : Code} {Q : Exit → Act → World → Prop} {a : Act} {w : World}
    {gf : Nat} {lb : Array Value} {N : Nat} {E : Nat → Value} {S : List Nat → Prop} {Pre : World → Prop}
    (hg : a.eval g = .func (.func gf) #[] lb) (eg : ∀ args w, (callFunc gf args).run P w = .ok (.enter gf args) w)
    (hit : IterL P gf lb N E S Pre) (hps : ps.size = 1) (hPre : ∀ A, Ext w A → Pre A)
    (I : List Nat → World → Prop)
    (hI : ∀ pre A B, I pre A → Keep (turnL w.heap.size) A B → I pre B) (h0 : I [] w)
    (hround : ∀ (l : Nat) (pre : List Nat) (x : Nat) (A : World) (KN : World → World → Prop), pre.length < N → I pre A →
      (∀ C D, Keep (roundL w.heap.size) C D → I (pre ++ [x]) D → KN C D) →
      assign.wpIn (Fence.wide.inRound l) 3 P (Exit.then (StartedL P l 3 w.heap.size KN body A) (fun _ _ _ => False)) { tmps := (ps.zip #[E x]).foldl (fun t (p, v) => t.setIfInBounds p v) a.tmps, defers := [] } A)
    (hdone : ∀ (D : Nat) (ss : List Nat) (A : World), w.heap.size ≤ D → S ss → I ss A → A.heap[D]? = some (.deferred (some [])) → Q .normal { a with defers := { target := .collected D, args := #[] } :: a.defers } A) :
    (Code.rangeFunc g ps assign body).wp P Q a w :=
  (wpIn_wide (n := 3)).1 (rangeL_outer hg eg hit hps hPre I hI h0 hround hdone)
end Go.Proofs.YtcmhgpgookiomaaGreat
