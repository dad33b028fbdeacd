/-
  TopRevoked: A region that draws its order, whose operations read, or make memory and turn none that was there: ONE walk in the order of the text serves every order. What a making operation hands back is known by a predicate that stays true as memory grows; another operation may use it only if it waits for that one. Nothing here names the program. pad.Put.
-/
import Derived.Test.YtcmhgpgookiomaaGreatM01
import Derived.Test.YtcmhgpgookiomaaGreatM04
import Derived.Test.YtcmhgpgookiomaaGreatM05
import Derived.BigQuiet
namespace Go.Proofs.YtcmhgpgookiomaaGreat
open Go.RowKit

/-- A world that w0 has grown into. -/
structure At (w0 : World) where
  w : World
  ext : Ext w0 w
instance {w0 : World} : Nonempty (At w0) := ⟨⟨w0, Keep.refl _ _⟩⟩

/-- What an operation is: it reads; it makes memory, its value of the shape Sh, known by S; it comes behind all others; it may turn memory, and all others come ahead of it or behind it. -/
inductive Kind where
  | reads
  | grows (S : Value → World → Prop) (Sh : Value → Prop)
  | last
  | bar

def noCall (o : Oper) : Bool :=
  match o.op with
  | .call c => (match c.callee with | .builtin .len => true | .builtin .cap => true | .builtin .min => true | .builtin .max => true | _ => false)
  | .go _ | .defer _ | .send .. | .recv .. | .select .. | .panic _ => false
  | _ => true

section
variable {P : Program} {ops : Array Oper} {md : Region.Mode} {w0 : World}

/-- What an operation's run must be: a value of which T holds; or a call that hands back one. -/
def givesVal (P : Program) (T : Value → World → Prop) : Result Next → Prop
  | .ok (.value u) w' => T u w'
  | .ok .skip w' => T undef w'
  | .ok (.enter f args) w' => Calls P f args w' (fun e w'' => ∃ u, e = .returned u ∧ T u w'')
  | .ok (.row row args) w' => Rows P row args w' T
  | _ => False

/-- Operation o, in the frame a and the world w, hands back a value (undef: it is passed over), of which T holds. -/
def opTo (P : Program) (ops : Array Oper) (o : Oper) (a : Act) (w : World) (T : Value → World → Prop) : Prop :=
  if Region.wanted o (yielded ops a.tmps) then givesVal P T ((execOp a.eval o).run P w) else T undef w

/-- It reads: a value, the same in every world that w0 has grown into. -/
def opIs (P : Program) (ops : Array Oper) (o : Oper) (a : Act) (w : World) (v : Value) : Prop :=
  if Region.wanted o (yielded ops a.tmps) then (execOp a.eval o).run P w = .ok (.value v) w ∨ ((execOp a.eval o).run P w = .ok .skip w ∧ v = undef) else v = undef

theorem opIs_unique {o : Oper} {a : Act} {w : World} {u v : Value} (h : opIs P ops o a w u) (k : opIs P ops o a w v) : u = v := by
  unfold opIs at h k
  split at h
  · rename_i hw
    rw [if_pos hw] at k
    rcases h with h | ⟨h, rfl⟩ <;> rcases k with k | ⟨k, rfl⟩
    · rw [h] at k; cases k; rfl
    · rw [h] at k; cases k
    · rw [h] at k; cases k
    · rfl
  · rename_i hw
    rw [if_neg hw] at k
    rw [h, k]

/-- Whether operation j waits for operation d. -/
def ancB (md : Region.Mode) (ops : Array Oper) : Nat → Nat → Nat → Bool
  | 0, _, _ => false
  | n + 1, j, d => match ops[j]? with
    | none => false
    | some o => o.after.any fun e => Region.binds md e && (e.on == d || ancB md ops n e.on d)

/-- What is listed waits for nothing that isn't. -/
def Closed (md : Region.Mode) (ops : Array Oper) (listed : Array Bool) : Prop :=
  ∀ j o, ops[j]? = some o → listed.getD j false = true → ∀ e ∈ o.after, Region.binds md e = true → listed.getD e.on false = true

theorem closed_anc {listed : Array Bool} (hc : Closed md ops listed) : ∀ (n j d : Nat), (∀ o, ops[j]? = some o → ∀ e ∈ o.after, Region.binds md e = true → listed.getD e.on false = true) →
    ancB md ops n j d = true → listed.getD d false = true
  | 0, _, _, _, h => by simp [ancB] at h
  | n + 1, j, d, hj, h => by
    unfold ancB at h
    cases ho : ops[j]? with
    | none => simp [ho] at h
    | some o =>
      simp only [ho] at h
      obtain ⟨e, he, hb⟩ := Array.any_eq_true'.1 h
      simp only [Bool.and_eq_true, Bool.or_eq_true, beq_iff_eq] at hb
      have hl := hj o ho e he hb.1
      rcases hb.2 with rfl | hb
      · exact hl
      · exact closed_anc hc n e.on d (fun o' ho' e' he' hb' => hc e.on o' ho' hl e' he' hb') hb

theorem closed_set {listed : Array Bool} {i : Nat} (hc : Closed md ops listed) (hr : i ∈ Region.ready md ops listed) : Closed md ops (listed.setIfInBounds i true) := by
  intro j o ho hl e he hb
  refine getD_set_true ?_
  by_cases hji : j = i
  · subst hji
    obtain ⟨_, o', ho', hall⟩ := mem_ready.1 hr
    rw [ho] at ho'; cases ho'
    exact hall e he hb
  · rw [getD_set_ne false (Ne.symm hji)] at hl
    exact hc j o ho hl e he hb

def upd (facts : Nat → World → Prop) (k : Nat) (S : World → Prop) : Nat → World → Prop := fun d => if d = k then S else facts d

/-- Operation k comes up. -/
def flowOp (P : Program) (ops : Array Oper) (md : Region.Mode) (w0 : World) (tab : Nat → Kind) (Q : Exit → Act → World → Prop) (k : Nat) (K : World → (Nat → World → Prop) → Act → Prop)
    (facts : Nat → World → Prop) (a : Act) : Prop :=
  match ops[k]? with
  | none => False
  | some o => match tab k with
    | .reads => ∃ v, (∀ w, Ext w0 w → opIs P ops o a w v) ∧ K w0 facts (a.put o.dst v)
    | .grows S Sh => (∃ v, Sh v) ∧ (∀ v w w', S v w → Ext w w' → S v w') ∧ (∀ v w, S v w → Sh v) ∧
        (∀ w, Ext w0 w → (∀ d, ancB md ops ops.size k d = true → facts d w) → opTo P ops o a w (fun u w' => Ext w w' ∧ S u w')) ∧
        ∀ v, Sh v → K w0 (upd facts k (S v)) (a.put o.dst v)
    | .last => (∀ i, i < ops.size → i ≠ k → ancB md ops ops.size k i = true) ∧ ∀ w, Ext w0 w → (∀ d, facts d w) → wpOp P ops Q k (Q .normal) a w
    | .bar => (∀ i, i < ops.size → i ≠ k → ancB md ops ops.size k i = true ∨ ancB md ops ops.size i k = true) ∧
        ∀ w, Ext w0 w → (∀ d, facts d w) → wpOp P ops Q k (fun a' w' => K w' (fun _ _ => True) a') a w

/-- THE WALK, in the order of the text. -/
def wpFlow (P : Program) (ops : Array Oper) (md : Region.Mode) (tab : Nat → Kind) (Q : Exit → Act → World → Prop) : Nat → Nat → World → (Nat → World → Prop) → Act → Prop
  | 0, _, w0, facts, a => ∀ w, Ext w0 w → (∀ d, facts d w) → Q .normal a w
  | n + 1, k, w0, facts, a => flowOp P ops md w0 tab Q k (fun w0 facts a => wpFlow P ops md tab Q n (k + 1) w0 facts a) facts a

/-- Whatever order is picked from here on. -/
def anyFlow (P : Program) (ops : Array Oper) (md : Region.Mode) (tab : Nat → Kind) (Q : Exit → Act → World → Prop) : Nat → Array Bool → World → (Nat → World → Prop) → Act → Prop
  | 0, listed, w0, facts, a => Region.ready md ops listed = [] ∧ ∀ w, Ext w0 w → (∀ d, facts d w) → Q .normal a w
  | n + 1, listed, w0, facts, a => (Region.ready md ops listed = [] → ∀ w, Ext w0 w → (∀ d, facts d w) → Q .normal a w) ∧
      ∀ i ∈ Region.ready md ops listed, flowOp P ops md w0 tab Q i (anyFlow P ops md tab Q n (listed.setIfInBounds i true)) facts a

variable {tab : Nat → Kind} {Q : Exit → Act → World → Prop}

theorem flowOp_mono {k : Nat} {K K' : World → (Nat → World → Prop) → Act → Prop} {facts : Nat → World → Prop} {a : Act} (h : ∀ w f a, K w f a → K' w f a) (hh : flowOp P ops md w0 tab Q k K facts a) : flowOp P ops md w0 tab Q k K' facts a := by
  unfold flowOp at *
  split at hh
  · exact hh
  · split at hh
    · obtain ⟨v, h1, h2⟩ := hh; exact ⟨v, h1, h _ _ _ h2⟩
    · exact ⟨hh.1, hh.2.1, hh.2.2.1, hh.2.2.2.1, fun v hv => h _ _ _ (hh.2.2.2.2 v hv)⟩
    · exact hh
    · exact ⟨hh.1, fun w hE hf => wpOp_mono (fun b w' hb => h _ _ _ hb) (hh.2 w hE hf)⟩

theorem wp_of_gives {o : Oper} {a : Act} {w : World} {T : Value → World → Prop} {K : Act → World → Prop} {Q' : Exit → Act → World → Prop} (h : ∀ v w', T v w' → K (a.put o.dst v) w')
    (hh : givesVal P T ((execOp a.eval o).run P w)) : o.wp P a w K Q' := by
  unfold Oper.wp
  generalize (execOp a.eval o).run P w = r at *
  cases r with
  | ok n w' =>
    cases n <;> simp only [givesVal] at hh <;> simp only [Oper.upon]
    · exact h _ _ hh
    · exact h _ _ hh
    · exact hh.mono (fun e w'' ⟨u, he, hT⟩ => by subst he; exact h _ _ hT)
    · exact hh.mono (fun u w'' hT => h _ _ hT)
  | halt x w' => cases x <;> simp only [givesVal] at hh

theorem gives_of_wp {o : Oper} {a : Act} {w : World} {T : Value → World → Prop} {d : Tmp} (hd : o.dst = some d) (hlt : d < a.tmps.size)
    (hh : o.wp P a w (fun b w' => ∃ v, b = a.put o.dst v ∧ T v w') (fun _ _ _ => False)) : givesVal P T ((execOp a.eval o).run P w) := by
  have inj : ∀ u v, a.put o.dst u = a.put o.dst v → u = v := by
    intro u v h
    rw [hd] at h
    have := congrArg (fun x : Act => x.tmps[d]?) h
    simpa [Act.put, hlt] using this
  unfold Oper.wp at hh
  generalize hr : (execOp a.eval o).run P w = r at *
  cases r with
  | ok n w' =>
    cases n <;> simp only [Oper.upon] at hh <;> simp only [givesVal]
    case value u => obtain ⟨v, h1, h2⟩ := hh; rw [inj _ _ h1]; exact h2
    case skip => obtain ⟨v, h1, h2⟩ := hh; rw [inj _ _ h1]; exact h2
    case enter f args =>
      refine hh.mono (fun e w'' he => ?_)
      cases e with
      | returned u => obtain ⟨v, h1, h2⟩ := he; exact ⟨u, rfl, by rw [inj _ _ h1]; exact h2⟩
      | panicked c => exact he.elim
      | outgrown => obtain ⟨_, _, he⟩ := he; exact he.elim
    case defer f =>
      obtain ⟨v, h1, _⟩ := hh
      have := congrArg Act.defers h1
      rw [hd] at this
      simp [Act.put] at this
    case row r args =>
      exact hh.mono (fun u w'' ⟨v, h1, h2⟩ => by rw [inj _ _ h1]; exact h2)
  | halt x w' => cases x <;> simp only [Oper.upon] at hh

theorem wpOp_of_opTo {i : Nat} {o : Oper} (ho : ops[i]? = some o) {a : Act} {w : World} {T : Value → World → Prop} {K : Act → World → Prop} (h : opTo P ops o a w T) (hK : ∀ v w', T v w' → K (a.put o.dst v) w') : wpOp P ops Q i K a w := by
  unfold wpOp
  simp only [ho]
  unfold opTo at h
  split
  · rename_i hw; rw [if_pos hw] at h
    exact .inl (wp_of_gives hK h)
  · rename_i hw; rw [if_neg hw] at h
    exact hK _ _ h

theorem opTo_of_opIs {o : Oper} {a : Act} {w : World} {v : Value} (h : opIs P ops o a w v) : opTo P ops o a w (fun u w' => u = v ∧ w' = w) := by
  unfold opIs at h
  unfold opTo
  split at h
  · rename_i hw
    rw [if_pos hw]
    rcases h with h | ⟨h, rfl⟩
    · rw [h]; exact ⟨rfl, rfl⟩
    · rw [h]; exact ⟨rfl, rfl⟩
  · rename_i hw
    rw [if_neg hw]
    exact ⟨h.symm, rfl⟩

theorem ready_nil_of_last {listed : Array Bool} {i : Nat} (hc : Closed md ops listed) (hr : i ∈ Region.ready md ops listed) (ha : ∀ j, j < ops.size → j ≠ i → ancB md ops ops.size i j = true) :
    Region.ready md ops (listed.setIfInBounds i true) = [] := by
  rw [List.eq_nil_iff_forall_not_mem]
  intro j hj
  obtain ⟨hun, oj, hoj, _⟩ := mem_ready.1 hj
  have hjlt : j < ops.size := (Array.getElem?_eq_some_iff.1 hoj).1
  obtain ⟨hiu, oi, hoi, hall⟩ := mem_ready.1 hr
  have hlisted : listed.getD j false = true ∨ j = i := by
    by_cases hji : j = i
    · exact .inr hji
    · exact .inl (closed_anc hc ops.size i j (fun o ho e he hb => by rw [hoi] at ho; cases ho; exact hall e he hb) (ha j hjlt hji))
  rcases hlisted with h | rfl
  · have := getD_set_true (i := i) h
    have hlt : j < (listed.setIfInBounds i true).size := by
      rcases Nat.lt_or_ge j (listed.setIfInBounds i true).size with h' | h'
      · exact h'
      · simp [Array.getElem?_eq_none h'] at this
    simp only [Array.getD_eq_getD_getElem?, Array.getElem?_eq_getElem hlt, Option.getD_some] at this hun
    rw [this] at hun; cases hun
  · have hlt : j < listed.size := by
      rcases Nat.lt_or_ge j listed.size with h' | h'
      · exact h'
      · simp [Array.getElem?_eq_none h'] at hiu
    simp [hlt] at hun

theorem wpAny_of_flow : ∀ (n : Nat) (listed : Array Bool) (w0 : World) (facts : Nat → World → Prop) (a : Act) (w : World), Closed md ops listed → (∀ d w w', facts d w → Ext w w' → facts d w') → Ext w0 w → (∀ d, facts d w) →
    anyFlow P ops md tab Q n listed w0 facts a → wpAny P md ops Q n listed a w
  | 0, _, _, _, _, w, _, _, hw, hf, h => ⟨h.1, h.2 w hw hf⟩
  | n + 1, listed, w0, facts, a, w, hc, hst, hw, hf, h => ⟨fun h0 => h.1 h0 w hw hf, fun i hi => by
    have h1 := h.2 i hi
    unfold flowOp at h1
    split at h1
    · exact h1.elim
    · rename_i o ho
      split at h1
      · obtain ⟨v, hv, hK⟩ := h1
        refine wpOp_of_opTo ho (opTo_of_opIs (hv w hw)) ?_
        rintro u w' ⟨rfl, rfl⟩
        exact wpAny_of_flow n _ w0 facts _ _ (closed_set hc hi) hst hw hf hK
      · rename_i S Sh _
        obtain ⟨_, hS, hSh, hop, hK⟩ := h1
        refine wpOp_of_opTo ho (hop w hw (fun d _ => hf d)) ?_
        rintro u w' ⟨hE, hu⟩
        refine wpAny_of_flow n _ w0 _ _ _ (closed_set hc hi) ?_ (hw.trans hE) ?_ (hK u (hSh _ _ hu))
        · intro d w1 w2 h12 hE12
          unfold upd at *
          split at h12
          · rename_i hd; rw [if_pos hd]; exact hS _ _ _ h12 hE12
          · rename_i hd; rw [if_neg hd]; exact hst d w1 w2 h12 hE12
        · intro d
          unfold upd
          split
          · exact hu
          · exact hst d w w' (hf d) hE
      · have hnil := ready_nil_of_last hc hi h1.1
        refine wpOp_mono ?_ (h1.2 w hw hf)
        intro b w' hb
        cases n with
        | zero => exact ⟨hnil, hb⟩
        | succ n => exact ⟨fun _ => hb, fun j hj => by rw [hnil] at hj; cases hj⟩
      · refine wpOp_mono ?_ (h1.2 w hw hf)
        intro b w' hb
        exact wpAny_of_flow n _ w' _ _ _ (closed_set hc hi) (fun _ _ _ _ _ => trivial) (Keep.refl _ _) (fun _ => trivial) hb⟩

theorem opTo_put {o : Oper} (hs : ∀ cs b, o.op ≠ .select cs b) {a : Act} {dst : Option Tmp} {v : Value} (h : ∀ d, dst = some d → d ∉ o.looksAt ops) {w : World} {T : Value → World → Prop} :
    opTo P ops o (a.put dst v) w T ↔ opTo P ops o a w T := by
  unfold opTo
  rw [execOp_put o hs a dst v h, wanted_put o a dst v h]
theorem opIs_put {o : Oper} (hs : ∀ cs b, o.op ≠ .select cs b) {a : Act} {dst : Option Tmp} {v : Value} (h : ∀ d, dst = some d → d ∉ o.looksAt ops) {w : World} {u : Value} :
    opIs P ops o (a.put dst v) w u ↔ opIs P ops o a w u := by
  unfold opIs
  rw [execOp_put o hs a dst v h, wanted_put o a dst v h]
theorem upd_comm (facts : Nat → World → Prop) {i j : Nat} (h : i ≠ j) (S T : World → Prop) : upd (upd facts i S) j T = upd (upd facts j T) i S := by
  funext d
  unfold upd
  by_cases h1 : d = j
  · subst h1; rw [if_pos rfl, if_neg (Ne.symm h), if_pos rfl]
  · by_cases h2 : d = i
    · subst h2; simp [h1]
    · simp [h1, h2]

/-- j, apart from i and not waiting for it: i may come behind it as well. -/
theorem flowOp_swap {i j : Nat} {oi oj : Oper} (hi : ops[i]? = some oi) (hj : ops[j]? = some oj) (hij : i ≠ j) (hap : oi.apart ops oj = true)
    (hsi : ∀ cs b, oi.op ≠ .select cs b) (hsj : ∀ cs b, oj.op ≠ .select cs b) (hanc : ancB md ops ops.size j i = false) (hanc' : ancB md ops ops.size i j = false) (hti : tab i ≠ .last) (htb : tab i ≠ .bar)
    {K : World → (Nat → World → Prop) → Act → Prop} {facts : Nat → World → Prop} {a : Act}
    (h : flowOp P ops md w0 tab Q i (fun w0 facts a => flowOp P ops md w0 tab Q j K facts a) facts a) : flowOp P ops md w0 tab Q j (fun w0 facts a => flowOp P ops md w0 tab Q i K facts a) facts a := by
  obtain ⟨h1, h2, h3⟩ := Oper.apart_spec hap
  have ilt : i < ops.size := (Array.getElem?_eq_some_iff.1 hi).1
  have updI : ∀ (S : World → Prop) (w : World), (∀ d, ancB md ops ops.size j d = true → facts d w) → (∀ d, ancB md ops ops.size j d = true → upd facts i S d w) := fun S w hf d hd => by
    unfold upd; rw [if_neg (fun e => by subst e; rw [hanc] at hd; cases hd)]; exact hf d hd
  have updJ : ∀ (S : World → Prop) (w : World), (∀ d, ancB md ops ops.size i d = true → upd facts j S d w) → (∀ d, ancB md ops ops.size i d = true → facts d w) := fun S w hf d hd => by
    have := hf d hd; unfold upd at this; rwa [if_neg (fun e => by subst e; rw [hanc'] at hd; cases hd)] at this
  unfold flowOp at h ⊢
  simp only [hi, hj] at h ⊢
  cases hki : tab i with
  | last => exact absurd hki hti
  | bar => exact absurd hki htb
  | reads =>
    simp only [hki] at h ⊢
    obtain ⟨v, hv, h⟩ := h
    cases hkj : tab j with
    | last => simp only [hkj] at h; have := h.1 i ilt hij; rw [hanc] at this; cases this
    | bar => simp only [hkj] at h; rcases h.1 i ilt hij with this | this; (rw [hanc] at this; cases this); (rw [hanc'] at this; cases this)
    | reads =>
      simp only [hkj] at h
      obtain ⟨u, hu, hK⟩ := h
      exact ⟨u, fun w hw => (opIs_put hsj h1).1 (hu w hw), v, fun w hw => (opIs_put hsi h3).2 (hv w hw), by rw [← Act.put_comm a v u h2]; exact hK⟩
    | grows S Sh =>
      simp only [hkj] at h
      obtain ⟨e1, e2, e3, e4, hK⟩ := h
      exact ⟨e1, e2, e3, fun w hw hf => (opTo_put hsj h1).1 (e4 w hw hf), fun u hu => ⟨v, fun w hw => (opIs_put hsi h3).2 (hv w hw), by rw [← Act.put_comm a v u h2]; exact hK u hu⟩⟩
  | grows Si Shi =>
    simp only [hki] at h ⊢
    obtain ⟨⟨v0, hv0⟩, f2, f3, f4, h⟩ := h
    cases hkj : tab j with
    | last => have h0 := h v0 hv0; simp only [hkj] at h0; have := h0.1 i ilt hij; rw [hanc] at this; cases this
    | bar => have h0 := h v0 hv0; simp only [hkj] at h0; rcases h0.1 i ilt hij with this | this; (rw [hanc] at this; cases this); (rw [hanc'] at this; cases this)
    | reads =>
      have h0 := h v0 hv0
      simp only [hkj] at h0
      obtain ⟨u, hu, _⟩ := h0
      refine ⟨u, fun w hw => (opIs_put hsj h1).1 (hu w hw), ⟨v0, hv0⟩, f2, f3, fun w hw hf => (opTo_put hsi h3).2 (f4 w hw hf), fun v hv => ?_⟩
      have h' := h v hv
      simp only [hkj] at h'
      obtain ⟨u', hu', hK⟩ := h'
      obtain rfl : u = u' := opIs_unique ((opIs_put hsj h1).1 (hu w0 (Keep.refl _ _))) ((opIs_put hsj h1).1 (hu' w0 (Keep.refl _ _)))
      rw [← Act.put_comm a v u h2]; exact hK
    | grows S Sh =>
      have h0 := h v0 hv0
      simp only [hkj] at h0
      obtain ⟨e1, e2, e3, e4, _⟩ := h0
      refine ⟨e1, e2, e3, fun w hw hf => (opTo_put hsj h1).1 (e4 w hw (updI _ w hf)), fun u hu => ⟨⟨v0, hv0⟩, f2, f3, fun w hw hf => (opTo_put hsi h3).2 (f4 w hw (updJ _ w hf)), fun v hv => ?_⟩⟩
      have h' := h v hv
      simp only [hkj] at h'
      have hK := h'.2.2.2.2 u hu
      rw [← Act.put_comm a v u h2, upd_comm facts (Ne.symm hij)]; exact hK

theorem flowOp_some {i : Nat} {K : World → (Nat → World → Prop) → Act → Prop} {facts : Nat → World → Prop} {a : Act} (hti : tab i ≠ .last) (htb : tab i ≠ .bar) (h : flowOp P ops md w0 tab Q i K facts a) : ∃ w f b, K w f b := by
  unfold flowOp at h
  split at h
  · exact h.elim
  · split at h
    · obtain ⟨v, _, h⟩ := h; exact ⟨_, _, _, h⟩
    · obtain ⟨⟨v, hv⟩, _, _, _, h⟩ := h; exact ⟨_, _, _, h v hv⟩
    · rename_i hk; exact absurd hk hti
    · rename_i hk; exact absurd hk htb

theorem anc_unlisted {listed : Array Bool} (hc : Closed md ops listed) {i j : Nat} (hr : j ∈ Region.ready md ops listed) (hi : i ∈ Region.ready md ops listed) : ancB md ops ops.size j i = false := by
  cases h : ancB md ops ops.size j i with
  | false => rfl
  | true =>
    obtain ⟨_, oj, hoj, hall⟩ := mem_ready.1 hr
    have hl := closed_anc hc ops.size j i (fun o ho e he hb => by rw [hoj] at ho; cases ho; exact hall e he hb) h
    have hu := (mem_ready.1 hi).1
    have hlt : i < listed.size := by
      rcases Nat.lt_or_ge i listed.size with h' | h'
      · exact h'
      · simp [Array.getElem?_eq_none h'] at hl
    simp [hlt] at hl hu
    rw [hl] at hu; cases hu

theorem anyFlow_first {i : Nat} {oi : Oper} (hi : ops[i]? = some oi) (hsel : ∀ (j : Nat) (o : Oper) cs b, ops[j]? = some o → o.op ≠ .select cs b) (hti : tab i ≠ .last) (htb : tab i ≠ .bar) :
    ∀ (fuel : Nat) (listed : Array Bool) (w0 : World) (facts : Nat → World → Prop) (a : Act), Closed md ops listed →
      (∀ j oj, ops[j]? = some oj → j ≠ i → listed.getD j true = false → (∀ e ∈ oj.after, Region.binds md e = true → e.on ≠ i) → oi.apart ops oj = true) →
      i ∈ Region.ready md ops listed → flowOp P ops md w0 tab Q i (anyFlow P ops md tab Q fuel (listed.setIfInBounds i true)) facts a →
      anyFlow P ops md tab Q (fuel + 1) listed w0 facts a := by
  intro fuel
  induction fuel with
  | zero =>
    intro listed w0 facts a hc _ hr H
    refine ⟨fun h => (by rw [h] at hr; cases hr), fun j hj => ?_⟩
    by_cases hji : j = i
    · subst hji; exact H
    · have := ready_mono hj hji
      obtain ⟨_, f, b, hK⟩ := flowOp_some hti htb H
      rw [hK.1] at this
      cases this
  | succ fuel ih =>
    intro listed w0 facts a hc hfree hr H
    refine ⟨fun h => (by rw [h] at hr; cases hr), fun j hj => ?_⟩
    by_cases hji : j = i
    · subst hji; exact H
    · obtain ⟨hjun, oj, hoj, hall⟩ := mem_ready.1 hj
      have hnot : ∀ e ∈ oj.after, Region.binds md e = true → e.on ≠ i := fun e he hb heq => by
        have h1 := hall e he hb
        have h0 := (mem_ready.1 hr).1
        rw [heq] at h1
        rcases Nat.lt_or_ge i listed.size with h' | h'
        · simp [h'] at h0 h1; rw [h0] at h1; cases h1
        · simp [Array.getElem?_eq_none h'] at h1
      have h1 := flowOp_mono (fun w f b hK => hK.2 j (ready_mono hj hji)) H
      have h2 := flowOp_swap hi hoj (Ne.symm hji) (hfree j oj hoj hji hjun hnot) (fun cs b => hsel i oi cs b hi) (fun cs b => hsel j oj cs b hoj)
        (anc_unlisted hc hj hr) (anc_unlisted hc hr hj) hti htb h1
      have hfree' : ∀ k ok, ops[k]? = some ok → k ≠ i → (listed.setIfInBounds j true).getD k true = false →
          (∀ e ∈ ok.after, Region.binds md e = true → e.on ≠ i) → oi.apart ops ok = true := fun k ok hk hki hun hno => by
        refine hfree k ok hk hki ?_ hno
        by_cases hjk : j = k
        · subst hjk; exact hjun
        · rw [getD_set_ne true hjk] at hun; exact hun
      refine flowOp_mono (fun w f b hK => ih (listed.setIfInBounds j true) w f b (closed_set hc hj) hfree' (ready_mono hr (Ne.symm hji)) ?_) h2
      rw [Array.setIfInBounds_comm _ _ hji]
      exact hK

theorem anyFlow_lex (hs : Region.noSelect ops = true) : ∀ (n k : Nat) (listed : Array Bool) (w0 : World) (facts : Nat → World → Prop) (a : Act), k + n = ops.size → Closed md ops listed →
    Region.lexFrom md ops n k listed = true → wpFlow P ops md tab Q n k w0 facts a → anyFlow P ops md tab Q n listed w0 facts a
  | 0, _, _, _, _, _, _, _, hB, h => ⟨by simpa [Region.lexFrom] using hB, h⟩
  | n + 1, k, listed, w0, facts, a, hk, hc, hB, h => by
    have hlt : k < ops.size := by omega
    have h0 : ops[k]? = some ops[k] := Array.getElem?_eq_getElem hlt
    simp only [Region.lexFrom, Bool.and_eq_true] at hB
    obtain ⟨⟨hr, hf⟩, hB'⟩ := hB
    have hr' : k ∈ Region.ready md ops listed := by simpa using hr
    by_cases hl : tab k = .last
    · have h' := h
      unfold wpFlow flowOp at h'
      simp only [h0, hl] at h'
      refine ⟨fun e => (by rw [e] at hr'; cases hr'), fun j hj => ?_⟩
      by_cases hjk : j = k
      · subst hjk
        unfold flowOp
        simp only [h0, hl]
        exact h'
      · obtain ⟨_, oj, hoj, _⟩ := mem_ready.1 hj
        have := h'.1 j (Array.getElem?_eq_some_iff.1 hoj).1 hjk
        rw [anc_unlisted hc hr' hj] at this
        cases this
    · by_cases hb : tab k = .bar
      · have h' := h
        unfold wpFlow at h'
        have hbar : ∀ i, i < ops.size → i ≠ k → ancB md ops ops.size k i = true ∨ ancB md ops ops.size i k = true := by
          unfold flowOp at h'
          simp only [h0, hb] at h'
          exact h'.1
        refine ⟨fun e => (by rw [e] at hr'; cases hr'), fun j hj => ?_⟩
        by_cases hjk : j = k
        · subst hjk
          exact flowOp_mono (fun w f b hK => anyFlow_lex hs n (j + 1) _ w f b (by omega) (closed_set hc hr') hB' hK) h'
        · obtain ⟨_, oj, hoj, _⟩ := mem_ready.1 hj
          rcases hbar j (Array.getElem?_eq_some_iff.1 hoj).1 hjk with this | this
          · rw [anc_unlisted hc hr' hj] at this
            cases this
          · rw [anc_unlisted hc hj hr'] at this
            cases this
      · exact anyFlow_first h0 (Region.noSelect_spec hs) hl hb n listed w0 facts a hc (Region.free_spec h0 hf) hr'
          (flowOp_mono (fun w f b hK => anyFlow_lex hs n (k + 1) _ w f b (by omega) (closed_set hc hr') hB' hK) h)

/-- **ONE WALK IN THE ORDER OF THE TEXT SERVES EVERY ORDER.** -/
theorem wp_region_flow {id : Nat} {a : Act} {w : World} (N : Nat) (hN : ops.size = N) (tab : Nat → Kind) (hm : P.follows .mixedOrders = true) (hB : Region.lexB .any ops = true)
    (h : wpFlow P ops .any tab Q N 0 w.drew (fun _ _ => True) a) : (Code.region id ops true).wp P Q a w := by
  rw [← hN] at h
  simp only [Region.lexB, Bool.and_eq_true] at hB
  refine wp_region_any hm ?_
  have h1 := anyFlow_lex hB.1 ops.size 0 (Array.replicate ops.size false) w.drew (fun _ _ => True) a (by omega) (by
    intro j o ho hl
    simp [Array.getElem?_replicate] at hl
    split at hl <;> simp at hl) hB.2 h
  exact wpAny_of_flow ops.size _ _ _ a _ (by
    intro j o ho hl
    simp [Array.getElem?_replicate] at hl
    split at hl <;> simp at hl) (fun _ _ _ _ _ => trivial) (Keep.refl _ _) (fun _ => trivial) h1

theorem noCall_run {o : Oper} {ρ : Operand → Value} {w w' : World} {f : FuncId} {args : Array Value} (h : noCall o = true) : (execOp ρ o).run P w ≠ .ok (.enter f args) w' := by
  have hv : ∀ (s : Sem Value), ((do pure (Next.value (← s)) : Sem Next)).run P w ≠ .ok (.enter f args) w' := fun s e => by
    rw [Sem.run_bind] at e
    cases hs : s.run P w with
    | ok a w1 => rw [hs] at e; simp [Result.andThen] at e
    | halt x w1 => rw [hs] at e; simp [Result.andThen] at e
  have hu : ∀ (s : Sem Unit), ((do s; pure Next.skip : Sem Next)).run P w ≠ .ok (.enter f args) w' := fun s e => by
    rw [Sem.run_bind] at e
    cases hs : s.run P w with
    | ok a w1 => rw [hs] at e; simp [Result.andThen] at e
    | halt x w1 => rw [hs] at e; simp [Result.andThen] at e
  have hb : ∀ (s : Sem Bool) (x y : Value), ((do pure (Next.value (if ← s then x else y)) : Sem Next)).run P w ≠ .ok (.enter f args) w' := fun s x y e => by
    rw [Sem.run_bind] at e
    cases hs : s.run P w with
    | ok a w1 => rw [hs] at e; simp [Result.andThen] at e
    | halt x w1 => rw [hs] at e; simp [Result.andThen] at e
  by_cases hnc : ∃ x, o.op = .nilCheck x
  · obtain ⟨x, hx⟩ := hnc
    unfold execOp
    simp only [hx]
    split <;> try (intro e; cases e; done)
    split <;> try (intro e; cases e; done)
    rename_i name first captured _ _ t v _
    intro e
    simp only [Sem.run_bind] at e
    cases hs : (program : Sem Program).run P w with
    | halt y w1 => rw [hs] at e; simp [Result.andThen] at e
    | ok p w1 =>
      rw [hs] at e
      simp only [Result.andThen] at e
      cases hs2 : (nilAhead (p.types.size + Made.depth) t v name).run P w1 with
      | halt y w2 => rw [hs2] at e; simp at e
      | ok q w2 =>
        rw [hs2] at e
        simp only at e
        split at e <;> cases e
  unfold noCall at h
  unfold execOp
  split at h
  · rename_i c hc
    rw [hc]
    split at h
    · rename_i hb
      simp only [resolve, hb]
      intro e
      simp only [Sem.run_bind, Sem.run_pure, Result.andThen, invoke, builtin] at e
      split at e <;> cases e
    · rename_i hb
      simp only [resolve, hb]
      intro e
      simp only [Sem.run_bind, Sem.run_pure, Result.andThen, invoke, builtin] at e
      split at e <;> cases e
    · rename_i hb
      simp only [resolve, hb]
      intro e
      simp only [Sem.run_bind, Sem.run_pure, Result.andThen, invoke, builtin] at e
      split at e <;> cases e
    · rename_i hb
      simp only [resolve, hb]
      intro e
      simp only [Sem.run_bind, Sem.run_pure, Result.andThen, invoke, builtin] at e
      split at e <;> cases e
    · cases h
  all_goals first
    | (cases h; done)
    | skip
  rename_i h1 h2 h3 h4 h5 h6 h7
  cases ho : o.op <;> simp only [] <;> first
    | exact hv _
    | exact hu _
    | exact hb _ _ _
    | (simp only [Sem.run_pure]; intro e; cases e; done)
    | (exact absurd ho (by first | exact h1 _ | exact h2 _ | exact h3 _ | exact h4 _ _ | exact h5 _ _ _ | exact h6 _ _ | exact h7 _ | exact fun e => hnc ⟨_, e⟩))

theorem opIs_of_quiet {o : Oper} {a : Act} {w : World} {v : Value} {C : World → Prop} (hn : noCall o = true) (h : o.quietAt P a C w v) :
    (execOp a.eval o).run P w = .ok (.value v) w ∨ ((execOp a.eval o).run P w = .ok .skip w ∧ v = undef) := by
  unfold Oper.quietAt at h
  generalize hr : (execOp a.eval o).run P w = r at *
  cases r with
  | ok n w' =>
    cases n <;> simp only [Oper.quietUpon] at h
    case value u => obtain ⟨rfl, rfl⟩ := h; exact .inl rfl
    case skip => obtain ⟨rfl, rfl⟩ := h; exact .inr ⟨rfl, rfl⟩
    case enter f args => exact absurd hr (noCall_run hn)
  | halt x w' => simp only [Oper.quietUpon] at h

variable {n k : Nat} {facts : Nat → World → Prop} {a : Act} {o : Oper} {os : List Oper}

/-- The walk over the operations still to come, the first of them operation k. -/
def wpFlows (P : Program) (ops : Array Oper) (md : Region.Mode) (tab : Nat → Kind) (Q : Exit → Act → World → Prop) (os : List Oper) (k : Nat) (w0 : World) (facts : Nat → World → Prop) (a : Act) : Prop :=
  (∀ i, ops[k + i]? = os[i]?) → wpFlow P ops md tab Q os.length k w0 facts a

theorem wpFlows_start (h : wpFlows P ops md tab Q ops.toList 0 w0 (fun _ _ => True) a) : wpFlow P ops md tab Q ops.size 0 w0 (fun _ _ => True) a := h (fun i => by simp)

theorem flows_cons (h : flowOp P ops md w0 tab Q k (fun w0 facts a => wpFlows P ops md tab Q os (k + 1) w0 facts a) facts a) : wpFlows P ops md tab Q (o :: os) k w0 facts a := fun hi => by
  show wpFlow P ops md tab Q (os.length + 1) k w0 facts a
  unfold wpFlow
  refine flowOp_mono (fun w f b hK => hK (fun i => ?_)) h
  have := hi (i + 1)
  rw [show k + 1 + i = k + (i + 1) by omega, this]
  rfl

theorem flow_r (ht : tab k = .reads) (hn : noCall o = true)
    (h : wpQuiet P ops (fun w => ∃ g : At w0, w = g.w) (fun a' => wpFlows P ops md tab Q os (k + 1) w0 facts a') [o] a) : wpFlows P ops md tab Q (o :: os) k w0 facts a := fun hi => by
  have hk : ops[k]? = some o := by simpa using hi 0
  refine flows_cons (o := o) ?_ hi
  unfold flowOp
  simp only [hk, ht]
  unfold wpQuiet at h
  split at h
  · rename_i hw
    obtain ⟨v, h1, h2⟩ := h
    exact ⟨v, fun w hE => by unfold opIs; rw [if_pos hw]; exact opIs_of_quiet hn (h1 w ⟨⟨w, hE⟩, rfl⟩), h2⟩
  · rename_i hw
    exact ⟨undef, fun w hE => by unfold opIs; rw [if_neg hw], h⟩

/-- A guarded operation that is passed over. -/
theorem flow_s (ht : tab k = .reads) (hw : Region.wanted o (yielded ops a.tmps) = false) (h : wpFlows P ops md tab Q os (k + 1) w0 facts (a.put o.dst undef)) : wpFlows P ops md tab Q (o :: os) k w0 facts a := fun hi => by
  have hk : ops[k]? = some o := by simpa using hi 0
  refine flows_cons (o := o) ?_ hi
  unfold flowOp
  simp only [hk, ht]
  exact ⟨undef, fun w hE => by unfold opIs; rw [hw]; simp, h⟩

theorem flow_g {S : Value → World → Prop} {Sh : Value → Prop} (ht : tab k = .grows S Sh) {d : Tmp} (hd : o.dst = some d) (hlt : d < a.tmps.size)
    (hne : ∃ v, Sh v) (hst : ∀ v w w', S v w → Ext w w' → S v w') (hsh : ∀ v w, S v w → Sh v)
    (hop : ∀ w, Ext w0 w → (∀ d, ancB md ops ops.size k d = true → facts d w) → wpList P ops (fun e b w' => e = .normal ∧ ∃ v, b = a.put o.dst v ∧ Ext w w' ∧ S v w') [o] a w)
    (h : ∀ v, Sh v → wpFlows P ops md tab Q os (k + 1) w0 (upd facts k (S v)) (a.put o.dst v)) : wpFlows P ops md tab Q (o :: os) k w0 facts a := fun hi => by
  have hk : ops[k]? = some o := by simpa using hi 0
  refine flows_cons (o := o) ?_ hi
  unfold flowOp
  simp only [hk, ht]
  refine ⟨hne, hst, hsh, fun w hE hf => ?_, h⟩
  have h1 := hop w hE hf
  unfold wpList at h1
  unfold opTo
  split at h1
  · rename_i hw
    rw [if_pos hw]
    rcases h1 with h1 | ⟨_, _, _, h1, _⟩
    · refine gives_of_wp hd hlt ?_
      unfold Oper.wp at h1 ⊢
      generalize (execOp a.eval o).run P w = r at *
      cases r with
      | ok n w' =>
        cases n <;> simp only [Oper.upon] at h1 ⊢ <;>
          first
            | (obtain ⟨_, v, h2, h3, h4⟩ := h1; exact ⟨v, h2, h3, h4⟩)
            | (refine Calls.mono h1 (fun e w'' he => ?_)
               cases e with
               | returned u => obtain ⟨_, v, h2, h3, h4⟩ := he; exact ⟨v, h2, h3, h4⟩
               | panicked c => obtain ⟨h2, _⟩ := he; cases h2
               | outgrown => obtain ⟨_, _, h2, _⟩ := he; cases h2)
            | (exact Rows.mono h1 (fun u w'' he => by obtain ⟨_, v, h2, h3, h4⟩ := he; exact ⟨v, h2, h3, h4⟩))
      | halt x w' => cases x <;> simp only [Oper.upon] at h1 ⊢ <;> first | exact h1.elim | (obtain ⟨h2, _⟩ := h1; cases h2)
    · cases h1
  · rename_i hw
    rw [if_neg hw]
    obtain ⟨_, v, h2, h3, h4⟩ := h1
    have : v = undef := by
      rw [hd] at h2
      have := congrArg (fun x : Act => x.tmps[d]?) h2
      simpa [Act.put, hlt, eq_comm] using this
    subst this
    exact ⟨h3, h4⟩

theorem flow_l (ht : tab k = .last) (hanc : ((List.range ops.size).all fun i => i == k || ancB md ops ops.size k i) = true)
    (h : ∀ w, Ext w0 w → (∀ d, facts d w) → wpList P ops Q [o] a w) : wpFlows P ops md tab Q (o :: os) k w0 facts a := fun hi => by
  have hk : ops[k]? = some o := by simpa using hi 0
  refine flows_cons (o := o) ?_ hi
  unfold flowOp
  simp only [hk, ht]
  refine ⟨fun i hi hne => ?_, fun w hE hf => ?_⟩
  · have := List.all_eq_true.1 hanc i (List.mem_range.2 hi)
    simpa [hne] using this
  · have h1 := h w hE hf
    unfold wpList at h1
    unfold wpOp
    simp only [hk]
    exact h1

/-- Behind an operation that may turn memory: on from there. -/
def barQ (Q : Exit → Act → World → Prop) (K : Act → World → Prop) : Exit → Act → World → Prop
  | .normal, a, w => K a w
  | e, a, w => Q e a w

theorem flow_b (ht : tab k = .bar) (hanc : ((List.range ops.size).all fun i => i == k || ancB md ops ops.size k i || ancB md ops ops.size i k) = true)
    (h : ∀ w, Ext w0 w → (∀ d, facts d w) → wpList P ops (barQ Q (fun a' w' => wpFlows P ops md tab Q os (k + 1) w' (fun _ _ => True) a')) [o] a w) : wpFlows P ops md tab Q (o :: os) k w0 facts a := fun hi => by
  have hk : ops[k]? = some o := by simpa using hi 0
  refine flows_cons (o := o) ?_ hi
  unfold flowOp
  simp only [hk, ht]
  refine ⟨fun i hi hne => ?_, fun w hE hf => ?_⟩
  · have := List.all_eq_true.1 hanc i (List.mem_range.2 hi)
    simpa [hne] using this
  · have h1 := h w hE hf
    unfold wpList at h1
    unfold wpOp
    simp only [hk]
    split at h1
    · rename_i hw
      rw [if_pos hw]
      refine h1.imp (fun h2 => ?_) (fun ⟨b1, b2⟩ => ⟨b1, b2⟩)
      exact h2
    · rename_i hw
      rw [if_neg hw]
      exact h1

theorem flow_end (h : ∀ w, Ext w0 w → (∀ d, facts d w) → Q .normal a w) : wpFlows P ops md tab Q [] k w0 facts a := fun _ => h

theorem wp_flow {id : Nat} {w : World} (tab : Nat → Kind) (hm : P.follows .mixedOrders = true) (hB : Region.lexB .any ops = true)
    (h : wpFlows P ops .any tab Q ops.toList 0 w.drew (fun _ _ => True) a) : (Code.region id ops true).wp P Q a w :=
  wp_region_flow ops.size rfl tab hm hB (wpFlows_start h)
end

end Go.Proofs.YtcmhgpgookiomaaGreat
namespace Go.Proofs.YtcmhgpgookiomaaGreat
open Go.RowKit Go.Shelf
theorem info_u8n : (Tryz.prog.info? 5).map (fun i => (i.zero, i.size, i.bytes)) = some (some (.int .u8 0), 1, 1) := by kernel_rfl

theorem owns_mono {w : World} {base base' e sz n : Nat} {v : Value} {xs : List Value} (h : w.ownsRow base e sz v n xs) (hb : base' ≤ base) : w.ownsRow base' e sz v n xs :=
  ⟨h.1, h.2.imp id (fun ⟨g, cap, cur, h1, h2, h3⟩ => ⟨g, cap, cur, h1, Nat.le_trans hb h2, h3⟩)⟩

theorem bucket_in {n : Int} (h0 : 0 ≤ n) (h1 : n ≤ 65532) : n + 4 ≤ bucket n ∧ bucket n ≤ 65536 ∧ 32 ≤ bucket n := by
  unfold bucket
  rw [if_neg (by omega)]
  repeat' split
  all_goals omega
/-- A text, filled up to K bytes. -/
def padL (l : List UInt8) (K : Nat) : List UInt8 := putL l.length 4 ++ l ++ List.replicate (K - 4 - l.length) 0
theorem pad_over {l : List UInt8} {K : Nat} (h : 4 + l.length ≤ K) : over (over (List.replicate K (.int .u8 0)) 0 ((putL l.length 4).map u8v)) 4 (l.map u8v) = (padL l K).map u8v := by
  have h4 := putL_length l.length 4
  unfold over padL
  rw [List.map_append, List.map_append]
  generalize putL l.length 4 = p at *
  simp only [List.take_zero, List.nil_append, List.length_map, h4, Nat.zero_add, List.drop_replicate]
  rw [List.take_append_of_le_length (by simp [h4]), List.take_of_length_le (by simp [h4]), List.drop_append, List.drop_of_length_le (by simp [h4]), List.nil_append, List.length_map, h4, List.drop_replicate, List.append_assoc, List.append_assoc]
  congr 2
  rw [List.map_replicate]
  congr 1
  omega

set_option maxRecDepth 20000 in
set_option maxHeartbeats 2000000 in
theorem padPut_any (a : Option Addr) (n c : Nat) (l : List UInt8) (w : World) (hr : Row 1 w a n c (l.map u8v)) (hn : n ≤ 65532) :
    Calls Tryz.prog 124 #[.slice a n c] w fun e w' => ∃ (K : Nat) (a' : Option Addr) (c' : Nat), (K : Int) = bucket n ∧ e = .returned (.tuple #[.slice a' K c', .int .i64 0]) ∧ w'.ownsRow w.heap.size 5 1 (.slice a' K c') K ((padL l K).map u8v) ∧ Ext w w' := by
  have hll : l.length = n := by have := hr.2.2.1; simpa using this
  obtain ⟨b1, b2, b3⟩ := bucket_in (n := n) (by omega) (by omega)
  obtain ⟨K, hK⟩ := Int.eq_ofNat_of_zero_le (show 0 ≤ bucket n by omega)
  have hbk := fun w => bucket_in_any n w (by omega) (by omega)
  simp only [hK] at b1 b2 b3 hbk ⊢
  have hKn : n + 4 ≤ K := by omega
  have hK1 : K ≤ 65536 := by omega
  have hK2 : 32 ≤ K := by omega
  have hpo := pad_over (l := l) (K := K) (by omega)
  rw [hll] at hpo
  have HL := Lib.hid hll
  clear b1 b2 b3 hK hll
  obtain ⟨i0, hi, hz0, hz1, hz2⟩ := info_parts info_u8n
  refine calls_cps fun R hR => ?_
  go_enter Tryz.func124, Tryz.ntmps124
  go_wp2_with fail
  refine (hbk _).mono ?_; rintro e w1 ⟨rfl, e1⟩
  go_wp2_with (first | (at_make; go_must (refine wpList_make_full _ rfl _ _ 26 rfl w1.heap.size 5 i0 _ 1 Tryz.underlying26 hi hz0 hz1 .i64 .i64 _ _ K rfl rfl rfl rfl (by rw [hz2]; omega) (by unfold maxLen; omega) (Nat.le_refl _) ?_); intro w2 hown2 hgrow2) | fail)
  have e2 : Ext w1 w2 := Keep.of_grownBy hgrow2 (fun k o h _ => by cases h)
  rw [show (Value.int .u8 0).cells = #[.int .u8 0] from rfl, Nat.mul_one, toList_madeCells_one] at hown2
  clear hgrow2
  have hrow := (lit_row (base := 0) w2 22 #[.int .u32 (n : Int)] 1 (by simp [maxLen]) rfl (Nat.zero_le _)).2
  have hw1 : (UInt32.ofNat n).toNat = n := by rw [UInt32.toNat_ofNat']; omega
  rw [show (#[Value.int .u32 (n : Int)] : Array Value).toList = [UInt32.ofNat n].map u32v from by simp [u32v, hw1]] at hrow
  have hby := bytes_any _ _ _ _ _ hrow (by omega)
  rw [show bytesOf [UInt32.ofNat n] = putL n 4 from by simp [bytesOf, hw1]] at hby
  go_wp2_with fail
  refine hby.mono ?_; rintro e w3 ⟨a3, c3, rfl, own3, e3⟩
  clear hby hrow
  obtain ⟨_, _, q1, row3⟩ := owns_row own3
  cases q1
  have e23 : Ext w2 w3 := ((Keep.refl _ w2).alloc _).trans e3
  have o3 := e23.owns hown2
  obtain ⟨w4, hrun4, o4, g4⟩ := run_copy_owned (P := Tryz.prog) w3 26 26 3 Tryz.underlying26 (by kernel_rfl) o3 row3 (u8v_one _) 0 K K (by omega) (by omega)
  have e4 : Ext w1 w4 := Keep.grown (e2.trans e23) g4 (fun k o hk ho => by cases hk; have := Keep.lt ho; omega)
  have hr4 := (hr.ext e1).ext e4
  obtain ⟨w5, hrun5, o5, g5⟩ := run_copy_owned (P := Tryz.prog) w4 26 26 3 Tryz.underlying26 (by kernel_rfl) o4 hr4 (u8v_one _) 4 (K - 4) (K - 4) (by omega) (by omega)
  have e5 : Ext w1 w5 := Keep.grown e4 g5 (fun k o hk ho => by cases hk; have := Keep.lt ho; omega)
  rw [hpo] at o5
  clear o4 o3 hown2 own3 row3 g4 g5 hpo hr4
  go_wp2
  exact ⟨K, _, _, rfl, rfl, owns_mono o5 e1.size, e1.trans e5⟩

theorem put32_any (a : Option Addr) (c : Nat) (l : List UInt8) (w : World) (hr : Row 1 w a 32 c (l.map u8v)) :
    Calls Tryz.prog 124 #[.slice a 32 c] w fun e w' => ∃ a' c', e = .returned (.tuple #[.slice a' 64 c', .int .i64 0]) ∧ Ext w w' :=
  (padPut_any a 32 c l w hr (by omega)).mono fun e w' ⟨K, a', c', h1, h2, _, h3⟩ => by
    have : K = 64 := by
      have : bucket (32 : Nat) = 64 := by decide
      omega
    subst this
    exact ⟨a', c', h2, h3⟩

end Go.Proofs.YtcmhgpgookiomaaGreat
