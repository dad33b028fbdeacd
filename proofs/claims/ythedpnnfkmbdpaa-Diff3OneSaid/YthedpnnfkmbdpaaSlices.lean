/-
  Slices that are read ('Row'), slices of the call's own ('ownsRow'), append and make as equations, bytes and words as cells. Nothing here names the program.
-/
import Derived.Test.YthedpnnfkmbdpaaBase
import Derived.Laws.AppendOwnNone
import Derived.Laws.CopyOwn
import Derived.WalkSpells
import Derived.WalkLawsBesides
namespace Go.Proofs.Ythedpnnfkmbdpaa
open Go.RowKit

/-- The slice (a, n, c) of elements of sz cells holds the cells xs. -/
def Row (sz : Nat) (w : World) (a : Option Addr) (n c : Nat) (xs : List Value) : Prop :=
  n ≤ c ∧ c ≤ maxLen ∧ xs.length = n * sz ∧ (a = none → c = 0) ∧
  (0 < n → ∃ b off, a = some ⟨b, off, none⟩ ∧ ∀ i u, xs[i]? = some u → w.cell? ⟨b, off + i, none⟩ = some u)

section
variable {sz : Nat} {w : World} {a : Option Addr} {n c : Nat} {xs : List Value}
theorem addr_add (b off i : Nat) : (⟨b, off, none⟩ : Addr).add i = ⟨b, off + i, none⟩ := by unfold Addr.add; split <;> simp_all
theorem Row.keep {X : Nat → Obj → Prop} {w' : World} (h : Row sz w a n c xs) (hk : Keep X w w')
    (hX : ∀ p o, a = some p → w.heap[p.block]? = some o → o.isCells = true → ¬ X p.block o) : Row sz w' a n c xs := by
  refine ⟨h.1, h.2.1, h.2.2.1, h.2.2.2.1, fun hn => ?_⟩
  obtain ⟨b, off, rfl, hc⟩ := h.2.2.2.2 hn
  exact ⟨b, off, rfl, fun i u hu => hk.cell (hc i u hu) (fun o ho hcell => hX ⟨b, off, none⟩ o rfl ho hcell)⟩
theorem Row.ext {w' : World} (h : Row sz w a n c xs) (hk : Ext w w') : Row sz w' a n c xs := h.keep hk (fun _ _ _ _ _ h => h)
theorem Row.turn {B : Nat} {X : Nat → Prop} {w' : World} (h : Row sz w a n c xs) (hk : Keep (turn B X) w w') (hX : ∀ p, a = some p → ¬ X p.block) : Row sz w' a n c xs :=
  h.keep hk (fun p o hp _ hc hx => by rcases hx with hx | hx; exact hX p hp hx; rw [hc] at hx; cases hx.2)
theorem Row.nil (sz : Nat) (w : World) : Row sz w none 0 0 [] := ⟨by simp, by simp [maxLen], by simp, by simp, by simp⟩
theorem Row.cut (h : Row sz w a n c xs) {lo hi : Nat} (h1 : lo ≤ hi) (h2 : hi ≤ n) :
    Row sz w (if c = lo then a else a.map (·.add (lo * sz))) (hi - lo) (c - lo) ((xs.drop (lo * sz)).take ((hi - lo) * sz)) := by
  obtain ⟨hnc, hm, hl, hnone, hc⟩ := h
  have e1 : (hi - lo) * sz = hi * sz - lo * sz := Nat.sub_mul _ _ _
  have e2 : hi * sz ≤ n * sz := Nat.mul_le_mul_right _ h2
  have e3 : lo * sz ≤ hi * sz := Nat.mul_le_mul_right _ h1
  refine ⟨by omega, by omega, by rw [List.length_take, List.length_drop, hl, e1]; omega, ?_, fun hn => ?_⟩
  · intro ha
    split at ha
    · have := hnone ha; omega
    · cases a with
      | none => have := hnone rfl; omega
      | some p => simp at ha
  · obtain ⟨b, off, rfl, hcell⟩ := hc (by omega)
    refine ⟨b, off + lo * sz, ?_, fun i u hu => ?_⟩
    · rw [if_neg (by omega), Option.map_some, addr_add]
    · rw [Nat.add_assoc]
      refine hcell (lo * sz + i) u ?_
      rw [List.getElem?_take] at hu
      split at hu
      · rw [List.getElem?_drop] at hu; exact hu
      · cases hu
theorem owns_row {base : Nat} {e : TypeId} {v : Value} (h : w.ownsRow base e sz v n xs) : ∃ a c, v = .slice a n c ∧ Row sz w a n c xs := by
  have hlen := h.1
  rcases h.2 with ⟨rfl, rfl⟩ | ⟨g, cap, cur, rfl, hb, hg, hnc, hcm, hcs, htake⟩
  · have hx : xs = [] := List.eq_nil_of_length_eq_zero (by simpa using hlen)
    subst hx
    exact ⟨none, 0, rfl, Row.nil _ _⟩
  · refine ⟨_, cap, rfl, hnc, hcm, hlen, by simp, fun _ => ⟨g, 0, rfl, fun i u hu => ?_⟩⟩
    have := h.cells (g := g) rfl i u hu
    rwa [addr_add] at this
theorem Row.cell (h : Row sz w a n c xs) {b off : Nat} (ha : a = some ⟨b, off, none⟩) {i : Nat} {u : Value} (hu : xs[i]? = some u) (hn : 0 < n) : w.cell? ⟨b, off + i, none⟩ = some u := by
  obtain ⟨b', off', ha', hc⟩ := h.2.2.2.2 hn
  rw [ha] at ha'; cases ha'
  exact hc i u hu
end

/-- A byte as a cell, a word as a cell. -/
def u8v (u : UInt8) : Value := .int .u8 (u.toNat : Int)
def u32v (u : UInt32) : Value := .int .u32 (u.toNat : Int)
theorem u8v_one (l : List UInt8) : ∀ u ∈ l.map u8v, u.oneCell' = true := by
  intro u hu
  obtain ⟨x, _, rfl⟩ := List.mem_map.1 hu
  rfl
theorem u32v_one (l : List UInt32) : ∀ u ∈ l.map u32v, u.oneCell' = true := by
  intro u hu
  obtain ⟨x, _, rfl⟩ := List.mem_map.1 hu
  rfl

/-- append onto what the call owns, whatever slice is appended. -/
theorem run_append_row {P : Program} (w : World) (base : Nat) (t ty e : TypeId) (z : Value) (size bytes : Nat) (ht : P.underlying t = some (.slice e))
    (hinfo : (P.info? e).map (fun i => (i.zero, i.size, i.bytes)) = some (some z, size, bytes)) (hzs : z.cells.size = size) (hsz : 0 < size)
    {v : Value} {n : Nat} {xs : List Value} (hown : w.ownsRow base e size v n xs) {a : Option Addr} {m c : Nat} {news : List Value} (hr : Row size w a m c news) (h1 : ∀ u ∈ news, u.oneCell' = true)
    (h63 : n + m ≤ maxLen) (hbytes : (n + m) * bytes ≤ 140737488355328) (hbase : base ≤ w.heap.size) :
    ∃ v' w', (Builtin.append_ #[t, t] ty #[v, .slice a m c]).run P w = .ok v' w' ∧ w'.ownsRow base e size v' (n + m) (xs ++ news) ∧ w.grownBy w' v.ownBlock ∧
      (v' = .slice none 0 0 ↔ v = .slice none 0 0 ∧ m = 0) := by
  obtain ⟨i, hi, hz, hs, hb⟩ := info_parts hinfo
  cases a with
  | none =>
    have hc := hr.2.2.2.1 rfl
    have hm : m = 0 := by have := hr.1; omega
    subst hc; subst hm
    have hn : news = [] := List.eq_nil_of_length_eq_zero (by simpa using hr.2.2.1)
    subst hn
    refine ⟨v, w, run_append_owned_none w base t ty e i size ht hi v n xs hown, by simpa using hown, ⟨rfl, rfl, rfl, Nat.le_refl _, fun _ _ _ => rfl⟩, by simp⟩
  | some p =>
    refine run_append_own (P := P) w base t ty e i z size bytes ht hi hz hs hb hzs hsz v n xs hown p m c news hr.2.2.1 ?_ h1 h63 hbytes hbase
    intro j u hu
    by_cases hm : 0 < m
    · obtain ⟨b, off, hp, hcell⟩ := hr.2.2.2.2 hm
      cases hp
      rw [addr_add]; exact hcell j u hu
    · have hn : news = [] := List.eq_nil_of_length_eq_zero (by have := hr.2.2.1; simp [show m = 0 by omega] at this; simpa using this)
      subst hn; simp at hu

section
variable {P : Program} {w w' : World} {ops : Array Oper} {rest : List Oper} {o : Oper} {a : Act} {Q : Exit → Act → World → Prop} {s x : Operand} {t1 t2 : TypeId} {v xv v' : Value}
/-- The append at the head of the walk, its run known. -/
theorem wpList_append_run (hrun : (Builtin.append_ #[t1, t2] o.type #[v, xv]).run P w = .ok v' w') (hgd : o.guard = none)
    (ho : o.op = .call { callee := .builtin .append, args := #[s, x], argTypes := #[t1, t2] }) (hs : a.eval s = v) (hx : a.eval x = xv)
    (h : wpList P ops Q rest (a.put o.dst v') w') : wpList P ops Q (o :: rest) a w := by
  refine wpList_plain hgd fun K hK => ?_
  unfold Oper.wp
  simp [execOp, ho, resolve, invoke, builtin, hs, hx, hrun, Result.andThen]
  exact hK _ _ h
theorem wpListIn_append_run {F : Fence} {n : Nat} (hrun : (Builtin.append_ #[t1, t2] o.type #[v, xv]).run P w = .ok v' w') (hgd : o.guard = none)
    (ho : o.op = .call { callee := .builtin .append, args := #[s, x], argTypes := #[t1, t2] }) (hs : a.eval s = v) (hx : a.eval x = xv)
    (h : wpListIn F n P ops Q rest (a.put o.dst v') w') : wpListIn F n P ops Q (o :: rest) a w := by
  refine wpListIn_plain hgd fun K hK => ?_
  unfold Oper.wpIn
  refine ⟨?_, ?_⟩
  · simp [Oper.about, ho, resolve, Target.leads, Sem.run_pure]
  · rw [Oper.semAt_plain F _ _ (by rw [ho]; intro c hc'; cases hc')]
    simp [execOp, ho, resolve, invoke, builtin, hs, hx, hrun, Result.andThen]
    exact hK _ _ h
theorem wpList_copy_run (hrun : (Builtin.copy_ #[t1, t2] o.type #[v, xv]).run P w = .ok v' w') (hgd : o.guard = none)
    (ho : o.op = .call { callee := .builtin .copy, args := #[s, x], argTypes := #[t1, t2] }) (hs : a.eval s = v) (hx : a.eval x = xv)
    (h : wpList P ops Q rest (a.put o.dst v') w') : wpList P ops Q (o :: rest) a w := by
  refine wpList_plain hgd fun K hK => ?_
  unfold Oper.wp
  simp [execOp, ho, resolve, invoke, builtin, hs, hx, hrun, Result.andThen]
  exact hK _ _ h
theorem wpListIn_copy_run {F : Fence} {n : Nat} (hrun : (Builtin.copy_ #[t1, t2] o.type #[v, xv]).run P w = .ok v' w') (hgd : o.guard = none)
    (ho : o.op = .call { callee := .builtin .copy, args := #[s, x], argTypes := #[t1, t2] }) (hs : a.eval s = v) (hx : a.eval x = xv)
    (h : wpListIn F n P ops Q rest (a.put o.dst v') w') : wpListIn F n P ops Q (o :: rest) a w := by
  refine wpListIn_plain hgd fun K hK => ?_
  unfold Oper.wpIn
  refine ⟨?_, ?_⟩
  · simp [Oper.about, ho, resolve, Target.leads, Sem.run_pure]
  · rw [Oper.semAt_plain F _ _ (by rw [ho]; intro c hc'; cases hc')]
    simp [execOp, ho, resolve, invoke, builtin, hs, hx, hrun, Result.andThen]
    exact hK _ _ h
end

/-- 'out = append(out, ..)' where out lies in a box. W0: the world with the block of what is appended; w1: behind the append. -/
theorem box_append {X : Nat → Obj → Prop} {W W0 w1 : World} {base B : Nat} {t e : TypeId} {sz k m : Nat} {v v' : Value} {xs ys : List Value}
    (hv : Boxed W B t v) (hte : t ≠ e) (hrow : W.ownsRow base e sz v k xs) (hE : Ext W W0) (hown' : w1.ownsRow base e sz v' m ys) (hgrow : W0.grownBy w1 v.ownBlock)
    (hXB : X B (.cells #[v] t (0, 0))) (hXr : ∀ g cur, v.ownBlock = some g → X g (.cells cur e (0, 0))) :
    Boxed w1 B t v ∧ Boxed (w1.setCell ⟨B, 0, none⟩ v') B t v' ∧ (w1.setCell ⟨B, 0, none⟩ v').ownsRow base e sz v' m ys ∧ Keep X W (w1.setCell ⟨B, 0, none⟩ v') := by
  have hv0 := hE.boxed hv
  have hv1 : Boxed w1 B t v := hv0.kept hgrow (hv.not_row hte hrow)
  refine ⟨hv1, hv1.set v', hown'.kept (grownBy_setCell' w1 B v') (.inr (hv1.not_row hte hown').symm), ?_⟩
  refine ((Keep.of_ext hE).grown hgrow (fun g o hg ho => ?_)).setCell _ _ (fun o ho => ?_)
  · rcases hrow.2 with ⟨rfl, _⟩ | ⟨g', cap, cur, rfl, _, hgb, _⟩
    · simp [Value.ownBlock] at hg
    · obtain rfl : g' = g := by simpa [Value.ownBlock] using hg
      rw [hgb] at ho; cases ho; exact hXr _ _ rfl
  · rw [show W.heap[B]? = _ from hv] at ho; cases ho; exact hXB

theorem Keep.owns' {X : Nat → Obj → Prop} {A B : World} {base n sz : Nat} {e : TypeId} {v : Value} {xs : List Value} (h : Keep X A B) (ho : A.ownsRow base e sz v n xs)
    (hX : ∀ k cur, v.ownBlock = some k → ¬ X k (.cells cur e (0, 0))) : B.ownsRow base e sz v n xs := by
  refine ⟨ho.1, ?_⟩
  rcases ho.2 with hn | ⟨g, cap, cur, rfl, hb, hg, rest⟩
  · exact .inl hn
  · exact .inr ⟨g, cap, cur, rfl, hb, h.block g _ hg (hX g _ rfl), rest⟩

/-- A block of cells of another type than e. -/
def NotOf (e : TypeId) (o : Obj) : Prop := ∀ cur fr, o ≠ .cells cur e fr
theorem notOf_cells {e t : TypeId} {cur : Array Value} {fr : Nat × Nat} (h : t ≠ e) : NotOf e (.cells cur t fr) := fun _ _ h' => by cases h'; exact h rfl

/-- Texts: a slice of slices of bytes. -/
def Texts (w : World) (a : Option Addr) (n c : Nat) (ls : List (List UInt8)) : Prop :=
  ∃ vs : List Value, Row 1 w a n c vs ∧ n = ls.length ∧ ∀ (i : Nat) (l : List UInt8), ls[i]? = some l → ∃ a' c', vs[i]? = some (.slice a' l.length c') ∧ Row 1 w a' l.length c' (l.map u8v)
/-- The cells vs are texts in blocks of their own. -/
def OwnTexts (w : World) (vs : List Value) (ls : List (List UInt8)) : Prop :=
  vs.length = ls.length ∧ ∀ (i : Nat) (l : List UInt8) (v : Value), ls[i]? = some l → vs[i]? = some v → w.ownsRow 0 5 1 v l.length (l.map u8v)
theorem OwnTexts.keep {X : Nat → Obj → Prop} {A B : World} {vs : List Value} {ls : List (List UInt8)} (h : OwnTexts A vs ls) (hk : Keep X A B) (hX : ∀ k cur, ¬ X k (.cells cur 5 (0, 0))) : OwnTexts B vs ls :=
  ⟨h.1, fun i l v hl hv => hk.owns' (h.2 i l v hl hv) (fun k cur _ => hX k cur)⟩
theorem OwnTexts.snoc {A : World} {vs : List Value} {ls : List (List UInt8)} {v : Value} {l : List UInt8} (h : OwnTexts A vs ls) (hv : A.ownsRow 0 5 1 v l.length (l.map u8v)) : OwnTexts A (vs ++ [v]) (ls ++ [l]) := by
  refine ⟨by simp [h.1], fun i l' v' hl hv' => ?_⟩
  by_cases hi : i < vs.length
  · rw [List.getElem?_append_left (by rw [← h.1]; exact hi)] at hl
    rw [List.getElem?_append_left hi] at hv'
    exact h.2 i l' v' hl hv'
  · rw [List.getElem?_append_right (by rw [← h.1]; omega), ← h.1] at hl
    rw [List.getElem?_append_right (by omega)] at hv'
    cases hk : i - vs.length with
    | zero => rw [hk] at hl hv'; simp at hl hv'; subst hl; subst hv'; exact hv
    | succ k => rw [hk] at hl; simp at hl
theorem OwnTexts.texts {w : World} {vs : List Value} {ls : List (List UInt8)} {a : Option Addr} {n c : Nat} (h : OwnTexts w vs ls) (hr : Row 1 w a n c vs) : Texts w a n c ls := by
  refine ⟨vs, hr, by have := hr.2.2.1; have := h.1; omega, fun i l hl => ?_⟩
  have hi : i < vs.length := by rw [h.1]; exact (List.getElem?_eq_some_iff.1 hl).1
  obtain ⟨a', c', h1, h2⟩ := owns_row (h.2 i l vs[i] hl (List.getElem?_eq_getElem hi))
  exact ⟨a', c', by rw [List.getElem?_eq_getElem hi, h1], h2⟩
theorem Texts.ext {w w' : World} {a : Option Addr} {n c : Nat} {ls : List (List UInt8)} (h : Texts w a n c ls) (hE : Ext w w') : Texts w' a n c ls := by
  obtain ⟨vs, hr, hn, hl⟩ := h
  exact ⟨vs, hr.ext hE, hn, fun i l h => let ⟨a', c', h1, h2⟩ := hl i l h; ⟨a', c', h1, h2.ext hE⟩⟩

/-- string(b). -/
theorem run_string_row {P : Program} (w : World) (src dst e : TypeId) (hs : P.underlying src = some (.slice e)) (he : P.underlying e = some (.int .u8)) (hd : P.underlying dst = some .string)
    {a : Option Addr} {n c : Nat} {l : List UInt8} (hr : Row 1 w a n c (l.map u8v)) : (convert src dst (.slice a n c)).run P w = .ok (.string ⟨l.toArray⟩) w := by
  have hl : l.length = n := by have := hr.2.2.1; simpa using this
  cases a with
  | none =>
    have hc := hr.2.2.2.1 rfl
    have hm : n = 0 := by have := hr.1; omega
    subst hm
    obtain rfl : l = [] := List.eq_nil_of_length_eq_zero hl
    subst hc; exact run_convert_bytes_nil w src e hs he 0 0 dst hd
  | some p =>
    subst hl
    refine run_convert_bytes_back w src dst e p c l hs he hd ?_
    intro j hj
    obtain ⟨b, off, hp, hcell⟩ := hr.2.2.2.2 (by omega)
    cases hp
    rw [addr_add]
    exact hcell j _ (by simp [hj, u8v])
end Go.Proofs.Ythedpnnfkmbdpaa
