/-
  diff3, plain: hunks, their sides, the other way round, one side. Nothing here names the program.
-/
import Derived.Test.YthedpnnfkmbdpaaLcs
namespace Go.Proofs.Ythedpnnfkmbdpaa

section
variable {α : Type}

/-- A hunk. -/
structure Hunk (α : Type) where
  k : Int
  x : List α
  a : List α
  b : List α

def lineL (m : List (Hunk α)) (s : α) : List (Hunk α) := match m.getLast? with
  | none => [⟨1, [s], [s], [s]⟩]
  | some h => if h.k = 1 then m.dropLast ++ [⟨1, h.x ++ [s], h.a ++ [s], h.b ++ [s]⟩] else m ++ [⟨1, [s], [s], [s]⟩]
def segL (l : List α) (i j : Nat) : List α := (l.drop i).take (j - i)
def lineAt (m : List (Hunk α)) (o : Option α) : List (Hunk α) := match o with
  | none => m
  | some s => lineL m s
theorem pw_mem {β : Type} {R : β → β → Prop} {l : List β} (h : l.Pairwise R) {u v : β} (hu : u ∈ l) (hv : v ∈ l) : u = v ∨ R u v ∨ R v u := by
  induction h with
  | nil => cases hu
  | @cons c l hc _ ih =>
    rcases List.mem_cons.1 hu with e | hu' <;> rcases List.mem_cons.1 hv with f | hv'
    · exact .inl (e.trans f.symm)
    · rw [e]; exact .inr (.inl (hc _ hv'))
    · rw [f]; exact .inr (.inr (hc _ hu'))
    · exact ih hu' hv'
/-- The anchors rise, each tells a line that all three have, but for the last one. -/
def Ok3 (x a b : List α) : (Nat × Nat × Nat) → List (Nat × Nat × Nat) → Prop
  | was, [] => was = (x.length + 1, a.length + 1, b.length + 1)
  | was, t :: r => was.1 ≤ t.1 ∧ was.2.1 ≤ t.2.1 ∧ was.2.2 ≤ t.2.2 ∧ t.1 ≤ x.length ∧ t.2.1 ≤ a.length ∧ t.2.2 ≤ b.length ∧
      ((∃ s, x[t.1]? = some s ∧ a[t.2.1]? = some s ∧ b[t.2.2]? = some s) ∨ t = (x.length, a.length, b.length)) ∧ Ok3 x a b (t.1 + 1, t.2.1 + 1, t.2.2 + 1) r
theorem ok3_of {x a b : List α} : ∀ (l : List (Nat × Nat × Nat)) (was : Nat × Nat × Nat), was.1 ≤ x.length → was.2.1 ≤ a.length → was.2.2 ≤ b.length → (∀ t ∈ l, was.1 ≤ t.1 ∧ was.2.1 ≤ t.2.1 ∧ was.2.2 ≤ t.2.2) →
    l.Pairwise (fun s t => s.1 < t.1 ∧ s.2.1 < t.2.1 ∧ s.2.2 < t.2.2) → (∀ t ∈ l, ∃ s, x[t.1]? = some s ∧ a[t.2.1]? = some s ∧ b[t.2.2]? = some s) → Ok3 x a b was (l ++ [(x.length, a.length, b.length)])
  | [], was, h1, h2, h3, _, _, _ => ⟨h1, h2, h3, Nat.le_refl _, Nat.le_refl _, Nat.le_refl _, .inr rfl, rfl⟩
  | t :: l, was, h1, h2, h3, h4, h5, h6 => by
    obtain ⟨p1, p2⟩ := List.pairwise_cons.1 h5
    obtain ⟨s, s1, s2, s3⟩ := h6 t (List.mem_cons_self ..)
    have l1 := (List.getElem?_eq_some_iff.1 s1).1
    have l2 := (List.getElem?_eq_some_iff.1 s2).1
    have l3 := (List.getElem?_eq_some_iff.1 s3).1
    obtain ⟨w1, w2, w3⟩ := h4 t (List.mem_cons_self ..)
    exact ⟨w1, w2, w3, by omega, by omega, by omega, .inl ⟨s, s1, s2, s3⟩, ok3_of l (t.1 + 1, t.2.1 + 1, t.2.2 + 1) l1 l2 l3 (fun u hu => by have := p1 u hu; exact ⟨this.1, this.2.1, this.2.2⟩) p2 (fun u hu => h6 u (List.mem_cons_of_mem _ hu))⟩
theorem flat_line (f : Hunk α → List α) (hf : ∀ k x a b s, f ⟨k, x ++ [s], a ++ [s], b ++ [s]⟩ = f ⟨k, x, a, b⟩ ++ [s]) (h0 : ∀ s, f ⟨1, [s], [s], [s]⟩ = [s]) (m : List (Hunk α)) (s : α) : (lineL m s).flatMap f = m.flatMap f ++ [s] := by
  unfold lineL
  cases hm : m.getLast? with
  | none => rw [List.getLast?_eq_none_iff.1 hm]; simp [h0]
  | some h =>
    simp only []
    split
    · rename_i hk
      obtain ⟨l, rfl⟩ := List.getLast?_eq_some_iff.1 hm
      obtain ⟨k, x, a, b⟩ := h
      simp only at hk
      subst hk
      simp [List.flatMap_append, hf]
    · simp [List.flatMap_append, h0]
theorem take_seg (l : List α) {i j : Nat} (h : i ≤ j) : l.take i ++ segL l i j = l.take j := by
  unfold segL
  rw [← List.take_add, show i + (j - i) = j by omega]
theorem take_snoc {l : List α} {i : Nat} {s : α} (h : l[i]? = some s) : l.take i ++ [s] = l.take (i + 1) := by rw [List.take_add_one, h]; rfl
def swapK (k : Int) : Int := if k = 2 then 3 else if k = 3 then 2 else k
def swapH (h : Hunk α) : Hunk α := ⟨swapK h.k, h.x, h.b, h.a⟩
theorem line_swap (m : List (Hunk α)) (s : α) : lineL (m.map swapH) s = (lineL m s).map swapH := by
  unfold lineL
  rw [List.getLast?_map]
  cases m.getLast? with
  | none => rfl
  | some h =>
    simp only [Option.map_some]
    have hk : (swapH h).k = 1 ↔ h.k = 1 := by
      show swapK h.k = 1 ↔ _
      unfold swapK
      split
      · omega
      · split
        · omega
        · rfl
    by_cases h1 : h.k = 1
    · rw [if_pos h1, if_pos (hk.2 h1), List.map_append, List.map_dropLast]; rfl
    · rw [if_neg h1, if_neg (fun h => h1 (hk.1 h)), List.map_append]; rfl
theorem all_line {P : Hunk α → Prop} (h0 : ∀ s, P ⟨1, [s], [s], [s]⟩) (h1 : ∀ h s, h.k = 1 → P h → P ⟨1, h.x ++ [s], h.a ++ [s], h.b ++ [s]⟩) {m : List (Hunk α)} (hm : ∀ h ∈ m, P h) (s : α) : ∀ h ∈ lineL m s, P h := by
  unfold lineL
  cases hl : m.getLast? with
  | none => intro h hh; simp at hh; subst hh; exact h0 s
  | some g =>
    simp only []
    obtain ⟨l, rfl⟩ := List.getLast?_eq_some_iff.1 hl
    split
    · rename_i hk
      intro h hh
      rcases List.mem_append.1 hh with hh | hh
      · exact hm h (List.mem_append_left _ (by simpa using hh))
      · simp at hh; subst hh
        exact h1 g s hk (hm g (by simp))
    · intro h hh
      rcases List.mem_append.1 hh with hh | hh
      · exact hm h hh
      · simp at hh; subst hh; exact h0 s
end

section
variable {α : Type} [DecidableEq α]

def kindL (x a b : List α) : Int := if a = b then 4 else if b = x then 2 else if a = x then 3 else 5
def lookL (q : List (Nat × Nat)) (i : Nat) : Option Nat := (q.find? (fun p => p.1 == i)).map (·.2)
/-- The places of the lines that all three have. -/
def midL (p q : List (Nat × Nat)) : List (Nat × Nat × Nat) := p.filterMap fun u => (lookL q u.1).map fun k => (u.1, u.2, k)
def anchL (x a b : List α) : List (Nat × Nat × Nat) := midL (commonL x 0 a 0) (commonL x 0 b 0) ++ [(x.length, a.length, b.length)]
def betweenL (m : List (Hunk α)) (x a b : List α) : List (Hunk α) := if 0 < x.length + a.length + b.length then m ++ [⟨kindL x a b, x, a, b⟩] else m
def stepL (x a b : List α) (st : (Nat × Nat × Nat) × List (Hunk α)) (t : Nat × Nat × Nat) : (Nat × Nat × Nat) × List (Hunk α) :=
  ((t.1 + 1, t.2.1 + 1, t.2.2 + 1), lineAt (betweenL st.2 (segL x st.1.1 t.1) (segL a st.1.2.1 t.2.1) (segL b st.1.2.2 t.2.2)) x[t.1]?)
def foldM (x a b : List α) (st : (Nat × Nat × Nat) × List (Hunk α)) (l : List (Nat × Nat × Nat)) : (Nat × Nat × Nat) × List (Hunk α) := l.foldl (stepL x a b) st
def mergeL (x a b : List α) : List (Hunk α) := (foldM x a b ((0, 0, 0), []) (anchL x a b)).2

/-! The pairs of commonL. -/
theorem cl_alike (xs : List α) : ∀ (i : Nat) (ys : List α) (j : Nat), ∀ p ∈ commonL xs i ys j, i ≤ p.1 ∧ j ≤ p.2 ∧ ∃ s, xs[p.1 - i]? = some s ∧ ys[p.2 - j]? = some s := by
  induction xs with
  | nil => intro i ys j p hp; simp [commonL] at hp
  | cons x xs ih =>
    intro i ys j p hp
    unfold commonL at hp
    split at hp
    · simp at hp
    · split at hp
      · obtain ⟨h1, h2, s, h3, h4⟩ := ih _ _ _ p hp
        refine ⟨by omega, h2, s, ?_, h4⟩
        rw [show p.1 - i = (p.1 - (i + 1)) + 1 by omega, List.getElem?_cons_succ]
        exact h3
      · rename_i k hb
        obtain ⟨hk, hx, _⟩ := beginsL_some hb
        rcases List.mem_cons.1 hp with rfl | hp
        · refine ⟨Nat.le_refl _, by simp, x, by simp, ?_⟩
          simp only [Nat.add_sub_cancel_left]
          rw [List.getElem?_eq_getElem hk, hx]
        · obtain ⟨h1, h2, s, h3, h4⟩ := ih _ _ _ p hp
          refine ⟨by omega, by omega, s, ?_, ?_⟩
          · rw [show p.1 - i = (p.1 - (i + 1)) + 1 by omega, List.getElem?_cons_succ]
            exact h3
          · rw [List.getElem?_drop] at h4
            rw [show p.2 - j = k + 1 + (p.2 - (j + k + 1)) by omega]
            exact h4
theorem cl_rises (xs : List α) : ∀ (i : Nat) (ys : List α) (j : Nat), (commonL xs i ys j).Pairwise (fun p q => p.1 < q.1 ∧ p.2 < q.2) := by
  induction xs with
  | nil => intro i ys j; simp [commonL]
  | cons x xs ih =>
    intro i ys j
    unfold commonL
    split
    · simp
    · split
      · exact ih _ _ _
      · rename_i k _
        refine List.Pairwise.cons (fun q hq => ?_) (ih _ _ _)
        have := cl_alike xs _ _ _ q hq
        simp only
        omega
theorem look_mem {q : List (Nat × Nat)} (hq : q.Pairwise (fun p q => p.1 < q.1 ∧ p.2 < q.2)) {i k : Nat} : lookL q i = some k ↔ (i, k) ∈ q := by
  unfold lookL
  constructor
  · intro h
    obtain ⟨p, hp, rfl⟩ := Option.map_eq_some_iff.1 h
    have h1 := List.find?_some hp
    have h2 := List.mem_of_find?_eq_some hp
    simp only [beq_iff_eq] at h1
    rw [← h1]
    exact h2
  · intro h
    cases hf : q.find? (fun p => p.1 == i) with
    | none =>
      have := List.find?_eq_none.1 hf (i, k) h
      simp at this
    | some p =>
      have h1 := List.find?_some hf
      have h2 := List.mem_of_find?_eq_some hf
      simp only [beq_iff_eq] at h1
      rcases pw_mem hq h2 h with rfl | h3 | h3
      · rfl
      · have := h3.1; simp only at this; omega
      · have := h3.1; simp only at this; omega
section
variable {p q : List (Nat × Nat)} (hp : p.Pairwise (fun p q => p.1 < q.1 ∧ p.2 < q.2)) (hq : q.Pairwise (fun p q => p.1 < q.1 ∧ p.2 < q.2))
include hq
theorem mid_mem {t : Nat × Nat × Nat} : t ∈ midL p q ↔ (t.1, t.2.1) ∈ p ∧ (t.1, t.2.2) ∈ q := by
  unfold midL
  rw [List.mem_filterMap]
  constructor
  · rintro ⟨u, hu, h⟩
    obtain ⟨k, hk, rfl⟩ := Option.map_eq_some_iff.1 h
    exact ⟨hu, (look_mem hq).1 hk⟩
  · rintro ⟨h1, h2⟩
    exact ⟨(t.1, t.2.1), h1, by rw [(look_mem hq).2 h2]; rfl⟩
include hp
theorem mid_rises : (midL p q).Pairwise (fun s t => s.1 < t.1 ∧ s.2.1 < t.2.1 ∧ s.2.2 < t.2.2) := by
  unfold midL
  refine List.Pairwise.filterMap _ (fun u v huv s hs t ht => ?_) hp
  obtain ⟨k, hk, rfl⟩ := Option.map_eq_some_iff.1 hs
  obtain ⟨m, hm, rfl⟩ := Option.map_eq_some_iff.1 ht
  refine ⟨huv.1, huv.2, ?_⟩
  have h1 := (look_mem hq).1 hk
  have h2 := (look_mem hq).1 hm
  have h3 := huv.1
  rcases pw_mem hq h1 h2 with h | h | h
  · simp only [Prod.mk.injEq] at h; omega
  · exact h.2
  · have := h.1; simp only at this; omega
end
def swapT (t : Nat × Nat × Nat) : Nat × Nat × Nat := (t.1, t.2.2, t.2.1)
theorem sorted_ext {l l' : List (Nat × Nat × Nat)} (h : l.Pairwise (fun s t => s.1 < t.1)) (h' : l'.Pairwise (fun s t => s.1 < t.1)) (hm : ∀ t, t ∈ l ↔ t ∈ l') : l = l' := by
  induction l generalizing l' with
  | nil =>
    cases l' with
    | nil => rfl
    | cons t l' => exact absurd ((hm t).2 (List.mem_cons_self ..)) (by simp)
  | cons s l ih =>
    cases l' with
    | nil => exact absurd ((hm s).1 (List.mem_cons_self ..)) (by simp)
    | cons t l' =>
      obtain ⟨h1, h2⟩ := List.pairwise_cons.1 h
      obtain ⟨h3, h4⟩ := List.pairwise_cons.1 h'
      have hst : s = t := by
        rcases List.mem_cons.1 ((hm s).1 (List.mem_cons_self ..)) with h5 | h5
        · exact h5
        · rcases List.mem_cons.1 ((hm t).2 (List.mem_cons_self ..)) with h6 | h6
          · exact h6.symm
          · have := h3 s h5; have := h1 t h6; omega
      subst hst
      rw [ih h2 h4 (fun u => ⟨fun hu => ?_, fun hu => ?_⟩)]
      · rcases List.mem_cons.1 ((hm u).1 (List.mem_cons_of_mem _ hu)) with h5 | h5
        · subst h5; have := h1 u hu; omega
        · exact h5
      · rcases List.mem_cons.1 ((hm u).2 (List.mem_cons_of_mem _ hu)) with h5 | h5
        · subst h5; have := h3 u hu; omega
        · exact h5
theorem mid_swap {p q : List (Nat × Nat)} (hp : p.Pairwise (fun p q => p.1 < q.1 ∧ p.2 < q.2)) (hq : q.Pairwise (fun p q => p.1 < q.1 ∧ p.2 < q.2)) : midL q p = (midL p q).map swapT := by
  refine sorted_ext ((mid_rises hq hp).imp (fun h => h.1)) ?_ (fun t => ?_)
  · rw [List.pairwise_map]
    exact (mid_rises hp hq).imp (fun h => h.1)
  · rw [mid_mem hp, List.mem_map]
    constructor
    · rintro ⟨h1, h2⟩
      exact ⟨(t.1, t.2.2, t.2.1), (mid_mem hq).2 ⟨h2, h1⟩, rfl⟩
    · rintro ⟨u, hu, rfl⟩
      obtain ⟨h1, h2⟩ := (mid_mem hq).1 hu
      exact ⟨h2, h1⟩

theorem anch_ok (x a b : List α) : Ok3 x a b (0, 0, 0) (anchL x a b) := by
  unfold anchL
  have hp := cl_rises x 0 a 0
  have hq := cl_rises x 0 b 0
  refine ok3_of _ _ (Nat.zero_le _) (Nat.zero_le _) (Nat.zero_le _) (fun t _ => ⟨Nat.zero_le _, Nat.zero_le _, Nat.zero_le _⟩) (mid_rises hp hq) (fun t ht => ?_)
  obtain ⟨h1, h2⟩ := (mid_mem hq).1 ht
  obtain ⟨_, _, s, s1, s2⟩ := cl_alike x 0 a 0 _ h1
  obtain ⟨_, _, r, r1, r2⟩ := cl_alike x 0 b 0 _ h2
  simp only [Nat.sub_zero] at s1 s2 r1 r2
  rw [s1] at r1
  cases r1
  exact ⟨s, s1, s2, r2⟩

/-! Sides. -/
theorem flat_between (m : List (Hunk α)) (x a b : List α) : (betweenL m x a b).flatMap (·.x) = m.flatMap (·.x) ++ x ∧ (betweenL m x a b).flatMap (·.a) = m.flatMap (·.a) ++ a ∧ (betweenL m x a b).flatMap (·.b) = m.flatMap (·.b) ++ b := by
  unfold betweenL
  split
  · simp [List.flatMap_append]
  · rename_i h
    have h1 : x = [] := List.eq_nil_of_length_eq_zero (by omega)
    have h2 : a = [] := List.eq_nil_of_length_eq_zero (by omega)
    have h3 : b = [] := List.eq_nil_of_length_eq_zero (by omega)
    simp [h1, h2, h3]
def Flat (x a b : List α) (st : (Nat × Nat × Nat) × List (Hunk α)) : Prop := st.2.flatMap (·.x) = x.take st.1.1 ∧ st.2.flatMap (·.a) = a.take st.1.2.1 ∧ st.2.flatMap (·.b) = b.take st.1.2.2
theorem flat_fold {x a b : List α} : ∀ (l : List (Nat × Nat × Nat)) (st : (Nat × Nat × Nat) × List (Hunk α)), Ok3 x a b st.1 l → Flat x a b st → (foldM x a b st l).2.flatMap (·.x) = x ∧ (foldM x a b st l).2.flatMap (·.a) = a ∧ (foldM x a b st l).2.flatMap (·.b) = b
  | [], st, hok, hF => by
    obtain ⟨h1, h2, h3⟩ := hF
    have hs : st.1 = (x.length + 1, a.length + 1, b.length + 1) := hok
    rw [hs] at h1 h2 h3
    rw [List.take_of_length_le (by simp)] at h1 h2 h3
    exact ⟨h1, h2, h3⟩
  | t :: l, st, hok, hF => by
    obtain ⟨w1, w2, w3, l1, l2, l3, hal, hok2⟩ := hok
    obtain ⟨h1, h2, h3⟩ := hF
    refine flat_fold l (stepL x a b st t) hok2 ?_
    obtain ⟨b1, b2, b3⟩ := flat_between st.2 (segL x st.1.1 t.1) (segL a st.1.2.1 t.2.1) (segL b st.1.2.2 t.2.2)
    rw [h1, take_seg x w1] at b1
    rw [h2, take_seg a w2] at b2
    rw [h3, take_seg b w3] at b3
    rcases hal with ⟨s, s1, s2, s3⟩ | rfl
    · unfold Flat stepL lineAt
      simp only [s1]
      refine ⟨?_, ?_, ?_⟩
      · rw [flat_line (fun h => h.x) (fun _ _ _ _ _ => rfl) (fun _ => rfl), b1, take_snoc s1]
      · rw [flat_line (fun h => h.a) (fun _ _ _ _ _ => rfl) (fun _ => rfl), b2, take_snoc s2]
      · rw [flat_line (fun h => h.b) (fun _ _ _ _ _ => rfl) (fun _ => rfl), b3, take_snoc s3]
    · unfold Flat stepL lineAt
      simp only [List.getElem?_eq_none (Nat.le_refl x.length)]
      refine ⟨?_, ?_, ?_⟩
      · rw [b1, List.take_of_length_le (by simp), List.take_of_length_le (by simp)]
      · rw [b2, List.take_of_length_le (by simp), List.take_of_length_le (by simp)]
      · rw [b3, List.take_of_length_le (by simp), List.take_of_length_le (by simp)]
/-- THE SIDES of what is put together are what they were. -/
theorem merge_sides (x a b : List α) : (mergeL x a b).flatMap (·.x) = x ∧ (mergeL x a b).flatMap (·.a) = a ∧ (mergeL x a b).flatMap (·.b) = b :=
  flat_fold _ _ (anch_ok x a b) ⟨rfl, rfl, rfl⟩

/-! The other way round. -/
theorem kind_swap (x a b : List α) : kindL x b a = swapK (kindL x a b) := by
  unfold kindL swapK
  by_cases h1 : a = b
  · subst h1; simp
  · rw [if_neg h1, if_neg (Ne.symm h1)]
    by_cases h2 : b = x
    · subst h2; rw [if_neg h1, if_pos rfl, if_pos rfl]; rfl
    · by_cases h3 : a = x
      · subst h3; rw [if_pos rfl, if_neg h2, if_pos rfl]; rfl
      · rw [if_neg h3, if_neg h2, if_neg h2, if_neg h3]; rfl
theorem between_swap (m : List (Hunk α)) (x a b : List α) : betweenL (m.map swapH) x b a = (betweenL m x a b).map swapH := by
  unfold betweenL
  rw [show x.length + b.length + a.length = x.length + a.length + b.length by omega]
  split
  · rw [List.map_append, kind_swap x a b]; rfl
  · rfl
theorem step_swap (x a b : List α) (st : (Nat × Nat × Nat) × List (Hunk α)) (t : Nat × Nat × Nat) : stepL x b a (swapT st.1, st.2.map swapH) (swapT t) = (swapT (stepL x a b st t).1, (stepL x a b st t).2.map swapH) := by
  unfold stepL
  simp only [swapT]
  rw [between_swap]
  congr 1
  unfold lineAt
  cases x[t.1]? with
  | none => rfl
  | some s => exact line_swap _ _
theorem fold_swap (x a b : List α) : ∀ (l : List (Nat × Nat × Nat)) (st : (Nat × Nat × Nat) × List (Hunk α)), foldM x b a (swapT st.1, st.2.map swapH) (l.map swapT) = (swapT (foldM x a b st l).1, (foldM x a b st l).2.map swapH)
  | [], st => rfl
  | t :: l, st => by
    have := fold_swap x a b l (stepL x a b st t)
    rw [← step_swap] at this
    exact this
/-- THE OTHER WAY ROUND the same hunks come, their sides exchanged. -/
theorem merge_swap (x a b : List α) : mergeL x b a = (mergeL x a b).map swapH := by
  unfold mergeL
  have h : anchL x b a = (anchL x a b).map swapT := by
    unfold anchL
    rw [List.map_append, mid_swap (cl_rises x 0 a 0) (cl_rises x 0 b 0)]
    rfl
  rw [h]
  have := fold_swap x a b (anchL x a b) ((0, 0, 0), [])
  exact congrArg (·.2) this

/-! What all hunks are. -/
theorem all_fold {P : Hunk α → Prop} {x a b : List α} (C : (Nat × Nat × Nat) → Prop) (h0 : ∀ s, P ⟨1, [s], [s], [s]⟩) (h1 : ∀ h s, h.k = 1 → P h → P ⟨1, h.x ++ [s], h.a ++ [s], h.b ++ [s]⟩)
    (hb : ∀ was t : Nat × Nat × Nat, C was → C t → P ⟨kindL (segL x was.1 t.1) (segL a was.2.1 t.2.1) (segL b was.2.2 t.2.2), segL x was.1 t.1, segL a was.2.1 t.2.1, segL b was.2.2 t.2.2⟩) (hC : ∀ t, C t → C (t.1 + 1, t.2.1 + 1, t.2.2 + 1)) :
    ∀ (l : List (Nat × Nat × Nat)) (st : (Nat × Nat × Nat) × List (Hunk α)), C st.1 → (∀ t ∈ l, C t) → (∀ h ∈ st.2, P h) → ∀ h ∈ (foldM x a b st l).2, P h
  | [], st, _, _, hm => hm
  | t :: l, st, hw, hl, hm => by
    have ht := hl t (List.mem_cons_self ..)
    have hbt : ∀ h ∈ betweenL st.2 (segL x st.1.1 t.1) (segL a st.1.2.1 t.2.1) (segL b st.1.2.2 t.2.2), P h := by
      unfold betweenL
      split
      · intro h hh
        rcases List.mem_append.1 hh with hh | hh
        · exact hm h hh
        · simp at hh; subst hh; exact hb st.1 t hw ht
      · exact hm
    refine all_fold C h0 h1 hb hC l (stepL x a b st t) (hC t ht) (fun u hu => hl u (List.mem_cons_of_mem _ hu)) ?_
    unfold stepL lineAt
    cases x[t.1]? with
    | none => exact hbt
    | some s => exact all_line h0 h1 hbt s
theorem cl_self_mem {x : List α} {p : Nat × Nat} (h : p ∈ commonL x 0 x 0) : p.1 = p.2 := by
  rw [commonL_self] at h
  obtain ⟨k, _, rfl⟩ := List.mem_map.1 h
  rfl
/-- Of base, a, base: no hunk is a conflict, none is of b's. -/
theorem merge_one (x a : List α) : ∀ h ∈ mergeL x a x, h.k ≠ 5 ∧ h.k ≠ 3 := by
  refine all_fold (P := fun h => h.k ≠ 5 ∧ h.k ≠ 3) (fun t => t.1 = t.2.2) (fun _ => ⟨by show (1 : Int) ≠ 5; decide, by show (1 : Int) ≠ 3; decide⟩) (fun _ _ _ _ => ⟨by show (1 : Int) ≠ 5; decide, by show (1 : Int) ≠ 3; decide⟩) (fun was t hw ht => ?_) (fun t ht => by show t.1 + 1 = t.2.2 + 1; omega) _ _ rfl (fun t ht => ?_) (by simp)
  · show kindL _ _ _ ≠ 5 ∧ kindL _ _ _ ≠ 3
    rw [← hw, ← ht]
    unfold kindL
    split
    · decide
    · rw [if_pos rfl]; decide
  · unfold anchL at ht
    rcases List.mem_append.1 ht with ht | ht
    · exact cl_self_mem ((mid_mem (cl_rises x 0 x 0)).1 ht).2
    · simp at ht; subst ht; rfl
/-- Of base, base, b: no hunk is a conflict; where it is not b's, both sides are alike. -/
theorem merge_two (x b : List α) : ∀ h ∈ mergeL x x b, h.k ≠ 5 ∧ (h.k ≠ 3 → h.a = h.b) := by
  refine all_fold (P := fun h => h.k ≠ 5 ∧ (h.k ≠ 3 → h.a = h.b)) (fun t => t.1 = t.2.1) (fun _ => ⟨by show (1 : Int) ≠ 5; decide, fun _ => rfl⟩) (fun h s hk hP => ⟨by show (1 : Int) ≠ 5; decide, fun _ => by show h.a ++ [s] = h.b ++ [s]; rw [hP.2 (by rw [hk]; decide)]⟩) (fun was t hw ht => ?_) (fun t ht => by show t.1 + 1 = t.2.1 + 1; omega) _ _ rfl (fun t ht => ?_) (by simp)
  · show kindL _ _ _ ≠ 5 ∧ (kindL _ _ _ ≠ 3 → _ = _)
    rw [← hw, ← ht]
    unfold kindL
    split
    · rename_i h; exact ⟨by decide, fun _ => h⟩
    · rename_i h
      rw [if_neg (Ne.symm h), if_pos rfl]
      exact ⟨by decide, fun h => absurd rfl h⟩
  · unfold anchL at ht
    rcases List.mem_append.1 ht with ht | ht
    · exact cl_self_mem ((mid_mem (cl_rises x 0 b 0)).1 ht).1
    · simp at ht; subst ht; rfl
/-- Of base, a, a: no hunk is a conflict, none is of b's alone. -/
theorem merge_three (x a : List α) : ∀ h ∈ mergeL x a a, h.k ≠ 5 ∧ h.k ≠ 3 := by
  refine all_fold (P := fun h => h.k ≠ 5 ∧ h.k ≠ 3) (fun t => t.2.1 = t.2.2) (fun _ => ⟨by show (1 : Int) ≠ 5; decide, by show (1 : Int) ≠ 3; decide⟩) (fun _ _ _ _ => ⟨by show (1 : Int) ≠ 5; decide, by show (1 : Int) ≠ 3; decide⟩) (fun was t hw ht => ?_) (fun t ht => by show t.2.1 + 1 = t.2.2 + 1; omega) _ _ rfl (fun t ht => ?_) (by simp)
  · show kindL _ _ _ ≠ 5 ∧ kindL _ _ _ ≠ 3
    rw [← hw, ← ht]
    unfold kindL
    rw [if_pos rfl]; decide
  · unfold anchL at ht
    rcases List.mem_append.1 ht with ht | ht
    · obtain ⟨h1, h2⟩ := (mid_mem (cl_rises x 0 a 0)).1 ht
      rcases pw_mem (cl_rises x 0 a 0) h1 h2 with h | h | h
      · simpa using h
      · have := h.1; simp only at this; omega
      · have := h.1; simp only at this; omega
    · simp at ht; subst ht; rfl
end
end Go.Proofs.Ythedpnnfkmbdpaa
