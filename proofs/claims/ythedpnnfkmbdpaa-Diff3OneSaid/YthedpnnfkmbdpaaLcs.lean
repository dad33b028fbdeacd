/-
  The longest list of alike places of two lists: its length, the least one, that none is longer. Nothing here names the program.
-/
import Derived.Laws.OwnMore
namespace Go.Proofs.Ythedpnnfkmbdpaa

section
variable {α : Type} [DecidableEq α]

def lcsIn (f : List α → Nat) (x : α) : List α → Nat
  | [] => 0
  | y :: ys => if x = y then max (max (f (y :: ys)) (lcsIn f x ys)) (f ys + 1) else max (f (y :: ys)) (lcsIn f x ys)
/-- The length of a longest list. -/
def lcs : List α → List α → Nat
  | [], _ => 0
  | x :: xs, ys => lcsIn (lcs xs) x ys
theorem lcs_nil_left (ys : List α) : lcs [] ys = 0 := by simp [lcs]
theorem lcs_nil_right (xs : List α) : lcs xs [] = 0 := by cases xs <;> simp [lcs, lcsIn]
theorem lcs_cons (x : α) (xs : List α) (y : α) (ys : List α) : lcs (x :: xs) (y :: ys) = if x = y then max (max (lcs xs (y :: ys)) (lcs (x :: xs) ys)) (lcs xs ys + 1) else max (lcs xs (y :: ys)) (lcs (x :: xs) ys) := by
  simp only [lcs, lcsIn]
theorem lcs_le_left (x : α) (xs ys : List α) : lcs xs ys ≤ lcs (x :: xs) ys := by
  cases ys with
  | nil => rw [lcs_nil_right]; omega
  | cons y ys => rw [lcs_cons]; split <;> omega
theorem lcs_le_right (xs : List α) (y : α) (ys : List α) : lcs xs ys ≤ lcs xs (y :: ys) := by
  cases xs with
  | nil => simp [lcs_nil_left]
  | cons x xs => rw [lcs_cons]; split <;> omega
theorem lcs_same_le {x : α} (xs ys : List α) : lcs xs ys + 1 ≤ lcs (x :: xs) (x :: ys) := by rw [lcs_cons, if_pos rfl]; omega
theorem lcs_le_length (xs ys : List α) : lcs xs ys ≤ xs.length := by
  induction xs generalizing ys with
  | nil => simp [lcs_nil_left]
  | cons x xs ih =>
    induction ys with
    | nil => simp [lcs_nil_right]
    | cons y ys ih2 =>
      rw [lcs_cons, List.length_cons] at *
      have := ih (y :: ys)
      have := ih ys
      split <;> omega
theorem lcs_self (xs : List α) : lcs xs xs = xs.length := by
  induction xs with
  | nil => simp [lcs_nil_left]
  | cons x xs ih =>
    have := lcs_same_le (x := x) xs xs
    have := lcs_le_length (x :: xs) (x :: xs)
    rw [List.length_cons] at *
    omega
theorem lcs_drop_left (xs ys : List α) (i : Nat) : lcs (xs.drop i) ys ≤ lcs xs ys := by
  induction i generalizing xs with
  | zero => simp
  | succ i ih =>
    cases xs with
    | nil => simp [lcs_nil_left]
    | cons x xs => rw [List.drop_succ_cons]; exact Nat.le_trans (ih xs) (lcs_le_left x xs ys)
theorem lcs_drop_right (xs ys : List α) (j : Nat) : lcs xs (ys.drop j) ≤ lcs xs ys := by
  induction j generalizing ys with
  | zero => simp
  | succ j ih =>
    cases ys with
    | nil => simp
    | cons y ys => rw [List.drop_succ_cons]; exact Nat.le_trans (ih ys) (lcs_le_right xs y ys)

/-- Where a longest list, of the length 'want', may begin. -/
def beginsL (f : List α → Nat) (x : α) (want : Nat) : List α → Option Nat
  | [] => none
  | y :: ys => if x = y ∧ f ys + 1 = want then some 0 else (beginsL f x want ys).map (· + 1)
theorem beginsL_none {f : List α → Nat} {x : α} {want : Nat} {ys : List α} (h : beginsL f x want ys = none) : ∀ k, ∀ h : k < ys.length, ¬ (x = ys[k] ∧ f (ys.drop (k + 1)) + 1 = want) := by
  induction ys with
  | nil => intro k hk; simp at hk
  | cons y ys ih =>
    intro k hk
    simp only [beginsL] at h
    split at h
    · cases h
    · rename_i h0
      cases k with
      | zero => simpa using h0
      | succ k => simpa using ih (by simpa using h) k (by simpa using hk)
theorem beginsL_some {f : List α → Nat} {x : α} {want k : Nat} {ys : List α} (h : beginsL f x want ys = some k) :
    ∃ hk : k < ys.length, x = ys[k] ∧ f (ys.drop (k + 1)) + 1 = want ∧ ∀ j, ∀ hj : j < k, ¬ (x = ys[j] ∧ f (ys.drop (j + 1)) + 1 = want) := by
  induction ys generalizing k with
  | nil => simp [beginsL] at h
  | cons y ys ih =>
    simp only [beginsL] at h
    split at h
    · rename_i h0
      cases h
      exact ⟨by simp, h0.1, by simpa using h0.2, fun j hj => by omega⟩
    · rename_i h0
      cases hb : beginsL f x want ys with
      | none => simp [hb] at h
      | some m =>
        simp [hb] at h
        subst h
        obtain ⟨h1, h2, h3, h4⟩ := ih hb
        refine ⟨by simpa using h1, by simpa using h2, by simpa using h3, fun j hj => ?_⟩
        cases j with
        | zero => simpa using h0
        | succ j => simpa using h4 j (by omega)
theorem beginsL_of {f : List α → Nat} {x : α} {want k : Nat} {ys : List α} (hk : k < ys.length) (h : x = ys[k] ∧ f (ys.drop (k + 1)) + 1 = want)
    (hlt : ∀ j, ∀ hj : j < k, ¬ (x = ys[j] ∧ f (ys.drop (j + 1)) + 1 = want)) : beginsL f x want ys = some k := by
  cases hb : beginsL f x want ys with
  | none => exact absurd h (beginsL_none hb k hk)
  | some m =>
    obtain ⟨h1, h2, h3, h4⟩ := beginsL_some hb
    rcases Nat.lt_trichotomy m k with hlt' | rfl | hgt
    · exact absurd ⟨h2, h3⟩ (hlt m hlt')
    · rfl
    · exact absurd h (h4 k hgt)
theorem beginsL_no {f : List α → Nat} {x : α} {want : Nat} {ys : List α} (h : ∀ k, ∀ hk : k < ys.length, ¬ (x = ys[k] ∧ f (ys.drop (k + 1)) + 1 = want)) : beginsL f x want ys = none := by
  cases hb : beginsL f x want ys with
  | none => rfl
  | some m =>
    obtain ⟨h1, h2, h3, _⟩ := beginsL_some hb
    exact absurd ⟨h2, h3⟩ (h m h1)

/-- The least longest list, of what stands behind the places i and j. -/
def commonL : List α → Nat → List α → Nat → List (Nat × Nat)
  | [], _, _, _ => []
  | x :: xs, i, ys, j => if lcs (x :: xs) ys = 0 then [] else match beginsL (lcs xs) x (lcs (x :: xs) ys) ys with
    | none => commonL xs (i + 1) ys j
    | some k => (i, j + k) :: commonL xs (i + 1) (ys.drop (k + 1)) (j + k + 1)

theorem lcs_either (x : α) (xs ys : List α) : lcs (x :: xs) ys = lcs xs ys ∨ ∃ k, ∃ hk : k < ys.length, x = ys[k] ∧ lcs xs (ys.drop (k + 1)) + 1 = lcs (x :: xs) ys := by
  induction ys with
  | nil => left; rw [lcs_nil_right, lcs_nil_right]
  | cons y ys ih =>
    have hm := lcs_le_right xs y ys
    by_cases h0 : lcs (x :: xs) (y :: ys) = lcs xs (y :: ys)
    · exact .inl h0
    · right
      have hc := lcs_cons x xs y ys
      by_cases h1 : lcs (x :: xs) (y :: ys) = lcs (x :: xs) ys
      · rcases ih with h | ⟨k, hk, h2, h3⟩
        · have := lcs_le_left x xs (y :: ys); omega
        · exact ⟨k + 1, by simpa using hk, by simpa using h2, by simpa [h1] using h3⟩
      · by_cases hxy : x = y
        · rw [if_pos hxy] at hc
          exact ⟨0, by simp, by simpa using hxy, by simp; omega⟩
        · rw [if_neg hxy] at hc; omega

theorem commonL_length (xs : List α) : ∀ (i : Nat) (ys : List α) (j : Nat), (commonL xs i ys j).length = lcs xs ys := by
  induction xs with
  | nil => intro i ys j; simp [commonL, lcs_nil_left]
  | cons x xs ih =>
    intro i ys j
    unfold commonL
    split
    · rename_i h; rw [h]; rfl
    · split
      · rename_i hb
        rw [ih]
        rcases lcs_either x xs ys with h | ⟨k, hk, h2, h3⟩
        · exact h.symm
        · exact absurd ⟨h2, h3⟩ (beginsL_none hb k hk)
      · rename_i k hb
        obtain ⟨_, _, h3, _⟩ := beginsL_some hb
        rw [List.length_cons, ih, h3]

/-- A rising list of alike places, all from i and j on. -/
def Rising (a b : List α) : Nat → Nat → List (Nat × Nat) → Prop
  | _, _, [] => True
  | i, j, p :: t => i ≤ p.1 ∧ j ≤ p.2 ∧ (∃ x, a[p.1]? = some x ∧ b[p.2]? = some x) ∧ Rising a b (p.1 + 1) (p.2 + 1) t
/-- None is longer. -/
theorem rising_le (a b : List α) : ∀ (l : List (Nat × Nat)) (i j : Nat), Rising a b i j l → l.length ≤ lcs (a.drop i) (b.drop j)
  | [], _, _, _ => by simp
  | p :: t, i, j, ⟨h1, h2, ⟨x, ha, hb⟩, ht⟩ => by
    have ih := rising_le a b t _ _ ht
    obtain ⟨ha1, ha2⟩ := List.getElem?_eq_some_iff.1 ha
    obtain ⟨hb1, hb2⟩ := List.getElem?_eq_some_iff.1 hb
    have e1 : a.drop p.1 = x :: a.drop (p.1 + 1) := by rw [List.drop_eq_getElem_cons ha1, ha2]
    have e2 : b.drop p.2 = x :: b.drop (p.2 + 1) := by rw [List.drop_eq_getElem_cons hb1, hb2]
    have h3 := lcs_same_le (x := x) (a.drop (p.1 + 1)) (b.drop (p.2 + 1))
    rw [← e1, ← e2] at h3
    have h4 := lcs_drop_left (a.drop i) (b.drop p.2) (p.1 - i)
    rw [List.drop_drop, show i + (p.1 - i) = p.1 by omega] at h4
    have h5 := lcs_drop_right (a.drop i) (b.drop j) (p.2 - j)
    rw [List.drop_drop, show j + (p.2 - j) = p.2 by omega] at h5
    rw [List.length_cons]
    omega

theorem commonL_self (xs : List α) : ∀ i, commonL xs i xs i = (List.range xs.length).map (fun k => (i + k, i + k)) := by
  induction xs with
  | nil => intro i; simp [commonL]
  | cons x xs ih =>
    intro i
    unfold commonL
    have h1 := lcs_self (x :: xs)
    rw [List.length_cons] at h1
    rw [if_neg (by omega)]
    rw [beginsL_of (k := 0) (by simp) ⟨by simp, by simp [h1, lcs_self]⟩ (fun j hj => by omega)]
    simp only [Nat.add_zero, List.drop_succ_cons, List.drop_zero, ih, List.length_cons]
    rw [List.range_succ_eq_map, List.map_cons, List.map_map]
    congr 1
    refine List.map_congr_left fun k _ => ?_
    simp only [Function.comp]
    rw [show i + 1 + k = i + (k + 1) by omega]
theorem commonL_nil (xs : List α) (i j : Nat) : commonL xs i [] j = [] := by
  have := commonL_length xs i [] j
  rw [lcs_nil_right] at this
  exact List.eq_nil_of_length_eq_zero this
end
end Go.Proofs.Ythedpnnfkmbdpaa
