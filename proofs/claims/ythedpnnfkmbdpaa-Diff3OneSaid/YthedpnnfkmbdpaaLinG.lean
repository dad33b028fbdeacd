/-
  lines.Script.
-/
import Derived.Test.YthedpnnfkmbdpaaLinE
import Derived.Test.YthedpnnfkmbdpaaMaps
namespace Go.Proofs.Ythedpnnfkmbdpaa
open Go.RowKit Go.Shelf Go.Maps

def isA (l : List (Nat × Nat)) (i : Int) : Bool := l.any fun p => ((p.1 : Nat) : Int) == i
def isB (l : List (Nat × Nat)) (i : Int) : Bool := l.any fun p => ((p.2 : Nat) : Int) == i
def goneL (l : List (Nat × Nat)) (n : Nat) : List Nat := (List.range n).filter fun i => !isA l i
def comeL (l : List (Nat × Nat)) (n : Nat) : List Nat := (List.range n).filter fun i => !isB l i
def natsC (l : List Nat) : List Value := l.map fun i : Nat => .int .i64 (i : Int)
theorem goneL_succ (l : List (Nat × Nat)) (n : Nat) : goneL l (n + 1) = goneL l n ++ (if isA l n then [] else [n]) := by
  unfold goneL; rw [List.range_succ, List.filter_append]; cases h : isA l n <;> simp [h]
theorem comeL_succ (l : List (Nat × Nat)) (n : Nat) : comeL l (n + 1) = comeL l n ++ (if isB l n then [] else [n]) := by
  unfold comeL; rw [List.range_succ, List.filter_append]; cases h : isB l n <;> simp [h]
theorem goneL_length (l : List (Nat × Nat)) (n : Nat) : (goneL l n).length ≤ n := by unfold goneL; have := List.length_filter_le (fun i : Nat => !isA l i) (List.range n); simpa using this
theorem comeL_length (l : List (Nat × Nat)) (n : Nat) : (comeL l n).length ≤ n := by unfold comeL; have := List.length_filter_le (fun i : Nat => !isB l i) (List.range n); simpa using this
theorem isA_snoc (l : List (Nat × Nat)) (p : Nat × Nat) : isA (l ++ [p]) = fun j => j == ((p.1 : Nat) : Int) || isA l j := by
  funext j; unfold isA; rw [List.any_append, Bool.or_comm]; simp [BEq.comm]
theorem isB_snoc (l : List (Nat × Nat)) (p : Nat × Nat) : isB (l ++ [p]) = fun j => j == ((p.2 : Nat) : Int) || isB l j := by
  funext j; unfold isB; rw [List.any_append, Bool.or_comm]; simp [BEq.comm]
theorem pairsC_get {l : List (Nat × Nat)} {k : Nat} {p : Nat × Nat} (h : l[k]? = some p) : (pairsC l)[k * 2]? = some (.int .i64 (p.1 : Int)) ∧ (pairsC l)[k * 2 + 1]? = some (.int .i64 (p.2 : Int)) := by
  induction l generalizing k with
  | nil => simp at h
  | cons q t ih =>
    rw [show pairsC (q :: t) = .int .i64 (q.1 : Int) :: .int .i64 (q.2 : Int) :: pairsC t from rfl]
    cases k with
    | zero => simp at h; subst h; simp
    | succ k =>
      have := ih (k := k) (by simpa using h)
      rw [show (k + 1) * 2 = k * 2 + 1 + 1 by omega]
      simpa using this
theorem commonL_ge {α : Type} [DecidableEq α] (xs : List α) : ∀ (i : Nat) (ys : List α) (j : Nat), ∀ p ∈ commonL xs i ys j, i ≤ p.1 ∧ j ≤ p.2 := by
  induction xs with
  | nil => intro i ys j p hp; simp [commonL] at hp
  | cons x xs ih =>
    intro i ys j p hp
    unfold commonL at hp
    split at hp
    · simp at hp
    · split at hp
      · have := ih _ _ _ p hp; omega
      · rename_i k _
        rcases List.mem_cons.1 hp with rfl | hp
        · simp
        · have := ih _ _ _ p hp; omega
theorem commonL_lt {α : Type} [DecidableEq α] (xs : List α) : ∀ (i : Nat) (ys : List α) (j : Nat), ∀ p ∈ commonL xs i ys j, p.1 < i + xs.length ∧ p.2 < j + ys.length := by
  induction xs with
  | nil => intro i ys j p hp; simp [commonL] at hp
  | cons x xs ih =>
    intro i ys j p hp
    unfold commonL at hp
    rw [List.length_cons]
    split at hp
    · simp at hp
    · split at hp
      · have := ih _ _ _ p hp; omega
      · rename_i k hb
        obtain ⟨hk, _⟩ := beginsL_some hb
        rcases List.mem_cons.1 hp with rfl | hp
        · simp only; omega
        · have := ih _ _ _ p hp
          rw [List.length_drop] at this
          omega
theorem commonL_rises {α : Type} [DecidableEq α] (xs : List α) : ∀ (i : Nat) (ys : List α) (j : Nat), (commonL xs i ys j).Pairwise (fun p q => p.1 < q.1 ∧ p.2 < q.2) := by
  induction xs with
  | nil => intro i ys j; simp [commonL]
  | cons x xs ih =>
    intro i ys j
    unfold commonL
    split
    · simp
    · split
      · exact ih _ _ _
      · rename_i k _
        refine List.Pairwise.cons (fun q hq => ?_) (ih _ _ _)
        have := commonL_ge xs _ _ _ q hq
        simp only
        omega
theorem fresh_of_rises {l : List (Nat × Nat)} (h : l.Pairwise (fun p q => p.1 < q.1 ∧ p.2 < q.2)) {k : Nat} {p : Nat × Nat} (hp : l[k]? = some p) : isA (l.take k) ((p.1 : Nat) : Int) = false ∧ isB (l.take k) ((p.2 : Nat) : Int) = false := by
  have hk := (List.getElem?_eq_some_iff.1 hp).1
  have hpv := (List.getElem?_eq_some_iff.1 hp).2
  have hlt : ∀ q ∈ l.take k, q.1 < p.1 ∧ q.2 < p.2 := fun q hq => by
    obtain ⟨m, hm, he⟩ := List.mem_take_iff_getElem.1 hq
    have := List.pairwise_iff_getElem.1 h m k (by omega) hk (by omega)
    rw [he, hpv] at this; exact this
  constructor
  · unfold isA; rw [List.any_eq_false]; intro q hq; have := (hlt q hq).1; simp; omega
  · unfold isB; rw [List.any_eq_false]; intro q hq; have := (hlt q hq).2; simp; omega
theorem info_int : (Try.prog.info? 3).map (fun i => (i.zero, i.size, i.bytes)) = some (some (.int .i64 0), 1, 8) := by kernel_rfl
theorem zero_bool (w : World) : (zeroValue 4).run Try.prog w = .ok (.bool false) w := by kernel_rfl
end Go.Proofs.Ythedpnnfkmbdpaa
