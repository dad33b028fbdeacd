/-
  The lines of a text: plain law. Nothing here names the program.
-/
import Derived.Test.YthedpnnfkmbdpaaBytes
namespace Go.Proofs.Ythedpnnfkmbdpaa

/-- Up to place i: the lines so far, where the next one begins. -/
def refTo (s : ByteArray) : Nat → List ByteArray × Nat
  | 0 => ([], 0)
  | i + 1 => if s[i]? = some 10 then ((refTo s i).1 ++ [s.extract (refTo s i).2 (i + 1)], i + 1) else refTo s i
def refL (s : ByteArray) : List ByteArray := if (refTo s s.size).2 < s.size then (refTo s s.size).1 ++ [s.extract (refTo s s.size).2 s.size] else (refTo s s.size).1
def outTo (s : ByteArray) : Nat → List ByteArray × Nat
  | 0 => ([], 0)
  | i + 1 => if s[i]? ≠ some 10 ∧ i + 1 < s.size then outTo s i else ((outTo s i).1 ++ [s.extract (outTo s i).2 (i + 1)], i + 1)

theorem refTo_le (s : ByteArray) : ∀ i, (refTo s i).2 ≤ i ∧ (refTo s i).1.length ≤ i
  | 0 => by simp [refTo]
  | i + 1 => by
    have := refTo_le s i
    unfold refTo
    split
    · simp; omega
    · omega
theorem outTo_le (s : ByteArray) : ∀ i, (outTo s i).2 ≤ i ∧ (outTo s i).1.length ≤ i
  | 0 => by simp [outTo]
  | i + 1 => by
    have := outTo_le s i
    unfold outTo
    split
    · omega
    · simp; omega
theorem out_ref (s : ByteArray) : ∀ i, i < s.size → outTo s i = refTo s i
  | 0, _ => rfl
  | i + 1, h => by
    unfold outTo refTo
    rw [out_ref s i (by omega)]
    by_cases hb : s[i]? = some 10
    · rw [if_neg (fun h => h.1 hb), if_pos hb]
    · rw [if_pos ⟨hb, h⟩, if_neg hb]
theorem outL_ref (s : ByteArray) : (outTo s s.size).1 = refL s := by
  unfold refL
  obtain ⟨n, hn⟩ : ∃ n, s.size = n := ⟨_, rfl⟩
  rw [hn]
  cases n with
  | zero => simp [outTo, refTo]
  | succ m =>
    have h1 : outTo s (m + 1) = ((outTo s m).1 ++ [s.extract (outTo s m).2 (m + 1)], m + 1) := by
      rw [outTo, if_neg (fun h => by have := h.2; omega)]
    rw [h1, out_ref s m (by omega)]
    have hle := (refTo_le s m).1
    by_cases hb : s[m]? = some 10
    · have h2 : refTo s (m + 1) = ((refTo s m).1 ++ [s.extract (refTo s m).2 (m + 1)], m + 1) := by rw [refTo, if_pos hb]
      rw [h2, if_neg (by simp)]
    · have h2 : refTo s (m + 1) = refTo s m := by rw [refTo, if_neg hb]
      rw [h2, if_pos (by omega)]
theorem out_prefix (s : ByteArray) (i : Nat) : ∀ j, i ≤ j → (outTo s i).1 <+: (outTo s j).1
  | 0, h => by rw [show i = 0 by omega]; exact List.prefix_rfl
  | j + 1, h => by
    by_cases he : i = j + 1
    · rw [he]; exact List.prefix_rfl
    · have := out_prefix s i j (by omega)
      rw [show outTo s (j + 1) = if s[j]? ≠ some 10 ∧ j + 1 < s.size then outTo s j else ((outTo s j).1 ++ [s.extract (outTo s j).2 (j + 1)], j + 1) from rfl]
      split
      · exact this
      · exact this.trans (List.prefix_append _ _)

/-- Texts, one behind the other. -/
def catL (l : List ByteArray) : List UInt8 := l.flatMap fun b => b.data.toList
theorem catL_snoc (l : List ByteArray) (b : ByteArray) : catL (l ++ [b]) = catL l ++ b.data.toList := by simp [catL]
theorem extract_list (s : ByteArray) (a b : Nat) : (s.extract a b).data.toList = (s.data.toList.take b).drop a := by
  rw [ByteArray.data_extract, Array.toList_extract]
  simp [List.drop_take, List.extract_eq_take_drop]
theorem cat_out (s : ByteArray) : ∀ i, catL (outTo s i).1 = s.data.toList.take (outTo s i).2
  | 0 => by simp [outTo, catL]
  | i + 1 => by
    have ih := cat_out s i
    have hle := (outTo_le s i).1
    unfold outTo
    split
    · exact ih
    · simp only
      rw [catL_snoc, ih, extract_list]
      rw [show s.data.toList.take (outTo s i).2 = (s.data.toList.take (i + 1)).take (outTo s i).2 by rw [List.take_take, Nat.min_eq_left (by omega)]]
      exact List.take_append_drop _ _
theorem cat_refL (s : ByteArray) : catL (refL s) = s.data.toList := by
  rw [← outL_ref, cat_out]
  obtain ⟨n, hn⟩ : ∃ n, s.size = n := ⟨_, rfl⟩
  have hs : s.data.toList.length = n := by rw [← hn]; rfl
  rw [hn]
  cases n with
  | zero => simp [outTo]; exact (List.eq_nil_of_length_eq_zero hs).symm ▸ rfl
  | succ m =>
    rw [outTo, if_neg (fun h => by have := h.2; omega)]
    simp only
    exact List.take_of_length_le (by omega)
end Go.Proofs.Ythedpnnfkmbdpaa
