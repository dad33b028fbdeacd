/-
  Strings and their bytes.
-/
import Derived.Test.YthedpnnfkmbdpaaSlices
namespace Go.Proofs.Ythedpnnfkmbdpaa
open Go.RowKit

theorem toList_loop (bs : ByteArray) : ∀ (n i : Nat) (r : List UInt8), bs.size - i = n → ByteArray.toList.loop bs i r = r.reverse ++ bs.data.toList.drop i
  | 0, i, r, h => by
    unfold ByteArray.toList.loop
    have h1 : ¬ i < bs.size := by omega
    have h2 : bs.data.toList.drop i = [] := List.drop_eq_nil_of_le (by rw [Array.length_toList]; exact Nat.le_of_not_lt h1)
    simp [h1, h2]
  | n + 1, i, r, h => by
    unfold ByteArray.toList.loop
    have h1 : i < bs.size := by omega
    have h1' : i < bs.data.size := h1
    rw [if_pos h1, toList_loop bs n (i + 1) _ (by omega)]
    have h2 : bs.data.toList.drop i = bs.data[i] :: bs.data.toList.drop (i + 1) := by
      rw [List.drop_eq_getElem_cons (by simpa using h1')]; simp
    rw [h2]
    simp [ByteArray.get!, getElem!_pos bs.data i h1']

theorem toList_data (bs : ByteArray) : bs.toList = bs.data.toList := by
  unfold ByteArray.toList
  rw [toList_loop bs bs.size 0 [] (by simp)]
  simp
theorem toList_mk (l : List UInt8) : (⟨l.toArray⟩ : ByteArray).toList = l := by rw [toList_data]
theorem bytes_beq (s t : ByteArray) : (s.toList == t.toList) = decide (s = t) := by
  rw [toList_data, toList_data]
  by_cases h : s = t
  · subst h; simp
  · have : ¬ s.data = t.data := fun e => h (by cases s; cases t; simp at e ⊢; exact e)
    simp [h, this]
end Go.Proofs.Ythedpnnfkmbdpaa
