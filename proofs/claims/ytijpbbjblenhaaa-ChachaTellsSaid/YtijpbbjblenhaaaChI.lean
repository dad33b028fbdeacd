/-
  chacha.Keystream, chacha.Stream.
-/
import Derived.Test.YtijpbbjblenhaaaChH
import Derived.Test.YtijpbbjblenhaaaVecI
namespace Go.Proofs.Ytijpbbjblenhaaa
open Go.RowKit Go.Shelf

attribute [local go_sem] Oper.semAt_some

theorem keystream_any (key nonce : List UInt8) (n : UInt32) (w : World) :
    Calls Try.prog 13 #[aggB key, .int .u32 (n.toNat : Int), aggB nonce] w fun e w' =>
      e = .returned (.func (.func 23) #[] #[.pointer (some ⟨w.heap.size, 0, none⟩), .pointer (some ⟨w.heap.size + 1, 0, none⟩), .pointer (some ⟨w.heap.size + 1 + 1, 0, none⟩)]) ∧
      Ext w w' ∧ w'.heap.size = w.heap.size + 3 ∧ Arr w' w.heap.size 25 (key.map u8v) ∧ Boxed w' (w.heap.size + 1) 22 (.int .u32 (n.toNat : Int)) ∧ Arr w' (w.heap.size + 1 + 1) 26 (nonce.map u8v) := by
  unfold aggB
  obtain ⟨cka, hcka⟩ : ∃ c, (key.map u8v).toArray = c := ⟨_, rfl⟩
  obtain ⟨cna, hcna⟩ : ∃ c, (nonce.map u8v).toArray = c := ⟨_, rfl⟩
  rw [hcka, hcna]
  go_enter Try.func13, Try.ntmps13
  go_wp2
  go_ret
  have k1 := World.alloc_heap_new w (.cells cka 25)
  have k2 := World.alloc_heap_new (w.alloc (.cells cka 25)) (.cells #[.int .u32 (n.toNat : Int)] 22)
  have k3 := World.alloc_heap_new ((w.alloc (.cells cka 25)).alloc (.cells #[.int .u32 (n.toNat : Int)] 22)) (.cells cna 26)
  simp only [World.size_alloc] at k2 k3
  have e : ∀ (A : World) (o : Obj), Ext A (A.alloc o) := fun A o => (Keep.refl _ A).alloc o
  refine ⟨rfl, (((Keep.refl _ w).alloc _).alloc _).alloc _, by simp, ?_, (e _ _).block _ _ k2 (fun h => h), ?_⟩
  · unfold Arr; rw [hcka]; exact (e _ _).block _ _ ((e _ _).block _ _ k1 (fun h => h)) (fun h => h)
  · unfold Arr; rw [hcna]; exact k3

/-- The first k blocks of the keystream. -/
def ksL (key : List UInt8) (n : UInt32) (nonce : List UInt8) (k : Nat) : List UInt8 := (List.range k).flatMap fun i => blockL key (ctrAt n i) nonce
theorem ksL_succ (key : List UInt8) (n : UInt32) (nonce : List UInt8) (k : Nat) : ksL key n nonce (k + 1) = ksL key n nonce k ++ blockL key (ctrAt n k) nonce := by simp [ksL, List.range_succ]
theorem ksL_length {key nonce : List UInt8} (n : UInt32) (hk : key.length = 32) (hn : nonce.length = 12) : ∀ k, (ksL key n nonce k).length = 64 * k
  | 0 => by simp [ksL]
  | k + 1 => by rw [ksL_succ, List.length_append, ksL_length n hk hn k, blockL_length _ hk hn]; omega
/-- What the first k blocks turn of a text. -/
def strTo (key : List UInt8) (n : UInt32) (nonce : List UInt8) (l : List UInt8) (k : Nat) : List UInt8 := xorL l (ksL key n nonce k)
theorem strTo_length {key nonce : List UInt8} (n : UInt32) (l : List UInt8) (hk : key.length = 32) (hn : nonce.length = 12) (k : Nat) : (strTo key n nonce l k).length = min l.length (64 * k) := by
  unfold strTo; rw [xorL_length, ksL_length n hk hn]
theorem zip_append {α β γ : Type} (f : α → β → γ) : ∀ (l : List α) (a b : List β), List.zipWith f l (a ++ b) = List.zipWith f l a ++ List.zipWith f (l.drop a.length) b
  | [], a, b => by simp
  | x :: l, [], b => by simp
  | x :: l, y :: a, b => by simp [zip_append f l a b]
theorem strTo_succ {key nonce : List UInt8} (n : UInt32) (l : List UInt8) (hk : key.length = 32) (hn : nonce.length = 12) (k : Nat) :
    strTo key n nonce l (k + 1) = strTo key n nonce l k ++ xorL (l.drop (strTo key n nonce l k).length) (blockL key (ctrAt n k) nonce) := by
  rw [strTo_length n l hk hn]
  unfold strTo xorL
  rw [ksL_succ, zip_append, ksL_length n hk hn]
  by_cases h : 64 * k ≤ l.length
  · rw [Nat.min_eq_right h]
  · rw [Nat.min_eq_left (by omega), List.drop_of_length_le (show l.length ≤ 64 * k by omega), List.drop_of_length_le (Nat.le_refl _)]
def streamL (key : List UInt8) (n : UInt32) (nonce : List UInt8) (l : List UInt8) : List UInt8 := strTo key n nonce l (l.length / 64 + 1)
theorem strTo_all {key nonce : List UInt8} (n : UInt32) (l : List UInt8) (hk : key.length = 32) (hn : nonce.length = 12) (k : Nat) (h : l.length ≤ 64 * k) : ∀ j, k ≤ j → strTo key n nonce l j = strTo key n nonce l k
  | 0, hj => by rw [show k = 0 by omega]
  | j + 1, hj => by
    by_cases he : k = j + 1
    · rw [he]
    · rw [strTo_succ n l hk hn, strTo_length n l hk hn, strTo_all n l hk hn k h j (by omega), Nat.min_eq_left (by omega), List.drop_of_length_le (Nat.le_refl _)]
      simp [xorL]
theorem strTo_stream {key nonce : List UInt8} (n : UInt32) (l : List UInt8) (hk : key.length = 32) (hn : nonce.length = 12) (k : Nat) (h : l.length ≤ 64 * k) : strTo key n nonce l k = streamL key n nonce l := by
  unfold streamL
  by_cases hj : k ≤ l.length / 64 + 1
  · exact (strTo_all n l hk hn k h _ hj).symm
  · exact strTo_all n l hk hn _ (by omega) k (by omega)
theorem streamL_length {key nonce : List UInt8} (n : UInt32) (l : List UInt8) (hk : key.length = 32) (hn : nonce.length = 12) : (streamL key n nonce l).length = l.length := by
  unfold streamL; rw [strTo_length n l hk hn]; omega
end Go.Proofs.Ytijpbbjblenhaaa
