/-
  diff3.Texts; the law Diff3One.
-/
import Derived.Test.YthedpnnfkmbdpaaDfL
import Derived.Test.YthedpnnfkmbdpaaLinM
namespace Go.Proofs.Ythedpnnfkmbdpaa
open Go.RowKit Go.Shelf

attribute [local go_sem] Oper.semAt_some

theorem str_cat (s : ByteArray) : (⟨(catL (refL s)).toArray⟩ : ByteArray) = s := by
  rw [cat_refL]
theorem cat_flat {β : Type} (f : β → List ByteArray) (l : List β) : l.flatMap (fun h => catL (f h)) = catL (l.flatMap f) := by
  unfold catL; rw [List.flatMap_assoc]
theorem flat_congr {β γ : Type} {f g : β → List γ} : ∀ {l : List β}, (∀ h ∈ l, f h = g h) → l.flatMap f = l.flatMap g
  | [], _ => rfl
  | h :: l, hh => by rw [List.flatMap_cons, List.flatMap_cons, hh h (List.mem_cons_self ..), flat_congr fun x hx => hh x (List.mem_cons_of_mem _ hx)]
theorem text_a {m : List (Hunk ByteArray)} (h : ∀ u ∈ m, u.k ≠ 3) : textL m = catL (m.flatMap (·.a)) := by
  unfold textL
  rw [← cat_flat (fun u : Hunk ByteArray => u.a)]
  exact flat_congr fun u hu => by unfold pieceL; rw [if_neg (h u hu)]
theorem text_b {m : List (Hunk ByteArray)} (h : ∀ u ∈ m, u.k ≠ 3 → u.a = u.b) : textL m = catL (m.flatMap (·.b)) := by
  unfold textL
  rw [← cat_flat (fun u : Hunk ByteArray => u.b)]
  refine flat_congr fun u hu => ?_
  unfold pieceL
  by_cases hk : u.k = 3
  · rw [if_pos hk]
  · rw [if_neg hk, h u hu hk]

set_option maxHeartbeats 2000000 in
theorem texts_any (x a b s : ByteArray) (w : World) (hx : x.size ≤ 300) (ha : a.size ≤ 300) (hb : b.size ≤ 300) (hs : s.size ≤ 300) (hk : ∀ h ∈ mergeL (refL x) (refL a) (refL b), h.k ≠ 5) (ht : textL (mergeL (refL x) (refL a) (refL b)) = catL (refL s)) :
    Calls Try.prog 26 #[.string x, .string a, .string b] w fun e w' => e = .returned (.tuple #[.string s, .bool false]) ∧ Ext w w' := by
  have hle : ∀ q : ByteArray, q.size ≤ 300 → (refL q).length ≤ 400 := fun q hq => by
    have := (outTo_le q q.size).2
    rw [outL_ref] at this; omega
  have hlx := hle x hx
  have hla := hle a ha
  have hlb := hle b hb
  have htl : (textL (mergeL (refL x) (refL a) (refL b))).length ≤ 100000 := by
    rw [ht, cat_refL]
    have : s.data.toList.length = s.size := rfl
    omega
  have p1 := fun w => split_any x w (by omega)
  have p2 := fun w => split_any a w (by omega)
  have p3 := fun w => split_any b w (by omega)
  have hst := str_cat s
  rw [← ht] at hst
  obtain ⟨X, hX⟩ : ∃ l, refL x = l := ⟨_, rfl⟩
  obtain ⟨A, hA⟩ : ∃ l, refL a = l := ⟨_, rfl⟩
  obtain ⟨B, hB⟩ : ∃ l, refL b = l := ⟨_, rfl⟩
  simp only [hX] at p1 hlx hk htl hst
  simp only [hA] at p2 hla hk htl hst
  simp only [hB] at p3 hlb hk htl hst
  obtain ⟨nX, hnX⟩ : ∃ n, X.length = n := ⟨_, rfl⟩
  obtain ⟨nA, hnA⟩ : ∃ n, A.length = n := ⟨_, rfl⟩
  obtain ⟨nB, hnB⟩ : ∃ n, B.length = n := ⟨_, rfl⟩
  simp only [hnX] at p1 hlx
  simp only [hnA] at p2 hla
  simp only [hnB] at p3 hlb
  have HK := Lib.hid hk
  have HT := Lib.hid htl
  have HS := Lib.hid hst
  clear hX hA hB hnX hnA hnB hle hk ht htl hst hx ha hb hs
  refine calls_cps fun R hR => ?_
  go_enter Try.func26, Try.ntmps26
  go_wp2_with fail
  refine (p1 _).mono ?_; rintro e w1 ⟨a1, c1, rfl, o1, e1⟩
  obtain ⟨_, _, q, r1⟩ := owns_row o1
  cases q
  clear o1 p1
  go_wp2_with fail
  refine (p2 _).mono ?_; rintro e w2 ⟨a2, c2, rfl, o2, e2⟩
  obtain ⟨_, _, q, r2⟩ := owns_row o2
  cases q
  have E2 := e1.trans e2
  replace r1 := r1.ext e2
  clear o2 p2 e1 e2
  go_wp2_with fail
  refine (p3 _).mono ?_; rintro e w3 ⟨a3, c3, rfl, o3, e3⟩
  obtain ⟨_, _, q, r3⟩ := owns_row o3
  cases q
  have E3 := E2.trans e3
  replace r1 := r1.ext e3
  replace r2 := r2.ext e3
  clear o3 p3 e3 E2
  go_wp2_with fail
  refine (merge_any a1 a2 a3 nX c1 nA c2 nB c3 X A B _ r1 r2 r3 hlx hla hlb).mono ?_
  rintro e w4 ⟨v, hv, rfl, hH, e4⟩
  obtain ⟨av, cv, rfl, _⟩ := hH.row
  have E4 := E3.trans e4
  have htx := text_any av _ cv hv _ w4 hH rfl HK.out HT.out
  rw [HS.out] at htx
  obtain ⟨N, hN⟩ : ∃ N, (mergeL X A B).length = N := ⟨_, rfl⟩
  rw [hN] at htx ⊢
  clear r1 r2 r3 hH hN e4 E3
  go_wp2_with fail
  refine htx.mono ?_
  rintro e w5 ⟨rfl, e5⟩
  have E5 := E4.trans e5
  clear htx e5 E4
  go_wp2
  exact ⟨rfl, E5⟩

set_option maxHeartbeats 2000000 in
theorem diff3One_any (x a : ByteArray) (w : World) :
    Calls Try.prog 9 #[.string x, .string a] w fun e w' => e = .returned (.bool true) ∧ Ext w w' := by
  refine calls_cps fun R hR => ?_
  go_enter Try.func9, Try.ntmps9
  go_wp2_with fail
  refine (awake26_any _).mono ?_; rintro e w1 ⟨rfl, e1⟩
  by_cases h1 : 300 < x.size
  · go_wp2
    try exact ⟨rfl, e1⟩
  by_cases h2 : 300 < a.size
  · go_wp2
    try exact ⟨rfl, e1⟩
  have t1 := fun w => texts_any x a x a w (by omega) (by omega) (by omega) (by omega) (fun h hh => (merge_one _ _ h hh).1) (by rw [text_a fun u hu => (merge_one _ _ u hu).2, (merge_sides _ _ _).2.1])
  have t2 := fun w => texts_any x x a a w (by omega) (by omega) (by omega) (by omega) (fun h hh => (merge_two _ _ h hh).1) (by rw [text_b fun u hu => (merge_two _ _ u hu).2, (merge_sides _ _ _).2.2])
  have t3 := fun w => texts_any x a a a w (by omega) (by omega) (by omega) (by omega) (fun h hh => (merge_three _ _ h hh).1) (by rw [text_a fun u hu => (merge_three _ _ u hu).2, (merge_sides _ _ _).2.1])
  go_wp2_with fail
  refine (t1 _).mono ?_; rintro e w2 ⟨rfl, e2⟩
  go_wp2_with fail
  refine (t2 _).mono ?_; rintro e w3 ⟨rfl, e3⟩
  go_wp2_with fail
  refine (t3 _).mono ?_; rintro e w4 ⟨rfl, e4⟩
  have E4 := ((e1.trans e2).trans e3).trans e4
  clear t1 t2 t3
  go_wp2
  exact ⟨rfl, E4⟩
end Go.Proofs.Ythedpnnfkmbdpaa
