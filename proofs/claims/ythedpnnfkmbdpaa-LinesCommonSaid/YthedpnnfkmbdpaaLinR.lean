/-
  tabulariumref25.SamePairs; rising lists of numbers, gone through.
-/
import Derived.Test.YthedpnnfkmbdpaaLinQ
namespace Go.Proofs.Ythedpnnfkmbdpaa
open Go.RowKit Go.Shelf

attribute [local go_sem] Oper.semAt_some

theorem run_neq_pair (a b : Int) (w : World) : (binOp .neq 27 (.agg #[.int .i64 a, .int .i64 b]) (.agg #[.int .i64 a, .int .i64 b])).run Try.prog w = .ok (.bool false) w := by
  have h := run_eq_pair a b a b w
  rw [run_eql_struct] at h
  rw [run_neq_struct]
  generalize (Op.equalIn 10000 27 (.agg #[.int .i64 a, .int .i64 b]) (.agg #[.int .i64 a, .int .i64 b])).run Try.prog w = r at *
  cases r with
  | ok q w' =>
    simp [Result.andThen] at h ⊢
    exact ⟨h.1, h.2⟩
  | halt x w' => simp [Result.andThen] at h

set_option maxHeartbeats 2000000 in
theorem samePairs_same (a b : Option Addr) (n c d : Nat) (L : List (Nat × Nat)) (w : World) (hx : Row 2 w a n c (pairsC L)) (hy : Row 2 w b n d (pairsC L)) :
    Calls Try.prog 13 #[.slice a n c, .slice b n d] w fun e w' => e = .returned (.bool true) ∧ Ext w w' := by
  have hl : L.length = n := by have := hx.2.2.1; rw [pairsC_length] at this; omega
  have hmx := hx.2.1
  have hnc := hx.1
  unfold maxLen at hmx
  refine calls_cps fun R hR => ?_
  have HL := Lib.hid hl
  clear hl
  go_enter Try.func13, Try.ntmps13
  go_wp2
  go_loopw [13] (fun i wr => ∃ k : Nat, k ≤ n ∧ i = .int .i64 k ∧ Ext w wr) (fun i _ => n - (intOf i).toNat)
  case atStart => exact ⟨0, by omega, rfl, Keep.refl _ _⟩
  case round =>
    obtain ⟨k, hk, rfl, hE⟩ := hrel
    by_cases hlt : k < n
    · obtain ⟨p, hpk⟩ : ∃ p, L[k]? = some p := ⟨_, List.getElem?_eq_getElem (by have := HL.out; omega)⟩
      obtain ⟨g1, g2⟩ := pairsC_get hpk
      obtain ⟨p1, p2⟩ := p
      obtain ⟨bx, ox, rfl, hcellx⟩ := hx.2.2.2.2 (by omega)
      obtain ⟨by', oy, rfl, hcelly⟩ := hy.2.2.2.2 (by omega)
      have hD : ∀ g : FY.At (fun _ _ => False) wr.drew, Ext w g.w := fun g => (hE.drew).trans g.ext
      have x1 := hcellx _ _ g1
      have x2 := hcellx _ _ g2
      have y1 := hcelly _ _ g1
      have y2 := hcelly _ _ g2
      rw [← Nat.add_assoc] at x2 y2
      simp only at x1 x2 y1 y2
      have c1 := fun g => (hD g).cell x1
      have c2 := fun g => (hD g).cell x2
      have c3 := fun g => (hD g).cell y1
      have c4 := fun g => (hD g).cell y2
      have hnq := run_neq_pair p1 p2
      have hE' := hE.drew
      clear hcellx hcelly hpk g1 g2 x1 x2 y1 y2
      go_wp2
      refine FY.wp_flow (X := fun _ _ => True) (0 :: 1 :: 2 :: 3 :: 4 :: 5 :: 6 :: 7 :: 8 :: []) (fun _ => .reads) (by kernel_rfl) (by kernel_rfl) ?_
      repeat (refine FY.flow_r rfl rfl rfl ?_; go_big_quiet_step (fail); refine wpQuiet_nil ?_)
      refine FY.flow_end (fun w1 hE1 _ => ?_)
      have hEn := hE'.trans hE1
      clear c1 c2 c3 c4 hD hnq
      go_wp2
      go_roundw
      case rel => exact ⟨k + 1, by omega, by go_num, hEn⟩
      case measure => simp [intOf]; omega
    · obtain rfl : k = n := by omega
      go_wp2
      exact ⟨rfl, hE⟩

/-- The first k of F are those below x. -/
def Below' (F : List Nat) (x k : Nat) : Prop := k ≤ F.length ∧ (∀ m v, F[m]? = some v → m < k → v < x) ∧ (∀ m v, F[m]? = some v → k ≤ m → x ≤ v)
theorem below_zero (F : List Nat) : Below' F 0 0 := ⟨Nat.zero_le _, fun _ _ _ h => by omega, fun _ _ _ _ => Nat.zero_le _⟩
theorem below_hit {F : List Nat} (hp : F.Pairwise (· < ·)) {x k : Nat} (h : Below' F x k) (hk : F[k]? = some x) : Below' F (x + 1) (k + 1) := by
  obtain ⟨hkl, hkv⟩ := List.getElem?_eq_some_iff.1 hk
  refine ⟨hkl, fun m v hm hlt => ?_, fun m v hm hle => ?_⟩
  · by_cases he : m = k
    · subst he; rw [hk] at hm; cases hm; omega
    · have := h.2.1 m v hm (by omega); omega
  · obtain ⟨hml, hmv⟩ := List.getElem?_eq_some_iff.1 hm
    have := List.pairwise_iff_getElem.1 hp k m hkl hml (by omega)
    rw [hkv, hmv] at this; omega
theorem below_miss {F : List Nat} (hp : F.Pairwise (· < ·)) {x k : Nat} (h : Below' F x k) (hk : F[k]? ≠ some x) : Below' F (x + 1) k ∧ x ∉ F := by
  have key : ∀ m v, F[m]? = some v → k ≤ m → x + 1 ≤ v := fun m v hm hle => by
    obtain ⟨hml, hmv⟩ := List.getElem?_eq_some_iff.1 hm
    have hkl : k < F.length := by omega
    have h1 := h.2.2 k _ (List.getElem?_eq_getElem hkl) (Nat.le_refl _)
    have h2 : F[k] ≠ x := fun e => hk (by rw [List.getElem?_eq_getElem hkl, e])
    by_cases he : m = k
    · subst he; omega
    · have := List.pairwise_iff_getElem.1 hp k m hkl hml (by omega)
      omega
  refine ⟨⟨h.1, fun m v hm hlt => by have := h.2.1 m v hm hlt; omega, key⟩, fun hin => ?_⟩
  obtain ⟨m, hm, hv⟩ := List.getElem_of_mem hin
  have hmx : F[m]? = some x := by rw [List.getElem?_eq_getElem hm, hv]
  by_cases hmk : m < k
  · have := h.2.1 m x hmx hmk; omega
  · have := key m x hmx (by omega); omega

def aS (L : List (Nat × Nat)) : List Nat := L.map (·.1)
def bS (L : List (Nat × Nat)) : List Nat := L.map (·.2)
theorem isA_iff (L : List (Nat × Nat)) (x : Nat) : isA L (x : Int) = decide (x ∈ aS L) := by
  unfold isA aS
  rw [Bool.eq_iff_iff, List.any_eq_true, decide_eq_true_iff]
  constructor
  · rintro ⟨p, hp, he⟩
    have : p.1 = x := Int.ofNat_inj.1 (by simpa using he)
    exact List.mem_map.2 ⟨p, hp, this⟩
  · intro h
    obtain ⟨p, hp, he⟩ := List.mem_map.1 h
    exact ⟨p, hp, by simp [he]⟩
theorem isB_iff (L : List (Nat × Nat)) (x : Nat) : isB L (x : Int) = decide (x ∈ bS L) := by
  unfold isB bS
  rw [Bool.eq_iff_iff, List.any_eq_true, decide_eq_true_iff]
  constructor
  · rintro ⟨p, hp, he⟩
    have : p.2 = x := Int.ofNat_inj.1 (by simpa using he)
    exact List.mem_map.2 ⟨p, hp, this⟩
  · intro h
    obtain ⟨p, hp, he⟩ := List.mem_map.1 h
    exact ⟨p, hp, by simp [he]⟩
theorem aS_rises {L : List (Nat × Nat)} (h : L.Pairwise (fun p q => p.1 < q.1 ∧ p.2 < q.2)) : (aS L).Pairwise (· < ·) := List.pairwise_map.2 (h.imp (fun h => h.1))
theorem bS_rises {L : List (Nat × Nat)} (h : L.Pairwise (fun p q => p.1 < q.1 ∧ p.2 < q.2)) : (bS L).Pairwise (· < ·) := List.pairwise_map.2 (h.imp (fun h => h.2))
theorem goneL_prefix (L : List (Nat × Nat)) (n : Nat) : ∀ m, n ≤ m → goneL L n <+: goneL L m
  | 0, h => by rw [show n = 0 by omega]; exact List.prefix_rfl
  | m + 1, h => by
    by_cases he : n = m + 1
    · rw [he]; exact List.prefix_rfl
    · rw [goneL_succ]; exact (goneL_prefix L n m (by omega)).trans (List.prefix_append _ _)
theorem comeL_prefix (L : List (Nat × Nat)) (n : Nat) : ∀ m, n ≤ m → comeL L n <+: comeL L m
  | 0, h => by rw [show n = 0 by omega]; exact List.prefix_rfl
  | m + 1, h => by
    by_cases he : n = m + 1
    · rw [he]; exact List.prefix_rfl
    · rw [comeL_succ]; exact (comeL_prefix L n m (by omega)).trans (List.prefix_append _ _)
theorem gone_hit {L : List (Nat × Nat)} {x : Nat} (h : x ∈ aS L) : goneL L (x + 1) = goneL L x := by rw [goneL_succ, isA_iff, decide_eq_true h]; simp
theorem come_hit {L : List (Nat × Nat)} {x : Nat} (h : x ∈ bS L) : comeL L (x + 1) = comeL L x := by rw [comeL_succ, isB_iff, decide_eq_true h]; simp
theorem gone_miss {L : List (Nat × Nat)} {x n : Nat} (hx : x < n) (h : x ∉ aS L) : (goneL L (x + 1)).length = (goneL L x).length + 1 ∧ (goneL L n)[(goneL L x).length]? = some x := by
  have h1 : goneL L (x + 1) = goneL L x ++ [x] := by rw [goneL_succ, isA_iff, decide_eq_false h]; simp
  refine ⟨by rw [h1]; simp, ?_⟩
  obtain ⟨t, ht⟩ := goneL_prefix L (x + 1) n (by omega)
  rw [← ht, h1]; simp
theorem come_miss {L : List (Nat × Nat)} {x n : Nat} (hx : x < n) (h : x ∉ bS L) : (comeL L (x + 1)).length = (comeL L x).length + 1 ∧ (comeL L n)[(comeL L x).length]? = some x := by
  have h1 : comeL L (x + 1) = comeL L x ++ [x] := by rw [comeL_succ, isB_iff, decide_eq_false h]; simp
  refine ⟨by rw [h1]; simp, ?_⟩
  obtain ⟨t, ht⟩ := comeL_prefix L (x + 1) n (by omega)
  rw [← ht, h1]; simp
end Go.Proofs.Ythedpnnfkmbdpaa
