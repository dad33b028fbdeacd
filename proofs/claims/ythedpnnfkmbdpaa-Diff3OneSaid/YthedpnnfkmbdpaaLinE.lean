/-
  Chapter 25's example; whether lines are few.
-/
import Derived.Test.YthedpnnfkmbdpaaLinD
import Derived.Laws.StructEq
namespace Go.Proofs.Ythedpnnfkmbdpaa
open Go.RowKit Go.Shelf

theorem lit_row {base : Nat} (w : World) (e : TypeId) (cs : Array Value) (n : Nat) (hm : n ≤ maxLen) (hs : cs.size = n) (hb : base ≤ w.heap.size) :
    (w.alloc (.cells cs e)).ownsRow base e 1 (.slice (some ⟨w.heap.size, 0, none⟩) n n) n cs.toList ∧ Row 1 (w.alloc (.cells cs e)) (some ⟨w.heap.size, 0, none⟩) n n cs.toList := by
  have h := World.ownsRow_lit (base := base) (e := e) (size := 1) w cs n hb hm (by simpa using hs)
  obtain ⟨_, _, h1, h2⟩ := owns_row h
  cases h1
  exact ⟨h, h2⟩

set_option maxHeartbeats 2000000 in
theorem few25_any (w : World) (aA : Option Addr) (n c : Nat) (a : List ByteArray) (hA : Row 1 w aA n c (a.map Value.string)) :
    Calls Try.prog 11 #[.slice aA n c] w fun e w' => ∃ q, e = .returned (.bool q) ∧ (q = true → n ≤ 24) ∧ w = w' := by
  have hl : a.length = n := by have := hA.2.2.1; simpa using this
  have hnc := hA.1
  have hcm := hA.2.1
  unfold maxLen at hcm
  have HL := Lib.hid hl
  clear hl
  refine calls_cps fun R hR => ?_
  go_enter Try.func11, Try.ntmps11
  go_wp2
  go_loopw [7] (fun i wr => ∃ k : Nat, k ≤ n ∧ i = .int .i64 k ∧ wr = w) (fun i _ => n - (intOf i).toNat)
  case atStart => exact ⟨0, by omega, rfl, rfl⟩
  case round =>
    obtain ⟨k, hk, rfl, rfl⟩ := hrel
    by_cases hlt : k < n
    · obtain ⟨ba, oa, rfl, hca⟩ := hA.2.2.2.2 (by omega)
      have hka : k < a.length := by have := HL.out; omega
      have c1 := hca k (.string a[k]) (by simp [hka])
      obtain ⟨s, hs⟩ : ∃ s, a[k] = s := ⟨_, rfl⟩
      rw [hs] at c1
      clear hs hca hka
      by_cases h100 : 100 < s.size
      · go_wp2
      · go_wp2
        go_roundw
        case rel => exact ⟨k + 1, by omega, by go_num, by trivial⟩
        case measure => simp [intOf]; omega
    · by_cases h24 : n ≤ 24
      · go_wp2
      · go_wp2
        omega

set_option maxHeartbeats 2000000 in
theorem fields_pair : Try.prog.underlying 27 = some (.struct (Try.prog.fieldsOf 27)) := by kernel_rfl
/-- '==' of pairs. -/
theorem run_eq_pair (a b c d : Int) (w : World) : (binOp .eql 27 (.agg #[.int .i64 a, .int .i64 b]) (.agg #[.int .i64 c, .int .i64 d])).run Try.prog w = .ok (.bool (a == c && b == d)) w := by
  rw [run_eql_struct, show (10000 : Nat) = 9999 + 1 from rfl, run_equalIn_agg w 9999 27 _ _ fields_pair Try.stoodInHeld27]
  rw [show (Try.prog.fieldsOf 27).toList = [{ name := "A", type := 3, offset := 0, embedded := false, tag := "", pkgPath := "", byteOffset := 0 },
        { name := "B", type := 3, offset := 1, embedded := false, tag := "", pkgPath := "", byteOffset := 8 }] from by kernel_rfl]
  have e1 : ∀ (x y : Int) (w : World), (Op.equalIn 9999 3 (.int .i64 x) (.int .i64 y)).run Try.prog w = .ok (x == y) w := fun x y w => by
    rw [show (9999 : Nat) = 9998 + 1 from rfl, run_equalIn_int w 9998 3 .i64 .i64 x y Try.underlying3]
  have p1 : ∀ (x y : Int) (w : World), (part 3 #[.int .i64 x, .int .i64 y] 0).run Try.prog w = .ok (.int .i64 x) w := fun x y w => by
    simp [part, go_sem]
  have p2 : ∀ (x y : Int) (w : World), (part 3 #[.int .i64 x, .int .i64 y] 1).run Try.prog w = .ok (.int .i64 y) w := fun x y w => by
    simp [part, go_sem]
  simp only [Op.eqFields]
  rw [if_pos (by decide), if_pos (by decide)]
  cases hac : (a == c) <;> simp [Sem.run_bind, p1, p2, e1, Result.andThen, hac]
  by_cases hbd : b = d <;> simp [hbd]


theorem awake25_any (w : World) : Calls Try.prog 10 #[] w fun e w' => e = .returned (.bool true) ∧ Ext w w' := by
  have hcl : commonL [(⟨#[97]⟩ : ByteArray), ⟨#[98]⟩, ⟨#[99]⟩] 0 [⟨#[98]⟩, ⟨#[99]⟩, ⟨#[100]⟩] 0 = [(1, 0), (2, 1)] := by kernel_rfl
  have r1 := (lit_row (base := 0) w 9 #[.string ⟨#[97]⟩, .string ⟨#[98]⟩, .string ⟨#[99]⟩] 3 (by simp [maxLen]) rfl (Nat.zero_le _)).2
  have r2 := (lit_row (base := 0) (w.alloc (.cells #[.string ⟨#[97]⟩, .string ⟨#[98]⟩, .string ⟨#[99]⟩] 9)) 9 #[.string ⟨#[98]⟩, .string ⟨#[99]⟩, .string ⟨#[100]⟩] 3 (by simp [maxLen]) rfl (Nat.zero_le _)).2
  rw [World.size_alloc] at r2
  have hc := common_any _ _ _ _ _ _ _ [⟨#[97]⟩, ⟨#[98]⟩, ⟨#[99]⟩] [⟨#[98]⟩, ⟨#[99]⟩, ⟨#[100]⟩] (r1.ext ((Keep.refl _ _).alloc _)) r2 (by omega) (by omega)
  rw [hcl] at hc
  have hE0 : Ext w ((w.alloc (.cells #[.string ⟨#[97]⟩, .string ⟨#[98]⟩, .string ⟨#[99]⟩] 9)).alloc (.cells #[.string ⟨#[98]⟩, .string ⟨#[99]⟩, .string ⟨#[100]⟩] 9)) := ((Keep.refl _ w).alloc _).alloc _
  clear r1 r2 hcl
  refine calls_cps fun R hR => ?_
  go_enter Try.func10, Try.ntmps10
  go_wp2_with fail
  refine hc.mono ?_; rintro e w1 ⟨a', c', rfl, hown, hE⟩
  obtain ⟨_, _, q1, hrow⟩ := owns_row hown
  cases q1
  obtain ⟨b, off, rfl, hcell⟩ := hrow.2.2.2.2 (by simp)
  have c0 := hcell 0 _ rfl
  have c1 := hcell 1 _ rfl
  have c2 := hcell 2 _ rfl
  have c3 := hcell 3 _ rfl
  simp only [Nat.add_zero] at c0
  have hfin := hE0.trans hE
  clear hc hcell hrow hown
  simp at c0 c1 c2 c3
  go_wp2
  exact ⟨rfl, hfin⟩
end Go.Proofs.Ythedpnnfkmbdpaa
