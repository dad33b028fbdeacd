/-
  disk.Disk: Dead, Len, Writes, may, Read, Start.
-/
import Derived.Test.YtdopaoajbjodeaaDkA
namespace Go.Proofs.Ytdopaoajbjodeaa
open Go.RowKit Go.Shelf

attribute [local go_sem] Oper.semAt_some

abbrev PD (w : World) (B gs gc : Nat) (s : DSt) : Prop := DA 66 s.pw w B gs gc s

theorem dead_any {w : World} {B gs gc : Nat} {s : DSt} (h : PD w B gs gc s) : Calls Try.prog 50 #[.pointer (some ⟨B, 0, none⟩)] w fun e w' => e = .returned (.bool (!s.pw)) ∧ Ext w w' := by
  obtain ⟨ac, cc, cap, tl, e1, _, _, _, hnc, hcm⟩ := h.ex
  have c3 := e1.cell (i := 3) rfl
  clear e1 h
  refine calls_cps fun R hR => ?_
  go_enter Try.func50, Try.ntmps50
  go_wp2
  exact ⟨rfl, Keep.refl _ _⟩
theorem dead_nil (w : World) : Calls Try.prog 50 #[.pointer none] w fun e w' => e = .returned (.bool true) ∧ Ext w w' := by
  refine calls_cps fun R hR => ?_
  go_enter Try.func50, Try.ntmps50
  go_wp2
  exact ⟨rfl, Keep.refl _ _⟩
theorem dlen_any {w : World} {B gs gc : Nat} {s : DSt} (h : PD w B gs gc s) : Calls Try.prog 41 #[.pointer (some ⟨B, 0, none⟩)] w fun e w' => e = .returned (.int .i64 (s.n : Int)) ∧ Ext w w' := by
  obtain ⟨ac, cc, cap, tl, e1, _, _, _, hnc, hcm⟩ := h.ex
  have c0 := e1.cell (i := 0) rfl
  clear e1 h
  refine calls_cps fun R hR => ?_
  go_enter Try.func41, Try.ntmps41
  go_wp2
  exact ⟨rfl, Keep.refl _ _⟩
theorem dlen_nil (w : World) : Calls Try.prog 41 #[.pointer none] w fun e w' => e = .returned (.int .i64 0) ∧ Ext w w' := by
  refine calls_cps fun R hR => ?_
  go_enter Try.func41, Try.ntmps41
  go_wp2
  exact ⟨rfl, Keep.refl _ _⟩
theorem dmay_any {w : World} {B gs gc : Nat} {s : DSt} (h : PD w B gs gc s) (i : Int) : Calls Try.prog 40 #[.pointer (some ⟨B, 0, none⟩), .int .i64 i] w fun e w' => e = .returned (.int .i64 (s.may i)) ∧ Ext w w' := by
  have hd := dead_any h
  obtain ⟨ac, cc, cap, tl, e1, _, _, _, hnc, hcm⟩ := h.ex
  have c0 := e1.cell (i := 0) rfl
  clear e1 h
  refine calls_cps fun R hR => ?_
  go_enter Try.func40, Try.ntmps40
  go_wp2_with fail
  refine hd.mono ?_; rintro e w1 ⟨rfl, e1⟩
  have c1 := e1.cell c0
  cases hp : s.pw with
  | false =>
    have hm : s.may i = 131 := by simp [DSt.may, hp]
    rw [hm] at hR
    clear hp hm hd
    go_wp2
    exact ⟨rfl, e1⟩
  | true =>
    by_cases h0 : i < 0
    · have hm : s.may i = 130 := by simp [DSt.may, hp, h0]
      rw [hm] at hR
      clear hp hm hd
      go_wp2
      exact ⟨rfl, e1⟩
    · by_cases hn : (s.n : Int) ≤ i
      · have hm : s.may i = 130 := by simp [DSt.may, hp, hn]
        rw [hm] at hR
        clear hp hm hd
        go_wp2
        exact ⟨rfl, e1⟩
      · have hm : s.may i = 0 := by simp [DSt.may, hp, h0, hn]
        rw [hm] at hR
        clear hp hm hd
        go_wp2
        exact ⟨rfl, e1⟩
theorem dmay_nil (w : World) (i : Int) : Calls Try.prog 40 #[.pointer none, .int .i64 i] w fun e w' => e = .returned (.int .i64 131) ∧ Ext w w' := by
  refine calls_cps fun R hR => ?_
  go_enter Try.func40, Try.ntmps40
  go_wp2_with fail
  refine (dead_nil _).mono ?_; rintro e w1 ⟨rfl, e1⟩
  go_wp2
  exact ⟨rfl, e1⟩

theorem may_zero {s : DSt} {i : Int} (h : s.may i = 0) : s.pw = true ∧ ∃ k : Nat, i = (k : Int) ∧ k < s.n := by
  unfold DSt.may at h
  split at h
  · rename_i hp
    split at h
    · cases h
    · rename_i hn
      exact ⟨hp, i.toNat, by omega, by omega⟩
  · cases h
end Go.Proofs.Ytdopaoajbjodeaa
