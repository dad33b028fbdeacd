/-
  diff3.Clean.
-/
import Derived.Test.YthedpnnfkmbdpaaDfH
namespace Go.Proofs.Ythedpnnfkmbdpaa
open Go.RowKit Go.Shelf

attribute [local go_sem] Oper.semAt_some

theorem cells_get : ∀ {hv : List HV} {i : Nat} {g : HV}, hv[i]? = some g →
    (hv.flatMap HV.cells)[i * 4]? = some (.int .i64 g.k) ∧ (hv.flatMap HV.cells)[i * 4 + 1]? = some g.x ∧ (hv.flatMap HV.cells)[i * 4 + 2]? = some g.a ∧ (hv.flatMap HV.cells)[i * 4 + 3]? = some g.b
  | [], i, g, h => by simp at h
  | g0 :: hv, 0, g, h => by
    obtain rfl : g0 = g := by simpa using h
    simp [HV.cells]
  | g0 :: hv, i + 1, g, h => by
    obtain ⟨i0, i1, i2, i3⟩ := cells_get (hv := hv) (i := i) (g := g) (by simpa using h)
    rw [List.flatMap_cons, show (i + 1) * 4 = i * 4 + 4 by omega]
    have e : ∀ j, (HV.cells g0 ++ hv.flatMap HV.cells)[i * 4 + 4 + j]? = (hv.flatMap HV.cells)[i * 4 + j]? := fun j => by
      rw [List.getElem?_append_right (by simp [HV.cells]; omega)]
      simp only [HV.cells, List.length_cons, List.length_nil]
      congr 1
      omega
    exact ⟨by have := e 0; simp only [Nat.add_zero] at this; rw [this]; exact i0, by rw [e 1]; exact i1, by rw [e 2]; exact i2, by rw [e 3]; exact i3⟩
theorem HsIn.row {w : World} {v : Value} {hv : List HV} {hs : List (Hunk ByteArray)} (h : HsIn w v hv hs) : ∃ a c, v = .slice a hs.length c ∧ Row 4 w a hs.length c (hv.flatMap HV.cells) := owns_row h.1
/-- Hunk i of a slice of hunks. -/
theorem HsIn.at {w : World} {a : Option Addr} {n c : Nat} {hv : List HV} {hs : List (Hunk ByteArray)} (h : HsIn w (.slice a n c) hv hs) (hr : Row 4 w a n c (hv.flatMap HV.cells)) {i : Nat} {u : Hunk ByteArray} (hu : hs[i]? = some u) (hi : i < n) :
    ∃ b o a1 n1 c1 a2 n2 c2 a3 n3 c3, a = some ⟨b, o, none⟩ ∧ w.cell? ⟨b, o + i * 4, none⟩ = some (.int .i64 u.k) ∧ w.cell? ⟨b, o + i * 4 + 1, none⟩ = some (.slice a1 n1 c1) ∧ w.cell? ⟨b, o + i * 4 + 2, none⟩ = some (.slice a2 n2 c2) ∧ w.cell? ⟨b, o + i * 4 + 3, none⟩ = some (.slice a3 n3 c3) ∧
      Row 1 w a1 n1 c1 (u.x.map Value.string) ∧ Row 1 w a2 n2 c2 (u.a.map Value.string) ∧ Row 1 w a3 n3 c3 (u.b.map Value.string) := by
  obtain ⟨g, hg⟩ : ∃ g, hv[i]? = some g := ⟨_, List.getElem?_eq_getElem (by rw [h.2.1]; exact (List.getElem?_eq_some_iff.1 hu).1)⟩
  obtain ⟨k1, o1, o2, o3⟩ := h.2.2 i u g hu hg
  obtain ⟨b, o, rfl, hc⟩ := hr.2.2.2.2 (by omega)
  obtain ⟨d0, d1, d2, d3⟩ := cells_get hg
  obtain ⟨a1, c1, e1, r1⟩ := owns_row o1
  obtain ⟨a2, c2, e2, r2⟩ := owns_row o2
  obtain ⟨a3, c3, e3, r3⟩ := owns_row o3
  rw [k1] at d0
  rw [e1] at d1
  rw [e2] at d2
  rw [e3] at d3
  exact ⟨b, o, a1, _, c1, a2, _, c2, a3, _, c3, rfl, hc _ _ d0, by have := hc _ _ d1; rwa [← Nat.add_assoc] at this, by have := hc _ _ d2; rwa [← Nat.add_assoc] at this, by have := hc _ _ d3; rwa [← Nat.add_assoc] at this, r1, r2, r3⟩

theorem clean1_any (k : Int) (a1 a2 a3 : Option Addr) (n1 c1 n2 c2 n3 c3 : Nat) (w : World) (hk : ¬ k = 5) :
    Calls Try.prog 43 #[.agg #[.int .i64 k, .slice a1 n1 c1, .slice a2 n2 c2, .slice a3 n3 c3]] w fun e w' => e = .returned (.bool false) ∧ Ext w w' := by
  refine calls_cps fun R hR => ?_
  go_enter Try.func43, Try.ntmps43
  have hE : Ext w (w.alloc (.cells #[.int .i64 k, .slice a1 n1 c1, .slice a2 n2 c2, .slice a3 n3 c3] 44)) := (Keep.refl _ w).alloc _
  have c0 := (Arr.new w 44 [.int .i64 k, .slice a1 n1 c1, .slice a2 n2 c2, .slice a3 n3 c3]).cell (i := 0) rfl
  have hb : (k == 5) = false := by simpa using hk
  go_wp2
  exact ⟨rfl, hE⟩

set_option maxHeartbeats 2000000 in
theorem indexFunc_any (a : Option Addr) (n c : Nat) (hv : List HV) (hs : List (Hunk ByteArray)) (w : World) (hh : HsIn w (.slice a n c) hv hs) (hl : hs.length = n) (hk : ∀ h ∈ hs, h.k ≠ 5) :
    Calls Try.prog 44 #[.slice a n c, .func (.func 43) #[] #[]] w fun e w' => e = .returned (.int .i64 (-1)) ∧ Ext w w' := by
  obtain ⟨_, _, q, hr⟩ := hh.row
  rw [hl] at q hr
  cases q
  have hmx := hr.2.1
  have hnc := hr.1
  unfold maxLen at hmx
  refine calls_cps fun R hR => ?_
  have HL := Lib.hid hl
  have HH := Lib.hid hh
  clear hl hh
  go_enter Try.func44, Try.ntmps44
  go_wp2
  go_loopw [8] (fun i wr => ∃ k : Nat, k ≤ n ∧ i = .int .i64 k ∧ Ext w wr) (fun i _ => n - (intOf i).toNat)
  case atStart => exact ⟨0, by omega, rfl, Keep.refl _ _⟩
  case round =>
    obtain ⟨k, hk', rfl, hE⟩ := hrel
    by_cases hlt : k < n
    · obtain ⟨u, hu⟩ : ∃ u, hs[k]? = some u := ⟨_, List.getElem?_eq_getElem (by have := HL.out; omega)⟩
      obtain ⟨b, o, a1, n1, c1, a2, n2, c2, a3, n3, c3, rfl, d0, d1, d2, d3, _, _, _⟩ := HH.out.at hr hu hlt
      replace d0 := Ext.cell hE d0
      replace d1 := Ext.cell hE d1
      replace d2 := Ext.cell hE d2
      replace d3 := Ext.cell hE d3
      have hcl := clean1_any u.k a1 a2 a3 n1 c1 n2 c2 n3 c3 wr (hk u (List.mem_of_getElem? hu))
      clear hu
      go_wp2_with fail
      refine hcl.mono ?_
      rintro e w' ⟨rfl, hE2⟩
      have hE' := hE.trans hE2
      clear d0 d1 d2 d3 hE2 hcl
      go_wp2
      go_roundw
      case rel => exact ⟨k + 1, by omega, by go_num, hE'⟩
      case measure => simp [intOf]; omega
    · obtain rfl : k = n := by omega
      go_wp2
      exact ⟨rfl, hE⟩

theorem clean_any (a : Option Addr) (n c : Nat) (hv : List HV) (hs : List (Hunk ByteArray)) (w : World) (hh : HsIn w (.slice a n c) hv hs) (hl : hs.length = n) (hk : ∀ h ∈ hs, h.k ≠ 5) :
    Calls Try.prog 39 #[.slice a n c] w fun e w' => e = .returned (.bool true) ∧ Ext w w' := by
  have hcf : Calls Try.prog 42 #[.slice a n c, .func (.func 43) #[] #[]] w fun e w' => e = .returned (.bool false) ∧ Ext w w' := by
    have hi := indexFunc_any a n c hv hs w hh hl hk
    refine calls_cps fun R hR => ?_
    go_enter Try.func42, Try.ntmps42
    clear hh
    go_wp2_with fail
    refine hi.mono ?_
    rintro e w' ⟨rfl, hE⟩
    go_wp2
    exact ⟨rfl, hE⟩
  clear hh
  refine calls_cps fun R hR => ?_
  go_enter Try.func39, Try.ntmps39
  go_wp2_with fail
  refine hcf.mono ?_
  rintro e w' ⟨rfl, hE⟩
  go_wp2
  exact ⟨rfl, hE⟩
end Go.Proofs.Ythedpnnfkmbdpaa
