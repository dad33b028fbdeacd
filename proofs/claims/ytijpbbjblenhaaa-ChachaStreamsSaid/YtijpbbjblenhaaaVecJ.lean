/-
  The reference's Xor.
-/
import Derived.Test.YtijpbbjblenhaaaVecI
import Derived.Test.YtijpbbjblenhaaaFlow
namespace Go.Proofs.Ytijpbbjblenhaaa
open Go.RowKit Go.Shelf

/-- A slice of one new cell. -/
def One (u : Value) (v : Value) (w : World) : Prop := ∃ b, v = .slice (some ⟨b, 0, none⟩) 1 1 ∧ Row 1 w (some ⟨b, 0, none⟩) 1 1 [u]
def OneSh (v : Value) : Prop := ∃ b, v = .slice (some ⟨b, 0, none⟩) 1 1
theorem One.mono {u v : Value} {w w' : World} (h : One u v w) (hE : Ext w w') : One u v w' := by
  obtain ⟨b, h1, h2⟩ := h
  exact ⟨b, h1, h2.ext hE⟩
theorem One.sh {u v : Value} {w : World} (h : One u v w) : OneSh v := by obtain ⟨b, h1, _⟩ := h; exact ⟨b, h1⟩
theorem One.new (w : World) (t : TypeId) (u : Value) : One u (.slice (some ⟨w.heap.size, 0, none⟩) 1 1) (w.alloc (.cells #[u] t)) :=
  ⟨_, rfl, (lit_row (base := 0) w t #[u] 1 (by simp [maxLen]) rfl (Nat.zero_le _)).2⟩

set_option maxHeartbeats 1000000 in
theorem refXor_any (a b : Option Addr) (n1 n2 c1 c2 : Nat) (l r : List UInt8) (w : World) (h1 : Row 1 w a n1 c1 (l.map u8v)) (h2 : Row 1 w b n2 c2 (r.map u8v)) (hs : n1 ≤ 4294967296) (hs2 : n2 ≤ 4294967296) :
    Calls Try.prog 26 #[.slice a n1 c1, .slice b n2 c2] w fun e w' => ∃ a' c', e = .returned (.slice a' (xorL l r).length c') ∧
      w'.ownsRow w.heap.size 5 1 (.slice a' (xorL l r).length c') (xorL l r).length ((xorL l r).map u8v) ∧ Ext w w' := by
  have hl1 : l.length = n1 := by have := h1.2.2.1; simpa using this
  have hl2 : r.length = n2 := by have := h2.2.2.1; simpa using this
  have hX := xorL_length l r
  rw [hl1, hl2] at hX
  obtain ⟨m, hm⟩ : ∃ m, (xorL l r).length = m := ⟨_, rfl⟩
  rw [hm] at hX ⊢
  have hc1 := h1.1
  have hm1 := h1.2.1
  have hc2 := h2.1
  have hm2 := h2.2.1
  have HX := Lib.hid hX
  clear hX
  refine calls_cps fun R hR => ?_
  go_enter Try.func26, Try.ntmps26
  go_wp2
  go_loopw [5, 6] (fun out i wr => ∃ (k : Nat) (ao : Option Addr) (co : Nat), k ≤ m ∧ i = .int .i64 k ∧ out = .slice ao k co ∧ wr.ownsRow w.heap.size 5 1 (.slice ao k co) k (((xorL l r).take k).map u8v) ∧ Ext w wr) (fun _ i _ => m - (intOf i).toNat)
  case atStart => exact ⟨0, none, 0, by omega, rfl, rfl, by simpa using World.ownsRow_nil w w.heap.size 5 1, Keep.refl _ _⟩
  case round =>
    obtain ⟨k, ao, co, hk, rfl, rfl, hown, hE⟩ := hrel
    have hX := HX.out
    by_cases hlt : k < m
    · obtain ⟨ba, oa, rfl, hca⟩ := h1.2.2.2.2 (by omega)
      obtain ⟨bb, ob, rfl, hcb⟩ := h2.2.2.2.2 (by omega)
      have hD : ∀ g : At wr.drew, Ext w g.w := fun g => (hE.drew).trans g.ext
      have k1 : k < l.length := by omega
      have k2 : k < r.length := by omega
      have hk1 : k < n1 := by omega
      have hk2 : k < n2 := by omega
      have c1 := fun g => (hD g).cell (hca k (u8v l[k]) (by simp [k1]))
      have c2 := fun g => (hD g).cell (hcb k (u8v r[k]) (by simp [k2]))
      have hx8 := xor_u8 l[k] r[k]
      have hg := xorL_get k1 k2
      obtain ⟨x, hx⟩ : ∃ x, l[k] = x := ⟨_, rfl⟩
      obtain ⟨y, hy⟩ : ∃ y, r[k] = y := ⟨_, rfl⟩
      simp only [hx] at c1 hx8 hg
      simp only [hy] at c2 hx8 hg
      obtain ⟨z, hz⟩ : ∃ z, x ^^^ y = z := ⟨_, rfl⟩
      rw [hz] at hx8 hg
      simp only [u8v] at c1 c2
      have HG := Lib.hid hg
      clear hg hX
      go_wp2
      refine wp_flow (fun k => if k = 10 then .grows (One (u8v z)) OneSh else if k = 11 then .bar else .reads) (by kernel_rfl) (by kernel_rfl) ?_
      repeat (refine flow_r rfl rfl ?_; go_big_quiet_step (fail); refine wpQuiet_nil ?_)
      refine flow_g rfl rfl (by simp) ⟨_, 0, rfl⟩ (fun _ _ _ h hE => h.mono hE) (fun _ _ h => h.sh) (fun w2 hE2 _ => ?_) (fun v hv => ?_)
      · go_wp2
        exact ⟨(Keep.refl _ _).alloc _, One.new _ _ _⟩
      · obtain ⟨b1, rfl⟩ := hv
        simp only [Act.put, List.setIfInBounds_toArray, List.set_cons_succ, List.set_cons_zero]
        refine flow_b rfl (by kernel_rfl) (fun w2 hE2 hf => ?_)
        have hone : One (u8v z) (.slice (some ⟨b1, 0, none⟩) 1 1) w2 := hf 10
        clear hf
        obtain ⟨b2, e2, hsrc⟩ := hone
        cases e2
        have hE3 : Ext wr w2 := ((Keep.refl _ wr).drew).trans hE2
        have hown2 := hE3.owns hown
        obtain ⟨v', w', hrun, hown', hgrow, _⟩ := run_append_row w2 w.heap.size 37 37 5 _ 1 1 Try.underlying37 info_u8 rfl (by decide) hown2 hsrc (by simp [Value.oneCell', u8v]) (by have := HX.out; unfold maxLen; omega) (by have := HX.out; omega) (by have := (hE.trans hE3).size; omega)
        have hEw : Ext w w' := Ext.of_below ((Ext.below (hE.trans hE3)).grown hgrow (by have := (hE.trans hE3).size; omega) (fun g hg => (hown.lt g hg).1))
        rw [show ((xorL l r).take k).map u8v ++ [u8v z] = ((xorL l r).take (k + 1)).map u8v from by
          rw [List.take_add_one, HG.out, List.map_append]; rfl] at hown'
        obtain ⟨a2, c2, rfl, _⟩ := owns_row hown'
        refine wpList_append_run hrun rfl rfl rfl rfl ?_
        clear hrun hsrc hown2
        simp only [Act.put, List.setIfInBounds_toArray, List.set_cons_succ, List.set_cons_zero]
        refine (show wpFlows _ _ _ _ _ _ _ _ _ _ from ?_)
        repeat (refine flow_r rfl rfl ?_; go_big_quiet_step (fail); refine wpQuiet_nil ?_)
        refine flow_end (fun w3 hE4 _ => ?_)
        have hfin := hEw.trans hE4
        have hownF := hE4.owns hown'
        clear hown' hgrow
        go_wp2
        go_roundw
        case rel => exact ⟨k + 1, _, _, by omega, by go_num, rfl, hownF, hfin⟩
        case measure => simp [intOf]; omega
    · obtain rfl : k = m := by omega
      rw [List.take_of_length_le (by omega)] at hown
      by_cases hq : k < n1
      · have hq2 : ¬ k < n2 := by omega
        clear hX
        go_wp2
        exact ⟨_, _, rfl, hown, hE⟩
      · clear hX
        go_wp2
        exact ⟨_, _, rfl, hown, hE⟩
end Go.Proofs.Ytijpbbjblenhaaa
