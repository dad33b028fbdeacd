/-
  vec.Xor and the reference's: bytes put together bit by bit.
-/
import Derived.Test.YtijpbbjblenhaaaLit
import Derived.Test.YtijpbbjblenhaaaFlow
import Derived.Test.YtijpbbjblenhaaaBytes
import Derived.Test.YtijpbbjblenhaaaVecB
import Derived.Laws.BitsAllLaws
namespace Go.Proofs.Ytijpbbjblenhaaa
open Go.RowKit Go.Shelf

def xorL (l r : List UInt8) : List UInt8 := List.zipWith (fun x y => x ^^^ y) l r
theorem xorL_length (l r : List UInt8) : (xorL l r).length = min l.length r.length := by simp [xorL]
theorem xorL_get {l r : List UInt8} {i : Nat} (h1 : i < l.length) (h2 : i < r.length) : (xorL l r)[i]? = some (l[i] ^^^ r[i]) := by
  simp [xorL, List.getElem?_zipWith, h1, h2]
theorem xor_u8 (x y : UInt8) : bits .xor .u8 (x.toNat : Int) (y.toNat : Int) = ((x ^^^ y).toNat : Int) := by
  rw [u8_xor_nat _ _ x.toNat_lt y.toNat_lt, UInt8.toNat_xor]

theorem Ext.grownNew {w A B : World} (h : Ext w A) (hg : A.grownBy B (some w.heap.size)) : Ext w B :=
  Keep.grown h hg (fun k o hk ho => by cases hk; have := Keep.lt ho; omega)

set_option maxHeartbeats 1000000 in
theorem xor_any (a b : Option Addr) (n1 n2 c1 c2 : Nat) (l r : List UInt8) (w : World) (h1 : Row 1 w a n1 c1 (l.map u8v)) (h2 : Row 1 w b n2 c2 (r.map u8v)) (hs : n1 ≤ 4294967296) (hs2 : n2 ≤ 4294967296) :
    Calls Try.prog 24 #[.slice a n1 c1, .slice b n2 c2] w fun e w' => ∃ a' c', e = .returned (.slice a' (xorL l r).length c') ∧
      w'.ownsRow w.heap.size 5 1 (.slice a' (xorL l r).length c') (xorL l r).length ((xorL l r).map u8v) ∧ Ext w w' := by
  have hl1 : l.length = n1 := by have := h1.2.2.1; simpa using this
  have hl2 : r.length = n2 := by have := h2.2.2.1; simpa using this
  have hX := xorL_length l r
  rw [hl1, hl2] at hX
  obtain ⟨m, hm⟩ : ∃ m, (xorL l r).length = m := ⟨_, rfl⟩
  obtain ⟨i0, hi, hz0, hz1, hz2⟩ := info_parts info_u8
  rw [hm] at hX ⊢
  refine calls_cps fun R hR => ?_
  go_enter Try.func24, Try.ntmps24
  have hlist : ∀ ys : List Value, ys.length = m → (∀ j, j < m → ys[j]? = ((xorL l r).map u8v)[j]?) → ys = (xorL l r).map u8v := fun ys h1 h2 => by
    refine List.ext_getElem? fun j => ?_
    by_cases h : j < m
    · exact h2 j h
    · rw [List.getElem?_eq_none (by omega), List.getElem?_eq_none (by simp; omega)]
  have hc1 := h1.1
  have hm1 := h1.2.1
  have hc2 := h2.1
  have hm2 := h2.2.1
  have HX := Lib.hid hX
  clear hX
  go_wp2_with (at_make; go_must (refine wpList_make_full _ rfl _ _ 37 rfl w.heap.size 5 i0 _ 1 Try.underlying37 hi hz0 hz1 .i64 .i64 _ _ m rfl rfl (by have := HX.out; omega) (by have := HX.out; omega) (by rw [hz2]; have := HX.out; omega) (by unfold maxLen; have := HX.out; omega) (Nat.le_refl _) ?_); intro w1 hown1 hgrow1)
  all_goals
    go_loopw [15] (fun i wr => ∃ (k : Nat) (ys : List Value), k ≤ m ∧ i = .int .i64 k ∧ wr.ownsRow w.heap.size 5 1 (.slice (some ⟨w.heap.size, 0, none⟩) m m) m ys ∧ Hid (∀ j, j < k → ys[j]? = ((xorL l r).map u8v)[j]?) ∧ Ext w wr) (fun i _ => m - (intOf i).toNat)
    case atStart => exact ⟨0, _, by omega, rfl, hown1, Lib.hid (fun j hj => by omega), Keep.of_grownBy hgrow1 (fun k o h _ => by cases h)⟩
    case round =>
      obtain ⟨k, ys, hk, rfl, hown, HJ, hE⟩ := hrel
      have hX := HX.out
      by_cases hlt : k < m
      · obtain ⟨ba, oa, rfl, hca⟩ := h1.2.2.2.2 (by omega)
        obtain ⟨bb, ob, rfl, hcb⟩ := h2.2.2.2.2 (by omega)
        have hD : ∀ g : At wr.drew, Ext w g.w := fun g => (hE.drew).trans g.ext
        have k1 : k < l.length := by omega
        have k2 : k < r.length := by omega
        have c1 := fun g => (hD g).cell (hca k (u8v l[k]) (by simp [k1]))
        have c2 := fun g => (hD g).cell (hcb k (u8v r[k]) (by simp [k2]))
        have hx8 := xor_u8 l[k] r[k]
        have hg := xorL_get k1 k2
        obtain ⟨x, hx⟩ : ∃ x, l[k] = x := ⟨_, rfl⟩
        obtain ⟨y, hy⟩ : ∃ y, r[k] = y := ⟨_, rfl⟩
        simp only [hx] at c1 hx8 hg
        simp only [hy] at c2 hx8 hg
        obtain ⟨z, hz⟩ : ∃ z, x ^^^ y = z := ⟨_, rfl⟩
        rw [hz] at hx8 hg
        simp only [u8v] at c1 c2
        have HG := Lib.hid hg
        clear hg hX
        go_wp2
        refine wp_flow (fun k => if k = 12 then .last else .reads) (by kernel_rfl) (by kernel_rfl) ?_
        repeat (refine flow_r rfl rfl ?_; go_big_quiet_step (fail); refine wpQuiet_nil ?_)
        refine flow_l rfl (by kernel_rfl) (fun w2 hE2 _ => ?_)
        have hE3 : Ext wr w2 := ((Keep.refl _ wr).drew).trans hE2
        have hown2 := hE3.owns hown
        have hyl := hown2.1
        have cS := hown2.cellAt k (by omega)
        rw [List.getElem?_eq_getElem (show k < ys.length by omega)] at cS
        have fS := hown2.frozenAt k
        obtain ⟨st1, st2⟩ := hown2.stored k (.int .u8 (z.toNat : Int))
        obtain ⟨yk, hyk⟩ : ∃ yk, ys[k] = yk := ⟨_, rfl⟩
        rw [hyk] at cS
        go_wp2
        go_roundw
        case rel => exact ⟨k + 1, _, by omega, by go_num, st1, Lib.hid (fun j hj => by
            by_cases h : j = k
            · subst h; rw [List.getElem?_set_self (by omega), List.getElem?_map, HG.out]; rfl
            · rw [List.getElem?_set_ne (by omega)]; exact HJ.out j (by omega)), Ext.grownNew (hE.trans hE3) st2⟩
        case measure => simp [intOf]; omega
      · obtain rfl : k = m := by omega
        rw [hlist ys (by have := hown.1; omega) HJ.out] at hown
        go_wp2
        exact ⟨_, _, rfl, hown, hE⟩
end Go.Proofs.Ytijpbbjblenhaaa
