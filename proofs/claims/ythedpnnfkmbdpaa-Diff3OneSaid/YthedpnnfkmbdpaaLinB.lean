/-
  lines.table: filled.
-/
import Derived.Test.YthedpnnfkmbdpaaLinA
namespace Go.Proofs.Ythedpnnfkmbdpaa
open Go.RowKit Go.Shelf

def lcsAt (a b : List ByteArray) (i j : Nat) : Nat := lcs (a.drop i) (b.drop j)
theorem lcsAt_step {a b : List ByteArray} {i j : Nat} (hi : i < a.length) (hj : j < b.length) :
    lcsAt a b i j = if a[i] = b[j] then max (max (lcsAt a b (i + 1) j) (lcsAt a b i (j + 1))) (lcsAt a b (i + 1) (j + 1) + 1) else max (lcsAt a b (i + 1) j) (lcsAt a b i (j + 1)) := by
  unfold lcsAt
  rw [List.drop_eq_getElem_cons hi, List.drop_eq_getElem_cons hj, lcs_cons]
theorem lcsAt_le (a b : List ByteArray) (i j : Nat) : lcsAt a b i j ≤ a.length := by
  have := lcs_le_length (a.drop i) (b.drop j)
  unfold lcsAt; simp at this; omega

/-- What stands in the table when the rows behind I, and of row I the places from J on, are reckoned. -/
def tabF (a b : List ByteArray) (I J k : Nat) : Nat :=
  if I + 1 ≤ k / (b.length + 1) ∨ (k / (b.length + 1) = I ∧ J ≤ k % (b.length + 1)) then lcsAt a b (k / (b.length + 1)) (k % (b.length + 1)) else 0
/-- .. the rows from I on. -/
def tabG (a b : List ByteArray) (I k : Nat) : Nat := if I ≤ k / (b.length + 1) then lcsAt a b (k / (b.length + 1)) (k % (b.length + 1)) else 0
theorem at_div {m i j : Nat} (h : j ≤ m) : (i * (m + 1) + j) / (m + 1) = i ∧ (i * (m + 1) + j) % (m + 1) = j := by
  rw [Nat.mul_comm]
  exact ⟨by rw [Nat.mul_add_div (by omega), Nat.div_eq_of_lt (by omega)]; omega, by rw [Nat.mul_add_mod, Nat.mod_eq_of_lt (by omega)]⟩
theorem at_eq {m k : Nat} : k = (k / (m + 1)) * (m + 1) + k % (m + 1) := by rw [Nat.mul_comm]; exact (Nat.div_add_mod k (m + 1)).symm
/-- The whole table, its rows nB + 1 wide. -/
def tabL (a b : List ByteArray) (nB k : Nat) : Nat := lcsAt a b (k / (nB + 1)) (k % (nB + 1))
theorem tabL_at (a b : List ByteArray) {nB j : Nat} (i : Nat) (h : j ≤ nB) : tabL a b nB (i * (nB + 1) + j) = lcsAt a b i j := by
  obtain ⟨h3, h4⟩ := at_div (m := nB) (i := i) h
  unfold tabL
  rw [h3, h4]
theorem tabF_zero (a b : List ByteArray) (I k : Nat) : tabF a b I 0 k = tabG a b I k := by
  unfold tabF tabG
  by_cases h : I ≤ k / (b.length + 1)
  · rw [if_pos h, if_pos (by omega)]
  · rw [if_neg h, if_neg (by omega)]
theorem tabF_full (a b : List ByteArray) (I k : Nat) : tabF a b I b.length k = tabG a b (I + 1) k := by
  unfold tabF tabG
  by_cases h : I + 1 ≤ k / (b.length + 1)
  · rw [if_pos h, if_pos (by omega)]
  · rw [if_neg h]
    split
    · rename_i h2
      have h3 : k / (b.length + 1) = I ∧ b.length ≤ k % (b.length + 1) := by omega
      unfold lcsAt
      rw [List.drop_eq_nil_of_le h3.2, lcs_nil_right]
    · rfl
theorem tabG_full (a b : List ByteArray) (k : Nat) : tabG a b a.length k = 0 := by
  unfold tabG
  split
  · rename_i h
    unfold lcsAt
    rw [List.drop_eq_nil_of_le h, lcs_nil_left]
  · rfl
theorem tabF_at {a b : List ByteArray} {I J i j : Nat} (hj : j ≤ b.length) (h : I + 1 ≤ i ∨ (i = I ∧ J ≤ j)) : tabF a b I J (i * (b.length + 1) + j) = lcsAt a b i j := by
  obtain ⟨h1, h2⟩ := at_div (m := b.length) (i := i) hj
  unfold tabF
  rw [h1, h2, if_pos h]
theorem tabF_step (a b : List ByteArray) {I j N : Nat} (hj : j < b.length) :
    ((List.range N).map fun k => Value.int .u16 (tabF a b I (j + 1) k : Int)).set (I * (b.length + 1) + j) (.int .u16 (lcsAt a b I j : Int)) = (List.range N).map fun k => Value.int .u16 (tabF a b I j k : Int) := by
  obtain ⟨h1, h2⟩ := at_div (m := b.length) (i := I) (show j ≤ b.length by omega)
  refine List.ext_getElem? fun k => ?_
  by_cases hk : k < N
  · by_cases he : I * (b.length + 1) + j = k
    · rw [he, List.getElem?_set_self (by simpa using hk), List.getElem?_map, List.getElem?_range hk, Option.map_some, ← he, tabF_at (by omega) (.inr ⟨rfl, Nat.le_refl _⟩)]
    · rw [List.getElem?_set_ne he, List.getElem?_map, List.getElem?_map, List.getElem?_range hk, Option.map_some, Option.map_some]
      congr 2
      unfold tabF
      have hne : ¬ (k / (b.length + 1) = I ∧ k % (b.length + 1) = j) := fun h => he (by have := at_eq (m := b.length) (k := k); rw [h.1, h.2] at this; exact this.symm)
      by_cases hc : I + 1 ≤ k / (b.length + 1) ∨ (k / (b.length + 1) = I ∧ j ≤ k % (b.length + 1))
      · rw [if_pos hc, if_pos (by omega)]
      · rw [if_neg hc, if_neg (by omega)]
  · rw [List.getElem?_eq_none (by simp; omega), List.getElem?_eq_none (by simp; omega)]

theorem frozen_of_block {w : World} {B : Nat} {cs : Array Value} {t : TypeId} (h : w.heap[B]? = some (.cells cs t (0, 0))) (k : Nat) : w.frozen? ⟨B, k, none⟩ = false := by
  simp [World.frozen?, h]
theorem Tab.congr {w : World} {base B g : Nat} {aA aB : Option Addr} {nA cA nB cB N : Nat} {f f' : Nat → Nat} (h : Tab w base B g aA aB nA cA nB cB N f) (he : ∀ k, f k = f' k) : Tab w base B g aA aB nA cA nB cB N f' := by
  obtain rfl : f = f' := funext he
  exact h

theorem info_u16 : (Try.prog.info? 55).map (fun i => (i.zero, i.size, i.bytes)) = some (some (.int .u16 0), 1, 2) := by kernel_rfl

theorem at_int (w : World) (base B g : Nat) (aA aB : Option Addr) (nA cA nB cB N : Nat) (f : Nat → Nat) (hT : Tab w base B g aA aB nA cA nB cB N f) (i j v : Nat) (I J : Int) (hI : I = i) (hJ : J = j) (hi : i ≤ nA) (hj : j ≤ nB) (hN : (nA + 1) * (nB + 1) = N) (hA : nA ≤ 400) (hB : nB ≤ 400)
    (hf : f (i * (nB + 1) + j) = v) : Calls Try.prog 28 #[.pointer (some ⟨B, 0, none⟩), .int .i64 I, .int .i64 J] w fun e w' => e = .returned (.int .u16 (v : Int)) ∧ Ext w w' := by
  subst hI; subst hJ; subst hf
  have h1 : i * (nB + 1) ≤ nA * (nB + 1) := Nat.mul_le_mul_right _ hi
  have h2 : (nA + 1) * (nB + 1) = nA * (nB + 1) + (nB + 1) := by rw [Nat.add_mul]; omega
  have h3 : (nA + 1) * (nB + 1) ≤ 401 * 401 := Nat.mul_le_mul (by omega) (by omega)
  exact at_any w base B g aA aB nA cA nB cB N f hT i j (by omega) (by omega) hB (by omega)

theorem Tab.setRow {w : World} {base B g : Nat} {aA aB : Option Addr} {nA cA nB cB N : Nat} {f f' : Nat → Nat} (h : Tab w base B g aA aB nA cA nB cB N f) (p : Nat) (u : Value)
    (hs : ((List.range N).map fun k => Value.int .u16 (f k : Int)).set p u = (List.range N).map fun k => Value.int .u16 (f' k : Int)) (hne : g ≠ B) : Tab (w.setCell ⟨g, p, none⟩ u) base B g aA aB nA cA nB cB N f' := by
  obtain ⟨h1, h2⟩ := h.row.stored p u
  rw [hs] at h1
  exact ⟨(heap_setCell_other w ⟨g, p, none⟩ B u (fun e => hne e.symm)).trans h.box, h1⟩

set_option maxHeartbeats 2000000 in
theorem fill_any (w : World) (B : Nat) (aA aB : Option Addr) (nA cA nB cB : Nat) (a b : List ByteArray) (hb : w.heap[B]? = some (.cells #[.slice aA nA cA, .slice aB nB cB, .slice none 0 0] 54 (0, 0)))
    (hA : Row 1 w aA nA cA (a.map Value.string)) (hB : Row 1 w aB nB cB (b.map Value.string)) (h1 : nA ≤ 400) (h2 : nB ≤ 400) (hAB : ∀ p, aA = some p → 0 < nA → p.block ≠ B) (hBB : ∀ p, aB = some p → 0 < nB → p.block ≠ B) :
    Calls Try.prog 27 #[.pointer (some ⟨B, 0, none⟩)] w fun e w' => e = .returned (.tuple #[]) ∧ Tab w' w.heap.size B w.heap.size aA aB nA cA nB cB ((nA + 1) * (nB + 1)) (tabL a b nB) ∧ Keep (fun k _ => k = B) w w' := by
  have hlA : a.length = nA := by have := hA.2.2.1; simpa using this
  have hlB : b.length = nB := by have := hB.2.2.1; simpa using this
  have hBlt : B < w.heap.size := Keep.lt hb
  obtain ⟨i0, hi, hz0, hz1, hz2⟩ := info_parts info_u16
  have hNle : (nA + 1) * (nB + 1) ≤ 401 * 401 := Nat.mul_le_mul (by omega) (by omega)
  obtain ⟨N, hN⟩ : ∃ N, (nA + 1) * (nB + 1) = N := ⟨_, rfl⟩
  have hNi : ((nA : Int) + 1) * ((nB : Int) + 1) = (N : Int) := by rw [← hN]; push_cast; rfl
  rw [hN] at hNle ⊢
  have c0 := cell_of_block hb 0
  have c1 := cell_of_block hb 1
  simp at c0 c1
  have HLA := Lib.hid hlA
  have HLB := Lib.hid hlB
  have HN := Lib.hid hN
  clear hlA hlB hN
  refine calls_cps fun R hR => ?_
  go_enter Try.func27, Try.ntmps27
  go_wp2_with (at_make; go_must (refine wpList_make_full _ rfl _ _ 52 rfl w.heap.size 55 i0 _ 1 Try.underlying52 hi hz0 hz1 .i64 .i64 _ _ N rfl rfl (by omega) (by omega) (by rw [hz2]; omega) (by unfold maxLen; omega) (Nat.le_refl _) ?_); intro w1 hown1 hgrow1; have E1 : Ext w w1 := Keep.of_grownBy hgrow1 (fun k o h _ => by cases h); have hb1 := E1.block _ _ hb (fun h => h); have d0 := (cell_of_block hb1 0); have d1 := (cell_of_block hb1 1); have d2 := (cell_of_block hb1 2); have f2 := frozen_of_block hb1 2; simp at d0 d1 d2)
  have hTab0 : Tab (w1.setCell ⟨B, 2, none⟩ (.slice (some ⟨w.heap.size, 0, none⟩) N N)) w.heap.size B w.heap.size aA aB nA cA nB cB N (tabG a b nA) := by
    refine ⟨?_, ?_⟩
    · have := heap_setCell_same w1 B 2 _ _ (.slice (some ⟨w.heap.size, 0, none⟩) N N) hb1
      simpa using this
    · rw [show ((List.range N).map fun k => Value.int .u16 (tabG a b nA k : Int)) = (madeCells (Value.int .u16 0).cells (N * 1)).toList from by
        rw [show (Value.int .u16 0).cells = #[.int .u16 0] from rfl, Nat.mul_one, toList_madeCells_one, ← HLA.out]
        refine List.ext_getElem? fun k => ?_
        by_cases hk : k < N
        · rw [List.getElem?_map, List.getElem?_range hk, Option.map_some, tabG_full, List.getElem?_replicate, if_pos hk]; rfl
        · rw [List.getElem?_eq_none (by simp; omega), List.getElem?_eq_none (by simp; omega)]]
      exact ownsRow_setCell_other hown1 (by simp [Value.ownBlock]; omega) _
  have hK0 : Keep (fun k _ => k = B) w (w1.setCell ⟨B, 2, none⟩ (.slice (some ⟨w.heap.size, 0, none⟩) N N)) := (Keep.of_ext E1).setCell _ _ (fun _ _ => rfl)
  clear c0 c1 d0 d1 d2 f2 hown1 hgrow1 hb1
  go_loopw [3] (fun x wr => ∃ I : Nat, I ≤ nA ∧ x = .int .i64 ((I : Int) - 1) ∧ Tab wr w.heap.size B w.heap.size aA aB nA cA nB cB N (tabG a b I) ∧ Keep (fun k _ => k = B) w wr) (fun x _ => (intOf x + 1).toNat)
  case atStart => exact ⟨nA, Nat.le_refl _, rfl, hTab0, hK0⟩
  case round =>
    clear hTab0 hK0
    obtain ⟨I, hI, rfl, hT, hK⟩ := hrel
    by_cases h0 : 0 < I
    · obtain ⟨i, rfl⟩ : ∃ i, I = i + 1 := ⟨I - 1, by omega⟩
      have hii : ((i + 1 : Nat) : Int) - 1 = (i : Int) := by omega
      rw [hii]
      clear hii
      have c1 := cell_of_block hT.box 1
      simp at c1
      go_wp2
      have hT0 : Tab wr w.heap.size B w.heap.size aA aB nA cA nB cB N (tabF a b i nB) := hT.congr (fun k => by rw [← HLB.out]; exact (tabF_full a b i k).symm)
      clear hT c1
      go_loopw [4] (fun y wr => ∃ J : Nat, J ≤ nB ∧ y = .int .i64 ((J : Int) - 1) ∧ Tab wr w.heap.size B w.heap.size aA aB nA cA nB cB N (tabF a b i J) ∧ Keep (fun k _ => k = B) w wr) (fun y _ => (intOf y + 1).toNat)
      case atStart => exact ⟨nB, Nat.le_refl _, rfl, hT0, hK⟩
      case round =>
        clear hT0 hK
        obtain ⟨J, hJ, rfl, hT, hK⟩ := hrel
        by_cases hj0 : 0 < J
        · obtain ⟨j, rfl⟩ : ∃ j, J = j + 1 := ⟨J - 1, by omega⟩
          have hjj : ((j + 1 : Nat) : Int) - 1 = (j : Int) := by omega
          rw [hjj]
          clear hjj
          have hla := HLA.out
          have hlb := HLB.out
          have hstep := lcsAt_step (a := a) (b := b) (i := i) (j := j) (by omega) (by omega)
          have fX : tabF a b i (j + 1) ((i + 1) * (nB + 1) + j) = lcsAt a b (i + 1) j := by rw [← hlb]; exact tabF_at (by omega) (.inl (Nat.le_refl _))
          have fY : tabF a b i (j + 1) (i * (nB + 1) + (j + 1)) = lcsAt a b i (j + 1) := by rw [← hlb]; exact tabF_at (by omega) (.inr ⟨rfl, Nat.le_refl _⟩)
          have fZ : tabF a b i (j + 1) ((i + 1) * (nB + 1) + (j + 1)) = lcsAt a b (i + 1) (j + 1) := by rw [← hlb]; exact tabF_at (by omega) (.inl (Nat.le_refl _))
          have bX := lcsAt_le a b (i + 1) j
          have bY := lcsAt_le a b i (j + 1)
          have bZ := lcsAt_le a b (i + 1) (j + 1)
          obtain ⟨X, hX⟩ : ∃ X, lcsAt a b (i + 1) j = X := ⟨_, rfl⟩
          obtain ⟨Y, hY⟩ : ∃ Y, lcsAt a b i (j + 1) = Y := ⟨_, rfl⟩
          obtain ⟨Z, hZ⟩ : ∃ Z, lcsAt a b (i + 1) (j + 1) = Z := ⟨_, rfl⟩
          obtain ⟨V, hV⟩ : ∃ V, lcsAt a b i j = V := ⟨_, rfl⟩
          rw [hX] at fX bX hstep
          rw [hY] at fY bY hstep
          rw [hZ] at fZ bZ hstep
          rw [hV] at hstep
          have HX := fun w' (h : Tab w' w.heap.size B w.heap.size aA aB nA cA nB cB N (tabF a b i (j + 1))) => at_int w' _ _ _ _ _ _ _ _ _ _ _ h (i + 1) j X ((i : Int) + 1) j (by omega) rfl (by omega) (by omega) HN.out h1 h2 fX
          have HY := fun w' (h : Tab w' w.heap.size B w.heap.size aA aB nA cA nB cB N (tabF a b i (j + 1))) => at_int w' _ _ _ _ _ _ _ _ _ _ _ h i (j + 1) Y i ((j : Int) + 1) rfl (by omega) (by omega) (by omega) HN.out h1 h2 fY
          have HZ := fun w' (h : Tab w' w.heap.size B w.heap.size aA aB nA cA nB cB N (tabF a b i (j + 1))) => at_int w' _ _ _ _ _ _ _ _ _ _ _ h (i + 1) (j + 1) Z ((i : Int) + 1) ((j : Int) + 1) (by omega) (by omega) (by omega) (by omega) HN.out h1 h2 fZ
          have HS := Lib.hid hstep
          clear fX fY fZ hstep hX hY hZ
          have hArow := hA.keep hK (fun p o hp _ _ hx => hAB p hp (by omega) hx)
          have hBrow := hB.keep hK (fun p o hp _ _ hx => hBB p hp (by omega) hx)
          obtain ⟨ba, oa, rfl, hca⟩ := hArow.2.2.2.2 (by omega)
          obtain ⟨bb, ob, rfl, hcb⟩ := hBrow.2.2.2.2 (by omega)
          have hia : i < a.length := by have := HLA.out; omega
          have hjb : j < b.length := by have := HLB.out; omega
          have hcA := hca i (.string a[i]) (by simp [hia])
          have hcB := hcb j (.string b[j]) (by simp [hjb])
          obtain ⟨sa, hsa⟩ : ∃ sa, a[i] = sa := ⟨_, rfl⟩
          obtain ⟨sb, hsb⟩ : ∃ sb, b[j] = sb := ⟨_, rfl⟩
          have HS' := HS.out
          rw [hsa, hsb] at HS'
          rw [hsa] at hcA
          rw [hsb] at hcB
          replace HS := Lib.hid HS'
          have hbq := bytes_beq sa sb
          have hset : ((List.range N).map fun k => Value.int .u16 (tabF a b i (j + 1) k : Int)).set (i * (nB + 1) + j) (.int .u16 (V : Int)) = (List.range N).map fun k => Value.int .u16 (tabF a b i j k : Int) := by
            have := tabF_step a b (I := i) (j := j) (N := N) hjb
            rw [HLB.out, hV] at this
            exact this
          obtain ⟨q, hq⟩ : ∃ q, i * (nB + 1) = q := ⟨_, rfl⟩
          have hqi : (i : Int) * ((nB : Int) + 1) = (q : Int) := by rw [← hq]; push_cast; rfl
          have hqN : q + j < N := by
            have h3 := Nat.mul_le_mul_right (nB + 1) (show i ≤ nA by omega)
            have h4 := HN.out
            rw [Nat.add_mul] at h4
            have h5 : (i + 1) * (nB + 1) ≤ nA * (nB + 1) := Nat.mul_le_mul_right _ (by omega)
            rw [Nat.add_mul] at h5
            omega
          rw [hq] at hset
          have HSet := Lib.hid hset
          clear HS' hsa hsb hca hcb hArow hBrow hia hjb hset hq hV
          by_cases hXY : X < Y
          · skip

            have hM : max X Y = Y := by omega
            have hstep := HS.out
            rw [hM] at hstep
            clear HS
            go_wp2_with fail
            refine (HX _ hT).mono ?_; rintro e wa ⟨rfl, ea⟩
            have hTa := hT.ext ea
            go_wp2_with fail
            refine (HY _ hTa).mono ?_; rintro e wb ⟨rfl, eb⟩
            have hTb := hTa.ext eb
            have eab := ea.trans eb
            go_wp2
            have hD : ∀ g : At wb.drew, Ext wb g.w := fun g => ((Keep.refl _ wb).drew).trans g.ext
            have c0 := fun g => cell_of_block ((hTb.ext (hD g)).box) 0
            have c1 := fun g => cell_of_block ((hTb.ext (hD g)).box) 1
            simp at c0 c1
            have c2 := fun g => ((eab.trans (hD g))).cell (hcA)
            have c3 := fun g => ((eab.trans (hD g))).cell (hcB)
            refine wp_flow (fun _ => .reads) (by kernel_rfl) (by kernel_rfl) ?_
            repeat (refine flow_r rfl rfl ?_; go_big_quiet_step (fail); refine wpQuiet_nil ?_)
            refine flow_end (fun wc hEc _ => ?_)
            have ebc : Ext wb wc := ((Keep.refl _ wb).drew).trans hEc
            have hTc := hTb.ext ebc
            clear c0 c1 c2 c3 hD
            by_cases heq : sa = sb
            · rw [if_pos heq] at hstep
              have hd : decide (sa = sb) = true := decide_eq_true heq
              rw [hd]
              go_wp2_with fail
              refine (HZ _ hTc).mono ?_; rintro e wd ⟨rfl, ed⟩
              have hTd := hTc.ext ed
              have eall := (eab.trans ebc).trans ed
              by_cases hZM : Y < Z + 1
              · have hVZ : V = Z + 1 := by omega
                subst hVZ
                clear hstep hM
                have hzc : ((Z + 1 : Nat) : Int) = (Z : Int) + 1 := by omega
                have cS := hTd.row.cellAt (q + j) (by omega)
                rw [List.getElem?_map, List.getElem?_range hqN] at cS
                simp only [Option.map_some] at cS
                have fS := hTd.row.frozenAt (q + j)
                have cb := cell_of_block hTd.box 2
                simp at cb
                have hTn := hTd.setRow (f' := tabF a b i j) (q + j) _ HSet.out (by omega)
                rw [hzc] at hTn
                clear hzc
                have hKn : Keep (fun k _ => k = B) w (wd.setCell ⟨w.heap.size, q + j, none⟩ (.int .u16 ((Z : Int) + 1))) := (hK.trans (Keep.of_ext eall)).setCell _ _ (fun o ho => by have := Keep.lt ho; replace this : w.heap.size < w.heap.size := this; omega)
                obtain ⟨old, hold⟩ : ∃ old, Value.int .u16 (tabF a b i (j + 1) (q + j) : Int) = old := ⟨_, rfl⟩
                rw [hold] at cS
                go_wp2
                go_roundw
                case rel => exact ⟨j, by omega, by go_num, hTn, hKn⟩
                case measure => simp [intOf]
              · have hVM : V = Y := by omega
                subst hVM
                clear hstep hM
                have cS := hTd.row.cellAt (q + j) (by omega)
                rw [List.getElem?_map, List.getElem?_range hqN] at cS
                simp only [Option.map_some] at cS
                have fS := hTd.row.frozenAt (q + j)
                have cb := cell_of_block hTd.box 2
                simp at cb
                have hTn := hTd.setRow (f' := tabF a b i j) (q + j) _ HSet.out (by omega)
                have hKn : Keep (fun k _ => k = B) w (wd.setCell ⟨w.heap.size, q + j, none⟩ (.int .u16 (V : Int))) := (hK.trans (Keep.of_ext eall)).setCell _ _ (fun o ho => by have := Keep.lt ho; replace this : w.heap.size < w.heap.size := this; omega)
                obtain ⟨old, hold⟩ : ∃ old, Value.int .u16 (tabF a b i (j + 1) (q + j) : Int) = old := ⟨_, rfl⟩
                rw [hold] at cS
                go_wp2
                go_roundw
                case rel => exact ⟨j, by omega, by go_num, hTn, hKn⟩
                case measure => simp [intOf]
            · rw [if_neg heq] at hstep
              have hd : decide (sa = sb) = false := decide_eq_false heq
              rw [hd]
              subst hstep
              have eall := eab.trans ebc
              have cS := hTc.row.cellAt (q + j) (by omega)
              rw [List.getElem?_map, List.getElem?_range hqN] at cS
              simp only [Option.map_some] at cS
              have fS := hTc.row.frozenAt (q + j)
              have cb := cell_of_block hTc.box 2
              simp at cb
              have hTn := hTc.setRow (f' := tabF a b i j) (q + j) _ HSet.out (by omega)
              have hKn : Keep (fun k _ => k = B) w (wc.setCell ⟨w.heap.size, q + j, none⟩ (.int .u16 (V : Int))) := (hK.trans (Keep.of_ext eall)).setCell _ _ (fun o ho => by have := Keep.lt ho; replace this : w.heap.size < w.heap.size := this; omega)
              obtain ⟨old, hold⟩ : ∃ old, Value.int .u16 (tabF a b i (j + 1) (q + j) : Int) = old := ⟨_, rfl⟩
              rw [hold] at cS
              go_wp2
              go_roundw
              case rel => exact ⟨j, by omega, by go_num, hTn, hKn⟩
              case measure => simp [intOf]
          · skip

            have hM : max X Y = X := by omega
            have hstep := HS.out
            rw [hM] at hstep
            clear HS
            go_wp2_with fail
            refine (HX _ hT).mono ?_; rintro e wa ⟨rfl, ea⟩
            have hTa := hT.ext ea
            go_wp2_with fail
            refine (HY _ hTa).mono ?_; rintro e wb ⟨rfl, eb⟩
            have hTb := hTa.ext eb
            have eab := ea.trans eb
            go_wp2
            have hD : ∀ g : At wb.drew, Ext wb g.w := fun g => ((Keep.refl _ wb).drew).trans g.ext
            have c0 := fun g => cell_of_block ((hTb.ext (hD g)).box) 0
            have c1 := fun g => cell_of_block ((hTb.ext (hD g)).box) 1
            simp at c0 c1
            have c2 := fun g => ((eab.trans (hD g))).cell (hcA)
            have c3 := fun g => ((eab.trans (hD g))).cell (hcB)
            refine wp_flow (fun _ => .reads) (by kernel_rfl) (by kernel_rfl) ?_
            repeat (refine flow_r rfl rfl ?_; go_big_quiet_step (fail); refine wpQuiet_nil ?_)
            refine flow_end (fun wc hEc _ => ?_)
            have ebc : Ext wb wc := ((Keep.refl _ wb).drew).trans hEc
            have hTc := hTb.ext ebc
            clear c0 c1 c2 c3 hD
            by_cases heq : sa = sb
            · rw [if_pos heq] at hstep
              have hd : decide (sa = sb) = true := decide_eq_true heq
              rw [hd]
              go_wp2_with fail
              refine (HZ _ hTc).mono ?_; rintro e wd ⟨rfl, ed⟩
              have hTd := hTc.ext ed
              have eall := (eab.trans ebc).trans ed
              by_cases hZM : X < Z + 1
              · have hVZ : V = Z + 1 := by omega
                subst hVZ
                clear hstep hM
                have hzc : ((Z + 1 : Nat) : Int) = (Z : Int) + 1 := by omega
                have cS := hTd.row.cellAt (q + j) (by omega)
                rw [List.getElem?_map, List.getElem?_range hqN] at cS
                simp only [Option.map_some] at cS
                have fS := hTd.row.frozenAt (q + j)
                have cb := cell_of_block hTd.box 2
                simp at cb
                have hTn := hTd.setRow (f' := tabF a b i j) (q + j) _ HSet.out (by omega)
                rw [hzc] at hTn
                clear hzc
                have hKn : Keep (fun k _ => k = B) w (wd.setCell ⟨w.heap.size, q + j, none⟩ (.int .u16 ((Z : Int) + 1))) := (hK.trans (Keep.of_ext eall)).setCell _ _ (fun o ho => by have := Keep.lt ho; replace this : w.heap.size < w.heap.size := this; omega)
                obtain ⟨old, hold⟩ : ∃ old, Value.int .u16 (tabF a b i (j + 1) (q + j) : Int) = old := ⟨_, rfl⟩
                rw [hold] at cS
                go_wp2
                go_roundw
                case rel => exact ⟨j, by omega, by go_num, hTn, hKn⟩
                case measure => simp [intOf]
              · have hVM : V = X := by omega
                subst hVM
                clear hstep hM
                have cS := hTd.row.cellAt (q + j) (by omega)
                rw [List.getElem?_map, List.getElem?_range hqN] at cS
                simp only [Option.map_some] at cS
                have fS := hTd.row.frozenAt (q + j)
                have cb := cell_of_block hTd.box 2
                simp at cb
                have hTn := hTd.setRow (f' := tabF a b i j) (q + j) _ HSet.out (by omega)
                have hKn : Keep (fun k _ => k = B) w (wd.setCell ⟨w.heap.size, q + j, none⟩ (.int .u16 (V : Int))) := (hK.trans (Keep.of_ext eall)).setCell _ _ (fun o ho => by have := Keep.lt ho; replace this : w.heap.size < w.heap.size := this; omega)
                obtain ⟨old, hold⟩ : ∃ old, Value.int .u16 (tabF a b i (j + 1) (q + j) : Int) = old := ⟨_, rfl⟩
                rw [hold] at cS
                go_wp2
                go_roundw
                case rel => exact ⟨j, by omega, by go_num, hTn, hKn⟩
                case measure => simp [intOf]
            · rw [if_neg heq] at hstep
              have hd : decide (sa = sb) = false := decide_eq_false heq
              rw [hd]
              subst hstep
              have eall := eab.trans ebc
              have cS := hTc.row.cellAt (q + j) (by omega)
              rw [List.getElem?_map, List.getElem?_range hqN] at cS
              simp only [Option.map_some] at cS
              have fS := hTc.row.frozenAt (q + j)
              have cb := cell_of_block hTc.box 2
              simp at cb
              have hTn := hTc.setRow (f' := tabF a b i j) (q + j) _ HSet.out (by omega)
              have hKn : Keep (fun k _ => k = B) w (wc.setCell ⟨w.heap.size, q + j, none⟩ (.int .u16 (V : Int))) := (hK.trans (Keep.of_ext eall)).setCell _ _ (fun o ho => by have := Keep.lt ho; replace this : w.heap.size < w.heap.size := this; omega)
              obtain ⟨old, hold⟩ : ∃ old, Value.int .u16 (tabF a b i (j + 1) (q + j) : Int) = old := ⟨_, rfl⟩
              rw [hold] at cS
              go_wp2
              go_roundw
              case rel => exact ⟨j, by omega, by go_num, hTn, hKn⟩
              case measure => simp [intOf]
        · obtain rfl : J = 0 := by omega
          have hT' : Tab wr w.heap.size B w.heap.size aA aB nA cA nB cB N (tabG a b i) := hT.congr (tabF_zero a b i)
          clear hT
          go_wp2
          go_roundw
          case rel => exact ⟨i, by omega, rfl, hT', hK⟩
          case measure => simp [intOf]
    · obtain rfl : I = 0 := by omega
      have hT' : Tab wr w.heap.size B w.heap.size aA aB nA cA nB cB N (tabL a b nB) := hT.congr (fun k => by unfold tabG tabL; rw [if_pos (Nat.zero_le _), HLB.out])
      clear hT
      go_wp2
      exact bodyPost_end (results_none rfl _ _ _) rfl (hR _ _ ⟨rfl, hT', hK⟩)
end Go.Proofs.Ythedpnnfkmbdpaa
