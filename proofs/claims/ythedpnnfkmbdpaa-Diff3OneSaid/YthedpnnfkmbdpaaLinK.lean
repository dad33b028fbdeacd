/-
  tabulariumref08.SameNames; lines.Join, tabulariumref25.Join.
-/
import Derived.Test.YthedpnnfkmbdpaaLinJ
import Derived.Test.YthedpnnfkmbdpaaFlow
import Derived.Test.YthedpnnfkmbdpaaSlices
import Derived.Lib.AppendStr
namespace Go.Proofs.Ythedpnnfkmbdpaa
open Go.RowKit Go.Shelf

theorem ba_beq (x y : ByteArray) : (x.toList == y.toList) = decide (x = y) := by
  obtain ⟨x⟩ := x
  obtain ⟨y⟩ := y
  rw [show (⟨x⟩ : ByteArray).toList = x.toList from by have := toList_mk x.toList; simpa using this, show (⟨y⟩ : ByteArray).toList = y.toList from by have := toList_mk y.toList; simpa using this]
  by_cases h : x = y
  · subst h; simp
  · have h' : x.toList ≠ y.toList := fun e => h (Array.toList_inj.1 e)
    have h'' : (⟨x⟩ : ByteArray) ≠ ⟨y⟩ := fun e => h (by cases e; rfl)
    simp [h'', beq_eq_false_iff_ne.2 h']

theorem sameNames_same (a b : Option Addr) (n c d : Nat) (xs : List ByteArray) (w : World) (hx : Row 1 w a n c (xs.map Value.string)) (hy : Row 1 w b n d (xs.map Value.string)) :
    Calls Try.prog 18 #[.slice a n c, .slice b n d] w fun e w' => e = .returned (.bool true) ∧ Ext w w' := by
  have hl : xs.length = n := by have := hx.2.2.1; simpa using this
  have hmx := hx.2.1
  have hnc := hx.1
  unfold maxLen at hmx
  refine calls_cps fun R hR => ?_
  have HL := Lib.hid hl
  clear hl
  go_enter Try.func18, Try.ntmps18
  go_wp2
  go_loopw [13] (fun i wr => ∃ k : Nat, k ≤ n ∧ i = .int .i64 k ∧ Ext w wr) (fun i _ => n - (intOf i).toNat)
  case atStart => exact ⟨0, by omega, rfl, Keep.refl _ _⟩
  case round =>
    obtain ⟨k, hk, rfl, hE⟩ := hrel
    by_cases hlt : k < n
    · obtain ⟨x, hxk⟩ : ∃ x, xs[k]? = some x := ⟨_, List.getElem?_eq_getElem (by have := HL.out; omega)⟩
      obtain ⟨bx, ox, rfl, hcellx⟩ := hx.2.2.2.2 (by omega)
      obtain ⟨by', oy, rfl, hcelly⟩ := hy.2.2.2.2 (by omega)
      have hD : ∀ g : At wr.drew, Ext w g.w := fun g => (hE.drew).trans g.ext
      have c1 := fun g => (hD g).cell (hcellx k (.string x) (by rw [List.getElem?_map, hxk]; rfl))
      have c2 := fun g => (hD g).cell (hcelly k (.string x) (by rw [List.getElem?_map, hxk]; rfl))
      have hE' := hE.drew
      clear hcellx hcelly hxk
      go_wp2
      refine wp_flow (fun _ => .reads) (by kernel_rfl) (by kernel_rfl) ?_
      repeat (refine flow_r rfl rfl ?_; go_big_quiet_step (fail); refine wpQuiet_nil ?_)
      refine flow_end (fun w1 hE1 _ => ?_)
      have hEn := hE'.trans hE1
      clear c1 c2 hD
      go_wp2
      go_round
      case rel => exact ⟨k + 1, by omega, by go_num, hEn⟩
      case measure => simp [intOf]; omega
    · obtain rfl : k = n := by omega
      go_wp2
      exact ⟨rfl, hE⟩

theorem info_u8 : (Try.prog.info? 5).map (fun i => (i.zero, i.size, i.bytes)) = some (some (.int .u8 0), 1, 1) := by kernel_rfl
theorem cat_take_succ {l : List ByteArray} {k : Nat} {x : ByteArray} (h : l[k]? = some x) : catL (l.take (k + 1)) = catL (l.take k) ++ x.data.toList := by
  rw [List.take_add_one, h]; exact catL_snoc _ _
theorem cat_take_le (l : List ByteArray) (k : Nat) : (catL (l.take k)).length ≤ (catL l).length := by
  have : catL l = catL (l.take k) ++ catL (l.drop k) := by unfold catL; rw [← List.flatMap_append, List.take_append_drop]
  rw [this, List.length_append]; omega
theorem strCells_u8 (x : ByteArray) : Lib.strCells x = x.data.toList.map u8v := rfl

set_option maxHeartbeats 1000000 in
theorem join_any (a : Option Addr) (n c : Nat) (l : List ByteArray) (w : World) (hr : Row 1 w a n c (l.map Value.string)) (hc : (catL l).length ≤ 100000) :
    Calls Try.prog 20 #[.slice a n c] w fun e w' => e = .returned (.string ⟨(catL l).toArray⟩) ∧ Ext w w' := by
  have hl : l.length = n := by have := hr.2.2.1; simpa using this
  have hmx := hr.2.1
  have hnc := hr.1
  unfold maxLen at hmx
  refine calls_cps fun R hR => ?_
  have HL := Lib.hid hl
  have HC := Lib.hid hc
  clear hl hc
  obtain ⟨i0, hi, hz0, hz1, hz2⟩ := info_parts info_u8
  go_enter Try.func20, Try.ntmps20
  go_wp2
  go_loopw [3, 8] (fun out i wr => ∃ (k t : Nat) (ao : Option Addr) (co : Nat), k ≤ n ∧ i = .int .i64 k ∧ out = .slice ao t co ∧ Hid (∀ _ : Unit, t = (catL (l.take k)).length) ∧ wr.ownsRow w.heap.size 5 1 (.slice ao t co) t ((catL (l.take k)).map u8v) ∧ Ext w wr) (fun _ i _ => n - (intOf i).toNat)
  case atStart => exact ⟨0, 0, none, 0, by omega, rfl, rfl, Lib.hid (fun _ => rfl), World.ownsRow_nil _ _ _ _, Keep.refl _ _⟩
  case round =>
    obtain ⟨k, t, ao, co, hk, rfl, rfl, HT, hown, hE⟩ := hrel
    by_cases hlt : k < n
    · obtain ⟨x, hxk⟩ : ∃ x, l[k]? = some x := ⟨_, List.getElem?_eq_getElem (by have := HL.out; omega)⟩
      obtain ⟨bx, ox, rfl, hcellx⟩ := hr.2.2.2.2 (by omega)
      have c1 := hE.cell (hcellx k (.string x) (by rw [List.getElem?_map, hxk]; rfl))
      have hs := cat_take_succ hxk
      have hle := cat_take_le l (k + 1)
      rw [hs, List.length_append, ← HT.out ()] at hle
      have hxl : x.data.toList.length = x.size := rfl
      have hle2 := HC.out
      obtain ⟨v', w', hrun, hown', hgrow, _⟩ := Lib.run_append_own_string (P := Try.prog) wr w.heap.size 61 9 61 5 i0 Try.underlying61 Try.underlying9 hi hz0 hz1 hz2 _ t _ hown x (by unfold maxLen; omega) (by omega) hE.size
      have hE' : Ext w w' := Ext.of_below ((Ext.below hE).grown hgrow hE.size (fun g hg => (hown.lt g hg).1))
      rw [strCells_u8, ← List.map_append, ← hs] at hown'
      obtain ⟨a2, c2, rfl, _⟩ := owns_row hown'
      have Hrun := Lib.hid hrun
      have HT' := Lib.hid (fun _ : Unit => show t + x.size = (catL (l.take (k + 1))).length by rw [hs, List.length_append, ← HT.out (), hxl])
      clear hrun hgrow hs hle hle2 hown hxk hxl HT hcellx
      go_wp2_with (at_builtin; go_must (refine wpList_append_run Hrun.out rfl rfl rfl rfl ?_))
      go_roundw
      case rel => exact ⟨k + 1, t + x.size, a2, c2, by omega, by go_num, rfl, HT', hown', hE'⟩
      case measure => simp [intOf]; omega
    · obtain rfl : k = n := by omega
      rw [List.take_of_length_le (by have := HL.out; omega)] at hown
      obtain ⟨_, _, q, hrow⟩ := owns_row hown
      cases q
      have s1 := run_string_row (P := Try.prog) wr 61 9 5 Try.underlying61 Try.underlying5 Try.underlying9 hrow
      clear hown hrow
      go_wp2
      exact ⟨rfl, hE⟩

set_option maxHeartbeats 1000000 in
theorem refJoin_any (a : Option Addr) (n c : Nat) (l : List ByteArray) (w : World) (hr : Row 1 w a n c (l.map Value.string)) (hc : (catL l).length ≤ 100000) :
    Calls Try.prog 21 #[.slice a n c] w fun e w' => e = .returned (.string ⟨(catL l).toArray⟩) ∧ Ext w w' := by
  have hl : l.length = n := by have := hr.2.2.1; simpa using this
  have hmx := hr.2.1
  have hnc := hr.1
  unfold maxLen at hmx
  refine calls_cps fun R hR => ?_
  have HL := Lib.hid hl
  have HC := Lib.hid hc
  clear hl hc
  go_enter Try.func21, Try.ntmps21
  go_wp2
  go_loopw [3, 8] (fun out i wr => ∃ (k : Nat) (t : ByteArray), k ≤ n ∧ i = .int .i64 k ∧ out = .string t ∧ Hid (∀ _ : Unit, t = ⟨(catL (l.take k)).toArray⟩) ∧ Ext w wr) (fun _ i _ => n - (intOf i).toNat)
  case atStart => exact ⟨0, ⟨#[]⟩, by omega, rfl, rfl, Lib.hid (fun _ => rfl), Keep.refl _ _⟩
  case round =>
    obtain ⟨k, t, hk, rfl, rfl, HT, hE⟩ := hrel
    by_cases hlt : k < n
    · obtain ⟨x, hxk⟩ : ∃ x, l[k]? = some x := ⟨_, List.getElem?_eq_getElem (by have := HL.out; omega)⟩
      obtain ⟨bx, ox, rfl, hcellx⟩ := hr.2.2.2.2 (by omega)
      have c1 := hE.cell (hcellx k (.string x) (by rw [List.getElem?_map, hxk]; rfl))
      have hs := cat_take_succ hxk
      have hle := cat_take_le l (k + 1)
      have hle2 := HC.out
      rw [hs, List.length_append] at hle
      have htl : t.size = (catL (l.take k)).length := by rw [HT.out ()]; rfl
      have hxl : x.data.toList.length = x.size := rfl
      have hsz : t.size + x.size ≤ 100000 := by omega
      have HT' := Lib.hid (fun _ : Unit => show t ++ x = ⟨(catL (l.take (k + 1))).toArray⟩ by
        rw [hs, HT.out ()]
        apply ByteArray.ext
        rw [ByteArray.data_append]
        apply Array.toList_inj.1
        simp)
      clear hcellx hxk hle hle2 htl hxl hs HT
      go_wp2
      go_roundw
      case rel => exact ⟨k + 1, t ++ x, by omega, by go_num, rfl, HT', hE⟩
      case measure => simp [intOf]; omega
    · obtain rfl : k = n := by omega
      have ht := HT.out ()
      rw [List.take_of_length_le (by have := HL.out; omega)] at ht
      subst ht
      clear HT
      go_wp2
      exact ⟨rfl, hE⟩
end Go.Proofs.Ythedpnnfkmbdpaa
