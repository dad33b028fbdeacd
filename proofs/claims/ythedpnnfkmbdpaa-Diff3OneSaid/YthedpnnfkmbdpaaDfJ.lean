/-
  diff3.Text, where there is no conflict.
-/
import Derived.Test.YthedpnnfkmbdpaaDfI
import Derived.Test.YthedpnnfkmbdpaaLinK
namespace Go.Proofs.Ythedpnnfkmbdpaa
open Go.RowKit Go.Shelf

attribute [local go_sem] Oper.semAt_some

def IsV (u v : Value) (_ : World) : Prop := v = u
def IsVS (u v : Value) : Prop := v = u
/-- The text of hunks without a conflict. -/
def pieceL (h : Hunk ByteArray) : List UInt8 := if h.k = 3 then catL h.b else catL h.a
def textL (hs : List (Hunk ByteArray)) : List UInt8 := hs.flatMap pieceL
theorem text_take_succ {l : List (Hunk ByteArray)} {k : Nat} {x : Hunk ByteArray} (h : l[k]? = some x) : textL (l.take (k + 1)) = textL (l.take k) ++ pieceL x := by
  rw [List.take_add_one, h]; simp [textL]
theorem text_take_le (l : List (Hunk ByteArray)) (k : Nat) : (textL (l.take k)).length ≤ (textL l).length := by
  have : textL l = textL (l.take k) ++ textL (l.drop k) := by unfold textL; rw [← List.flatMap_append, List.take_append_drop]
  rw [this, List.length_append]; omega

set_option maxHeartbeats 4000000 in
theorem text_any (a : Option Addr) (n c : Nat) (hv : List HV) (hs : List (Hunk ByteArray)) (w : World) (hh : HsIn w (.slice a n c) hv hs) (hl : hs.length = n) (hk : ∀ h ∈ hs, h.k ≠ 5) (hc : (textL hs).length ≤ 100000) :
    Calls Try.prog 31 #[.slice a n c] w fun e w' => e = .returned (.tuple #[.string ⟨(textL hs).toArray⟩, .bool false]) ∧ Ext w w' := by
  obtain ⟨_, _, q, hr⟩ := hh.row
  rw [hl] at q hr
  cases q
  have hmx := hr.2.1
  have hnc := hr.1
  unfold maxLen at hmx
  refine calls_cps fun R hR => ?_
  have HL := Lib.hid hl
  have HH := Lib.hid hh
  have HK := Lib.hid hk
  have HC := Lib.hid hc
  clear hl hh hk hc
  obtain ⟨i0, hi, hz0, hz1, hz2⟩ := info_parts info_u8
  go_enter Try.func31, Try.ntmps31
  go_wp2
  go_loopw [4, 9] (fun out i wr => ∃ (k t : Nat) (ao : Option Addr) (co : Nat), k ≤ n ∧ i = .int .i64 k ∧ out = .slice ao t co ∧ Hid (∀ _ : Unit, t = (textL (hs.take k)).length) ∧ wr.ownsRow w.heap.size 5 1 (.slice ao t co) t ((textL (hs.take k)).map u8v) ∧ Ext w wr) (fun _ i _ => n - (intOf i).toNat)
  case atStart => exact ⟨0, 0, none, 0, by omega, rfl, rfl, Lib.hid (fun _ => rfl), World.ownsRow_nil _ _ _ _, Keep.refl _ _⟩
  case round =>
    obtain ⟨k, t, ao, co, hk, rfl, rfl, HT, hown, hE⟩ := hrel
    by_cases hlt : k < n
    · obtain ⟨u, hu⟩ : ∃ u, hs[k]? = some u := ⟨_, List.getElem?_eq_getElem (by have := HL.out; omega)⟩
      obtain ⟨b, o, a1, n1, c1, a2, n2, c2, a3, n3, c3, rfl, d0, d1, d2, d3, _, r2, r3⟩ := HH.out.at hr hu hlt
      replace d0 := Ext.cell hE d0
      replace d1 := Ext.cell hE d1
      replace d2 := Ext.cell hE d2
      replace d3 := Ext.cell hE d3
      have h5 : (u.k == 5) = false := by simpa using HK.out u (List.mem_of_getElem? hu)
      have hs1 := text_take_succ hu
      have hle := text_take_le hs (k + 1)
      rw [hs1, List.length_append, ← HT.out ()] at hle
      have hle2 := HC.out
      have eA : Ext wr (wr.alloc (.cells #[.int .i64 u.k, .slice a1 n1 c1, .slice a2 n2 c2, .slice a3 n3 c3] 44)) := (Keep.refl _ wr).alloc _
      have zA := Arr.new wr 44 [.int .i64 u.k, .slice a1 n1 c1, .slice a2 n2 c2, .slice a3 n3 c3]
      have e0 := zA.cell (i := 0) rfl
      have e2 := zA.cell (i := 2) rfl
      have e3 := zA.cell (i := 3) rfl
      -- what is added
      have hadd : ∀ w1 (X : List UInt8), Ext (wr.alloc (.cells #[.int .i64 u.k, .slice a1 n1 c1, .slice a2 n2 c2, .slice a3 n3 c3] 44)) w1 → X = pieceL u → ∃ a' c' w', (Builtin.append_ #[61, 9] 61 #[.slice ao t co, .string ⟨X.toArray⟩]).run Try.prog w1 = .ok (.slice a' (t + X.length) c') w' ∧
          Hid (∀ _ : Unit, t + X.length = (textL (hs.take (k + 1))).length) ∧ w'.ownsRow w.heap.size 5 1 (.slice a' (t + X.length) c') (t + X.length) ((textL (hs.take (k + 1))).map u8v) ∧ Ext w w' := fun w1 X hE1 hX => by
        subst hX
        have hE2 := (hE.trans eA).trans hE1
        have hsz := hE2.size
        obtain ⟨v', w', hrun, hown', hgrow, _⟩ := Lib.run_append_own_string (P := Try.prog) w1 w.heap.size 61 9 61 5 i0 Try.underlying61 Try.underlying9 hi hz0 hz1 hz2 _ t _ (Ext.owns (eA.trans hE1) hown) (⟨(pieceL u).toArray⟩ : ByteArray) (by unfold maxLen; simp [ByteArray.size]; omega) (by simp [ByteArray.size]; omega) hsz
        have hE' : Ext w w' := Ext.of_below ((Ext.below hE2).grown hgrow hsz (fun g hg => ((Ext.owns (eA.trans hE1) hown).lt g hg).1))
        rw [strCells_u8, ← List.map_append] at hown'
        simp only [] at hown'
        rw [← hs1] at hown'
        have hsz2 : (⟨(pieceL u).toArray⟩ : ByteArray).size = (pieceL u).length := by simp [ByteArray.size]
        rw [hsz2] at hown'
        obtain ⟨a2, c2, rfl, _⟩ := owns_row hown'
        exact ⟨a2, c2, w', hrun, Lib.hid (fun _ => by rw [hs1, List.length_append, ← HT.out ()]), hown', hE'⟩
      have HADD := Lib.hid hadd
      have r2' := r2.ext (hE.trans eA)
      have r3' := r3.ext (hE.trans eA)
      by_cases h3 : u.k = 3
      · have hj := join_any a3 n3 c3 u.b _ r3' (by have : pieceL u = catL u.b := by unfold pieceL; rw [if_pos h3]
                                                   rw [← this]; omega)
        have hp : catL u.b = pieceL u := by unfold pieceL; rw [if_pos h3]
        have h3b : (u.k == 3) = true := by simpa using h3
        have HP := Lib.hid hp
        clear hu hs1 hle hle2 eA zA hadd r2 r3 r2' r3' HT hown hp h3
        go_wp2_with fail
        refine hj.mono ?_
        rintro e w1 ⟨rfl, hE1⟩
        obtain ⟨a', c', w', hrun, HT', hown', hE'⟩ := HADD.out w1 _ hE1 HP.out
        have Hrun := Lib.hid hrun
        clear hrun HADD hj hE1 e0 e2 e3 d0 d1 d2 d3
        go_wp2_with (at_builtin; go_must (refine wpList_append_run Hrun.out rfl rfl rfl rfl ?_))
        go_roundw
        case rel => exact ⟨k + 1, _, a', c', by omega, by go_num, rfl, HT', hown', hE'⟩
        case measure => simp [intOf]; omega
      · have hj := join_any a2 n2 c2 u.a _ r2' (by have : pieceL u = catL u.a := by unfold pieceL; rw [if_neg h3]
                                                   rw [← this]; omega)
        have hp : catL u.a = pieceL u := by unfold pieceL; rw [if_neg h3]
        have h3b : (u.k == 3) = false := by simpa using h3
        have HP := Lib.hid hp
        clear hu hs1 hle hle2 eA zA hadd r2 r3 r2' r3' HT hown hp h3
        go_wp2_with fail
        refine hj.mono ?_
        rintro e w1 ⟨rfl, hE1⟩
        obtain ⟨a', c', w', hrun, HT', hown', hE'⟩ := HADD.out w1 _ hE1 HP.out
        have Hrun := Lib.hid hrun
        clear hrun HADD hj hE1 e0 e2 e3 d0 d1 d2 d3
        go_wp2_with (at_builtin; go_must (refine wpList_append_run Hrun.out rfl rfl rfl rfl ?_))
        go_roundw
        case rel => exact ⟨k + 1, _, a', c', by omega, by go_num, rfl, HT', hown', hE'⟩
        case measure => simp [intOf]; omega
    · obtain rfl : k = n := by omega
      rw [List.take_of_length_le (by have := HL.out; omega)] at hown
      obtain ⟨_, _, q, hrow⟩ := owns_row hown
      cases q
      have hE' := hE.drew
      have HROW := Lib.hid hrow
      clear hown hrow
      go_wp2_with fail
      refine wp_flow (fun n => if n = 1 then .grows (IsV (.string ⟨(textL hs).toArray⟩)) (IsVS (.string ⟨(textL hs).toArray⟩)) else if n = 3 then .grows (IsV (.bool true)) (IsVS (.bool true)) else .reads) (by kernel_rfl) (by kernel_rfl) ?_
      refine flow_r rfl rfl ?_; go_big_quiet_step (fail); refine wpQuiet_nil ?_
      refine flow_g rfl rfl (by simp) ⟨_, rfl⟩ (fun _ _ _ h hE => h) (fun _ _ h => h) (fun w2 hE2 hf => ?_) (fun v hv => ?_)
      · have s1 := run_string_row (P := Try.prog) w2 61 9 5 Try.underlying61 Try.underlying5 Try.underlying9 (HROW.out.ext (((Keep.refl _ wr).drew).trans hE2))
        go_wp2
        exact ⟨Keep.refl _ _, rfl⟩
      cases hv
      simp only [Act.put, List.setIfInBounds_toArray, List.set_cons_succ, List.set_cons_zero]
      refine flow_r rfl rfl ?_; go_big_quiet_step (fail); refine wpQuiet_nil ?_
      refine flow_g rfl rfl (by simp) ⟨_, rfl⟩ (fun _ _ _ h hE => h) (fun _ _ h => h) (fun w2 hE2 hf => ?_) (fun v hv => ?_)
      · have hD : Ext w w2 := hE.trans (((Keep.refl _ wr).drew).trans hE2)
        have hcl := clean_any a k c hv hs w2 (HH.out.ext hD) HL.out HK.out
        go_wp2_with fail
        refine hcl.mono ?_
        rintro e w3 ⟨rfl, hE3⟩
        go_wp2
        first | exact ⟨hE3, rfl⟩ | exact rfl
      cases hv
      simp only [Act.put, List.setIfInBounds_toArray, List.set_cons_succ, List.set_cons_zero]
      repeat (refine flow_r rfl rfl ?_; go_big_quiet_step (fail); refine wpQuiet_nil ?_)
      refine flow_end (fun w1 hE1 _ => ?_)
      have hEn := hE'.trans hE1
      clear hE' hE1 hE
      go_wp2
      exact ⟨rfl, hEn⟩
end Go.Proofs.Ythedpnnfkmbdpaa
