/-
  tabulariumref25.Split.
-/
import Derived.Test.YthedpnnfkmbdpaaLinE
import Derived.Test.YthedpnnfkmbdpaaSpl
namespace Go.Proofs.Ythedpnnfkmbdpaa
open Go.RowKit Go.Shelf

theorem info_str : (Try.prog.info? 9).map (fun i => (i.zero, i.size, i.bytes)) = some (some (.string ⟨#[]⟩), 1, 16) := by kernel_rfl
theorem index_str (s : ByteArray) (i : Nat) (b : UInt8) (h : s[i]? = some b) (w : World) : (Instr.index 9 (.string s) (.int .i64 (i : Int))).run Try.prog w = .ok (.int .u8 (b.toNat : Int)) w := by
  simp [Instr.index, asIntOf, Result.andThen, h]
theorem slice_str (s : ByteArray) (a b : Nat) (h1 : a ≤ b) (h2 : b ≤ s.size) (w : World) : (Instr.sliceAt 9 (.string s) (some (.int .i64 (a : Int))) (some (.int .i64 (b : Int))) none).run Try.prog w = .ok (.string (s.extract a b)) w := by
  simp [Instr.sliceAt, Instr.slice, Instr.sliceBounds, Instr.sliceBound, Result.andThen, asIntOf, h1, h2]
theorem slice_str2 (s : ByteArray) (a : Nat) (h1 : a ≤ s.size) (w : World) : (Instr.sliceAt 9 (.string s) (some (.int .i64 (a : Int))) none none).run Try.prog w = .ok (.string (s.extract a s.size)) w := by
  simp [Instr.sliceAt, Instr.slice, Instr.sliceBounds, Instr.sliceBound, Result.andThen, asIntOf, h1]
theorem str_get {s : ByteArray} {i : Nat} (h : i < s.size) : ∃ b, s[i]? = some b := ⟨s[i], by simp [h]⟩

/-- A list of texts that is appended to. -/
theorem append_str (w : World) (base n : Nat) (v : Value) (l : List ByteArray) (x : ByteArray) (hown : w.ownsRow base 9 1 v n (l.map Value.string)) (hn : n + 1 ≤ 1000000) (hb : base ≤ w.heap.size) :
    ∃ (a : Option Addr) (c : Nat) (w' : World), (Builtin.append_ #[22, 22] 22 #[v, .slice (some ⟨w.heap.size, 0, none⟩) 1 1]).run Try.prog (w.alloc (.cells #[.string x] 9)) = .ok (.slice a (n + 1) c) w' ∧
      w'.ownsRow base 9 1 (.slice a (n + 1) c) (n + 1) ((l ++ [x]).map Value.string) ∧ (w.alloc (.cells #[.string x] 9)).grownBy w' v.ownBlock := by
  have hsrc := (lit_row (base := 0) w 9 #[.string x] 1 (by simp [maxLen]) rfl (Nat.zero_le _)).2
  obtain ⟨v', w', hrun, hown', hgrow, _⟩ := run_append_row (w.alloc (.cells #[.string x] 9)) base 22 22 9 _ 1 16 Try.underlying22 info_str rfl (by decide) (hown.alloc _) hsrc (by simp [Value.oneCell']) (by unfold maxLen; omega) (by omega) (by simp; omega)
  obtain ⟨a, c, rfl, _⟩ := owns_row hown'
  exact ⟨a, c, w', hrun, by rw [List.map_append]; exact hown', hgrow⟩

set_option maxHeartbeats 2000000 in
theorem refSplit_any (s : ByteArray) (w : World) (hs : s.size ≤ 100000) :
    Calls Try.prog 16 #[.string s] w fun e w' => ∃ a c, e = .returned (.slice a (refL s).length c) ∧ w'.ownsRow w.heap.size 9 1 (.slice a (refL s).length c) (refL s).length ((refL s).map Value.string) ∧ Ext w w' := by
  refine calls_cps fun R hR => ?_
  have hstep : ∀ i, refTo s (i + 1) = if s[i]? = some 10 then ((refTo s i).1 ++ [s.extract (refTo s i).2 (i + 1)], i + 1) else refTo s i := fun i => rfl
  have hle := refTo_le s
  have hfin : refL s = if (refTo s s.size).2 < s.size then (refTo s s.size).1 ++ [s.extract (refTo s s.size).2 s.size] else (refTo s s.size).1 := rfl
  have HST := Lib.hid hstep
  have HLE := Lib.hid hle
  have HFI := Lib.hid hfin
  clear hstep hle hfin
  obtain ⟨n, hn⟩ : ∃ n, s.size = n := ⟨_, rfl⟩
  rw [hn] at hs
  go_enter Try.func16, Try.ntmps16
  go_wp2
  go_loopw [3, 4, 5] (fun out fr ix wr => ∃ (i : Nat) (ao : Option Addr) (co : Nat) (l : List ByteArray) (f k : Nat), i ≤ n ∧ ix = .int .i64 i ∧ Hid (∀ _ : Unit, refTo s i = (l, f) ∧ l.length = k) ∧ f ≤ i ∧ k ≤ i ∧ fr = .int .i64 f ∧ out = .slice ao k co ∧ wr.ownsRow w.heap.size 9 1 (.slice ao k co) k (l.map Value.string) ∧ Ext w wr) (fun _ _ ix _ => n - (intOf ix).toNat)
  case atStart => exact ⟨0, none, 0, [], 0, 0, by omega, rfl, Lib.hid (fun _ => ⟨rfl, rfl⟩), by omega, by omega, rfl, rfl, World.ownsRow_nil _ _ _ _, Keep.refl _ _⟩
  case round =>
    obtain ⟨i, ao, co, l, f, k, hi, rfl, HP, hf, hkk, rfl, rfl, hown, hX⟩ := hrel
    by_cases hlt : i < n
    · obtain ⟨b, hb⟩ := str_get (s := s) (i := i) (by omega)
      have hix := index_str s i b hb
      have hst := HST.out i
      rw [(HP.out ()).1, hb] at hst
      by_cases hb10 : b = 10
      · subst hb10
        rw [if_pos rfl] at hst
        simp only at hst
        have hix' : ∀ w, (Instr.index 9 (.string s) (.int .i64 (i : Int))).run Try.prog w = .ok (.int .u8 10) w := hix
        have hsl := slice_str s f (i + 1) (by omega) (by omega)
        obtain ⟨x, hx⟩ : ∃ x, s.extract f (i + 1) = x := ⟨_, rfl⟩
        rw [hx] at hst hsl
        have hsl' : ∀ w, (Instr.sliceAt 9 (.string s) (some (.int .i64 (f : Int))) (some (.int .i64 ((i : Int) + 1))) none).run Try.prog w = .ok (.string x) w := hsl
        obtain ⟨a2, c2, w', hrun, hown', hgrow⟩ := append_str wr w.heap.size k _ l x hown (by omega) hX.size
        have hX' : Ext w w' := Ext.of_below (((Ext.below hX).alloc hX.size _).grown hgrow (by have := hX.size; simp; omega) (fun g hg => (hown.lt g hg).1))
        have Hrun := Lib.hid hrun
        have HP' := Lib.hid (fun _ : Unit => And.intro hst (show (l ++ [x]).length = k + 1 by simp [(HP.out ()).2]))
        clear hrun hgrow hix hsl hx hst hb HP hown
        go_wp2_with (at_builtin; go_must (refine wpList_append_run Hrun.out rfl rfl rfl rfl ?_))
        go_roundw
        case rel => exact ⟨i + 1, a2, c2, l ++ [x], i + 1, k + 1, by omega, by go_num, HP', by omega, by omega, by go_num, rfl, hown', hX'⟩
        case measure => simp [intOf]; omega
      · rw [if_neg (fun h => hb10 (by cases h; rfl))] at hst
        have hne : ((b.toNat : Int) == 10) = false := by
          simp only [beq_eq_false_iff_ne, ne_eq]
          intro h
          exact hb10 (UInt8.toNat.inj (by show b.toNat = 10; omega))
        have HP' := Lib.hid (fun _ : Unit => And.intro hst (HP.out ()).2)
        clear hst hb HP
        go_wp2
        go_roundw
        case rel => exact ⟨i + 1, ao, co, l, f, k, by omega, by go_num, HP', by omega, by omega, rfl, rfl, hown, hX⟩
        case measure => simp [intOf]; omega
    · obtain rfl : i = n := by omega
      have hfin := HFI.out
      rw [hn, (HP.out ()).1] at hfin
      simp only at hfin
      by_cases hfl : f < i
      · rw [if_pos hfl] at hfin
        have hsl := slice_str2 s f (by omega)
        rw [hn] at hsl
        obtain ⟨x, hx⟩ : ∃ x, s.extract f i = x := ⟨_, rfl⟩
        rw [hx] at hsl hfin
        obtain ⟨a2, c2, w', hrun, hown', hgrow⟩ := append_str wr w.heap.size k _ l x hown (by omega) hX.size
        have hX' : Ext w w' := Ext.of_below (((Ext.below hX).alloc hX.size _).grown hgrow (by have := hX.size; simp; omega) (fun g hg => (hown.lt g hg).1))
        have Hrun := Lib.hid hrun
        have hL : (refL s).length = k + 1 := by rw [hfin]; simp [(HP.out ()).2]
        rw [← hfin] at hown'
        have HL := Lib.hid hL
        clear hrun hgrow hx hfin hL HP hown
        go_wp2_with (at_builtin; go_must (refine wpList_append_run Hrun.out rfl rfl rfl rfl ?_))
        exact ⟨a2, c2, by rw [HL.out]; rfl, by rw [HL.out]; exact hown', hX'⟩
      · rw [if_neg hfl] at hfin
        have hL : (refL s).length = k := by rw [hfin]; exact (HP.out ()).2
        rw [← hfin] at hown
        have HL := Lib.hid hL
        clear hfin hL HP
        go_wp2
        exact ⟨ao, co, by rw [HL.out]; rfl, by rw [HL.out]; exact hown, hX⟩
end Go.Proofs.Ythedpnnfkmbdpaa
