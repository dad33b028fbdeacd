/-
  pad.Of: what filled up bytes are.
-/
import Derived.Test.YtafeecdpkceigaaPadC
import Derived.Test.YtafeecdpkceigaaVecL
namespace Go.Proofs.Ytafeecdpkceigaa
open Go.RowKit Go.Shelf

/-- How long the text is, that the bytes tell of. -/
def tellN (l : List UInt8) : Nat := numL (l.take 4)
def Unp (l : List UInt8) : Prop := 4 ≤ l.length ∧ 4 + tellN l ≤ l.length ∧ bucket (tellN l) = l.length ∧ l.drop (4 + tellN l) = List.replicate (l.length - (4 + tellN l)) 0
/-- What is answered. -/
def OfPost (l : List UInt8) (w : World) (e : Ending) (w' : World) : Prop :=
  Ext w w' ∧ ((Unp l ∧ ∃ a c, e = .returned (.tuple #[.slice a (tellN l) c, .int .i64 0]) ∧ Row 1 w' a (tellN l) c (((l.drop 4).take (tellN l)).map u8v)) ∨ (¬ Unp l ∧ e = .returned (.tuple #[.slice none 0 0, .int .i64 50])))

def padOfTab (n : Nat) (Z : List UInt8) (q : Bool) : Kind :=
  if n = 7 then .grows (Bs Z) (SliceN Z.length) else if n = 8 then .grows (Is (.bool q)) (IsSh (.bool q)) else .reads

theorem word0 {l : List UInt8} (h : 4 ≤ l.length) : (wordsOf l)[0]? = some (wordAt l 0) ∧ (wordAt l 0).toNat = tellN l ∧ 0 < (wordsOf l).length := by
  have hc : chunkAt 4 l 0 = l.take 4 := by simp [chunkAt]
  refine ⟨by simp only [wordsOf, List.getElem?_map]; rw [List.getElem?_range (by omega)]; rfl, ?_, by simp [wordsOf]; omega⟩
  rw [wordAt_num (by rw [hc]; simp; omega), hc]; rfl

set_option maxHeartbeats 4000000 in
theorem padOf_any (a : Option Addr) (n c : Nat) (l : List UInt8) (w : World) (hr : Row 1 w a n c (l.map u8v)) (hn : n ≤ 4294967296) :
    Calls Try.prog 30 #[.slice a n c] w (OfPost l w) := by
  have hll : l.length = n := by have := hr.2.2.1; simpa using this
  have hmx := hr.2.1
  have hnc := hr.1
  unfold maxLen at hmx
  obtain ⟨i0, hi, hz0, hz1, hz2⟩ := info_parts info_u8
  refine calls_cps fun R hR => ?_
  by_cases h4 : n < 4
  · have hq : (wordsOf l).length = 0 := by simp [wordsOf]; omega
    have hU : ¬ Unp l := fun h => by have := h.1; omega
    have hw := words_any _ _ _ l w hr (by omega)
    rw [hq] at hw
    clear hll hq
    go_enter Try.func30, Try.ntmps30
    go_wp2_with fail
    refine hw.mono ?_; rintro e w1 ⟨a1, c1, rfl, o1, e1⟩
    clear o1
    go_wp2
    exact ⟨e1, .inr ⟨hU, rfl⟩⟩
  · obtain ⟨g1, g2, g3⟩ := word0 (l := l) (by omega)
    have hw := words_any _ _ _ l w hr (by omega)
    obtain ⟨q, hq⟩ : ∃ q, (wordsOf l).length = q := ⟨_, rfl⟩
    rw [hq] at hw g3
    obtain ⟨X, hX⟩ : ∃ X, tellN l = X := ⟨_, rfl⟩
    rw [hX] at g2
    have hX32 : X < 4294967296 := by rw [← g2]; exact (wordAt l 0).toNat_lt
    have hUd : Unp l ↔ (4 + X ≤ n ∧ bucket X = n ∧ l.drop (4 + X) = List.replicate (n - (4 + X)) 0) := by
      unfold Unp; rw [hX, hll]
      exact ⟨fun h => h.2, fun h => ⟨by omega, h⟩⟩
    have hq0 : ¬ (q : Int) = 0 := by omega
    have hqb : ((q : Int) == 0) = false := by simp; omega
    have hbk := fun w => bucket_any X w
    have HL := Lib.hid hll
    have HU := Lib.hid hUd
    have HX := Lib.hid hX
    clear hll hq hUd hX
    go_enter Try.func30, Try.ntmps30
    go_wp2_with fail
    refine hw.mono ?_; rintro e w1 ⟨a1, c1, rfl, o1, e1⟩
    obtain ⟨_, _, q1, r1⟩ := owns_row o1
    cases q1
    have hqc := r1.1
    have hqm := r1.2.1
    unfold maxLen at hqm
    obtain ⟨b1, off1, rfl, hc1⟩ := r1.2.2.2.2 g3
    have cw := hc1 0 (.int .u32 (X : Int)) (by rw [List.getElem?_map, g1]; simp [u32v, g2])
    rw [Nat.add_zero] at cw
    clear o1 hw g1 g2 hc1 r1
    by_cases hx1 : n < 4 + X
    · have hgt : ((X : Int) > (n : Int) - 4) := by omega
      go_wp2
      exact ⟨e1, .inr ⟨fun h => by have := (HU.out.1 h).1; omega, rfl⟩⟩
    · have hgt : ¬ ((n : Int) - 4 < (X : Int)) := by omega
      go_wp2_with fail
      refine (hbk _).mono ?_; rintro e w2 ⟨rfl, e2⟩
      have f2 := e1.trans e2
      replace cw := e2.cell cw
      by_cases hbn : bucket X = n
      · have hbb : ((n : Int) != (n : Int)) = false := by simp
        rw [hbn]
        have hX6 : X ≤ 65532 := by
          rcases Nat.lt_or_ge 65532 X with h | h
          · rw [bucket_out (.inr (by omega))] at hbn; omega
          · exact h
        have hn32 : 32 ≤ n := by have := (bucket_in (n := X) (by omega) (by omega)).2.2; omega
        have hc4 : ¬ c = 4 := by omega
        obtain ⟨E, hE⟩ : ∃ E : Nat, 4 + X = E := ⟨_, rfl⟩
        have hE' : (4 + (X : Int)) = (E : Int) := by omega
        obtain ⟨D, hD⟩ : ∃ D : Nat, n - E = D := ⟨_, rfl⟩
        have hcut := (hr.ext f2).cut (lo := E) (hi := n) (by omega) (Nat.le_refl _)
        rw [Nat.mul_one, show ((List.map u8v l).drop E).take ((n - E) * 1) = (l.drop E).map u8v from by rw [← List.map_drop, Nat.mul_one, List.take_of_length_le (by simp [HL.out])]] at hcut
        have hmid := (hr.ext f2).cut (lo := 4) (hi := E) (by omega) (by omega)
        rw [if_neg hc4, Nat.mul_one, show ((List.map u8v l).drop 4).take ((E - 4) * 1) = ((l.drop 4).take X).map u8v from by rw [← List.map_drop, ← List.map_take]; congr 2; omega, show E - 4 = X by omega] at hmid
        obtain ⟨q', hq'⟩ : ∃ q', decide (l.drop E = List.replicate D 0) = q' := ⟨_, rfl⟩
        have HUq : Hid (Unp l ↔ q' = true) := by
          show _ ↔ _
          rw [HU.out, hE, hD, ← hq', decide_eq_true_eq]
          exact ⟨fun h => h.2.2, fun h => ⟨by omega, hbn, h⟩⟩
        obtain ⟨A, hA⟩ : ∃ A, (if c = E then a else Option.map (fun x => x.add E) a) = A := ⟨_, rfl⟩
        rw [hA, hD] at hcut
        clear HU hbn
        go_wp2
        have hD' : ((n : Int) - (E : Int)) = (D : Int) := by omega
        have hEn : E ≤ n := by omega
        have hE4 : 4 ≤ E := by omega
        have hEX : E - 4 = X := by omega
        have HZ : Hid ((List.replicate D (0 : UInt8)).length = D) := by show _ = _; simp
        obtain ⟨Z, hZ⟩ : ∃ Z, List.replicate D (0 : UInt8) = Z := ⟨_, rfl⟩
        have hZ2 : (madeCells (Value.int .u8 0).cells (D * 1)).toList = Z.map u8v := by
          rw [show (Value.int .u8 0).cells = #[.int .u8 0] from rfl, Nat.mul_one, toList_madeCells_one, ← hZ, List.map_replicate]; rfl
        rw [hZ] at HZ hq'
        have HE := Lib.hid hE'
        clear hE'
        by_cases hce : c = E
        · rw [if_pos hce] at hA
          subst hA
          subst hce
          rw [Nat.sub_self] at hcut
          rw [hEX] at hmid
          refine wp_flow (fun n => padOfTab n Z q') (by kernel_rfl) (by kernel_rfl) ?_
          repeat (refine flow_r rfl rfl ?_; go_big_quiet_step (fail); refine wpQuiet_nil ?_)
          refine flow_g rfl rfl (by simp) ⟨_, none, 0, rfl⟩ (fun _ _ _ h hE => h.mono hE) (fun _ _ h => h.sh) (fun w3 hE3 _ => ?_) (fun v hv => ?_)
          · go_wp2_with (at_make; go_must (refine wpList_make_full _ rfl _ _ 31 rfl w3.heap.size 5 i0 _ 1 Try.underlying31 hi hz0 hz1 .i64 .i64 _ _ D rfl rfl (by omega) (by omega) (by rw [hz2]; omega) (by unfold maxLen; omega) (Nat.le_refl _) ?_); intro w4 hown4 hgrow4)
            rw [hZ2] at hown4
            have hB := Bs.of_own hown4 HZ.out
            have e4 : Ext w3 w4 := Keep.of_grownBy hgrow4 (fun k o h _ => by cases h)
            exact ⟨e4, hB⟩
          obtain ⟨az, cz, rfl⟩ := hv
          simp only [Act.put, List.setIfInBounds_toArray, List.set_cons_succ, List.set_cons_zero]
          refine flow_g rfl rfl (by simp) ⟨_, rfl⟩ (fun _ _ _ h hE => h) (fun _ _ h => h) (fun w3 hE3 hf => ?_) (fun v hv => ?_)
          · have hB2 : Bs Z (.slice az Z.length cz) w3 := hf 7 (by kernel_rfl)
            obtain ⟨_, _, e2, hrow⟩ := hB2
            cases e2
            have hc := equal_any _ _ _ _ _ _ (l.drop c) Z _ (hcut.ext ((Keep.refl _ w2).drew.trans hE3)) hrow
            rw [hq'] at hc
            clear hf hrow
            go_wp2_with fail
            refine hc.mono ?_
            rintro e w4 ⟨rfl, rfl⟩
            go_wp2
            exact ⟨Keep.refl _ _, rfl⟩
          cases hv
          simp only [Act.put, List.setIfInBounds_toArray, List.set_cons_succ, List.set_cons_zero]
          repeat (refine flow_r rfl rfl ?_; go_big_quiet_step (fail); refine wpQuiet_nil ?_)
          refine flow_end (fun w3 hE3 _ => ?_)
          have f3 : Ext w w3 := f2.trans ((Keep.refl _ w2).drew.trans hE3)
          have hmid3 := hmid.ext ((Keep.refl _ w2).drew.trans hE3)
          clear hq'
          cases q' with
          | false =>
            go_wp2
            exact ⟨f3, .inr ⟨fun h => (by have := HUq.out.1 h; cases this), rfl⟩⟩
          | true =>
            obtain ⟨v', w4, hrun, o4, g4, _⟩ := run_append_row (P := Try.prog) w3 0 31 31 5 _ 1 1 Try.underlying31 info_u8 rfl (by decide) (World.ownsRow_nil w3 0 5 1) hmid3 (u8v_one _) (by unfold maxLen; omega) (by omega) (Nat.zero_le _)
            simp only [Nat.zero_add, List.nil_append] at o4
            obtain ⟨a5, c5, rfl, r5⟩ := owns_row o4
            have e4 : Ext w3 w4 := Keep.of_grownBy g4 (fun k o h _ => by cases h)
            have Hrun := Lib.hid hrun
            clear hrun o4 g4
            go_wp2_with (at_builtin; go_must (refine wpList_append_run Hrun.out rfl rfl rfl rfl ?_))
            have hX := HX.out
            exact ⟨f3.trans e4, .inl ⟨HUq.out.2 (by trivial), a5, c5, by rw [hX], by rw [hX]; exact r5⟩⟩
        · rw [if_neg hce] at hA
          subst hA
          refine wp_flow (fun n => padOfTab n Z q') (by kernel_rfl) (by kernel_rfl) ?_
          repeat (refine flow_r rfl rfl ?_; go_big_quiet_step (fail); refine wpQuiet_nil ?_)
          refine flow_g rfl rfl (by simp) ⟨_, none, 0, rfl⟩ (fun _ _ _ h hE => h.mono hE) (fun _ _ h => h.sh) (fun w3 hE3 _ => ?_) (fun v hv => ?_)
          · go_wp2_with (at_make; go_must (refine wpList_make_full _ rfl _ _ 31 rfl w3.heap.size 5 i0 _ 1 Try.underlying31 hi hz0 hz1 .i64 .i64 _ _ D rfl rfl (by omega) (by omega) (by rw [hz2]; omega) (by unfold maxLen; omega) (Nat.le_refl _) ?_); intro w4 hown4 hgrow4)
            rw [hZ2] at hown4
            have hB := Bs.of_own hown4 HZ.out
            have e4 : Ext w3 w4 := Keep.of_grownBy hgrow4 (fun k o h _ => by cases h)
            exact ⟨e4, hB⟩
          obtain ⟨az, cz, rfl⟩ := hv
          simp only [Act.put, List.setIfInBounds_toArray, List.set_cons_succ, List.set_cons_zero]
          refine flow_g rfl rfl (by simp) ⟨_, rfl⟩ (fun _ _ _ h hE => h) (fun _ _ h => h) (fun w3 hE3 hf => ?_) (fun v hv => ?_)
          · have hB2 : Bs Z (.slice az Z.length cz) w3 := hf 7 (by kernel_rfl)
            obtain ⟨_, _, e2, hrow⟩ := hB2
            cases e2
            have hc := equal_any _ _ _ _ _ _ (l.drop E) Z _ (hcut.ext ((Keep.refl _ w2).drew.trans hE3)) hrow
            rw [hq'] at hc
            clear hf hrow
            go_wp2_with fail
            refine hc.mono ?_
            rintro e w4 ⟨rfl, rfl⟩
            go_wp2
            exact ⟨Keep.refl _ _, rfl⟩
          cases hv
          simp only [Act.put, List.setIfInBounds_toArray, List.set_cons_succ, List.set_cons_zero]
          repeat (refine flow_r rfl rfl ?_; go_big_quiet_step (fail); refine wpQuiet_nil ?_)
          refine flow_end (fun w3 hE3 _ => ?_)
          have f3 : Ext w w3 := f2.trans ((Keep.refl _ w2).drew.trans hE3)
          have hmid3 := hmid.ext ((Keep.refl _ w2).drew.trans hE3)
          clear hq'
          cases q' with
          | false =>
            go_wp2
            exact ⟨f3, .inr ⟨fun h => (by have := HUq.out.1 h; cases this), rfl⟩⟩
          | true =>
            obtain ⟨v', w4, hrun, o4, g4, _⟩ := run_append_row (P := Try.prog) w3 0 31 31 5 _ 1 1 Try.underlying31 info_u8 rfl (by decide) (World.ownsRow_nil w3 0 5 1) hmid3 (u8v_one _) (by unfold maxLen; omega) (by omega) (Nat.zero_le _)
            simp only [Nat.zero_add, List.nil_append] at o4
            obtain ⟨a5, c5, rfl, r5⟩ := owns_row o4
            have e4 : Ext w3 w4 := Keep.of_grownBy g4 (fun k o h _ => by cases h)
            have Hrun := Lib.hid hrun
            clear hrun o4 g4
            go_wp2_with (at_builtin; go_must (refine wpList_append_run Hrun.out rfl rfl rfl rfl ?_))
            have hX := HX.out
            exact ⟨f3.trans e4, .inl ⟨HUq.out.2 (by trivial), a5, c5, by rw [hX], by rw [hX]; exact r5⟩⟩
      · have hbb : (bucket X != (n : Int)) = true := by simpa using hbn
        go_wp2
        exact ⟨f2, .inr ⟨fun h => hbn (HU.out.1 h).2.1, rfl⟩⟩
end Go.Proofs.Ytafeecdpkceigaa
