/-
  slog.due: whether a record stands next.
-/
import Derived.Test.YtdopaoajbjodeaaSlC
import Derived.Test.YtdopaoajbjodeaaSlD
import Derived.Test.YtdopaoajbjodeaaVecKb
namespace Go.Proofs.Ytdopaoajbjodeaa
open Go.RowKit Go.Shelf

attribute [local go_sem] Oper.semAt_some

theorem wordAt_num {l : List UInt8} {k : Nat} (h : (chunkAt 4 l k).length = 4) : (wordAt l k).toNat = numL (chunkAt 4 l k) := by
  unfold wordAt
  have h1 := leN_num (chunkAt 4 l k) 4 (by omega)
  rw [List.take_of_length_le (by omega)] at h1
  have h2 := numL_lt (chunkAt 4 l k)
  rw [h] at h2
  have p4 : (256 : Nat) ^ 4 = 4294967296 := by decide
  rw [p4] at h2
  rw [UInt32.toNat_ofNat', h1, Nat.mod_eq_of_lt (by simpa using h2)]
theorem word0 {l : List UInt8} (h : 4 ≤ l.length) : (wordsOf l)[0]? = some (wordAt l 0) ∧ (wordAt l 0).toNat = numL (l.take 4) ∧ 0 < (wordsOf l).length := by
  have hc : chunkAt 4 l 0 = l.take 4 := by simp [chunkAt]
  refine ⟨by simp only [wordsOf, List.getElem?_map]; rw [List.getElem?_range (by omega)]; rfl, ?_, by simp [wordsOf]; omega⟩
  rw [wordAt_num (by rw [hc]; simp; omega), hc]

/-- The mark at the end of a record's first sector. -/
def markL (gen num : Nat) : List UInt8 := putL gen 4 ++ putL num 4 ++ [165]
theorem firstL_drop (b : List UInt8) (gen num : Nat) : (firstL b gen num).drop 55 = markL gen num := by
  unfold firstL markL
  rw [List.append_assoc, List.drop_append, show (putL b.length 4 ++ padTo 51 b).length = 55 by rw [List.length_append, putL_length, padTo_length], List.drop_of_length_le (by rw [List.length_append, putL_length, padTo_length]; decide)]
  rfl
/-- How long the record is of which this is the first sector, if there is one, and if it fits. -/
def dueL (gen num : Nat) (sec : List UInt8) (room : Nat) : Option Nat :=
  if sec.drop 55 = markL gen num ∧ numL (sec.take 4) ≤ 262144 ∧ spanN (numL (sec.take 4)) ≤ room then some (numL (sec.take 4)) else none
def DueQ (r : Option Nat) (e : Ending) : Prop := match r with
  | some m => e = .returned (.tuple #[.int .i64 (m : Int), .bool true])
  | none => ∃ v, e = .returned (.tuple #[v, .bool false])

set_option maxRecDepth 20000 in
set_option maxHeartbeats 2000000 in
theorem due_any {w : World} {LB B : Nat} {v : Value} {s : LSt} (h : PL w LB B v s) (sec : List UInt8) (hs : sec.length = 64) :
    Calls Try.prog 30 #[.pointer (some ⟨LB, 0, none⟩), aggB sec] w fun e w' => DueQ (dueL s.gen.toNat s.recs.length sec (s.n - s.at')) e ∧ Ext w w' := by
  obtain ⟨vs, o1, _⟩ := h.own
  obtain ⟨av, cv, rfl, _⟩ := owns_row o1
  obtain ⟨num, hnum⟩ : ∃ x, s.recs.length = x := ⟨_, rfl⟩
  obtain ⟨at0, hat⟩ : ∃ x, s.at' = x := ⟨_, rfl⟩
  obtain ⟨nn, hnn⟩ : ∃ x, s.n = x := ⟨_, rfl⟩
  have hC := h.cells
  have hle := h.le
  have hreg := h.reg
  have hfew := h.few
  rw [hnum, hat, hnn] at hC
  rw [hnum, hat] at hfew
  rw [hat, hnn] at hle
  rw [hnn] at hreg
  rw [hnum, hat, hnn]
  clear o1 h hnum hat hnn
  simp only [List.cons_append, List.nil_append] at hC
  refine calls_cps fun R hR => ?_
  unfold aggB
  obtain ⟨O, hO⟩ : ∃ O, sec.map u8v = O := ⟨_, rfl⟩
  rw [hO]
  go_enter Try.func30, Try.ntmps30
  go_wp2
  refine wp_laid1 fun W hE b3 => ?_
  have B3 : Arr W w.heap.size 60 O := b3
  have C0 := hC.ext hE
  have hOl : O.length = 64 := by rw [← hO, List.length_map, hs]
  have hfin : ∀ e w', DueQ (dueL s.gen.toNat num sec (nn - at0)) e → Ext W w' → R e w' := fun e w' h1 h2 => hR _ _ ⟨h1, hE.trans h2⟩
  have hsz := hE.size
  clear hR hE hC b3
  have hw1 : w.heap.size + 1 ≤ W.heap.size := B3.lt
  obtain ⟨p3, hp3⟩ : ∃ p, w.heap.size = p := ⟨_, rfl⟩
  rw [hp3] at B3 hw1 ⊢
  clear hsz hp3
  have k3 := C0.cell (i := 3) rfl
  have k5 := C0.cell (i := 5) rfl
  have hD : ∀ g : FY.At (fun _ _ => False) W.drew, Ext W g.w := fun g => ((Keep.refl _ W).drew).trans g.ext
  have d3 := fun g => Ext.cell (hD g) k3
  have d5 := fun g => Ext.cell (hD g) k5
  obtain ⟨M, hM⟩ : ∃ M, firstL [] s.gen.toNat num = M := ⟨_, rfl⟩
  have hMl : M.length = 64 := by rw [← hM, firstL_length]
  refine FY.wp_flow (X := fun _ _ => False) (0 :: 1 :: 2 :: 3 :: 4 :: 5 :: 6 :: 7 :: 8 :: 9 :: 10 :: 11 :: 12 :: [])
    (fun n => if n = 10 then .grows (Is (aggB M)) (IsSh (aggB M)) else if n = 11 then .grows (fun v w' => ∃ g, v = .pointer (some ⟨g, 0, none⟩) ∧ W.heap.size ≤ g ∧ Arr w' g 60 F64) (fun v => ∃ g, v = .pointer (some ⟨g, 0, none⟩)) else if n = 12 then .last else .reads) (by kernel_rfl) (by kernel_rfl) ?_
  iterate 10 (refine FY.flow_r rfl rfl rfl ?_; go_big_quiet_step (fail); refine wpQuiet_nil ?_)
  refine FY.flow_g rfl rfl rfl (by simp) ⟨_, rfl⟩ (fun _ _ _ h hE => h) (fun _ _ h => h) (fun w5 hE5 _ => ?_) (fun v hv => ?_)
  · have hc := first_any [] s.gen num none 0 0 w5 (Row.nil 1 w5) (by omega) (by omega)
    rw [hM] at hc
    go_wp2_with fail
    refine hc.mono ?_
    rintro e w6 ⟨rfl, hE6⟩
    go_wp2
    first | exact ⟨hE6, rfl⟩ | exact rfl
  cases hv
  simp only [Act.put, List.setIfInBounds_toArray, List.set_cons_succ, List.set_cons_zero]
  refine FY.flow_g rfl rfl rfl (by simp) ⟨_, 0, rfl⟩ (fun v A B ⟨g, h1, h2, h3⟩ hE => ⟨g, h1, h2, h3.ext hE⟩) (fun v A ⟨g, h1, _⟩ => ⟨g, h1⟩) (fun w5 hE5 hf => ?_) (fun v hv => ?_)
  · have HE := Lib.hid (show W.heap.size ≤ w5.heap.size from hE5.size)
    have HA := Lib.hid (Arr.new w5 60 F64)
    go_wp2
    first | exact ⟨(Keep.refl _ w5).alloc _, _, rfl, HE.out, HA.out⟩ | exact ⟨_, rfl, HE.out, HA.out⟩ | exact ⟨HE.out, HA.out⟩ | exact ⟨(Keep.refl _ w5).alloc _, HE.out, HA.out⟩
  obtain ⟨g, rfl⟩ := hv
  simp only [Act.put, List.setIfInBounds_toArray, List.set_cons_succ, List.set_cons_zero]
  refine FY.flow_l rfl rfl (by kernel_rfl) (fun w6 hE6 hf => ?_)
  obtain ⟨_, q, hge, B6⟩ := hf 11
  cases q
  have hE6 : Ext W w6 := ((Keep.refl _ W).drew).trans hE6
  clear hf hD d3 d5 k3 k5
  unfold aggB
  have hone := all_one M
  have hi1 := Lib.hid (show (Try.prog.info? 60).map (·.size) = some (M.map u8v).toArray.size by rw [info_sec]; simp [hMl])
  have hz1 := Lib.hid (show F64.toArray.size = (M.map u8v).toArray.size by simp [hMl, F64])
  obtain ⟨fin, hfn⟩ : ∃ f, (M.map u8v).toArray = f := ⟨_, rfl⟩
  rw [hfn] at hone hi1 hz1 ⊢
  have HON := Lib.hid hone
  have HB6 := Lib.hid B6
  have B6' : Arr (w6.setRow g fin) g 60 (M.map u8v) := by rw [← hfn]; exact B6.setRow _
  have hE7 : Ext W (w6.setRow g fin) := hE6.setRow_new g fin hge
  have B3' := B3.ext hE7
  have C0' := C0.ext hE7
  have HFN := Lib.hid hfn
  have hrow4 := (B3'.row (off := 0) (n := 4) (c := 64) (by omega) (by decide) (by simp [maxLen]))
  rw [List.drop_zero, ← hO, ← List.map_take] at hrow4
  have HO := Lib.hid hO
  have hw := words_any _ _ _ (sec.take 4) (w6.setRow g fin) hrow4 (by omega)
  obtain ⟨g1, g2, g3⟩ := word0 (l := sec.take 4) (by rw [List.length_take]; omega)
  rw [List.take_take, Nat.min_self] at g2
  have hsl := slice_4 p3
  clear hone B6 hE6 hfn hrow4 hO B3 C0
  go_wp2_with (first | fail | (refine wpList_store_row ?_ 60 (.tmp 6) (.tmp 18) ?_ g fin ?_ ?_ 60 F64.toArray ?_ hi1.out hz1.out HON.out ?_; rfl; rfl; rfl; rfl; exact HB6.out))
  refine hw.mono ?_
  rintro e w8 ⟨a1, c1, rfl, hown8, hE8⟩
  obtain ⟨_, _, q, hr8⟩ := owns_row hown8
  cases q
  obtain ⟨b1, o1, rfl, hc1⟩ := hr8.2.2.2.2 g3
  have hq1 := hr8.1
  have hq2 := hr8.2.1
  unfold maxLen at hq2
  obtain ⟨X, hX⟩ : ∃ X, numL (sec.take 4) = X := ⟨_, rfl⟩
  rw [hX] at g2
  have hX32 : X < 4294967296 := by rw [← g2]; exact (wordAt (sec.take 4) 0).toNat_lt
  have cw := hc1 0 (.int .u32 (X : Int)) (by rw [List.getElem?_map, g1]; simp [u32v, g2])
  rw [Nat.add_zero] at cw
  have B3'' := B3'.ext hE8
  have B6'' := B6'.ext hE8
  have C0'' := C0'.ext hE8
  have hE9 := hE7.trans hE8
  have hrA := B3''.row (off := 55) (n := 9) (c := 9) (by omega) (by decide) (by simp [maxLen])
  have hrB := B6''.row (off := 55) (n := 9) (c := 9) (by rw [List.length_map, hMl]; decide) (by decide) (by simp [maxLen])
  rw [List.take_of_length_le (by rw [List.length_drop]; omega), ← HO.out, ← List.map_drop] at hrA
  rw [List.take_of_length_le (by rw [List.length_drop, List.length_map]; omega), ← List.map_drop, ← hM, firstL_drop] at hrB
  have heq := fun A (hA : Ext w8 A) => equal_any _ _ _ _ _ _ _ _ A (hrA.ext hA) (hrB.ext hA)
  clear hw hown8 hr8 hc1 g1 g2 hE7 hE8 B3' B6' C0' hrA hrB HFN HON HB6 hi1 hz1
  have hdue : ∀ u : Bool, decide (sec.drop 55 = markL s.gen.toNat num) = u → dueL s.gen.toNat num sec (nn - at0) = if u = true ∧ X ≤ 262144 ∧ spanN X ≤ nn - at0 then some X else none := fun u hu => by
    unfold dueL
    rw [hX, ← hu]
    simp only [decide_eq_true_eq]
  have HDU := Lib.hid hdue
  have HE9 := Lib.hid hE9
  have HEQ := Lib.hid heq
  clear hdue hE9 heq B3'' B6''
  obtain ⟨K, hK⟩ : ∃ K, (wordsOf (sec.take 4)).length = K := ⟨_, rfl⟩
  rw [hK] at g3 hq1 ⊢
  clear hK hX HO hM
  go_wp2
  cases hu : decide (sec.drop 55 = markL s.gen.toNat num) with
  | false =>
    have hdu := HDU.out _ hu
    rw [if_neg (by simp)] at hdu
    refine FY.wp_flow (X := fun _ _ => False) (0 :: 1 :: 2 :: 3 :: 4 :: 5 :: 6 :: 7 :: []) (fun n => if n = 2 then .grows (Is (.bool false)) (IsSh (.bool false)) else .reads) (by kernel_rfl) (by kernel_rfl) ?_
    refine FY.flow_v rfl rfl rfl (fun w' _ => exec_slice rfl (slice_55 p3 w')) ?_
    simp only [Act.put, List.setIfInBounds_toArray, List.set_cons_succ, List.set_cons_zero]
    refine FY.flow_v rfl rfl rfl (fun w' _ => exec_slice rfl (slice_55 g w')) ?_
    simp only [Act.put, List.setIfInBounds_toArray, List.set_cons_succ, List.set_cons_zero]
    refine FY.flow_g rfl rfl rfl (by simp) ⟨_, rfl⟩ (fun _ _ _ h hE => h) (fun _ _ h => h) (fun w5 hE5 _ => ?_) (fun v hv => ?_)
    · have hc := HEQ.out w5 (((Keep.refl _ w8).drew).trans hE5)
      rw [hu] at hc
      go_wp2_with fail
      refine hc.mono ?_
      rintro e w6 ⟨rfl, rfl⟩
      go_wp2
      first | exact ⟨Keep.refl _ _, rfl⟩ | exact rfl
    cases hv
    simp only [Act.put, List.setIfInBounds_toArray, List.set_cons_succ, List.set_cons_zero]
    iterate 2 (refine FY.flow_r rfl rfl rfl ?_; go_big_quiet_step (fail); refine wpQuiet_nil ?_)
    iterate 2 (refine FY.flow_s rfl rfl rfl ?_; simp only [Act.put, List.setIfInBounds_toArray, List.set_cons_succ, List.set_cons_zero])
    refine FY.flow_r rfl rfl rfl ?_; go_big_quiet_step (fail); refine wpQuiet_nil ?_
    refine FY.flow_end (fun w9 hE10 _ => ?_)
    replace hE10 : Ext w8 w9 := ((Keep.refl _ w8).drew).trans hE10
    have hf := hfin (.returned (.tuple #[.int .i64 0, .bool false])) w9 (by rw [hdu]; exact ⟨_, rfl⟩) ((HE9.out).trans hE10)
    clear hfin HEQ HDU hdu
    go_wp2
    exact hf
  | true =>
    have hdu := HDU.out _ hu
    refine FY.wp_flow (X := fun _ _ => False) (0 :: 1 :: 2 :: 3 :: 4 :: 5 :: 6 :: 7 :: []) (fun n => if n = 2 then .grows (Is (.bool true)) (IsSh (.bool true)) else .reads) (by kernel_rfl) (by kernel_rfl) ?_
    refine FY.flow_v rfl rfl rfl (fun w' _ => exec_slice rfl (slice_55 p3 w')) ?_
    simp only [Act.put, List.setIfInBounds_toArray, List.set_cons_succ, List.set_cons_zero]
    refine FY.flow_v rfl rfl rfl (fun w' _ => exec_slice rfl (slice_55 g w')) ?_
    simp only [Act.put, List.setIfInBounds_toArray, List.set_cons_succ, List.set_cons_zero]
    refine FY.flow_g rfl rfl rfl (by simp) ⟨_, rfl⟩ (fun _ _ _ h hE => h) (fun _ _ h => h) (fun w5 hE5 _ => ?_) (fun v hv => ?_)
    · have hc := HEQ.out w5 (((Keep.refl _ w8).drew).trans hE5)
      rw [hu] at hc
      go_wp2_with fail
      refine hc.mono ?_
      rintro e w6 ⟨rfl, rfl⟩
      go_wp2
      first | exact ⟨Keep.refl _ _, rfl⟩ | exact rfl
    cases hv
    simp only [Act.put, List.setIfInBounds_toArray, List.set_cons_succ, List.set_cons_zero]
    iterate 5 (refine FY.flow_r rfl rfl rfl ?_; go_big_quiet_step (fail); refine wpQuiet_nil ?_)
    refine FY.flow_end (fun w9 hE10 _ => ?_)
    replace hE10 : Ext w8 w9 := ((Keep.refl _ w8).drew).trans hE10
    have C9 := C0''.ext hE10
    have hE11 := Lib.hid ((HE9.out).trans hE10)
    clear HE9 HEQ HDU C0'' hE10
    by_cases hx : 262144 < X
    · have hgt : (262144 : Int) < (X : Int) := by omega
      rw [if_neg (by omega)] at hdu
      have hf := hfin (.returned (.tuple #[.int .i64 0, .bool false])) w9 (by rw [hdu]; exact ⟨_, rfl⟩) hE11.out
      clear hfin hdu C9
      go_wp2
      exact hf
    · have hgt : ¬ ((262144 : Int) < (X : Int)) := by omega
      have hsp := spanN_le X
      have k2 := C9.cell (i := 2) rfl
      have k4 := C9.cell (i := 4) rfl
      go_wp2
      have hD : ∀ g : FY.At (fun _ _ => False) w9.drew, Ext w9 g.w := fun g => ((Keep.refl _ w9).drew).trans g.ext
      have d2 := fun g => Ext.cell (hD g) k2
      have d4 := fun g => Ext.cell (hD g) k4
      have qX : (X : Int) % 18446744073709551616 = (X : Int) := by omega
      refine FY.wp_flow (X := fun _ _ => False) (0 :: 1 :: 2 :: 3 :: 4 :: 5 :: 6 :: 7 :: 8 :: 9 :: 10 :: 11 :: 12 :: 13 :: 14 :: 15 :: 16 :: 17 :: [])
        (fun n => if n = 4 then .grows (Is (.int .i64 (spanN X : Int))) (IsSh (.int .i64 (spanN X : Int))) else .reads) (by kernel_rfl) (by kernel_rfl) ?_
      iterate 4 (refine FY.flow_r rfl rfl rfl ?_; go_big_quiet_step (fail); refine wpQuiet_nil ?_)
      refine FY.flow_g rfl rfl rfl (by simp) ⟨_, rfl⟩ (fun _ _ _ h hE => h) (fun _ _ h => h) (fun w5 hE5 _ => ?_) (fun v hv => ?_)
      · have hc := span_any (X : Int) w5 (by omega)
        rw [spanZ_nat] at hc
        go_wp2_with fail
        refine hc.mono ?_
        rintro e w6 ⟨rfl, rfl⟩
        go_wp2
        first | exact ⟨Keep.refl _ _, rfl⟩ | exact rfl
      cases hv
      simp only [Act.put, List.setIfInBounds_toArray, List.set_cons_succ, List.set_cons_zero]
      iterate 13 (refine FY.flow_r rfl rfl rfl ?_; go_big_quiet_step (fail); refine wpQuiet_nil ?_)
      refine FY.flow_end (fun wa hEa _ => ?_)
      replace hEa : Ext w9 wa := ((Keep.refl _ w9).drew).trans hEa
      have hf := hfin (.returned (.tuple #[.int .i64 (X : Int), .bool (decide ((spanN X : Int) ≤ (nn : Int) - (at0 : Int)))])) wa (by
        rw [hdu]
        by_cases hle2 : spanN X ≤ nn - at0
        · rw [if_pos ⟨by trivial, by omega, hle2⟩, show decide ((spanN X : Int) ≤ (nn : Int) - (at0 : Int)) = true from decide_eq_true (by omega)]; exact rfl
        · rw [if_neg (by omega), show decide ((spanN X : Int) ≤ (nn : Int) - (at0 : Int)) = false from decide_eq_false (by omega)]; exact ⟨_, rfl⟩) ((hE11.out).trans hEa)
      clear hfin hdu d2 d4 hD k2 k4
      go_wp2
      exact hf
end Go.Proofs.Ytdopaoajbjodeaa
