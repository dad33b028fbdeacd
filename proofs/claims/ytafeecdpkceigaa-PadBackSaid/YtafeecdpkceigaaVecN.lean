/-
  The law VecWords.
-/
import Derived.Test.YtafeecdpkceigaaVecM
import Derived.Test.YtafeecdpkceigaaVecL
namespace Go.Proofs.Ytafeecdpkceigaa
open Go.RowKit Go.Shelf

theorem putL_cons (n k : Nat) : putL n (k + 1) = UInt8.ofNat n :: putL (n / 256) k := by
  unfold putL
  rw [List.range_succ_eq_map, List.map_cons, List.map_map]
  congr 1
  · simp
  · refine List.map_congr_left fun i _ => ?_
    simp only [Function.comp]
    congr 1
    rw [Nat.div_div_eq_div_mul, show 8 * (i + 1) = 8 + 8 * i by omega, Nat.pow_add]
theorem putL_num (l : List UInt8) : putL (numL l) l.length = l := by
  induction l with
  | nil => rfl
  | cons b t ih =>
    rw [List.length_cons, putL_cons]
    have hb := b.toNat_lt
    simp only [numL]
    rw [show (b.toNat + 256 * numL t) / 256 = numL t by omega, ih]
    congr 1
    rw [← UInt8.toNat_inj, UInt8.toNat_ofNat']
    omega
theorem bytesOf_wordsOf (l : List UInt8) : bytesOf (wordsOf l) = l.take (4 * (l.length / 4)) := by
  have : ∀ k, k ≤ l.length / 4 → bytesOf ((List.range k).map (wordAt l)) = l.take (4 * k) := by
    intro k
    induction k with
    | zero => intro _; simp [bytesOf]
    | succ k ih =>
      intro hk
      have hcl : (chunkAt 4 l k).length = 4 := by unfold chunkAt; simp; omega
      rw [List.range_succ, List.map_append, List.map_cons, List.map_nil, bytesOf_snoc, ih (by omega), wordAt_num hcl]
      have h := putL_num (chunkAt 4 l k)
      rw [hcl] at h
      rw [h]
      unfold chunkAt
      rw [Nat.mul_comm k 4, ← List.take_add]
      congr 1
  exact this _ (Nat.le_refl _)

def vecWordsTab (n : Nat) (X Y : List UInt8) (tX tY : ByteArray) : Kind :=
  if n = 1 then .grows (Bs X) (SliceN X.length) else if n = 2 then .grows (Is (.string tX)) (IsSh (.string tX)) else
  if n = 8 then .grows (Bs Y) (SliceN Y.length) else if n = 9 then .grows (Is (.string tY)) (IsSh (.string tY)) else .reads

set_option maxHeartbeats 4000000 in
theorem vecWords_any (a : Option Addr) (n1 c1 : Nat) (l : List UInt8) (b : Option Addr) (n2 c2 : Nat) (r : List UInt32) (w : World) (h1 : Row 1 w a n1 c1 (l.map u8v)) (h2 : Row 1 w b n2 c2 (r.map u32v)) :
    Calls Try.prog 6 #[.slice a n1 c1, .slice b n2 c2] w fun e w' => e = .returned (.bool true) ∧ Ext w w' := by
  have hl1 : l.length = n1 := by have := h1.2.2.1; simpa using this
  have hl2 : r.length = n2 := by have := h2.2.2.1; simpa using this
  have HL1 := Lib.hid hl1
  have HL2 := Lib.hid hl2
  have hc1 := h1.1
  have hm1 := h1.2.1
  have hc2 := h2.1
  have hm2 := h2.2.1
  unfold maxLen at hm1 hm2
  clear hl1 hl2
  by_cases hA : 500 < n1
  · refine calls_cps fun R hR => ?_
    go_enter Try.func6, Try.ntmps6
    go_wp2_with fail
    refine (awake01_any _).mono ?_; rintro e w1 ⟨rfl, e1⟩
    go_wp2
  · by_cases hB : 200 < n2
    · refine calls_cps fun R hR => ?_
      go_enter Try.func6, Try.ntmps6
      go_wp2_with fail
      refine (awake01_any _).mono ?_; rintro e w1 ⟨rfl, e1⟩
      go_wp2
      try exact ⟨rfl, e1⟩
    · have hwl : (wordsOf l).length = n1 / 4 := by simp [wordsOf, HL1.out]
      obtain ⟨q, hq⟩ : ∃ q, (wordsOf l).length = q := ⟨_, rfl⟩
      have hq4 : 4 * q ≤ n1 := by omega
      have HQ := Lib.hid hq
      have hWS := bytesOf_wordsOf l
      rw [HL1.out, show n1 / 4 = q by omega] at hWS
      clear hwl
      refine calls_cps fun R hR => ?_
      go_enter Try.func6, Try.ntmps6
      go_wp2_with fail
      refine (awake01_any _).mono ?_; rintro e w1 ⟨rfl, e1⟩
      go_wp2_with fail
      refine (words_any _ _ _ l _ (h1.ext e1) (by omega)).mono ?_; rintro e w2 ⟨ax, cx, rfl, ox, e2⟩
      rw [hq] at ox ⊢
      have f2 := e1.trans e2
      go_wp2_with fail
      refine (refWords_any _ _ _ l _ (h1.ext f2) (by omega)).mono ?_; rintro e w3 ⟨ay, cy, rfl, oy, e3⟩
      rw [hq] at oy ⊢
      have f3 := f2.trans e3
      obtain ⟨_, _, q1, rx⟩ := owns_row ox
      cases q1
      obtain ⟨_, _, q1, ry⟩ := owns_row oy
      cases q1
      replace rx := rx.ext e3
      clear ox oy
      have hqx := rx.1
      have hmx := rx.2.1
      have hqy := ry.1
      have hmy := ry.2.1
      unfold maxLen at hmx hmy
      have hbb : ((q : Int) != (q : Int)) = false := by simp
      clear hq
      go_wp2
      go_loopw [32] (fun i wr => ∃ k : Nat, k ≤ q ∧ i = .int .i64 k ∧ Ext w3 wr) (fun i _ => q - (intOf i).toNat)
      case atStart => exact ⟨0, by omega, rfl, Keep.refl _ _⟩
      case round =>
        obtain ⟨k, hk, rfl, hE⟩ := hrel
        by_cases hlt : k < q
        · obtain ⟨ba, oa, rfl, hca⟩ := rx.2.2.2.2 (by omega)
          obtain ⟨bb, ob, rfl, hcb⟩ := ry.2.2.2.2 (by omega)
          have hkl : k < (wordsOf l).length := by have := HQ.out; omega
          have hD : ∀ g : At wr.drew, Ext w3 g.w := fun g => (hE.drew).trans g.ext
          have c1 := fun g => (hD g).cell (hca k (u32v (wordsOf l)[k]) (by simp [hkl]))
          have c2 := fun g => (hD g).cell (hcb k (u32v (wordsOf l)[k]) (by simp [hkl]))
          obtain ⟨x, hx⟩ : ∃ x, ((wordsOf l)[k]).toNat = x := ⟨_, rfl⟩
          simp only [u32v, hx] at c1 c2
          have hE' := hE.drew
          clear hx hca hcb hkl
          go_wp2
          refine wp_flow (fun _ => .reads) (by kernel_rfl) (by kernel_rfl) ?_
          repeat (refine flow_r rfl rfl ?_; go_big_quiet_step (fail); refine wpQuiet_nil ?_)
          refine flow_end (fun w4 hE4 _ => ?_)
          clear c1 c2
          go_wp2
          go_round
          case rel => exact ⟨k + 1, by omega, by go_num, hE'.trans hE4⟩
          case measure => simp [intOf]; omega
        · go_wp2
          have fL := f3.trans hE
          replace rx := rx.ext hE
          clear ry hE hk hlt
          obtain ⟨W0, rfl⟩ : ∃ W0, W0 = wr := ⟨_, rfl⟩
          go_loopw [8, 47] (fun out i wr => ∃ (k : Nat) (ao : Option Addr) (co : Nat), k ≤ n2 ∧ i = .int .i64 k ∧ out = .slice ao (4 * k) co ∧ wr.ownsRow W0.heap.size 5 1 (.slice ao (4 * k) co) (4 * k) ((bytesOf (r.take k)).map u8v) ∧ Ext W0 wr) (fun _ i _ => n2 - (intOf i).toNat)
          case atStart => exact ⟨0, none, 0, by omega, rfl, rfl, World.ownsRow_nil _ _ _ _, Keep.refl _ _⟩
          case round =>
            obtain ⟨k, ao, co, hk, rfl, rfl, hown, hE⟩ := hrel
            by_cases hlt : k < n2
            · have hkl : k < r.length := by have := HL2.out; omega
              obtain ⟨bb, ob, rfl, hcb⟩ := h2.2.2.2.2 (by omega)
              have c1 := (fL.trans hE).cell (hcb k (u32v r[k]) (by simp [hkl]))
              have htk : r.take (k + 1) = r.take k ++ [r[k]] := by rw [List.take_add_one, List.getElem?_eq_getElem hkl]; rfl
              have hxb := (r[k]).toNat_lt
              have hsn := bytesOf_snoc (r.take k) r[k]
              rw [← htk] at hsn
              obtain ⟨x, hx⟩ : ∃ x, (r[k]).toNat = x := ⟨_, rfl⟩
              rw [hx] at hxb hsn
              simp only [u32v, hx] at c1
              have hx32 : (x : Int) ≤ 4294967295 := by omega
              clear hx htk hcb
              have hp : Calls Try.prog 23 #[.int .u64 (x : Int), .int .i64 4] wr fun e w' => ∃ a c, e = .returned (.slice a 4 c) ∧ w'.ownsRow wr.heap.size 5 1 (.slice a 4 c) 4 ((putL x 4).map u8v) ∧ Ext wr w' := put_any x 4 wr (by omega)
              go_wp2_with fail
              refine hp.mono ?_; rintro e w5 ⟨a5, cc5, rfl, own5, e5⟩
              obtain ⟨_, _, q1, row5⟩ := owns_row own5
              cases q1
              have hE5 := hE.trans e5
              have hown5 := e5.owns hown
              obtain ⟨v', w', hrun, hown', hgrow, _⟩ := run_append_row w5 W0.heap.size 31 31 5 _ 1 1 Try.underlying31 info_u8 rfl (by decide) hown5 row5 (u8v_one _) (by unfold maxLen; omega) (by omega) hE5.size
              have hEw : Ext W0 w' := Ext.of_below ((Ext.below hE5).grown hgrow hE5.size (fun g hg => (hown.lt g hg).1))
              rw [show 4 * k + 4 = 4 * (k + 1) by omega, ← List.map_append, ← hsn] at hown'
              obtain ⟨a6, c6, rfl, _⟩ := owns_row hown'
              have Hrun := Lib.hid hrun
              clear hrun own5 row5 hsn hp
              go_wp2_with (at_builtin; go_must (refine wpList_append_run Hrun.out rfl rfl rfl rfl ?_))
              go_roundw
              case rel => exact ⟨k + 1, _, _, by omega, by go_num, rfl, hown', hEw⟩
              case measure => simp [intOf]; omega
            · obtain rfl : k = n2 := by omega
              rw [List.take_of_length_le (by have := HL2.out; omega)] at hown
              go_wp2
              have fE := fL.trans hE
              have rxE := rx.ext hE
              obtain ⟨_, _, q1, rout⟩ := owns_row hown
              cases q1
              clear hown hE fL rx
              have hbl : (bytesOf r).length = 4 * k := by rw [bytesOf_length, HL2.out]
              have HBL := Lib.hid hbl
              clear hbl
              obtain ⟨X, hX⟩ : ∃ X, bytesOf r = X := ⟨_, rfl⟩
              obtain ⟨Y, hY⟩ : ∃ Y, bytesOf (wordsOf l) = Y := ⟨_, rfl⟩
              obtain ⟨tX, htX⟩ : ∃ tX, (⟨X.toArray⟩ : ByteArray) = tX := ⟨_, rfl⟩
              obtain ⟨tY, htY⟩ : ∃ tY, (⟨Y.toArray⟩ : ByteArray) = tY := ⟨_, rfl⟩
              have hYl : Y.length = 4 * q := by rw [← hY, bytesOf_length, HQ.out]
              have hXl : X.length = 4 * k := by rw [← hX]; exact HBL.out
              have rcut := h1.cut (lo := 0) (hi := 4 * q) (by omega) (by omega)
              simp only [Nat.sub_zero, Nat.mul_one, List.drop_zero, ← List.map_take] at rcut
              rw [show (if c1 = 0 then a else Option.map (fun x => x.add 0) a) = a from by split; rfl; cases a <;> simp [Addr.add]] at rcut
              rw [← hWS, hY] at rcut
              rw [hX] at rout
              have D1 : ∀ g : At wr.drew, Ext wr g.w := fun g => ((Keep.refl _ wr).drew).trans g.ext
              have s1 := fun g => run_string_row (P := Try.prog) (At.w g) 31 9 5 Try.underlying31 Try.underlying5 Try.underlying9 (rout.ext (D1 g))
              have s2 := fun g => run_string_row (P := Try.prog) (At.w g) 31 9 5 Try.underlying31 Try.underlying5 Try.underlying9 (rcut.ext (fE.trans (D1 g)))
              simp only [htX] at s1
              simp only [htY] at s2
              have HXl := Lib.hid hXl
              have HYl := Lib.hid hYl
              clear hXl hYl hWS
              refine wp_flow (fun n => vecWordsTab n X Y tX tY) (by kernel_rfl) (by kernel_rfl) ?_
              repeat (refine flow_r rfl rfl ?_; go_big_quiet_step (fail); refine wpQuiet_nil ?_)
              refine flow_g rfl rfl (by simp) ⟨_, none, 0, rfl⟩ (fun _ _ _ h hE => h.mono hE) (fun _ _ h => h.sh) (fun w2 hE2 _ => ?_) (fun v hv => ?_)
              · clear s1 s2
                go_wp2_with fail
                have hD := (fE.drew).trans hE2
                refine (bytes_any _ _ _ r _ (h2.ext hD) (by omega)).mono ?_
                rintro e w3 ⟨a', c', rfl, hown, hE3⟩
                rw [hX] at hown
                have hB : Bs X (.slice a' (4 * k) c') w3 := Bs.of_own hown HXl.out
                go_wp2
              obtain ⟨av, cv, rfl⟩ := hv
              simp only [Act.put, List.setIfInBounds_toArray, List.set_cons_succ, List.set_cons_zero]
              refine flow_g rfl rfl (by simp) ⟨_, rfl⟩ (fun _ _ _ h hE => h) (fun _ _ h => h) (fun w2 hE2 hf => ?_) (fun v hv => ?_)
              · have hB2 : Bs X (.slice av X.length cv) w2 := hf 1 (by kernel_rfl)
                clear hf s1 s2
                obtain ⟨_, _, e2, hrow⟩ := hB2
                cases e2
                have s1 := run_string_row (P := Try.prog) w2 31 9 5 Try.underlying31 Try.underlying5 Try.underlying9 hrow
                rw [htX] at s1
                go_wp2
                exact ⟨Keep.refl _ _, rfl⟩
              cases hv
              simp only [Act.put, List.setIfInBounds_toArray, List.set_cons_succ, List.set_cons_zero]
              repeat (refine flow_r rfl rfl ?_; go_big_quiet_step (fail); refine wpQuiet_nil ?_)
              refine flow_g rfl rfl (by simp) ⟨_, none, 0, rfl⟩ (fun _ _ _ h hE => h.mono hE) (fun _ _ h => h.sh) (fun w2 hE2 _ => ?_) (fun v hv => ?_)
              · clear s1 s2
                go_wp2_with fail
                have hD := ((Keep.refl _ wr).drew).trans hE2
                refine (bytes_any _ _ _ (wordsOf l) _ (rxE.ext hD) (by omega)).mono ?_
                rintro e w3 ⟨a', c', rfl, hown, hE3⟩
                rw [hY] at hown
                have hB : Bs Y (.slice a' (4 * q) c') w3 := Bs.of_own hown HYl.out
                go_wp2
              obtain ⟨aw, cw, rfl⟩ := hv
              simp only [Act.put, List.setIfInBounds_toArray, List.set_cons_succ, List.set_cons_zero]
              refine flow_g rfl rfl (by simp) ⟨_, rfl⟩ (fun _ _ _ h hE => h) (fun _ _ h => h) (fun w2 hE2 hf => ?_) (fun v hv => ?_)
              · have hB2 : Bs Y (.slice aw Y.length cw) w2 := hf 8 (by kernel_rfl)
                clear hf s1 s2
                obtain ⟨_, _, e2, hrow⟩ := hB2
                cases e2
                have s1 := run_string_row (P := Try.prog) w2 31 9 5 Try.underlying31 Try.underlying5 Try.underlying9 hrow
                rw [htY] at s1
                go_wp2
                exact ⟨Keep.refl _ _, rfl⟩
              cases hv
              simp only [Act.put, List.setIfInBounds_toArray, List.set_cons_succ, List.set_cons_zero]
              repeat (refine flow_r rfl rfl ?_; go_big_quiet_step (fail); refine wpQuiet_nil ?_)
              refine flow_end (fun w3 hE3 _ => ?_)
              have hfin := (fE.drew).trans hE3
              clear s1 s2
              go_wp2
              exact ⟨rfl, hfin⟩
end Go.Proofs.Ytafeecdpkceigaa
