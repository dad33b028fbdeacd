/-
  (*chacha.state).turn.
-/
import Derived.Test.YtijpbbjblenhaaaChB
import Derived.Test.YtijpbbjblenhaaaFlowY
namespace Go.Proofs.Ytijpbbjblenhaaa
open Go.RowKit Go.Shelf

def at4 (ws : List UInt32) (i j k l : Nat) : Quad := ⟨ws.getD i 0, ws.getD j 0, ws.getD k 0, ws.getD l 0⟩
def put4 (ws : List UInt32) (i j k l : Nat) (q : Quad) : List UInt32 := (((ws.set i q.a).set j q.b).set k q.c).set l q.d
def qAt (ws : List UInt32) (i j k l : Nat) : List UInt32 := put4 ws i j k l (quarter (at4 ws i j k l))
def turnTo (p : Nat) (ws : List UInt32) : Nat → List UInt32
  | 0 => ws
  | k + 1 => qAt (turnTo p ws k) k (4 + (k + p) % 4) (8 + (k + 2 * p) % 4) (12 + (k + 3 * p) % 4)
theorem put4_length (ws : List UInt32) (i j k l : Nat) (q : Quad) : (put4 ws i j k l q).length = ws.length := by simp [put4]
theorem turnTo_length (p : Nat) (ws : List UInt32) : ∀ k, (turnTo p ws k).length = ws.length
  | 0 => rfl
  | k + 1 => by unfold turnTo qAt; rw [put4_length, turnTo_length]

set_option maxRecDepth 20000 in
set_option maxHeartbeats 4000000 in
theorem turn_any (p b : Nat) (ws : List UInt32) (w : World) (hp : p ≤ 1) (hb : Arr w b 45 (ws.map u32v)) (hl : ws.length = 16) :
    Calls Try.prog 19 #[.pointer (some ⟨b, 0, none⟩), .int .i64 (p : Int)] w fun e w' => e = .returned (.tuple #[]) ∧ Arr w' b 45 ((turnTo p ws 4).map u32v) ∧ Keep (fun k _ => k = b) w w' := by
  refine calls_cps fun R hR => ?_
  have HL := Lib.hid hl
  clear hl
  go_enter Try.func19, Try.ntmps19
  go_wp2
  go_loopw [8] (fun ix wr => ∃ k : Nat, k ≤ 4 ∧ ix = .int .i64 k ∧ Arr wr b 45 ((turnTo p ws k).map u32v) ∧ Keep (fun k _ => k = b) w wr) (fun ix _ => 4 - (intOf ix).toNat)
  case atStart => exact ⟨0, by omega, rfl, hb, Keep.refl _ _⟩
  case round =>
    obtain ⟨k, hk, rfl, hB, hK⟩ := hrel
    by_cases hlt : k < 4
    · obtain ⟨J1, hJ1⟩ : ∃ J : Nat, 4 + (k + p) % 4 = J := ⟨_, rfl⟩
      obtain ⟨J2, hJ2⟩ : ∃ J : Nat, 8 + (k + 2 * p) % 4 = J := ⟨_, rfl⟩
      obtain ⟨J3, hJ3⟩ : ∃ J : Nat, 12 + (k + 3 * p) % 4 = J := ⟨_, rfl⟩
      have hs : turnTo p ws (k + 1) = qAt (turnTo p ws k) k J1 J2 J3 := by rw [← hJ1, ← hJ2, ← hJ3]; rfl
      have hi1 : (4 + ((k : Int) + (p : Int)) % 4) = (J1 : Int) := by omega
      have hi2 : (8 + ((k : Int) + 2 * (p : Int)) % 4) = (J2 : Int) := by omega
      have hi3 : (12 + ((k : Int) + 3 * (p : Int)) % 4) = (J3 : Int) := by omega
      have hb1 : J1 < 16 := by omega
      have hb2 : J2 < 16 := by omega
      have hb3 : J3 < 16 := by omega
      have HS := Lib.hid hs
      have hxl := turnTo_length p ws k
      rw [HL.out] at hxl
      obtain ⟨xs, hxs⟩ : ∃ x, turnTo p ws k = x := ⟨_, rfl⟩
      rw [hxs] at HS hB hxl
      have HX := Lib.hid hxl
      clear hJ1 hJ2 hJ3 hs hxs hxl
      have hgetv : ∀ i, i < 16 → (xs.map u32v)[i]? = some (.int .u32 ((xs.getD i 0).toNat : Int)) := fun i hi => by
        have : i < xs.length := by have := HX.out; omega
        simp [List.getElem?_eq_getElem this, u32v]
      have hD : ∀ g : FY.At (fun _ _ => False) wr.drew, Ext wr g.w := fun g => ((Keep.refl _ wr).drew).trans g.ext
      have c0 := fun g => (hB.ext (hD g)).cell (hgetv k (by omega))
      have c1 := fun g => (hB.ext (hD g)).cell (hgetv J1 hb1)
      have c2 := fun g => (hB.ext (hD g)).cell (hgetv J2 hb2)
      have c3 := fun g => (hB.ext (hD g)).cell (hgetv J3 hb3)
      have hq := fun w => quarter_any (at4 xs k J1 J2 J3) w
      unfold qAt at HS
      obtain ⟨q, hqe⟩ : ∃ q, quarter (at4 xs k J1 J2 J3) = q := ⟨_, rfl⟩
      simp only [at4] at hq hqe HS
      rw [hqe] at hq HS
      obtain ⟨qa, qb, qc, qd⟩ := q
      obtain ⟨x0, hx0⟩ : ∃ x, xs.getD k 0 = x := ⟨_, rfl⟩
      obtain ⟨x1, hx1⟩ : ∃ x, xs.getD J1 0 = x := ⟨_, rfl⟩
      obtain ⟨x2, hx2⟩ : ∃ x, xs.getD J2 0 = x := ⟨_, rfl⟩
      obtain ⟨x3, hx3⟩ : ∃ x, xs.getD J3 0 = x := ⟨_, rfl⟩
      rw [hx0] at c0 hq
      rw [hx1] at c1 hq
      rw [hx2] at c2 hq
      rw [hx3] at c3 hq
      clear hqe hx0 hx1 hx2 hx3 hgetv
      simp only at hq
      go_wp2
      obtain ⟨T, hT⟩ : ∃ T : Value, .tuple #[.int .u32 (qa.toNat : Int), .int .u32 (qb.toNat : Int), .int .u32 (qc.toNat : Int), .int .u32 (qd.toNat : Int)] = T := ⟨_, rfl⟩
      refine FY.wp_flow (X := fun k _ => k = b) (0 :: 1 :: 2 :: 3 :: 4 :: 5 :: 6 :: 7 :: 8 :: 9 :: 10 :: 11 :: 12 :: 13 :: 14 :: 15 :: 16 :: 17 :: 18 :: 19 :: 20 :: 21 :: 22 :: 23 :: 24 :: 25 :: 26 :: 27 :: 28 :: 29 :: 30 :: 31 :: 32 :: 33 :: 34 :: 37 :: 40 :: 43 :: 35 :: 36 :: 38 :: 39 :: 41 :: 42 :: 44 :: 45 :: [])
        (fun n => if n = 12 ∨ n = 17 ∨ n = 22 ∨ n = 27 then .reads else if n = 28 then .grows (Is T) (IsSh T) else if n = 36 ∨ n = 39 ∨ n = 42 ∨ n = 45 then .bar else .still) (by kernel_rfl) (by kernel_rfl) ?_
      repeat (first | (refine FY.flow_q rfl rfl rfl ?_; go_big_quiet_step (fail); refine wpQuiet_nil ?_) | (refine FY.flow_r rfl rfl rfl ?_; go_big_quiet_step (fail); refine wpQuiet_nil ?_))
      refine FY.flow_g rfl rfl rfl (by simp) ⟨_, rfl⟩ (fun _ _ _ h hE => h) (fun _ _ h => h) (fun w2 hE2 _ => ?_) (fun v hv => ?_)
      · go_wp2_with fail
        refine (hq _).mono ?_
        rintro e w3 ⟨rfl, hE3⟩
        go_wp2
        exact rfl
      cases hv
      subst hT
      simp only [Act.put, List.setIfInBounds_toArray, List.set_cons_succ, List.set_cons_zero]
      clear c0 c1 c2 c3 hq hD
      repeat (first | (refine FY.flow_q rfl rfl rfl ?_; go_big_quiet_step (fail); refine wpQuiet_nil ?_) | (refine FY.flow_r rfl rfl rfl ?_; go_big_quiet_step (fail); refine wpQuiet_nil ?_))
      refine FY.flow_b rfl rfl rfl (by kernel_rfl) (fun W1 hE1 _ => ?_)
      have a1 := hB.ext (((Keep.refl _ wr).drew).trans hE1)
      have k1 := hK.trans (Keep.of_ext (((Keep.refl _ wr).drew).trans hE1))
      clear hB hK hE1
      have hlen1 : (xs.map u32v).length = 16 := by simpa using HX.out
      obtain ⟨o1, ho1⟩ : ∃ x, (xs.map u32v)[k]? = some x := ⟨_, List.getElem?_eq_getElem (by rw [hlen1]; omega)⟩
      have s1 := a1.cell ho1
      have f1 := a1.frozen k
      have b1 := a1.set k (.int .u32 (qa.toNat : Int))
      have m1 := keep_setCell W1 b k (.int .u32 (qa.toNat : Int))
      have l1 := k1.trans m1
      clear ho1 a1 k1 hlen1
      go_wp2
      clear s1 f1 m1
      repeat (first | (refine FY.flow_q rfl rfl rfl ?_; go_big_quiet_step (fail); refine wpQuiet_nil ?_) | (refine FY.flow_r rfl rfl rfl ?_; go_big_quiet_step (fail); refine wpQuiet_nil ?_))
      refine FY.flow_b rfl rfl rfl (by kernel_rfl) (fun W2 hE2 _ => ?_)
      have a2 := b1.ext hE2
      have k2 := l1.trans (Keep.of_ext hE2)
      clear b1 l1 hE2
      have hlen2 : ((xs.map u32v).set k (.int .u32 (qa.toNat : Int))).length = 16 := by simpa using HX.out
      obtain ⟨o2, ho2⟩ : ∃ x, ((xs.map u32v).set k (.int .u32 (qa.toNat : Int)))[J1]? = some x := ⟨_, List.getElem?_eq_getElem (by rw [hlen2]; omega)⟩
      have s2 := a2.cell ho2
      have f2 := a2.frozen J1
      have b2 := a2.set J1 (.int .u32 (qb.toNat : Int))
      have m2 := keep_setCell W2 b J1 (.int .u32 (qb.toNat : Int))
      have l2 := k2.trans m2
      clear ho2 a2 k2 hlen2
      go_wp2
      clear s2 f2 m2
      repeat (first | (refine FY.flow_q rfl rfl rfl ?_; go_big_quiet_step (fail); refine wpQuiet_nil ?_) | (refine FY.flow_r rfl rfl rfl ?_; go_big_quiet_step (fail); refine wpQuiet_nil ?_))
      refine FY.flow_b rfl rfl rfl (by kernel_rfl) (fun W3 hE3 _ => ?_)
      have a3 := b2.ext hE3
      have k3 := l2.trans (Keep.of_ext hE3)
      clear b2 l2 hE3
      have hlen3 : (((xs.map u32v).set k (.int .u32 (qa.toNat : Int))).set J1 (.int .u32 (qb.toNat : Int))).length = 16 := by simpa using HX.out
      obtain ⟨o3, ho3⟩ : ∃ x, (((xs.map u32v).set k (.int .u32 (qa.toNat : Int))).set J1 (.int .u32 (qb.toNat : Int)))[J2]? = some x := ⟨_, List.getElem?_eq_getElem (by rw [hlen3]; omega)⟩
      have s3 := a3.cell ho3
      have f3 := a3.frozen J2
      have b3 := a3.set J2 (.int .u32 (qc.toNat : Int))
      have m3 := keep_setCell W3 b J2 (.int .u32 (qc.toNat : Int))
      have l3 := k3.trans m3
      clear ho3 a3 k3 hlen3
      go_wp2
      clear s3 f3 m3
      repeat (first | (refine FY.flow_q rfl rfl rfl ?_; go_big_quiet_step (fail); refine wpQuiet_nil ?_) | (refine FY.flow_r rfl rfl rfl ?_; go_big_quiet_step (fail); refine wpQuiet_nil ?_))
      refine FY.flow_b rfl rfl rfl (by kernel_rfl) (fun W4 hE4 _ => ?_)
      have a4 := b3.ext hE4
      have k4 := l3.trans (Keep.of_ext hE4)
      clear b3 l3 hE4
      have hlen4 : ((((xs.map u32v).set k (.int .u32 (qa.toNat : Int))).set J1 (.int .u32 (qb.toNat : Int))).set J2 (.int .u32 (qc.toNat : Int))).length = 16 := by simpa using HX.out
      obtain ⟨o4, ho4⟩ : ∃ x, ((((xs.map u32v).set k (.int .u32 (qa.toNat : Int))).set J1 (.int .u32 (qb.toNat : Int))).set J2 (.int .u32 (qc.toNat : Int)))[J3]? = some x := ⟨_, List.getElem?_eq_getElem (by rw [hlen4]; omega)⟩
      have s4 := a4.cell ho4
      have f4 := a4.frozen J3
      have b4 := a4.set J3 (.int .u32 (qd.toNat : Int))
      have m4 := keep_setCell W4 b J3 (.int .u32 (qd.toNat : Int))
      have l4 := k4.trans m4
      clear ho4 a4 k4 hlen4
      go_wp2
      clear s4 f4 m4
      refine FY.flow_end (fun W5 hE5 _ => ?_)
      have b5 := b4.ext hE5
      have l5 := l4.trans (Keep.of_ext hE5)
      have hfin : ((((xs.map u32v).set k (.int .u32 (qa.toNat : Int))).set J1 (.int .u32 (qb.toNat : Int))).set J2 (.int .u32 (qc.toNat : Int))).set J3 (.int .u32 (qd.toNat : Int)) = (turnTo p ws (k + 1)).map u32v := by
        rw [HS.out]
        simp [put4, List.map_set, u32v]
      rw [hfin] at b5
      clear b4 l4 hfin
      go_wp2
      go_roundw
      case rel => exact ⟨k + 1, by omega, by go_num, b5, l5⟩
      case measure => simp [intOf]; omega
    · obtain rfl : k = 4 := by omega
      go_wp2
      refine bodyPost_end (results_none rfl _ _ _) rfl (hR _ _ ⟨rfl, hB, hK⟩)
end Go.Proofs.Ytijpbbjblenhaaa
