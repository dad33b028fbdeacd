/-
  A quarter round: chacha.Quarter, tabulariumref01.Quarter; chapter 4's example.
-/
import Derived.Test.YtijpbbjblenhaaaVecA
import Derived.Test.YtijpbbjblenhaaaVecM
namespace Go.Proofs.Ytijpbbjblenhaaa
open Go.RowKit Go.Shelf

theorem results_tmp4 {fn : Func} {t u v x : Tmp} (h : fn.results = #[.tmp t, .tmp u, .tmp v, .tmp x]) (tmps : Array Value) (P : Program) (w : World) :
    (results fn tmps).run P w = .ok (.tuple #[tmps.getD t undef, tmps.getD u undef, tmps.getD v undef, tmps.getD x undef]) w := by
  simp [results, h, List.mapM_cons, List.mapM_nil]

def rotl (x : UInt32) (k : Int) : UInt32 := UInt32.ofNat (rol32 (x.toNat : Int) k).toNat
structure Quad where
  a : UInt32
  b : UInt32
  c : UInt32
  d : UInt32
def half (x y : Int) (q : Quad) : Quad :=
  let a := q.a + q.b
  let d := rotl (q.d ^^^ a) x
  let c := q.c + d
  ⟨a, rotl (q.b ^^^ c) y, c, d⟩
def quarter (q : Quad) : Quad := half 8 7 (half 16 12 q)

theorem rotl_int (x : UInt32) (k : Int) : rol32 (x.toNat : Int) k = ((rotl x k).toNat : Int) := by
  have h := rol32_bounds (x.toNat : Int) k
  unfold rotl
  rw [UInt32.toNat_ofNat_of_lt' (by show _ < 4294967296; omega)]
  omega
theorem add_u32 (x y : UInt32) : ((x.toNat : Int) + (y.toNat : Int)) % 4294967296 = ((x + y).toNat : Int) := by
  rw [UInt32.toNat_add]; show _ = (((_ % 4294967296 : Nat)) : Int); omega
theorem xor_u32 (x y : UInt32) : bits .xor .u32 (x.toNat : Int) (y.toNat : Int) = ((x ^^^ y).toNat : Int) := by
  rw [u32_xor_nat _ _ x.toNat_lt y.toNat_lt, UInt32.toNat_xor]
theorem u32_bd (x : UInt32) : 0 ≤ (x.toNat : Int) ∧ (x.toNat : Int) ≤ 4294967295 := by have := x.toNat_lt; omega

theorem half_facts (x y : Int) (q : Quad) : ∃ a1 d0 d1 c1 b0 b1 : UInt32, half x y q = ⟨a1, b1, c1, d1⟩ ∧ ((q.a.toNat : Int) + (q.b.toNat : Int)) % 4294967296 = (a1.toNat : Int) ∧ bits .xor .u32 (q.d.toNat : Int) (a1.toNat : Int) = (d0.toNat : Int) ∧
    rol32 (d0.toNat : Int) x = (d1.toNat : Int) ∧ ((q.c.toNat : Int) + (d1.toNat : Int)) % 4294967296 = (c1.toNat : Int) ∧ bits .xor .u32 (q.b.toNat : Int) (c1.toNat : Int) = (b0.toNat : Int) ∧ rol32 (b0.toNat : Int) y = (b1.toNat : Int) :=
  ⟨_, _, _, _, _, _, rfl, add_u32 _ _, xor_u32 _ _, rotl_int _ _, add_u32 _ _, xor_u32 _ _, rotl_int _ _⟩

theorem refQuarter_any (q : Quad) (w : World) : Calls Try.prog 10 #[.int .u32 (q.a.toNat : Int), .int .u32 (q.b.toNat : Int), .int .u32 (q.c.toNat : Int), .int .u32 (q.d.toNat : Int)] w fun e w' =>
    e = .returned (.tuple #[.int .u32 ((quarter q).a.toNat : Int), .int .u32 ((quarter q).b.toNat : Int), .int .u32 ((quarter q).c.toNat : Int), .int .u32 ((quarter q).d.toNat : Int)]) ∧ w = w' := by
  obtain ⟨a1, d0, d1, c1, b0, b1, e1, f1, f2, f3, f4, f5, f6⟩ := half_facts 16 12 q
  obtain ⟨a3, d2, d3, c3, b2, b3, e2, g1, g2, g3, g4, g5, g6⟩ := half_facts 8 7 ⟨a1, b1, c1, d1⟩
  unfold quarter
  rw [e1, e2]
  clear e1 e2
  obtain ⟨a, b, c, d⟩ := q
  simp only at f1 f2 f4 f5 g1 g2 g4 g5 ⊢
  have r1 := refRol_any (d0.toNat : Int) 16 w (u32_bd _) (by decide) (by decide)
  have r2 := refRol_any (b0.toNat : Int) 12 w (u32_bd _) (by decide) (by decide)
  have r3 := refRol_any (d2.toNat : Int) 8 w (u32_bd _) (by decide) (by decide)
  have r4 := refRol_any (b2.toNat : Int) 7 w (u32_bd _) (by decide) (by decide)
  rw [show ((16 : Int) % 32) = 16 by decide, f3] at r1
  rw [show ((12 : Int) % 32) = 12 by decide, f6] at r2
  rw [show ((8 : Int) % 32) = 8 by decide, g3] at r3
  rw [show ((7 : Int) % 32) = 7 by decide, g6] at r4
  clear f3 f6 g3 g6
  refine calls_cps fun R hR => ?_
  go_enter Try.func10, Try.ntmps10
  go_wp2_with fail
  refine r1.mono ?_; rintro e w1 ⟨rfl, rfl⟩
  go_wp2_with fail
  refine r2.mono ?_; rintro e w1 ⟨rfl, rfl⟩
  go_wp2_with fail
  refine r3.mono ?_; rintro e w1 ⟨rfl, rfl⟩
  go_wp2_with fail
  refine r4.mono ?_; rintro e w1 ⟨rfl, rfl⟩
  go_wp2
  refine bodyPost_ret (results_tmp4 rfl _ _ _) rfl ?_
  exact hR _ _ ⟨rfl, rfl⟩

def quartN (q : Quad) : Nat → Quad
  | 0 => q
  | 1 => half 16 12 q
  | _ => quarter q
theorem index_turns (w : World) : (Instr.index 42 (.agg #[.int .i64 16, .int .i64 12, .int .i64 8, .int .i64 7]) (.int .i64 0)).run Try.prog w = .ok (.agg #[.int .i64 16, .int .i64 12]) w ∧
    (Instr.index 42 (.agg #[.int .i64 16, .int .i64 12, .int .i64 8, .int .i64 7]) (.int .i64 1)).run Try.prog w = .ok (.agg #[.int .i64 8, .int .i64 7]) w := ⟨by kernel_rfl, by kernel_rfl⟩
theorem quarter_any (q : Quad) (w : World) : Calls Try.prog 9 #[.int .u32 (q.a.toNat : Int), .int .u32 (q.b.toNat : Int), .int .u32 (q.c.toNat : Int), .int .u32 (q.d.toNat : Int)] w fun e w' =>
    e = .returned (.tuple #[.int .u32 ((quarter q).a.toNat : Int), .int .u32 ((quarter q).b.toNat : Int), .int .u32 ((quarter q).c.toNat : Int), .int .u32 ((quarter q).d.toNat : Int)]) ∧ Ext w w' := by
  refine calls_cps fun R hR => ?_
  obtain ⟨a, b, c, d⟩ := q
  simp only
  go_enter Try.func9, Try.ntmps9
  go_wp2
  go_loopw [0, 1, 2, 3, 17] (fun va vb vc vd ix wr => ∃ (k : Nat) (p : Quad), k ≤ 2 ∧ ix = .int .i64 k ∧ Hid (quartN ⟨a, b, c, d⟩ k = p) ∧ va = .int .u32 (p.a.toNat : Int) ∧ vb = .int .u32 (p.b.toNat : Int) ∧ vc = .int .u32 (p.c.toNat : Int) ∧ vd = .int .u32 (p.d.toNat : Int) ∧ Ext w wr) (fun _ _ _ _ ix _ => 2 - (intOf ix).toNat)
  case atStart => exact ⟨0, ⟨a, b, c, d⟩, by omega, rfl, Lib.hid rfl, rfl, rfl, rfl, rfl, Keep.refl _ _⟩
  case round =>
    obtain ⟨k, p, hk, rfl, HP, rfl, rfl, rfl, rfl, hE⟩ := hrel
    rcases (show k = 0 ∨ k = 1 ∨ k = 2 by omega) with rfl | rfl | rfl
    · obtain ⟨a1, d0, d1, c1, b0, b1, e1, f1, f2, f3, f4, f5, f6⟩ := half_facts 16 12 p
      have r1 := fun w => rol_any (d0.toNat : Int) 16 w (u32_bd _) (by decide) (by decide)
      have r2 := fun w => rol_any (b0.toNat : Int) 12 w (u32_bd _) (by decide) (by decide)
      rw [show ((16 : Int) % 32) = 16 by decide, f3] at r1
      rw [show ((12 : Int) % 32) = 12 by decide, f6] at r2
      clear f3 f6
      have HN : Hid (quartN ⟨a, b, c, d⟩ 1 = ⟨a1, b1, c1, d1⟩) := by
        have h := HP.out
        subst h
        exact e1
      clear HP e1
      obtain ⟨pa, pb, pc, pd⟩ := p
      simp only at f1 f2 f4 f5
      have hix := (index_turns wr).1
      have E2 : Ext wr (wr.alloc (.cells #[.int .i64 16, .int .i64 12] 41)) := (Keep.refl _ wr).alloc _
      go_wp2_with fail
      refine (r1 _).mono ?_; rintro e w1 ⟨rfl, rfl⟩
      go_wp2_with fail
      refine (r2 _).mono ?_; rintro e w1 ⟨rfl, rfl⟩
      have hEn := hE.trans E2
      go_wp2
      go_roundw
      case rel => exact ⟨1, ⟨a1, b1, c1, d1⟩, by omega, by go_num, HN, rfl, rfl, rfl, rfl, hEn⟩
      case measure => simp [intOf]
    · obtain ⟨a1, d0, d1, c1, b0, b1, e1, f1, f2, f3, f4, f5, f6⟩ := half_facts 8 7 p
      have r1 := fun w => rol_any (d0.toNat : Int) 8 w (u32_bd _) (by decide) (by decide)
      have r2 := fun w => rol_any (b0.toNat : Int) 7 w (u32_bd _) (by decide) (by decide)
      rw [show ((8 : Int) % 32) = 8 by decide, f3] at r1
      rw [show ((7 : Int) % 32) = 7 by decide, f6] at r2
      clear f3 f6
      have HN : Hid (quartN ⟨a, b, c, d⟩ 2 = ⟨a1, b1, c1, d1⟩) := by
        have h := HP.out
        subst h
        exact e1
      clear HP e1
      obtain ⟨pa, pb, pc, pd⟩ := p
      simp only at f1 f2 f4 f5
      have hix := (index_turns wr).2
      have E2 : Ext wr (wr.alloc (.cells #[.int .i64 8, .int .i64 7] 41)) := (Keep.refl _ wr).alloc _
      go_wp2_with fail
      refine (r1 _).mono ?_; rintro e w1 ⟨rfl, rfl⟩
      go_wp2_with fail
      refine (r2 _).mono ?_; rintro e w1 ⟨rfl, rfl⟩
      have hEn := hE.trans E2
      go_wp2
      go_roundw
      case rel => exact ⟨2, ⟨a1, b1, c1, d1⟩, by omega, by go_num, HN, rfl, rfl, rfl, rfl, hEn⟩
      case measure => simp [intOf]
    · have h := HP.out
      subst h
      clear HP
      go_wp2
      refine bodyPost_ret (results_tmp4 rfl _ _ _) rfl ?_
      exact hR _ _ ⟨rfl, hE⟩

theorem awake04_any (w : World) : Calls Try.prog 8 #[] w fun e w' => e = .returned (.bool true) ∧ Ext w w' := by
  have hq := quarter_any ⟨0x11111111, 0x01020304, 0x9b8d6f43, 0x01234567⟩ w
  have e1 : ((quarter ⟨0x11111111, 0x01020304, 0x9b8d6f43, 0x01234567⟩).a.toNat : Int) = 3928658676 := by kernel_rfl
  have e2 : ((quarter ⟨0x11111111, 0x01020304, 0x9b8d6f43, 0x01234567⟩).b.toNat : Int) = 3407673550 := by kernel_rfl
  have e3 : ((quarter ⟨0x11111111, 0x01020304, 0x9b8d6f43, 0x01234567⟩).c.toNat : Int) = 1166100270 := by kernel_rfl
  have e4 : ((quarter ⟨0x11111111, 0x01020304, 0x9b8d6f43, 0x01234567⟩).d.toNat : Int) = 1484899515 := by kernel_rfl
  rw [e1, e2, e3, e4] at hq
  have hq' : Calls Try.prog 9 #[.int .u32 286331153, .int .u32 16909060, .int .u32 2609737539, .int .u32 19088743] w _ := hq
  clear e1 e2 e3 e4 hq
  refine calls_cps fun R hR => ?_
  go_enter Try.func8, Try.ntmps8
  go_wp2_with fail
  refine hq'.mono ?_; rintro e w1 ⟨rfl, e1⟩
  go_wp2
  exact ⟨rfl, e1⟩
end Go.Proofs.Ytijpbbjblenhaaa
