/-
  diff3: hunk; hunks in memory.
-/
import Derived.Test.YthedpnnfkmbdpaaDfB
import Derived.Test.YthedpnnfkmbdpaaArrO
import Derived.Maps.AppendAt
namespace Go.Proofs.Ythedpnnfkmbdpaa
open Go.RowKit Go.Shelf

attribute [local go_sem] Oper.semAt_some

/-- The slices lie in blocks of their own, apart from each other. -/
def Apart (u v : Value) : Prop := ∀ k, u.ownBlock = some k → v.ownBlock ≠ some k
theorem Apart.symm {u v : Value} (h : Apart u v) : Apart v u := fun k h1 h2 => h k h2 h1
theorem apart_lt {u v : Value} {n : Nat} (h1 : ∀ k, u.ownBlock = some k → k < n) (h2 : ∀ k, v.ownBlock = some k → n ≤ k) : Apart u v := fun k h3 h4 => by
  have := h1 k h3; have := h2 k h4; omega

set_option maxRecDepth 20000 in
set_option maxHeartbeats 2000000 in
theorem hunk_any (k : Int) (a1 a2 a3 : Option Addr) (n1 c1 n2 c2 n3 c3 : Nat) (x a b : List ByteArray) (w : World) (h1 : Row 1 w a1 n1 c1 (x.map Value.string)) (h2 : Row 1 w a2 n2 c2 (a.map Value.string)) (h3 : Row 1 w a3 n3 c3 (b.map Value.string))
    (l1 : n1 ≤ 1000000) (l2 : n2 ≤ 1000000) (l3 : n3 ≤ 1000000) :
    Calls Try.prog 34 #[.int .i64 k, .slice a1 n1 c1, .slice a2 n2 c2, .slice a3 n3 c3] w fun e w' => ∃ p1 p2 p3 d1 d2 d3, e = .returned (.agg #[.int .i64 k, .slice p1 n1 d1, .slice p2 n2 d2, .slice p3 n3 d3]) ∧
      w'.ownsRow w.heap.size 9 1 (.slice p1 n1 d1) n1 (x.map Value.string) ∧ w'.ownsRow w.heap.size 9 1 (.slice p2 n2 d2) n2 (a.map Value.string) ∧ w'.ownsRow w.heap.size 9 1 (.slice p3 n3 d3) n3 (b.map Value.string) ∧
      Apart (.slice p1 n1 d1) (.slice p2 n2 d2) ∧ Apart (.slice p1 n1 d1) (.slice p3 n3 d3) ∧ Apart (.slice p2 n2 d2) (.slice p3 n3 d3) ∧ Ext w w' := by
  refine calls_cps fun R hR => ?_
  have HR := Lib.hid hR
  clear hR
  go_enter Try.func34, Try.ntmps34
  go_wp2_with fail
  have eW : Ext w (w.alloc (.cells #[.int .i64 0, .slice none 0 0, .slice none 0 0, .slice none 0 0] 44)) := (Keep.refl _ w).alloc _
  have bW : Arr (w.alloc (.cells #[.int .i64 0, .slice none 0 0, .slice none 0 0, .slice none 0 0] 44)) w.heap.size 44 [.int .i64 0, .slice none 0 0, .slice none 0 0, .slice none 0 0] := World.alloc_heap_new w _
  refine (cloneS_any a1 n1 c1 x _ (h1.ext eW) l1).mono ?_
  rintro e w1 ⟨v1, rfl, o1, e1⟩
  rw [World.size_alloc] at o1
  have E1 := eW.trans e1
  have b1 := bW.ext e1
  go_wp2_with fail
  refine (cloneS_any a2 n2 c2 a w1 (h2.ext E1) l2).mono ?_
  rintro e w2 ⟨v2, rfl, o2, e2⟩
  have E2 := E1.trans e2
  have b2 := b1.ext e2
  go_wp2_with fail
  refine (cloneS_any a3 n3 c3 b w2 (h3.ext E2) l3).mono ?_
  rintro e w3 ⟨v3, rfl, o3, e3⟩
  have E3 := E2.trans e3
  have b3 := b2.ext e3
  have s1 := eW.size
  have s12 := e2.size
  obtain ⟨p1, d1, rfl, _⟩ := owns_row o1
  obtain ⟨p2, d2, rfl, _⟩ := owns_row o2
  obtain ⟨p3, d3, rfl, _⟩ := owns_row o3
  have A12 := apart_lt (n := w1.heap.size) (fun k hk => (o1.lt k hk).2) (fun k hk => (o2.lt k hk).1)
  have A13 := apart_lt (n := w2.heap.size) (fun k hk => by have := (o1.lt k hk).2; omega) (fun k hk => (o3.lt k hk).1)
  have A23 := apart_lt (n := w2.heap.size) (fun k hk => (o2.lt k hk).2) (fun k hk => (o3.lt k hk).1)
  have O1 := Ext.owns (e2.trans e3) o1
  have O2 := Ext.owns e3 o2
  have q1 := b1.lt
  have q2 := b2.lt
  clear o1 o2 h1 h2 h3 b1 b2 e1 e2 e3 bW eW
  have hi4 := Lib.hid (show (Try.prog.info? 44).map (·.size) = some 4 by kernel_rfl)
  have B3 := Lib.hid b3
  have hone := Lib.hid (show (#[.int .i64 k, .slice p1 n1 d1, .slice p2 n2 d2, .slice p3 n3 d3] : Array Value).all (·.oneCell') = true by simp [Value.oneCell'])
  have kS := keep_setRow w3 w.heap.size #[.int .i64 k, .slice p1 n1 d1, .slice p2 n2 d2, .slice p3 n3 d3]
  have eS : Ext w (w3.setRow w.heap.size #[.int .i64 k, .slice p1 n1 d1, .slice p2 n2 d2, .slice p3 n3 d3]) := ((Keep.of_ext E3).trans kS).mono (fun b o ho hx => by have := Keep.lt ho; omega)
  have hfin := HR.out (.returned (.agg #[.int .i64 k, .slice p1 n1 d1, .slice p2 n2 d2, .slice p3 n3 d3])) _ ⟨p1, p2, p3, d1, d2, d3, rfl,
    owns_mono (kS.owns' O1 (fun b _ hb hx => by have := (O1.lt b hb).1; omega)) (by omega), owns_mono (kS.owns' O2 (fun b _ hb hx => by have := (O2.lt b hb).1; omega)) E1.size, owns_mono (kS.owns' o3 (fun b _ hb hx => by have := (o3.lt b hb).1; omega)) E2.size, A12, A13, A23, eS⟩
  have hlast := b3.setRow [.int .i64 k, .slice p1 n1 d1, .slice p2 n2 d2, .slice p3 n3 d3]
  clear b3 HR O1 O2 o3 A12 A13 A23 E3 E2 E1 kS eS
  go_wp2_with (refine wpList_store_row ?_ 44 (.tmp 8) (.tmp 16) ?_ w.heap.size #[.int .i64 k, .slice p1 n1 d1, .slice p2 n2 d2, .slice p3 n3 d3] ?_ ?_ 44 #[.int .i64 0, .slice none 0 0, .slice none 0 0, .slice none 0 0] ?_ hi4.out rfl hone.out ?_; rfl; rfl; rfl; rfl; exact B3.out)
  refine bodyPost_ret (results_cell_row rfl _ _ _ _ _ (0, 0) _ rfl hlast Try.underlying44 rfl hi4.out) rfl ?_
  exact hfin
end Go.Proofs.Ythedpnnfkmbdpaa
