/-
  diff3.Sides.
-/
import Derived.Test.YthedpnnfkmbdpaaDfI
namespace Go.Proofs.Ythedpnnfkmbdpaa
open Go.RowKit Go.Shelf

attribute [local go_sem] Oper.semAt_some

theorem results_tmp3 {fn : Func} {t u v : Tmp} (h : fn.results = #[.tmp t, .tmp u, .tmp v]) (tmps : Array Value) (P : Program) (w : World) :
    (results fn tmps).run P w = .ok (.tuple #[tmps.getD t undef, tmps.getD u undef, tmps.getD v undef]) w := by
  simp [results, h, List.mapM_cons, List.mapM_nil]
theorem append_own_row {w : World} {base : Nat} {u : Value} {l : List ByteArray} (h : w.ownsRow base 9 1 u l.length (l.map Value.string)) (hn : l.length ≤ 1000000) {a : Option Addr} {m c : Nat} {x : List ByteArray} (hr : Row 1 w a m c (x.map Value.string)) (hm : m ≤ 1000000) (hbase : base ≤ w.heap.size) :
    ∃ a' c' w', (Builtin.append_ #[22, 22] 22 #[u, .slice a m c]).run Try.prog w = .ok (.slice a' (l.length + m) c') w' ∧ w'.ownsRow base 9 1 (.slice a' (l.length + m) c') (l ++ x).length ((l ++ x).map Value.string) ∧
      Keep (strX u) w w' ∧ ((Value.slice a' (l.length + m) c').ownBlock = u.ownBlock ∨ (Value.slice a' (l.length + m) c').ownBlock = some w.heap.size) := by
  have hx : x.length = m := by have := hr.2.2.1; simpa using this
  obtain ⟨i, hi, hz, hsz, hb⟩ := info_parts info_str
  cases a with
  | none =>
    obtain rfl : c = 0 := hr.2.2.2.1 rfl
    obtain rfl : m = 0 := by have := hr.1; omega
    obtain rfl : x = [] := List.eq_nil_of_length_eq_zero hx
    have hrun := run_append_owned_none (P := Try.prog) w base 22 22 9 i 1 Try.underlying22 hi u _ _ h
    obtain ⟨a', c', rfl, _⟩ := owns_row h
    exact ⟨a', c', w, hrun, by simpa using h, Keep.refl _ _, .inl rfl⟩
  | some p =>
    obtain ⟨v', w', hrun, hown', hgrow, _, hblk⟩ := run_append_own_at (P := Try.prog) w base 22 22 9 i _ 1 16 Try.underlying22 hi hz hsz hb rfl (by decide) u _ _ h p m c (x.map Value.string) (by simp [hx])
      (fun j y hy => by
        have hj : j < x.length := by have := (List.getElem?_eq_some_iff.1 hy).1; simpa using this
        obtain ⟨b, off, he, hc⟩ := hr.2.2.2.2 (by omega)
        cases he
        rw [addr_add]; exact hc j y hy) (by simp [Value.oneCell']) (by unfold maxLen; omega) (by omega) hbase
    obtain ⟨a', c', rfl, _⟩ := owns_row hown'
    refine ⟨a', c', w', hrun, by rw [List.length_append, List.map_append, hx]; exact hown', Keep.of_grownBy hgrow (fun k o hk ho => ?_), hblk⟩
    rcases h.2 with ⟨rfl, _⟩ | ⟨g', cap, cur, rfl, hb, hgb, _⟩
    · simp [Value.ownBlock] at hk
    · obtain rfl : g' = k := by simpa [Value.ownBlock] using hk
      rw [hgb] at ho; cases ho; exact ⟨rfl, _, rfl⟩

/-- Three slices of strings of the call's own, apart. -/
structure Out3 (base : Nat) (w : World) (v1 v2 v3 : Value) (l1 l2 l3 : List ByteArray) : Prop where
  o1 : w.ownsRow base 9 1 v1 l1.length (l1.map Value.string)
  o2 : w.ownsRow base 9 1 v2 l2.length (l2.map Value.string)
  o3 : w.ownsRow base 9 1 v3 l3.length (l3.map Value.string)
  a12 : Off v1.ownBlock v2.ownBlock
  a13 : Off v1.ownBlock v3.ownBlock
  a23 : Off v2.ownBlock v3.ownBlock
section
variable {base : Nat} {w w' : World} {v1 v2 v3 u : Value} {l1 l2 l3 x : List ByteArray}
theorem Out3.ext (h : Out3 base w v1 v2 v3 l1 l2 l3) (hE : Ext w w') : Out3 base w' v1 v2 v3 l1 l2 l3 := ⟨Ext.owns hE h.o1, Ext.owns hE h.o2, Ext.owns hE h.o3, h.a12, h.a13, h.a23⟩
theorem Out3.app1 (h : Out3 base w v1 v2 v3 l1 l2 l3) (hk : Keep (strX v1) w w') (ho : w'.ownsRow base 9 1 u (l1 ++ x).length ((l1 ++ x).map Value.string)) (hb : u.ownBlock = v1.ownBlock ∨ u.ownBlock = some w.heap.size) : Out3 base w' u v2 v3 (l1 ++ x) l2 l3 :=
  ⟨ho, hk.owns' h.o2 (fun k _ hm hx => h.a12 k hx.1 hm), hk.owns' h.o3 (fun k _ hm hx => h.a13 k hx.1 hm), ((h.a12.symm).grown hb (fun k hk => (h.o2.lt k hk).2)).symm, ((h.a13.symm).grown hb (fun k hk => (h.o3.lt k hk).2)).symm, h.a23⟩
theorem Out3.app2 (h : Out3 base w v1 v2 v3 l1 l2 l3) (hk : Keep (strX v2) w w') (ho : w'.ownsRow base 9 1 u (l2 ++ x).length ((l2 ++ x).map Value.string)) (hb : u.ownBlock = v2.ownBlock ∨ u.ownBlock = some w.heap.size) : Out3 base w' v1 u v3 l1 (l2 ++ x) l3 :=
  ⟨hk.owns' h.o1 (fun k _ hm hx => h.a12 k hm hx.1), ho, hk.owns' h.o3 (fun k _ hm hx => h.a23 k hx.1 hm), h.a12.grown hb (fun k hk => (h.o1.lt k hk).2), h.a13, ((h.a23.symm).grown hb (fun k hk => (h.o3.lt k hk).2)).symm⟩
theorem Out3.app3 (h : Out3 base w v1 v2 v3 l1 l2 l3) (hk : Keep (strX v3) w w') (ho : w'.ownsRow base 9 1 u (l3 ++ x).length ((l3 ++ x).map Value.string)) (hb : u.ownBlock = v3.ownBlock ∨ u.ownBlock = some w.heap.size) : Out3 base w' v1 v2 u l1 l2 (l3 ++ x) :=
  ⟨hk.owns' h.o1 (fun k _ hm hx => h.a13 k hm hx.1), hk.owns' h.o2 (fun k _ hm hx => h.a23 k hm hx.1), ho, h.a12, h.a13.grown hb (fun k hk => (h.o1.lt k hk).2), h.a23.grown hb (fun k hk => (h.o2.lt k hk).2)⟩
end
theorem fm_take_succ (f : Hunk ByteArray → List ByteArray) {l : List (Hunk ByteArray)} {k : Nat} {x : Hunk ByteArray} (h : l[k]? = some x) : (l.take (k + 1)).flatMap f = (l.take k).flatMap f ++ f x := by
  rw [List.take_add_one, h]; simp
theorem fm_take_le (f : Hunk ByteArray → List ByteArray) (l : List (Hunk ByteArray)) (k : Nat) : ((l.take k).flatMap f).length ≤ (l.flatMap f).length := by
  have : l.flatMap f = (l.take k).flatMap f ++ (l.drop k).flatMap f := by rw [← List.flatMap_append, List.take_append_drop]
  rw [this, List.length_append]; omega
/-- What appends turn that lie at or behind the world's end leaves the world as it was. -/
theorem ext_own {w w1 w2 : World} {u : Value} {n : Nat} {l : List ByteArray} (hE : Ext w w1) (h : w1.ownsRow w.heap.size 9 1 u n (l.map Value.string)) (hk : Keep (strX u) w1 w2) : Ext w w2 :=
  ((Keep.of_ext hE).trans hk).mono (fun k o ho hx => by have := Keep.lt ho; have := (h.lt k hx.1).1; omega)

set_option maxRecDepth 20000 in
set_option maxHeartbeats 4000000 in
theorem sides_any (a : Option Addr) (n c : Nat) (hv : List HV) (hs : List (Hunk ByteArray)) (w : World) (hh : HsIn w (.slice a n c) hv hs) (hl : hs.length = n)
    (hc1 : (hs.flatMap (·.x)).length ≤ 100000) (hc2 : (hs.flatMap (·.a)).length ≤ 100000) (hc3 : (hs.flatMap (·.b)).length ≤ 100000) :
    Calls Try.prog 25 #[.slice a n c] w fun e w' => ∃ v1 v2 v3, e = .returned (.tuple #[v1, v2, v3]) ∧ Out3 w.heap.size w' v1 v2 v3 (hs.flatMap (·.x)) (hs.flatMap (·.a)) (hs.flatMap (·.b)) ∧ Ext w w' := by
  obtain ⟨_, _, q, hr⟩ := hh.row
  rw [hl] at q hr
  cases q
  have hmx := hr.2.1
  have hnc := hr.1
  unfold maxLen at hmx
  refine calls_cps fun R hR => ?_
  have HL := Lib.hid hl
  have HH := Lib.hid hh
  have HC := Lib.hid (And.intro hc1 (And.intro hc2 hc3))
  clear hl hh hc1 hc2 hc3
  go_enter Try.func25, Try.ntmps25
  go_wp2
  go_loopw [2, 3, 4, 9] (fun y1 y2 y3 i wr => ∃ (k : Nat) (v1 v2 v3 : Value), k ≤ n ∧ i = .int .i64 k ∧ y1 = v1 ∧ y2 = v2 ∧ y3 = v3 ∧ Out3 w.heap.size wr v1 v2 v3 ((hs.take k).flatMap (·.x)) ((hs.take k).flatMap (·.a)) ((hs.take k).flatMap (·.b)) ∧ Ext w wr) (fun _ _ _ i _ => n - (intOf i).toNat)
  case atStart => exact ⟨0, _, _, _, by omega, rfl, rfl, rfl, rfl, ⟨World.ownsRow_nil _ _ _ _, World.ownsRow_nil _ _ _ _, World.ownsRow_nil _ _ _ _, fun _ h => by simp [Value.ownBlock] at h, fun _ h => by simp [Value.ownBlock] at h, fun _ h => by simp [Value.ownBlock] at h⟩, Keep.refl _ _⟩
  case round =>
    obtain ⟨k, v1, v2, v3, hk, rfl, rfl, rfl, rfl, hO, hE⟩ := hrel
    by_cases hlt : k < n
    · obtain ⟨u, hu⟩ : ∃ u, hs[k]? = some u := ⟨_, List.getElem?_eq_getElem (by have := HL.out; omega)⟩
      obtain ⟨b, o, a1, n1, c1, a2, n2, c2, a3, n3, c3, rfl, d0, d1, d2, d3, r1, r2, r3⟩ := HH.out.at hr hu hlt
      replace d0 := Ext.cell hE d0
      replace d1 := Ext.cell hE d1
      replace d2 := Ext.cell hE d2
      replace d3 := Ext.cell hE d3
      have t1 := fm_take_succ (·.x) hu
      have t2 := fm_take_succ (·.a) hu
      have t3 := fm_take_succ (·.b) hu
      have b1 := fm_take_le (·.x) hs (k + 1)
      have b2 := fm_take_le (·.a) hs (k + 1)
      have b3 := fm_take_le (·.b) hs (k + 1)
      rw [t1, List.length_append] at b1
      rw [t2, List.length_append] at b2
      rw [t3, List.length_append] at b3
      have m1 : u.x.length = n1 := by have := r1.2.2.1; simpa using this
      have m2 : u.a.length = n2 := by have := r2.2.2.1; simpa using this
      have m3 : u.b.length = n3 := by have := r3.2.2.1; simpa using this
      obtain ⟨p1, hp1⟩ : ∃ p, (hs.take k).flatMap (·.x) = p := ⟨_, rfl⟩
      obtain ⟨p2, hp2⟩ : ∃ p, (hs.take k).flatMap (·.a) = p := ⟨_, rfl⟩
      obtain ⟨p3, hp3⟩ : ∃ p, (hs.take k).flatMap (·.b) = p := ⟨_, rfl⟩
      rw [hp1] at hO t1 b1
      rw [hp2] at hO t2 b2
      rw [hp3] at hO t3 b3
      have HT := Lib.hid (And.intro t1 (And.intro t2 t3))
      have HC' := HC.out
      obtain ⟨q1, q2, q3⟩ := HC'
      have k1 : p1.length ≤ 1000000 ∧ n1 ≤ 1000000 := by omega
      have k2 : p2.length ≤ 1000000 ∧ n2 ≤ 1000000 := by omega
      have k3 : p3.length ≤ 1000000 ∧ n3 ≤ 1000000 := by omega
      clear t1 t2 t3 b1 b2 b3 m1 m2 m3 hp1 hp2 hp3 q1 q2 q3 hu
      obtain ⟨B, hB⟩ : ∃ B, wr.alloc (.cells #[.int .i64 u.k, .slice a1 n1 c1, .slice a2 n2 c2, .slice a3 n3 c3] 44) = B := ⟨_, rfl⟩
      have eA : Ext wr B := by rw [← hB]; exact (Keep.refl _ wr).alloc _
      have zA := Arr.new wr 44 [.int .i64 u.k, .slice a1 n1 c1, .slice a2 n2 c2, .slice a3 n3 c3]
      have hB' : wr.alloc (.cells [.int .i64 u.k, .slice a1 n1 c1, .slice a2 n2 c2, .slice a3 n3 c3].toArray 44) = B := hB
      rw [hB'] at zA
      have e1 := zA.cell (i := 1) rfl
      have e2 := zA.cell (i := 2) rfl
      have e3 := zA.cell (i := 3) rfl
      have hEB := hE.trans eA
      have OB := hO.ext eA
      obtain ⟨X, hX⟩ : ∃ X : Nat → Obj → Prop, X = fun k o => strX u2 k o ∨ strX u3 k o ∨ strX u4 k o := ⟨_, rfl⟩
      have hXlt : ∀ k o, X k o → k < wr.heap.size := fun k o hx => by
        rw [hX] at hx
        rcases hx with hx | hx | hx
        · exact (hO.o1.lt k hx.1).2
        · exact (hO.o2.lt k hx.1).2
        · exact (hO.o3.lt k hx.1).2
      have hD : ∀ q : FY.At X B.drew, Keep X B q.w := fun q => ((Keep.refl _ B).drew).trans q.ext
      have hcD : ∀ w' j u, Keep X B w' → B.cell? ⟨wr.heap.size, j, none⟩ = some u → w'.cell? ⟨wr.heap.size, j, none⟩ = some u := fun w' j u hk h => hk.cell h (fun _ _ _ hx => Nat.lt_irrefl _ (hXlt _ _ hx))
      have f1 := fun q => hcD _ _ _ (hD q) e1
      have f2 := fun q => hcD _ _ _ (hD q) e2
      have f3 := fun q => hcD _ _ _ (hD q) e3
      have HB := Lib.hid hB
      have HX := Lib.hid hX
      have HOB := Lib.hid OB
      have HEB := Lib.hid hEB
      clear hB hB' hX hO hE eA zA hXlt hcD OB hEB e1 e2 e3
      go_wp2
      rw [HB.out]
      clear d0 d1 d2 d3 HB
      refine FW.wp_flow (X := X) (0 :: 1 :: 2 :: 4 :: 5 :: 6 :: 8 :: 9 :: 10 :: 3 :: 7 :: 11 :: 12 :: 13 :: 14 :: [])
        (fun n => if n = 2 ∨ n = 6 ∨ n = 10 then .still else if n = 3 ∨ n = 7 ∨ n = 11 then .bar else .pure) (by kernel_rfl) (by kernel_rfl) ?_
      repeat (first | (refine FW.flow_p rfl rfl rfl ?_; go_big_quiet_step (fail); refine wpQuiet_nil ?_) | (refine FW.flow_q rfl rfl rfl ?_; go_big_quiet_step (fail); refine wpQuiet_nil ?_))
      clear f1 f2 f3 hD
      refine FW.flow_b rfl rfl (by kernel_rfl) (fun w3 hE3 hf => ?_)
      have x3 : Ext B w3 := ((Keep.refl _ B).drew).trans hE3
      have O3 := HOB.out.ext x3
      have X3 := HEB.out.trans x3
      obtain ⟨a4, c4, w4, hrun, ho, hk4, hb4⟩ := append_own_row O3.o1 k1.1 (r1.ext X3) k1.2 X3.size
      have O4 := O3.app1 hk4 ho hb4
      have E4 := ext_own X3 O3.o1 hk4
      refine ⟨.slice a4 (p1.length + n1) c4, w4, FW.opRuns_val rfl (FW.exec_append hrun rfl rfl rfl), hk4.mono (fun k o ho hx => by rw [HX.out]; exact .inl hx), ?_⟩
      clear hf hrun ho hb4 hk4 O3 X3 x3 hE3 HOB HEB
      simp only [Act.put, List.setIfInBounds_toArray, List.set_cons_succ, List.set_cons_zero]
      refine FW.flow_b rfl rfl (by kernel_rfl) (fun w5 hE5 hf => ?_)
      have O5 := O4.ext hE5
      have X5 := E4.trans hE5
      obtain ⟨a6, c6, w6, hrun, ho, hk6, hb6⟩ := append_own_row O5.o2 k2.1 (r2.ext X5) k2.2 X5.size
      have O6 := O5.app2 hk6 ho hb6
      have E6 := ext_own X5 O5.o2 hk6
      refine ⟨.slice a6 (p2.length + n2) c6, w6, FW.opRuns_val rfl (FW.exec_append hrun rfl rfl rfl), hk6.mono (fun k o ho hx => by rw [HX.out]; exact .inr (.inl hx)), ?_⟩
      clear hf hrun ho hb6 hk6 O5 X5 hE5 O4 E4
      simp only [Act.put, List.setIfInBounds_toArray, List.set_cons_succ, List.set_cons_zero]
      refine FW.flow_b rfl rfl (by kernel_rfl) (fun w7 hE7 hf => ?_)
      have O7 := O6.ext hE7
      have X7 := E6.trans hE7
      obtain ⟨a8, c8, w8, hrun, ho, hk8, hb8⟩ := append_own_row O7.o3 k3.1 (r3.ext X7) k3.2 X7.size
      have O8 := O7.app3 hk8 ho hb8
      have E8 := ext_own X7 O7.o3 hk8
      refine ⟨.slice a8 (p3.length + n3) c8, w8, FW.opRuns_val rfl (FW.exec_append hrun rfl rfl rfl), hk8.mono (fun k o ho hx => by rw [HX.out]; exact .inr (.inr hx)), ?_⟩
      clear hf hrun ho hb8 hk8 O7 X7 hE7 O6 E6
      simp only [Act.put, List.setIfInBounds_toArray, List.set_cons_succ, List.set_cons_zero]
      repeat (refine FW.flow_p rfl rfl rfl ?_; go_big_quiet_step (fail); refine wpQuiet_nil ?_)
      refine FW.flow_end (fun w9 hE9 _ => ?_)
      have O9 := O8.ext hE9
      have E9 := E8.trans hE9
      rw [← HT.out.1, ← HT.out.2.1, ← HT.out.2.2] at O9
      clear O8 E8 hE9 HT r1 r2 r3 HX
      go_wp2
      go_roundw
      case rel => exact ⟨k + 1, _, _, _, by omega, by go_num, rfl, rfl, rfl, O9, E9⟩
      case measure => simp [intOf]; omega
    · obtain rfl : k = n := by omega
      rw [List.take_of_length_le (by have := HL.out; omega)] at hO
      go_wp2
      refine bodyPost_ret (results_tmp3 (t := 2) (u := 3) (v := 4) rfl _ _ _) rfl (hR _ _ ⟨u2, u3, u4, rfl, hO, hE⟩)
end Go.Proofs.Ythedpnnfkmbdpaa
