/-
  The law DiskDoes: its body.
-/
import Derived.Test.YthbffmdfdbfioaaDkO
import Derived.Test.YthbffmdfdbfioaaOpenD
import Derived.Test.YthbffmdfdbfioaaFlowZ
namespace Go.Proofs.Ythbffmdfdbfioaa
open Go.RowKit Go.Shelf

attribute [local go_sem] Oper.semAt_some

def zeroDeed : List Value := .int .i64 0 :: .int .i64 0 :: List.replicate 64 (.int .u8 0)
theorem info_deed : (Try.prog.info? 38).map (·.size) = some 66 := by kernel_rfl
theorem zero_deed (w : World) : (zeroValue 38).run Try.prog w = .ok (.agg zeroDeed.toArray) w := (zero_of_info (P := Try.prog) (n := 66) (by kernel_rfl)).1 w
theorem Deed.cells_length {d : Deed} (h : d.ok) : d.cells.length = 66 := by simp [Deed.cells, h.1]
theorem Deed.cells_one (d : Deed) : ∀ v ∈ d.cells, v.oneCell' = true := by
  intro v hv
  simp only [Deed.cells, List.mem_cons] at hv
  rcases hv with rfl | rfl | hv
  · rfl
  · rfl
  · exact u8v_one d.s v hv
theorem index_deed (b off n c k : Nat) (hk : k < n) (w : World) : (Instr.indexAt 34 (.slice (some ⟨b, off, none⟩) n c) (.int .i64 (k : Int))).run Try.prog w = .ok (.pointer (some ⟨b, off + k * 66, none⟩)) w := by
  have h1 : (0 : Int) ≤ (k : Int) ∧ (k : Int) < (n : Int) := by omega
  simp [Instr.indexAt, asIntOf, Result.andThen, h1, addr_add, hk]

theorem flat_at {α : Type} {f : α → List Value} {m k : Nat} {l : List α} {d : α} (hm : 0 < m) (hL : ∀ x ∈ l, (f x).length = m) (hd : l[k]? = some d) {j : Nat} (hj : j < m) : (l.flatMap f)[k * m + j]? = (f d)[j]? := by
  rw [flat_get hm hL, show (k * m + j) / m = k by rw [Nat.mul_comm, Nat.mul_add_div hm, Nat.div_eq_of_lt hj, Nat.add_zero], hd, show (k * m + j) % m = j by rw [Nat.mul_comm, Nat.mul_add_mod, Nat.mod_eq_of_lt hj]]
  rfl
theorem loads_elem {P : Program} {w : World} {α : Type} {f : α → List Value} {m k n c b off : Nat} {l : List α} {d : α} (hm : 0 < m) (hr : Row m w (some ⟨b, off, none⟩) n c (l.flatMap f)) (hL : ∀ x ∈ l, (f x).length = m) (hd : l[k]? = some d) (hn : 0 < n) :
    (loadCellsFrom ⟨b, off + k * m, none⟩ 0 (f d).length #[]).run P w = .ok (f d).toArray w :=
  run_loadCells_list (P := P) (w := w) ⟨b, off + k * m, none⟩ (f d) (fun j v hv => by
    have hj : j < m := by rw [← hL d (List.mem_of_getElem? hd)]; exact (List.getElem?_eq_some_iff.1 hv).1
    rw [addr_add, Nat.add_assoc]
    exact hr.cell rfl (by rw [flat_at hm hL hd hj]; exact hv) hn)
/-- The two disks, of the state s, apart from each other. -/
structure Both (base : Nat) (w : World) (B gs gc B2 gs2 gc2 : Nat) (s : DSt) : Prop where
  p : PD w B gs gc s
  r : RD w B2 gs2 gc2 s
  b1 : base ≤ B
  b2 : base ≤ gs
  b3 : base ≤ B2
  b4 : base ≤ gs2
  n1 : B ≠ B2
  n2 : B ≠ gs2
  n3 : gs ≠ B2
  n4 : gs ≠ gs2
  n5 : 0 < s.cr.length → gc ≠ B2 ∧ gc ≠ gs2
  n6 : 0 < s.cr.length → gc2 ≠ B ∧ gc2 ≠ gs
theorem Both.ext {base : Nat} {w w' : World} {B gs gc B2 gs2 gc2 : Nat} {s : DSt} (h : Both base w B gs gc B2 gs2 gc2 s) (hE : Ext w w') : Both base w' B gs gc B2 gs2 gc2 s :=
  ⟨h.p.ext hE, h.r.ext hE, h.b1, h.b2, h.b3, h.b4, h.n1, h.n2, h.n3, h.n4, h.n5, h.n6⟩

theorem write_cr (s : DSt) (i : Int) (b : List UInt8) : (s.write i b).cr = s.cr ∧ (s.write i b).wr ≤ s.wr + 1 := by
  unfold DSt.write
  split
  · split
    · exact ⟨rfl, Nat.le_succ _⟩
    · exact ⟨rfl, Nat.le_refl _⟩
  · exact ⟨rfl, Nat.le_succ _⟩
theorem start_cr (s : DSt) : s.start.cr = s.cr.tail ∧ s.start.wr = 0 := ⟨rfl, rfl⟩
theorem Both.first {base : Nat} {w w' : World} {B gs gc B2 gs2 gc2 : Nat} {s : DSt} (h : Both base w B gs gc B2 gs2 gc2 s) {X : Nat → Obj → Prop} (hk : Keep X w w') (hX : ∀ k o, X k o → k = B ∨ k = gs) : RD w' B2 gs2 gc2 s :=
  h.r.keep hk (fun _ hx => by rcases hX _ _ hx with hx | hx; exact h.n1 hx.symm; exact h.n3 hx.symm) (fun _ _ hx => by rcases hX _ _ hx with hx | hx; exact h.n2 hx.symm; exact h.n4 hx.symm)
    (fun hc _ hx => by rcases hX _ _ hx with hx | hx; exact (h.n6 hc).1 hx; exact (h.n6 hc).2 hx)
theorem Both.second {base : Nat} {w w1 w2 : World} {B gs gc B2 gs2 gc2 : Nat} {s s' : DSt} (h : Both base w B gs gc B2 gs2 gc2 s) (hc : 0 < s'.cr.length → 0 < s.cr.length) (hp : PD w1 B gs gc s') {X : Nat → Obj → Prop} (hk : Keep X w1 w2) (hX : ∀ k o, X k o → k = B2 ∨ k = gs2) (hr : RD w2 B2 gs2 gc2 s') :
    Both base w2 B gs gc B2 gs2 gc2 s' :=
  ⟨hp.keep hk (fun _ hx => by rcases hX _ _ hx with hx | hx; exact h.n1 hx; exact h.n2 hx) (fun _ _ hx => by rcases hX _ _ hx with hx | hx; exact h.n3 hx; exact h.n4 hx)
    (fun hc' _ hx => by rcases hX _ _ hx with hx | hx; exact (h.n5 (hc hc')).1 hx; exact (h.n5 (hc hc')).2 hx), hr, h.b1, h.b2, h.b3, h.b4, h.n1, h.n2, h.n3, h.n4, fun h' => h.n5 (hc h'), fun h' => h.n6 (hc h')⟩

set_option maxRecDepth 20000 in
set_option maxHeartbeats 4000000 in
theorem diskDoes_any (n : Int) (a1 : Option Addr) (n1 c1 : Nat) (cr : List (Int × Int)) (a2 : Option Addr) (n2 c2 : Nat) (l : List Deed) (w : World) (_hn : -9223372036854775808 ≤ n ∧ n ≤ 9223372036854775807)
    (h1 : Row 2 w a1 n1 c1 (crC cr)) (hl1 : cr.length = n1) (_ho1 : ∀ q ∈ cr, i64ok q.1 ∧ i64ok q.2) (h2 : Row 66 w a2 n2 c2 (l.flatMap Deed.cells)) (hl2 : l.length = n2) (ho2 : ∀ q ∈ l, q.ok) :
    Calls Try.prog 4 #[.int .i64 n, .slice a1 n1 c1, .slice a2 n2 c2] w fun e w' => e = .returned (.bool true) ∧ Ext w w' := by
  have hm1 := h1.2.1
  have hm2 := h2.2.1
  have hn1 := h1.1
  have hn2 := h2.1
  unfold maxLen at hm1 hm2
  have H1 := Lib.hid h1
  have H2 := Lib.hid h2
  have HL1 := Lib.hid hl1
  have HL2 := Lib.hid hl2
  have HO2 := Lib.hid ho2
  clear h1 h2 hl1 hl2 ho2 _ho1
  refine calls_cps fun R hR => ?_
  go_enter Try.func4, Try.ntmps4
  go_wp2_with fail
  refine (awake13_any _).mono ?_; rintro e w1 ⟨rfl, E1⟩
  by_cases q1 : 100 < n
  · go_wp2
    try exact ⟨rfl, E1⟩
  · by_cases q2 : 10 < n1
    · go_wp2
      try exact ⟨rfl, E1⟩
    · by_cases q3 : 60 < n2
      · go_wp2
        try exact ⟨rfl, E1⟩
      · obtain ⟨N, hN⟩ : ∃ N, (max n 0).toNat = N := ⟨_, rfl⟩
        have HN : Hid ((min (max n 0) 65536 : Int) = (N : Int)) := Lib.hid (by omega)
        have hN100 : N ≤ 100 := by omega
        clear hN
        go_wp2_with fail
        have hd1 := dnew_any n N HN.out a1 c1 cr w1 (by rw [HL1.out]; exact (H1.out).ext E1) (by have := HL1.out; omega)
        rw [HL1.out] at hd1
        refine hd1.mono ?_
        rintro e w2 ⟨v, rfl, ⟨B, gs, gc, rfl, hD, hb1, hb2, hb3⟩, e2⟩
        have E2 := E1.trans e2
        clear hd1
        go_wp2_with fail
        have hR1 := (H1.out).ext E2
        obtain ⟨gc2, hgc2⟩ : ∃ g, ∀ p, a1 = some p → 0 < cr.length → p.block = g := by
          cases a1 with
          | none => exact ⟨0, fun p h => by cases h⟩
          | some p => exact ⟨p.block, fun q h _ => by cases h; rfl⟩
        have hd2 := refNew_any n N HN.out a1 c1 gc2 cr w2 (by rw [HL1.out]; exact hR1) hgc2
        rw [HL1.out] at hd2
        refine hd2.mono ?_
        rintro e w3 ⟨B2, gs2, rfl, hD2, hb4, hb5, e3⟩
        have E3 := E2.trans e3
        have hBoth : Both w.heap.size w3 B gs gc B2 gs2 gc2 ⟨zeros (N * 64), N, cr, 0, true⟩ := by
          have l1 := hD.lts
          have l2 : 0 < cr.length → gc2 < w.heap.size := fun hc => by
            obtain ⟨b, off, hp, hcell⟩ := (H1.out).2.2.2.2 (by rw [← HL1.out]; exact hc)
            rw [← hgc2 _ hp hc]
            cases hcr : cr with
            | nil => rw [hcr] at hc; cases hc
            | cons q t => exact World.block_lt_of_cell? w _ (hcell 0 (.int .i64 q.1) (by rw [hcr]; rfl))
          have s1 := E1.size
          refine ⟨hD.ext e3, hD2, by omega, by omega, by omega, by omega, by omega, by omega, by omega, by omega, fun hc => ?_, fun hc => ?_⟩
          · have := l1.2.2 hc; omega
          · have := l2 hc; have := hb3 hc; omega
        clear hd2 hD hD2 hb1 hb2 hb3 hb4 hb5 e2 e3 hR1 E1 E2 hgc2
        have hs3 := E3.size
        have hz := Lib.hid (show zeroDeed.length = 66 by rfl)
        have hz0 := zero_deed
        go_wp2
        go_loopw [37] (fun t37 wr => ∃ (k : Nat) (s : DSt), k ≤ n2 ∧ t37 = .int .i64 k ∧ s.wr ≤ k ∧ Both w.heap.size wr B gs gc B2 gs2 gc2 s ∧ Ext w wr) (fun t37 _ => n2 - (intOf t37).toNat)
        case atStart => exact ⟨0, _, by omega, rfl, Nat.le_refl _, hBoth, E3⟩
        case round =>
          obtain ⟨k, s, hk, rfl, hwr, hB, hE⟩ := hrel
          clear hBoth E3
          by_cases hkn : k < n2
          · obtain ⟨b, off, rfl, _⟩ := (H2.out).2.2.2.2 (by omega)
            obtain ⟨d, hd⟩ : ∃ d, l[k]? = some d := ⟨_, List.getElem?_eq_getElem (by rw [HL2.out]; exact hkn)⟩
            have hdo := HO2.out d (List.mem_of_getElem? hd)
            have hdl := Deed.cells_length hdo
            have hld := loads_elem (P := Try.prog) (by decide) ((H2.out).ext hE) (fun x hx => Deed.cells_length (HO2.out x hx)) hd (by omega)
            have hix := index_deed b off n2 c2 k hkn
            obtain ⟨ds, hds⟩ : ∃ x, d.s.map u8v = x := ⟨_, rfl⟩
            have hdc : d.cells = .int .i64 d.k :: .int .i64 d.i :: ds := by rw [← hds]; rfl
            have hd1 := Deed.cells_one d
            obtain ⟨D, hD⟩ : ∃ D, d.cells = D := ⟨_, rfl⟩
            rw [hD] at hld hdl hdc hd1
            have HD1 := Lib.hid (show D.toArray.all (·.oneCell') = true by rw [List.all_toArray, List.all_eq_true]; exact hd1)
            have HLD := Lib.hid hld
            have hiD := Lib.hid (show (Try.prog.info? 38).map (·.size) = some D.length by rw [info_deed, hdl])
            have hzD := Lib.hid (show zeroDeed.toArray.size = D.toArray.size by rw [List.size_toArray, List.size_toArray, hdl]; exact hz.out)
            have hA := Arr.new wr 38 D
            have eA : Ext wr (wr.alloc (.cells D.toArray 38)) := (Keep.refl _ wr).alloc _
            have cK := hA.cell (i := 0) (v := .int .i64 d.k) (by rw [hdc]; rfl)
            have cI := hA.cell (i := 1) (v := .int .i64 d.i) (by rw [hdc]; rfl)
            have hDs := Lib.hid (And.intro hds (And.intro hdc hdo))
            have HDL := Lib.hid hdl
            have hBW := hB.ext eA
            have hEW := hE.trans eA
            have hsW : wr.heap.size < (wr.alloc (.cells D.toArray 38)).heap.size := by simp
            have hl1 := hB.p.lts
            have hl2 := hB.r.lts
            have hbd : B < wr.heap.size ∧ gs < wr.heap.size ∧ B2 < wr.heap.size ∧ gs2 < wr.heap.size := ⟨hl1.1, hl1.2.1, hl2.1, hl2.2.1⟩
            have HW := Lib.hid (And.intro hA (And.intro hBW (And.intro hEW (And.intro hsW hbd))))
            clear hdo hdl hld hds hdc hd1 hD hd hA hBW hEW hsW hB hE eA hl1 hl2 hbd
            obtain ⟨dk, hdk⟩ : ∃ x, d.k = x := ⟨_, rfl⟩
            rw [hdk] at cK
            clear hdk
            by_cases hk0 : dk = 0
            case' pos =>
              subst hk0
              go_wp2_with (first | (refine wpList_load_cells ?_ 38 (.tmp 39) ?_ ⟨b, off + k * 66, none⟩ ?_ D _ ?_ Try.underlying38 rfl hiD.out ?_; rfl; rfl; rfl; exact HLD.out) | (refine wpList_store_row ?_ 38 (.tmp 10) (.tmp 40) ?_ wr.heap.size D.toArray ?_ ?_ 38 zeroDeed.toArray ?_ hiD.out hzD.out HD1.out ?_; rfl; rfl; rfl; rfl; exact Arr.new wr 38 zeroDeed; rw [World.setRow_alloc_new]))
              obtain ⟨hA, hBW, hEW, hsW, hbd⟩ := HW.out
              obtain ⟨hds, hdc, hdo⟩ := hDs.out
              obtain ⟨W, hW⟩ : ∃ x, wr.alloc (.cells D.toArray 38) = x := ⟨_, rfl⟩
              rw [hW] at hA hBW hEW hsW cI
              rw [hW]
              clear hW cK HW
              obtain ⟨p10, hp10⟩ : ∃ p, wr.heap.size = p := ⟨_, rfl⟩
              rw [hp10] at hA hsW cI hbd ⊢
              have hnX : ∀ o : Obj, ¬ (fun (b : Nat) (_ : Obj) => b = B ∨ b = gs ∨ b = B2 ∨ b = gs2) p10 o := fun _ h => by rcases h with h | h | h | h <;> omega
              have hdsl : ds.length = 64 := by rw [← hds, List.length_map, hdo.1]
              have hldS : ∀ A, Keep (fun b _ => b = B ∨ b = gs ∨ b = B2 ∨ b = gs2) W A → (loadCellsFrom ⟨p10, 2, none⟩ 0 ds.length #[]).run Try.prog A = .ok ds.toArray A := fun A hk => by
                have h1 := (hA.keep hk (hnX (.cells D.toArray 38 (0, 0)))).loads_mid (P := Try.prog) (off := 2) (n := 64) (by rw [HDL.out]; decide)
                rw [hdc] at h1
                simp only [List.drop_succ_cons, List.drop_zero] at h1
                rw [List.take_of_length_le (by omega)] at h1
                rw [hdsl]; exact h1
              have hi64 := Lib.hid (show (Try.prog.info? 22).map (·.size) = some ds.length by rw [info_sec, hdsl])
              refine FY.wp_flow (X := fun b _ => b = B ∨ b = gs ∨ b = B2 ∨ b = gs2) (0 :: 1 :: 2 :: 3 :: 4 :: 6 :: 7 :: 8 :: 9 :: 10 :: 5 :: 11 :: 12 :: []) (fun n => if n = 5 ∨ n = 11 then .bar else .still) (by kernel_rfl) (by kernel_rfl) ?_
              have hDs2 : ∀ g : FY.At (fun b _ => b = B ∨ b = gs ∨ b = B2 ∨ b = gs2) W.drew, Keep (fun b _ => b = B ∨ b = gs ∨ b = B2 ∨ b = gs2) W g.w := fun g => ((Keep.refl _ W).drew).trans g.ext
              have sI := fun g => (hDs2 g).cell cI (fun o _ _ h => hnX o h)
              iterate 4 (refine FY.flow_q rfl rfl rfl ?_; go_big_quiet_step (fail); refine wpQuiet_nil ?_)
              refine FY.flow_vq (v := .agg ds.toArray) rfl rfl rfl (fun w' hE => exec_load_mid rfl (p := ⟨p10, 2, none⟩) rfl (hldS _ (((Keep.refl _ W).drew).trans hE)) Try.underlying22 rfl hi64.out) ?_
              simp only [Act.put, List.setIfInBounds_toArray, List.set_cons_succ, List.set_cons_zero]
              iterate 4 (refine FY.flow_q rfl rfl rfl ?_; go_big_quiet_step (fail); refine wpQuiet_nil ?_)
              refine FY.flow_vq (v := .agg ds.toArray) rfl rfl rfl (fun w' hE => exec_load_mid rfl (p := ⟨p10, 2, none⟩) rfl (hldS _ (((Keep.refl _ W).drew).trans hE)) Try.underlying22 rfl hi64.out) ?_
              simp only [Act.put, List.setIfInBounds_toArray, List.set_cons_succ, List.set_cons_zero]
              refine FY.flow_bvs rfl rfl rfl (by simp) (by kernel_rfl) (fun w5 hE5 _ => ?_)
              have hX5 : Ext W w5 := ((Keep.refl _ W).drew).trans hE5
              have hcall := dwrite_any (hBW.p.ext hX5) d.i d.s hdo.1 (by omega)
              unfold aggB at hcall
              rw [hds] at hcall
              go_wp2_with fail
              refine hcall.mono ?_
              rintro e w6 ⟨rfl, hP6, hK6⟩
              clear hcall
              go_wp2
              refine ⟨hK6.mono (fun b o _ hx => by rcases hx.2 with h | h; exact .inl h; exact .inr (.inl h)), ?_⟩
              have hR6 := (hBW.ext hX5).first hK6 (fun k o h => h.2)
              refine FY.flow_bvs rfl rfl rfl (by simp) (by kernel_rfl) (fun w7 hE7 _ => ?_)
              have hcall := refWrite_any (hR6.ext hE7) d.i d.s hdo.1 (by omega)
              unfold aggB at hcall
              rw [hds] at hcall
              go_wp2_with fail
              refine hcall.mono ?_
              rintro e w8 ⟨rfl, hR8, hK8⟩
              clear hcall
              go_wp2
              refine ⟨hK8.mono (fun b o _ hx => by rcases hx.2 with h | h; exact .inr (.inr (.inl h)); exact .inr (.inr (.inr h))), ?_⟩
              have hB8 := hBW.second (s' := s.write d.i d.s) (fun h => by rw [(write_cr s d.i d.s).1] at h; exact h) (hP6.ext hE7) hK8 (fun k o h => h.2) hR8
              have hE8 : Ext w w8 := ((((Keep.of_ext (X := fun b _ => w.heap.size ≤ b) (hEW.trans hX5)).trans (hK6.mono (fun b o _ hx => by have := hBW.b1; have := hBW.b2; rcases hx.2 with h | h <;> (show w.heap.size ≤ b; omega)))).trans (Keep.of_ext hE7)).trans (hK8.mono (fun b o _ hx => by have := hBW.b3; have := hBW.b4; rcases hx.2 with h | h <;> (show w.heap.size ≤ b; omega)))).mono (fun b o ho hx => by have := Keep.lt ho; omega)
              refine FY.flow_q rfl rfl rfl ?_; go_big_quiet_step (fail); refine wpQuiet_nil ?_
              refine FY.flow_end (fun w9 hE9 _ => ?_)
              have hB9 := hB8.ext hE9
              have hE10 := hE8.trans hE9
              have hwr9 : (s.write d.i d.s).wr ≤ k + 1 := by have := (write_cr s d.i d.s).2; omega
              obtain ⟨s9, hs9⟩ : ∃ x, s.write d.i d.s = x := ⟨_, rfl⟩
              rw [hs9] at hB9 hwr9
              clear hs9 hB8 hE8 hE9 hK8 hR8 hP6 hK6 hR6 hE7 hX5 hE5 sI hldS hA hBW hEW hDs hds hdc hdo hDs2 hnX cI hbd hsW
              go_wp2
            case' neg =>
              have hb0 : (dk == 0) = false := by simpa using hk0
              by_cases hk1 : dk = 1
              case' pos =>
                subst hk1
                go_wp2_with (first | (refine wpList_load_cells ?_ 38 (.tmp 39) ?_ ⟨b, off + k * 66, none⟩ ?_ D _ ?_ Try.underlying38 rfl hiD.out ?_; rfl; rfl; rfl; exact HLD.out) | (refine wpList_store_row ?_ 38 (.tmp 10) (.tmp 40) ?_ wr.heap.size D.toArray ?_ ?_ 38 zeroDeed.toArray ?_ hiD.out hzD.out HD1.out ?_; rfl; rfl; rfl; rfl; exact Arr.new wr 38 zeroDeed; rw [World.setRow_alloc_new]))
                obtain ⟨hA, hBW, hEW, hsW, hbd⟩ := HW.out
                obtain ⟨W, hW⟩ : ∃ x, wr.alloc (.cells D.toArray 38) = x := ⟨_, rfl⟩
                rw [hW] at hA hBW hEW hsW cI
                rw [hW]
                clear hW cK HW
                have hxl : (s.read d.i).length = 64 := by
                  unfold DSt.read
                  split
                  · rename_i h
                    obtain ⟨_, k, he, hk⟩ := may_zero h
                    rw [he]
                    exact sector_length hBW.p.len hk
                  · rfl
                have hr1 := dread_any hBW.p d.i
                have hr2 := fun A (h : Ext W A) => refRead_any (hBW.r.ext h) d.i
                obtain ⟨X, hX⟩ : ∃ x, s.read d.i = x := ⟨_, rfl⟩
                rw [hX] at hxl hr1
                simp only [hX] at hr2
                unfold aggB at hr1 hr2
                have hyc := bytes_cells X hxl
                have hy1 := all_one X
                have hiY := Lib.hid (show (Try.prog.info? 22).map (·.size) = some (X.map u8v).toArray.size by rw [info_sec]; simp [hxl])
                have hzY := Lib.hid (show (List.replicate 64 (Value.int .u8 0)).toArray.size = (X.map u8v).toArray.size by simp [hxl])
                obtain ⟨cY, hcY⟩ : ∃ c, (X.map u8v).toArray = c := ⟨_, rfl⟩
                rw [hcY] at hr1 hyc hy1 hiY hzY
                simp only [hcY] at hr2
                have heq := fun w => run_neq_arr (P := Try.prog) (w := w) cY Try.underlying22 Try.underlying5 size_u8 hyc
                have HY1 := Lib.hid hy1
                have HBW := Lib.hid hBW
                have HEW := Lib.hid hEW
                obtain ⟨m, hm⟩ : ∃ m, s.may d.i = m := ⟨_, rfl⟩
                rw [hm] at hr1
                simp only [hm] at hr2
                clear hcY hyc hy1 hX hxl hBW hEW hm
                refine hr1.mono ?_
                rintro e w5 ⟨rfl, e5⟩
                have eB : Ext w5 (w5.alloc (.cells cY 22)) := (Keep.refl _ w5).alloc _
                have hP11 := World.alloc_heap_new w5 (.cells cY 22)
                have cI5 := (e5.trans eB).cell cI
                have hr3 := hr2 _ (e5.trans eB)
                have HE5 := Lib.hid (e5.trans eB)
                clear hr1 hr2 eB e5 cI
                go_wp2_with (refine wpList_store_row ?_ 22 (.tmp 11) (.tmp 69) ?_ w5.heap.size cY ?_ ?_ 22 (List.replicate 64 (Value.int IntKind.u8 0)).toArray ?_ hiY.out hzY.out HY1.out ?_; rfl; rfl; rfl; rfl; exact Arr.new w5 22 (List.replicate 64 (.int .u8 0)); rw [World.setRow_alloc_new])
                refine hr3.mono ?_
                rintro e w6 ⟨rfl, e6⟩
                obtain ⟨p11, hp11⟩ : ∃ p, w5.heap.size = p := ⟨_, rfl⟩
                rw [hp11] at hP11 ⊢
                have eC : Ext w6 (w6.alloc (.cells cY 22)) := (Keep.refl _ w6).alloc _
                have b11 := (e6.trans eC).block _ _ hP11 (fun h => h)
                have hB9 := (HBW.out).ext ((HE5.out.trans e6).trans eC)
                have hE10 := (HEW.out).trans ((HE5.out.trans e6).trans eC)
                have HB9 := Lib.hid hB9
                have HE10 := Lib.hid hE10
                clear hr3 hP11 hp11 e6 eC cI5 hB9 hE10
                go_wp2_with (first | (refine wpList_store_row ?_ 22 (.tmp 13) (.tmp 76) ?_ w6.heap.size cY ?_ ?_ 22 (List.replicate 64 (Value.int IntKind.u8 0)).toArray ?_ hiY.out hzY.out HY1.out ?_; rfl; rfl; rfl; rfl; exact Arr.new w6 22 (List.replicate 64 (.int .u8 0)); rw [World.setRow_alloc_new]) | (refine wpList_load_g 22 (.tmp 11) p11 22 cY ?_ ?_ ?_ ?_ Try.underlying22 rfl hiY.out ?_; rfl; rfl; rfl; exact b11) | (refine wpList_load_g 22 (.tmp 13) w6.heap.size 22 cY ?_ ?_ ?_ ?_ Try.underlying22 rfl hiY.out ?_; rfl; rfl; rfl; exact (World.alloc_heap_new _ _)))
                have hB9 := HB9.out
                have hE10 := HE10.out
                obtain ⟨w9, hw9⟩ : ∃ x, w6.alloc (.cells cY 22) = x := ⟨_, rfl⟩
                rw [hw9] at hB9 hE10 ⊢
                obtain ⟨s9, hs9⟩ : ∃ x, s = x := ⟨_, rfl⟩
                have hwr9 : s.wr ≤ k + 1 := by omega
                rw [hs9] at hB9 hwr9
                clear hw9 hs9 b11 HBW HE5 HEW HB9 HE10 heq hDs hA
              case' neg =>
                have hb1 : (dk == 1) = false := by simpa using hk1
                go_wp2_with (first | (refine wpList_load_cells ?_ 38 (.tmp 39) ?_ ⟨b, off + k * 66, none⟩ ?_ D _ ?_ Try.underlying38 rfl hiD.out ?_; rfl; rfl; rfl; exact HLD.out) | (refine wpList_store_row ?_ 38 (.tmp 10) (.tmp 40) ?_ wr.heap.size D.toArray ?_ ?_ 38 zeroDeed.toArray ?_ hiD.out hzD.out HD1.out ?_; rfl; rfl; rfl; rfl; exact Arr.new wr 38 zeroDeed; rw [World.setRow_alloc_new]))
                obtain ⟨hA, hBW, hEW, hsW, hbd⟩ := HW.out
                obtain ⟨W, hW⟩ : ∃ x, wr.alloc (.cells D.toArray 38) = x := ⟨_, rfl⟩
                rw [hW] at hA hBW hEW hsW cI
                rw [hW]
                clear hW cK HW
                refine (dstart_any hBW.p).mono ?_
                rintro e w5 ⟨⟨v5, rfl⟩, hP6, hK6⟩
                have hR6 := hBW.first hK6 (fun k o h => .inl h)
                go_wp2_with fail
                refine (refStart_any hR6).mono ?_
                rintro e w9 ⟨⟨v6, rfl⟩, hR8, hK8⟩
                have hB9 := hBW.second (s' := s.start) (fun h => by rw [(start_cr s).1] at h; simp at h; omega) hP6 hK8 (fun k o h => .inl h) hR8
                have hE10 : Ext w w9 := (((Keep.of_ext (X := fun b _ => w.heap.size ≤ b) hEW).trans (hK6.mono (fun b o _ hx => by have := hBW.b1; show w.heap.size ≤ b; omega))).trans (hK8.mono (fun b o _ hx => by have := hBW.b3; show w.heap.size ≤ b; omega))).mono (fun b o ho hx => by have := Keep.lt ho; omega)
                have hwr9 : s.start.wr ≤ k + 1 := by rw [(start_cr s).2]; omega
                obtain ⟨s9, hs9⟩ : ∃ x, s.start = x := ⟨_, rfl⟩
                rw [hs9] at hB9 hwr9
                clear hs9 hP6 hK6 hR6 hR8 hK8 hBW hEW hA hDs cI hb1
                go_wp2
            all_goals
              have hwc := dwrites_any (w := w9) (B := B) (gs := gs) (gc := gc) (s := s9) hB9.p
              have hdc : ∀ A, Ext w9 A → Calls Try.prog 9 #[.pointer (some ⟨B, 0, none⟩)] A fun e w' => e = .returned (.bool (!s9.pw)) ∧ Ext A w' := fun A h => dead_any (hB9.p.ext h)
              have hwc2 : ∀ A, Ext w9 A → Calls Try.prog 16 #[.pointer (some ⟨B, 0, none⟩)] A fun e w' => e = .returned (.int .i64 (s9.wr : Int)) ∧ Ext A w' := fun A h => dwrites_any (hB9.p.ext h)
              obtain ⟨ac, cc, cap, tl, e1, _⟩ := hB9.r.ex
              have c2' := e1.cell (i := 2) rfl
              have c3' := e1.cell (i := 3) rfl
              obtain ⟨fl, hfl⟩ : ∃ x, (!s9.pw) = x := ⟨_, rfl⟩
              rw [hfl] at c3'
              simp only [hfl] at hdc
              have hDD : ∀ g : At w9.drew, Ext w9 g.w := fun g => ((Keep.refl _ w9).drew).trans g.ext
              have d2 := fun g => (hDD g).cell c2'
              have d3 := fun g => (hDD g).cell c3'
              clear hwc e1 hfl
              refine wp_flow (fun n => if n = 1 then .grows (Is (.int .i64 (s9.wr : Int))) (IsSh (.int .i64 (s9.wr : Int))) else if n = 9 then .grows (Is (.bool fl)) (IsSh (.bool fl)) else .reads) (by kernel_rfl) (by kernel_rfl) ?_
              refine flow_r rfl rfl ?_; go_big_quiet_step (fail); refine wpQuiet_nil ?_
              refine flow_g rfl rfl (by simp) ⟨_, rfl⟩ (fun _ _ _ h hE => h) (fun _ _ h => h) (fun w5 hE5 _ => ?_) (fun v hv => ?_)
              · go_wp2_with fail
                refine (hwc2 w5 (((Keep.refl _ w9).drew).trans hE5)).mono ?_
                rintro e w6 ⟨rfl, hE6⟩
                go_wp2
                exact rfl
              cases hv
              simp only [Act.put, List.setIfInBounds_toArray, List.set_cons_succ, List.set_cons_zero]
              iterate 7 (refine flow_r rfl rfl ?_; go_big_quiet_step (fail); refine wpQuiet_nil ?_)
              refine flow_g rfl rfl (by simp) ⟨_, rfl⟩ (fun _ _ _ h hE => h) (fun _ _ h => h) (fun w5 hE5 _ => ?_) (fun v hv => ?_)
              · go_wp2_with fail
                refine (hdc w5 (((Keep.refl _ w9).drew).trans hE5)).mono ?_
                rintro e w6 ⟨rfl, hE6⟩
                go_wp2
                exact rfl
              cases hv
              simp only [Act.put, List.setIfInBounds_toArray, List.set_cons_succ, List.set_cons_zero]
              iterate 6 (refine flow_r rfl rfl ?_; go_big_quiet_step (fail); refine wpQuiet_nil ?_)
              refine flow_end (fun wf hEf _ => ?_)
              have hXf : Ext w9 wf := ((Keep.refl _ w9).drew).trans hEf
              have hBf := hB9.ext hXf
              have hEff := hE10.trans hXf
              clear hwc2 hdc d2 d3 hDD c2' c3' hB9 hE10 hEf hXf
              go_wp2
              go_roundw
              case rel => exact ⟨k + 1, s9, by omega, by go_num, hwr9, hBf, hEff⟩
              case measure => simp [intOf]; omega
          · obtain rfl : k = n2 := by omega
            have hlc : ∀ A, Ext wr A → Calls Try.prog 17 #[.pointer (some ⟨B, 0, none⟩)] A fun e w' => e = .returned (.int .i64 (s.n : Int)) ∧ Ext A w' := fun A h => dlen_any (hB.p.ext h)
            have hac : ∀ A, Ext wr A → Calls Try.prog 18 #[.pointer (some ⟨B, 0, none⟩), .pointer (some ⟨B2, 0, none⟩)] A fun e w' => e = .returned (.bool true) ∧ Ext A w' := fun A h => alike_any (hB.p.ext h) (hB.r.ext h)
            obtain ⟨ac, cc, cap, tl, e1, _⟩ := hB.r.ex
            have c0' := e1.cell (i := 0) rfl
            have hDD : ∀ g : At wr.drew, Ext wr g.w := fun g => ((Keep.refl _ wr).drew).trans g.ext
            have d0 := fun g => (hDD g).cell c0'
            clear e1 hB
            go_wp2
            refine wp_flow (fun n => if n = 1 then .grows (Is (.int .i64 (s.n : Int))) (IsSh (.int .i64 (s.n : Int))) else if n = 11 then .grows (Is (.bool true)) (IsSh (.bool true)) else .reads) (by kernel_rfl) (by kernel_rfl) ?_
            refine flow_r rfl rfl ?_; go_big_quiet_step (fail); refine wpQuiet_nil ?_
            refine flow_g rfl rfl (by simp) ⟨_, rfl⟩ (fun _ _ _ h hE => h) (fun _ _ h => h) (fun w5 hE5 _ => ?_) (fun v hv => ?_)
            · go_wp2_with fail
              refine (hlc w5 (((Keep.refl _ wr).drew).trans hE5)).mono ?_
              rintro e w6 ⟨rfl, hE6⟩
              go_wp2
              exact rfl
            cases hv
            simp only [Act.put, List.setIfInBounds_toArray, List.set_cons_succ, List.set_cons_zero]
            iterate 9 (refine flow_r rfl rfl ?_; go_big_quiet_step (fail); refine wpQuiet_nil ?_)
            refine flow_g rfl rfl (by simp) ⟨_, rfl⟩ (fun _ _ _ h hE => h) (fun _ _ h => h) (fun w5 hE5 _ => ?_) (fun v hv => ?_)
            · go_wp2_with fail
              refine (hac w5 (((Keep.refl _ wr).drew).trans hE5)).mono ?_
              rintro e w6 ⟨rfl, hE6⟩
              go_wp2
              exact rfl
            cases hv
            simp only [Act.put, List.setIfInBounds_toArray, List.set_cons_succ, List.set_cons_zero]
            iterate 2 (refine flow_r rfl rfl ?_; go_big_quiet_step (fail); refine wpQuiet_nil ?_)
            refine flow_end (fun wf hEf _ => ?_)
            have hEff := hE.trans (((Keep.refl _ wr).drew).trans hEf)
            clear hlc hac d0 hDD c0' hEf
            go_wp2
            exact ⟨rfl, hEff⟩
end Go.Proofs.Ythbffmdfdbfioaa
