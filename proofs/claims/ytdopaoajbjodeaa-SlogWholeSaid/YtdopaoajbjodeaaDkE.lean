/-
  disk.Disk: Start; slices.Clone, New.
-/
import Derived.Test.YtdopaoajbjodeaaDkD
namespace Go.Proofs.Ytdopaoajbjodeaa
open Go.RowKit Go.Shelf

attribute [local go_sem] Oper.semAt_some

theorem crC_tail (l : List (Int × Int)) : crC l.tail = (crC l).drop 2 := by
  cases l with
  | nil => rfl
  | cons p t => rfl
theorem slice_cr (a : Option Addr) (n c : Nat) (hn : 0 < n) (w : World) : (Instr.sliceAt 56 (.slice a n c) (some (.int .i64 1)) none none).run Try.prog w = .ok (.slice (if c = 1 then a else a.map (·.add 2)) (n - 1) (c - 1)) w := by
  simp [Instr.sliceAt, Instr.slice, Instr.sliceBounds, Instr.sliceBound, Result.andThen, asIntOf, show (1 : Int) ≤ (n : Int) by omega]

set_option maxRecDepth 20000 in
set_option maxHeartbeats 1000000 in
theorem dstart_any {w : World} {B gs gc : Nat} {s : DSt} (h : PD w B gs gc s) : Calls Try.prog 24 #[.pointer (some ⟨B, 0, none⟩)] w fun e w' =>
    (∃ v, e = .returned v) ∧ PD w' B gs gc s.start ∧ Keep (fun k _ => k = B) w w' := by
  obtain ⟨ac, cc, cap, tl, e1, e2, e3, e4, e5, e6⟩ := h.ex
  have c0 := e1.cell (i := 0) rfl
  have c2 := e1.cell (i := 2) rfl
  have c3 := e1.cell (i := 3) rfl
  have f2 := e1.frozen 2
  have f3 := e1.frozen 3
  have k1 : Keep (fun k _ => k = B) w (w.setCell ⟨B, 3, none⟩ (.bool true)) := keep_setCell w B 3 _
  have k2 : Keep (fun k _ => k = B) w ((w.setCell ⟨B, 3, none⟩ (.bool true)).setCell ⟨B, 2, none⟩ (.int .i64 0)) := k1.trans (keep_setCell _ B 2 _)
  have a2 := (e1.set 3 (.bool true)).set 2 (.int .i64 0)
  simp only [List.set_cons_succ, List.set_cons_zero] at a2
  have d1 := a2.cell (i := 1) rfl
  have g1 := a2.frozen 1
  have hst : s.start = { s with pw := true, wr := 0, cr := s.cr.tail } := rfl
  rw [hst]
  refine calls_cps fun R hR => ?_
  have heq := fun w => Lib.run_eql_slice_nil (P := Try.prog) w 63 60 (some ⟨gs, 0, none⟩) s.n cap 0 0 Try.underlying63
  simp only [Option.isNone_some] at heq
  have H := Lib.hid h
  have HA := Lib.hid a2
  clear e1 h a2 hst
  go_enter Try.func24, Try.ntmps24
  by_cases hcr : s.cr.length = 0
  · have hcn : s.cr = [] := List.eq_nil_of_length_eq_zero hcr
    rw [hcn] at hR
    rw [hcn] at d1
    simp only [List.length_nil] at d1
    clear hcr
    go_wp2
    refine bodyPost_end (results_none rfl _ _ _) rfl (hR _ _ ⟨⟨_, rfl⟩, ?_, k2⟩)
    have h := H.out
    have h0 := h.lt
    exact ⟨⟨ac, cc, cap, tl, by have := HA.out; rw [hcn] at this; exact this, by rw [hcn] at e2; exact ⟨e2.1, e2.2.1, e2.2.2.1, e2.2.2.2.1, (fun h => by cases h)⟩, (fun p _ h => by cases h), fun hn => (e4 hn).keep k2 (fun h' => h.n1 h'.symm), e5, e6⟩, h.len, by simpa using h0, h.n1, (fun h => by cases h), (fun h => by cases h), h.big⟩
  · have hp : 0 < s.cr.length := by omega
    have hsl := slice_cr ac s.cr.length cc hp
    have hcut := e2.cut (lo := 1) (hi := s.cr.length) hp (Nat.le_refl _)
    rw [Nat.one_mul] at hcut
    have hbl : ∀ p, (if cc = 1 then ac else ac.map (·.add 2)) = some p → p.block = gc := by
      intro p hpq
      split at hpq
      · exact e3 p hpq hp
      · cases ac with
        | none => cases hpq
        | some p' =>
          have := e3 p' rfl hp
          simp only [Option.map_some, Option.some.injEq] at hpq
          rw [← hpq]
          unfold Addr.add
          split <;> exact this
    obtain ⟨a1, ha1⟩ : ∃ a1, (if cc = 1 then ac else ac.map (·.add 2)) = a1 := ⟨_, rfl⟩
    rw [ha1] at hsl hcut hbl
    have HBL := Lib.hid hbl
    clear ha1 hbl
    go_wp2
    refine bodyPost_end (results_none rfl _ _ _) rfl (hR _ _ ⟨⟨_, rfl⟩, ?_, k2.trans (keep_setCell _ B 1 _)⟩)
    have h := H.out
    have h0 := h.lt
    have k3 := k2.trans (keep_setCell _ B 1 (.slice a1 (s.cr.length - 1) (cc - 1)))
    have hlt : s.cr.tail.length = s.cr.length - 1 := by simp
    have hrow : Row 2 w a1 (s.cr.length - 1) (cc - 1) (crC s.cr.tail) := by
      rw [crC_tail]
      rwa [List.take_of_length_le (by rw [List.length_drop, crC_length]; omega)] at hcut
    refine ⟨⟨a1, cc - 1, cap, tl, by have := (HA.out).set 1 (.slice a1 (s.cr.length - 1) (cc - 1)); rw [hlt]; exact this, ?_, fun p hp' _ => HBL.out p hp', fun hn => (e4 hn).keep k3 (fun h' => h.n1 h'.symm), e5, e6⟩, h.len, by simpa using h0, h.n1, fun _ => h.n2 hp, fun _ => h.n3 hp, h.big⟩
    rw [hlt]
    exact hrow.keep k3 (fun p o hp' _ _ => by show ¬ p.block = B; rw [HBL.out p hp']; exact h.n2 hp)

theorem info_crash : (Try.prog.info? 36).map (fun i => (i.zero, i.size, i.bytes)) = some (some (.agg #[.int .i64 0, .int .i64 0]), 2, 16) := by kernel_rfl
def CrCopy (w : World) (n : Nat) (cr : List (Int × Int)) (e : Ending) (w' : World) : Prop := ∃ v, e = .returned v ∧ w'.ownsRow w.heap.size 36 2 v n (crC cr) ∧ Ext w w'
set_option maxRecDepth 20000 in
set_option maxHeartbeats 1000000 in
theorem cloneCr_any (a : Option Addr) (n c : Nat) (cr : List (Int × Int)) (w : World) (h : Row 2 w a n c (crC cr)) (hn : n ≤ 1000000) :
    Calls Try.prog 27 #[.slice a n c] w (CrCopy w n cr) := by
  refine calls_cps fun R hR => ?_
  have heq := fun w => Lib.run_eql_slice_nil (P := Try.prog) w 56 36 a n c 0 0 Try.underlying56
  go_enter Try.func27, Try.ntmps27
  cases a with
  | none =>
    simp only [Option.isNone_none] at heq
    have hc0 : c = 0 := h.2.2.2.1 rfl
    have hn0 : n = 0 := by have := h.1; omega
    subst hn0
    have H := Lib.hid h
    clear h hc0
    go_wp2
    exact ⟨_, rfl, ⟨by simpa using (H.out).2.2.1, .inl ⟨rfl, rfl⟩⟩, Keep.refl _ _⟩
  | some p =>
    simp only [Option.isNone_some] at heq
    have hown0 := World.ownsRow_lit (base := w.heap.size) (e := 36) (size := 2) w #[] 0 (Nat.le_refl _) (by simp [maxLen]) rfl
    have eA : Ext w (w.alloc (.cells #[] 36)) := (Keep.refl _ w).alloc _
    obtain ⟨v', w', hrun, hown', hgrow, _⟩ := run_append_row (w.alloc (.cells #[] 36)) w.heap.size 56 56 36 _ 2 16 Try.underlying56 info_crash rfl (by decide) hown0 (h.ext eA) (crC_one cr) (by unfold maxLen; omega) (by omega) (by simp)
    rw [Nat.zero_add] at hown'
    obtain ⟨a2, c2, rfl, hr2⟩ := owns_row hown'
    have hE : Ext w w' := Keep.grown eA hgrow (fun k o hk ho => by cases hk; have := Keep.lt ho; simp at this)
    have Hrun := Lib.hid hrun
    have HB := Lib.hid hown'
    clear hrun hown0 hown' h hr2
    go_wp2_with (at_builtin; go_must (refine wpList_append_run Hrun.out rfl rfl rfl rfl ?_))
    exact ⟨_, rfl, HB.out, hE⟩

theorem madeCells_replicate (x : Value) (s m : Nat) (hs : 0 < s) : madeCells (List.replicate s x).toArray m = (List.replicate m x).toArray := by
  apply Array.ext
  · simp [madeCells]
  · intro i h1 h2
    have hlt : i % s < s := Nat.mod_lt _ hs
    simp [madeCells, hlt]
/-- make of elements of s cells that are alike: the new world outright. -/
theorem wpList_make_many {P : Program} {w : World} {ops : Array Oper} {rest : List Oper} {o : Oper} {a : Act} {Q : Exit → Act → World → Prop}
    (hg : o.guard = none) (l c : Operand) (t : TypeId) (hop : o.op = Op.makeSlice t l c) (e : TypeId) (i : TypeInfo) (x : Value) (s : Nat) (hs : 0 < s) (h1 : P.underlying t = some (.slice e)) (h2 : P.info? e = some i) (h3 : i.zero = some (.agg (List.replicate s x).toArray)) (h4 : i.size = s)
    (kl kc : IntKind) (L C : Int) (n : Nat) (hl : a.eval l = .int kl L) (hc : a.eval c = .int kc C) (hL : L = (n : Int)) (hC : C = (n : Int)) (b2 : i.bytes * n ≤ 281474976710656) (b3 : n ≤ maxLen)
    (hK : wpList P ops Q rest (a.put o.dst (.slice (some ⟨w.heap.size, 0, none⟩) n n)) (w.alloc (.cells (List.replicate (n * s) x).toArray e))) :
    wpList P ops Q (o :: rest) a w := by
  refine wpList_plain hg fun K hK' => ?_
  have hr := run_make (P := P) (w := w) t e i _ h1 h2 h3 kl kc n n (by omega) (Int.le_refl _) (by
    have h : ((i.bytes * n : Nat) : Int) ≤ 281474976710656 := by omega
    rwa [Int.natCast_mul] at h) (by
    have h := b3
    simp [maxLen] at h
    omega)
  simp only [Int.toNat_natCast] at hr
  rw [h4, show (Value.agg (List.replicate s x).toArray).cells = (List.replicate s x).toArray from rfl, madeCells_replicate x s _ hs] at hr
  subst hL
  subst hC
  unfold Oper.wp
  simp [execOp, hop, hl, hc, hr, Result.andThen]
  exact hK' _ _ hK
end Go.Proofs.Ytdopaoajbjodeaa
