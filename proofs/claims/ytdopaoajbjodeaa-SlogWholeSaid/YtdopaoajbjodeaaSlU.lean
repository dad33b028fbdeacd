/-
  SlogWhole: its walk.
-/
import Derived.Test.YtdopaoajbjodeaaSlT
import Derived.Test.YtdopaoajbjodeaaSlO
import Derived.Test.YtdopaoajbjodeaaSlP
import Derived.Test.YtdopaoajbjodeaaSlS
namespace Go.Proofs.Ytdopaoajbjodeaa
open Go.RowKit Go.Shelf

attribute [local go_sem] Oper.semAt_some

theorem info_bytes2 : (Try.prog.info? 25).map (fun i => (i.zero, i.size, i.bytes)) = some (some (.slice none 0 0), 1, 24) := by kernel_rfl

/-- The values dvs are slices that lay in w with the texts done. -/
def DoneIn (w : World) (dvs : List Value) (done : List (List UInt8)) : Prop :=
  dvs.length = done.length ∧ ∀ (i : Nat) (l : List UInt8), done[i]? = some l → ∃ a c, dvs[i]? = some (.slice a l.length c) ∧ Row 1 w a l.length c (l.map u8v)
theorem DoneIn.snoc {w : World} {dvs : List Value} {done : List (List UInt8)} (h : DoneIn w dvs done) {a : Option Addr} {l : List UInt8} {c : Nat} (hr : Row 1 w a l.length c (l.map u8v)) : DoneIn w (dvs ++ [.slice a l.length c]) (done ++ [l]) := by
  refine ⟨by rw [List.length_append, List.length_append, h.1]; rfl, fun i l' hi => ?_⟩
  have hl := h.1
  by_cases hlt : i < done.length
  · rw [List.getElem?_append_left hlt] at hi
    rw [List.getElem?_append_left (by omega)]
    exact h.2 i l' hi
  · rw [List.getElem?_append_right (by omega)] at hi
    rw [List.getElem?_append_right (by omega), hl]
    cases hk : i - done.length with
    | zero => rw [hk] at hi; simp at hi; subst hi; exact ⟨a, c, rfl, hr⟩
    | succ k => rw [hk] at hi; simp at hi
theorem DoneIn.texts {w w' : World} {dvs : List Value} {done : List (List UInt8)} (h : DoneIn w dvs done) (hE : Ext w w') {a : Option Addr} {n c : Nat} (hr : Row 1 w' a n c dvs) : Texts w' a n c done := by
  refine ⟨dvs, hr, by have := hr.2.2.1; have := h.1; omega, fun i l hl => ?_⟩
  obtain ⟨a', c', h1, h2⟩ := h.2 i l hl
  exact ⟨a', c', h1, h2.ext hE⟩

/-- The program's log and disk, and a slice of the call's own, apart from each other. -/
structure One (base : Nat) (w : World) (B gs gc LB : Nat) (v dv : Value) (n : Nat) (dvs : List Value) (st : LSt) (d : DSt) : Prop where
  p : PD w B gs gc d
  pl : PL w LB B v st
  b : base ≤ B ∧ base ≤ gs ∧ base ≤ LB
  g : gc ≠ LB ∧ gc < w.heap.size
  o : ∀ k, v.ownBlock = some k → base ≤ k ∧ k ≠ gc ∧ k < w.heap.size
  own : w.ownsRow base 25 1 dv n dvs
  od : ∀ k, dv.ownBlock = some k → k ≠ B ∧ k ≠ gs ∧ k ≠ gc ∧ k ≠ LB ∧ k < w.heap.size
  vv : ∀ k, v.ownBlock = some k → dv.ownBlock ≠ some k
section
variable {base : Nat} {w w' : World} {B gs gc LB : Nat} {v dv : Value} {n : Nat} {dvs : List Value} {st : LSt} {d : DSt} {l : List UInt8}
theorem One.append (h : One base w B gs gc LB v dv n dvs st d) {e : Ending} (hq : AppQ 33 66 [.bool true] (fun w d => PD w B gs gc d) w LB B gs v st l d e w') :
    ∃ v', e = .returned (.int .i64 (appL st l d).1) ∧ One base w' B gs gc LB v' dv n dvs (appL st l d).2.1 (appL st l d).2.2 ∧ Keep (fun k _ => base ≤ k) w w' := by
  obtain ⟨v', he, hd, hl, hk, hv⟩ := hq
  have hs := hk.size
  have lB := h.p.lts.1
  have bw : base ≤ w.heap.size := Nat.le_trans h.b.1 (Nat.le_of_lt lB)
  refine ⟨v', he, ⟨hd, hl, h.b, ⟨h.g.1, Nat.lt_of_lt_of_le h.g.2 hs⟩, fun k hk' => ?_, ?_, fun k hk' => ?_, fun k hk' h2 => ?_⟩, hk.mono (fun k o _ hx => appX_le h.b (fun k hk => (h.o k hk).1) hx)⟩
  · have hlt := hl.own_lt hk'
    rcases hv with hv | hv
    · have := h.o k (by rw [← hv]; exact hk')
      exact ⟨this.1, this.2.1, hlt⟩
    · have h1 := hv k hk'
      have h2 := h.g.2
      exact ⟨by omega, by omega, hlt⟩
  · exact hk.owns' h.own (fun k cur hk' => appX_not (h.od k hk').1 (h.od k hk').2.1 (h.od k hk').2.2.2.1 (fun hx => h.vv k hx hk'))
  · obtain ⟨a1, a2, a3, a4, a5⟩ := h.od k hk'
    exact ⟨a1, a2, a3, a4, Nat.lt_of_lt_of_le a5 hs⟩
  · rcases hv with hv | hv
    · exact h.vv k (by rw [← hv]; exact hk') h2
    · exact absurd (hv k hk') (Nat.not_le.2 (h.od k h2).2.2.2.2)
theorem One.ext (h : One base w B gs gc LB v dv n dvs st d) (hE : Ext w w') : One base w' B gs gc LB v dv n dvs st d := by
  have hs := hE.size
  refine ⟨h.p.ext hE, h.pl.ext hE, h.b, ⟨h.g.1, Nat.lt_of_lt_of_le h.g.2 hs⟩, fun k hk => ?_, hE.owns h.own, fun k hk => ?_, h.vv⟩
  · obtain ⟨a1, a2, a3⟩ := h.o k hk
    exact ⟨a1, a2, Nat.lt_of_lt_of_le a3 hs⟩
  · obtain ⟨a1, a2, a3, a4, a5⟩ := h.od k hk
    exact ⟨a1, a2, a3, a4, Nat.lt_of_lt_of_le a5 hs⟩
/-- append of one value to the slice of the call's own. -/
theorem One.push (h : One base w B gs gc LB v dv n dvs st d) {u : Value} (u1 : u.oneCell' = true) (hn : n ≤ 1000) {g c : Nat} (hs : Row 1 w (some ⟨g, 0, none⟩) 1 c [u]) (ty : TypeId) :
    ∃ dv' w', (Builtin.append_ #[31, 31] ty #[dv, .slice (some ⟨g, 0, none⟩) 1 c]).run Try.prog w = .ok dv' w' ∧ One base w' B gs gc LB v dv' (n + 1) (dvs ++ [u]) st d ∧ Keep (fun k _ => base ≤ k) w w' := by
  have lB := h.p.lts.1
  have lG := h.p.lts.2.1
  have lL := h.pl.cells.lt
  have bw : base ≤ w.heap.size := Nat.le_trans h.b.1 (Nat.le_of_lt lB)
  obtain ⟨i, hi, hz, hsz, hb⟩ := info_parts info_bytes2
  have hcell : ∀ j x, ([u] : List Value)[j]? = some x → w.cell? ((⟨g, 0, none⟩ : Addr).add j) = some x := fun j x hx => by rw [addr_add]; exact hs.cell rfl hx (by decide)
  obtain ⟨v', w', hrun, hown', hgrow, _, hblk⟩ := run_append_own_at (P := Try.prog) w base 31 ty 25 i _ 1 24 Try.underlying31 hi hz hsz hb rfl (by decide) dv _ dvs h.own ⟨g, 0, none⟩ 1 c [u] rfl hcell (by simpa using u1) (by unfold maxLen; omega) (by omega) bw
  have hK : Keep (fun k o => dv.ownBlock = some k ∧ ∃ cur, o = .cells cur 25 (0, 0)) w w' := Keep.of_grownBy hgrow (fun k o hk ho => by
    rcases h.own.2 with ⟨rfl, _⟩ | ⟨g', cap, cur, rfl, hb, hgb, _⟩
    · simp [Value.ownBlock] at hk
    · obtain rfl : g' = k := by simpa [Value.ownBlock] using hk
      rw [hgb] at ho; cases ho; exact ⟨rfl, _, rfl⟩)
  have hsz' := hK.size
  refine ⟨v', w', hrun, ⟨h.p.keep hK (fun o hx => (h.od _ hx.1).1 rfl) (fun _ o hx => (h.od _ hx.1).2.1 rfl) (fun _ o hx => (h.od _ hx.1).2.2.1 rfl),
    h.pl.keep hK (fun cur hx => (h.od _ hx.1).2.2.2.1 rfl) (fun k cur hk hx => h.vv k hk hx.1) (fun k cur hx => by obtain ⟨_, _, hx⟩ := hx; cases hx), h.b, ⟨h.g.1, Nat.lt_of_lt_of_le h.g.2 hsz'⟩, fun k hk => ?_, hown', fun k hk => ?_, fun k hk h2 => ?_⟩, hK.mono (fun k o _ hx => (h.own.lt k hx.1).1)⟩
  · obtain ⟨a1, a2, a3⟩ := h.o k hk
    exact ⟨a1, a2, Nat.lt_of_lt_of_le a3 hsz'⟩
  · have hlt := (hown'.lt k hk).2
    rcases hblk with hb | hb
    · obtain ⟨a1, a2, a3, a4, _⟩ := h.od k (by rw [← hb]; exact hk)
      exact ⟨a1, a2, a3, a4, hlt⟩
    · rw [hb] at hk
      cases hk
      have := h.g.2
      exact ⟨by omega, by omega, by omega, by omega, hlt⟩
  · rcases hblk with hb | hb
    · exact h.vv k hk (by rw [← hb]; exact h2)
    · rw [hb] at h2
      cases h2
      have := (h.o _ hk).2.2
      omega
end

theorem fmt_zero {s : DSt} (h : fmtE s 0 60 = 0) (hF : s.F.length = s.n * 64) (hp : s.pw = true) (hn : s.n = 60) : (fmtS s 0 60).sector 0 = zeros 64 ∧ (fmtS s 0 60).F.length = (fmtS s 0 60).n * 64 := by
  obtain ⟨h1, _, h3, _, _⟩ := fmt_ok h
  have he : fmtS s 0 60 = s.write ((0 : Nat) : Int) (zeros 64) := by unfold fmtS; rw [h1]; rfl
  rw [he] at h3 ⊢
  have hz : (zeros 64).length = 64 := rfl
  refine ⟨?_, by rw [write_len hF _ _ hz, h3]⟩
  rw [write_sector hF hp hz (by omega) (by omega), if_pos rfl]
  unfold fmtE at h
  rw [h1] at h
  simp only [if_true] at h
  rcases write_live hp (p := 0) (by omega) with h2 | h2
  · rw [h2.1]; rfl
  · rw [show ((0 : Nat) : Int) = 0 from rfl, h] at h2; exact absurd h2.2 (by decide)

/-- append, guarded or not, its run known. -/
theorem wpList_append_g {P : Program} {w w' : World} {ops : Array Oper} {rest : List Oper} {o : Oper} {a : Act} {Q : Exit → Act → World → Prop} {s x : Operand} {t1 t2 : TypeId} {v xv v' : Value}
    (hrun : (Builtin.append_ #[t1, t2] o.type #[v, xv]).run P w = .ok v' w') (hw : Region.wanted o (yielded ops a.tmps) = true)
    (ho : o.op = .call { callee := .builtin .append, args := #[s, x], argTypes := #[t1, t2] }) (hs : a.eval s = v) (hx : a.eval x = xv)
    (h : wpList P ops Q rest (a.put o.dst v') w') : wpList P ops Q (o :: rest) a w :=
  wpList_step fun K hK => by
    rw [if_pos hw]
    unfold Oper.wp
    simp [execOp, ho, resolve, invoke, builtin, hs, hx, hrun, Result.andThen]
    exact hK _ _ h

set_option maxRecDepth 20000 in
set_option maxHeartbeats 8000000 in
theorem slogWhole_any (ab : Option Addr) (mb cb : Nat) (bl : List UInt8) (gen : UInt32) (a : Option Addr) (m c : Nat) (ls : List (List UInt8)) (af ke : Int) (w : World) (hrb : Row 1 w ab mb cb (bl.map u8v)) (ht : Texts w a m c ls) :
    Calls Try.prog 7 #[.slice ab mb cb, .int .u32 (gen.toNat : Int), .slice a m c, .agg #[.int .i64 af, .int .i64 ke]] w fun e w' => e = .returned (.bool true) ∧ Ext w w' := by
  have hmcb := hrb.1
  have hmxb := hrb.2.1
  unfold maxLen at hmxb
  have HBL : Hid (bl.length = mb) := Lib.hid (by have := hrb.2.2.1; simpa using this)
  refine calls_cps fun R hR => ?_
  go_enter Try.func7, Try.ntmps7
  go_wp2_with fail
  refine (awake14_any _).mono ?_
  rintro e w1 ⟨rfl, e1⟩
  replace e1 : Ext (w.alloc (.cells #[.int .i64 af, .int .i64 ke] 36)) w1 := e1
  have bX : w1.heap[w.heap.size]? = some (.cells #[.int .i64 af, .int .i64 ke] 36 (0, 0)) := e1.block _ _ (World.alloc_heap_new w _) (fun h => h)
  replace e1 : Ext w w1 := ((Keep.refl _ w).alloc _).trans e1
  have hsw : w.heap.size < w1.heap.size := Keep.lt bX
  by_cases h1 : 4000 < mb
  · have h1' : (4000 : Int) < (mb : Int) := by omega
    clear hrb
    go_wp2
    exact ⟨rfl, e1⟩
  have h1' : ¬ ((4000 : Int) < (mb : Int)) := by omega
  have HRB := Lib.hid hrb
  clear hrb
  go_wp2_with fail
  refine (few14_any w1 a m c ls (ht.ext e1)).mono ?_
  rintro e w2 ⟨q, rfl, hq, rfl⟩
  cases q with
  | false =>
    go_wp2
    exact ⟨rfl, e1⟩
  | true =>
  obtain ⟨hm20, hls⟩ := hq rfl
  have HLS := Lib.hid hls
  have HR := Lib.hid hR
  clear hq hls hR
  have hi2 := Lib.hid (show (Try.prog.info? 36).map (·.size) = some 2 by kernel_rfl)
  have hrow := crOne_row (p := af) (q := ke) (World.alloc_heap_new w1 (.cells #[.int .i64 af, .int .i64 ke] 36))
  have hnew := dnew_any 60 60 (by decide) (some ⟨w1.heap.size, 0, none⟩) 1 [(af, ke)] _ hrow (by simp)
  go_wp2_with (first | fail | (refine wpList_load_row ?_ 36 (.tmp 7) ?_ w.heap.size ?_ 36 #[.int .i64 af, .int .i64 ke] (0, 0) _ ?_ Try.underlying36 rfl hi2.out ?_; rfl; rfl; rfl; exact bX))
  refine hnew.mono ?_
  rintro e w2 ⟨v, rfl, ⟨B, gs, gc, rfl, hP, hb1, hb2, hb3⟩, e2⟩
  simp only [World.size_alloc] at hb1 hb2 hb3
  have hb3' := hb3 (by simp)
  have E2 : Ext w w2 := (e1.trans ((Keep.refl _ w1).alloc _)).trans e2
  obtain ⟨D, hDe⟩ : ∃ x, (⟨zeros (60 * 64), 60, [(af, ke)], 0, true⟩ : DSt) = x := ⟨_, rfl⟩
  rw [hDe] at hP
  obtain ⟨x1, x2, x3, x4, x5⟩ : D.pw = true ∧ D.n = 60 ∧ D.cr = [(af, ke)] ∧ D.wr = 0 ∧ D.F.length = D.n * 64 := by rw [← hDe]; exact ⟨rfl, rfl, rfl, rfl, by simp [zeros]⟩
  have HP := Lib.hid hP
  obtain ⟨lB, lG, lC⟩ := hP.lts
  have lC := lC (by rw [x3]; simp)
  have HFIN : Hid (∀ A, Ext w A → R (.returned (.bool true)) A) := Lib.hid (fun A hA => HR.out _ _ ⟨rfl, hA⟩)
  have hsw1 : w.heap.size ≤ w1.heap.size := e1.size
  clear hP hDe hnew hrow bX e2 hi2 hb3 HR
  go_wp2
  go_loopw [10] (fun i wr => ∃ (k : Nat) (D : DSt), k ≤ 60 ∧ i = .int .i64 k ∧ Hid (PD wr B gs gc D) ∧ D.pw = true ∧ D.n = 60 ∧ D.cr = [(af, ke)] ∧ D.wr ≤ k ∧ D.F.length = D.n * 64 ∧ Ext w wr ∧ w2.heap.size ≤ wr.heap.size) (fun i _ => 60 - (intOf i).toNat)
  case atStart => exact ⟨0, D, by omega, rfl, HP, x1, x2, x3, by omega, x5, E2, Nat.le_refl _⟩
  case round =>
    clear HP x1 x2 x3 x4 x5
    obtain ⟨k, D, hk, rfl, HP, x1, x2, x3, x4, x5, hE, hsz⟩ := hrel
    have hcont : k < 60 ∧ 64 * k < mb ∨ ¬ (k < 60 ∧ 64 * k < mb) := Classical.em _
    rcases hcont with ⟨hlt, hlm⟩ | hstop
    · have hlm' : 64 * (k : Int) < (mb : Int) := by omega
      have hlt' : (k : Int) < 60 := by omega
      go_wp2
      refine wp_laid1 fun C1 hEc b8 => ?_
      have hk4 := hE.trans hEc
      have hcut := (HRB.out.ext hk4).cut (lo := 64 * k) (hi := mb) (by omega) (Nat.le_refl _)
      rw [Nat.mul_one, ← List.map_drop, List.take_of_length_le (by rw [List.length_map, List.length_drop, HBL.out]; omega)] at hcut
      obtain ⟨ac, hac⟩ : ∃ x, (if cb = 64 * k then ab else Option.map (fun x => x.add (64 * k)) ab) = x := ⟨_, rfl⟩
      rw [hac] at hcut
      have HAC := Lib.hid hac
      obtain ⟨p8, hp8⟩ : ∃ x, wr.heap.size = x := ⟨_, rfl⟩
      rw [hp8] at b8 ⊢
      have B8 : Arr C1 p8 60 ((zeros 64).map u8v) := by rw [← F64_eq]; exact b8
      clear hac b8
      refine FY.wp_flow (X := fun _ _ => False) (0 :: 1 :: 2 :: 3 :: 4 :: 5 :: []) (fun n => if n = 5 then .last else .reads) (by kernel_rfl) (by kernel_rfl) ?_
      refine FY.flow_v rfl rfl rfl (fun w' _ => exec_slice rfl (slice_whole p8 w')) ?_
      simp only [Act.put, List.setIfInBounds_toArray, List.set_cons_succ, List.set_cons_zero]
      iterate 3 (refine FY.flow_r rfl rfl rfl ?_; go_big_quiet_step (fail); refine wpQuiet_nil ?_)
      refine FY.flow_v (v := .slice ac (mb - 64 * k) (cb - 64 * k)) rfl rfl rfl (fun w' _ => exec_slice rfl (by rw [← HAC.out]; exact slice_lo' (by omega) ab mb cb (by omega) w')) ?_
      simp only [Act.put, List.setIfInBounds_toArray, List.set_cons_succ, List.set_cons_zero]
      refine FY.flow_l rfl rfl (by kernel_rfl) (fun C2 hE2 _ => ?_)
      have hX2 : Ext C1 C2 := ((Keep.refl _ C1).drew).trans hE2
      obtain ⟨C3, hrun, B83, hK3⟩ := (B8.ext hX2).copyMin (P := Try.prog) 25 25 3 5 Try.underlying25 size_u8 (hcut.ext hX2) (u8v_one _) 0 64 64 (by simp [zeros])
      rw [← List.map_take, over_put, padTo_over _ (by rw [List.length_take]; omega)] at B83
      have hExt3 : Ext wr C3 := ((Keep.of_ext (hEc.trans hX2)).trans hK3).mono (fun k o ho hx => by have := Keep.lt ho; omega)
      obtain ⟨P2, hP2⟩ : ∃ x, padTo 64 ((bl.drop (64 * k)).take 64) = x := ⟨_, rfl⟩
      have hP2l : P2.length = 64 := by rw [← hP2]; exact padTo_len64
      rw [hP2] at B83
      have HP3 := Lib.hid ((HP.out).ext hExt3)
      obtain ⟨O, hO⟩ : ∃ O, (P2.map u8v).toArray = O := ⟨_, rfl⟩
      have hi1 := Lib.hid (show (Try.prog.info? 60).map (·.size) = some O.size by rw [info_sec, ← hO]; simp [hP2l])
      have HB8 := Lib.hid (show C3.heap[p8]? = some (.cells O 60 (0, 0)) by rw [← hO]; exact B83)
      have HOA := Lib.hid (show aggB P2 = .agg O by unfold aggB; rw [hO])
      have hE3 := hE.trans hExt3
      have hsz3 : w2.heap.size ≤ C3.heap.size := Nat.le_trans hsz hExt3.size
      have hc := dwrite_any (HP3.out) (k : Int) P2 hP2l (by omega)
      rw [HOA.out] at hc
      clear hX2 hE2 hK3 B83 B8 hcut hEc hk4 hO hP2 hExt3 HP
      go_wp2_with (first | (refine wpList_copy_run hrun rfl rfl rfl rfl ?_) | (refine wpList_load_row ?_ 60 (.tmp 11) ?_ p8 ?_ 60 O (0, 0) _ ?_ Try.underlying60 rfl hi1.out ?_; rfl; rfl; rfl; exact HB8.out))
      refine hc.mono ?_
      rintro e w6 ⟨rfl, hP6, hK6⟩
      have hE6 : Ext w w6 := ((Keep.of_ext hE3).trans hK6).mono (fun b o ho hx => by have := Keep.lt ho; omega)
      have HP6 := Lib.hid hP6
      have hsz6 : w2.heap.size ≤ w6.heap.size := Nat.le_trans hsz3 hK6.size
      have hwc := write_cr D (k : Int) P2
      have hwF := write_len x5 (k : Int) P2 hP2l
      have hwe := write_live x1 (p := k) (by omega)
      have hwp := fun h => write_pw (d := D) h (k : Int) P2
      obtain ⟨EE, hEE⟩ : ∃ x, D.writeE (k : Int) = x := ⟨_, rfl⟩
      rw [hEE] at hwe ⊢
      clear hc hP6 hK6 hEE hE3 hrun
      by_cases hE0 : EE = 0
      · subst hE0
        have hnt : D.tears = false := by
          rcases hwe with h | h
          · exact h.1
          · exact absurd h.2 (by decide)
        go_wp2
        go_roundw
        case rel => exact ⟨k + 1, D.write (k : Int) P2, by omega, by go_num, HP6, by rw [hwp hnt, x1], by rw [hwc.2.2, x2], by rw [hwc.1, x3], by have := hwc.2.1; omega, by rw [hwF, hwc.2.2], hE6, hsz6⟩
        case measure => simp [intOf]; omega
      · have hEb : (EE != 0) = true := by simpa using hE0
        go_wp2
        exact HFIN.out _ hE6
    · have hf := format_any HP.out 0 60 (gen.toNat : Int) (by decide) (by decide) (by omega)
      obtain ⟨E, hEf⟩ : ∃ x, fmtE D 0 60 = x := ⟨_, rfl⟩
      rw [hEf] at hf
      have hkk : k < 60 ∨ ¬ k < 60 := Classical.em _
      rcases hkk with hlt | hlt
      case' inl =>
        have hlt' : (k : Int) < 60 := by omega
        have hlm' : ¬ (64 * (k : Int) < (mb : Int)) := by omega
        go_wp2_with fail
        refine hf.mono ?_
      case' inr =>
        have hlt' : ¬ ((k : Int) < 60) := by omega
        go_wp2_with fail
        refine hf.mono ?_
      all_goals
        rintro e W3 ⟨rfl, hP3, hK3⟩
        have hE3 : Ext w W3 := ((Keep.of_ext hE).trans hK3).mono (fun b o ho hx => by have := Keep.lt ho; omega)
        have hsz3 : w2.heap.size ≤ W3.heap.size := Nat.le_trans hsz hK3.size
        clear hf hK3 hE HP HBL HRB hsz
        by_cases hE0 : E = 0
        · subst hE0
          obtain ⟨y1, y2, y3, y4, y5⟩ := fmt_ok hEf
          obtain ⟨z1, z2⟩ := fmt_zero hEf x5 x1 x2
          obtain ⟨d1, hd1⟩ : ∃ x, fmtS D 0 60 = x := ⟨_, rfl⟩
          rw [hd1] at hP3 y2 y3 y4 y5 z1 z2
          rw [x1] at y2
          rw [x2] at y1 y3
          rw [x3] at y4
          clear hEf hd1 x1 x2 x3 x5
          go_wp2_with fail
          refine (open_any hP3 y2 0 60 gen (by decide) (by decide)).mono ?_
          rintro e W4 ⟨e4, hq⟩
          rcases hq with ⟨hq, _⟩ | ⟨_, LB, v, rfl, hlb, hPL, hown⟩
          · rw [y3] at hq; exact absurd hq (by decide)
          replace hPL : PL W4 LB B v ⟨0, 60, gen, 0, [], false⟩ := by rw [← openSt_blank (d := d1) (fr := 0) (n := 60) gen z1]; exact hPL
          have hs4 := e4.size
          have hO : One w1.heap.size W4 B gs gc LB v (.slice none 0 0) 0 [] ⟨0, 60, gen, 0, [], false⟩ d1 :=
            ⟨hP3.ext e4, hPL, ⟨by omega, by omega, by omega⟩, ⟨by omega, by omega⟩, fun k hk => by have h1 := hown k hk; have h2 := hPL.own_lt hk; exact ⟨by omega, by omega, h2⟩, World.ownsRow_nil _ _ _ _, fun k hk => by simp [Value.ownBlock] at hk, fun k _ h2 => by simp [Value.ownBlock] at h2⟩
          have hWI : WInv gen ⟨0, 60, gen, 0, [], false⟩ d1 [] false [] :=
            ⟨rfl, rfl, rfl, y3, z2, rfl, fun _ => ⟨y2, rfl, .nil, fun _ => z1⟩, fun h => by cases h⟩
          have HO := Lib.hid hO
          have HW := Lib.hid hWI
          have hE4 := hE3.trans e4
          obtain ⟨vs, hrow, hml, htx⟩ := ht
          have HML := Lib.hid hml
          have hmc := hrow.1
          have hmx := hrow.2.1
          unfold maxLen at hmx
          have HROW := Lib.hid hrow
          have HTX := Lib.hid htx
          have HDI : Hid (DoneIn w [] []) := Lib.hid ⟨rfl, by simp⟩
          clear hPL hown hO hWI hP3 e4 hE3 hml hrow htx hs4
          go_wp2
          go_loopw [71, 14, 15, 16] (fun ti dv nx br wr => ∃ (k : Nat) (v : Value) (st : LSt) (d : DSt) (done : List (List UInt8)) (dvs : List Value) (brk : Bool) (next : List UInt8) (aN : Option Addr) (cN : Nat),
            k ≤ m ∧ ti = .int .i64 k ∧ nx = .slice aN next.length cN ∧ Hid (Row 1 w aN next.length cN (next.map u8v)) ∧ br = .bool brk ∧ Hid (One w1.heap.size wr B gs gc LB v dv done.length dvs st d) ∧ Hid (DoneIn w dvs done) ∧ Hid (WInv gen st d done brk next) ∧
            done.length ≤ k ∧ d.wr ≤ 100 + 5000 * k ∧ Ext w wr) (fun i _ _ _ _ => m - (intOf i).toNat)
          case atStart => exact ⟨0, v, _, d1, [], [], false, [], none, 0, by omega, rfl, rfl, Lib.hid (Row.nil 1 w), rfl, HO, HDI, HW, by simp, by omega, hE4⟩
          case round =>
            clear HO HW HDI hE4 y1 y2 y3 y4 y5 z1 z2
            obtain ⟨k, v, st, d, done, dvs, brk, next, aN, cN, hk, rfl, rfl, HN, rfl, HO, HD, HW, hdk, hwr, hE⟩ := hrel
            have hLB : LB < wr.heap.size := HO.out.pl.cells.lt
            have hdvr := owns_row HO.out.own
            obtain ⟨aD, cD, hdv, _⟩ := hdvr
            by_cases hlt : k < m
            · obtain ⟨l, hl⟩ : ∃ l, ls[k]? = some l := ⟨_, List.getElem?_eq_getElem (by have := HML.out; omega)⟩
              obtain ⟨ax, cx, hvx, hrx⟩ := HTX.out k l hl
              obtain ⟨bv, ov, rfl, hcell⟩ := HROW.out.2.2.2.2 (by omega)
              have ck := Ext.cell hE (hcell k _ hvx)
              have hl4 := HLS.out l (List.mem_of_getElem? hl)
              have HRX := Lib.hid hrx
              obtain ⟨lx, hlx⟩ : ∃ x, l.length = x := ⟨_, rfl⟩
              rw [hlx] at ck hrx hl4
              have hbx : ∀ p, ax = some p → 0 < lx → p.block < w.heap.size := fun p hp h0 => by
                obtain ⟨b', o', h1, h2⟩ := hrx.2.2.2.2 h0
                rw [hp] at h1; cases h1
                have hlp : 0 < l.length := by omega
                exact World.block_lt_of_cell? w _ (h2 0 (u8v l[0]) (by simp [List.getElem?_eq_getElem hlp]))
              have hap := append_any HO.out.pl HO.out.p ax lx cx l (hrx.ext hE) (by omega) (by omega)
                (fun p hp h0 => by have h1 := hbx p hp h0; have h2 := HO.out.b; exact ⟨by omega, by omega, by omega⟩)
                (fun _ => ⟨HO.out.g.1, fun k hk he => (HO.out.o k hk).2.1 he.symm⟩)
              have hcr := (appL_cr st l d).2.2
              have hws := winv_step HW.out l (by omega)
              have HNx : Hid (Row 1 w ax l.length cx (l.map u8v)) := HRX
              clear hcell
              go_wp2_with fail
              refine hap.mono ?_
              intro e w6 hq
              obtain ⟨v', rfl, hO6, hK6⟩ := HO.out.append hq
              have hE6 : Ext w w6 := ((Keep.of_ext hE).trans hK6).mono (fun b o ho hx => by have := Keep.lt ho; omega)
              obtain ⟨E, hEq⟩ : ∃ x, (appL st l d).1 = x := ⟨_, rfl⟩
              obtain ⟨st', hst'⟩ : ∃ x, (appL st l d).2.1 = x := ⟨_, rfl⟩
              obtain ⟨d', hd'⟩ : ∃ x, (appL st l d).2.2 = x := ⟨_, rfl⟩
              rw [hEq, hst', hd'] at hws
              rw [hst', hd'] at hO6
              rw [hd'] at hcr
              rw [hEq]
              have HO6 := Lib.hid hO6
              clear hap hq hEq hst' hd' hO6 HO hE hK6 HW ck hvx
              rcases hws with ⟨rfl, hW⟩ | ⟨rfl, hW⟩ | ⟨hE0, hE1, hW⟩
              · have hO7 := HO6.out.ext ((Keep.refl _ w6).alloc (.cells #[.slice ax lx cx] 25))
                have hsrc := (lit_row (base := 0) w6 25 #[.slice ax lx cx] 1 (by simp [maxLen]) rfl (Nat.zero_le _)).2
                obtain ⟨dv', w8, hrun, hO8, hK8⟩ := hO7.push (by rfl) (by omega) hsrc 31
                have hE8 : Ext w w8 := ((Keep.of_ext (hE6.trans ((Keep.refl _ w6).alloc _))).trans hK8).mono (fun b o ho hx => by have := Keep.lt ho; omega)
                have HD8 := Lib.hid (HD.out.snoc HRX.out)
                rw [hlx] at HD8
                have HO8 : Hid (One w1.heap.size w8 B gs gc LB v' dv' (done ++ [l]).length (dvs ++ [.slice ax lx cx]) st' d') := Lib.hid (by rw [List.length_append]; exact hO8)
                have HW8 := Lib.hid hW
                have Hrun := Lib.hid hrun
                have hdk8 : (done ++ [l]).length ≤ k + 1 := by rw [List.length_append]; simp; omega
                clear hO7 hsrc hrun hO8 hK8 hW HO6 hE6 hdv
                go_wp2_with (at_builtin; go_must (refine wpList_append_run Hrun.out rfl rfl rfl rfl ?_))
                go_roundw
                case rel => exact ⟨k + 1, v', st', d', _, _, brk, next, aN, cN, by omega, by go_num, rfl, HN, rfl, HO8, HD8, HW8, hdk8, by omega, hE8⟩
                case measure => simp [intOf]; omega
              · have HW8 := Lib.hid hW
                clear hW hdv
                go_wp2
                go_roundw
                case rel => exact ⟨k + 1, v', st', d', _, _, true, l, ax, cx, by omega, by go_num, by rw [hlx], HNx, rfl, HO6, HD, HW8, by omega, by omega, hE6⟩
                case measure => simp [intOf]; omega
              · have HW8 := Lib.hid hW
                have hb0 : (E == 0) = false := by simpa using hE0
                have hb1' : (E == 131) = false := by simpa using hE1
                clear hW hdv
                go_wp2
                go_roundw
                case rel => exact ⟨k + 1, v', st', d', _, _, brk, next, aN, cN, by omega, by go_num, rfl, HN, rfl, HO6, HD, HW8, by omega, by omega, hE6⟩
                case measure => simp [intOf]; omega
            · have hst := dstart_any HO.out.p
              clear HTX HLS HROW
              go_wp2_with fail
              refine hst.mono ?_
              rintro e w6 ⟨⟨u, rfl⟩, hP6, hK6⟩
              have hE6 : Ext w w6 := ((Keep.of_ext hE).trans hK6).mono (fun b o ho hx => by have := Keep.lt ho; omega)
              have hown6 := hK6.owns' HO.out.own (fun k cur hk hx => (HO.out.od k hk).1 hx)
              rw [hdv] at hown6
              obtain ⟨_, _, q6, hrow6⟩ := owns_row hown6
              cases q6
              have hfin := winv_end HW.out
              have hdn : d.start.n = 60 := HW.out.dn
              have hdp : d.start.pw = true := rfl
              obtain ⟨Ds, hDs⟩ : ∃ x, d.start = x := ⟨_, rfl⟩
              rw [hDs] at hP6 hdn hdp hfin
              have HFI := Lib.hid hfin
              have hsz6 := hK6.size
              clear hst hK6 hE HO HW hown6 hDs hfin
              go_wp2_with fail
              refine (open_any hP6 hdp 0 60 gen (by decide) (by decide)).mono ?_
              rintro e w7 ⟨e7, hq⟩
              rcases hq with ⟨hq, _⟩ | ⟨_, LB3, v3, rfl, _, hPL3, _⟩
              · rw [hdn] at hq; exact absurd hq (by decide)
              have hrow7 := hrow6.ext e7
              have hE7 := hE6.trans e7
              replace hPL3 : PL w7 LB3 B v3 (openSt Ds 0 60 gen) := hPL3
              have hs1 := same14_any hPL3 aD _ cD done (HD.out.texts hE7 hrow7)
              obtain ⟨so, hso⟩ : ∃ x, openSt Ds 0 60 gen = x := ⟨_, rfl⟩
              rw [hso] at hs1 hPL3 HFI
              subst hdv
              by_cases hrd : so.recs = done
              · rw [decide_eq_true hrd] at hs1
                clear hso hPL3 hP6 hrow6 hrow7
                go_wp2_with fail
                refine hs1.mono ?_
                rintro e w8 ⟨rfl, e8⟩
                go_wp2
                exact HFIN.out _ (hE7.trans e8)
              · rw [decide_eq_false hrd] at hs1
                obtain ⟨hbr, hrn⟩ : brk = true ∧ so.recs = done ++ [next] := by
                  rcases HFI.out with h | h
                  · exact absurd h hrd
                  · exact h
                subst hbr
                have HPL3 := Lib.hid hPL3
                have HROW7 := Lib.hid hrow7
                have HRN := Lib.hid hrn
                clear hso hPL3 hP6 hrow6 hrow7 hrn hrd
                go_wp2_with fail
                refine hs1.mono ?_
                rintro e w8 ⟨rfl, e8⟩
                have hE8 := hE7.trans e8
                have hr8 := HROW7.out.ext e8
                obtain ⟨nd, hnd⟩ : ∃ x, done.length = x := ⟨_, rfl⟩
                have HND := Lib.hid hnd
                rw [hnd] at hr8 hdk ⊢
                obtain ⟨v9, w9, hrun9, hown9, hgrow9, _⟩ := run_append_row w8 w8.heap.size 31 31 25 _ 1 24 Try.underlying31 info_bytes2 rfl (by decide) (World.ownsRow_nil w8 w8.heap.size 25 1) hr8 (fun u hu => by
                    obtain ⟨i, hi⟩ := List.mem_iff_getElem?.1 hu
                    have hlt2 := (List.getElem?_eq_some_iff.1 hi).1
                    obtain ⟨l2, hl2⟩ : ∃ l2, done[i]? = some l2 := ⟨_, List.getElem?_eq_getElem (by have := HD.out.1; omega)⟩
                    obtain ⟨a2, c2, h2, _⟩ := HD.out.2 i l2 hl2
                    rw [hi] at h2
                    cases h2; rfl) (by unfold maxLen; omega) (by omega) (Nat.le_refl _)
                rw [Nat.zero_add, List.nil_append] at hown9
                have hE9 : Ext w8 w9 := Keep.of_grownBy hgrow9 (fun k o h _ => by cases h)
                obtain ⟨ln, hln⟩ : ∃ x, next.length = x := ⟨_, rfl⟩
                have HLN := Lib.hid hln
                rw [hln]
                have hrow10 := hown9.alloc (.cells #[.slice aN ln cN] 25)
                have hsrc := (lit_row (base := 0) w9 25 #[.slice aN ln cN] 1 (by simp [maxLen]) rfl (Nat.zero_le _)).2
                obtain ⟨v10, w10, hrun10, hown10, hgrow10, _⟩ := run_append_row (w9.alloc (.cells #[.slice aN ln cN] 25)) w8.heap.size 31 31 25 _ 1 24 Try.underlying31 info_bytes2 rfl (by decide) hrow10 hsrc (by simp [Value.oneCell']) (by unfold maxLen; omega) (by omega) (by have := hE9.size; simp; omega)
                have hE10 : Ext w8 w10 := Ext.of_below (((Ext.below hE9).alloc hE9.size _).grown hgrow10 (by have := hE9.size; simp; omega) (fun g hg => (hown9.lt g hg).1))
                obtain ⟨a10, c10, rfl, hr10⟩ := owns_row hown10
                have hEw := hE8.trans hE10
                have hdn10 : DoneIn w (dvs ++ [.slice aN ln cN]) (done ++ [next]) := by rw [← hln]; exact HD.out.snoc HN.out
                have hs2 := same14_any ((HPL3.out.ext e8).ext hE10) a10 _ c10 (done ++ [next]) (hdn10.texts hEw hr10)
                rw [decide_eq_true HRN.out] at hs2
                have H1 := Lib.hid hrun9
                have H2 := Lib.hid hrun10
                clear hrun9 hrun10 hown9 hown10 hrow10 hsrc hr10 hr8 hgrow9 hgrow10 hs1 hdn10 hnd hln
                go_wp2_with (first | (at_builtin; go_must (first | (refine wpList_append_g H1.out rfl rfl rfl rfl ?_) | (refine wpList_append_g H2.out rfl rfl rfl rfl ?_))))
                refine hs2.mono ?_
                rintro e w11 ⟨rfl, e11⟩
                go_wp2
                exact HFIN.out _ (hEw.trans e11)
        · have hEb : (E != 0) = true := by simpa using hE0
          go_wp2
          exact HFIN.out _ hE3
end Go.Proofs.Ytdopaoajbjodeaa
