/-
  slog.Records, an iterator over a log's records; what a log that nobody made answers.
-/
import Derived.Test.YtdopaoajbjodeaaSlJ
namespace Go.Proofs.Ytdopaoajbjodeaa
open Go.RowKit Go.Shelf

attribute [local go_sem] Oper.semAt_some

theorem records_any (LB : Nat) (w : World) : Calls Try.prog 39 #[.pointer (some ⟨LB, 0, none⟩)] w fun e w' =>
    e = .returned (.func (.func 49) #[] #[.pointer (some ⟨w.heap.size, 0, none⟩)]) ∧ w' = w.alloc (.cells #[.pointer (some ⟨LB, 0, none⟩)] 27) := by
  go_enter Try.func39, Try.ntmps39
  go_wp2
  go_ret
  exact ⟨rfl, rfl⟩

set_option maxRecDepth 20000 in
set_option maxHeartbeats 4000000 in
theorem records1_iter (pb LB B : Nat) (w0 : World) {v : Value} {st : LSt} (h : PL w0 LB B v st) :
    Iter Try.prog 49 #[.pointer (some ⟨pb, 0, none⟩)] st.recs.length False
      (fun k A args => ∃ u l, args = #[u] ∧ st.recs[k]? = some l ∧ A.ownsRow 0 5 1 u l.length (l.map u8v))
      (fun A => Boxed A pb 27 (.pointer (some ⟨LB, 0, none⟩)) ∧ Ext w0 A)
      (fun _ => False) (fun b => b = pb ∨ b < w0.heap.size) := by
  intro l' J Jx W hPre hJ hJx hY _ h0
  obtain ⟨hB0, hE0⟩ := hPre
  obtain ⟨vs, o1, o2⟩ := h.own
  obtain ⟨av, cv, rfl, hrowv⟩ := owns_row o1
  have hfew := h.few
  have hle := h.le
  have hreg := h.reg
  obtain ⟨n, hn⟩ : ∃ n, st.recs.length = n := ⟨_, rfl⟩
  have hc := fun (A : World) (hA : Ext w0 A) => count_any (h.ext hA)
  rw [hn] at hc hY hfew ⊢
  have HC := Lib.hid hc
  have hrv := hrowv
  rw [hn] at hrv
  clear hc
  refine callsIn_wide.1 (callsIn_of_wp (F := Fence.wide) (n := 3) Try.func49 rfl trivial ?_ rfl)
  simp only [Try.ntmps49, List.size_toArray, List.length_cons, List.length_nil, Nat.reduceAdd, Nat.reduceSub, Array.replicate_succ, Array.replicate_zero, List.push_toArray, List.append_toArray, List.nil_append, List.cons_append]
  have cB := hB0.cell
  gi_wp2_with fail
  refine ⟨trivial, (callsIn_wide.2 ((HC.out) W hE0)).mono ?_⟩
  rintro e w2 ⟨rfl, rfl⟩
  gi_wp2
  gi_loopw [6] (fun ix wr => ∃ k : Nat, k ≤ n ∧ ix = .int .i64 k ∧ J k wr ∧ Boxed wr pb 27 (.pointer (some ⟨LB, 0, none⟩)) ∧ Ext w0 wr) (fun ix _ => n - (intOf ix).toNat)
  case atStart => exact ⟨0, by omega, rfl, h0, hB0, hE0⟩
  case round =>
    obtain ⟨k, hk, rfl, hJk, hB, hE⟩ := hrel
    clear hB0 hE0 h0 cB
    by_cases hlt : k < n
    · have cB := hB.cell
      have c5 := (h.ext hE).cells.cell (i := 5) rfl
      rw [hn] at c5
      obtain ⟨l, hl⟩ : ∃ l, st.recs[k]? = some l := ⟨_, List.getElem?_eq_getElem (by omega)⟩
      obtain ⟨u, hu⟩ : ∃ u, vs[k]? = some u := ⟨_, List.getElem?_eq_getElem (by rw [o2.1]; omega)⟩
      obtain ⟨au, cu, rfl, hrowu⟩ := owns_row (o2.2 k l u hl hu)
      have hshort := h.short l (List.mem_of_getElem? hl)
      obtain ⟨bv, ov, rfl, hcell⟩ := (hrv.ext hE).2.2.2.2 (by omega)
      have ck := hcell k _ hu
      have hcl := clone_any au l.length cu l wr (hrowu.ext hE) (by omega)
      have HCL := Lib.hid hcl
      clear hcl
      gi_wp2_with fail
      refine ⟨trivial, (callsIn_wide.2 HCL.out).mono ?_⟩
      rintro e w5 ⟨u5, rfl, hown, hE5⟩
      have hJ5 := hJ _ _ _ hJk hE5
      have hB5 := Ext.boxed hE5 hB
      have hE05 := hE.trans hE5
      obtain ⟨fn, tmps, assign, body, hy, hRd⟩ := hY k w5 #[u5] hlt hJ5 ⟨u5, l, rfl, hl, owns_mono hown (Nat.zero_le _)⟩
      clear hrowu ck hcell c5 cB hown HCL hu
      gi_wp2
      refine (roundIn_wide hRd).mono ?_
      rintro e W3 (⟨rfl, hJ3, hK3⟩ | ⟨rfl, hJx3⟩)
      · have hB3 := hK3.boxed hB5 (fun h => h (.inl rfl))
        have hE3 : Ext w0 W3 := ((Keep.of_ext hE05).trans hK3).mono (fun b o ho hx => hx (.inr (Keep.lt ho)))
        clear hRd hy hB5 hK3 hJk
        gi_wp2
        go_roundw
        case rel => exact ⟨k + 1, by omega, by go_num, hJ3, hB3, hE3⟩
        case measure => simp [intOf]; omega
      · clear hRd hy hB5 hJk
        gi_wp2
        refine bodyPost_ret (results_none rfl _ _ _) rfl ?_
        exact ⟨⟨_, rfl⟩, .inr ⟨k, hlt, hJx3⟩⟩
    · obtain rfl : k = n := by omega
      gi_wp2
      go_end0
      exact ⟨⟨_, rfl⟩, .inl hJk⟩

theorem append_nil (a : Option Addr) (m c : Nat) (w : World) : Calls Try.prog 14 #[.pointer none, .slice a m c] w fun e w' => e = .returned (.int .i64 140) ∧ Ext w w' := by
  refine calls_cps fun R hR => ?_
  have hf := hR (.returned (.int .i64 140)) ((w.alloc (.cells #[.pointer none] 27)).alloc (.cells #[.int .i64 140] 37)) ⟨rfl, ((Keep.refl _ w).alloc _).alloc _⟩
  refine calls_marks Try.func14 rfl ?_
  simp only [Try.ntmps14, List.size_toArray, List.length_cons, List.length_nil, Nat.reduceAdd, Nat.reduceSub, Array.replicate_succ, Array.replicate_zero, List.push_toArray, List.append_toArray, List.nil_append, List.cons_append]
  clear hR
  go_wp2
  refine mark0_ret (v := .int .i64 140) rfl (by simp [results, Try.results14, go_sem]) hf

/-- A log that nobody made: its 'made' is false. -/
theorem append_unmade {LB : Nat} {cs : List Value} (a : Option Addr) (m c : Nat) (w : World) (h : Arr w LB 33 cs) (h7 : cs[7]? = some (.bool false)) : Calls Try.prog 14 #[.pointer (some ⟨LB, 0, none⟩), .slice a m c] w fun e w' => e = .returned (.int .i64 140) ∧ Ext w w' := by
  refine calls_cps fun R hR => ?_
  have hf := hR (.returned (.int .i64 140)) ((w.alloc (.cells #[.pointer (some ⟨LB, 0, none⟩)] 27)).alloc (.cells #[.int .i64 140] 37)) ⟨rfl, ((Keep.refl _ w).alloc _).alloc _⟩
  have hE0 : Ext w ((w.alloc (.cells #[.pointer (some ⟨LB, 0, none⟩)] 27)).alloc (.cells #[.int .i64 0] 37)) := ((Keep.refl _ w).alloc _).alloc _
  have k7 := (h.ext hE0).cell h7
  refine calls_marks Try.func14 rfl ?_
  simp only [Try.ntmps14, List.size_toArray, List.length_cons, List.length_nil, Nat.reduceAdd, Nat.reduceSub, Array.replicate_succ, Array.replicate_zero, List.push_toArray, List.append_toArray, List.nil_append, List.cons_append]
  clear hR hE0 h
  go_wp2
  refine mark0_ret (v := .int .i64 140) rfl (by simp [results, Try.results14, go_sem]) hf
theorem room_unmade {LB : Nat} {cs : List Value} (w : World) (h : Arr w LB 33 cs) (h7 : cs[7]? = some (.bool false)) : Calls Try.prog 16 #[.pointer (some ⟨LB, 0, none⟩)] w fun e w' => e = .returned (.int .i64 0) ∧ w = w' := by
  have k7 := h.cell h7
  refine calls_cps fun R hR => ?_
  go_enter Try.func16, Try.ntmps16
  go_wp2
  try exact hR _ _ ⟨rfl, rfl⟩
end Go.Proofs.Ytdopaoajbjodeaa
