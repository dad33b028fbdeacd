/-
  disk.Disk: Sectors, an iterator.
-/
import Derived.Test.YthbffmdfdbfioaaDkC
import Derived.Test.YthbffmdfdbfioaaArrIn
namespace Go.Proofs.Ythbffmdfdbfioaa
open Go.RowKit Go.Shelf

attribute [local go_sem] Oper.semAt_some

section
variable {P : Program} {ops : Array Oper} {rest : List Oper} {o : Oper} {a : Act} {w : World} {Q : Exit → Act → World → Prop}
theorem exec_load_run {ty : TypeId} {x : Operand} {p : Addr} {v : Value} (ho : o.op = .load ty x) (hx : a.eval x = .pointer (some p)) (hl : (loadVar ty p).run P w = .ok v w) : (execOp a.eval o).run P w = .ok (.value v) w := by
  unfold execOp
  simp only [ho, hx, Instr.loadAt, Instr.sureAddr, Sem.run_bind, Sem.run_pure, Result.andThen_ok, hl]
/-- A load at the head of the fenced walk, its run known. -/
theorem wpListIn_load_run {F : Fence} {n : Nat} (hgd : o.guard = none) (ty : TypeId) (x : Operand) (ho : o.op = .load ty x) (v : Value) (hr : (execOp a.eval o).run P w = .ok (.value v) w)
    (h : wpListIn F n P ops Q rest (a.put o.dst v) w) : wpListIn F n P ops Q (o :: rest) a w := by
  refine wpListIn_plain hgd fun K hK => ?_
  unfold Oper.wpIn
  refine ⟨?_, ?_⟩
  · simp [Oper.about, ho]
  · rw [Oper.semAt_plain F _ _ (by rw [ho]; intro c hc'; cases hc'), hr]
    exact hK _ _ h
end

theorem sectors_any {w : World} (B : Nat) : Calls Try.prog 22 #[.pointer (some ⟨B, 0, none⟩)] w fun e w' =>
    e = .returned (.func (.func 23) #[] #[.pointer (some ⟨w.heap.size, 0, none⟩)]) ∧ w' = w.alloc (.cells #[.pointer (some ⟨B, 0, none⟩)] 24) := by
  go_enter Try.func22, Try.ntmps22
  go_wp2
  go_ret
  exact ⟨rfl, rfl⟩

/-- The blocks of a disk that a round over its sectors must leave alone. -/
def secZ (pb B gs gc : Nat) (s : DSt) (b : Nat) : Prop := b = pb ∨ b = B ∨ b = gs ∨ (0 < s.cr.length ∧ b = gc)

set_option maxRecDepth 20000 in
set_option maxHeartbeats 4000000 in
theorem sectors1_iter (pb B gs gc : Nat) (s : DSt) :
    Iter Try.prog 23 #[.pointer (some ⟨pb, 0, none⟩)] s.n False
      (fun k _ args => args = #[.int .i64 (k : Int), aggB (s.sector k)])
      (fun A => Boxed A pb 24 (.pointer (some ⟨B, 0, none⟩)) ∧ PD A B gs gc s)
      (fun _ => False) (secZ pb B gs gc s) := by
  intro l' J Jx W hPre hJ hJx hY _ h0
  obtain ⟨hB0, hD0⟩ := hPre
  obtain ⟨n, hn⟩ : ∃ n, s.n = n := ⟨_, rfl⟩
  have hbig := hD0.big
  have hlenS := Lib.hid hD0.len
  rw [hn] at hY hbig ⊢
  have HN := Lib.hid hn
  have hl := fun (A : World) => dlen_any (w := A) (B := B) (gs := gs) (gc := gc) (s := s)
  rw [hn] at hl
  clear hn
  refine callsIn_wide.1 (callsIn_of_wp (F := Fence.wide) (n := 3) Try.func23 rfl trivial ?_ rfl)
  simp only [Try.ntmps23, List.size_toArray, List.length_cons, List.length_nil, Nat.reduceAdd, Nat.reduceSub, Array.replicate_succ, Array.replicate_zero, List.push_toArray, List.append_toArray, List.nil_append, List.cons_append]
  have cB := hB0.cell
  gi_wp2_with fail
  refine ⟨trivial, (callsIn_wide.2 (hl W hD0)).mono ?_⟩
  rintro e w2 ⟨rfl, e2⟩
  have hB2 := e2.boxed hB0
  have hD2 := hD0.ext e2
  have hJ2 := hJ _ _ _ h0 (Keep.of_ext e2)
  clear hB0 hD0 e2 cB h0 hl
  gi_wp2
  gi_loopw [6] (fun ix wr => ∃ k : Nat, k ≤ n ∧ ix = .int .i64 k ∧ J k wr ∧ Boxed wr pb 24 (.pointer (some ⟨B, 0, none⟩)) ∧ PD wr B gs gc s) (fun ix _ => n - (intOf ix).toNat)
  case atStart => exact ⟨0, by omega, rfl, hJ2, hB2, hD2⟩
  case round =>
    obtain ⟨k, hk, rfl, hJk, hB, hD⟩ := hrel
    clear hB2 hD2 hJ2
    by_cases hlt : k < n
    · have cB := hB.cell
      obtain ⟨ac, cc, cap, tl, e1, e2, e3, e4, e5, e6⟩ := hD.ex
      have c0 := e1.cell (i := 0) rfl
      have hix := index_sec gs s.n cap k (by rw [HN.out]; exact hlt)
      have hld := (e4 (by rw [HN.out]; omega)).loads_mid (P := Try.prog) (off := k * 64) (n := 64) (by rw [List.length_append, List.length_map, hlenS.out, HN.out]; omega)
      rw [sector_cells hlenS.out (by rw [HN.out]; exact hlt)] at hld
      rw [HN.out] at c0 hix
      have hsl := sector_length hlenS.out (show k < s.n by rw [HN.out]; exact hlt)
      obtain ⟨V, hV⟩ : ∃ V, aggB (s.sector k) = V := ⟨_, rfl⟩
      have HLD := Lib.hid (show (loadVar 22 ⟨gs, k * 64, none⟩).run Try.prog wr = .ok V wr by
        rw [← hV]
        exact run_loadVar_cells wr _ 22 ((s.sector k).map u8v) _ (by rw [List.length_map, hsl]; exact hld) Try.underlying22 rfl (by rw [info_sec, List.length_map, hsl]))
      obtain ⟨fn, tmps, assign, body, hy, hRd⟩ := hY k wr #[.int .i64 (k : Int), V] hlt hJk (by rw [← hV])
      clear hld hsl e1 e2 e3 e4 e5 e6 hV
      gi_wp2_with (refine wpListIn_load_run ?_ 22 (.tmp 16) ?_ V ?_ ?_; rfl; rfl; exact exec_load_run rfl rfl HLD.out)
      refine (roundIn_wide hRd).mono ?_
      rintro e W3 (⟨rfl, hJ3, hK3⟩ | ⟨rfl, hJx3⟩)
      · have hB3 := hK3.boxed hB (fun h => h (.inl rfl))
        have hD3 := hD.keep hK3 (fun _ h => h (.inr (.inl rfl))) (fun _ _ h => h (.inr (.inr (.inl rfl)))) (fun hc _ h => h (.inr (.inr (.inr ⟨hc, rfl⟩))))
        clear hRd hy hB hD hK3 hJk
        gi_wp2
        go_roundw
        case rel => exact ⟨k + 1, by omega, by go_num, hJ3, hB3, hD3⟩
        case measure => simp [intOf]; omega
      · clear hRd hy hB hD hJk
        gi_wp2
        refine bodyPost_ret (results_none rfl _ _ _) rfl ?_
        exact ⟨⟨_, rfl⟩, .inr ⟨k, hlt, hJx3⟩⟩
    · obtain rfl : k = n := by omega
      gi_wp2
      go_end0
      exact ⟨⟨_, rfl⟩, .inl hJk⟩
end Go.Proofs.Ythbffmdfdbfioaa
