/-
  vec.Chunks and its iterator.
-/
import Derived.Test.YtdopaoajbjodeaaSlices
import Derived.Test.YtdopaoajbjodeaaRows
namespace Go.Proofs.Ytdopaoajbjodeaa
open Go.RowKit Go.Shelf
attribute [local go_sem] Oper.semAt_some

theorem chunks_any (a : Option Addr) (len c : Nat) (n : Int) (w : World) : Calls Try.prog 47 #[.slice a len c, .int .i64 n] w fun e w' =>
    e = .returned (.func (.func 52) #[] #[.pointer (some ⟨w.heap.size + 1, 0, none⟩), .pointer (some ⟨w.heap.size, 0, none⟩)]) ∧
      w' = (w.alloc (.cells #[.slice a len c] 25)).alloc (.cells #[.int .i64 n] 3) := by
  go_enter Try.func47, Try.ntmps47
  go_wp2
  go_ret
  exact ⟨rfl, rfl⟩

/-- The k-th piece of m bytes. -/
def chunkAt (m : Nat) (l : List UInt8) (k : Nat) : List UInt8 := (l.drop (k * m)).take m
/-- How many pieces there are. -/
def chunkN (n : Int) (len : Nat) : Nat := if n ≤ 0 then 0 else (len + n.toNat - 1) / n.toNat

theorem chunkN_lt {m len k t : Nat} (hm : 0 < m) (ht : t = min (k * m) len) (hlt : t < len) : k < chunkN m len := by
  unfold chunkN
  rw [if_neg (by omega), Int.toNat_natCast]
  have hk : k * m < len := by omega
  rw [Nat.lt_div_iff_mul_lt hm]
  omega
theorem chunkN_ge {m len k t : Nat} (hm : 0 < m) (ht : t = min (k * m) len) (hge : ¬ t < len) : chunkN m len ≤ k := by
  unfold chunkN
  rw [if_neg (by omega), Int.toNat_natCast]
  have hk : len ≤ k * m := by omega
  rw [← Nat.lt_add_one_iff, Nat.div_lt_iff_lt_mul hm, Nat.add_mul]
  omega
theorem chunk_at {m len k t : Nat} (ht : t = min (k * m) len) (hlt : t < len) (l : List UInt8) : chunkAt m l k = (l.drop t).take m := by
  unfold chunkAt
  rw [show k * m = t by omega]
theorem info_u8 : (Try.prog.info? 5).map (fun i => (i.zero, i.size, i.bytes)) = some (some (.int .u8 0), 1, 1) := by kernel_rfl

set_option maxRecDepth 20000 in
set_option maxHeartbeats 1000000 in
theorem chunks1_pos (pn pb : Nat) (a : Option Addr) (len c m : Nat) (l : List UInt8) (hm : 0 < m) (hm63 : (m : Int) ≤ 9223372036854775807) (hl47 : len ≤ 140737488355328) : Iter Try.prog 52 #[.pointer (some ⟨pn, 0, none⟩), .pointer (some ⟨pb, 0, none⟩)] (chunkN m len) False
    (fun k A args => ∃ v, args = #[v] ∧ A.ownsRow 0 5 1 v (chunkAt m l k).length ((chunkAt m l k).map u8v))
    (fun A => Boxed A pn 3 (.int .i64 m) ∧ Boxed A pb 25 (.slice a len c) ∧ Row 1 A a len c (l.map u8v))
    (fun _ => False) (fun b => b = pn ∨ b = pb ∨ ∃ p, a = some p ∧ 0 < len ∧ b = p.block) := by
  intro l' J Jx W hPre hJ hJx hY _ h0
  refine callsIn_wide.1 (callsIn_of_wp (F := Fence.wide) (n := 3) Try.func52 rfl trivial ?_ rfl)
  simp only [Try.ntmps52, List.size_toArray, List.length_cons, List.length_nil, Nat.reduceAdd, Nat.reduceSub, Array.replicate_succ, Array.replicate_zero, List.push_toArray, List.append_toArray, List.nil_append, List.cons_append]
  gi_wp2
  gi_loopw [4] (fun p wr => ∃ k t : Nat, k ≤ chunkN m len ∧ t ≤ len ∧ Hid (t = min (k * m) len) ∧ p = .int .i64 t ∧ J k wr ∧ Boxed wr pn 3 (.int .i64 m) ∧ Boxed wr pb 25 (.slice a len c) ∧ Row 1 wr a len c (l.map u8v)) (fun p _ => len - (intOf p).toNat)
  case atStart => exact ⟨0, 0, by omega, by omega, (by show 0 = _; simp), rfl, h0, hPre⟩
  case round =>
    obtain ⟨k, t, hk, ht, Ht, rfl, hJk, hN, hB, hR⟩ := hrel
    have hlen : (len : Int) ≤ 9223372036854775807 := by have := hR.1; have := hR.2.1; unfold maxLen at this; omega
    have cN := hN.cell
    have cB := hB.cell
    have hlc := hR.1
    have hmx := hR.2.1
    have hll : l.length = len := by have := hR.2.2.1; simpa using this
    by_cases hlt : t < len
    · have hkN : k < chunkN m len := chunkN_lt hm Ht.out hlt
      have Hc := Lib.hid (chunk_at Ht.out hlt l)
      obtain ⟨a', ha'⟩ : ∃ a', Option.map (fun x => x.add t) a = a' := ⟨_, rfl⟩
      by_cases hfull : m ≤ len - t
      · have hcut := hR.cut (lo := t) (hi := t + m) (by omega) (by omega)
        rw [if_neg (by omega), Nat.mul_one, ha'] at hcut
        rw [show ((l.map u8v).drop t).take ((t + m - t) * 1) = (chunkAt m l k).map u8v from by rw [Hc.out, ← List.map_drop, ← List.map_take]; congr 2; omega] at hcut
        obtain ⟨v', w', hrun, hown, hgrow, _⟩ := run_append_row wr 0 25 25 5 _ 1 1 Try.underlying25 info_u8 rfl (by decide) (World.ownsRow_nil wr 0 5 1) hcut (u8v_one _) (by omega) (by omega) (Nat.zero_le _)
        have Hrun := Lib.hid hrun
        clear hrun
        have hE : Ext wr w' := Keep.of_grownBy hgrow (fun k o h _ => by cases h)
        replace hJk := hJ _ _ _ hJk hE
        replace hN := hE.boxed hN
        replace hB := hE.boxed hB
        replace hR := hR.ext hE
        have cN' := hN.cell
        have cB' := hB.cell
        obtain ⟨fn, tmps, assign, body, hy, hRd⟩ := hY k w' #[v'] hkN hJk ⟨v', rfl, by rw [show 0 + (t + m - t) = (chunkAt m l k).length from by rw [Hc.out]; simp; omega] at hown; exact hown⟩
        gi_wp2_with (gi_at_builtin; go_must (refine wpListIn_append_run Hrun.out rfl rfl rfl rfl ?_))
        refine (roundIn_wide hRd).mono ?_
        rintro e W3 (⟨rfl, hJ3, hK3⟩ | ⟨rfl, hJx3⟩)
        · have hN3 := hK3.boxed hN (fun h => h (.inl rfl))
          have hB3 := hK3.boxed hB (fun h => h (.inr (.inl rfl)))
          have hR3 := hR.keep hK3 (fun p o hp _ _ h => h (.inr (.inr ⟨p, hp, by omega, rfl⟩)))
          have cN3 := hN3.cell
          have cB3 := hB3.cell
          gi_wp2
          go_roundw
          case rel => exact ⟨k + 1, t + m, by omega, by omega, (by show _ = _; have := Ht.out; rw [Nat.add_mul]; omega), by go_num, hJ3, hN3, hB3, hR3⟩
          case measure => simp [intOf]; omega
        · gi_wp2
          refine bodyPost_ret (results_none rfl _ _ _) rfl ?_
          exact ⟨⟨_, rfl⟩, .inr ⟨k, hkN, hJx3⟩⟩
      · have hcut := hR.cut (lo := t) (hi := t + (len - t)) (by omega) (by omega)
        rw [if_neg (by omega), Nat.mul_one, ha'] at hcut
        rw [show ((l.map u8v).drop t).take ((t + (len - t) - t) * 1) = (chunkAt m l k).map u8v from by rw [Hc.out, ← List.map_drop, ← List.map_take, List.take_of_length_le (by simp; omega), List.take_of_length_le (by simp; omega)]] at hcut
        obtain ⟨v', w', hrun, hown, hgrow, _⟩ := run_append_row wr 0 25 25 5 _ 1 1 Try.underlying25 info_u8 rfl (by decide) (World.ownsRow_nil wr 0 5 1) hcut (u8v_one _) (by omega) (by omega) (Nat.zero_le _)
        have Hrun := Lib.hid hrun
        clear hrun
        have hE : Ext wr w' := Keep.of_grownBy hgrow (fun k o h _ => by cases h)
        replace hJk := hJ _ _ _ hJk hE
        replace hN := hE.boxed hN
        replace hB := hE.boxed hB
        replace hR := hR.ext hE
        have cN' := hN.cell
        have cB' := hB.cell
        obtain ⟨fn, tmps, assign, body, hy, hRd⟩ := hY k w' #[v'] hkN hJk ⟨v', rfl, by rw [show 0 + (t + (len - t) - t) = (chunkAt m l k).length from by rw [Hc.out]; simp; omega] at hown; exact hown⟩
        gi_wp2_with (gi_at_builtin; go_must (refine wpListIn_append_run Hrun.out rfl rfl rfl rfl ?_))
        refine (roundIn_wide hRd).mono ?_
        rintro e W3 (⟨rfl, hJ3, hK3⟩ | ⟨rfl, hJx3⟩)
        · have hN3 := hK3.boxed hN (fun h => h (.inl rfl))
          have hB3 := hK3.boxed hB (fun h => h (.inr (.inl rfl)))
          have hR3 := hR.keep hK3 (fun p o hp _ _ h => h (.inr (.inr ⟨p, hp, by omega, rfl⟩)))
          have cN3 := hN3.cell
          have cB3 := hB3.cell
          gi_wp2
          go_roundw
          case rel => exact ⟨k + 1, len, by omega, by omega, (by show _ = _; have := Ht.out; rw [Nat.add_mul]; omega), by go_num, hJ3, hN3, hB3, hR3⟩
          case measure => simp [intOf]; omega
        · gi_wp2
          refine bodyPost_ret (results_none rfl _ _ _) rfl ?_
          exact ⟨⟨_, rfl⟩, .inr ⟨k, hkN, hJx3⟩⟩
    · have hkN := chunkN_ge hm Ht.out hlt
      obtain rfl : k = chunkN m len := by omega
      gi_wp2
      go_end0
      exact ⟨⟨_, rfl⟩, .inl hJk⟩

set_option maxRecDepth 20000 in
set_option maxHeartbeats 1000000 in
theorem chunks1_neg (pn pb : Nat) (a : Option Addr) (len c : Nat) (n : Int) (l : List UInt8) (hn : n ≤ 0) : Iter Try.prog 52 #[.pointer (some ⟨pn, 0, none⟩), .pointer (some ⟨pb, 0, none⟩)] (chunkN n len) False
    (fun k A args => ∃ v, args = #[v] ∧ A.ownsRow 0 5 1 v (chunkAt n.toNat l k).length ((chunkAt n.toNat l k).map u8v))
    (fun A => Boxed A pn 3 (.int .i64 n) ∧ Boxed A pb 25 (.slice a len c) ∧ Row 1 A a len c (l.map u8v))
    (fun _ => False) (fun b => b = pn ∨ b = pb ∨ ∃ p, a = some p ∧ 0 < len ∧ b = p.block) := by
  intro l' J Jx W hPre _ _ _ _ h0
  have hz : chunkN n len = 0 := by unfold chunkN; rw [if_pos hn]
  have h0' : J (chunkN n len) W := by rw [hz]; exact h0
  clear hz
  have cN := hPre.1.cell
  refine callsIn_wide.1 (callsIn_of_wp (F := Fence.wide) (n := 3) Try.func52 rfl trivial ?_ rfl)
  simp only [Try.ntmps52, List.size_toArray, List.length_cons, List.length_nil, Nat.reduceAdd, Nat.reduceSub, Array.replicate_succ, Array.replicate_zero, List.push_toArray, List.append_toArray, List.nil_append, List.cons_append]
  gi_wp2
  gi_loopw [4] (fun p wr => p = .int .i64 0 ∧ wr = W) (fun _ _ => 0)
  case atStart => exact ⟨rfl, rfl⟩
  case round =>
    obtain ⟨rfl, rfl⟩ := hrel
    gi_wp2
    go_end0
    exact ⟨⟨_, rfl⟩, .inl h0'⟩

/-- The iterator of vec.Chunks. -/
theorem chunks1_iter (pn pb : Nat) (a : Option Addr) (len c : Nat) (n : Int) (l : List UInt8) (hn : n ≤ 9223372036854775807) (hl47 : len ≤ 140737488355328) : Iter Try.prog 52 #[.pointer (some ⟨pn, 0, none⟩), .pointer (some ⟨pb, 0, none⟩)] (chunkN n len) False
    (fun k A args => ∃ v, args = #[v] ∧ A.ownsRow 0 5 1 v (chunkAt n.toNat l k).length ((chunkAt n.toNat l k).map u8v))
    (fun A => Boxed A pn 3 (.int .i64 n) ∧ Boxed A pb 25 (.slice a len c) ∧ Row 1 A a len c (l.map u8v))
    (fun _ => False) (fun b => b = pn ∨ b = pb ∨ ∃ p, a = some p ∧ 0 < len ∧ b = p.block) := by
  by_cases h : n ≤ 0
  · exact chunks1_neg pn pb a len c n l h
  · obtain ⟨m, rfl⟩ := Int.eq_ofNat_of_zero_le (show 0 ≤ n by omega)
    rw [Int.toNat_natCast]
    exact chunks1_pos pn pb a len c m l (by omega) hn hl47
end Go.Proofs.Ytdopaoajbjodeaa
