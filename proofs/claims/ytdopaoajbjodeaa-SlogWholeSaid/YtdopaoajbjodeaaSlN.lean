/-
  SlogNone.
-/
import Derived.Test.YtdopaoajbjodeaaSlM
namespace Go.Proofs.Ytdopaoajbjodeaa
open Go.RowKit Go.Shelf

attribute [local go_sem] Oper.semAt_some

/-- A blank sector starts no record. -/
theorem dueL_zeros (gen num room : Nat) : dueL gen num (zeros 64) room = none := by
  unfold dueL
  rw [if_neg]
  intro h
  have h1 := congrArg (fun l : List UInt8 => l.getLast?) h.1
  unfold markL at h1
  rw [show ((zeros 64).drop 55).getLast? = some 0 by decide] at h1
  simp only [List.getLast?_append, List.getLast?_singleton, Option.some_or] at h1
  exact absurd h1 (by decide)
theorem openSt_blank {d : DSt} {fr n : Nat} (gen : UInt32) (h : d.sector fr = zeros 64) : openSt d fr n gen = ⟨fr, n, gen, 0, [], false⟩ := by
  unfold openSt
  rw [openG_none (by show dueL _ _ (secF d fr 0) _ = none; unfold secF; rw [Nat.add_zero, h]; exact dueL_zeros _ _ _)]

def d20 : DSt := ⟨zeros (20 * 64), 20, [(1, 0)], 0, true⟩
theorem none_fmtE : fmtE d20 0 20 = 0 := by decide +kernel
theorem none_fmtS : (fmtS d20 0 20).pw = true ∧ (fmtS d20 0 20).n = 20 ∧ (fmtS d20 0 20).wr = 1 ∧ (fmtS d20 0 20).cr = [(1, 0)] ∧ (fmtS d20 0 20).sector 0 = zeros 64 := by decide +kernel
theorem none_isR : isR 0 20 20 = true := by decide +kernel
/-- The first write of any record fails. -/
theorem none_app {D : DSt} (h1 : D.pw = true) (h2 : D.n = 20) (h3 : D.wr = 1) (h4 : D.cr = [(1, 0)]) (gen : UInt32) (l : List UInt8) (hl : l.length ≤ 300) :
    (appL ⟨0, 20, gen, 0, [], false⟩ l D).1 = 131 ∧ (appL ⟨0, 20, gen, 0, [], false⟩ l D).2.1 = ⟨0, 20, gen, 0, [], true⟩ := by
  have hw : ∀ i : Nat, i < 20 → D.writeE (i : Int) = 131 := fun i hi => by
    have hm : D.may (i : Int) = 0 := by unfold DSt.may; rw [h1, h2]; simp only [if_true]; rw [if_neg (by omega)]
    have ht : D.tears = true := by unfold DSt.tears; rw [h4]; simp [h3]
    unfold DSt.writeE
    rw [if_pos hm, if_pos ht]
  have hsp := spanN_pos (n := l.length) (by omega)
  have hs5 : spanN l.length ≤ 6 := by unfold spanN; split; omega; split <;> omega
  obtain ⟨p, r, hpr, hp⟩ : ∃ p r, writesL 0 0 20 gen.toNat 0 l = p :: r ∧ p.1 < 20 := by
    have hlen := writes_len (fr := 0) (at' := 0) (n := 20) (g := gen.toNat) (num := 0) (b := l)
    cases hc : writesL 0 0 20 gen.toNat 0 l with
    | nil => rw [hc] at hlen; simp at hlen
    | cons p r =>
      refine ⟨p, r, rfl, ?_⟩
      have hm : p ∈ writesL 0 0 20 gen.toNat 0 l := by rw [hc]; simp
      unfold writesL at hm
      simp only [List.mem_append, List.mem_map, List.mem_singleton, List.mem_range] at hm
      rcases hm with (⟨i, hi, rfl⟩ | hm) | rfl
      · show 0 + 0 + (1 + i) < 20; omega
      · split at hm
        · simp at hm; subst hm; show spanN l.length < 20; omega
        · simp at hm
      · show 0 < 20; omega
  have hrun : (runW (writesL 0 0 20 gen.toNat 0 l) D).1 = 131 := by
    rw [hpr, runW, hw _ hp]; rfl
  unfold appL
  simp only [if_neg (show ¬ (false = true) by decide), if_neg (show ¬ 262144 < l.length by omega), if_neg (show ¬ (20 - 0 < spanN l.length) by omega), List.length_nil, hrun]
  exact ⟨rfl, rfl⟩

/-- A broken log. -/
theorem append_broken {LB : Nat} {cs : List Value} (a : Option Addr) (m c : Nat) (w : World) (h : Arr w LB 33 cs) (h7 : cs[7]? = some (.bool true)) (h6 : cs[6]? = some (.bool true)) : Calls Try.prog 14 #[.pointer (some ⟨LB, 0, none⟩), .slice a m c] w fun e w' => e = .returned (.int .i64 140) ∧ Ext w w' := by
  refine calls_cps fun R hR => ?_
  have hf := hR (.returned (.int .i64 140)) ((w.alloc (.cells #[.pointer (some ⟨LB, 0, none⟩)] 27)).alloc (.cells #[.int .i64 140] 37)) ⟨rfl, ((Keep.refl _ w).alloc _).alloc _⟩
  have hE0 : Ext w ((w.alloc (.cells #[.pointer (some ⟨LB, 0, none⟩)] 27)).alloc (.cells #[.int .i64 0] 37)) := ((Keep.refl _ w).alloc _).alloc _
  have k7 := (h.ext hE0).cell h7
  have k6 := (h.ext hE0).cell h6
  refine calls_marks Try.func14 rfl ?_
  simp only [Try.ntmps14, List.size_toArray, List.length_cons, List.length_nil, Nat.reduceAdd, Nat.reduceSub, Array.replicate_succ, Array.replicate_zero, List.push_toArray, List.append_toArray, List.nil_append, List.cons_append]
  clear hR hE0 h
  go_wp2
  refine mark0_ret (v := .int .i64 140) rfl (by simp [results, Try.results14, go_sem]) hf

set_option maxRecDepth 20000 in
set_option maxHeartbeats 4000000 in
theorem slogNone_any (a : Option Addr) (m c : Nat) (l : List UInt8) (gen : UInt32) (w : World) (hr : Row 1 w a m c (l.map u8v)) :
    Calls Try.prog 4 #[.slice a m c, .int .u32 (gen.toNat : Int)] w fun e w' => e = .returned (.bool true) ∧ Ext w w' := by
  have hll : l.length = m := by have := hr.2.2.1; simpa using this
  refine calls_cps fun R hR => ?_
  go_enter Try.func4, Try.ntmps4
  go_wp2_with fail
  refine (awake14_any w).mono ?_
  rintro e w1 ⟨rfl, e1⟩
  by_cases hm : 300 < m
  · have hm' : (300 : Int) < (m : Int) := by omega
    have hmx := hr.2.1
    have hmc := hr.1
    unfold maxLen at hmx
    clear hr
    go_wp2
    exact ⟨rfl, e1⟩
  · have hm' : ¬ ((300 : Int) < (m : Int)) := by omega
    go_wp2_with fail
    have hZ := Arr.new w1 33 [.pointer none, .int .i64 0, .int .i64 0, .int .u32 0, .int .i64 0, .slice none 0 0, .bool false, .bool false]
    obtain ⟨V, hV⟩ : ∃ x, w1.alloc (.cells #[.pointer none, .int .i64 0, .int .i64 0, .int .u32 0, .int .i64 0, .slice none 0 0, .bool false, .bool false] 33) = x := ⟨_, rfl⟩
    have eV : Ext w1 V := by rw [← hV]; exact (Keep.refl _ w1).alloc _
    have hVs : V.heap.size = w1.heap.size + 1 := by rw [← hV]; simp
    replace hZ : Arr V w1.heap.size 33 [.pointer none, .int .i64 0, .int .i64 0, .int .u32 0, .int .i64 0, .slice none 0 0, .bool false, .bool false] := by rw [← hV]; exact hZ
    rw [hV, ← hVs]
    have hrow : Row 2 (V.alloc (.cells #[.int .i64 1, .int .i64 0] 36)) (some ⟨V.heap.size, 0, none⟩) 1 1 (crC [(1, 0)]) := by
      obtain ⟨_, _, q1, q2⟩ := owns_row (World.ownsRow_lit (base := 0) (e := 36) (size := 2) V #[.int .i64 1, .int .i64 0] 1 (Nat.zero_le _) (by simp [maxLen]) rfl)
      cases q1; exact q2
    have eV2 : Ext V (V.alloc (.cells #[.int .i64 1, .int .i64 0] 36)) := (Keep.refl _ V).alloc _
    obtain ⟨LZ, hLZ⟩ : ∃ x, w1.heap.size = x := ⟨_, rfl⟩
    rw [hLZ] at hZ hVs ⊢
    clear hV
    refine (dnew_any 20 20 (by decide) _ 1 [(1, 0)] _ hrow (by decide)).mono ?_
    rintro e w2 ⟨v, rfl, ⟨B, gs, gc, rfl, hD, hb1, hb2, hb3⟩, e2⟩
    replace hD : PD w2 B gs gc d20 := hD
    replace hb3 := hb3 (by decide)
    simp only [World.size_alloc] at hb1 hb2 hb3
    have hE2 := ((e1.trans eV).trans eV2).trans e2
    have hZ2 := (hZ.ext eV2).ext e2
    have hsw := (e1.trans eV).size
    clear hrow e2 eV eV2 hZ
    go_wp2_with fail
    have hf := format_any hD 0 20 (gen.toNat : Int) (by decide) (by decide) (by decide)
    rw [none_fmtE] at hf
    refine hf.mono ?_
    rintro e w3 ⟨rfl, hD3, hK3⟩
    obtain ⟨x1, x2, x3, x4, x5⟩ := none_fmtS
    obtain ⟨D, hDe⟩ : ∃ x, fmtS d20 0 20 = x := ⟨_, rfl⟩
    rw [hDe] at hD3 x1 x2 x3 x4 x5
    have hE3 : Ext w w3 := ((Keep.of_ext hE2).trans hK3).mono (fun k o ho hx => by have := Keep.lt ho; omega)
    have hZ3 := hZ2.keep hK3 (fun h => by rcases h.2 with h | h <;> omega)
    have hlZ : LZ < w2.heap.size := hZ2.lt
    have hs3 := hK3.size
    clear hf hK3 hD hDe hE2 hZ2
    go_wp2_with fail
    refine (open_any hD3 x1 0 20 gen (by decide) (by decide)).mono ?_
    rintro e w4 ⟨e4, hq⟩
    rcases hq with ⟨hq, _⟩ | ⟨_, LB, v, rfl, hlb, hPL, hown⟩
    · rw [x2, none_isR] at hq; cases hq
    replace hPL : PL w4 LB B v ⟨0, 20, gen, 0, [], false⟩ := by rw [← openSt_blank (d := D) (fr := 0) (n := 20) gen x5]; exact hPL
    have hE4 := hE3.trans e4
    have hD4 := hD3.ext e4
    have hZ4 := hZ3.ext e4
    have hr4 := hr.ext hE4
    obtain ⟨lB, lG, lC⟩ := hD3.lts
    replace lC := lC (by rw [x4]; decide)
    have hlL : LB < w4.heap.size := hPL.cells.lt
    have hs34 := e4.size
    have hap := none_app x1 x2 x3 x4 gen l (by omega)
    have habx : ∀ p, a = some p → 0 < m → p.block < w.heap.size := fun p hp hl => by
      obtain ⟨b, off, h1, h2⟩ := hr.2.2.2.2 hl
      rw [hp] at h1; cases h1
      exact World.block_lt_of_cell? w _ (h2 0 _ (List.getElem?_eq_getElem (by simp; omega)))
    clear hD3 hZ3 e4 hE3
    go_wp2_with fail
    refine (append_nil a m c w4).mono ?_
    rintro e w5 ⟨rfl, e5⟩
    go_wp2_with fail
    refine (append_unmade a m c w5 (hZ4.ext e5) rfl).mono ?_
    rintro e w6 ⟨rfl, e6⟩
    have e46 := e5.trans e6
    go_wp2_with fail
    refine (count_nil w6).mono ?_
    rintro e w7 ⟨rfl, rfl⟩
    go_wp2_with fail
    refine (room_nil _).mono ?_
    rintro e w7 ⟨rfl, rfl⟩
    go_wp2_with fail
    refine (room_unmade _ (hZ4.ext e46) rfl).mono ?_
    rintro e w7 ⟨rfl, rfl⟩
    have hx1 := append_any (hPL.ext e46) (hD4.ext e46) a m c l (hr4.ext e46) (by omega) (by rw [x3]; decide) (fun p hp hl => by have := habx p hp hl; omega) (fun _ => ⟨by omega, fun k hk => by have := hown k hk; omega⟩)
    go_wp2_with fail
    refine hx1.mono ?_
    rintro e w8 ⟨v8, rfl, hD8, hPL8, hK8, hv8⟩
    rw [hap.2] at hPL8
    rw [hap.1]
    have hE8 : Ext w w8 := ((Keep.of_ext (hE4.trans e46)).trans hK8).mono (fun k o ho hx => by
      have := Keep.lt ho
      rcases hx with (⟨hx, _⟩ | ⟨hx, _⟩) | ⟨hx, _⟩ | ⟨hx, _⟩
      · omega
      · omega
      · omega
      · have := hown _ hx; omega)
    clear hx1 hD8 hK8 hap
    go_wp2_with fail
    refine (append_broken a m c w8 hPL8.cells rfl rfl).mono ?_
    rintro e w9 ⟨rfl, e9⟩
    go_wp2_with fail
    refine (count_any (hPL8.ext e9)).mono ?_
    rintro e wa ⟨rfl, rfl⟩
    have hE9 := hE8.trans e9
    go_wp2
    exact ⟨rfl, hE9⟩
end Go.Proofs.Ytdopaoajbjodeaa
