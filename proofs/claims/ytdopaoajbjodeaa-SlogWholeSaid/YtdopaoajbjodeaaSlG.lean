/-
  slog.Open.
-/
import Derived.Test.YtdopaoajbjodeaaSlF
namespace Go.Proofs.Ytdopaoajbjodeaa
open Go.RowKit Go.Shelf

attribute [local go_sem] Oper.semAt_some

/-- The records that stand in a region: where they end, and they. -/
def openG (F : Nat → List UInt8) (gen n : Nat) : Nat → Nat → List (List UInt8) → Nat × List (List UInt8)
  | 0, t, recs => (t, recs)
  | f + 1, t, recs => if t < n then (match dueL gen recs.length (F t) (n - t) with
      | none => (t, recs)
      | some m => openG F gen n f (t + spanN m) (recs ++ [(bodyU F t (spanN m - 1)).take m])) else (t, recs)
theorem openG_stop {F : Nat → List UInt8} {gen n f t : Nat} {recs : List (List UInt8)} (h : ¬ t < n) : openG F gen n f t recs = (t, recs) := by
  cases f with
  | zero => rfl
  | succ f => rw [openG, if_neg h]
theorem openG_none {F : Nat → List UInt8} {gen n f t : Nat} {recs : List (List UInt8)} (h : dueL gen recs.length (F t) (n - t) = none) : openG F gen n f t recs = (t, recs) := by
  cases f with
  | zero => rfl
  | succ f => rw [openG]; split; rw [h]; rfl
theorem openG_some {F : Nat → List UInt8} {gen n f t m : Nat} {recs : List (List UInt8)} (ht : t < n) (h : dueL gen recs.length (F t) (n - t) = some m) :
    openG F gen n (f + 1) t recs = openG F gen n f (t + spanN m) (recs ++ [(bodyU F t (spanN m - 1)).take m]) := by rw [openG, if_pos ht, h]
theorem dueL_some {gen num room m : Nat} {sec : List UInt8} (h : dueL gen num sec room = some m) : sec.drop 55 = markL gen num ∧ m = numL (sec.take 4) ∧ m ≤ 262144 ∧ spanN m ≤ room := by
  unfold dueL at h
  split at h
  · rename_i hc
    cases h
    exact ⟨hc.1, rfl, hc.2⟩
  · cases h
/-- The log that is opened. -/
def openSt (d : DSt) (fr n : Nat) (gen : UInt32) : LSt := ⟨fr, n, gen, (openG (secF d fr) gen.toNat n n 0 []).1, (openG (secF d fr) gen.toNat n n 0 []).2, false⟩
def OpenQ (T : TypeId) (ex : List Value) (w : World) (B : Nat) (d : DSt) (fr n : Int) (gen : UInt32) (e : Ending) (w' : World) : Prop :=
  Ext w w' ∧ ((isR fr n d.n = false ∧ e = .returned (.tuple #[.pointer none, .int .i64 1])) ∨
    (isR fr n d.n = true ∧ ∃ LB v, e = .returned (.tuple #[.pointer (some ⟨LB, 0, none⟩), .int .i64 0]) ∧ w.heap.size ≤ LB ∧ LA T ex w' LB B v (openSt d fr.toNat n.toNat gen) ∧ ∀ k, v.ownBlock = some k → w.heap.size ≤ k))
def atOf (LB off : Nat) (w : World) : Nat := match w.cell? ⟨LB, off, none⟩ with
  | some (.int _ i) => i.toNat
  | _ => 0

theorem LA.atOf {T : TypeId} {ex : List Value} {w : World} {LB B : Nat} {v : Value} {s : LSt} (h : LA T ex w LB B v s) : atOf LB 4 w = s.at' := by
  unfold Go.Proofs.Ytdopaoajbjodeaa.atOf
  rw [h.cells.cell (i := 4) rfl]
  rfl

set_option maxRecDepth 20000 in
set_option maxHeartbeats 4000000 in
theorem open_any {w : World} {B gs gc : Nat} {d : DSt} (hd : PD w B gs gc d) (hp : d.pw = true) (fr n : Int) (gen : UInt32) (hfr : -9223372036854775808 ≤ fr ∧ fr ≤ 9223372036854775807) (hn : -9223372036854775808 ≤ n ∧ n ≤ 9223372036854775807) :
    Calls Try.prog 13 #[.pointer (some ⟨B, 0, none⟩), .int .i64 fr, .int .i64 n, .int .u32 (gen.toNat : Int)] w (OpenQ 33 [.bool true] w B d fr n gen) := by
  have hbig := hd.big
  refine calls_cps fun R hR => ?_
  obtain ⟨g, hg⟩ : ∃ g, gen.toNat = g := ⟨_, rfl⟩
  have hA := Arr.new w 33 [.pointer (some ⟨B, 0, none⟩), .int .i64 fr, .int .i64 n, .int .u32 (g : Int), .int .i64 0, .slice none 0 0, .bool false, .bool true]
  have hE0 : Ext w (w.alloc (.cells #[.pointer (some ⟨B, 0, none⟩), .int .i64 fr, .int .i64 n, .int .u32 (g : Int), .int .i64 0, .slice none 0 0, .bool false, .bool true] 33)) := (Keep.refl _ w).alloc _
  have his := is_any (hd.ext hE0) fr n (g : Int) hfr hn
  have hi4 := Lib.hid (show (Try.prog.info? 30).map (·.size) = some ([.pointer (some ⟨B, 0, none⟩), .int .i64 fr, .int .i64 n, .int .u32 (g : Int)] : List Value).length by kernel_rfl)
  have hld := hA.loads_mid (P := Try.prog) (off := 0) (n := 4) (by simp)
  rw [List.drop_zero] at hld
  simp only [List.take_succ_cons, List.take_zero] at hld
  rw [hg]
  go_enter Try.func13, Try.ntmps13
  go_wp2
  go_step3
  go_wp2_with (first | fail | (refine wpList_load_cells ?_ 30 (.tmp 25) ?_ ⟨w.heap.size, 0, none⟩ ?_ [.pointer (some ⟨B, 0, none⟩), .int .i64 fr, .int .i64 n, .int .u32 (g : Int)] _ hld Try.underlying30 rfl hi4.out ?_; rfl; rfl; rfl))
  refine his.mono ?_
  rintro e w1 ⟨rfl, hE1⟩
  have hA1 := hA.ext hE1
  replace hE1 := hE0.trans hE1
  cases hb : isR fr n d.n with
  | false =>
    have hf := hR (.returned (.tuple #[.pointer none, .int .i64 1])) w1 ⟨hE1, .inl ⟨hb, rfl⟩⟩
    clear hR
    go_wp2
    exact hf
  | true =>
    have hreg : 0 ≤ fr ∧ 2 ≤ n ∧ fr ≤ (d.n : Int) ∧ n ≤ (d.n : Int) - fr := by unfold isR at hb; exact of_decide_eq_true hb
    obtain ⟨a, rfl⟩ : ∃ a : Nat, fr = (a : Int) := ⟨fr.toNat, by omega⟩
    obtain ⟨N, rfl⟩ : ∃ N : Nat, n = (N : Int) := ⟨n.toNat, by omega⟩
    have hAN : a + N ≤ d.n := by omega
    have hLB : Arr w1 w.heap.size 33 [.pointer (some ⟨B, 0, none⟩), .int .i64 (a : Int), .int .i64 (N : Int), .int .u32 (g : Int), .int .i64 0, .slice none 0 0, .bool false, .bool true] := hA1
    obtain ⟨LB, hLBe⟩ : ∃ x, w.heap.size = x := ⟨_, rfl⟩
    rw [hLBe] at hLB ⊢
    have hP0 : PL w1 LB B (.slice none 0 0) ⟨a, N, gen, 0, [], false⟩ := ⟨by rw [← hg] at hLB; exact hLB, ⟨[], World.ownsRow_nil _ _ _ _, rfl, by simp⟩, by show a + N ≤ 65536; omega, Nat.zero_le _, Nat.le_refl _, by simp⟩
    have hread : ∀ t, t < N → d.read ((a : Int) + (t : Int)) = secF d a t ∧ d.may ((a : Int) + (t : Int)) = 0 ∧ (secF d a t).length = 64 := fun t ht => by
      have hmay : d.may ((a : Int) + (t : Int)) = 0 := by unfold DSt.may; rw [hp]; simp only [if_true]; rw [if_neg (by omega)]
      refine ⟨?_, hmay, sector_length hd.len (by omega)⟩
      unfold DSt.read secF
      rw [if_pos hmay]
      congr 1
    have HRD := Lib.hid hread
    have HPD := Lib.hid hd
    have HG := Lib.hid hg
    have HR := Lib.hid (show ∀ LB v w', w.heap.size ≤ LB → LA 33 [.bool true] w' LB B v (openSt d a N gen) → (∀ k, v.ownBlock = some k → w.heap.size ≤ k) → Ext w w' → R (.returned (.tuple #[.pointer (some ⟨LB, 0, none⟩), .int .i64 0])) w' from fun LB v w' h1 h2 h3 h4 => hR _ _ ⟨h4, .inr ⟨hb, LB, v, rfl, h1, h2, h3⟩⟩)
    have HP0 := Lib.hid hP0
    have HLB := Lib.hid (show w.heap.size ≤ LB by omega)
    clear his hld hi4 hE0 hLB hA hA1 hread hd hR hb hg hP0
    go_wp2
    go_step3
    go_wp2
    go_loopw [12] (fun _ wr => ∃ (t : Nat) (recs : List (List UInt8)) (v : Value) (f : Nat), Hid (openG (secF d a) g N f t recs = openG (secF d a) g N N 0 []) ∧ N ≤ t + f ∧ t ≤ N ∧ Hid (PL wr LB B v ⟨a, N, gen, t, recs, false⟩) ∧ Ext w wr ∧ Hid (∀ k, v.ownBlock = some k → LB ≤ k)) (fun _ wr => N - atOf LB 4 wr)
    case atStart => exact ⟨0, [], _, N, Lib.hid rfl, by omega, Nat.zero_le _, HP0, hE1, Lib.hid (fun k h => by cases h)⟩
    case round =>
      clear HP0 hE1
      obtain ⟨t, recs, v, f, HOG, hf, htN, HPL, hEw, HOB⟩ := hrel
      have c1 := (HPL.out).cells.cell (i := 4) rfl
      replace c1 : wr.cell? ⟨LB, 4, none⟩ = some (.int .i64 (t : Int)) := c1
      by_cases hlt : t < N
      · obtain ⟨hr1, hr2, hr3⟩ := HRD.out t hlt
        have hrd := dread_any ((HPD.out).ext hEw) ((a : Int) + (t : Int))
        rw [hr1, hr2] at hrd
        have HDU := Lib.hid (due_any HPL.out (secF d a t) hr3)
        unfold aggB at hrd
        obtain ⟨O, hO⟩ : ∃ O, (secF d a t).map u8v = O := ⟨_, rfl⟩
        have hOl : O.length = 64 := by rw [← hO, List.length_map, hr3]
        have hO1 := all_one (secF d a t)
        rw [hO] at hrd hO1
        have HO := Lib.hid hO
        have HO1 := Lib.hid hO1
        have hi1 := Lib.hid (show (Try.prog.info? 60).map (·.size) = some O.toArray.size by rw [info_sec]; simp [hOl])
        have hz1 := Lib.hid (show (List.replicate 64 (Value.int IntKind.u8 0)).toArray.size = O.toArray.size by simp [hOl])
        clear hr1 hr2 hr3 hO hO1
        go_wp2_with fail
        refine hrd.mono ?_
        rintro e w2 ⟨rfl, hE2⟩
        have hE3 : Ext w2 (w2.alloc (.cells O.toArray 60)) := (Keep.refl _ w2).alloc _
        have HPL3 := Lib.hid (((HPL.out).ext hE2).ext hE3)
        have hEw3 := (hEw.trans hE2).trans hE3
        have HA3 := Lib.hid (Arr.new w2 60 O)
        have hdu := due_any HPL3.out (secF d a t) (by have := hOl; rw [← HO.out, List.length_map] at this; exact this)
        unfold aggB at hdu
        rw [HO.out] at hdu
        clear hE2 hE3 hEw HPL HDU
        go_wp2_with (first | fail | (refine wpList_store_row ?_ 60 (.tmp 11) (.tmp 44) ?_ w2.heap.size O.toArray ?_ ?_ 60 (List.replicate 64 (Value.int IntKind.u8 0)).toArray ?_ hi1.out hz1.out HO1.out ?_; rfl; rfl; rfl; rfl; exact Arr.new w2 60 (List.replicate 64 (.int .u8 0)); rw [World.setRow_alloc_new]) | (refine wpList_load_row ?_ 60 (.tmp 11) ?_ w2.heap.size ?_ 60 O.toArray (0, 0) _ ?_ Try.underlying60 rfl hi1.out ?_; rfl; rfl; rfl; exact HA3.out))
        refine hdu.mono ?_
        rintro e w4 ⟨hq, hE4⟩
        have HPL4 := Lib.hid ((HPL3.out).ext hE4)
        have HA4 := Lib.hid ((HA3.out).ext hE4)
        have hEw4 := hEw3.trans hE4
        have hq' : DueQ (dueL g recs.length (secF d a t) (N - t)) e := by rw [← HG.out]; exact hq
        clear hq hE4 hEw3 HPL3 HA3 hdu
        cases hdl : dueL g recs.length (secF d a t) (N - t) with
        | none =>
          rw [hdl] at hq'
          obtain ⟨v0, rfl⟩ : ∃ v0, e = .returned (.tuple #[v0, .bool false]) := hq'
          have hst : openSt d a N gen = ⟨a, N, gen, t, recs, false⟩ := by
            unfold openSt
            rw [HG.out, ← HOG.out, openG_none hdl]
          have hf := HR.out LB v w4 HLB.out (by rw [hst]; exact HPL4.out) (fun k hk => Nat.le_trans HLB.out (HOB.out k hk)) hEw4
          clear hdl hst HOG
          go_wp2
          exact hf
        | some m =>
          rw [hdl] at hq'
          obtain rfl : e = .returned (.tuple #[.int .i64 (m : Int), .bool true]) := hq'
          have hm := (dueL_some hdl).2.2.1
          have hroom := (dueL_some hdl).2.2.2
          have hbo := body_any HPL4.out ((HPD.out).ext hEw4) hp (by show a + N ≤ d.n; exact hAN) m hm (by show t + spanN m ≤ N; omega)
          unfold aggB at hbo
          replace hbo : Calls Try.prog 31 #[.pointer (some ⟨LB, 0, none⟩), .agg ((secF d a t).map u8v).toArray, .int .i64 (m : Int)] w4 fun e w' =>
            (∃ a' c, e = .returned (.tuple #[.slice a' m c, .int .i64 0]) ∧ Row 1 w' a' m c (((bodyU (secF d a) t (spanN m - 1)).take m).map u8v)) ∧ Ext w4 w' := hbo
          rw [HO.out] at hbo
          have HDL := Lib.hid hdl
          clear hdl
          go_wp2_with (first | fail | (refine wpList_load_row ?_ 60 (.tmp 11) ?_ w2.heap.size ?_ 60 O.toArray (0, 0) _ ?_ Try.underlying60 rfl hi1.out ?_; rfl; rfl; rfl; exact HA4.out))
          refine hbo.mono ?_
          rintro e w5 ⟨⟨ab, cb, rfl, hrow⟩, hE5⟩
          have htk := took_any ((HPL4.out).ext hE5) ab m cb _ hrow hm (by show t + spanN m ≤ N; omega)
          have hll : ((bodyU (secF d a) t (spanN m - 1)).take m).length = m := by have := hrow.2.2.1; simpa using this
          have hEw5 := hEw4.trans hE5
          have HLL := Lib.hid hll
          have HPL5 := Lib.hid ((HPL4.out).ext hE5)
          clear hbo hE5 hrow hll HPL4 HA4
          go_wp2_with fail
          refine htk.mono ?_
          rintro e w6 ⟨⟨u, rfl⟩, v6, hPL6, hK6, hblk⟩
          have hEw6 : Ext w w6 := ((Keep.of_ext hEw5).trans hK6).mono (fun k o ho hx => by
            have := Keep.lt ho
            have := HLB.out
            rcases hx with ⟨rfl, _⟩ | ⟨hx, _⟩
            · omega
            · have := HOB.out k hx
              omega)
          have hOB6 : Hid (∀ k, v6.ownBlock = some k → LB ≤ k) := fun k hk => by
            rcases hblk with hb | hb
            · rw [hb] at hk; exact HOB.out k hk
            · have := hb k hk
              have h2 : LB < w5.heap.size := (HPL5.out).cells.lt
              omega
          have hsp := spanN_pos hm
          have hPL7 : Hid (PL w6 LB B v6 ⟨a, N, gen, t + spanN m, recs ++ [(bodyU (secF d a) t (spanN m - 1)).take m], false⟩) := by
            show PL w6 LB B v6 _
            have := hPL6
            unfold LSt.took at this
            rw [HLL.out] at this
            exact this
          have hat7 : atOf LB 4 w6 = t + spanN m := (hPL7.out).atOf
          have hat0 : atOf LB 4 wr = t := by unfold atOf; rw [c1]; rfl
          clear hPL6 hK6 hblk htk
          go_wp2
          go_round
          case rel => exact ⟨t + spanN m, _, v6, f - 1, by
            show _ = _
            rw [← HOG.out]
            obtain ⟨f', rfl⟩ : ∃ f', f = f' + 1 := ⟨f - 1, by omega⟩
            rw [openG_some hlt HDL.out]; rfl, by omega, by omega, hPL7, hEw6, hOB6⟩
          case measure => rw [hat7, hat0]; omega
      · obtain rfl : t = N := by omega
        have hst : openSt d a t gen = ⟨a, t, gen, t, recs, false⟩ := by
          unfold openSt
          rw [HG.out, ← HOG.out, openG_stop (by omega)]
        have hf := HR.out LB v wr HLB.out (by rw [hst]; exact HPL.out) (fun k hk => Nat.le_trans HLB.out (HOB.out k hk)) hEw
        clear hst HOG
        go_wp2
        exact hf
end Go.Proofs.Ytdopaoajbjodeaa
