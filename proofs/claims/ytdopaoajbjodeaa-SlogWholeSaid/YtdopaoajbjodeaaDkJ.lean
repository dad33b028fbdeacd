/-
  The reference's disk: NewDisk, Read, Start.
-/
import Derived.Test.YtdopaoajbjodeaaDkF
namespace Go.Proofs.Ytdopaoajbjodeaa
open Go.RowKit Go.Shelf

attribute [local go_sem] Oper.semAt_some

abbrev RD (w : World) (B gs gc : Nat) (s : DSt) : Prop := DA 88 (!s.pw) w B gs gc s

def RefDisk (w : World) (N gc : Nat) (cr : List (Int × Int)) (e : Ending) (w' : World) : Prop :=
  ∃ B gs, e = .returned (.pointer (some ⟨B, 0, none⟩)) ∧ RD w' B gs gc ⟨zeros (N * 64), N, cr, 0, true⟩ ∧ w.heap.size ≤ B ∧ w.heap.size ≤ gs ∧ Ext w w'
theorem refDisk_of {w : World} {N gc : Nat} {cr : List (Int × Int)} {a : Option Addr} {c : Nat} (h : Row 2 w a cr.length c (crC cr)) (ha : ∀ p, a = some p → 0 < cr.length → p.block = gc) (hN : N ≤ 65536) :
    RD ((w.alloc (.cells (List.replicate (N * 64) (.int .u8 0)).toArray 60)).alloc (.cells #[.slice (some ⟨w.heap.size, 0, none⟩) N N, .slice a cr.length c, .int .i64 0, .bool false] 88)) (w.heap.size + 1) w.heap.size gc ⟨zeros (N * 64), N, cr, 0, true⟩ := by
  have hgc : 0 < cr.length → gc < w.heap.size := fun hn => by
    obtain ⟨b, off, rfl, hc⟩ := h.2.2.2.2 hn
    have hb : b = gc := ha _ rfl hn
    cases hcr : cr with
    | nil => rw [hcr] at hn; cases hn
    | cons q t =>
      have := World.block_lt_of_cell? w _ (hc 0 (.int .i64 q.1) (by rw [hcr]; rfl))
      rw [← hb]; exact this
  have k1 := Arr.new w 60 (List.replicate (N * 64) (.int .u8 0))
  have k2 := Arr.new (w.alloc (.cells (List.replicate (N * 64) (.int .u8 0)).toArray 60)) 88 [.slice (some ⟨w.heap.size, 0, none⟩) N N, .slice a cr.length c, .int .i64 0, .bool false]
  rw [World.size_alloc] at k2
  refine ⟨⟨a, c, N, [], k2, h.ext (((Keep.refl _ w).alloc _).alloc _), ha, fun _ => ?_, Nat.le_refl _, by show N ≤ _; omega⟩, by simp [zeros], by simp; omega, by omega, fun hl => ?_, fun hl => ?_, hN⟩
  · rw [List.append_nil, zeros_v]; exact k1.alloc _
  · have := hgc hl; omega
  · have := hgc hl; omega

set_option maxRecDepth 20000 in
set_option maxHeartbeats 2000000 in
theorem refNew_any (n : Int) (N : Nat) (hN : (min (max n 0) 65536 : Int) = (N : Int)) (a : Option Addr) (c gc : Nat) (cr : List (Int × Int)) (w : World) (h : Row 2 w a cr.length c (crC cr)) (ha : ∀ p, a = some p → 0 < cr.length → p.block = gc) :
    Calls Try.prog 21 #[.int .i64 n, .slice a cr.length c] w (RefDisk w N gc cr) := by
  obtain ⟨i1, hi1, hz1, hy1, hx1⟩ := info_sec4
  have hN2 : N ≤ 65536 := by omega
  refine calls_cps fun R hR => ?_
  have HD := Lib.hid (refDisk_of h ha hN2)
  have HE := Lib.hid (((Keep.refl (fun _ _ => False) w).alloc (.cells (List.replicate (N * 64) (.int .u8 0)).toArray 60)).alloc (.cells #[.slice (some ⟨w.heap.size, 0, none⟩) N N, .slice a cr.length c, .int .i64 0, .bool false] 88))
  obtain ⟨cz, hcz⟩ : ∃ c, (List.replicate (N * 64) (Value.int .u8 0)).toArray = c := ⟨_, rfl⟩
  rw [hcz] at HD HE
  have hEnd : R (.returned (.pointer (some ⟨w.heap.size + 1, 0, none⟩))) ((w.alloc (.cells cz 60)).alloc (.cells #[.slice (some ⟨w.heap.size, 0, none⟩) N N, .slice a cr.length c, .int .i64 0, .bool false] 88)) :=
    hR _ _ ⟨w.heap.size + 1, w.heap.size, rfl, HD.out, by omega, Nat.le_refl _, HE.out⟩
  clear h hR HD HE
  have HN := Lib.hid hN
  clear hN
  go_enter Try.func21, Try.ntmps21
  by_cases h1 : n < 0
  · have h0 : N = 0 := by have := HN.out; omega
    have h2 : ¬ 65536 < n := by omega
    go_wp2_with (at_make; go_must (refine wpList_make_many rfl _ _ 63 rfl 60 i1 _ 64 (by decide) Try.underlying63 hi1 hz1 hy1 .i64 .i64 _ _ N rfl rfl (by omega) (by omega) (by rw [hx1]; omega) (by unfold maxLen; omega) ?_); rw [hcz])
    rw [h0] at hEnd
    exact hEnd
  · by_cases h2 : 65536 < n
    · have h0 : N = 65536 := by have := HN.out; omega
      go_wp2_with (at_make; go_must (refine wpList_make_many rfl _ _ 63 rfl 60 i1 _ 64 (by decide) Try.underlying63 hi1 hz1 hy1 .i64 .i64 _ _ N rfl rfl (by omega) (by omega) (by rw [hx1]; omega) (by unfold maxLen; omega) ?_); rw [hcz])
      rw [h0] at hEnd
      exact hEnd
    · have h0 : n = (N : Int) := by have := HN.out; omega
      subst h0
      go_wp2_with (at_make; go_must (refine wpList_make_many rfl _ _ 63 rfl 60 i1 _ 64 (by decide) Try.underlying63 hi1 hz1 hy1 .i64 .i64 _ _ N rfl rfl rfl rfl (by rw [hx1]; omega) (by unfold maxLen; omega) ?_); rw [hcz])
      exact hEnd

set_option maxRecDepth 20000 in
set_option maxHeartbeats 1000000 in
theorem refRead_any {w : World} {B gs gc : Nat} {s : DSt} (h : RD w B gs gc s) (i : Int) : Calls Try.prog 36 #[.pointer (some ⟨B, 0, none⟩), .int .i64 i] w fun e w' =>
    e = .returned (.tuple #[aggB (s.read i), .int .i64 (s.may i)]) ∧ Ext w w' := by
  have HI := Lib.hid info_sec
  unfold aggB
  have hlen := Lib.hid h.len
  obtain ⟨zz, hzz⟩ : ∃ z, (zeros 64).map u8v = z := ⟨_, rfl⟩
  have HZ := Lib.hid (show (List.replicate 64 (.int .u8 0) : List Value) = zz by rw [← hzz]; rfl)
  have hone0 : zz.toArray.all (·.oneCell') = true := by rw [← hzz]; exact all_one _
  have HO := Lib.hid hone0
  have HZs := Lib.hid (show (Try.prog.info? 60).map (·.size) = some zz.toArray.size by rw [info_sec, ← hzz]; rfl)
  have HZ64 := Lib.hid (show zz.toArray.size = 64 by rw [← hzz]; rfl)
  refine calls_cps fun R hR => ?_
  have hE : Ext w (w.alloc (.cells (List.replicate 64 (.int .u8 0)).toArray 60)) := (Keep.refl _ w).alloc _
  have hZ : Arr (w.alloc (.cells (List.replicate 64 (.int .u8 0)).toArray 60)) w.heap.size 60 (List.replicate 64 (.int .u8 0)) := Arr.new w _ _
  have h1 := h.ext hE
  obtain ⟨ac, cc, cap, tl, e1, e2, e3, e4, e5, e6⟩ := h1.ex
  have hc0 := e1.cell (i := 0) rfl
  have hc3 := e1.cell (i := 3) rfl
  have hfin : ∀ er : Int, s.may i = er → s.read i = zeros 64 → R (.returned (.tuple #[.agg zz.toArray, .int .i64 er])) (w.alloc (.cells zz.toArray 60)) := fun er h2 h3 => hR _ _ ⟨by rw [h2, h3, hzz], (Keep.refl _ w).alloc _⟩
  have HON := Lib.hid (show ((List.replicate 64 (Value.int .u8 0)).toArray).all (·.oneCell') = true by rw [HZ.out]; exact HO.out)
  have HI0 := Lib.hid (show (Try.prog.info? 60).map (·.size) = some (List.replicate 64 (Value.int .u8 0)).toArray.size by rw [info_sec]; rfl)
  have HZA := Lib.hid hZ
  have H4 := Lib.hid e4
  clear h hone0 hZ hzz e1 e2 e3 e4 hE
  simp only [List.replicate] at hc0 hc3
  go_enter Try.func36, Try.ntmps36
  cases hp : s.pw with
  | false =>
    have hm : s.may i = 131 := by simp [DSt.may, hp]
    have hf := hfin 131 hm (by simp [DSt.read, hm])
    rw [hp] at hc3
    clear hfin hm hR hp h1
    simp only [Bool.not_false] at hc3
    go_wp2_with (refine wpList_store_row ?_ 60 (.tmp 4) (.tmp 11) ?_ w.heap.size (List.replicate 64 (Value.int .u8 0)).toArray ?_ ?_ 60 (List.replicate 64 (Value.int IntKind.u8 0)).toArray ?_ HI0.out rfl HON.out ?_; rfl; rfl; rfl; rfl; exact Arr.new w 60 (List.replicate 64 (.int .u8 0)); rw [World.setRow_alloc_new, HZ.out])
    exact bodyPost_ret (results_cell_slot rfl _ _ w.heap.size 60 zz.toArray (0, 0) _ (.int .i64 131) rfl rfl (World.alloc_heap_new _ _) Try.underlying60 rfl HZs.out) rfl hf
  | true =>
    rw [hp] at hc3
    simp only [Bool.not_true] at hc3
    by_cases h0 : i < 0
    · have hm : s.may i = 130 := by simp [DSt.may, hp, h0]
      have hf := hfin 130 hm (by simp [DSt.read, hm])
      clear hfin hm hR hp h1
      go_wp2_with (refine wpList_store_row ?_ 60 (.tmp 4) (.tmp 24) ?_ w.heap.size (List.replicate 64 (Value.int .u8 0)).toArray ?_ ?_ 60 (List.replicate 64 (Value.int IntKind.u8 0)).toArray ?_ HI0.out rfl HON.out ?_; rfl; rfl; rfl; rfl; exact Arr.new w 60 (List.replicate 64 (.int .u8 0)); rw [World.setRow_alloc_new, HZ.out])
      exact bodyPost_ret (results_cell_slot rfl _ _ w.heap.size 60 zz.toArray (0, 0) _ (.int .i64 130) rfl rfl (World.alloc_heap_new _ _) Try.underlying60 rfl HZs.out) rfl hf
    · by_cases hn : (s.n : Int) ≤ i
      · have hm : s.may i = 130 := by simp [DSt.may, hp, hn]
        have hf := hfin 130 hm (by simp [DSt.read, hm])
        clear hfin hm hR hp h1
        go_wp2_with (refine wpList_store_row ?_ 60 (.tmp 4) (.tmp 24) ?_ w.heap.size (List.replicate 64 (Value.int .u8 0)).toArray ?_ ?_ 60 (List.replicate 64 (Value.int IntKind.u8 0)).toArray ?_ HI0.out rfl HON.out ?_; rfl; rfl; rfl; rfl; exact Arr.new w 60 (List.replicate 64 (.int .u8 0)); rw [World.setRow_alloc_new, HZ.out])
        exact bodyPost_ret (results_cell_slot rfl _ _ w.heap.size 60 zz.toArray (0, 0) _ (.int .i64 130) rfl rfl (World.alloc_heap_new _ _) Try.underlying60 rfl HZs.out) rfl hf
      · have hm : s.may i = 0 := by simp [DSt.may, hp, h0, hn]
        obtain ⟨k, rfl⟩ := Int.eq_ofNat_of_zero_le (show 0 ≤ i by omega)
        have hk : k < s.n := by omega
        have hrd : s.read (k : Int) = s.sector k := by simp [DSt.read, hm]
        have hsl := sector_length hlen.out hk
        have hld := (H4.out (by omega)).loads_mid (P := Try.prog) (off := k * 64) (n := 64) (by rw [List.length_append, List.length_map, hlen.out]; omega)
        rw [sector_cells hlen.out hk] at hld
        rw [hrd, hm] at hR
        obtain ⟨O, hO⟩ : ∃ O, (s.sector k).map u8v = O := ⟨_, rfl⟩
        have hOl : O.length = 64 := by rw [← hO, List.length_map, hsl]
        have HO1 := Lib.hid (show O.toArray.all (·.oneCell') = true by rw [← hO]; exact all_one _)
        have HOs := Lib.hid (show (Try.prog.info? 60).map (·.size) = some O.length by rw [info_sec, hOl])
        have HOz := Lib.hid (show (List.replicate 64 (Value.int .u8 0)).toArray.size = O.toArray.size by rw [List.size_toArray, List.size_toArray, hOl]; rfl)
        have HLD := Lib.hid (show (loadCellsFrom ⟨gs, k * 64, none⟩ 0 O.length #[]).run Try.prog (w.alloc (.cells (List.replicate 64 (.int .u8 0)).toArray 60)) = .ok O.toArray (w.alloc (.cells (List.replicate 64 (.int .u8 0)).toArray 60)) by rw [hOl, ← hO]; exact hld)
        rw [hO] at hR
        have hix := index_sec gs s.n cap k hk
        clear hrd hm hld hO hOl hsl hfin hp h1
        go_wp2_with (first | (refine wpList_load_cells ?_ 60 (.tmp 30) ?_ ⟨gs, k * 64, none⟩ ?_ O _ ?_ Try.underlying60 rfl HOs.out ?_; rfl; rfl; rfl; exact HLD.out) | (refine wpList_store_row ?_ 60 (.tmp 4) (.tmp 31) ?_ w.heap.size O.toArray ?_ ?_ 60 (List.replicate 64 (Value.int IntKind.u8 0)).toArray ?_ HOs.out HOz.out HO1.out ?_; rfl; rfl; rfl; rfl; exact Arr.new w 60 (List.replicate 64 (.int .u8 0)); rw [World.setRow_alloc_new]))
        exact bodyPost_ret (results_cell_slot rfl _ _ w.heap.size 60 O.toArray (0, 0) _ (.int .i64 0) rfl rfl (World.alloc_heap_new _ _) Try.underlying60 rfl HOs.out) rfl (hR _ _ ⟨rfl, (Keep.refl _ w).alloc _⟩)
end Go.Proofs.Ytdopaoajbjodeaa
