/-
  The law DiskTears.
-/
import Derived.Test.YthbffmdfdbfioaaDkG
import Derived.Test.YthbffmdfdbfioaaArrEqN
namespace Go.Proofs.Ythbffmdfdbfioaa
open Go.RowKit Go.Shelf

attribute [local go_sem] Oper.semAt_some

theorem DA.lts {T : TypeId} {fl : Bool} {w : World} {B gs gc : Nat} {s : DSt} (h : DA T fl w B gs gc s) : B < w.heap.size ∧ gs < w.heap.size ∧ (0 < s.cr.length → gc < w.heap.size) := by
  obtain ⟨ac, cc, cap, tl, e1, e2, e3, _⟩ := h.ex
  refine ⟨e1.lt, h.lt, fun hn => ?_⟩
  obtain ⟨b, off, rfl, hc⟩ := e2.2.2.2.2 hn
  have hb : b = gc := e3 _ rfl hn
  cases hcr : s.cr with
  | nil => rw [hcr] at hn; cases hn
  | cons q t =>
    have := World.block_lt_of_cell? w _ (hc 0 (.int .i64 q.1) (by rw [hcr]; rfl))
    rw [← hb]; exact this
theorem overB_nil (l : List UInt8) (off : Nat) : overB l off [] = l := by simp [overB]
theorem sector_over {F c : List UInt8} {i k n : Nat} (hF : F.length = n * 64) (hc : c.length ≤ 64) (hi : i < n) (hk : k < n) :
    ((overB F (i * 64) c).drop (k * 64)).take 64 = if k = i then overB ((F.drop (k * 64)).take 64) 0 c else (F.drop (k * 64)).take 64 := by
  have h64 : i * 64 + 64 ≤ n * 64 := by omega
  have hk64 : k * 64 + 64 ≤ n * 64 := by omega
  refine List.ext_getElem? fun x => ?_
  by_cases hki : k = i
  · subst hki
    rw [if_pos rfl]
    unfold overB
    simp only [List.getElem?_take, List.getElem?_drop, List.getElem?_append, List.length_append, List.length_take, hF, List.take_zero, List.nil_append, Nat.zero_add]
    rw [Nat.min_eq_left (show k * 64 ≤ n * 64 by omega)]
    by_cases hx : x < 64
    · by_cases hxc : x < c.length
      · simp [hx, hxc, show ¬ k * 64 + x < k * 64 from by omega]
      · simp [hx, hxc, show k * 64 + c.length + (k * 64 + x - (k * 64 + c.length)) = k * 64 + x by omega, show c.length + (x - c.length) = x by omega]
    · simp [hx, show ¬ x < c.length by omega, show ¬ c.length + (x - c.length) < 64 by omega]
  · rw [if_neg hki]
    unfold overB
    simp only [List.getElem?_take, List.getElem?_drop, List.getElem?_append, List.length_append, List.length_take, hF]
    rw [Nat.min_eq_left (show i * 64 ≤ n * 64 by omega)]
    by_cases hx : x < 64
    · by_cases hlt : k < i
      · simp [hx, show k * 64 + x < i * 64 by omega, show k * 64 + x < i * 64 + c.length by omega]
      · simp [hx, show ¬ k * 64 + x < i * 64 + c.length by omega, show i * 64 + c.length + (k * 64 + x - (i * 64 + c.length)) = k * 64 + x by omega]
    · simp [hx]
theorem overB_step {base s : List UInt8} {c : Nat} (h : base.length = s.length) (hc : c < s.length) : ((overB base 0 (s.take c)).map u8v).set c (u8v s[c]) = (overB base 0 (s.take (c + 1))).map u8v := by
  rw [← List.map_set]
  congr 1
  refine List.ext_getElem? fun x => ?_
  unfold overB
  simp only [List.take_zero, List.nil_append, Nat.zero_add, List.getElem?_set, List.getElem?_append, List.length_append, List.length_take, List.length_drop, List.getElem?_take, List.getElem?_drop, h]
  rw [Nat.min_eq_left (show c ≤ s.length by omega), Nat.min_eq_left (show c + 1 ≤ s.length by omega)]
  by_cases hx : c = x
  · subst hx
    simp [hc, show ¬ s.length - c = 0 by omega]
  · rw [if_neg hx]
    by_cases hlt : x < c
    · simp [hlt, show x < c + 1 by omega]
    · rw [if_neg hlt, if_neg (show ¬ x < c + 1 by omega), show c + (x - c) = c + 1 + (x - (c + 1)) by omega]
theorem sector_zeros (n k : Nat) (hk : k < n) : ((zeros (n * 64)).drop (k * 64)).take 64 = zeros 64 := by
  have h : 64 ≤ n * 64 - k * 64 := by omega
  simp [zeros, Nat.min_eq_left h]
/-- What DiskTears wants of sector k. -/
def wantL (j i : Nat) (old s : List UInt8) (m k : Nat) : List UInt8 := overB (if k = j then old else zeros 64) 0 (if k = i then s.take m else [])
def tornD (N : Nat) (j i : Nat) (old s : List UInt8) (m : Nat) : DSt := ⟨overB (overB (zeros (N * 64)) (j * 64) old) (i * 64) (s.take m), N, [], 0, true⟩
theorem torn_write1 (N j : Nat) (old : List UInt8) (keep : Int) (hj : j < N) : DSt.write ⟨zeros (N * 64), N, [(1, keep)], 0, true⟩ (j : Int) old = ⟨overB (zeros (N * 64)) (j * 64) old, N, [(1, keep)], 1, true⟩ ∧ DSt.writeE ⟨zeros (N * 64), N, [(1, keep)], 0, true⟩ (j : Int) = 0 := by
  have hm : DSt.may ⟨zeros (N * 64), N, [(1, keep)], 0, true⟩ (j : Int) = 0 := by simp [DSt.may]; omega
  have ht : DSt.tears ⟨zeros (N * 64), N, [(1, keep)], 0, true⟩ = false := by simp [DSt.tears]
  constructor
  · unfold DSt.write; rw [if_pos hm, ht]; simp [DSt.put]
  · unfold DSt.writeE; rw [if_pos hm, ht]; simp
theorem torn_write2 (N j i : Nat) (old s : List UInt8) (keep : Int) (hi : i < N) : DSt.start (DSt.write ⟨overB (zeros (N * 64)) (j * 64) old, N, [(1, keep)], 1, true⟩ (i : Int) s) = tornD N j i old s (keepN keep) ∧ DSt.writeE ⟨overB (zeros (N * 64)) (j * 64) old, N, [(1, keep)], 1, true⟩ (i : Int) = 131 ∧ (DSt.write ⟨overB (zeros (N * 64)) (j * 64) old, N, [(1, keep)], 1, true⟩ (i : Int) s).pw = false := by
  have hm : DSt.may ⟨overB (zeros (N * 64)) (j * 64) old, N, [(1, keep)], 1, true⟩ (i : Int) = 0 := by simp [DSt.may]; omega
  have ht : DSt.tears ⟨overB (zeros (N * 64)) (j * 64) old, N, [(1, keep)], 1, true⟩ = true := by simp [DSt.tears]
  refine ⟨?_, ?_, ?_⟩
  · unfold DSt.write; rw [if_pos hm, ht]; simp [DSt.put, DSt.start, DSt.keep, tornD]
  · unfold DSt.writeE; rw [if_pos hm, ht]; simp
  · unfold DSt.write; rw [if_pos hm, ht]; simp
theorem torn_read {N j i k : Nat} {old s : List UInt8} {m : Nat} (ho : old.length = 64) (hm : m ≤ 64) (hj : j < N) (hi : i < N) (hk : k < N) :
    (tornD N j i old s m).read (k : Int) = wantL j i old s m k ∧ (tornD N j i old s m).may (k : Int) = 0 := by
  have hmay : (tornD N j i old s m).may (k : Int) = 0 := by simp [DSt.may, tornD]; omega
  refine ⟨?_, hmay⟩
  unfold DSt.read
  rw [if_pos hmay]
  show ((overB (overB (zeros (N * 64)) (j * 64) old) (i * 64) (s.take m)).drop (k * 64)).take 64 = _
  rw [sector_over (n := N) (by rw [overB_length (by simp [zeros, ho]; omega)]; simp [zeros]) (by simp; omega) hi hk, sector_over (n := N) (by simp [zeros]) (by omega) hj hk, sector_zeros N k hk]
  unfold wantL
  by_cases hki : k = i
  · simp only [if_pos hki]
    by_cases hkj : k = j
    · simp only [if_pos hkj]
      rw [show overB (zeros 64) 0 old = old from by simp [overB, zeros, ho]]
    · simp only [if_neg hkj]
  · simp only [if_neg hki, overB_nil]
    by_cases hkj : k = j
    · simp only [if_pos hkj]
      rw [show overB (zeros 64) 0 old = old from by simp [overB, zeros, ho]]
    · simp only [if_neg hkj]

set_option maxRecDepth 20000 in
set_option maxHeartbeats 4000000 in
theorem diskTears_any (n : Int) (old s : List UInt8) (i keep j : Int) (w : World) (_hn : -9223372036854775808 ≤ n ∧ n ≤ 9223372036854775807) (ho : old.length = 64) (hs : s.length = 64) (hi : -9223372036854775808 ≤ i ∧ i ≤ 9223372036854775807) (hk : -9223372036854775808 ≤ keep ∧ keep ≤ 9223372036854775807) (hj : -9223372036854775808 ≤ j ∧ j ≤ 9223372036854775807) :
    Calls Try.prog 3 #[.int .i64 n, aggB old, aggB s, .int .i64 i, .int .i64 keep, .int .i64 j] w fun e w' => e = .returned (.bool true) ∧ Ext w w' := by
  unfold aggB
  obtain ⟨cO, hcO⟩ : ∃ c, (old.map u8v).toArray = c := ⟨_, rfl⟩
  obtain ⟨cS, hcS⟩ : ∃ c, (s.map u8v).toArray = c := ⟨_, rfl⟩
  have HcO := Lib.hid hcO
  have HcS := Lib.hid hcS
  have hiO := Lib.hid (show (Try.prog.info? 22).map (·.size) = some cO.size by rw [info_sec, ← hcO]; simp [ho])
  have hiS := Lib.hid (show (Try.prog.info? 22).map (·.size) = some cS.size by rw [info_sec, ← hcS]; simp [hs])
  rw [hcO, hcS]
  clear hcO hcS
  have HB : Hid (∀ w1, Ext ((w.alloc (.cells cO 22)).alloc (.cells cS 22)) w1 → Ext w w1 ∧ w1.heap[w.heap.size]? = some (.cells cO 22 (0, 0)) ∧ w1.heap[w.heap.size + 1]? = some (.cells cS 22 (0, 0)) ∧ w.heap.size + 1 < w1.heap.size) := fun w1 h => by
    have e : ∀ (A : World) (o : Obj), Ext A (A.alloc o) := fun A o => (Keep.refl _ A).alloc o
    have k1 := World.alloc_heap_new w (.cells cO 22)
    have k2 := World.alloc_heap_new (w.alloc (.cells cO 22)) (.cells cS 22)
    simp only [World.size_alloc] at k2
    have hh := h.size
    simp only [World.size_alloc] at hh
    exact ⟨((e _ _).trans (e _ _)).trans h, h.block _ _ ((e _ _).block _ _ k1 (fun h => h)) (fun h => h), h.block _ _ k2 (fun h => h), by omega⟩
  refine calls_cps fun R hR => ?_
  go_enter Try.func3, Try.ntmps3
  go_wp2_with fail
  refine (awake13_any _).mono ?_; rintro e w1 ⟨rfl, e1⟩
  obtain ⟨E1, bO, bS, hlt1⟩ := HB.out w1 e1
  clear HB e1
  by_cases c1 : n < 1
  · go_wp2
    try exact ⟨rfl, E1⟩
  · by_cases c2 : 100 < n
    · go_wp2
      try exact ⟨rfl, E1⟩
    · by_cases c3 : i < 0
      · go_wp2
        try exact ⟨rfl, E1⟩
      · by_cases c4 : n ≤ i
        · go_wp2
          try exact ⟨rfl, E1⟩
        · by_cases c5 : j < 0
          · go_wp2
            try exact ⟨rfl, E1⟩
          · by_cases c6 : n ≤ j
            · go_wp2
              try exact ⟨rfl, E1⟩
            · obtain ⟨N, rfl⟩ := Int.eq_ofNat_of_zero_le (show 0 ≤ n by omega)
              obtain ⟨i, rfl⟩ := Int.eq_ofNat_of_zero_le (show 0 ≤ i by omega)
              obtain ⟨j, rfl⟩ := Int.eq_ofNat_of_zero_le (show 0 ≤ j by omega)
              have hiN : i < N := by omega
              have hjN : j < N := by omega
              have hN100 : N ≤ 100 := by omega
              obtain ⟨hw1, hw1e⟩ := torn_write1 N j old keep hjN
              obtain ⟨hw2, hw2e, hw2d⟩ := torn_write2 N j i old s keep hiN
              have HW1 := Lib.hid hw1
              have HW1E := Lib.hid hw1e
              have HW2 := Lib.hid hw2
              have HW2E := Lib.hid hw2e
              have HW2D := Lib.hid hw2d
              have HO := Lib.hid ho
              have HS := Lib.hid hs
              clear hw1 hw1e hw2 hw2e hw2d ho hs hi hj
              go_wp2_with fail
              have hrow : Row 2 (w1.alloc (.cells #[.int .i64 1, .int .i64 keep] 27)) (some ⟨w1.heap.size, 0, none⟩) 1 1 (crC [(1, keep)]) := by
                obtain ⟨_, _, q1, q2⟩ := owns_row (World.ownsRow_lit (base := 0) (e := 27) (size := 2) w1 #[.int .i64 1, .int .i64 keep] 1 (Nat.zero_le _) (by simp [maxLen]) rfl)
                cases q1; exact q2
              refine (dnew_any (N : Int) N (by omega) _ 1 [(1, keep)] _ hrow (by simp)).mono ?_
              rintro e w2 ⟨v, rfl, ⟨B, gs, gc, rfl, hD, hb1, hb2, hb3⟩, e1⟩
              have e2 : Ext w1 w2 := ((Keep.refl _ w1).alloc _).trans e1
              simp only [World.size_alloc] at hb1 hb2
              have E2 := E1.trans e2
              replace bO := e2.block _ _ bO (fun h => h)
              replace bS := e2.block _ _ bS (fun h => h)
              clear hrow e1 e2 hb3 E1
              go_wp2_with (refine wpList_load_g 22 (.tmp 7) w.heap.size 22 cO ?_ ?_ ?_ ?_ Try.underlying22 rfl hiO.out ?_; rfl; rfl; rfl; exact bO)
              have hw := dwrite_any hD (j : Int) old HO.out (by simp)
              rw [HW1.out, HW1E.out] at hw
              unfold aggB at hw
              rw [HcO.out] at hw
              refine hw.mono ?_
              rintro e w3 ⟨rfl, hD3, e3⟩
              have E3 : Ext w w3 := ((Keep.of_ext E2).trans e3).mono (fun k o ho hx => by have := Keep.lt ho; omega)
              replace bO := e3.block _ _ bO (by omega)
              replace bS := e3.block _ _ bS (by omega)
              clear hw hD e3 E2
              go_wp2_with (refine wpList_load_g 22 (.tmp 8) (w.heap.size + 1) 22 cS ?_ ?_ ?_ ?_ Try.underlying22 rfl hiS.out ?_; rfl; rfl; rfl; exact bS)
              have hw := dwrite_any hD3 (i : Int) s HS.out (by simp)
              rw [HW2E.out] at hw
              unfold aggB at hw
              rw [HcS.out] at hw
              refine hw.mono ?_
              rintro e w4 ⟨rfl, hD4, e4⟩
              have E4 : Ext w w4 := ((Keep.of_ext E3).trans e4).mono (fun k o ho hx => by have := Keep.lt ho; omega)
              replace bO := e4.block _ _ bO (by omega)
              replace bS := e4.block _ _ bS (by omega)
              clear hw hD3 e4 E3
              go_wp2_with fail
              have hd := dead_any hD4
              rw [HW2D.out] at hd
              refine hd.mono ?_
              rintro e w5 ⟨rfl, e5⟩
              have hD5 := hD4.ext e5
              have E5 := E4.trans e5
              replace bO := e5.block _ _ bO (fun h => h)
              replace bS := e5.block _ _ bS (fun h => h)
              clear hd hD4 e5 E4
              go_wp2_with fail
              have hst := dstart_any hD5
              rw [HW2.out] at hst
              refine hst.mono ?_
              rintro e w6 ⟨⟨v, rfl⟩, hD6, e6⟩
              have E6 : Ext w w6 := ((Keep.of_ext E5).trans e6).mono (fun k o ho hx => by have := Keep.lt ho; omega)
              replace bO := e6.block _ _ bO (by omega)
              replace bS := e6.block _ _ bS (by omega)
              clear hst hD5 e6 E5 HW1 HW1E HW2 HW2E HW2D
              have hm64 : keepN keep ≤ 64 := by unfold keepN; omega
              have hmv : (min (max keep 0) 64 : Int) = (keepN keep : Int) := by unfold keepN; omega
              obtain ⟨m, hm⟩ : ∃ m, keepN keep = m := ⟨_, rfl⟩
              rw [hm] at hD6 hm64 hmv
              have hrd := Lib.hid (fun k (hk : k < N) => torn_read (k := k) (s := s) HO.out hm64 hjN hiN hk)
              obtain ⟨D, hDD⟩ : ∃ D, tornD N j i old s m = D := ⟨_, rfl⟩
              rw [hDD] at hD6 hrd
              clear hDD hm
              have HZ := Lib.hid (show (List.replicate 64 (Value.int .u8 0)).toArray = ((zeros 64).map u8v).toArray from rfl)
              obtain ⟨cZ, hcZ⟩ : ∃ c, ((zeros 64).map u8v).toArray = c := ⟨_, rfl⟩
              have HcZ := Lib.hid hcZ
              rw [hcZ] at HZ
              have hiZ := Lib.hid (show (Try.prog.info? 22).map (·.size) = some (List.replicate 64 (Value.int .u8 0)).toArray.size by rw [info_sec]; rfl)
              have hone : ((List.replicate 64 (Value.int .u8 0)).toArray).all (·.oneCell') = true := by rw [HZ.out, ← hcZ]; exact all_one _
              have HON := Lib.hid hone
              have hcO1 := Lib.hid (show cO.all (·.oneCell') = true by rw [← HcO.out]; exact all_one _)
              have hcZO := Lib.hid (show cZ.size = cO.size by rw [← HcO.out, ← hcZ]; simp [zeros, HO.out])
              clear hcZ hone
              go_wp2
              go_loopw [14] (fun t14 wr => ∃ k : Nat, k ≤ N ∧ t14 = .int .i64 k ∧ PD wr B gs gc D ∧ Ext w wr ∧ wr.heap[w.heap.size]? = some (.cells cO 22 (0, 0)) ∧ wr.heap[w.heap.size + 1]? = some (.cells cS 22 (0, 0)) ∧ w.heap.size + 1 < wr.heap.size) (fun t14 _ => N - (intOf t14).toNat)
              case atStart => exact ⟨0, by omega, rfl, hD6, E6, bO, bS, Keep.lt bS⟩
              case round =>
                obtain ⟨k, hkN, rfl, hDr, Er, bOr, bSr, hlr⟩ := hrel
                clear bO bS hD6 E6
                by_cases hk : k < N
                · obtain ⟨hr1, hr2⟩ := hrd.out k hk
                  have HR1 := Lib.hid hr1
                  have HR2 := Lib.hid hr2
                  clear hr1 hr2
                  have hwant : ∀ c, (k ≠ i → c = 0) → (k = i → c = m) → overB (if k = j then old else zeros 64) 0 (s.take c) = wantL j i old s m k := fun c h1 h2 => by
                    unfold wantL
                    by_cases h : k = i
                    · rw [if_pos h, h2 h]
                    · rw [if_neg h, h1 h, List.take_zero]
                  have HW := Lib.hid hwant
                  clear hwant
                  have hwl : (wantL j i old s m k).length = 64 := by
                    unfold wantL
                    rw [overB_length]
                    · split; exact HO.out; rfl
                    · split <;> split <;> simp [HO.out, zeros] <;> omega
                  obtain ⟨Y, hY⟩ : ∃ Y, wantL j i old s m k = Y := ⟨_, rfl⟩
                  rw [hY] at HW HR1 hwl
                  have HYL := Lib.hid hwl
                  clear hY hwl
                  obtain ⟨base, hbase⟩ : ∃ b, (if k = j then old else zeros 64) = b := ⟨_, rfl⟩
                  rw [hbase] at HW
                  have hbl := Lib.hid (show base.length = 64 by rw [← hbase]; split; exact HO.out; rfl)
                  have hcell : ∀ c : Array Value, (base.map u8v).toArray = c → Hid (Arr (wr.alloc (.cells c 22)) wr.heap.size 22 (base.map u8v)) := fun c hc => Lib.hid (by
                    unfold Arr; rw [hc]; exact World.alloc_heap_new _ _)
                  by_cases hkj : k = j
                  case' pos =>
                    rw [if_pos hkj] at hbase
                    have HA := hcell cO (by rw [← hbase]; exact HcO.out)
                    subst hkj
                    clear hbase hcell
                    have bO1 : (wr.alloc (.cells cZ 22)).heap[w.heap.size]? = some (.cells cO 22 (0, 0)) := ((Keep.refl (fun _ _ => False) wr).alloc _).block _ _ bOr (fun h => h)
                    have bZ := World.alloc_heap_new wr (.cells cZ 22)
                    go_wp2_with (first | (refine wpList_store_row ?_ 22 (.tmp 15) (.tmp 74) ?_ wr.heap.size (List.replicate 64 (Value.int .u8 0)).toArray ?_ ?_ 22 (List.replicate 64 (Value.int IntKind.u8 0)).toArray ?_ hiZ.out rfl HON.out ?_; rfl; rfl; rfl; rfl; exact Arr.new wr 22 (List.replicate 64 (.int .u8 0)); rw [World.setRow_alloc_new, HZ.out]) | (refine wpList_load_g 22 (.tmp 7) w.heap.size 22 cO ?_ ?_ ?_ ?_ Try.underlying22 rfl hiO.out ?_; rfl; rfl; rfl; exact bO1) | (refine wpList_store_row ?_ 22 (.tmp 15) (.tmp 78) ?_ wr.heap.size cO ?_ ?_ 22 cZ ?_ hiO.out hcZO.out hcO1.out ?_; rfl; rfl; rfl; rfl; exact bZ; rw [World.setRow_alloc_new]))
                    clear bO1 bZ
                    have hsz : wr.heap.size < (wr.alloc (.cells cO 22)).heap.size := by simp
                    have hEW : Ext wr (wr.alloc (.cells cO 22)) := (Keep.refl _ wr).alloc _
                    obtain ⟨W, hW⟩ : ∃ W, wr.alloc (.cells cO 22) = W := ⟨_, rfl⟩
                    rw [hW] at HA hsz hEW ⊢
                    clear hW
                  case' neg =>
                    rw [if_neg hkj] at hbase
                    have HA := hcell cZ (by rw [← hbase]; exact HcZ.out)
                    clear hbase hcell
                    go_wp2_with (first | (refine wpList_store_row ?_ 22 (.tmp 15) (.tmp 74) ?_ wr.heap.size (List.replicate 64 (Value.int .u8 0)).toArray ?_ ?_ 22 (List.replicate 64 (Value.int IntKind.u8 0)).toArray ?_ hiZ.out rfl HON.out ?_; rfl; rfl; rfl; rfl; exact Arr.new wr 22 (List.replicate 64 (.int .u8 0)); rw [World.setRow_alloc_new, HZ.out]))
                    have hsz : wr.heap.size < (wr.alloc (.cells cZ 22)).heap.size := by simp
                    have hEW : Ext wr (wr.alloc (.cells cZ 22)) := (Keep.refl _ wr).alloc _
                    obtain ⟨W, hW⟩ : ∃ W, wr.alloc (.cells cZ 22) = W := ⟨_, rfl⟩
                    rw [hW] at HA hsz hEW ⊢
                    clear hW
                  all_goals
                    have hA := HA.out
                    have hDW := hDr.ext hEW
                    have hEW2 := Er.trans hEW
                    have bOW := hEW.block _ _ bOr (fun h => h)
                    have bSW := hEW.block _ _ bSr (fun h => h)
                    obtain ⟨P15, hP⟩ : ∃ p, wr.heap.size = p := ⟨_, rfl⟩
                    rw [hP] at hA hsz hlr ⊢
                    have hBP := hDr.lts
                    rw [hP] at hBP
                    clear hEW hP bOr bSr HA Er hDr
                    go_loopw [16] (fun t16 wi => ∃ c : Nat, c ≤ m ∧ (k ≠ i → c = 0) ∧ t16 = .int .i64 c ∧ Arr wi P15 22 ((overB base 0 (s.take c)).map u8v) ∧ Keep (fun b _ => b = P15) W wi) (fun t16 _ => 64 - (intOf t16).toNat)
                    case atStart => exact ⟨0, by omega, fun _ => rfl, rfl, by rw [List.take_zero, overB_nil]; exact hA, Keep.refl _ _⟩
                    case round =>
                      obtain ⟨c, hc1, hc2, rfl, hA', hK⟩ := hrel
                      clear hA
                      by_cases hin : k = i ∧ c < m
                      · obtain ⟨hki, hcm⟩ := hin
                        subst hki
                        have hck : (c : Int) < keep := by omega
                        have hc64 : c < 64 := by omega
                        have hsl : c < s.length := by rw [HS.out]; exact hc64
                        have hSr := hK.block _ _ bSW (by omega)
                        have hSA : Arr wr (w.heap.size + 1) 22 (s.map u8v) := by unfold Arr; rw [HcS.out]; exact hSr
                        have cs := hSA.cell (i := c) (v := .int .u8 (s[c].toNat : Int)) (by simp [List.getElem?_eq_getElem hsl, u8v])
                        have hbl2 : ((overB base 0 (s.take c)).map u8v).length = 64 := by rw [List.length_map, overB_length (by simp [hbl.out, HS.out]; omega), hbl.out]
                        obtain ⟨x, hx⟩ : ∃ x, ((overB base 0 (s.take c)).map u8v)[c]? = some x := ⟨_, List.getElem?_eq_getElem (by omega)⟩
                        have cp := hA'.cell hx
                        have fp := hA'.frozen c
                        have hA2 := hA'.set c (.int .u8 (s[c].toNat : Int))
                        rw [show (Value.int .u8 (s[c].toNat : Int)) = u8v s[c] from rfl, overB_step (by rw [hbl.out, HS.out]) hsl] at hA2
                        have hK2 := hK.trans (keep_setCell wr P15 c (.int .u8 (s[c].toNat : Int)))
                        obtain ⟨sc, hsc⟩ : ∃ y, s[c] = y := ⟨_, rfl⟩
                        rw [hsc] at cs hA2 hK2
                        have HA2 := Lib.hid hA2
                        clear hSA hSr hbl2 hx hA' hA2 hsc hK hc2
                        go_wp2
                        go_roundw
                        case rel => exact ⟨c + 1, by omega, by omega, HA2.out⟩
                        case measure => simp [intOf]; omega
                      · have hc3 : k = i → c = m := fun h => by
                          by_cases h' : c < m
                          · exact absurd ⟨h, h'⟩ hin
                          · omega
                        have hX := HW.out c hc2 hc3
                        rw [hX] at hA'
                        have HX := Lib.hid hA'
                        have H3 := Lib.hid hc3
                        have H2 := Lib.hid hc2
                        clear hX hA' hin hc3 hc2
                        by_cases hki : k = i
                        case' pos =>
                          have hcm := H3.out hki
                          have hkib : ((k : Int) == (i : Int)) = true := beq_iff_eq.2 (by omega)
                          have hcond : (c : Int) < 64 → ¬ (c : Int) < keep := fun h h' => by omega
                          have hcc : ((c : Int) < 64 ∧ ¬ (c : Int) < keep) ∨ ¬ (c : Int) < 64 := by omega
                          clear hcond hki hcm
                          rcases hcc with ⟨hcc1, hcc2⟩ | hcc1
                        case' neg =>
                          have hkib : ((k : Int) == (i : Int)) = false := by simpa using (fun h => hki (by omega))
                          clear hki
                        all_goals
                          have hKW : PD wr B gs gc D := hDW.keep hK (fun _ => by omega) (fun _ _ => by omega) (fun h _ => by have := hBP.2.2 h; omega)
                          have hEX : Ext w wr := ((Keep.of_ext (X := fun b _ => b = P15) hEW2).trans hK).mono (fun k o ho hx => by have := Keep.lt ho; omega)
                          have bO3 := hK.block _ _ bOW (by omega)
                          have bS3 := hK.block _ _ bSW (by omega)
                          have hsz3 : P15 < wr.heap.size := (HX.out).lt
                          clear hK hDW hEW2 bOW bSW
                          have hr := dread_any hKW (k : Int)
                          rw [HR1.out, HR2.out] at hr
                          unfold aggB at hr
                          have hyc := bytes_cells Y HYL.out
                          have hy1 := all_one Y
                          have hX := HX.out
                          unfold Arr at hX
                          have hiY := Lib.hid (show (Try.prog.info? 22).map (·.size) = some (Y.map u8v).toArray.size by rw [info_sec]; simp [HYL.out])
                          have hzY := Lib.hid (show (List.replicate 64 (Value.int .u8 0)).toArray.size = (Y.map u8v).toArray.size by simp [HYL.out])
                          obtain ⟨cY, hcY⟩ : ∃ c, (Y.map u8v).toArray = c := ⟨_, rfl⟩
                          rw [hcY] at hr hyc hy1 hX hiY hzY
                          have heq := fun w => run_neq_arr (P := Try.prog) (w := w) cY Try.underlying22 Try.underlying5 size_u8 hyc
                          have HY1 := Lib.hid hy1
                          have HXX := Lib.hid hX
                          clear hcY hyc hy1 hX HX H2 H3 HW HR1 HR2
                          go_wp2_with fail
                          refine hr.mono ?_
                          rintro e w7 ⟨rfl, e7⟩
                          have eA : Ext w7 (w7.alloc (.cells cY 22)) := (Keep.refl _ w7).alloc _
                          have bY := (e7.trans eA).block _ _ HXX.out (fun h => h)
                          have bO4 := (e7.trans eA).block _ _ bO3 (fun h => h)
                          have bS4 := (e7.trans eA).block _ _ bS3 (fun h => h)
                          have hD4 := hKW.ext (e7.trans eA)
                          have E4 := hEX.trans (e7.trans eA)
                          clear hr hKW hEX bO3 bS3 e7 eA HXX
                          go_wp2_with (first | (refine wpList_store_row ?_ 22 (.tmp 17) (.tmp 102) ?_ w7.heap.size cY ?_ ?_ 22 (List.replicate 64 (Value.int IntKind.u8 0)).toArray ?_ hiY.out hzY.out HY1.out ?_; rfl; rfl; rfl; rfl; exact Arr.new w7 22 (List.replicate 64 (.int .u8 0)); rw [World.setRow_alloc_new]) | (refine wpList_load_g 22 (.tmp 17) w7.heap.size 22 cY ?_ ?_ ?_ ?_ Try.underlying22 rfl hiY.out ?_; rfl; rfl; rfl; exact World.alloc_heap_new _ _) | (refine wpList_load_g 22 (.tmp 15) P15 22 cY ?_ ?_ ?_ ?_ Try.underlying22 rfl hiY.out ?_; rfl; rfl; rfl; exact bY))
                          go_roundw
                          case rel => exact ⟨k + 1, by omega, by go_num, hD4, E4, bO4, bS4, Keep.lt bS4⟩
                          case measure => simp [intOf]; omega
                · obtain rfl : k = N := by omega
                  go_wp2
                  exact ⟨rfl, Er⟩
end Go.Proofs.Ythbffmdfdbfioaa
