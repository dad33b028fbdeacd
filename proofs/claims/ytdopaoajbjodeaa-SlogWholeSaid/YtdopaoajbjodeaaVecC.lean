/-
  vec.Words.
-/
import Derived.Test.YtdopaoajbjodeaaVecB
import Derived.Test.YtdopaoajbjodeaaWord
namespace Go.Proofs.Ytdopaoajbjodeaa
open Go.RowKit Go.Shelf
attribute [local go_sem] Oper.semAt_some

/-- The number that the first k of some bytes are, the lowest ahead. -/
def leN (c : List UInt8) : Nat → Nat
  | 0 => 0
  | k + 1 => leN c k + (c.getD k 0).toNat * 256 ^ k
theorem leN_lt (c : List UInt8) (k : Nat) : leN c k < 256 ^ k := by
  induction k with
  | zero => simp [leN]
  | succ k ih =>
    have h := (c.getD k 0).toNat_lt
    simp only [leN]
    have h2 : (c.getD k 0).toNat * 256 ^ k ≤ 255 * 256 ^ k := Nat.mul_le_mul_right _ (by omega)
    rw [Nat.pow_succ]
    omega
/-- The k-th word of some bytes. -/
def wordAt (l : List UInt8) (k : Nat) : UInt32 := UInt32.ofNat (leN (chunkAt 4 l k) 4)
def wordsOf (l : List UInt8) : List UInt32 := (List.range (l.length / 4)).map (wordAt l)
theorem chunk_take {l : List UInt8} {k : Nat} (hk : k < l.length / 4) : chunkAt 4 (l.take (l.length / 4 * 4)) k = chunkAt 4 l k ∧ (chunkAt 4 l k).length = 4 := by
  unfold chunkAt
  have : k * 4 + 4 ≤ l.length / 4 * 4 := by omega
  refine ⟨?_, by simp; omega⟩
  rw [List.drop_take, List.take_take, Nat.min_eq_left (by omega)]
theorem chunkN_4 (q : Nat) : chunkN 4 (q * 4) = q := by unfold chunkN; rw [if_neg (by omega)]; simp; omega
theorem or_step {x b : Nat} {j : Nat} (hj : j < 4) (hx : x < 256 ^ j) (hb : b < 256) : bits .or .u32 (x : Int) ((b : Int) * 2 ^ (8 * j) % 4294967296) = ((x + b * 256 ^ j : Nat) : Int) := by
  have e : (256 : Nat) ^ j = 2 ^ (8 * j) := by rw [show 256 = 2 ^ 8 from rfl, ← Nat.pow_mul]
  have h4 : (256 : Nat) ^ j * 256 ≤ 4294967296 := by
    have := Nat.pow_le_pow_right (show 0 < 256 by omega) (show j + 1 ≤ 4 by omega)
    rw [Nat.pow_succ] at this; simpa using this
  have hlt : b * 256 ^ j < 4294967296 := by
    have : b * 256 ^ j ≤ 255 * 256 ^ j := Nat.mul_le_mul_right _ (by omega)
    have : 0 < 256 ^ j := Nat.pow_pos (by omega)
    omega
  have c0 : ((b : Int) * 2 ^ (8 * j) % 4294967296) = ((b * 256 ^ j : Nat) : Int) := by
    have : ((b : Int) * 2 ^ (8 * j)) = ((b * 256 ^ j : Nat) : Int) := by rw [e]; push_cast; rfl
    rw [this]; generalize b * 256 ^ j = y at hlt ⊢; omega
  rw [c0, u32_or_nat x _ (by have : 0 < 256 ^ j := Nat.pow_pos (by omega); omega) hlt]
  rw [Nat.or_comm, nat_join (8 * j) (b * 256 ^ j) x (by rw [e]; exact Nat.mul_mod_left _ _) (by rw [← e]; exact hx)]
  rw [Nat.add_comm]
theorem info_u32 : (Try.prog.info? 26).map (fun i => (i.zero, i.size, i.bytes)) = some (some (.int .u32 0), 1, 4) := by kernel_rfl

set_option maxRecDepth 20000 in
set_option maxHeartbeats 1000000 in
theorem words_any (a : Option Addr) (len c : Nat) (l : List UInt8) (w : World) (hr : Row 1 w a len c (l.map u8v)) (hl47 : len ≤ 140737488355328) :
    Calls Try.prog 43 #[.slice a len c] w fun e w' => ∃ a' c', e = .returned (.slice a' (wordsOf l).length c') ∧
      w'.ownsRow w.heap.size 26 1 (.slice a' (wordsOf l).length c') (wordsOf l).length ((wordsOf l).map u32v) ∧ Ext w w' := by
  have hll : l.length = len := by have := hr.2.2.1; simpa using this
  have hlc := hr.1
  have hmx := hr.2.1
  unfold maxLen at hmx
  obtain ⟨i0, hi, hz0, hz1, hz2⟩ := info_parts info_u32
  refine calls_cps fun R hR => ?_
  refine calls_marks Try.func43 rfl ?_
  simp only [Try.ntmps43, List.size_toArray, List.length_cons, List.length_nil, Nat.reduceAdd, Nat.reduceSub, Array.replicate_succ, Array.replicate_zero, List.push_toArray, List.append_toArray, List.nil_append, List.cons_append]
  go_wp2_with (first | (at_make; go_must (refine wpList_make_own _ rfl _ _ 90 rfl w.heap.size 26 i0 _ 1 Try.underlying90 hi hz0 hz1 .i64 .i64 _ (len / 4) rfl rfl (by omega) (by rw [hz2]; omega) (by unfold maxLen; omega) (Nat.le_refl _) ?_); intro w1 hown1 hgrow1) | fail)
  refine (chunks_any _ _ _ _ _).mono ?_; rintro e w2 ⟨rfl, hw2⟩
  have HW2 := Lib.hid hw2
  clear hw2
  go_wp2_with fail
  have hE1 : Ext w w1 := Keep.of_grownBy hgrow1 (fun k o h _ => by cases h)
  have bO : Boxed w2 w1.heap.size 90 (.slice (some ⟨w.heap.size, 0, none⟩) 0 (len / 4)) := by rw [HW2.out]; exact ((Boxed.new _ _ _).alloc _).alloc _
  have bB : Boxed w2 (w1.heap.size + 1) 25 (.slice a (len / 4 * 4) c) := by
    rw [HW2.out]; have := Boxed.new (w1.alloc (.cells #[.slice (some ⟨w.heap.size, 0, none⟩) 0 (len / 4)] 90)) 25 (.slice a (len / 4 * 4) c); rw [World.size_alloc] at this; exact this.alloc _
  have bN : Boxed w2 (w1.heap.size + 1 + 1) 3 (.int .i64 4) := by
    rw [HW2.out]; have := Boxed.new ((w1.alloc (.cells #[.slice (some ⟨w.heap.size, 0, none⟩) 0 (len / 4)] 90)).alloc (.cells #[.slice a (len / 4 * 4) c] 25)) 3 (.int .i64 4); rw [World.size_alloc, World.size_alloc] at this; exact this
  have hE2 : Ext w1 w2 := by rw [HW2.out]; exact (((Keep.refl _ _).alloc _).alloc _).alloc _
  have hs1 := hE1.size
  have hs2 : w2.heap.size = w1.heap.size + 1 + 1 + 1 := by rw [HW2.out]; simp
  have hE : Ext w w2 := hE1.trans hE2
  have hown2 := hE2.owns hown1
  have hab : ∀ p, a = some p → 0 < len → p.block < w.heap.size := fun p hp hl => by
    obtain ⟨b, off, h1, h2⟩ := hr.2.2.2.2 hl
    rw [hp] at h1; cases h1
    exact World.block_lt_of_cell? w _ (h2 0 _ (List.getElem?_eq_getElem (by simp; omega)))
  have hrT : Row 1 w2 a (len / 4 * 4) c ((l.take (len / 4 * 4)).map u8v) := by
    have := (hr.ext hE).cut (lo := 0) (hi := len / 4 * 4) (by omega) (by omega)
    simp only [Nat.sub_zero, List.drop_zero, Nat.mul_one, ← List.map_take] at this
    rwa [show (if c = 0 then a else Option.map (fun x => x.add 0) a) = a from by split; rfl; cases a <;> simp [Addr.add]] at this
  refine range_wp rfl (enters_of Try.func52 (by kernel_rfl) rfl)
    (chunks1_iter (w1.heap.size + 1 + 1) (w1.heap.size + 1) a (len / 4 * 4) c 4 (l.take (len / 4 * 4)) (by omega) (by omega))
    (fun _ h => h.elim) (fun b h => by rcases h with rfl | rfl | ⟨p, hp, hl, rfl⟩; omega; omega; (have := hab p hp (by omega); have := hE.size; omega))
    (fun _ _ _ ⟨v, h, _⟩ => by rw [h]; rfl) (fun A hA => ⟨hA.boxed bN, hA.boxed bB, hrT.ext hA⟩)
    (fun k A => ∃ v, Boxed A w1.heap.size 90 v ∧ A.ownsRow w.heap.size 26 1 v k (((List.range k).map (wordAt l)).map u32v) ∧ Ext w A ∧ Boxed A (w1.heap.size + 1 + 1) 3 (.int .i64 4) ∧ Boxed A (w1.heap.size + 1) 25 (.slice a (len / 4 * 4) c))
    (fun _ _ _ => False)
    (fun k A B ⟨v, h1, h2, h3, h4, h5⟩ hk => ⟨v, hk.boxed_turn h1 id, hk.owns_turn h2 (fun _ _ => id), h3.then_turn hk (by omega) (fun _ _ h _ => h), hk.boxed_turn h4 id, hk.boxed_turn h5 id⟩)
    (fun k c A B h hk => h.elim)
    (fun h => h.elim) ⟨_, bO, hown2, hE, bN, bB⟩ ?round ?done ?stop
  case round =>
    rintro l' k A args KN KX hk ⟨v, hv, hrow, hA, hN, hB⟩ ⟨ch, rfl, hch⟩ hKN _
    rw [chunkN_4] at hk
    obtain ⟨hc1, hc2⟩ := chunk_take (l := l) (k := k) (by omega)
    rw [hll] at hc1
    have HC := Lib.hid hc1
    clear hc1
    simp only [show (4 : Int).toNat = 4 from rfl] at hch
    rw [HC.out] at hch
    obtain ⟨cw, hcw⟩ : ∃ cw, chunkAt 4 l k = cw := ⟨_, rfl⟩
    rw [hcw] at hch hc2
    rw [hc2] at hch
    obtain ⟨a1, c1, rfl, hr1⟩ := owns_row hch
    obtain ⟨b1, o1, rfl, hcell⟩ := hr1.2.2.2.2 (by omega)
    have HCW := Lib.hid hcw
    clear hcw
    gi_wp2
    refine ⟨Keep.refl _ _, fun C hC => ?_⟩
    replace hv := hC.boxed_turn hv id
    replace hrow := hC.owns_turn hrow (fun _ _ => id)
    replace hA := hA.then_turn hC (by omega) (fun _ _ h _ => h)
    replace hN := hC.boxed_turn hN id
    replace hB := hC.boxed_turn hB id
    have hcellC : ∀ j, j < 4 → C.cell? ⟨b1, o1 + j, none⟩ = some (.int .u8 ((cw.getD j 0).toNat : Int)) := fun j hj => hC.cell_turn (hcell j _ (by simp [hc2, hj, u8v])) id
    have HCC := Lib.hid hcellC
    clear hcellC hcell hr1 hch
    gi_wp2
    gi_loop [5, 22] (fun x i => ∃ j : Nat, j ≤ 4 ∧ i = .int .i64 j ∧ x = .int .u32 (leN cw j)) (fun _ i => 4 - (intOf i).toNat)
    case atStart => exact ⟨0, by omega, rfl, rfl⟩
    case round =>
      obtain ⟨j, hj, rfl, rfl⟩ := hrel
      by_cases hlt : j < 4
      · have hcj := HCC.out j hlt
        have hb := (cw.getD j 0).toNat_lt
        have hx := leN_lt cw j
        obtain ⟨bj, hbj⟩ : ∃ bj, (cw.getD j 0).toNat = bj := ⟨_, rfl⟩
        rw [hbj] at hcj hb
        gi_wp2
        go_round
        case rel => exact ⟨j + 1, by omega, by go_num, by rw [or_step hlt hx hb]; simp only [leN, hbj]⟩
        case measure => simp [intOf]; omega
      · obtain rfl : j = 4 := by omega
        have hlt4 := leN_lt cw 4
        have hw4 : (wordAt l k).toNat = leN cw 4 := by unfold wordAt; rw [HCW.out, UInt32.toNat_ofNat', Nat.mod_eq_of_lt hlt4]
        obtain ⟨x4, hx4⟩ : ∃ x4, leN cw 4 = x4 := ⟨_, rfl⟩
        rw [hx4] at hw4
        have H4 := Lib.hid hw4
        clear hw4 hlt4
        have hrow0 := hrow.alloc (.cells #[.int .u32 (x4 : Int)] 26)
        have hsrc : Row 1 (C.alloc (.cells #[.int .u32 (x4 : Int)] 26)) (some ⟨C.heap.size, 0, none⟩) 1 1 [.int .u32 (x4 : Int)] := by
          have := owns_row (World.ownsRow_lit (base := 0) (e := 26) (size := 1) C #[.int .u32 (x4 : Int)] 1 (by omega) (by simp [maxLen]) rfl)
          obtain ⟨_, _, h1, h2⟩ := this
          cases h1; exact h2
        obtain ⟨v', w', hrun, hown', hgrow, _⟩ := run_append_row (C.alloc (.cells #[.int .u32 (x4 : Int)] 26)) w.heap.size 90 90 26 _ 1 4 Try.underlying90 info_u32 rfl (by decide) hrow0 hsrc (by simp [Value.oneCell']) (by unfold maxLen; omega) (by omega) (by have := hA.size; simp; omega)
        have Hrun := Lib.hid hrun
        clear hrun
        obtain ⟨g', cp', rfl⟩ := ownsRow_succ hown'
        have hvB : ∀ g, v.ownBlock = some g → w.heap.size ≤ g ∧ g < C.heap.size := hrow.lt
        obtain ⟨x1, x2, x3, x4'⟩ := box_append (X := Go.Proofs.Ytdopaoajbjodeaa.round w2.heap.size (fun b => b = w1.heap.size + 1 + 1 ∨ b = w1.heap.size + 1 ∨ ∃ p, a = some p ∧ 0 < len / 4 * 4 ∧ b = p.block)) hv (by decide) hrow
          ((Keep.refl _ C).alloc (.cells #[.int .u32 (x4 : Int)] 26)) hown' hgrow
          ⟨fun h => by rcases h with h | h | ⟨p, hp, hl, h⟩; omega; omega; (have := hab p hp (by omega); omega), .inr rfl⟩
          (fun g cur hg => ⟨fun h => by have := hvB g hg; rcases h with h | h | ⟨p, hp, hl, h⟩; (subst h; exact hN.not_row (by decide) hrow hg.symm); (subst h; exact hB.not_row (by decide) hrow hg.symm); (have := hab p hp (by omega); omega), .inr rfl⟩)
        have cO := hv.cell
        have cO1 := x1.cell
        have fO1 := x1.frozen
        gi_wp2_with (gi_at_builtin; go_must (refine wpListIn_append_run Hrun.out rfl rfl rfl rfl ?_))
        refine hKN _ _ x4' ⟨_, x2, ?_, ?_, x4'.boxed hN (fun h => h.1 (.inl rfl)), x4'.boxed hB (fun h => h.1 (.inr (.inl rfl)))⟩
        · rw [List.range_succ, List.map_append, List.map_append]
          simp only [List.map_cons, List.map_nil, u32v, H4.out]
          exact x3
        · exact Ext.of_below (((((Ext.below hA).alloc hA.size _).grown hgrow (by have := hA.size; simp; omega) (fun g hg => (hvB g hg).1)).setCell (p := ⟨w1.heap.size, 0, none⟩) (by omega) _))
  case done =>
    rintro D A hD ⟨v, hv, hrow, hA, _, _⟩ hd
    rw [chunkN_4, ← hll] at hrow
    have cO := hv.cell
    obtain ⟨av, cv, rfl, _⟩ := owns_row hrow
    go_wp2
    refine mark_ret hd rfl (results_tmp rfl _ _ _) (hR _ _ ⟨av, cv, ?_, ?_, ?_⟩)
    · have : (wordsOf l).length = l.length / 4 := by simp [wordsOf]
      rw [this, hll]; rfl
    · have : (wordsOf l).length = l.length / 4 := by simp [wordsOf]
      rw [this]
      exact ownsRow_putObj hrow _ hd rfl
    · exact hA.putObj _ _ (fun o ho => by have := Keep.lt ho; have := hA.size; have := hE.size; omega)
  case stop =>
    rintro D c k A hD hk h
    exact h.elim
end Go.Proofs.Ytdopaoajbjodeaa
