/-
  tabulariumref01.Chunks: pieces, copied.
-/
import Derived.Test.YtijpbbjblenhaaaLit
import Derived.Test.YtijpbbjblenhaaaFlow
import Derived.Test.YtijpbbjblenhaaaBytes
import Derived.Test.YtijpbbjblenhaaaVecB
namespace Go.Proofs.Ytijpbbjblenhaaa
open Go.RowKit Go.Shelf

theorem info_bytes : (Try.prog.info? 37).map (fun i => (i.zero, i.size, i.bytes)) = some (some (.slice none 0 0), 1, 24) := by kernel_rfl

def chunksL (n : Int) (l : List UInt8) : List (List UInt8) := (List.range (chunkN n l.length)).map (chunkAt n.toNat l)

theorem OwnTexts.more {W W0 w' : World} {T : TypeId} {base k : Nat} {v v1 : Value} {vs : List Value} {ls : List (List UInt8)} {l : List UInt8} (hT : T ≠ 5) (ho : OwnTexts W vs ls) (hrow : W.ownsRow base T 1 v k vs)
    (h1 : W.ownsRow 0 5 1 v1 l.length (l.map u8v)) (hE : Ext W W0) (hg : W0.grownBy w' v.ownBlock) : OwnTexts w' (vs ++ [v1]) (ls ++ [l]) := by
  have hk : Keep (fun _ o => ∃ cur fr, o = .cells cur T fr) W w' := (Keep.of_ext hE).grown hg (fun g o hg ho => by
    rcases hrow.2 with ⟨rfl, _⟩ | ⟨g', cap, cur, rfl, _, hgb, _⟩
    · simp [Value.ownBlock] at hg
    · obtain rfl : g' = g := by simpa [Value.ownBlock] using hg
      rw [hgb] at ho; cases ho; exact ⟨_, _, rfl⟩)
  have hX : ∀ (k : Nat) (cur : Array Value), ¬ (fun (_ : Nat) (o : Obj) => ∃ cur fr, o = .cells cur T fr) k (.cells cur 5 (0, 0)) := fun k cur ⟨_, _, h⟩ => by cases h; exact hT rfl
  exact (ho.keep hk hX).snoc (hk.owns' h1 (fun k cur _ => hX k cur))

theorem take_len {l : List UInt8} {t m len : Nat} (hl : l.length = len) : ((l.drop t).take m).length = min m (len - t) := by simp [hl]

set_option maxHeartbeats 1000000 in
theorem refChunks_pos (a : Option Addr) (len c m : Nat) (l : List UInt8) (w : World) (hm : 0 < m) (hm63 : (m : Int) ≤ 9223372036854775807) (hr : Row 1 w a len c (l.map u8v)) (hl32 : len ≤ 4294967296) :
    Calls Try.prog 25 #[.slice a len c, .int .i64 m] w fun e w' => ∃ a' c', e = .returned (.slice a' (chunkN m len) c') ∧ (∃ vs, w'.ownsRow w.heap.size 37 1 (.slice a' (chunkN m len) c') (chunkN m len) vs ∧ OwnTexts w' vs (chunksL m l)) ∧ Ext w w' := by
  have hll : l.length = len := by have := hr.2.2.1; simpa using this
  have hge : ((m : Int) ≥ 1) := by omega
  refine calls_cps fun R hR => ?_
  go_enter Try.func25, Try.ntmps25
  go_wp2
  go_loopw [0, 5] (fun b out wr => ∃ (k t r rc : Nat) (a' ao : Option Addr) (co : Nat) (vs : List Value), k ≤ chunkN m len ∧ t + r = len ∧ t + rc = c ∧ Hid (t = min (k * m) len) ∧ b = .slice a' r rc ∧ Row 1 w a' r rc ((l.drop t).map u8v) ∧
      out = .slice ao k co ∧ wr.ownsRow w.heap.size 37 1 (.slice ao k co) k vs ∧ OwnTexts wr vs ((List.range k).map (chunkAt m l)) ∧ Ext w wr) (fun b _ _ => match b with | .slice _ n _ => n | _ => 0)
  case atStart => exact ⟨0, 0, len, c, a, none, 0, [], by omega, by omega, by omega, (by show 0 = _; simp), rfl, by simpa using hr, rfl, World.ownsRow_nil _ _ _ _, ⟨rfl, by simp⟩, Keep.refl _ _⟩
  case round =>
    obtain ⟨k, t, r, rc, a', ao, co, vs, hk, ht, hct, Ht, rfl, hR1, rfl, hown, hO, hE⟩ := hrel
    have hlen : (len : Int) ≤ 9223372036854775807 := by have := hr.1; have := hr.2.1; unfold maxLen at this; omega
    have hrrc := hR1.1
    have hmx := hr.2.1
    by_cases hlt : 0 < r
    · have hkN : k < chunkN m len := chunkN_lt hm Ht.out (by omega)
      have hkl : chunkN m len ≤ len := by
        unfold chunkN
        rw [if_neg (by omega), Int.toNat_natCast]
        refine Nat.div_le_of_le_mul ?_
        rcases m with _ | m
        · omega
        · rw [Nat.add_mul]; have : 0 < len := by omega
          have := Nat.mul_le_mul_left m (show 1 ≤ len by omega)
          omega
      have Hc := Lib.hid (chunk_at Ht.out (show t < len by omega) l)
      obtain ⟨kk, hkk⟩ : ∃ kk, min m r = kk := ⟨_, rfl⟩
      have hcl : (chunkAt m l k).length = kk := by rw [Hc.out]; simp [hll]; omega
      have hcut := (hR1.ext hE).cut (lo := 0) (hi := kk) (by omega) (by omega)
      rw [show (if rc = 0 then a' else Option.map (fun x => x.add (0 * 1)) a') = a' from by rw [Nat.zero_mul]; split; rfl; cases a' <;> simp [Addr.add]] at hcut
      rw [show ((List.map u8v (List.drop t l)).drop (0 * 1)).take ((kk - 0) * 1) = (chunkAt m l k).map u8v from by
        rw [Hc.out, Nat.zero_mul, List.drop_zero, Nat.mul_one, Nat.sub_zero, ← List.map_take]; congr 1
        rw [List.take_eq_take_iff]; simp [hll]; omega] at hcut
      simp only [Nat.sub_zero] at hcut
      have hrest := hR1.cut (lo := kk) (hi := r) (by omega) (by omega)
      rw [Nat.mul_one, show ((List.map u8v (List.drop t l)).drop kk).take ((r - kk) * 1) = (l.drop (t + kk)).map u8v from by
        rw [← List.map_drop, List.drop_drop, Nat.mul_one, List.take_of_length_le (by simp [hll]; omega)]] at hrest
      obtain ⟨v1, w1, hrun1, hown1, hgrow1, _⟩ := run_append_row wr 0 37 37 5 _ 1 1 Try.underlying37 info_u8 rfl (by decide) (World.ownsRow_nil wr 0 5 1) hcut (u8v_one _) (by unfold maxLen; omega) (by omega) (Nat.zero_le _)
      simp only [Nat.zero_add, List.nil_append] at hown1
      have hE1 : Ext wr w1 := Keep.of_grownBy hgrow1 (fun k o h _ => by cases h)
      obtain ⟨a1, c1, rfl, _⟩ := owns_row hown1
      have hsrc := (lit_row (base := 0) w1 37 #[.slice a1 kk c1] 1 (by simp [maxLen]) rfl (Nat.zero_le _)).2
      have hrowA := hE1.owns hown
      have hrow0 := hrowA.alloc (.cells #[.slice a1 kk c1] 37)
      obtain ⟨v', w', hrun, hown', hgrow, _⟩ := run_append_row (w1.alloc (.cells #[.slice a1 kk c1] 37)) w.heap.size 55 55 37 _ 1 24 Try.underlying55 info_bytes rfl (by decide) hrow0 hsrc (by simp [Value.oneCell']) (by unfold maxLen; omega) (by omega) (by have := hE.size; have := hE1.size; simp; omega)
      have hEw : Ext w w' := Ext.of_below (((Ext.below (hE.trans hE1)).alloc (by have := (hE.trans hE1).size; omega) _).grown hgrow (by have := (hE.trans hE1).size; simp; omega) (fun g hg => (hown.lt g hg).1))
      obtain ⟨a2, c2, rfl, _⟩ := owns_row hown'
      have hO' := OwnTexts.more (T := 37) (by decide) (hO.keep (X := fun _ _ => False) hE1 (fun _ _ h => h)) hrowA (l := chunkAt m l k) (by rw [hcl]; exact hown1) ((Keep.refl _ w1).alloc (.cells #[.slice a1 kk c1] 37)) hgrow
      have H1 := Lib.hid hrun1
      have H2 := Lib.hid hrun
      clear hrun hrun1 hcut hsrc hrow0
      have htk : t + kk = min ((k + 1) * m) len := by have := Ht.out; rw [Nat.add_mul]; omega
      by_cases hcc : rc = kk
      · rw [if_pos hcc] at hrest
        subst hcc
        by_cases hfull : m ≤ r
        · obtain rfl : m = rc := by omega
          go_wp2_with (at_builtin; go_must (first | (refine wpList_append_run H1.out rfl rfl rfl rfl ?_) | (refine wpList_append_run H2.out rfl rfl rfl rfl ?_)))
          go_round
          case rel => exact ⟨k + 1, _, _, _, _, _, _, _, by omega, by omega, by omega, htk, rfl, cast (by congr 1 <;> omega) hrest, rfl, hown', by rw [List.range_succ, List.map_append]; exact hO', hEw⟩
          case measure => simp; omega
        · obtain rfl : r = rc := by omega
          go_wp2_with (at_builtin; go_must (first | (refine wpList_append_run H1.out rfl rfl rfl rfl ?_) | (refine wpList_append_run H2.out rfl rfl rfl rfl ?_)))
          go_round
          case rel => exact ⟨k + 1, _, _, _, _, _, _, _, by omega, by omega, by omega, htk, rfl, cast (by congr 1 <;> omega) hrest, rfl, hown', by rw [List.range_succ, List.map_append]; exact hO', hEw⟩
          case measure => simp; omega
      · rw [if_neg hcc] at hrest
        by_cases hfull : m ≤ r
        · obtain rfl : m = kk := by omega
          go_wp2_with (at_builtin; go_must (first | (refine wpList_append_run H1.out rfl rfl rfl rfl ?_) | (refine wpList_append_run H2.out rfl rfl rfl rfl ?_)))
          go_round
          case rel => exact ⟨k + 1, _, _, _, _, _, _, _, by omega, by omega, by omega, htk, rfl, cast (by congr 1 <;> omega) hrest, rfl, hown', by rw [List.range_succ, List.map_append]; exact hO', hEw⟩
          case measure => simp; omega
        · obtain rfl : r = kk := by omega
          go_wp2_with (at_builtin; go_must (first | (refine wpList_append_run H1.out rfl rfl rfl rfl ?_) | (refine wpList_append_run H2.out rfl rfl rfl rfl ?_)))
          go_round
          case rel => exact ⟨k + 1, _, _, _, _, _, _, _, by omega, by omega, by omega, htk, rfl, cast (by congr 1 <;> omega) hrest, rfl, hown', by rw [List.range_succ, List.map_append]; exact hO', hEw⟩
          case measure => simp; omega
    · obtain rfl : r = 0 := by omega
      have hkN := chunkN_ge hm Ht.out (show ¬ t < len by omega)
      obtain rfl : k = chunkN m len := by omega
      go_wp2
      exact ⟨_, _, rfl, ⟨vs, hown, by unfold chunksL; rw [hll, Int.toNat_natCast]; exact hO⟩, hE⟩
theorem refChunks_any (a : Option Addr) (len c : Nat) (n : Int) (l : List UInt8) (w : World) (hn : n ≤ 9223372036854775807) (hr : Row 1 w a len c (l.map u8v)) (hl32 : len ≤ 4294967296) :
    Calls Try.prog 25 #[.slice a len c, .int .i64 n] w fun e w' => ∃ a' c', e = .returned (.slice a' (chunkN n len) c') ∧ (∃ vs, w'.ownsRow w.heap.size 37 1 (.slice a' (chunkN n len) c') (chunkN n len) vs ∧ OwnTexts w' vs (chunksL n l)) ∧ Ext w w' := by
  by_cases h : n ≤ 0
  · have hz : chunkN n len = 0 := by unfold chunkN; rw [if_pos h]
    have hL : chunksL n l = [] := by unfold chunksL chunkN; rw [if_pos h]; rfl
    have hge : ¬ (n ≥ 1) := by omega
    rw [hz, hL]
    refine calls_cps fun R hR => ?_
    go_enter Try.func25, Try.ntmps25
    go_wp2
    go_loopw [5] (fun out wr => out = .slice none 0 0 ∧ wr = w) (fun _ _ => 0)
    case atStart => exact ⟨rfl, rfl⟩
    case round =>
      obtain ⟨rfl, rfl⟩ := hrel
      go_wp2
      exact ⟨_, _, ⟨rfl, rfl⟩, ⟨[], World.ownsRow_nil _ _ _ _, ⟨rfl, by simp⟩⟩, Keep.refl _ _⟩
  · obtain ⟨m, rfl⟩ := Int.eq_ofNat_of_zero_le (show 0 ≤ n by omega)
    exact refChunks_pos a len c m l w (by omega) hn hr hl32
end Go.Proofs.Ytijpbbjblenhaaa
