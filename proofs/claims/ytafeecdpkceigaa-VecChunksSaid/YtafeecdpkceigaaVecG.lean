/-
  tabulariumlaw01.pieces: a loop over vec.Chunks that may be left early; the result lies in a cell.
-/
import Derived.Test.YtafeecdpkceigaaVecF
namespace Go.Proofs.Ytafeecdpkceigaa
open Go.RowKit Go.Shelf
attribute [local go_sem] Oper.semAt_some

def pieceN (most : Int) (N : Nat) : Nat := if 0 ≤ most ∧ most < N then most.toNat else N

theorem OwnTexts.setBox {w : World} {b : Nat} {t : TypeId} {u : Value} {vs : List Value} {ls : List (List UInt8)} (h : OwnTexts w vs ls) (hb : Boxed w b t u) (ht : t ≠ 5) (v : Value) : OwnTexts (w.setCell ⟨b, 0, none⟩ v) vs ls :=
  h.keep (X := fun _ o => o = .cells #[u] t (0, 0)) ((Keep.refl _ w).setCell _ _ (fun o ho => by rw [show w.heap[b]? = _ from hb] at ho; cases ho; rfl)) (fun _ _ h => by cases h; exact ht rfl)
theorem OwnTexts.putDef {w : World} {D : Nat} {vs : List Value} {ls : List (List UInt8)} (h : OwnTexts w vs ls) (hd : w.heap[D]? = some (.deferred (some []))) : OwnTexts (w.putObj D (.deferred none)) vs ls :=
  h.keep (X := fun _ o => o = .deferred (some [])) ((Keep.refl _ w).putObj _ _ (fun o ho => by rw [hd] at ho; cases ho; rfl)) (fun _ _ h => by cases h)

theorem chunkN_le (n : Int) (len : Nat) : chunkN n len ≤ len := by
  unfold chunkN
  split
  · omega
  · obtain ⟨m, rfl⟩ := Int.eq_ofNat_of_zero_le (show 0 ≤ n by omega)
    rw [Int.toNat_natCast]
    rcases m with _ | m
    · omega
    · rcases Nat.eq_zero_or_pos len with rfl | h
      · rw [Nat.div_eq_of_lt (by omega)]; omega
      · refine Nat.div_le_of_le_mul ?_
        have := Nat.mul_le_mul_left m (show 1 ≤ len by omega)
        rw [Nat.add_mul]; omega

theorem Boxed.at {w : World} {b : Nat} {t : TypeId} {v : Value} (h : w.heap.size = b) : Boxed (w.alloc (.cells #[v] t)) b t v := h ▸ Boxed.new w t v

set_option maxHeartbeats 1000000 in
theorem pieces_any (a : Option Addr) (len c : Nat) (n most : Int) (l : List UInt8) (w : World) (hn : n ≤ 9223372036854775807) (hr : Row 1 w a len c (l.map u8v)) (hl32 : len ≤ 4294967296) :
    Calls Try.prog 19 #[.slice a len c, .int .i64 n, .int .i64 most] w fun e w' => ∃ a' c', e = .returned (.slice a' (pieceN most (chunkN n len)) c') ∧
      Texts w' a' (pieceN most (chunkN n len)) c' ((List.range (pieceN most (chunkN n len))).map (chunkAt n.toNat l)) ∧ Ext w w' := by
  have hll : l.length = len := by have := hr.2.2.1; simpa using this
  have hlc := hr.1
  have hmx := hr.2.1
  unfold maxLen at hmx
  refine calls_cps fun R hR => ?_
  refine calls_marks Try.func19 rfl ?_
  simp only [Try.ntmps19, List.size_toArray, List.length_cons, List.length_nil, Nat.reduceAdd, Nat.reduceSub, Array.replicate_succ, Array.replicate_zero, List.push_toArray, List.append_toArray, List.nil_append, List.cons_append]
  go_wp2_with fail
  refine (chunks_any _ _ _ _ _).mono ?_; rintro e w2 ⟨rfl, hw2⟩
  have HW2 := Lib.hid hw2
  clear hw2
  go_wp2_with fail
  have bM : Boxed w2 w.heap.size 3 (.int .i64 most) := by rw [HW2.out]; exact ((((Boxed.at rfl).alloc _).alloc _).alloc _).alloc _
  have bR : Boxed w2 (w.heap.size + 1) 32 (.slice none 0 0) := by rw [HW2.out]; exact (((Boxed.at (by simp)).alloc _).alloc _).alloc _
  have bO : Boxed w2 (w.heap.size + 1 + 1) 32 (.slice none 0 0) := by rw [HW2.out]; exact ((Boxed.at (by simp)).alloc _).alloc _
  have bB : Boxed w2 (w.heap.size + 1 + 1 + 1) 31 (.slice a len c) := by rw [HW2.out]; exact (Boxed.at (by simp)).alloc _
  have bN : Boxed w2 (w.heap.size + 1 + 1 + 1 + 1) 3 (.int .i64 n) := by rw [HW2.out]; exact Boxed.at (by simp)
  have hE : Ext w w2 := by rw [HW2.out]; exact (((((Keep.refl _ _).alloc _).alloc _).alloc _).alloc _).alloc _
  have hs : w2.heap.size = w.heap.size + 1 + 1 + 1 + 1 + 1 := by rw [HW2.out]; simp
  have hab : ∀ p, a = some p → 0 < len → p.block < w.heap.size := fun p hp hl => by
    obtain ⟨b, off, h1, h2⟩ := hr.2.2.2.2 hl
    rw [hp] at h1; cases h1
    exact World.block_lt_of_cell? w _ (h2 0 _ (List.getElem?_eq_getElem (by simp; omega)))
  refine range_wp rfl (enters_of Try.func36 (by kernel_rfl) rfl)
    (chunks1_iter (w.heap.size + 1 + 1 + 1 + 1) (w.heap.size + 1 + 1 + 1) a len c n l hn (by omega))
    (fun _ h => h.elim) (fun b h => by rcases h with rfl | rfl | ⟨p, hp, hl, rfl⟩; omega; omega; (have := hab p hp (by omega); omega))
    (fun _ _ _ ⟨v, h, _⟩ => by rw [h]; rfl) (fun A hA => ⟨hA.boxed bN, hA.boxed bB, (hr.ext hE).ext hA⟩)
    (fun k A => ∃ ao co vs, Boxed A (w.heap.size + 1 + 1) 32 (.slice ao k co) ∧ A.ownsRow w2.heap.size 31 1 (.slice ao k co) k vs ∧ OwnTexts A vs ((List.range k).map (chunkAt n.toNat l)) ∧
      Boxed A (w.heap.size + 1) 32 (.slice none 0 0) ∧ Boxed A w.heap.size 3 (.int .i64 most) ∧ Ext w A ∧ Boxed A (w.heap.size + 1 + 1 + 1 + 1) 3 (.int .i64 n) ∧ Boxed A (w.heap.size + 1 + 1 + 1) 31 (.slice a len c) ∧ w2.heap.size ≤ A.heap.size ∧ ¬ (0 ≤ most ∧ most < k))
    (fun k c A => c = .ret ∧ (k : Int) = most ∧ ∃ ao co vs, Boxed A (w.heap.size + 1) 32 (.slice ao k co) ∧ A.ownsRow w2.heap.size 31 1 (.slice ao k co) k vs ∧ OwnTexts A vs ((List.range k).map (chunkAt n.toNat l)) ∧ Ext w A)
    (fun k A B ⟨ao, co, vs, h1, h2, h3, h4, h5, h6, h7, h8, h9, h10⟩ hk => ⟨ao, co, vs, hk.boxed_turn h1 id, hk.owns_turn h2 (fun _ _ => id), h3.keep hk (fun _ _ h => by rcases h with h | h; exact h; cases h.2), hk.boxed_turn h4 id, hk.boxed_turn h5 id, h6.then_turn hk (by omega) (fun _ _ h _ => h), hk.boxed_turn h7 id, hk.boxed_turn h8 id, Nat.le_trans h9 hk.size, h10⟩)
    (fun k c A B ⟨h0, h1, ao, co, vs, h2, h3, h4, h5⟩ hk => ⟨h0, h1, ao, co, vs, hk.boxed_turn h2 id, hk.owns_turn h3 (fun _ _ => id), h4.keep hk (fun _ _ h => by rcases h with h | h; exact h; cases h.2), h5.then_turn hk (by omega) (fun _ _ h _ => h)⟩)
    (fun h => h.elim) ⟨none, 0, [], bO, World.ownsRow_nil _ _ _ _, ⟨rfl, by simp⟩, bR, bM, hE, bN, bB, Nat.le_refl _, by omega⟩ ?round ?done ?stop
  case round =>
    rintro l' k A args KN KX hk ⟨ao, co, vs, h1, h2, h3, h4, h5, h6, h7, h8, h9, h10⟩ ⟨v, rfl, hv⟩ hKN hKX
    have hkl := chunkN_le n len
    gi_wp2
    refine ⟨Keep.refl _ _, fun C hC => ?_⟩
    replace h1 := hC.boxed_turn h1 id
    replace h2 := hC.owns_turn h2 (fun _ _ => id)
    replace h3 := h3.keep hC (fun _ _ h => by rcases h with h | h; exact h; cases h.2)
    replace h4 := hC.boxed_turn h4 id
    replace h5 := hC.boxed_turn h5 id
    replace h6 := h6.then_turn hC (by omega) (fun _ _ h _ => h)
    replace h7 := hC.boxed_turn h7 id
    replace h8 := hC.boxed_turn h8 id
    replace h9 := Nat.le_trans h9 hC.size
    replace hv := hC.owns_turn hv (fun _ _ => id)
    have c1 := h1.cell
    have c5 := h5.cell
    by_cases hmk : (k : Int) = most
    · subst hmk
      have hs1 := h4.set (.slice ao k co)
      have f4 := h4.frozen
      have c4 := h4.cell
      gi_wp2
      refine hKX _ _ _ ?_ ⟨by first | trivial | rfl, by first | trivial | rfl, ao, co, vs, hs1, h2.kept (grownBy_setCell' C _ _) (.inr (h4.not_row (by decide) h2).symm), ?_, ?_⟩
      · exact (Keep.refl _ _).setCell _ _ (fun o ho => ⟨fun h => by replace h : w.heap.size + 1 = w.heap.size + 1 + 1 + 1 + 1 ∨ w.heap.size + 1 = w.heap.size + 1 + 1 + 1 ∨ ∃ p, a = some p ∧ 0 < len ∧ w.heap.size + 1 = p.block := h; rcases h with h | h | ⟨p, hp, hl, h⟩; omega; omega; (have := hab p hp (by omega); replace h : w.heap.size + 1 = p.block := h; omega), .inl (by show w.heap.size + 1 < _; omega)⟩)
      · exact h3.setBox h4 (by decide) _
      · exact h6.setCell _ _ (fun o ho => by have := Keep.lt ho; replace this : w.heap.size + 1 < w.heap.size := this; omega)
    · have hne : ((k : Int) == most) = false := by simpa using hmk
      obtain ⟨av, cv, rfl, _⟩ := owns_row hv
      have hrow0 := h2.alloc (.cells #[.slice av (chunkAt n.toNat l k).length cv] 31)
      have hsrc := (lit_row (base := 0) C 31 #[.slice av (chunkAt n.toNat l k).length cv] 1 (by simp [maxLen]) rfl (Nat.zero_le _)).2
      obtain ⟨v', w', hrun, hown', hgrow, _⟩ := run_append_row (C.alloc (.cells #[.slice av (chunkAt n.toNat l k).length cv] 31)) w2.heap.size 32 32 31 _ 1 24 Try.underlying32 info_bytes rfl (by decide) hrow0 hsrc (by simp [Value.oneCell']) (by unfold maxLen; omega) (by omega) (by simp; omega)
      have Hrun := Lib.hid hrun
      clear hrun
      have hO' := OwnTexts.more (T := 31) (by decide) h3 h2 hv ((Keep.refl _ C).alloc (.cells #[.slice av (chunkAt n.toNat l k).length cv] 31)) hgrow
      obtain ⟨a2, c2, rfl, _⟩ := owns_row hown'
      obtain ⟨x1, x2, x3, x4⟩ := box_append (X := Go.Proofs.Ytafeecdpkceigaa.round w2.heap.size (fun b => b = w.heap.size + 1 + 1 + 1 + 1 ∨ b = w.heap.size + 1 + 1 + 1 ∨ ∃ p, a = some p ∧ 0 < len ∧ b = p.block)) h1 (by decide) h2
          ((Keep.refl _ C).alloc (.cells #[.slice av (chunkAt n.toNat l k).length cv] 31)) hown' hgrow
          ⟨fun h => by rcases h with h | h | ⟨p, hp, hl, h⟩; omega; omega; (have := hab p hp (by omega); omega), .inr rfl⟩
          (fun g cur hg => ⟨fun h => by have := h2.lt g hg; rcases h with h | h | ⟨p, hp, hl, h⟩; omega; omega; (have := hab p hp (by omega); omega), .inr rfl⟩)
      have cO1 := x1.cell
      have fO1 := x1.frozen
      gi_wp2_with (gi_at_builtin; go_must (refine wpListIn_append_run Hrun.out rfl rfl rfl rfl ?_))
      have hO2 := hO'.setBox x1 (by decide) (.slice a2 (k + 1) c2)
      have hg4 := (((h4.alloc (.cells #[.slice av (chunkAt n.toNat l k).length cv] 31)).kept hgrow (h4.not_row (by decide) h2)).other (show w.heap.size + 1 ≠ w.heap.size + 1 + 1 by omega) (.slice a2 (k + 1) c2))
      have hg5 := (((h5.alloc (.cells #[.slice av (chunkAt n.toNat l k).length cv] 31)).kept hgrow (h5.not_row (by decide) h2)).other (show w.heap.size ≠ w.heap.size + 1 + 1 by omega) (.slice a2 (k + 1) c2))
      refine hKN _ _ x4 ⟨a2, c2, _, x2, x3, ?_, hg4, hg5, ?_, x4.boxed h7 (fun h => h.1 (.inl rfl)), x4.boxed h8 (fun h => h.1 (.inr (.inl rfl))), Nat.le_trans h9 x4.size, ?_⟩
      · rw [List.range_succ, List.map_append]; exact hO2
      · exact Ext.of_below (((((Ext.below h6).alloc h6.size _).grown hgrow (by have := h6.size; simp; omega) (fun g hg => by have := h2.lt g hg; omega)).setCell (p := ⟨w.heap.size + 1 + 1, 0, none⟩) (by simp; omega) _))
      · omega
  case done =>
    rintro D A hD ⟨ao, co, vs, h1, h2, h3, h4, h5, h6, h7, h8, h9, h10⟩ hd
    have c1 := h1.cell
    have c4 := h4.cell
    have f4 := h4.frozen
    have hs1 := h4.set (.slice ao (chunkN n len) co)
    have hpn : pieceN most (chunkN n len) = chunkN n len := by unfold pieceN; rw [if_neg h10]
    rw [hpn] at hR
    go_wp2
    have hDs : D ≠ w.heap.size + 1 := by omega
    have hs2 : Boxed ((A.setCell ⟨w.heap.size + 1, 0, none⟩ (.slice ao (chunkN n len) co)).putObj D (.deferred none)) (w.heap.size + 1) 32 (.slice ao (chunkN n len) co) := (World.putObj_heap_other (by omega)).trans hs1
    have cs2 := hs2.cell
    have hO2 := h3.setBox h4 (by decide) (.slice ao (chunkN n len) co)
    have hown2 := h2.kept (grownBy_setCell' A (w.heap.size + 1) (.slice ao (chunkN n len) co)) (.inr (h4.not_row (by decide) h2).symm)
    have hd2 : (A.setCell ⟨w.heap.size + 1, 0, none⟩ (.slice ao (chunkN n len) co)).heap[D]? = some (.deferred (some [])) := (Below.heap_setCell _ _ _ _ (by simpa using hDs)).trans hd
    refine mark_ret hd2 rfl (by simp [results, Try.results19, go_sem]; rw [cs2]) (hR _ _ ⟨ao, co, rfl, ?_, ?_⟩)
    · obtain ⟨_, _, e1, e2⟩ := owns_row (ownsRow_putObj hown2 (.deferred none) hd2 rfl)
      cases e1
      exact (hO2.putDef hd2).texts e2
    · exact (h6.setCell _ _ (fun o ho => by have := Keep.lt ho; replace this : w.heap.size + 1 < w.heap.size := this; omega)).putObj _ _ (fun o ho => by have := Keep.lt ho; omega)
  case stop =>
    rintro D c k A hD hk ⟨rfl, h1, ao, co, vs, h2, h3, h4, h5⟩ hd
    have hpn : pieceN most (chunkN n len) = k := by unfold pieceN; rw [if_pos (by omega)]; omega
    rw [hpn] at hR
    have hs2 : Boxed (A.putObj D (.deferred none)) (w.heap.size + 1) 32 (.slice ao k co) := (World.putObj_heap_other (by omega)).trans h2
    have cs2 := hs2.cell
    go_wp2
    refine mark_ret hd rfl (by simp [results, Try.results19, go_sem]; rw [cs2]) (hR _ _ ⟨ao, co, rfl, ?_, ?_⟩)
    · obtain ⟨_, _, e1, e2⟩ := owns_row (ownsRow_putObj h3 (.deferred none) hd rfl)
      cases e1
      exact (h4.putDef hd).texts e2
    · exact h5.putObj _ _ (fun o ho => by have := Keep.lt ho; omega)
end Go.Proofs.Ytafeecdpkceigaa
