/-
  lines.Lines, lines.Split.
-/
import Derived.Test.YthedpnnfkmbdpaaLinL
namespace Go.Proofs.Ythedpnnfkmbdpaa
open Go.RowKit Go.Shelf

attribute [local go_sem] Oper.semAt_some

theorem lines_any (s : ByteArray) (w : World) : Calls Try.prog 17 #[.string s] w fun e w' =>
    e = .returned (.func (.func 30) #[] #[.pointer (some ⟨w.heap.size, 0, none⟩)]) ∧ w' = w.alloc (.cells #[.string s] 9) := by
  go_enter Try.func17, Try.ntmps17
  go_wp2
  go_ret
  exact ⟨rfl, rfl⟩

theorem own_mono {w : World} {base base' : Nat} {e : TypeId} {size : Nat} {v : Value} {n : Nat} {xs : List Value} (h : w.ownsRow base e size v n xs) (hb : base' ≤ base) : w.ownsRow base' e size v n xs := by
  refine ⟨h.1, ?_⟩
  rcases h.2 with h | ⟨g, cap, cur, h1, h2, h3⟩
  · exact .inl h
  · exact .inr ⟨g, cap, cur, h1, Nat.le_trans hb h2, h3⟩

set_option maxHeartbeats 2000000 in
theorem split_any (s : ByteArray) (w : World) (hs : s.size ≤ 100000) :
    Calls Try.prog 19 #[.string s] w fun e w' => ∃ a c, e = .returned (.slice a (refL s).length c) ∧
      w'.ownsRow w.heap.size 9 1 (.slice a (refL s).length c) (refL s).length ((refL s).map Value.string) ∧ Ext w w' := by
  refine calls_cps fun R hR => ?_
  have hN : (refL s).length ≤ 100000 := by
    have := (outTo_le s s.size).2
    rw [outL_ref] at this; omega
  refine calls_marks Try.func19 rfl ?_
  simp only [Try.ntmps19, List.size_toArray, List.length_cons, List.length_nil, Nat.reduceAdd, Nat.reduceSub, Array.replicate_succ, Array.replicate_zero, List.push_toArray, List.append_toArray, List.nil_append, List.cons_append]
  go_wp2_with fail
  refine (lines_any s _).mono ?_; rintro e w2 ⟨rfl, hw2⟩
  have HW2 := Lib.hid hw2
  clear hw2
  go_wp2_with fail
  have bO : Boxed w2 w.heap.size 22 (.slice none 0 0) := by rw [HW2.out]; exact (Boxed.new _ _ _).alloc _
  have bS : Boxed w2 (w.heap.size + 1) 9 (.string s) := by rw [HW2.out]; have := Boxed.new (w.alloc (.cells #[.slice none 0 0] 22)) 9 (.string s); rw [World.size_alloc] at this; exact this
  have hE : Ext w w2 := by rw [HW2.out]; exact ((Keep.refl _ _).alloc _).alloc _
  have hs2 : w2.heap.size = w.heap.size + 1 + 1 := by rw [HW2.out]; simp
  refine range_wp rfl (enters_of Try.func30 (by kernel_rfl) rfl)
    (lines1_iter (w.heap.size + 1) s hs)
    (fun _ h => h.elim) (fun b h => by subst h; omega)
    (fun _ _ _ ⟨x, _, h⟩ => by rw [h]; rfl) (fun A hA => hA.boxed bS)
    (fun k A => ∃ v, Boxed A w.heap.size 22 v ∧ A.ownsRow (w.heap.size + 2) 9 1 v k (((refL s).take k).map Value.string) ∧ Ext w A ∧ Boxed A (w.heap.size + 1) 9 (.string s) ∧ w2.heap.size ≤ A.heap.size)
    (fun _ _ _ => False)
    (fun k A B ⟨v, h1, h2, h3, h4, h5⟩ hk => ⟨v, hk.boxed_turn h1 id, hk.owns_turn h2 (fun _ _ => id), h3.then_turn hk (by omega) (fun _ _ h _ => h), hk.boxed_turn h4 id, Nat.le_trans h5 hk.size⟩)
    (fun k c A B h hk => h.elim)
    (fun h => h.elim) ⟨_, bO, World.ownsRow_nil _ _ _ _, hE, bS, Nat.le_refl _⟩ ?round ?done ?stop
  case round =>
    rintro l' k A args KN KX hk ⟨v, hv, hrow, hA, hS, hsz⟩ ⟨x, hx, rfl⟩ hKN _
    have HX := Lib.hid hx
    clear hx
    gi_wp2
    refine ⟨Keep.refl _ _, fun C hC => ?_⟩
    replace hv := hC.boxed_turn hv id
    replace hrow := hC.owns_turn hrow (fun _ _ => id)
    replace hA := hA.then_turn hC (by omega) (fun _ _ h _ => h)
    replace hS := hC.boxed_turn hS id
    obtain ⟨a2, c2, w', hrun, hown', hgrow⟩ := append_str C (w.heap.size + 2) k v _ x hrow (by omega) (by have := hC.size; omega)
    have Hrun := Lib.hid hrun
    clear hrun
    have hvB : ∀ g, v.ownBlock = some g → w.heap.size + 2 ≤ g ∧ g < C.heap.size := hrow.lt
    obtain ⟨x1, x2, x3, x4'⟩ := box_append (X := Go.Proofs.Ythedpnnfkmbdpaa.round w2.heap.size (fun b => b = w.heap.size + 1)) hv (by decide) hrow
      ((Keep.refl _ C).alloc (.cells #[.string x] 9)) hown' hgrow
      ⟨fun h => by replace h : w.heap.size = w.heap.size + 1 := h; omega, .inr rfl⟩
      (fun g cur hg => ⟨fun h => by have := hvB g hg; replace h : g = w.heap.size + 1 := h; omega, .inr rfl⟩)
    have cO := hv.cell
    have cO1 := x1.cell
    have fO1 := x1.frozen
    gi_wp2_with (gi_at_builtin; go_must (refine wpListIn_append_run Hrun.out rfl rfl rfl rfl ?_))
    refine hKN _ _ x4' ⟨_, x2, ?_, ?_, x4'.boxed hS (fun h => h.1 rfl), ?_⟩
    · rw [List.take_add_one, HX.out]
      exact x3
    · exact Ext.of_below (((((Ext.below hA).alloc hA.size _).grown hgrow (by have := hA.size; simp; omega) (fun g hg => by have := (hvB g hg).1; omega)).setCell (p := ⟨w.heap.size, 0, none⟩) (Nat.le_refl _) _))
    · have := x4'.size
      have := hC.size
      omega
  case done =>
    rintro D A hD ⟨v, hv, hrow, hA, _, _⟩ hd
    rw [List.take_of_length_le (Nat.le_refl _)] at hrow
    replace hrow := own_mono hrow (show w.heap.size ≤ w.heap.size + 2 by omega)
    have cO := hv.cell
    obtain ⟨av, cv, rfl, _⟩ := owns_row hrow
    go_wp2
    refine mark_ret hd rfl (results_tmp rfl _ _ _) (hR _ _ ⟨av, cv, rfl, ownsRow_putObj hrow _ hd rfl, ?_⟩)
    exact hA.putObj _ _ (fun o ho => by have := Keep.lt ho; have := hA.size; have := hE.size; omega)
  case stop =>
    rintro D c k A hD hk h
    exact h.elim
end Go.Proofs.Ythedpnnfkmbdpaa
