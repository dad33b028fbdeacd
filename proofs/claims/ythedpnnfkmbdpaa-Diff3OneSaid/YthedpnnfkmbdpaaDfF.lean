/-
  diff3: merged.line.
-/
import Derived.Test.YthedpnnfkmbdpaaDfE
namespace Go.Proofs.Ythedpnnfkmbdpaa
open Go.RowKit Go.Shelf

attribute [local go_sem] Oper.semAt_some

theorem index_hunk (g N cap : Nat) (w : World) : (Instr.indexAt 41 (.slice (some ⟨g, 0, none⟩) (N + 1) cap) (.int .i64 (N : Int))).run Try.prog w = .ok (.pointer (some ⟨g, N * 4, none⟩)) w := by
  have h1 : (0 : Int) ≤ (N : Int) ∧ (N : Int) < ((N + 1 : Nat) : Int) := by omega
  simp [Instr.indexAt, asIntOf, Result.andThen, h1, addr_add]

/-- A slice of one string. -/
def StrS (base : Nat) (s : ByteArray) (v : Value) (w : World) : Prop := ∃ q, v = .slice (some ⟨q, 0, none⟩) 1 1 ∧ base ≤ q ∧ w.heap[q]? = some (.cells #[.string s] 9 (0, 0))

theorem StrS.keep {X : Nat → Obj → Prop} {base : Nat} {s : ByteArray} {v : Value} {w w' : World} (h : StrS base s v w) (hk : Keep X w w') (hX : ∀ k o, X k o → k < base) : StrS base s v w' := by
  obtain ⟨q, h1, h2, h3⟩ := h
  exact ⟨q, h1, h2, hk.block _ _ h3 (fun hx => by have := hX _ _ hx; omega)⟩
theorem set3 {C0 : List Value} {N : Nat} (h : C0.length = N * 4) (k gx ga gb x a b : Value) : (((C0 ++ [k, gx, ga, gb]).set (N * 4 + 1) x).set (N * 4 + 2) a).set (N * 4 + 3) b = C0 ++ [k, x, a, b] := by
  rw [List.set_append_right _ _ (by omega), List.set_append_right _ _ (by omega), List.set_append_right _ _ (by omega), h]
  simp [show N * 4 + 1 - N * 4 = 1 by omega, show N * 4 + 2 - N * 4 = 2 by omega, show N * 4 + 3 - N * 4 = 3 by omega]
theorem own_store {w : World} {g n cap j : Nat} {xs : List Value} {u : Value} (h : w.ownsRow 0 44 4 (.slice (some ⟨g, 0, none⟩) n cap) n xs) :
    (w.setCell ⟨g, j, none⟩ u).ownsRow 0 44 4 (.slice (some ⟨g, 0, none⟩) n cap) n (xs.set j u) ∧ Keep (fun k o => k = g ∧ ∃ cur, o = .cells cur 44 (0, 0)) w (w.setCell ⟨g, j, none⟩ u) := by
  refine ⟨(h.stored j u).1, (Keep.refl _ w).setCell _ _ (fun o ho => ⟨rfl, ?_⟩)⟩
  rcases h.2 with ⟨h', _⟩ | ⟨g', cap', cur, h', _, hg, _⟩
  · simp at h'
  · simp only [Value.slice.injEq, Option.some.injEq, Addr.mk.injEq, and_true, true_and] at h'
    obtain ⟨rfl, rfl⟩ := h'
    rw [show w.heap[g]? = _ from hg] at ho
    cases ho; exact ⟨_, rfl⟩

/-- A hunk of lines that all have, without any as yet. -/
theorem MIn.pushSame {G : Nat → Prop} {A : World} {P : Nat} {v : Value} {hv : List HV} {hs : List (Hunk ByteArray)} (h : MIn G A P v hv hs) (hG : ∀ k, A.heap.size ≤ k → G k) (hn : hs.length ≤ 100000) :
    ∃ g cap w', (Builtin.append_ #[41, 41] 41 #[v, .slice (some ⟨A.heap.size, 0, none⟩) 1 1]).run Try.prog (A.alloc (.cells #[.int .i64 1, .slice none 0 0, .slice none 0 0, .slice none 0 0] 44)) = .ok (.slice (some ⟨g, 0, none⟩) (hs.length + 1) cap) w' ∧
      Arr w' P 67 [v] ∧ MIn G (w'.setCell ⟨P, 0, none⟩ (.slice (some ⟨g, 0, none⟩) (hs.length + 1) cap)) P (.slice (some ⟨g, 0, none⟩) (hs.length + 1) cap) (hv ++ [⟨1, .slice none 0 0, .slice none 0 0, .slice none 0 0⟩]) (hs ++ [⟨1, [], [], []⟩]) ∧
      Keep (fun k o => G k ∧ MT o) A (w'.setCell ⟨P, 0, none⟩ (.slice (some ⟨g, 0, none⟩) (hs.length + 1) cap)) := by
  have hE : Ext A (A.alloc (.cells #[.int .i64 1, .slice none 0 0, .slice none 0 0, .slice none 0 0] 44)) := (Keep.refl _ A).alloc _
  have h5 := h.ext hE
  have hg2 := World.alloc_heap_new A (.cells #[.int .i64 1, .slice none 0 0, .slice none 0 0, .slice none 0 0] 44)
  obtain ⟨i, hi, hz, hsz, hb⟩ := info_parts info_hunk
  obtain ⟨v', w6, hrun, hown', hgrow, _, hblk⟩ := run_append_own_at (P := Try.prog) _ 0 41 41 44 i _ 4 80 Try.underlying41 hi hz hsz hb rfl (by decide) _ _ _ h5.own ⟨A.heap.size, 0, none⟩ 1 1 [.int .i64 1, .slice none 0 0, .slice none 0 0, .slice none 0 0] rfl
    (fun j u hu => by rw [addr_add, Nat.zero_add, cell_of_row _ _ _ _ 44 (0, 0) hg2]; simpa using hu) (by simp [Value.oneCell']) (by unfold maxLen; omega) (by omega) (Nat.zero_le _)
  obtain ⟨g, cap, rfl⟩ : ∃ g cap, v' = .slice (some ⟨g, 0, none⟩) (hs.length + 1) cap := by
    rcases hown'.2 with ⟨_, hx⟩ | ⟨g, cap, cur, hv, _⟩
    · omega
    · exact ⟨g, cap, hv⟩
  have hk6 : Keep (fun k o => v.ownBlock = some k ∧ ∃ cur, o = .cells cur 44 (0, 0)) (A.alloc (.cells #[.int .i64 1, .slice none 0 0, .slice none 0 0, .slice none 0 0] 44)) w6 := Keep.of_grownBy hgrow (fun k o hk ho => by
    rcases h5.own.2 with ⟨hn0, _⟩ | ⟨g', cap, cur, hn0, hb, hgb, _⟩
    · rw [hn0] at hk; simp [Value.ownBlock] at hk
    · rw [hn0] at hk
      obtain rfl : g' = k := by simpa [Value.ownBlock] using hk
      rw [hgb] at ho; cases ho; exact ⟨by rw [hn0]; rfl, _, rfl⟩)
  have hpush := h.push hG hE (g := ⟨1, .slice none 0 0, .slice none 0 0, .slice none 0 0⟩) (a := ⟨1, [], [], []⟩) ⟨rfl, World.ownsRow_nil _ _ _ _, World.ownsRow_nil _ _ _ _, World.ownsRow_nil _ _ _ _⟩
    (fun k hk => by simp [HV.bl, Value.ownBlock] at hk) (by simp [HV.bl, Value.ownBlock, ApartL]) hown' hk6 hblk
  exact ⟨g, cap, w6, hrun, h5.box.keep hk6 (fun hx => by obtain ⟨_, _, hx⟩ := hx; cases hx), hpush.1, hpush.2⟩

theorem MIn.lastSame {G : Nat → Prop} {A : World} {P g N cap : Nat} {hv0 : List HV} {hs0 : List (Hunk ByteArray)} {x a b : Value} {l1 l2 l3 : List ByteArray} (h : MIn G A P (.slice (some ⟨g, 0, none⟩) (N + 1) cap) (hv0 ++ [⟨1, x, a, b⟩]) (hs0 ++ [⟨1, l1, l2, l3⟩])) (hN : hs0.length = N) :
    ∃ C0 gx ga gb lx la lb, lx = l1 ∧ la = l2 ∧ lb = l3 ∧ hv0.flatMap HV.cells = C0 ∧ C0.length = N * 4 ∧ A.ownsRow 0 44 4 (.slice (some ⟨g, 0, none⟩) (N + 1) cap) (N + 1) (C0 ++ [.int .i64 1, gx, ga, gb]) ∧
      A.cell? ⟨g, N * 4 + 1, none⟩ = some gx ∧ A.cell? ⟨g, N * 4 + 2, none⟩ = some ga ∧ A.cell? ⟨g, N * 4 + 3, none⟩ = some gb ∧ MRest G A P (.slice (some ⟨g, 0, none⟩) (N + 1) cap) hv0 hs0 gx ga gb lx la lb ∧ G g := by
  have hown := h.own
  rw [List.length_append, List.length_singleton, hN, List.flatMap_append, show List.flatMap HV.cells [(⟨1, x, a, b⟩ : HV)] = [.int .i64 1, x, a, b] by simp [HV.cells]] at hown
  obtain ⟨C0, hC0⟩ : ∃ C, hv0.flatMap HV.cells = C := ⟨_, rfl⟩
  rw [hC0] at hown
  have hCl : C0.length = N * 4 := by have := hown.1; simp at this; omega
  have hcell : ∀ j u, ([.int .i64 1, x, a, b] : List Value)[j]? = some u → A.cell? ⟨g, N * 4 + j, none⟩ = some u := fun j u hu => by
    have hj : j < 4 := by have := (List.getElem?_eq_some_iff.1 hu).1; simpa using this
    rw [hown.cellAt (N * 4 + j) (by omega), List.getElem?_append_right (by omega), hCl, Nat.add_sub_cancel_left]; exact hu
  exact ⟨C0, x, a, b, l1, l2, l3, rfl, rfl, rfl, hC0, hCl, hown, hcell 1 _ rfl, hcell 2 _ rfl, hcell 3 _ rfl, h.rest, h.gv g rfl⟩

set_option maxRecDepth 20000 in
set_option maxHeartbeats 16000000 in
theorem line_any {G : Nat → Prop} {A : World} {P : Nat} {v : Value} {hv : List HV} {hs : List (Hunk ByteArray)} (h : MIn G A P v hv hs) (hG : ∀ k, A.heap.size ≤ k → G k) (hn : hs.length ≤ 100000)
    (hl : ∀ a ∈ hs, a.x.length ≤ 100000 ∧ a.a.length ≤ 100000 ∧ a.b.length ≤ 100000) (s : ByteArray) :
    Calls Try.prog 37 #[.pointer (some ⟨P, 0, none⟩), .string s] A (MQ G A P (lineL hs s)) := by
  refine calls_cps fun R hR => ?_
  have HR := Lib.hid hR
  clear hR
  rcases List.eq_nil_or_concat hs with hnil | ⟨hs0, h0, rfl⟩
  case' inl =>
    have hline : lineL hs s = hs ++ [⟨1, [] ++ [s], [] ++ [s], [] ++ [s]⟩] := by rw [hnil]; rfl
    rw [hline] at HR
    obtain ⟨N2, hNn⟩ : ∃ N, hs.length = N := ⟨_, rfl⟩
    obtain ⟨av, cv, rfl, _⟩ := owns_row h.own
    have cP := h.box.cell (i := 0) rfl
    obtain ⟨g', cap', w', hrun, hbox, hM2, hK2⟩ := h.pushSame hG hn
    rw [hNn] at hrun hM2 hK2 cP hn
    have cW := hM2.box.cell (i := 0) rfl
    have cP' := hbox.cell (i := 0) rfl
    rw [hNn] at cP'
    have fP' := hbox.frozen 0
    have hNz : ((N2 : Int) == 0) = true := by rw [← hNn, hnil]; rfl
    have Hrun := Lib.hid hrun
    have HB2 := Lib.hid hM2
    have HKK := Lib.hid hK2
    have HGG := Lib.hid hG
    clear hrun hbox hM2 hK2 h hl hG hline hnil
    go_enter Try.func37, Try.ntmps37
    go_wp2_with (at_builtin; go_must (refine wpList_append_run Hrun.out rfl rfl rfl rfl ?_))
    clear cP hNz cW cP' fP' Hrun
    obtain ⟨A2, hA2⟩ : ∃ x, w'.setCell ⟨P, 0, none⟩ (.slice (some ⟨g', 0, none⟩) (N2 + 1) cap') = x := ⟨_, rfl⟩
    rw [hA2] at HB2 HKK ⊢
    have hGA2 : ∀ k, A2.heap.size ≤ k → G k := fun k hk => HGG.out k (Nat.le_trans HKK.out.size hk)
    have HRR : Hid (∀ u B, (∃ v hv, MIn G B P v hv (hs ++ [⟨1, [] ++ [s], [] ++ [s], [] ++ [s]⟩])) → Keep (fun k o => G k ∧ MT o) A2 B → R (.returned u) B) := Lib.hid (fun u B h1 h2 => HR.out _ _ ⟨⟨u, rfl⟩, h1, HKK.out.trans h2⟩)
    clear HR HKK HGG hA2
    have hM := HB2.out
    clear HB2 hn
    obtain ⟨hs1, rfl⟩ : ∃ l, l = hs := ⟨_, rfl⟩
    obtain ⟨hv1, rfl⟩ : ∃ l, l = hv := ⟨_, rfl⟩
    obtain ⟨A, rfl⟩ : ∃ x, x = A2 := ⟨_, rfl⟩
    obtain ⟨N, rfl⟩ : ∃ x, x = N2 := ⟨_, rfl⟩
    obtain ⟨g, rfl⟩ : ∃ x, x = g' := ⟨_, rfl⟩
    obtain ⟨cap, rfl⟩ : ∃ x, x = cap' := ⟨_, rfl⟩
    obtain ⟨hs0, rfl⟩ : ∃ x, x = hs1 := ⟨_, rfl⟩
    obtain ⟨hv0, rfl⟩ : ∃ x, x = hv1 := ⟨_, rfl⟩
    obtain ⟨C0, gx, ga, gb, lx, la, lb, e1, e2, e3, hC0, hCl, hO, c1, c2, c3, hM1, hgv⟩ := hM.lastSame hNn
    rw [← e1] at HRR
    have HRR' := HRR
    have hlx : lx.length ≤ 100000 ∧ la.length ≤ 100000 ∧ lb.length ≤ 100000 := by rw [e1, e2, e3]; simp
    have HRR : Hid (∀ u B, (∃ v hv, MIn G B P v hv (hs0 ++ [⟨1, lx ++ [s], la ++ [s], lb ++ [s]⟩])) → Keep (fun k o => G k ∧ MT o) A B → R (.returned u) B) := by
      rw [e2, e3, ← e1]; exact HRR'
    have hN := hNn
    have HO := Lib.hid hO
    have HM := Lib.hid hM1
    have HGB := Lib.hid hGA2
    clear hM hNn HRR' e1 e2 e3 hO hM1 hGA2
  case' inr =>
    obtain ⟨hv0, g0, rfl⟩ : ∃ hv0 g0, hv = hv0 ++ [g0] := by
      rcases List.eq_nil_or_concat hv with rfl | ⟨hv0, g0, rfl⟩
      · have := h.len; simp at this
      · exact ⟨hv0, g0, by simp⟩
    simp only [List.concat_eq_append] at h hn hl HR ⊢
    obtain ⟨lk, lx, la, lb⟩ := h0
    obtain ⟨k, gx, ga, gb⟩ := g0
    have hl0 : hv0.length = hs0.length := by have := h.len; simpa using this
    obtain ⟨hk0, _⟩ := h.each hs0.length ⟨lk, lx, la, lb⟩ ⟨k, gx, ga, gb⟩ (by simp) (by rw [← hl0]; simp)
    simp only at hk0
    subst hk0
    obtain ⟨N, hN⟩ : ∃ N, hs0.length = N := ⟨_, rfl⟩
    have hown := h.own
    rw [List.length_append, List.length_singleton, hN] at hown
    obtain ⟨g, cap, rfl⟩ : ∃ g cap, v = .slice (some ⟨g, 0, none⟩) (N + 1) cap := by
      rcases hown.2 with ⟨_, hx⟩ | ⟨g, cap, cur, hv, _⟩
      · omega
      · exact ⟨g, cap, hv⟩
    have hlx := hl ⟨k, lx, la, lb⟩ (by simp)
    rw [List.flatMap_append, show List.flatMap HV.cells [(⟨k, gx, ga, gb⟩ : HV)] = [.int .i64 k, gx, ga, gb] by simp [HV.cells]] at hown
    obtain ⟨C0, hC0⟩ : ∃ C, hv0.flatMap HV.cells = C := ⟨_, rfl⟩
    rw [hC0] at hown
    have hCl : C0.length = N * 4 := by have := hown.1; simp at this; omega
    have hcell : ∀ j u, ([.int .i64 k, gx, ga, gb] : List Value)[j]? = some u → A.cell? ⟨g, N * 4 + j, none⟩ = some u := fun j u hu => by
      have hj : j < 4 := by have := (List.getElem?_eq_some_iff.1 hu).1; simpa using this
      rw [hown.cellAt (N * 4 + j) (by omega), List.getElem?_append_right (by omega), hCl, Nat.add_sub_cancel_left]; exact hu
    have c0 : A.cell? ⟨g, N * 4, none⟩ = some (.int .i64 k) := hcell 0 _ rfl
    have cP := h.box.cell (i := 0) rfl
    have hNb : N + 1 ≤ 100000 := by rw [List.length_append, hN] at hn; exact hn
    have hNz : ((N : Int) + 1 == 0) = false := by simp; omega
    clear hn
    by_cases hk : k = 1
  case' pos =>
    subst hk
    have c1 := hcell 1 _ rfl
    have c2 := hcell 2 _ rfl
    have c3 := hcell 3 _ rfl
    have HO := Lib.hid hown
    have HM := Lib.hid h.rest
    have HRR : Hid (∀ u B, (∃ v hv, MIn G B P v hv (hs0 ++ [⟨1, lx ++ [s], la ++ [s], lb ++ [s]⟩])) → Keep (fun k o => G k ∧ MT o) A B → R (.returned u) B) := Lib.hid (fun u B h1 h2 => HR.out _ _ ⟨⟨u, rfl⟩, by
      have : lineL (hs0 ++ [⟨1, lx, la, lb⟩]) s = hs0 ++ [⟨1, lx ++ [s], la ++ [s], lb ++ [s]⟩] := by unfold lineL; simp
      rw [this]; exact h1, h2⟩)
    have hgv : G g := h.gv g rfl
    have HGB := Lib.hid hG
    clear hcell hown h hl HR hG
    go_enter Try.func37, Try.ntmps37
    go_wp2
  case' neg =>
    have hkb : (k != 1) = true := by simpa using hk
    have hline : lineL (hs0 ++ [⟨k, lx, la, lb⟩]) s = hs0 ++ [⟨k, lx, la, lb⟩] ++ [⟨1, [] ++ [s], [] ++ [s], [] ++ [s]⟩] := by unfold lineL; simp [hk]
    rw [hline] at HR
    have hlen : (hs0 ++ [(⟨k, lx, la, lb⟩ : Hunk ByteArray)]).length = N + 1 := by rw [List.length_append, hN]; rfl
    obtain ⟨g', cap', w', hrun, hbox, hM2, hK2⟩ := h.pushSame hG (by rw [hlen]; omega)
    rw [hlen] at hrun hM2 hK2
    have cW := hM2.box.cell (i := 0) rfl
    have cP' := hbox.cell (i := 0) rfl
    have fP' := hbox.frozen 0
    have Hrun := Lib.hid hrun
    have HB2 := Lib.hid hM2
    have HKK := Lib.hid hK2
    have HGG := Lib.hid hG
    clear hcell hown hrun hbox hM2 hK2 h hl hG hlen hline
    go_enter Try.func37, Try.ntmps37
    go_wp2_with (at_builtin; go_must (refine wpList_append_run Hrun.out rfl rfl rfl rfl ?_))
    clear c0 cP hNz hkb cW cP' fP' Hrun
    obtain ⟨N2, hN2⟩ : ∃ M, N + 1 = M := ⟨_, rfl⟩
    obtain ⟨A2, hA2⟩ : ∃ x, w'.setCell ⟨P, 0, none⟩ (.slice (some ⟨g', 0, none⟩) (N + 1 + 1) cap') = x := ⟨_, rfl⟩
    rw [hA2] at HB2 HKK ⊢
    have hGA2 : ∀ k, A2.heap.size ≤ k → G k := fun k hk => HGG.out k (Nat.le_trans HKK.out.size hk)
    have HRR : Hid (∀ u B, (∃ v hv, MIn G B P v hv (hs0 ++ [⟨k, lx, la, lb⟩] ++ [⟨1, [] ++ [s], [] ++ [s], [] ++ [s]⟩])) → Keep (fun k o => G k ∧ MT o) A2 B → R (.returned u) B) := Lib.hid (fun u B h1 h2 => HR.out _ _ ⟨⟨u, rfl⟩, h1, HKK.out.trans h2⟩)
    clear HR HKK HGG hA2
    have hM := HB2.out
    rw [hN2] at hM ⊢
    have hNn : (hs0 ++ [(⟨k, lx, la, lb⟩ : Hunk ByteArray)]).length = N2 := by rw [List.length_append, hN, ← hN2]; rfl
    clear hC0 hCl HB2 hlx hl0 hN hNb hN2
    obtain ⟨hs1, hh1⟩ : ∃ l, hs0 ++ [(⟨k, lx, la, lb⟩ : Hunk ByteArray)] = l := ⟨_, rfl⟩
    obtain ⟨hv1, hv11⟩ : ∃ l, hv0 ++ [(⟨k, gx, ga, gb⟩ : HV)] = l := ⟨_, rfl⟩
    rw [hh1] at hM HRR hNn
    rw [hv11] at hM
    clear hh1 hv11
    obtain ⟨A, rfl⟩ : ∃ x, x = A2 := ⟨_, rfl⟩
    obtain ⟨N, rfl⟩ : ∃ x, x = N2 := ⟨_, rfl⟩
    obtain ⟨g, rfl⟩ : ∃ x, x = g' := ⟨_, rfl⟩
    obtain ⟨cap, rfl⟩ : ∃ x, x = cap' := ⟨_, rfl⟩
    obtain ⟨hs0, rfl⟩ : ∃ x, x = hs1 := ⟨_, rfl⟩
    obtain ⟨hv0, rfl⟩ : ∃ x, x = hv1 := ⟨_, rfl⟩
    obtain ⟨C0, gx, ga, gb, lx, la, lb, e1, e2, e3, hC0, hCl, hO, c1, c2, c3, hM1, hgv⟩ := hM.lastSame hNn
    rw [← e1] at HRR
    have HRR' := HRR
    have hlx : lx.length ≤ 100000 ∧ la.length ≤ 100000 ∧ lb.length ≤ 100000 := by rw [e1, e2, e3]; simp
    have HRR : Hid (∀ u B, (∃ v hv, MIn G B P v hv (hs0 ++ [⟨1, lx ++ [s], la ++ [s], lb ++ [s]⟩])) → Keep (fun k o => G k ∧ MT o) A B → R (.returned u) B) := by
      rw [e2, e3, ← e1]; exact HRR'
    have hN := hNn
    have HO := Lib.hid hO
    have HM := Lib.hid hM1
    have HGB := Lib.hid hGA2
    clear hM hNn HRR' e1 e2 e3 hO hM1 hGA2
  case' pos =>
    clear c0 cP hNz
  all_goals
    have hgt : ∃ cur, A.heap[g]? = some (.cells cur 44 (0, 0)) := by
      rcases HO.out.2 with ⟨h', _⟩ | ⟨g', cap', cur, h', _, hg, _⟩
      · simp at h'
      · simp only [Value.slice.injEq, Option.some.injEq, Addr.mk.injEq, and_true, true_and] at h'
        obtain ⟨rfl, rfl⟩ := h'
        exact ⟨cur, hg⟩
    obtain ⟨X, hX⟩ : ∃ X : Nat → Obj → Prop, X = fun k o => (gx.ownBlock = some k ∨ ga.ownBlock = some k ∨ gb.ownBlock = some k) ∧ ∃ cur, o = .cells cur 9 (0, 0) := ⟨_, rfl⟩
    have hXc : ∀ w', Keep X A w' → ∀ j u, A.cell? ⟨g, j, none⟩ = some u → w'.cell? ⟨g, j, none⟩ = some u := fun w' hk j u hu => hk.cell hu (fun o ho _ hx => by
      obtain ⟨cur, hc⟩ := hgt
      rw [show A.heap[g]? = _ from hc] at ho
      cases ho
      rw [hX] at hx
      obtain ⟨_, _, hx⟩ := hx; cases hx)
    have hXl : ∀ k o, X k o → k < A.heap.size := fun k o hx => by
      rw [hX] at hx
      rcases hx.1 with hx | hx | hx
      · exact (HM.out.ox.lt k hx).2
      · exact (HM.out.oa.lt k hx).2
      · exact (HM.out.ob.lt k hx).2
    have hD : ∀ q : FY.At X A.drew, Keep X A q.w := fun q => ((Keep.refl _ A).drew).trans q.ext
    have d1 := fun q => hXc _ (hD q) _ _ c1
    have d2 := fun q => hXc _ (hD q) _ _ c2
    have d3 := fun q => hXc _ (hD q) _ _ c3
    have hGX : ∀ k o, X k o → G k ∧ MT o := fun k o hx => by
      rw [hX] at hx
      obtain ⟨hx, cur, rfl⟩ := hx
      rcases hx with hx | hx | hx
      · exact ⟨HM.out.gx k hx, mt_str _⟩
      · exact ⟨HM.out.ga k hx, mt_str _⟩
      · exact ⟨HM.out.gB k hx, mt_str _⟩
    have HXL := Lib.hid hXl
    have HGX := Lib.hid hGX
    clear hXl hGX hgt c1 c2 c3 hXc
    refine FW.wp_flow (X := X) (0 :: 1 :: 2 :: 3 :: 4 :: 5 :: 6 :: 7 :: 8 :: 10 :: 11 :: 12 :: 13 :: 14 :: 15 :: 17 :: 18 :: 19 :: 20 :: 21 :: 22 :: 9 :: 16 :: 23 :: 24 :: 25 :: 26 :: 27 :: 28 :: 29 :: 30 :: 31 :: 32 :: [])
      (fun n => if n = 6 ∨ n = 13 ∨ n = 20 then .still else if n = 8 ∨ n = 15 ∨ n = 22 then .keeps (StrS A.heap.size s) OneSh else if n = 9 ∨ n = 16 ∨ n = 23 then .bar else if n = 26 ∨ n = 29 ∨ n = 32 then .wall else .pure) (by kernel_rfl) (by kernel_rfl) ?_
    iterate 6 (refine FW.flow_p rfl rfl rfl ?_; go_big_quiet_step (fail); refine wpQuiet_nil ?_)
    refine FW.flow_q rfl rfl rfl ?_; go_big_quiet_step (fail); refine wpQuiet_nil ?_
    refine FW.flow_p rfl rfl rfl ?_; go_big_quiet_step (fail); refine wpQuiet_nil ?_
    refine FW.flow_k rfl rfl rfl (by simp) ⟨_, 0, rfl⟩ (fun _ _ _ h hE => h.keep hE HXL.out) (fun v A ⟨g, h, _⟩ => ⟨g, h⟩) (fun w5 hE5 _ => ?_) (fun v hv' => ?_)
    · have hs5 : A.heap.size ≤ w5.heap.size := hE5.size
      have hS : StrS A.heap.size s (.slice (some ⟨w5.heap.size, 0, none⟩) 1 1) (w5.alloc (.cells #[.string s] 9)) := ⟨w5.heap.size, rfl, hs5, World.alloc_heap_new _ _⟩
      have hE6 : Ext w5 (w5.alloc (.cells #[.string s] 9)) := (Keep.refl _ _).alloc _
      go_wp2
    obtain ⟨g8, rfl⟩ := hv'
    simp only [Act.put, List.setIfInBounds_toArray, List.set_cons_succ, List.set_cons_zero]
    iterate 3 (refine FW.flow_p rfl rfl rfl ?_; go_big_quiet_step (fail); refine wpQuiet_nil ?_)
    refine FW.flow_q rfl rfl rfl ?_; go_big_quiet_step (fail); refine wpQuiet_nil ?_
    iterate 1 (refine FW.flow_p rfl rfl rfl ?_; go_big_quiet_step (fail); refine wpQuiet_nil ?_)
    refine FW.flow_k rfl rfl rfl (by simp) ⟨_, 0, rfl⟩ (fun _ _ _ h hE => h.keep hE HXL.out) (fun v A ⟨g, h, _⟩ => ⟨g, h⟩) (fun w5 hE5 _ => ?_) (fun v hv' => ?_)
    · have hs5 : A.heap.size ≤ w5.heap.size := hE5.size
      have hS : StrS A.heap.size s (.slice (some ⟨w5.heap.size, 0, none⟩) 1 1) (w5.alloc (.cells #[.string s] 9)) := ⟨w5.heap.size, rfl, hs5, World.alloc_heap_new _ _⟩
      have hE6 : Ext w5 (w5.alloc (.cells #[.string s] 9)) := (Keep.refl _ _).alloc _
      go_wp2
    obtain ⟨g15, rfl⟩ := hv'
    simp only [Act.put, List.setIfInBounds_toArray, List.set_cons_succ, List.set_cons_zero]
    iterate 3 (refine FW.flow_p rfl rfl rfl ?_; go_big_quiet_step (fail); refine wpQuiet_nil ?_)
    refine FW.flow_q rfl rfl rfl ?_; go_big_quiet_step (fail); refine wpQuiet_nil ?_
    iterate 1 (refine FW.flow_p rfl rfl rfl ?_; go_big_quiet_step (fail); refine wpQuiet_nil ?_)
    refine FW.flow_k rfl rfl rfl (by simp) ⟨_, 0, rfl⟩ (fun _ _ _ h hE => h.keep hE HXL.out) (fun v A ⟨g, h, _⟩ => ⟨g, h⟩) (fun w5 hE5 _ => ?_) (fun v hv' => ?_)
    · have hs5 : A.heap.size ≤ w5.heap.size := hE5.size
      have hS : StrS A.heap.size s (.slice (some ⟨w5.heap.size, 0, none⟩) 1 1) (w5.alloc (.cells #[.string s] 9)) := ⟨w5.heap.size, rfl, hs5, World.alloc_heap_new _ _⟩
      have hE6 : Ext w5 (w5.alloc (.cells #[.string s] 9)) := (Keep.refl _ _).alloc _
      go_wp2
    obtain ⟨g22, rfl⟩ := hv'
    simp only [Act.put, List.setIfInBounds_toArray, List.set_cons_succ, List.set_cons_zero]
    clear d1 d2 d3 hD
    refine FW.flow_b rfl rfl (by kernel_rfl) (fun w5 hE5 hf => ?_)
    obtain ⟨q, hq0, hq1, hq2⟩ : StrS A.heap.size s (.slice (some ⟨g8, 0, none⟩) 1 1) w5 := hf 8 (by kernel_rfl)
    cases hq0
    have hx5 : Ext A w5 := ((Keep.refl _ A).drew).trans hE5
    have r5 := HM.out.ext hx5
    obtain ⟨a9, e9, w9, hrun9, o9, k9, b9⟩ := append_own_str (s := s) r5.ox (by omega) hq2
    have r9 := r5.app1 k9 o9 b9 (HGB.out _ hx5.size)
    have own9 := k9.owns' (Ext.owns hx5 HO.out) (fun k cur _ hx => by obtain ⟨_, _, hx⟩ := hx; cases hx)
    have kk9 : Keep (fun k o => G k ∧ MT o) A w9 := (Keep.of_ext hx5).trans (k9.mono (fun k o ho hx => by obtain ⟨hx, cur, rfl⟩ := hx; exact ⟨HM.out.gx k hx, mt_str _⟩))
    have kx9 : Keep X w5 w9 := k9.mono (fun k o ho hx => by rw [hX]; obtain ⟨hx, cur, rfl⟩ := hx; exact ⟨.inl hx, cur, rfl⟩)
    refine ⟨.slice a9 (lx.length + 1) e9, w9, FW.opRuns_val rfl (FW.exec_append hrun9 rfl rfl rfl), kx9, ?_⟩
    have R9 := Lib.hid r9
    have W9 := Lib.hid own9
    have K9 := Lib.hid kk9
    clear hf hrun9 r5 r9 o9 k9 kx9 kk9 own9 hq1 hq2 hE5 hx5
    simp only [Act.put, List.setIfInBounds_toArray, List.set_cons_succ, List.set_cons_zero]
    refine FW.flow_b rfl rfl (by kernel_rfl) (fun w15 hE15 hf => ?_)
    obtain ⟨q, hq0, hq1, hq2⟩ : StrS A.heap.size s (.slice (some ⟨g15, 0, none⟩) 1 1) w15 := hf 15 (by kernel_rfl)
    cases hq0
    have r15 := R9.out.ext hE15
    obtain ⟨a16, e16, w16, hrun16, o16, k16, b16⟩ := append_own_str (s := s) r15.oa (by omega) hq2
    have hs15 : A.heap.size ≤ w15.heap.size := Nat.le_trans K9.out.size hE15.size
    have r16 := r15.app2 k16 o16 b16 (HGB.out _ hs15)
    have own16 := k16.owns' (Ext.owns hE15 W9.out) (fun k cur _ hx => by obtain ⟨_, _, hx⟩ := hx; cases hx)
    have kk16 : Keep (fun k o => G k ∧ MT o) A w16 := (K9.out.trans (Keep.of_ext hE15)).trans (k16.mono (fun k o ho hx => by obtain ⟨hx, cur, rfl⟩ := hx; exact ⟨HM.out.ga k hx, mt_str _⟩))
    have kx16 : Keep X w15 w16 := k16.mono (fun k o ho hx => by rw [hX]; obtain ⟨hx, cur, rfl⟩ := hx; exact ⟨.inr (.inl hx), cur, rfl⟩)
    refine ⟨.slice a16 (la.length + 1) e16, w16, FW.opRuns_val rfl (FW.exec_append hrun16 rfl rfl rfl), kx16, ?_⟩
    have R16 := Lib.hid r16
    have W16 := Lib.hid own16
    have K16 := Lib.hid kk16
    clear hf hrun16 r15 r16 o16 k16 kx16 kk16 own16 hq1 hq2 hE15 R9 W9 K9
    simp only [Act.put, List.setIfInBounds_toArray, List.set_cons_succ, List.set_cons_zero]
    refine FW.flow_b rfl rfl (by kernel_rfl) (fun w22 hE22 hf => ?_)
    obtain ⟨q, hq0, hq1, hq2⟩ : StrS A.heap.size s (.slice (some ⟨g22, 0, none⟩) 1 1) w22 := hf 22 (by kernel_rfl)
    cases hq0
    have r22 := R16.out.ext hE22
    obtain ⟨a23, e23, w23, hrun23, o23, k23, b23⟩ := append_own_str (s := s) r22.ob (by omega) hq2
    have hs22 : A.heap.size ≤ w22.heap.size := Nat.le_trans K16.out.size hE22.size
    have r23 := r22.app3 k23 o23 b23 (HGB.out _ hs22)
    have own23 := k23.owns' (Ext.owns hE22 W16.out) (fun k cur _ hx => by obtain ⟨_, _, hx⟩ := hx; cases hx)
    have kk23 : Keep (fun k o => G k ∧ MT o) A w23 := (K16.out.trans (Keep.of_ext hE22)).trans (k23.mono (fun k o ho hx => by obtain ⟨hx, cur, rfl⟩ := hx; exact ⟨HM.out.gB k hx, mt_str _⟩))
    have kx23 : Keep X w22 w23 := k23.mono (fun k o ho hx => by rw [hX]; obtain ⟨hx, cur, rfl⟩ := hx; exact ⟨.inr (.inr hx), cur, rfl⟩)
    refine ⟨.slice a23 (lb.length + 1) e23, w23, FW.opRuns_val rfl (FW.exec_append hrun23 rfl rfl rfl), kx23, ?_⟩
    have R23 := Lib.hid r23
    have W23 := Lib.hid own23
    have K23 := Lib.hid kk23
    clear hf hrun23 r22 r23 o23 k23 kx23 kk23 own23 hq1 hq2 hE22 R16 W16 K16 HO HGX HXL hX b9 b16 b23 hs15 hs22
    simp only [Act.put, List.setIfInBounds_toArray, List.set_cons_succ, List.set_cons_zero]
    iterate 2 (refine FW.flow_p rfl rfl rfl ?_; go_big_quiet_step (fail); refine wpQuiet_nil ?_)
    refine FW.flow_w rfl rfl rfl (by kernel_rfl) (fun C hC _ => ?_)
    have rC := R23.out.ext hC
    have oC := Ext.owns hC W23.out
    have kC := K23.out.trans (Keep.of_ext hC)
    obtain ⟨oN, kN⟩ := own_store (j := N * 4 + 1) (u := .slice a9 (lx.length + 1) e9) oC
    have cC := oC.cellAt (N * 4 + 1) (by omega)
    have hcs : ∃ u, C.cell? ⟨g, N * 4 + 1, none⟩ = some u := ⟨_, cC.trans (List.getElem?_eq_getElem (by simp [hCl]))⟩
    obtain ⟨uC, hu⟩ := hcs
    have fC := oC.frozenAt (N * 4 + 1)
    have rN := rC.keep kN (fun cur hx => by obtain ⟨_, _, hx⟩ := hx; cases hx) (fun k cur hx => by obtain ⟨_, _, hx⟩ := hx; cases hx)
    have kT : Keep (fun k o => G k ∧ MT o) A (C.setCell ⟨g, N * 4 + 1, none⟩ (.slice a9 (lx.length + 1) e9)) := kC.trans (kN.mono (fun k o ho hx => by obtain ⟨rfl, cur, rfl⟩ := hx; exact ⟨hgv, mt_hunk _⟩))
    have R26 := Lib.hid rN
    have W26 := Lib.hid oN
    have K26 := Lib.hid kT
    clear rC oC kC oN kN cC rN kT hC R23 W23 K23
    go_wp2
    iterate 2 (refine FW.flow_p rfl rfl rfl ?_; go_big_quiet_step (fail); refine wpQuiet_nil ?_)
    refine FW.flow_w rfl rfl rfl (by kernel_rfl) (fun C hC _ => ?_)
    have rC := R26.out.ext hC
    have oC := Ext.owns hC W26.out
    have kC := K26.out.trans (Keep.of_ext hC)
    obtain ⟨oN, kN⟩ := own_store (j := N * 4 + 2) (u := .slice a16 (la.length + 1) e16) oC
    have cC := oC.cellAt (N * 4 + 2) (by omega)
    have hcs : ∃ u, C.cell? ⟨g, N * 4 + 2, none⟩ = some u := ⟨_, cC.trans (List.getElem?_eq_getElem (by simp [hCl]))⟩
    obtain ⟨uC, hu⟩ := hcs
    have fC := oC.frozenAt (N * 4 + 2)
    have rN := rC.keep kN (fun cur hx => by obtain ⟨_, _, hx⟩ := hx; cases hx) (fun k cur hx => by obtain ⟨_, _, hx⟩ := hx; cases hx)
    have kT : Keep (fun k o => G k ∧ MT o) A (C.setCell ⟨g, N * 4 + 2, none⟩ (.slice a16 (la.length + 1) e16)) := kC.trans (kN.mono (fun k o ho hx => by obtain ⟨rfl, cur, rfl⟩ := hx; exact ⟨hgv, mt_hunk _⟩))
    have R29 := Lib.hid rN
    have W29 := Lib.hid oN
    have K29 := Lib.hid kT
    clear rC oC kC oN kN cC rN kT hC R26 W26 K26
    go_wp2
    iterate 2 (refine FW.flow_p rfl rfl rfl ?_; go_big_quiet_step (fail); refine wpQuiet_nil ?_)
    refine FW.flow_w rfl rfl rfl (by kernel_rfl) (fun C hC _ => ?_)
    have rC := R29.out.ext hC
    have oC := Ext.owns hC W29.out
    have kC := K29.out.trans (Keep.of_ext hC)
    obtain ⟨oN, kN⟩ := own_store (j := N * 4 + 3) (u := .slice a23 (lb.length + 1) e23) oC
    have cC := oC.cellAt (N * 4 + 3) (by omega)
    have hcs : ∃ u, C.cell? ⟨g, N * 4 + 3, none⟩ = some u := ⟨_, cC.trans (List.getElem?_eq_getElem (by simp [hCl]))⟩
    obtain ⟨uC, hu⟩ := hcs
    have fC := oC.frozenAt (N * 4 + 3)
    have rN := rC.keep kN (fun cur hx => by obtain ⟨_, _, hx⟩ := hx; cases hx) (fun k cur hx => by obtain ⟨_, _, hx⟩ := hx; cases hx)
    have kT : Keep (fun k o => G k ∧ MT o) A (C.setCell ⟨g, N * 4 + 3, none⟩ (.slice a23 (lb.length + 1) e23)) := kC.trans (kN.mono (fun k o ho hx => by obtain ⟨rfl, cur, rfl⟩ := hx; exact ⟨hgv, mt_hunk _⟩))
    have R32 := Lib.hid rN
    have W32 := Lib.hid oN
    have K32 := Lib.hid kT
    clear rC oC kC oN kN cC rN kT hC R29 W29 K29
    go_wp2
    refine FW.flow_end (fun B hB _ => ?_)
    have hw := Ext.owns hB W32.out
    rw [set3 hCl, ← hC0] at hw
    subst hN
    have hfull := (R32.out.ext hB).full hw
    have hfin := fun u => HRR.out u B ⟨_, _, hfull⟩ (K32.out.trans (Keep.of_ext hB))
    clear hw hfull R32 W32 K32 HM HRR
    go_wp2
    go_end0
    exact hfin _
end Go.Proofs.Ythedpnnfkmbdpaa
