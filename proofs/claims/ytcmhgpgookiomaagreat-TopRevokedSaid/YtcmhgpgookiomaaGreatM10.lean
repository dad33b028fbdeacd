/-
  TopRevoked: the keys of a map by numbers: maps.Keys, slices.Collect. slices.AppendSeq and slices.Collect of numbers. slices.Sort of at most twelve numbers: an insertion. slices.Sort, slices.Sorted of at most twelve numbers; rising.
-/
import Derived.Test.YtcmhgpgookiomaaGreatM09
namespace Go.Proofs.YtcmhgpgookiomaaGreat
open Go.RowKit Go.Shelf Go.Maps

attribute [local go_sem] Oper.semAt_some

/-- What has come of a map's keys. -/
def CollN (D0 : DataW Value) (left : Lit → Bool) (pre : List Nat) : Prop := pre.Nodup ∧ ∀ x, x ∈ pre ↔ (x < 4294967296 ∧ Maps.has D0 (nlit x) = true ∧ left (nlit x) = false)
theorem CollN.start (D0 : DataW Value) : CollN D0 (Maps.has D0) [] := ⟨List.nodup_nil, fun x => by cases Maps.has D0 (nlit x) <;> simp⟩
theorem CollN.step {D0 : DataW Value} {left : Lit → Bool} {pre : List Nat} (h : CollN D0 left pre) {x : Nat} (hx : x < 4294967296) {y : DataW Value} (hl : left (nlit x) = true) (hat : ∀ zd, D0.atKey (nlit x) zd = y) : CollN D0 (fun z => left z && !z.sameKey (nlit x)) (pre ++ [x]) := by
  have hh : Maps.has D0 (nlit x) = true := has_true_of_atKey hat
  have hn : x ∉ pre := fun hp => by have := ((h.2 x).1 hp).2.2; rw [hl] at this; cases this
  refine ⟨List.nodup_append.2 ⟨h.1, by simp, fun a ha b hb => by simp at hb; subst hb; exact fun e => hn (e ▸ ha)⟩, fun y => ?_⟩
  by_cases hy : y = x
  · subst hy; unfold nlit at hh ⊢; simp [hh, hx, Lit.sameKey]
  · have : ¬ (y : Int) = (x : Int) := by omega
    simp [h.2 y, hy, nlit, Lit.sameKey, this]
theorem nmap_open {α : Type} {w : World} {B : Nat} {V : α → Value} {l : List (Nat × α)} (h : NMap w B V l) : ∃ D, w.ownsMap Tryz.prog 22 hv B l.length D ∧ Maps.size D ≤ l.length ∧ ∀ x, x < 4294967296 → (Maps.has D (nlit x) = (getA l x).isSome ∧ ∀ z, D.atKey (nlit x) (.held z) = .held (((getA l x).map V).getD z)) := by
  obtain ⟨S, ⟨D, h1, h2, h3⟩, hS⟩ := h.map
  refine ⟨D, h1, ?_, fun x hx => ⟨?_, fun z => ?_⟩⟩
  · obtain ⟨es, clock, _, _, hs, rfl⟩ := h1
    simp only [size_eq, length_sorted, List.length_map]
    rw [Array.length_toList]
    exact hs
  · rw [(h3 (nlit x) undef).1, hS x hx, Option.isSome_map]
  · rw [(h3 (nlit x) z).2, hS x hx]
theorem CollN.perm {α : Type} {w : World} {B : Nat} {V : α → Value} {l : List (Nat × α)} (h : NMap w B V l) {D : DataW Value} (hD : ∀ x, x < 4294967296 → (Maps.has D (nlit x) = (getA l x).isSome ∧ ∀ z, D.atKey (nlit x) (.held z) = .held (((getA l x).map V).getD z))) {left : Lit → Bool} {pre : List Nat} (hc : CollN D left pre) (hl : ∀ kl, left kl = false) : pre.Perm (numsA l) := by
  refine (List.perm_ext_iff_of_nodup hc.1 (nums_nodup h.rise)).2 fun x => ?_
  rw [hc.2 x, mem_nums, hl]
  constructor
  · rintro ⟨h1, h2, _⟩
    rw [← (hD x h1).1]; exact h2
  · intro hx
    have hx2 : x < 4294967296 := by
      obtain ⟨y, hy⟩ := Option.isSome_iff_exists.1 hx
      exact h.lt _ (getA_mem hy)
    exact ⟨hx2, by rw [(hD x hx2).1]; exact hx, rfl⟩
theorem walks_of_keep {w w' : World} (h : Keep (fun _ o => o.isWalk = false) w w') : KeepsWalks w w' := ⟨h.size, fun k o hk ho => h.block k o hk (fun h => by rw [ho] at h; cases h)⟩


set_option maxRecDepth 20000 in
set_option maxHeartbeats 1000000 in
theorem keysB_iter {α : Type} (V : α → Value) (l : List (Nat × α)) (Bm b : Nat) :
    IterL Tryz.prog 108 #[.pointer (some ⟨Bm, 0, none⟩)] l.length u32n (fun ss => ss.Perm (numsA l)) (fun A => Arr A Bm 137 [.map (some b)] ∧ NMap A b V l) := by
  intro lp J W hP hJ hY h0
  obtain ⟨hbm, hmap⟩ := hP
  obtain ⟨D0, hown, hsz, hD⟩ := nmap_open hmap
  have hm := hbm.cell (i := 0) rfl
  have HP := Lib.hid hmap
  have HD := Lib.hid hD
  clear hmap hD hbm
  refine callsIn_wide.1 (callsIn_of_wp (F := Fence.wide) (n := 3) Tryz.func108 rfl trivial ?_ rfl)
  simp only [Tryz.ntmps108, List.size_toArray, List.length_cons, List.length_nil, Nat.reduceAdd, Nat.reduceSub, Array.replicate_succ, Array.replicate_zero, List.push_toArray, List.append_toArray, List.nil_append, List.cons_append]
  gi_wp2_with (first
    | (gi_at_range; refine wpListIn_range_own _ rfl _ 137 rfl 22 4 law_u32 Tryz.underlying137 _ b l.length _ rfl hown ?_; intro w0 hrg0 hg0 hs0)
    | gi_in)
  go_frame
  gi_loopw [3] (fun _ wr => ∃ (left : Lit → Bool) (cnt : Nat) (ss : List Nat), wr.ranges Tryz.prog 22 hv b W.heap.size l.length D0 left cnt ∧ ss.length + cnt ≤ l.length ∧ CollN D0 left ss ∧ J ss wr)
    (fun _ wr => wr.rangeLeft b W.heap.size)
  case atStart => exact ⟨_, _, [], hrg0, by simpa using hsz, CollN.start D0, hJ [] W w0 h0 (Keep.of_grownBy hg0 (fun k o hk => by cases hk))⟩
  case round =>
    obtain ⟨left, cnt, ss, hrg, hcs, hC, hJs⟩ := hrel
    gi_wp2_with (first
      | (gi_at_next; refine wpListIn_next_ranges _ rfl _ rfl 22 law_u32 hv u32n id (fun key kl hk => by obtain ⟨x, _, hx, _⟩ := key_u32_inv hk; exact ⟨x, hx⟩) (fun v _ _ => ⟨v, rfl⟩) b W.heap.size l.length _ _ _ rfl hrg ?_ ?_)
      | gi_in)
    · intro hc0 hl0
      gi_wp2
      go_end0
      exact ⟨⟨_, rfl⟩, ss, hC.perm HP.out HD.out hl0, hJs⟩
    · intro x c kl yd yp w2 cnt2 hkey hlk hvv hat hrg2 hlt hg2 hs2 hen
      obtain ⟨x', hx', ex, rfl⟩ := key_u32_inv hkey
      obtain rfl : x = x' := u32n_inj ex
      have hr1 : W.heap.size ≤ W.heap.size := Nat.le_refl _
      have hJ2 : J ss w2 := hJ ss wr w2 hJs (Keep.of_grownBy hg2 (fun k o hk ho => by
        cases hk
        obtain ⟨o', ho', hw'⟩ := hrg.iter_walk
        rw [ho] at ho'; cases ho'
        exact ⟨Nat.le_refl _, hw'⟩))
      have hln : ss.length < l.length := by omega
      obtain ⟨fn, tmps, assign, body, hy, hR⟩ := hY ss x w2 hln hJ2
      unfold u32n at hen hy
      clear hs2 hr1 hln ex
      gi_wp2
      refine (roundIn_wide hR).mono ?_
      rintro e W3 ⟨rfl, hJ3, hk3⟩
      gi_wp2
      have hrg3 := hrg2.of_walks (walks_of_keep hk3)
      go_roundw
      case rel => exact ⟨_, cnt2, ss ++ [x], hrg3, by simp; omega, hC.step hx' hlk hat, hJ3⟩
      case measure => rw [hrg3.left_eq, hrg.left_eq]; exact hlt

theorem keysB_any (w : World) (mb : Option Nat) : Calls Tryz.prog 94 #[.map mb] w fun e w' => e = .returned (.func (.func 108) #[] #[.pointer (some ⟨w.heap.size, 0, none⟩)]) ∧ w' = w.alloc (.cells #[.map mb] 137) := by
  go_enter Tryz.func94, Tryz.ntmps94
  go_wp2
  go_ret
  exact ⟨rfl, rfl⟩

set_option maxRecDepth 20000 in
set_option maxHeartbeats 1000000 in
theorem keysK_iter {α : Type} (V : α → Value) (l : List (Nat × α)) (Bm b : Nat) :
    IterL Tryz.prog 97 #[.pointer (some ⟨Bm, 0, none⟩)] l.length u32n (fun ss => ss.Perm (numsA l)) (fun A => Arr A Bm 72 [.map (some b)] ∧ NMap A b V l) := by
  intro lp J W hP hJ hY h0
  obtain ⟨hbm, hmap⟩ := hP
  obtain ⟨D0, hown, hsz, hD⟩ := nmap_open hmap
  have hm := hbm.cell (i := 0) rfl
  have HP := Lib.hid hmap
  have HD := Lib.hid hD
  clear hmap hD hbm
  refine callsIn_wide.1 (callsIn_of_wp (F := Fence.wide) (n := 3) Tryz.func97 rfl trivial ?_ rfl)
  simp only [Tryz.ntmps97, List.size_toArray, List.length_cons, List.length_nil, Nat.reduceAdd, Nat.reduceSub, Array.replicate_succ, Array.replicate_zero, List.push_toArray, List.append_toArray, List.nil_append, List.cons_append]
  gi_wp2_with (first
    | (gi_at_range; refine wpListIn_range_own _ rfl _ 72 rfl 22 86 law_u32 Tryz.underlying72 _ b l.length _ rfl hown ?_; intro w0 hrg0 hg0 hs0)
    | gi_in)
  go_frame
  gi_loopw [3] (fun _ wr => ∃ (left : Lit → Bool) (cnt : Nat) (ss : List Nat), wr.ranges Tryz.prog 22 hv b W.heap.size l.length D0 left cnt ∧ ss.length + cnt ≤ l.length ∧ CollN D0 left ss ∧ J ss wr)
    (fun _ wr => wr.rangeLeft b W.heap.size)
  case atStart => exact ⟨_, _, [], hrg0, by simpa using hsz, CollN.start D0, hJ [] W w0 h0 (Keep.of_grownBy hg0 (fun k o hk => by cases hk))⟩
  case round =>
    obtain ⟨left, cnt, ss, hrg, hcs, hC, hJs⟩ := hrel
    gi_wp2_with (first
      | (gi_at_next; refine wpListIn_next_ranges _ rfl _ rfl 22 law_u32 hv u32n id (fun key kl hk => by obtain ⟨x, _, hx, _⟩ := key_u32_inv hk; exact ⟨x, hx⟩) (fun v _ _ => ⟨v, rfl⟩) b W.heap.size l.length _ _ _ rfl hrg ?_ ?_)
      | gi_in)
    · intro hc0 hl0
      gi_wp2
      go_end0
      exact ⟨⟨_, rfl⟩, ss, hC.perm HP.out HD.out hl0, hJs⟩
    · intro x c kl yd yp w2 cnt2 hkey hlk hvv hat hrg2 hlt hg2 hs2 hen
      obtain ⟨x', hx', ex, rfl⟩ := key_u32_inv hkey
      obtain rfl : x = x' := u32n_inj ex
      have hr1 : W.heap.size ≤ W.heap.size := Nat.le_refl _
      have hJ2 : J ss w2 := hJ ss wr w2 hJs (Keep.of_grownBy hg2 (fun k o hk ho => by
        cases hk
        obtain ⟨o', ho', hw'⟩ := hrg.iter_walk
        rw [ho] at ho'; cases ho'
        exact ⟨Nat.le_refl _, hw'⟩))
      have hln : ss.length < l.length := by omega
      obtain ⟨fn, tmps, assign, body, hy, hR⟩ := hY ss x w2 hln hJ2
      unfold u32n at hen hy
      clear hs2 hr1 hln ex
      gi_wp2
      refine (roundIn_wide hR).mono ?_
      rintro e W3 ⟨rfl, hJ3, hk3⟩
      gi_wp2
      have hrg3 := hrg2.of_walks (walks_of_keep hk3)
      go_roundw
      case rel => exact ⟨_, cnt2, ss ++ [x], hrg3, by simp; omega, hC.step hx' hlk hat, hJ3⟩
      case measure => rw [hrg3.left_eq, hrg.left_eq]; exact hlt

theorem keysK_any (w : World) (mb : Option Nat) : Calls Tryz.prog 82 #[.map mb] w fun e w' => e = .returned (.func (.func 97) #[] #[.pointer (some ⟨w.heap.size, 0, none⟩)]) ∧ w' = w.alloc (.cells #[.map mb] 72) := by
  go_enter Tryz.func82, Tryz.ntmps82
  go_wp2
  go_ret
  exact ⟨rfl, rfl⟩
end Go.Proofs.YtcmhgpgookiomaaGreat
namespace Go.Proofs.YtcmhgpgookiomaaGreat
open Go.RowKit Go.Shelf Go.Maps

attribute [local go_sem] Oper.semAt_some

theorem ownMono {w : World} {base base' e sz n : Nat} {v : Value} {xs : List Value} (h : w.ownsRow base e sz v n xs) (hb : base' ≤ base) : w.ownsRow base' e sz v n xs :=
  ⟨h.1, h.2.imp id (fun ⟨g, cap, cur, h1, h2, h3⟩ => ⟨g, cap, cur, h1, Nat.le_trans hb h2, h3⟩)⟩
theorem own_putObj {w : World} {base n sz : Nat} {e : TypeId} {v : Value} {xs : List Value} (h : w.ownsRow base e sz v n xs) {D : Nat} {o : Obj} (o' : Obj) (hd : w.heap[D]? = some o) (hc : o.isCells = false) : (w.putObj D o').ownsRow base e sz v n xs :=
  (((Keep.refl (fun k ob => k = D ∧ ob.isCells = false) w).putObj D o' (fun o2 h2 => by rw [hd] at h2; cases h2; exact ⟨rfl, hc⟩))).owns' h (fun k cur _ hx => by cases hx.2)

set_option maxRecDepth 20000 in
set_option maxHeartbeats 2000000 in
theorem appendSeq_any {gf : Nat} {lb : Array Value} {N : Nat} {S : List Nat → Prop} {Pre : World → Prop} (hit : IterL Tryz.prog gf lb N u32n S Pre) (eg : ∀ args w, (callFunc gf args).run Tryz.prog w = .ok (.enter gf args) w) (hN : N ≤ 100000) (w : World) (hPre : ∀ A, Ext w A → Pre A) :
    Calls Tryz.prog 109 #[.slice none 0 0, .func (.func gf) #[] lb] w fun e w' => ∃ v ss, e = .returned v ∧ S ss ∧ w'.ownsRow w.heap.size 22 1 v ss.length (ss.map u32n) ∧ Ext w w' := by
  refine calls_cps fun R hR => ?_
  have HR := Lib.hid hR
  clear hR
  refine calls_marks Tryz.func109 rfl ?_
  simp only [Tryz.ntmps109, List.size_toArray, List.length_cons, List.length_nil, Nat.reduceAdd, Nat.reduceSub, Array.replicate_succ, Array.replicate_zero, List.push_toArray, List.append_toArray, List.nil_append, List.cons_append]
  go_wp2_with fail
  refine wp_laid1 fun w2 hE hb0 => ?_
  have bO : Boxed w2 w.heap.size 79 (.slice none 0 0) := hb0
  have hs2 : w.heap.size < w2.heap.size := Keep.lt hb0
  clear hb0
  refine rangeL_wp rfl eg hit rfl (fun A hA => hPre A (hE.trans hA))
    (fun pre A => ∃ v, Boxed A w.heap.size 79 v ∧ A.ownsRow w.heap.size 22 1 v pre.length (pre.map u32n) ∧ Ext w A ∧ pre.length ≤ N)
    (fun pre A B ⟨v, h1, h2, h3, h4⟩ hk => ⟨v, hk.boxed h1 (fun hx => by cases hx.2), hk.owns' h2 (fun k cur _ hx => by cases hx.2), (((Keep.of_ext h3).trans hk).mono (fun k o ho hx => by have := Keep.lt ho; have := hx.1; omega)), h4⟩)
    ⟨_, bO, World.ownsRow_nil _ _ _ _, hE, Nat.zero_le _⟩ ?round ?done
  case round =>
    rintro l' pre x A KN hk ⟨v, hv, hrow, hA, _⟩ hKN
    gi_wp2
    refine ⟨Keep.refl _ _, fun C hC => ?_⟩
    replace hv := hC.boxed hv (fun hx => by cases hx.2)
    replace hrow := hC.owns' hrow (fun k cur _ hx => by cases hx.2)
    replace hA : Ext w C := ((Keep.of_ext hA).trans hC).mono (fun k o ho hx => by have := Keep.lt ho; have := hx.1; omega)
    have hsrc := (lit_row (base := 0) C 22 #[u32n x] 1 (by simp [maxLen]) rfl (Nat.zero_le _)).2
    obtain ⟨v', w', hrun, hown', hgrow, _⟩ := run_append_row (P := Tryz.prog) (C.alloc (.cells #[u32n x] 22)) w.heap.size 79 79 22 (.int .u32 0) 1 4 Tryz.underlying79 info_u32 rfl (by decide) (hrow.alloc _) hsrc (by simp [u32n, Value.oneCell']) (by unfold maxLen; omega) (by omega) (by have := hA.size; simp; omega)
    obtain ⟨a2, c2, rfl, _⟩ := owns_row hown'
    have hvB : ∀ g, v.ownBlock = some g → w.heap.size ≤ g ∧ g < C.heap.size := hrow.lt
    obtain ⟨x1, x2, x3, x4⟩ := box_append (X := roundL w2.heap.size) hv (by decide) hrow ((Keep.refl _ C).alloc (.cells #[u32n x] 22)) hown' hgrow ⟨rfl, .inr rfl⟩ (fun g cur hg => ⟨rfl, .inr rfl⟩)
    have hE' : Ext w (w'.setCell ⟨w.heap.size, 0, none⟩ (.slice a2 (pre.length + 1) c2)) := Ext.of_below (((((Ext.below hA).alloc hA.size _).grown hgrow (by have := hA.size; simp; omega) (fun g hg => (hvB g hg).1)).setCell (p := ⟨w.heap.size, 0, none⟩) (Nat.le_refl _) _))
    have Hrun := Lib.hid hrun
    have cO := hv.cell
    have cO1 := x1.cell
    have fO1 := x1.frozen
    have hlen : (pre ++ [x]).length = pre.length + 1 := by simp
    have hfin := hKN _ _ x4 ⟨_, x2, by rw [hlen, List.map_append]; exact x3, hE', by omega⟩
    unfold u32n at Hrun
    unfold u32n
    clear hrun hlen hE' x1 x2 x3 x4 hsrc hgrow hown' hKN
    gi_wp2_with (gi_at_builtin; go_must (refine wpListIn_append_run Hrun.out rfl rfl rfl rfl ?_))
    exact hfin
  case done =>
    rintro D ss A hD hS ⟨v, hv, hrow, hA, _⟩ hd
    have cO := hv.cell
    obtain ⟨a2, c2, rfl, _⟩ := owns_row hrow
    go_wp2
    refine mark_ret hd rfl (results_tmp rfl _ _ _) (HR.out _ _ ⟨_, ss, rfl, hS, own_putObj hrow _ hd rfl, ?_⟩)
    exact hA.putObj _ _ (fun o ho => by have := Keep.lt ho; omega)

theorem collect_any {gf : Nat} {lb : Array Value} {N : Nat} {S : List Nat → Prop} {Pre : World → Prop} (hit : IterL Tryz.prog gf lb N u32n S Pre) (eg : ∀ args w, (callFunc gf args).run Tryz.prog w = .ok (.enter gf args) w) (hN : N ≤ 100000) (w : World) (hPre : ∀ A, Ext w A → Pre A) :
    Calls Tryz.prog 95 #[.func (.func gf) #[] lb] w fun e w' => ∃ v ss, e = .returned v ∧ S ss ∧ w'.ownsRow w.heap.size 22 1 v ss.length (ss.map u32n) ∧ Ext w w' := by
  have hc := appendSeq_any hit eg hN w hPre
  refine calls_cps fun R hR => ?_
  have HR := Lib.hid hR
  clear hR
  go_enter Tryz.func95, Tryz.ntmps95
  go_wp2_with fail
  refine hc.mono ?_
  rintro e w' ⟨v, ss, rfl, h1, h2, h3⟩
  have hRR := HR.out _ w' ⟨v, ss, rfl, h1, h2, h3⟩
  clear HR h2 h3 hc
  go_wp2
  exact hRR
end Go.Proofs.YtcmhgpgookiomaaGreat
namespace Go.Proofs.YtcmhgpgookiomaaGreat
open Go.RowKit Go.Shelf Go.Maps

attribute [local go_sem] Oper.semAt_some

theorem less_any (x y : Nat) (b : Bool) (hb : decide (x < y) = b) (w : World) : Calls Tryz.prog 132 #[.int .u32 (x : Int), .int .u32 (y : Int)] w fun e w' => e = .returned (.bool b) ∧ w' = w := by
  have hx : ((x : Int) != (x : Int)) = false := by simp
  by_cases h : x < y
  · have hi : ((x : Int) < (y : Int)) := by omega
    obtain rfl : b = true := by rw [← hb]; simpa using h
    clear hb
    go_enter Tryz.func132, Tryz.ntmps132
    go_wp2
    go_ret
    exact ⟨rfl, rfl⟩
  · have hi : ¬ ((x : Int) < (y : Int)) := by omega
    obtain rfl : b = false := by rw [← hb]; simpa using h
    clear hb
    go_enter Tryz.func132, Tryz.ntmps132
    go_wp2
    go_ret
    exact ⟨rfl, rfl⟩

def vI : Value → Int
  | .int _ q => q
  | _ => 0
def Up (l : List Nat) : Prop := l.Pairwise (· ≤ ·)
theorem up_ins {q r : List Nat} {x : Nat} (h : Up (q ++ r)) (hr : ∀ z ∈ r, x < z) (hq : ∀ q' y, q = q' ++ [y] → y ≤ x) : Up (q ++ x :: r) := by
  obtain ⟨h1, h2, h3⟩ := List.pairwise_append.1 h
  refine List.pairwise_append.2 ⟨h1, List.pairwise_cons.2 ⟨fun z hz => Nat.le_of_lt (hr z hz), h2⟩, fun a ha b hb => ?_⟩
  rcases List.mem_cons.1 hb with rfl | hb
  · rcases List.eq_nil_or_concat q with rfl | ⟨q', y, rfl⟩
    · cases ha
    · have hy := hq q' y List.concat_eq_append
      rw [List.concat_eq_append] at ha h1
      rcases List.mem_append.1 ha with ha | ha
      · have := (List.pairwise_append.1 h1).2.2 a ha y (by simp)
        omega
      · have : a = y := by simpa using ha
        omega
  · exact h3 a ha b hb
theorem up_one (x : Nat) : Up [x] := List.pairwise_singleton _ _

theorem swap_set (q s' : List Value) (x y : Value) (j : Nat) (h : q.length = j) : ((q ++ [y] ++ x :: s').set (j + 1) y).set j x = q ++ x :: y :: s' := by
  subst h
  rw [List.append_assoc, List.set_append_right _ _ (by omega), List.set_append_right _ _ (by omega)]
  simp
set_option maxRecDepth 20000 in
set_option maxHeartbeats 8000000 in
theorem insertion_any (w : World) (g cap : Nat) (xs : List Nat) (tl : List Value) (hA : Arr w g 22 (xs.map u32n ++ tl)) (hn0 : 0 < xs.length) (hn : xs.length ≤ 12) (hcap : xs.length ≤ cap) :
    Calls Tryz.prog 126 #[.slice (some ⟨g, 0, none⟩) xs.length cap, .int .i64 0, .int .i64 (xs.length : Int)] w fun e w' => e = .returned (.tuple #[]) ∧ ∃ ys, ys.Perm xs ∧ Up ys ∧ Arr w' g 22 (ys.map u32n ++ tl) ∧ Keep (fun k _ => k = g) w w' := by
  obtain ⟨n, hN⟩ : ∃ n, xs.length = n := ⟨_, rfl⟩
  rw [hN] at hn0 hn hcap ⊢
  have HN := Lib.hid hN
  have HA := Lib.hid hA
  clear hN hA
  refine calls_cps fun R hR => ?_
  have HR := Lib.hid hR
  clear hR
  go_enter Tryz.func126, Tryz.ntmps126
  go_wp2
  go_loopw [6] (fun i wr => ∃ (k : Nat) (p r : List Nat), i = .int .i64 (k : Int) ∧ p.length = k ∧ k ≤ n ∧ 1 ≤ k ∧ Up p ∧ (p ++ r).Perm xs ∧ Arr wr g 22 ((p ++ r).map u32n ++ tl) ∧ Keep (fun k _ => k = g) w wr) (fun i _ => n - (vI i).toNat)
  case atStart =>
    have := HN.out
    match xs, this, HA.out with
    | [], h, _ => simp at h; omega
    | x :: r, _, hA => exact ⟨1, [x], r, rfl, rfl, by omega, Nat.le_refl _, up_one x, List.Perm.refl _, hA, Keep.refl _ _⟩
  case round =>
    obtain ⟨k, p, r, rfl, hpk, hkn, hk1, hup, hperm, hAr, hK⟩ := hrel
    have HPK := Lib.hid hpk
    have HPE := Lib.hid hperm
    have HAR := Lib.hid hAr
    clear hpk hperm hAr
    by_cases hlt : k < n
    · obtain ⟨x, rest, rfl⟩ : ∃ x rest, r = x :: rest := by
        cases r with
        | nil =>
          have h1 := HPE.out.length_eq
          rw [List.append_nil, HPK.out, HN.out] at h1
          omega
        | cons x rest => exact ⟨x, rest, rfl⟩
      go_wp2
      go_loopw [7] (fun j wr' => ∃ (J : Nat) (q s : List Nat), j = .int .i64 (J : Int) ∧ q.length = J ∧ J ≤ k ∧ q ++ s = p ∧ (∀ z ∈ s, x < z) ∧ Arr wr' g 22 ((q ++ x :: (s ++ rest)).map u32n ++ tl) ∧ Keep (fun k _ => k = g) w wr') (fun j _ => (vI j).toNat)
      case atStart => exact ⟨k, p, [], rfl, HPK.out, Nat.le_refl _, by simp, fun _ h => (by cases h), by simpa using HAR.out, hK⟩
      case round =>
        obtain ⟨J, q, s, rfl, hqJ, hJk, hqs, hz, hB, hKB⟩ := hrel
        have HQJ := Lib.hid hqJ
        have HQS := Lib.hid hqs
        have HB := Lib.hid hB
        have HZ := Lib.hid hz
        clear hqJ hqs hB hz
        have done : ∀ wr2 : World, (∀ q' y, q = q' ++ [y] → y ≤ x) → Arr wr2 g 22 ((q ++ x :: (s ++ rest)).map u32n ++ tl) → Keep (fun k _ => k = g) w wr2 →
            ∃ (k' : Nat) (p' r' : List Nat), Value.int .i64 ((k : Int) + 1) = .int .i64 (k' : Int) ∧ p'.length = k' ∧ k' ≤ n ∧ 1 ≤ k' ∧ Up p' ∧ (p' ++ r').Perm xs ∧ Arr wr2 g 22 ((p' ++ r').map u32n ++ tl) ∧ Keep (fun k _ => k = g) w wr2 := fun wr2 hle hA2 hK2 => by
          have hl : q.length + s.length = k := by have := congrArg List.length HQS.out; rw [List.length_append, HPK.out] at this; omega
          refine ⟨k + 1, q ++ x :: s, rest, by go_num, by simp; omega, by omega, by omega, up_ins (by rw [HQS.out]; exact hup) HZ.out hle, ?_, by simpa using hA2, hK2⟩
          refine List.Perm.trans ?_ HPE.out
          rw [← HQS.out]
          simp only [List.append_assoc, List.cons_append]
          refine List.Perm.append_left q ?_
          exact (List.perm_middle (a := x) (l₁ := s) (l₂ := rest)).symm
        by_cases hJ : 0 < J
        · obtain ⟨q, y, rfl⟩ : ∃ q' y, q = q' ++ [y] := by
            rcases List.eq_nil_or_concat q with rfl | ⟨q', y, rfl⟩
            · have := HQJ.out; simp at this; omega
            · exact ⟨q', y, List.concat_eq_append⟩
          obtain ⟨j, rfl⟩ : ∃ j, J = j + 1 := ⟨J - 1, by omega⟩
          have hql : q.length = j := by have := HQJ.out; simp at this; omega
          have hg0 : ((j + 1 : Nat) : Int) = (j : Int) + 1 := by omega
          have e1 : ((q ++ [y] ++ x :: (s ++ rest)).map u32n ++ tl)[j + 1]? = some (.int .u32 (x : Int)) := by
            rw [List.getElem?_append_left (by simp; omega), List.getElem?_map, List.getElem?_append_right (by simp; omega)]
            simp [hql, u32n]
          have e0 : ((q ++ [y] ++ x :: (s ++ rest)).map u32n ++ tl)[j]? = some (.int .u32 (y : Int)) := by
            rw [List.getElem?_append_left (by simp; omega), List.getElem?_map, List.append_assoc, List.getElem?_append_right (by omega)]
            simp [hql, u32n]
          have hql2 := Lib.hid hql
          have d1 := fun g' : At wr.drew => (HB.out.ext (((Keep.refl _ wr).drew).trans g'.ext)).cell e1
          have d0 := fun g' : At wr.drew => (HB.out.ext (((Keep.refl _ wr).drew).trans g'.ext)).cell e0
          obtain ⟨bb, hbb⟩ : ∃ b, decide (x < y) = b := ⟨_, rfl⟩
          have HL := Lib.hid (less_any x y bb hbb)
          have HBB := Lib.hid hbb
          have E1 := Lib.hid e1
          have E0 := Lib.hid e0
          clear hbb e1 e0 hql hg0
          go_wp2
          refine wp_flow (fun n => if n = 13 then .grows (IsU (.bool bb)) (IsUS (.bool bb)) else .reads) (by kernel_rfl) (by kernel_rfl) ?_
          repeat (refine flow_r rfl rfl ?_; go_big_quiet_step (fail); refine wpQuiet_nil ?_)
          refine flow_g rfl rfl (by simp) ⟨_, rfl⟩ (fun _ _ _ h hE => h) (fun _ _ h => h) (fun w2 hE2 _ => ?_) (fun v hv => ?_)
          · clear d1 d0
            go_wp2_with fail
            refine (HL.out _).mono ?_
            rintro e w3 ⟨rfl, rfl⟩
            go_wp2
            exact ⟨Keep.refl _ _, rfl⟩
          cases hv
          simp only [Act.put, List.setIfInBounds_toArray, List.set_cons_succ, List.set_cons_zero]
          refine flow_r rfl rfl ?_; go_big_quiet_step (fail); refine wpQuiet_nil ?_
          refine flow_end (fun wc hEc _ => ?_)
          have hEn : Ext wr wc := ((Keep.refl _ wr).drew).trans hEc
          clear d1 d0 hEc
          cases bb with
          | false =>
            have hle : ∀ q' y', q ++ [y] = q' ++ [y'] → y' ≤ x := fun q' y' h => by
              have h2 := List.append_inj_right' h rfl
              have h3 := HBB.out
              simp only [List.cons.injEq, and_true] at h2
              subst h2
              simp at h3
              omega
            have hfin := done wc hle (HB.out.ext hEn) (hKB.trans (Keep.of_ext hEn))
            clear hle
            go_wp2
            go_roundw
            case rel => exact hfin
            case measure => simp [vI]; omega
          | true =>
            go_wp2
            have hzx : ∀ z ∈ y :: s, x < z := fun z hz => by
              rcases List.mem_cons.1 hz with rfl | hz
              · simpa using HBB.out
              · exact HZ.out z hz
            have HZX := Lib.hid hzx
            have HBc := Lib.hid (HB.out.ext hEn)
            have d1 := fun g' : FY.At (fun _ _ => False) wc.drew => (HBc.out.ext (((Keep.refl _ wc).drew).trans g'.ext)).cell E1.out
            have d0 := fun g' : FY.At (fun _ _ => False) wc.drew => (HBc.out.ext (((Keep.refl _ wc).drew).trans g'.ext)).cell E0.out
            have hkB := hKB.trans (Keep.of_ext hEn)
            have DONE := Lib.hid done
            clear hzx done hEn hKB
            refine FY.wp_flow (X := fun k _ => k = g) (0 :: 1 :: 2 :: 3 :: 4 :: 5 :: 6 :: 7 :: 8 :: 9 :: 10 :: 11 :: 12 :: 13 :: 14 :: 15 :: 16 :: 17 :: []) (fun n => if n = 9 ∨ n = 13 then .reads else if n = 15 ∨ n = 17 then .bar else .still) (by kernel_rfl) (by kernel_rfl) ?_
            repeat (first | (refine FY.flow_q rfl rfl rfl ?_; go_big_quiet_step (fail); refine wpQuiet_nil ?_) | (refine FY.flow_r rfl rfl rfl ?_; go_big_quiet_step (fail); refine wpQuiet_nil ?_))
            clear d1 d0
            refine FY.flow_ba rfl rfl rfl (by kernel_rfl) (fun W1 hE1 _ => ?_)
            have a1 := HBc.out.ext (((Keep.refl _ wc).drew).trans hE1)
            have k1 := hkB.trans (Keep.of_ext (((Keep.refl _ wc).drew).trans hE1))
            have s1 := a1.cell E1.out
            have f1 := a1.frozen (j + 1)
            have b1 := a1.set (j + 1) (.int .u32 (y : Int))
            have m1 := keep_setCell W1 g (j + 1) (.int .u32 (y : Int))
            have l1 := k1.trans m1
            clear hkB hE1 a1 k1
            go_wp2
            clear s1 f1 m1
            repeat (first | (refine FY.flow_q rfl rfl rfl ?_; go_big_quiet_step (fail); refine wpQuiet_nil ?_) | (refine FY.flow_r rfl rfl rfl ?_; go_big_quiet_step (fail); refine wpQuiet_nil ?_))
            refine FY.flow_ba rfl rfl rfl (by kernel_rfl) (fun W2 hE2 _ => ?_)
            have a2 := b1.ext hE2
            have k2 := l1.trans (Keep.of_ext hE2)
            obtain ⟨c0, hc0⟩ : ∃ c, (((q ++ [y] ++ x :: (s ++ rest)).map u32n ++ tl).set (j + 1) (.int .u32 (y : Int)))[j]? = some c := ⟨.int .u32 (y : Int), by rw [List.getElem?_set_ne (by omega)]; exact E0.out⟩
            have s2 := a2.cell hc0
            have f2 := a2.frozen j
            have b2 := a2.set j (.int .u32 (x : Int))
            have m2 := keep_setCell W2 g j (.int .u32 (x : Int))
            have l2 := k2.trans m2
            clear b1 l1 hE2 a2 k2 hc0
            go_wp2
            clear s2 f2 m2
            refine FY.flow_end (fun wf hEf _ => ?_)
            have hlist : ((((q ++ [y] ++ x :: (s ++ rest)).map u32n ++ tl).set (j + 1) (.int .u32 (y : Int))).set j (.int .u32 (x : Int))) = (q ++ x :: (y :: s ++ rest)).map u32n ++ tl := by
              have := swap_set (q.map u32n) ((s ++ rest).map u32n ++ tl) (u32n x) (u32n y) j (by simpa using hql2.out)
              simpa [u32n] using this
            rw [hlist] at b2
            have hbf := b2.ext hEf
            have hkf := l2.trans (Keep.of_ext hEf)
            have hqf : q ++ y :: s = p := by rw [← HQS.out]; simp
            have HQF := Lib.hid hqf
            clear hlist b2 l2 hEf hqf
            go_wp2
            go_roundw
            case rel => exact ⟨j, q, y :: s, by go_num, hql2.out, by omega, HQF.out, HZX.out, hbf, hkf⟩
            case measure => simp [vI]
        · obtain rfl : J = 0 := by omega
          obtain rfl : q = [] := List.eq_nil_of_length_eq_zero HQJ.out
          go_wp2
          refine wp_flow (fun _ => .reads) (by kernel_rfl) (by kernel_rfl) ?_
          repeat (first | (refine flow_r rfl rfl ?_; go_big_quiet_step (fail); refine wpQuiet_nil ?_) | (refine flow_s rfl rfl ?_; simp only [Act.put, List.setIfInBounds_toArray, List.set_cons_succ, List.set_cons_zero]))
          refine flow_end (fun wc hEc _ => ?_)
          have hEn : Ext wr wc := ((Keep.refl _ wr).drew).trans hEc
          go_wp2
          go_roundw
          case rel => exact done _ (fun q' y h => by simp at h) (HB.out.ext hEn) (hKB.trans (Keep.of_ext hEn))
          case measure => simp [vI]; omega
    · obtain rfl : k = n := by omega
      obtain rfl : r = [] := by
        have h1 := HPE.out.length_eq
        rw [List.length_append, HPK.out, HN.out] at h1
        exact List.eq_nil_of_length_eq_zero (by omega)
      have hfin := HR.out (.returned (.tuple #[])) wr ⟨rfl, p, by simpa using HPE.out, hup, by simpa using HAR.out, hK⟩
      clear HR
      go_wp2
      exact bodyPost_ret (results_none rfl _ _ _) rfl hfin
end Go.Proofs.YtcmhgpgookiomaaGreat
namespace Go.Proofs.YtcmhgpgookiomaaGreat
open Go.RowKit Go.Shelf Go.Maps

attribute [local go_sem] Oper.semAt_some

set_option maxRecDepth 20000 in
set_option maxHeartbeats 4000000 in
theorem len_any (n : Nat) (hn : n ≤ 12) (w : World) : Calls Tryz.prog 111 #[.int .u64 (n : Int)] w fun e w' => (∃ v : Int, e = .returned (.int .i64 v)) ∧ w' = w := by
  have h : n = 0 ∨ n = 1 ∨ n = 2 ∨ n = 3 ∨ n = 4 ∨ n = 5 ∨ n = 6 ∨ n = 7 ∨ n = 8 ∨ n = 9 ∨ n = 10 ∨ n = 11 ∨ n = 12 := by omega
  refine calls_cps fun R hR => ?_
  rcases h with rfl | rfl | rfl | rfl | rfl | rfl | rfl | rfl | rfl | rfl | rfl | rfl | rfl
  all_goals
    go_enter Tryz.func111, Tryz.ntmps111
    go_wp2

theorem insertion_nil (w : World) (a : Option Addr) (c : Nat) : Calls Tryz.prog 126 #[.slice a 0 c, .int .i64 0, .int .i64 0] w fun e w' => e = .returned (.tuple #[]) ∧ w' = w := by
  refine calls_cps fun R hR => ?_
  go_enter Tryz.func126, Tryz.ntmps126
  go_wp2
  go_loopw [6] (fun i wr => i = .int .i64 1 ∧ wr = w) (fun _ _ => 0)
  case atStart => exact ⟨rfl, rfl⟩
  case round =>
    obtain ⟨rfl, rfl⟩ := hrel
    go_wp2
    exact bodyPost_ret (results_none rfl _ _ _) rfl (hR _ _ ⟨rfl, rfl⟩)

set_option maxRecDepth 20000 in
set_option maxHeartbeats 4000000 in
theorem pdq_any (w : World) (a : Option Addr) (n cap : Nat) (hn : n ≤ 12) (lim : Int) (T : World → Prop) (hT : Calls Tryz.prog 126 #[.slice a n cap, .int .i64 0, .int .i64 (n : Int)] w fun e w' => e = .returned (.tuple #[]) ∧ T w') :
    Calls Tryz.prog 110 #[.slice a n cap, .int .i64 0, .int .i64 (n : Int), .int .i64 lim] w fun e w' => e = .returned (.tuple #[]) ∧ T w' := by
  have HT := Lib.hid hT
  clear hT
  refine calls_cps fun R hR => ?_
  have HR := Lib.hid hR
  clear hR
  go_enter Tryz.func110, Tryz.ntmps110
  go_wp2
  go_loopw [1, 2] (fun i b wr => i = .int .i64 0 ∧ b = .int .i64 (n : Int) ∧ wr = w) (fun _ _ _ => 0)
  case atStart => exact ⟨rfl, rfl, rfl⟩
  case round =>
    obtain ⟨rfl, rfl, rfl⟩ := hrel
    go_wp2_with fail
    refine HT.out.mono ?_
    rintro e w' ⟨rfl, hw⟩
    go_wp2
    exact bodyPost_ret (results_none rfl _ _ _) rfl (HR.out _ _ ⟨rfl, hw⟩)

theorem own_arr {w : World} {base n : Nat} {v : Value} {xs : List Value} {t : TypeId} (h : w.ownsRow base t 1 v n xs) (hn : 0 < n) : ∃ g cap tl, v = .slice (some ⟨g, 0, none⟩) n cap ∧ base ≤ g ∧ n ≤ cap ∧ cap ≤ maxLen ∧ (xs ++ tl).length = cap ∧ Arr w g t (xs ++ tl) := by
  have hl := h.1
  rcases h.2 with ⟨_, rfl⟩ | ⟨g, cap, cur, rfl, hb, hg, h1, h2, h3, h4⟩
  · omega
  · refine ⟨g, cap, cur.toList.drop n, rfl, hb, h1, h2, ?_, ?_⟩
    · rw [← (show cur.toList.take n = xs by simpa using h4), List.take_append_drop, Array.length_toList]; omega
    · unfold Arr
      rw [← (show cur.toList.take n = xs by simpa using h4), List.take_append_drop]
      simpa using hg
theorem arr_own {w : World} {base n g cap : Nat} {xs tl : List Value} {t : TypeId} (h : Arr w g t (xs ++ tl)) (hx : xs.length = n) (hb : base ≤ g) (h1 : n ≤ cap) (h2 : cap ≤ maxLen) (hl : (xs ++ tl).length = cap) : w.ownsRow base t 1 (.slice (some ⟨g, 0, none⟩) n cap) n xs :=
  ⟨by omega, .inr ⟨g, cap, (xs ++ tl).toArray, rfl, hb, h, h1, h2, by simpa using hl, by simp [← hx]⟩⟩

set_option maxRecDepth 20000 in
/-- slices.Sort of numbers that the call owns. -/
theorem sort_any (w : World) (base : Nat) (v : Value) (xs : List Nat) (hown : w.ownsRow base 22 1 v xs.length (xs.map u32n)) (hn : xs.length ≤ 12) :
    Calls Tryz.prog 96 #[v] w fun e w' => e = .returned (.tuple #[]) ∧ ∃ ys, ys.Perm xs ∧ Up ys ∧ w'.ownsRow base 22 1 v xs.length (ys.map u32n) ∧ Keep (fun k o => base ≤ k ∧ o.isWalk = false) w w' := by
  have hins : ∃ a cap, v = .slice a xs.length cap ∧ Calls Tryz.prog 126 #[.slice a xs.length cap, .int .i64 0, .int .i64 (xs.length : Int)] w fun e w' => e = .returned (.tuple #[]) ∧ (fun w' => ∃ ys, ys.Perm xs ∧ Up ys ∧ w'.ownsRow base 22 1 v xs.length (ys.map u32n) ∧ Keep (fun k o => base ≤ k ∧ o.isWalk = false) w w') w' := by
    by_cases h0 : 0 < xs.length
    · obtain ⟨g, cap, tl, rfl, hb, h1, h2, h3, hA⟩ := own_arr hown h0
      refine ⟨_, cap, rfl, (insertion_any w g cap xs tl hA h0 hn h1).mono ?_⟩
      rintro e w' ⟨rfl, ys, q1, q2, q3, q4⟩
      refine ⟨rfl, ys, q1, q2, arr_own q3 (by rw [List.length_map]; exact q1.length_eq) hb h1 h2 (by rw [List.length_append, List.length_map] at h3 ⊢; rw [q1.length_eq]; exact h3), q4.mono (fun k o ho hx => ?_)⟩
      subst hx
      rw [show w.heap[k]? = _ from hA] at ho
      cases ho
      exact ⟨hb, rfl⟩
    · obtain rfl : xs = [] := List.eq_nil_of_length_eq_zero (by omega)
      obtain ⟨a, c, rfl, _⟩ := owns_row hown
      refine ⟨a, c, rfl, (insertion_nil w a c).mono ?_⟩
      rintro e w' ⟨rfl, rfl⟩
      exact ⟨rfl, [], List.Perm.refl _, List.Pairwise.nil, hown, Keep.refl _ _⟩
  obtain ⟨a, cap, rfl, hc⟩ := hins
  have hpd := fun lim => pdq_any w a xs.length cap hn lim _ hc
  obtain ⟨n, hN⟩ : ∃ n, xs.length = n := ⟨_, rfl⟩
  have hlen := len_any n (by omega)
  rw [hN] at hpd ⊢
  refine calls_cps fun R hR => ?_
  have HR := Lib.hid hR
  have HPD := Lib.hid hpd
  have hn12 : n ≤ 12 := by omega
  clear hN hn hc hR hown hpd
  go_enter Tryz.func96, Tryz.ntmps96
  go_wp2_with fail
  refine (hlen w).mono ?_
  rintro e w' ⟨⟨lim, rfl⟩, rfl⟩
  clear hlen
  go_wp2_with fail
  refine (HPD.out lim).mono ?_
  rintro e w2 ⟨rfl, hq⟩
  have hq2 := HR.out (.returned (.tuple #[])) w2 ⟨rfl, hq⟩
  clear HR hq HPD
  go_wp2
  exact bodyPost_ret (results_none rfl _ _ _) rfl hq2

set_option maxRecDepth 20000 in
theorem sorted_any {gf : Nat} {lb : Array Value} {N : Nat} {S : List Nat → Prop} {Pre : World → Prop} (hit : IterL Tryz.prog gf lb N u32n S Pre) (eg : ∀ args w, (callFunc gf args).run Tryz.prog w = .ok (.enter gf args) w) (hN : N ≤ 100000) (w : World) (hPre : ∀ A, Ext w A → Pre A) (hS : ∀ ss, S ss → ss.length ≤ 12) :
    Calls Tryz.prog 81 #[.func (.func gf) #[] lb] w fun e w' => ∃ v ys ss, e = .returned v ∧ S ss ∧ ys.Perm ss ∧ Up ys ∧ w'.ownsRow w.heap.size 22 1 v ys.length (ys.map u32n) ∧ Ext w w' := by
  have hc := collect_any hit eg hN w hPre
  refine calls_cps fun R hR => ?_
  have HR := Lib.hid hR
  clear hR hPre
  go_enter Tryz.func81, Tryz.ntmps81
  go_wp2_with fail
  refine hc.mono ?_
  rintro e w1 ⟨v, ss, rfl, h1, h2, h3⟩
  have hs := sort_any w1 w.heap.size v ss h2 (hS ss h1)
  clear hc
  go_wp2_with fail
  refine hs.mono ?_
  rintro e w2 ⟨rfl, ys, q1, q2, q3, q4⟩
  have hE : Ext w w2 := ((Keep.of_ext h3).trans q4).mono (fun k o ho hx => by have := Keep.lt ho; have := hx.1; omega)
  rw [← q1.length_eq] at q3
  have hfin := HR.out (.returned v) w2 ⟨v, ys, ss, rfl, h1, q1, q2, q3, hE⟩
  clear hs HR q3 q4 hE h2 h3
  go_wp2
  exact hfin

theorem up_nums {α : Type} {l : List (Nat × α)} (h : Rise l) : Up (numsA l) := by
  unfold Up numsA
  rw [List.pairwise_map]
  exact h.imp (fun hx => Nat.le_of_lt hx)
theorem up_perm {xs ys : List Nat} (h : xs.Perm ys) (h1 : Up xs) (h2 : Up ys) : xs = ys :=
  List.Perm.eq_of_pairwise (le := fun a b => a ≤ b) (fun _ _ _ _ h1 h2 => Nat.le_antisymm h1 h2) h1 h2 h

/-- rising: a set's numbers. -/
theorem rising_any {α : Type} {V : α → Value} {l : List (Nat × α)} {w : World} {b : Nat} (h : NMap w b V l) (hl : l.length ≤ 12) :
    Calls Tryz.prog 79 #[.map (some b)] w fun e w' => ∃ v, e = .returned v ∧ w'.ownsRow w.heap.size 22 1 v (numsA l).length ((numsA l).map u32n) ∧ Ext w w' := by
  have hlen : (numsA l).length = l.length := by simp [numsA]
  have hk := keysB_any w (some b)
  have hE : Ext w (w.alloc (.cells #[.map (some b)] 137)) := (Keep.refl _ w).alloc _
  have hs := sorted_any (keysB_iter V l w.heap.size b) (enters_of Tryz.func108 (by kernel_rfl) rfl) (by omega) (w.alloc (.cells #[.map (some b)] 137))
    (fun A hA => ⟨Arr.ext (Arr.new w 137 [.map (some b)]) hA, (h.ext hE).ext hA⟩) (fun ss hss => by rw [hss.length_eq, hlen]; exact hl)
  refine calls_cps fun R hR => ?_
  have HR := Lib.hid hR
  have HUP := Lib.hid (up_nums h.rise)
  have HE := Lib.hid hE
  clear hR h hlen hE
  go_enter Tryz.func79, Tryz.ntmps79
  go_wp2_with fail
  refine hk.mono ?_
  rintro e w1 ⟨rfl, rfl⟩
  clear hk
  go_wp2_with fail
  refine hs.mono ?_
  rintro e w2 ⟨v, ys, ss, rfl, h1, h2, h3, h4, h5⟩
  have hys : ys = numsA l := up_perm (h2.trans h1) h3 HUP.out
  subst hys
  have hfin := HR.out (.returned v) w2 ⟨v, rfl, ownMono h4 (by simp), HE.out.trans h5⟩
  clear hs HR h4 h5 h1 h2 h3
  go_wp2
  exact hfin
end Go.Proofs.YtcmhgpgookiomaaGreat
