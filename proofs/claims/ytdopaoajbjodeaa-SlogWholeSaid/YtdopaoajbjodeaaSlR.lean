/-
  The program's disk and log beside the reference's: kept apart.
-/
import Derived.Test.YtdopaoajbjodeaaSlQ
namespace Go.Proofs.Ytdopaoajbjodeaa
open Go.RowKit Go.Shelf

attribute [local go_sem] Oper.semAt_some

theorem runW_cr : ∀ (l : List (Nat × List UInt8)) (s : DSt), (runW l s).2.cr = s.cr ∧ (runW l s).2.n = s.n ∧ (runW l s).2.wr ≤ s.wr + l.length
  | [], s => ⟨rfl, rfl, Nat.le_refl _⟩
  | p :: r, s => by
    have h := write_cr s (p.1 : Int) p.2
    unfold runW
    split
    · have ih := runW_cr r (s.write (p.1 : Int) p.2)
      refine ⟨ih.1.trans h.1, ih.2.1.trans h.2.2, ?_⟩
      have h1 := ih.2.2
      have h2 := h.2.1
      simp only [List.length_cons]
      omega
    · refine ⟨h.1, h.2.2, ?_⟩
      have h2 := h.2.1
      simp only [List.length_cons]
      omega
theorem spanN_small (n : Nat) : spanN n ≤ 4100 := by unfold spanN; split; omega; split <;> omega
theorem appL_cr (st : LSt) (l : List UInt8) (d : DSt) : (appL st l d).2.2.cr = d.cr ∧ (appL st l d).2.2.n = d.n ∧ (appL st l d).2.2.wr ≤ d.wr + 5000 := by
  have h := runW_cr (writesL st.fr st.at' st.n st.gen.toNat st.recs.length l) d
  have h2 := spanN_small l.length
  have h3 := writes_len (fr := st.fr) (at' := st.at') (n := st.n) (g := st.gen.toNat) (num := st.recs.length) (b := l)
  have h4 : (writesL st.fr st.at' st.n st.gen.toNat st.recs.length l).length ≤ 5000 := by rw [h3]; split <;> omega
  unfold appL
  split
  · exact ⟨rfl, rfl, Nat.le_add_right _ _⟩
  · split
    · exact ⟨rfl, rfl, Nat.le_add_right _ _⟩
    · split
      · exact ⟨rfl, rfl, Nat.le_add_right _ _⟩
      · split
        · exact ⟨h.1, h.2.1, by have := h.2.2; show (runW _ d).2.wr ≤ _; omega⟩
        · exact ⟨h.1, h.2.1, by have := h.2.2; show (runW _ d).2.wr ≤ _; omega⟩

/-- The program's log and disk, the reference's log and disk, of one state, apart from each other and behind base. -/
structure Two (base : Nat) (w : World) (B gs gc LB : Nat) (v : Value) (B2 gs2 gc2 LB2 : Nat) (v2 : Value) (st : LSt) (d : DSt) : Prop where
  p : PD w B gs gc d
  r : RD w B2 gs2 gc2 d
  pl : PL w LB B v st
  rl : RL w LB2 B2 v2 st
  b1 : base ≤ B ∧ base ≤ gs ∧ base ≤ LB
  b2 : base ≤ B2 ∧ base ≤ gs2 ∧ base ≤ LB2
  o1 : ∀ k, v.ownBlock = some k → base ≤ k ∧ k ≠ gc ∧ k ≠ gc2 ∧ k ≠ B2 ∧ k ≠ gs2 ∧ k ≠ LB2 ∧ k < w.heap.size
  o2 : ∀ k, v2.ownBlock = some k → base ≤ k ∧ k ≠ gc ∧ k ≠ gc2 ∧ k ≠ B ∧ k ≠ gs ∧ k ≠ LB ∧ k < w.heap.size
  vv : ∀ k, v.ownBlock = some k → v2.ownBlock ≠ some k
  n1 : B ≠ B2 ∧ B ≠ gs2 ∧ B ≠ LB2
  n2 : gs ≠ B2 ∧ gs ≠ gs2 ∧ gs ≠ LB2
  n3 : LB ≠ B2 ∧ LB ≠ gs2 ∧ LB ≠ LB2
  n4 : gc ≠ LB ∧ gc ≠ B2 ∧ gc ≠ gs2 ∧ gc ≠ LB2 ∧ gc < w.heap.size
  n5 : gc2 ≠ LB2 ∧ gc2 ≠ B ∧ gc2 ≠ gs ∧ gc2 ≠ LB ∧ gc2 < w.heap.size

theorem LA.own_lt {T : TypeId} {ex : List Value} {w : World} {LB B : Nat} {v : Value} {s : LSt} (h : LA T ex w LB B v s) {k : Nat} (hk : v.ownBlock = some k) : k < w.heap.size := by
  obtain ⟨vs, o1, _⟩ := h.own
  exact (o1.lt k hk).2
theorem Two.ext {base : Nat} {w w' : World} {B gs gc LB : Nat} {v : Value} {B2 gs2 gc2 LB2 : Nat} {v2 : Value} {st : LSt} {d : DSt} (h : Two base w B gs gc LB v B2 gs2 gc2 LB2 v2 st d) (hE : Ext w w') : Two base w' B gs gc LB v B2 gs2 gc2 LB2 v2 st d := by
  have hs := hE.size
  refine ⟨h.p.ext hE, h.r.ext hE, h.pl.ext hE, h.rl.ext hE, h.b1, h.b2, fun k hk => ?_, fun k hk => ?_, h.vv, h.n1, h.n2, h.n3, ?_, ?_⟩
  · obtain ⟨a1, a2, a3, a4, a5, a6, a7⟩ := h.o1 k hk
    exact ⟨a1, a2, a3, a4, a5, a6, Nat.lt_of_lt_of_le a7 hs⟩
  · obtain ⟨a1, a2, a3, a4, a5, a6, a7⟩ := h.o2 k hk
    exact ⟨a1, a2, a3, a4, a5, a6, Nat.lt_of_lt_of_le a7 hs⟩
  · obtain ⟨a1, a2, a3, a4, a5⟩ := h.n4
    exact ⟨a1, a2, a3, a4, Nat.lt_of_lt_of_le a5 hs⟩
  · obtain ⟨a1, a2, a3, a4, a5⟩ := h.n5
    exact ⟨a1, a2, a3, a4, Nat.lt_of_lt_of_le a5 hs⟩

/-- Behind the program's append. -/
structure Half (base : Nat) (w : World) (B gs gc LB : Nat) (v : Value) (B2 gs2 gc2 LB2 : Nat) (v2 : Value) (st st' : LSt) (d d' : DSt) : Prop where
  p : PD w B gs gc d'
  r : RD w B2 gs2 gc2 d
  pl : PL w LB B v st'
  rl : RL w LB2 B2 v2 st
  b1 : base ≤ B ∧ base ≤ gs ∧ base ≤ LB
  b2 : base ≤ B2 ∧ base ≤ gs2 ∧ base ≤ LB2
  o1 : ∀ k, v.ownBlock = some k → base ≤ k ∧ k ≠ gc ∧ k ≠ gc2 ∧ k ≠ B2 ∧ k ≠ gs2 ∧ k ≠ LB2 ∧ k < w.heap.size
  o2 : ∀ k, v2.ownBlock = some k → base ≤ k ∧ k ≠ gc ∧ k ≠ gc2 ∧ k ≠ B ∧ k ≠ gs ∧ k ≠ LB ∧ k < w.heap.size
  vv : ∀ k, v.ownBlock = some k → v2.ownBlock ≠ some k
  n1 : B ≠ B2 ∧ B ≠ gs2 ∧ B ≠ LB2
  n2 : gs ≠ B2 ∧ gs ≠ gs2 ∧ gs ≠ LB2
  n3 : LB ≠ B2 ∧ LB ≠ gs2 ∧ LB ≠ LB2
  n4 : gc ≠ LB ∧ gc ≠ B2 ∧ gc ≠ gs2 ∧ gc ≠ LB2 ∧ gc < w.heap.size
  n5 : gc2 ≠ LB2 ∧ gc2 ≠ B ∧ gc2 ≠ gs ∧ gc2 ≠ LB ∧ gc2 < w.heap.size

section
variable {base : Nat} {w0 w w' : World} {B gs gc LB : Nat} {v : Value} {B2 gs2 gc2 LB2 : Nat} {v2 : Value} {st : LSt} {d : DSt} {l : List UInt8}
theorem own_up {w w' : World} {v v' : Value} {gc gc2 x y z : Nat} (h : ∀ k, v.ownBlock = some k → base ≤ k ∧ k ≠ gc ∧ k ≠ gc2 ∧ k ≠ x ∧ k ≠ y ∧ k ≠ z ∧ k < w.heap.size) (hv : v'.ownBlock = v.ownBlock ∨ ∀ k, v'.ownBlock = some k → w.heap.size ≤ k)
    (lt : ∀ k, v'.ownBlock = some k → k < w'.heap.size) (hb : base ≤ w.heap.size) (h1 : gc < w.heap.size) (h2 : gc2 < w.heap.size) (h3 : x < w.heap.size) (h4 : y < w.heap.size) (h5 : z < w.heap.size) :
    ∀ k, v'.ownBlock = some k → base ≤ k ∧ k ≠ gc ∧ k ≠ gc2 ∧ k ≠ x ∧ k ≠ y ∧ k ≠ z ∧ k < w'.heap.size := fun k hk => by
  have hlt := lt k hk
  rcases hv with hv | hv
  · obtain ⟨a1, a2, a3, a4, a5, a6, a7⟩ := h k (by rw [← hv]; exact hk)
    exact ⟨a1, a2, a3, a4, a5, a6, hlt⟩
  · have := hv k hk
    exact ⟨by omega, by omega, by omega, by omega, by omega, by omega, hlt⟩
theorem own_mono {w w' : World} {v : Value} {gc gc2 x y z : Nat} (hs : w.heap.size ≤ w'.heap.size) (h : ∀ k, v.ownBlock = some k → base ≤ k ∧ k ≠ gc ∧ k ≠ gc2 ∧ k ≠ x ∧ k ≠ y ∧ k ≠ z ∧ k < w.heap.size) :
    ∀ k, v.ownBlock = some k → base ≤ k ∧ k ≠ gc ∧ k ≠ gc2 ∧ k ≠ x ∧ k ≠ y ∧ k ≠ z ∧ k < w'.heap.size := fun k hk => by
  obtain ⟨a1, a2, a3, a4, a5, a6, a7⟩ := h k hk
  exact ⟨a1, a2, a3, a4, a5, a6, by omega⟩
theorem appX_at {T TD : TypeId} {B gs LB : Nat} {v : Value} {k : Nat} {o : Obj} (hx : appX T TD B gs LB v k o) : k = B ∨ k = gs ∨ k = LB ∨ v.ownBlock = some k := by
  rcases hx with (⟨hx, _⟩ | ⟨hx, _⟩) | ⟨hx, _⟩ | ⟨hx, _⟩
  · exact .inl hx
  · exact .inr (.inl hx)
  · exact .inr (.inr (.inl hx))
  · exact .inr (.inr (.inr hx))
theorem appX_not {T TD : TypeId} {B gs LB : Nat} {v : Value} {k : Nat} {o : Obj} (h1 : k ≠ B) (h2 : k ≠ gs) (h3 : k ≠ LB) (h4 : v.ownBlock ≠ some k) : ¬ appX T TD B gs LB v k o := fun hx => by
  rcases appX_at hx with h | h | h | h
  · exact h1 h
  · exact h2 h
  · exact h3 h
  · exact h4 h
theorem appX_u8 {T TD : TypeId} {B gs LB : Nat} {v : Value} {k : Nat} {cur : Array Value} (h1 : TD ≠ 5) (h2 : T ≠ 5) : ¬ appX T TD B gs LB v k (.cells cur 5 (0, 0)) := fun hx => by
  rcases hx with (⟨_, _, hx⟩ | ⟨_, _, hx⟩) | ⟨_, _, hx⟩ | ⟨_, _, hx⟩
  · cases hx; exact h1 rfl
  · cases hx
  · cases hx; exact h2 rfl
  · cases hx
theorem appX_le {T TD : TypeId} {B gs LB : Nat} {v : Value} {k : Nat} {o : Obj} (h : base ≤ B ∧ base ≤ gs ∧ base ≤ LB) (hv : ∀ k, v.ownBlock = some k → base ≤ k) (hx : appX T TD B gs LB v k o) : base ≤ k := by
  rcases appX_at hx with rfl | rfl | rfl | hx
  · exact h.1
  · exact h.2.1
  · exact h.2.2
  · exact hv k hx

theorem Two.first (h : Two base w B gs gc LB v B2 gs2 gc2 LB2 v2 st d) {e : Ending} (hq : AppQ 33 66 [.bool true] (fun w d => PD w B gs gc d) w LB B gs v st l d e w') :
    ∃ v', e = .returned (.int .i64 (appL st l d).1) ∧ Half base w' B gs gc LB v' B2 gs2 gc2 LB2 v2 st (appL st l d).2.1 d (appL st l d).2.2 ∧ Keep (fun k _ => base ≤ k) w w' := by
  obtain ⟨v', he, hd, hl, hk, hv⟩ := hq
  have hs := hk.size
  obtain ⟨lB, lG, _⟩ := h.r.lts
  have lL := h.rl.cells.lt
  have bw : base ≤ w.heap.size := Nat.le_trans h.b2.1 (Nat.le_of_lt lB)
  obtain ⟨m1, m2, m3, m4, m5⟩ := h.n4
  obtain ⟨p1, p2, p3, p4, p5⟩ := h.n5
  have vv' : ∀ k, v'.ownBlock = some k → v2.ownBlock ≠ some k := fun k hk' h2 => by
    rcases hv with hv | hv
    · exact h.vv k (by rw [← hv]; exact hk') h2
    · exact absurd (hv k hk') (Nat.not_le.2 (h.o2 k h2).2.2.2.2.2.2)
  refine ⟨v', he, ⟨hd, ?_, hl, ?_, h.b1, h.b2, own_up h.o1 hv (fun k hk => hl.own_lt hk) bw m5 p5 lB lG lL, own_mono hs h.o2, vv', h.n1, h.n2, h.n3, ⟨m1, m2, m3, m4, Nat.lt_of_lt_of_le m5 hs⟩, ⟨p1, p2, p3, p4, Nat.lt_of_lt_of_le p5 hs⟩⟩, hk.mono (fun k o _ hx => appX_le h.b1 (fun k hk => (h.o1 k hk).1) hx)⟩
  · exact h.r.keep hk (fun o => appX_not (Ne.symm h.n1.1) (Ne.symm h.n2.1) (Ne.symm h.n3.1) (fun hx => (h.o1 _ hx).2.2.2.1 rfl)) (fun _ o => appX_not (Ne.symm h.n1.2.1) (Ne.symm h.n2.2.1) (Ne.symm h.n3.2.1) (fun hx => (h.o1 _ hx).2.2.2.2.1 rfl))
      (fun _ o => appX_not p2 p3 p4 (fun hx => (h.o1 _ hx).2.2.1 rfl))
  · exact h.rl.keep hk (fun cur => appX_not (Ne.symm h.n1.2.2) (Ne.symm h.n2.2.2) (Ne.symm h.n3.2.2) (fun hx => (h.o1 _ hx).2.2.2.2.2.1 rfl))
      (fun k cur hk' => appX_not (h.o2 k hk').2.2.2.1 (h.o2 k hk').2.2.2.2.1 (h.o2 k hk').2.2.2.2.2.1 (fun hx => h.vv k hx hk')) (fun k cur => appX_u8 (by decide) (by decide))
theorem Half.second {st' : LSt} {d' : DSt} (h : Half base w B gs gc LB v B2 gs2 gc2 LB2 v2 st st' d d') {e : Ending} (hst : (appL st l d).2.1 = st') (hd' : (appL st l d).2.2 = d')
    (hq : AppQ 52 88 [] (fun w d => RD w B2 gs2 gc2 d) w LB2 B2 gs2 v2 st l d e w') :
    ∃ v2', e = .returned (.int .i64 (appL st l d).1) ∧ Two base w' B gs gc LB v B2 gs2 gc2 LB2 v2' st' d' ∧ Keep (fun k _ => base ≤ k) w w' := by
  obtain ⟨v', he, hd, hl, hk, hv⟩ := hq
  rw [hst] at hl
  rw [hd'] at hd
  have hs := hk.size
  obtain ⟨lB, lG, _⟩ := h.p.lts
  have lL := h.pl.cells.lt
  have bw : base ≤ w.heap.size := Nat.le_trans h.b1.1 (Nat.le_of_lt lB)
  obtain ⟨m1, m2, m3, m4, m5⟩ := h.n4
  obtain ⟨p1, p2, p3, p4, p5⟩ := h.n5
  have vv' : ∀ k, v.ownBlock = some k → v'.ownBlock ≠ some k := fun k hk' h2 => by
    rcases hv with hv | hv
    · exact h.vv k hk' (by rw [← hv]; exact h2)
    · exact absurd (hv k h2) (Nat.not_le.2 (h.o1 k hk').2.2.2.2.2.2)
  refine ⟨v', he, ⟨?_, hd, ?_, hl, h.b1, h.b2, own_mono hs h.o1, own_up h.o2 hv (fun k hk => hl.own_lt hk) bw m5 p5 lB lG lL, vv', h.n1, h.n2, h.n3, ⟨m1, m2, m3, m4, Nat.lt_of_lt_of_le m5 hs⟩, ⟨p1, p2, p3, p4, Nat.lt_of_lt_of_le p5 hs⟩⟩, hk.mono (fun k o _ hx => appX_le h.b2 (fun k hk => (h.o2 k hk).1) hx)⟩
  · exact h.p.keep hk (fun o => appX_not h.n1.1 h.n1.2.1 h.n1.2.2 (fun hx => (h.o2 _ hx).2.2.2.1 rfl)) (fun _ o => appX_not h.n2.1 h.n2.2.1 h.n2.2.2 (fun hx => (h.o2 _ hx).2.2.2.2.1 rfl))
      (fun _ o => appX_not m2 m3 m4 (fun hx => (h.o2 _ hx).2.1 rfl))
  · exact h.pl.keep hk (fun cur => appX_not h.n3.1 h.n3.2.1 h.n3.2.2 (fun hx => (h.o2 _ hx).2.2.2.2.2.1 rfl))
      (fun k cur hk' => appX_not (h.o1 k hk').2.2.2.1 (h.o1 k hk').2.2.2.2.1 (h.o1 k hk').2.2.2.2.2.1 (fun hx => h.vv k hk' hx)) (fun k cur => appX_u8 (by decide) (by decide))
end

/-- The two disks ahead of the logs. -/
structure Both14 (base : Nat) (w : World) (B gs gc B2 gs2 gc2 : Nat) (s : DSt) : Prop where
  p : PD w B gs gc s
  r : RD w B2 gs2 gc2 s
  b1 : base ≤ B ∧ base ≤ gs ∧ base ≤ B2 ∧ base ≤ gs2
  n1 : B ≠ B2 ∧ B ≠ gs2 ∧ gs ≠ B2 ∧ gs ≠ gs2
  n2 : gc ≠ B2 ∧ gc ≠ gs2 ∧ gc < w.heap.size
  n3 : gc2 ≠ B ∧ (0 < s.n → gc2 ≠ gs) ∧ gc2 < w.heap.size
theorem Both14.ext {base : Nat} {w w' : World} {B gs gc B2 gs2 gc2 : Nat} {s : DSt} (h : Both14 base w B gs gc B2 gs2 gc2 s) (hE : Ext w w') : Both14 base w' B gs gc B2 gs2 gc2 s := by
  have hs := hE.size
  have n2 := h.n2
  exact ⟨h.p.ext hE, h.r.ext hE, h.b1, h.n1, by omega, h.n3.1, h.n3.2.1, by have := h.n3.2.2; omega⟩
theorem both14_of {base : Nat} {w w' : World} {B gs gc B2 gs2 g : Nat} {s : DSt} {cur : Array Value} (hp : PD w B gs gc s) (hr : RD w' B2 gs2 g s) (hE : Ext w w') (h1 : base ≤ B ∧ base ≤ gs) (h2 : w.heap.size ≤ B2 ∧ w.heap.size ≤ gs2) (hc : 0 < s.cr.length)
    (hg : w.heap[g]? = some (.cells cur 36 (0, 0))) : Both14 base w' B gs gc B2 gs2 g s := by
  obtain ⟨l1, l2, l3⟩ := hp.lts
  have l3 := l3 hc
  have lg := Keep.lt hg
  have hs := hE.size
  obtain ⟨ac, cc, cap, tl, e1, _, _, e4, _⟩ := hp.ex
  refine ⟨hp.ext hE, hr, ⟨h1.1, h1.2, by omega, by omega⟩, ⟨by omega, by omega, by omega, by omega⟩, ⟨by omega, by omega, by omega⟩, ?_, ?_, by omega⟩
  · rintro rfl
    have h2 : w.heap[g]? = _ := e1
    rw [hg] at h2
    have h3 := congrArg (fun o : Option Obj => match o with | some (.cells _ t _) => t | _ => 0) h2
    exact absurd (show (36 : Nat) = 66 from h3) (by decide)
  · rintro hn rfl
    have h2 : w.heap[g]? = _ := e4 hn
    rw [hg] at h2
    have h3 := congrArg (fun o : Option Obj => match o with | some (.cells _ t _) => t | _ => 0) h2
    exact absurd (show (36 : Nat) = 60 from h3) (by decide)
theorem DA.turns1 {TD : TypeId} {fl : Bool} {w w' : World} {B gs gc : Nat} {s : DSt} (h : DA TD fl w B gs gc s) (hk : Keep (fun k _ => k = B) w w') : Keep (fun k o => k = B ∧ ∃ cur, o = .cells cur TD (0, 0)) w w' := by
  obtain ⟨ac, cc, cap, tl, e1, _⟩ := h.ex
  refine hk.mono (fun k o ho hx => ?_)
  subst hx
  rw [show w.heap[k]? = _ from e1] at ho
  cases ho; exact ⟨rfl, _, rfl⟩
theorem LA.start {T TD : TypeId} {ex : List Value} {w w' : World} {LB B0 B : Nat} {v : Value} {s : LSt} (h : LA T ex w LB B0 v s) (hk : Keep (fun k o => k = B ∧ ∃ cur, o = .cells cur TD (0, 0)) w w') (h1 : T ≠ TD) (h2 : 25 ≠ TD) (h3 : 5 ≠ TD) : LA T ex w' LB B0 v s :=
  h.keep hk (fun cur hx => by obtain ⟨_, _, hx⟩ := hx; cases hx; exact h1 rfl) (fun k cur _ hx => by obtain ⟨_, _, hx⟩ := hx; cases hx; exact h2 rfl) (fun k cur hx => by obtain ⟨_, _, hx⟩ := hx; cases hx; exact h3 rfl)
theorem fmt_ok {s : DSt} {size : Int} (h : fmtE s 0 size = 0) : isR 0 size s.n = true ∧ (fmtS s 0 size).pw = s.pw ∧ (fmtS s 0 size).n = s.n ∧ (fmtS s 0 size).cr = s.cr ∧ (fmtS s 0 size).wr ≤ s.wr + 1 := by
  unfold fmtE at h
  unfold fmtS
  cases hq : isR 0 size s.n with
  | false => rw [hq] at h; simp at h
  | true =>
    rw [hq] at h
    simp only [if_true] at h ⊢
    have h2 := write_cr s 0 (zeros 64)
    refine ⟨trivial, ?_, h2.2.2, h2.1, h2.2.1⟩
    unfold DSt.writeE at h
    unfold DSt.write
    by_cases hm : s.may 0 = 0
    · rw [if_pos hm] at h ⊢
      cases ht : s.tears with
      | true => rw [ht] at h; simp at h
      | false => simp only [if_false, Bool.false_eq_true]; rfl
    · rw [if_neg hm]
/-- Two logs that were opened on two disks. -/
theorem two_of {base : Nat} {w w1 w2 : World} {B gs gc B2 gs2 gc2 LB LB2 : Nat} {v v2 : Value} {d : DSt} {st : LSt} (h : Both14 base w B gs gc B2 gs2 gc2 d) (hn : 0 < d.n) (hb : base ≤ w.heap.size) (e1 : Ext w w1) (e2 : Ext w1 w2) (hl : w.heap.size ≤ LB) (hl2 : w1.heap.size ≤ LB2)
    (hp : PL w1 LB B v st) (hr : RL w2 LB2 B2 v2 st) (hv : ∀ k, v.ownBlock = some k → w.heap.size ≤ k) (hv2 : ∀ k, v2.ownBlock = some k → w1.heap.size ≤ k) : Two base w2 B gs gc LB v B2 gs2 gc2 LB2 v2 st d := by
  obtain ⟨l1, l2, _⟩ := h.p.lts
  obtain ⟨l3, l4, _⟩ := h.r.lts
  obtain ⟨b1, b2, b3, b4⟩ := h.b1
  obtain ⟨n1, n2, n3, n4⟩ := h.n1
  obtain ⟨m1, m2, m3⟩ := h.n2
  obtain ⟨p1, p2, p3⟩ := h.n3
  have s1 := e1.size
  have s2 := e2.size
  have lL := hp.cells.lt
  have lL2 := hr.cells.lt
  have p2' := p2 hn
  clear p2
  refine ⟨(h.p.ext e1).ext e2, (h.r.ext e1).ext e2, hp.ext e2, hr, ⟨b1, b2, Nat.le_trans hb hl⟩, ⟨b3, b4, by omega⟩, fun k hk => ?_, fun k hk => ?_, fun k hk h2 => ?_, ⟨n1, n2, by clear n1 n2 n3 n4 m1 m2 p1 p2'; omega⟩, ⟨n3, n4, by clear n1 n2 n3 n4 m1 m2 p1 p2'; omega⟩, ?_, ⟨?_, m1, m2, ?_, ?_⟩, ⟨?_, p1, p2', ?_, ?_⟩⟩
  · have h1 := hv k hk
    have h2 := hp.own_lt hk
    clear n1 n2 n3 n4 m1 m2 p1 p2'
    exact ⟨by omega, by omega, by omega, by omega, by omega, by omega, by omega⟩
  · have h1 := hv2 k hk
    have h2 := hr.own_lt hk
    clear n1 n2 n3 n4 m1 m2 p1 p2'
    exact ⟨by omega, by omega, by omega, by omega, by omega, by omega, by omega⟩
  · have h1 := hv2 k h2
    have h3 := hp.own_lt hk
    omega
  all_goals clear n1 n2 n3 n4 m1 m2 p1 p2'
  · exact ⟨by omega, by omega, by omega⟩
  all_goals omega
end Go.Proofs.Ytdopaoajbjodeaa
