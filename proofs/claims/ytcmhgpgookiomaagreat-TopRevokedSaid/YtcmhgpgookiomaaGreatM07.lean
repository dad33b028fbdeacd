/-
  TopRevoked: the ring as plain data: what its operations do. what holds of the ring (plain). the ring's changes keep what holds of it (plain). a change keeps what holds of the ring; who is no reader any more leaves a realm whose epoch has turned (plain). whatever changes come; who opens what (plain). the document's ring, without keys, and the program's go side by side (plain). the draws (plain). A block that holds an array of values of one cell each; slices of words and bytes as what an operation yields. Nothing here names the program.
-/
import Derived.Test.YtcmhgpgookiomaaGreatM01
import Derived.Test.YtcmhgpgookiomaaGreatM05
import Derived.Test.YtcmhgpgookiomaaGreatM06
import Derived.Laws.Rows
import Derived.Laws.Tables
import Derived.Deep.WholeRow
namespace Go.Proofs.YtcmhgpgookiomaaGreat

abbrev By := List UInt8

/-! Sorted lists of pairs as maps. -/
section
variable {α β : Type}
def getA : List (Nat × α) → Nat → Option α
  | [], _ => none
  | (k, v) :: l, n => if k = n then some v else getA l n
def putA : List (Nat × α) → Nat → α → List (Nat × α)
  | [], n, x => [(n, x)]
  | (k, v) :: l, n, x => if n < k then (n, x) :: (k, v) :: l else if n = k then (n, x) :: l else (k, v) :: putA l n x
def delA (l : List (Nat × α)) (n : Nat) : List (Nat × α) := l.filter fun p => p.1 != n
def Rise (l : List (Nat × α)) : Prop := l.Pairwise fun p q => p.1 < q.1
theorem getA_put (l : List (Nat × α)) (n : Nat) (x : α) (m : Nat) (h : Rise l) : getA (putA l n x) m = if m = n then some x else getA l m := by
  induction l with
  | nil => simp only [putA, getA]; split <;> split <;> first | rfl | omega
  | cons p l ih =>
    obtain ⟨k, v⟩ := p
    obtain ⟨h1, h2⟩ := List.pairwise_cons.1 h
    have ih := ih h2
    unfold putA
    by_cases a : n < k
    · rw [if_pos a]
      simp only [getA]
      by_cases b : n = m
      · rw [if_pos b, if_pos b.symm]
      · rw [if_neg b, if_neg (Ne.symm b)]
    · rw [if_neg a]
      by_cases b : n = k
      · subst b
        rw [if_pos rfl]
        simp only [getA]
        by_cases c : n = m
        · rw [if_pos c, if_pos c.symm]
        · rw [if_neg c, if_neg (Ne.symm c), if_neg c]
      · rw [if_neg b]
        simp only [getA]
        rw [ih]
        by_cases c : k = m
        · rw [if_pos c, if_neg (by omega), if_pos c]
        · rw [if_neg c, if_neg c]
theorem mem_put {l : List (Nat × α)} {n : Nat} {x : α} {p : Nat × α} (h : p ∈ putA l n x) : p = (n, x) ∨ p ∈ l := by
  induction l with
  | nil => simpa [putA] using h
  | cons q l ih =>
    obtain ⟨k, v⟩ := q
    unfold putA at h
    split at h
    · rcases List.mem_cons.1 h with h | h
      · exact .inl h
      · exact .inr h
    · split at h
      · rcases List.mem_cons.1 h with h | h
        · exact .inl h
        · exact .inr (List.mem_cons_of_mem _ h)
      · rcases List.mem_cons.1 h with h | h
        · exact .inr (by rw [h]; exact List.mem_cons_self ..)
        · rcases ih h with h | h
          · exact .inl h
          · exact .inr (List.mem_cons_of_mem _ h)
theorem rise_put {l : List (Nat × α)} (h : Rise l) (n : Nat) (x : α) : Rise (putA l n x) := by
  induction l with
  | nil => exact List.pairwise_singleton _ _
  | cons p l ih =>
    obtain ⟨k, v⟩ := p
    obtain ⟨h1, h2⟩ := List.pairwise_cons.1 h
    unfold putA
    by_cases a : n < k
    · rw [if_pos a]
      refine List.pairwise_cons.2 ⟨fun q hq => ?_, h⟩
      rcases List.mem_cons.1 hq with rfl | hq
      · exact a
      · have : k < q.1 := h1 q hq
        show n < q.1
        omega
    · rw [if_neg a]
      by_cases b : n = k
      · rw [if_pos b]
        subst b
        exact List.pairwise_cons.2 ⟨h1, h2⟩
      · rw [if_neg b]
        refine List.pairwise_cons.2 ⟨fun q hq => ?_, ih h2⟩
        rcases mem_put hq with rfl | hq
        · show k < n
          omega
        · exact h1 q hq
theorem rise_del {l : List (Nat × α)} (h : Rise l) (n : Nat) : Rise (delA l n) := h.filter _
theorem getA_del (l : List (Nat × α)) (n m : Nat) : getA (delA l n) m = if m = n then none else getA l m := by
  induction l with
  | nil => simp [delA, getA]
  | cons p l ih =>
    obtain ⟨k, v⟩ := p
    unfold delA at ih ⊢
    by_cases h : k = n
    · subst h
      rw [List.filter_cons_of_neg (by simp), ih]
      simp only [getA]
      by_cases c : m = k
      · rw [if_pos c, if_pos c]
      · rw [if_neg c, if_neg c, if_neg (Ne.symm c)]
    · rw [List.filter_cons_of_pos (by simpa using h)]
      simp only [getA]
      rw [ih]
      by_cases c : k = m
      · rw [if_pos c, if_neg (by omega), if_pos c]
      · rw [if_neg c, if_neg c]
theorem getA_mem {l : List (Nat × α)} {n : Nat} {x : α} (h : getA l n = some x) : (n, x) ∈ l := by
  induction l with
  | nil => simp [getA] at h
  | cons p l ih =>
    obtain ⟨k, v⟩ := p
    simp only [getA] at h
    split at h
    · rename_i e; cases h; subst e; exact List.mem_cons_self ..
    · exact List.mem_cons_of_mem _ (ih h)
/-- The numbers of a set. -/
def numsA (l : List (Nat × α)) : List Nat := l.map (·.1)
theorem mem_nums {l : List (Nat × α)} {n : Nat} : n ∈ numsA l ↔ (getA l n).isSome := by
  induction l with
  | nil => simp [numsA, getA]
  | cons p l ih =>
    obtain ⟨k, v⟩ := p
    unfold numsA at ih ⊢
    simp only [List.map_cons, List.mem_cons, getA]
    by_cases h : k = n
    · rw [if_pos h]; simp [h]
    · rw [if_neg h, ← ih]
      exact ⟨fun h' => by rcases h' with h' | h'; exact absurd h'.symm h; exact h', .inr⟩
end

/-! The suite: what it was asked to wrap, and its draws. -/
structure SSt where
  tape : By
  ans : By → By → Option By
  pl : By → By → Option By
def upd2 (f : By → By → Option By) (a b c : By) : By → By → Option By := fun x y => if x = a ∧ y = b then some c else f x y
def drawP (s : SSt) : Option (By × SSt) := if s.tape.length < 32 then none else some (s.tape.take 32, { s with tape := s.tape.drop 32 })
def wrapP (s : SSt) (kek k : By) : Option (By × SSt) := match s.ans kek k with
  | some out => some (out, s)
  | none => if s.tape.length < 108 then none else some (s.tape.take 108, ⟨s.tape.drop 108, upd2 s.ans kek k (s.tape.take 108), upd2 s.pl kek (s.tape.take 108) k⟩)

/-! The ring. -/
structure BoxP where
  kind : Nat
  of : Nat
  ep : Nat
  fr : Nat
  at' : Nat
  ct : By
structure PR where
  sec : List (Nat × By)
  grp : List (Nat × (Nat × By))
  rlm : List (Nat × (Nat × By))
  mem : List (Nat × List (Nat × Unit))
  rdr : List (Nat × List (Nat × Unit))
  box : List BoxP
abbrev St := PR × SSt
def key0 : By := List.replicate 32 0
def secA (r : PR) (n : Nat) : By := (getA r.sec n).getD key0
def grpA (r : PR) (n : Nat) : Nat × By := (getA r.grp n).getD (0, key0)
def rlmA (r : PR) (n : Nat) : Nat × By := (getA r.rlm n).getD (0, key0)
def memA (r : PR) (n : Nat) : List (Nat × Unit) := (getA r.mem n).getD []
def rdrA (r : PR) (n : Nat) : List (Nat × Unit) := (getA r.rdr n).getD []
def boxP (st : St) (b : BoxP) (kek k : By) : Option St := (wrapP st.2 kek k).map fun x => ({ st.1 with box := st.1.box ++ [{ b with ct := x.1 }] }, x.2)
def memberP (st : St) (g who : Nat) : Option St := boxP st ⟨1, g, (grpA st.1 g).1, who, 0, []⟩ (secA st.1 who) (grpA st.1 g).2
def readerP (st : St) (m g : Nat) : Option St := boxP st ⟨2, m, (rlmA st.1 m).1, g, (grpA st.1 g).1, []⟩ (grpA st.1 g).2 (rlmA st.1 m).2
def eachP (f : St → Nat → Option St) : List Nat → St → Option St
  | [], st => some st
  | n :: l, st => (f st n).bind (eachP f l)
def turnP (st : St) (m : Nat) : Option St := (drawP st.2).bind fun x =>
  let old := rlmA st.1 m
  let now := (old.1 + 1, x.1)
  (boxP ({ st.1 with rlm := putA st.1.rlm m now }, x.2) ⟨3, m, now.1, 0, old.1, []⟩ now.2 old.2).bind fun st => eachP (fun st g => readerP st m g) (numsA (rdrA st.1 m)) st
def rekeyP (st : St) (g : Nat) : Option St := (drawP st.2).bind fun x =>
  let st : St := ({ st.1 with grp := putA st.1.grp g ((grpA st.1 g).1 + 1, x.1) }, x.2)
  eachP (fun st who => memberP st g who) (numsA (memA st.1 g)) st
/-- The realms that a group reads. -/
def readP (r : PR) (g : Nat) : List Nat := (numsA r.rlm).filter fun m => (getA (rdrA r m) g).isSome

structure ChgP where
  kind : Int
  who : Nat
  group : Nat
  realm : Nat
/-- A change: an error's number, or what is then; none: the tape is at its end. -/
def changeP (st : St) (c : ChgP) : Option (Nat × St) :=
  let r := st.1
  if c.kind = 1 then
    if (getA r.sec c.who).isSome then some (210, st) else (drawP st.2).map fun x => (0, ({ r with sec := putA r.sec c.who x.1 }, x.2))
  else if c.kind = 2 then
    if (getA r.grp c.group).isSome then some (211, st) else (drawP st.2).map fun x => (0, ({ r with grp := putA r.grp c.group (0, x.1), mem := putA r.mem c.group [] }, x.2))
  else if c.kind = 3 then
    if (getA r.rlm c.realm).isSome then some (212, st) else if (getA r.grp c.group).isSome then
      (drawP st.2).bind fun x => (readerP ({ r with rlm := putA r.rlm c.realm (0, x.1), rdr := putA r.rdr c.realm [(c.group, ())] }, x.2) c.realm c.group).map fun st => (0, st)
    else some (211, st)
  else if c.kind = 4 ∨ c.kind = 5 then
    if (getA r.sec c.who).isSome then
      if (getA r.grp c.group).isSome then
        if (getA (memA r c.group) c.who).isSome = decide (c.kind = 4) then some (0, st)
        else if c.kind = 4 then (memberP ({ r with mem := putA r.mem c.group (putA (memA r c.group) c.who ()) }, st.2) c.group c.who).map fun st => (0, st)
        else (rekeyP ({ r with mem := putA r.mem c.group (delA (memA r c.group) c.who) }, st.2) c.group).bind fun st => (eachP turnP (readP st.1 c.group) st).map fun st => (0, st)
      else some (211, st)
    else some (210, st)
  else if c.kind = 6 ∨ c.kind = 7 then
    if (getA r.grp c.group).isSome then
      if (getA r.rlm c.realm).isSome then
        if (getA (rdrA r c.realm) c.group).isSome = decide (c.kind = 6) then some (0, st)
        else if c.kind = 6 then (readerP ({ r with rdr := putA r.rdr c.realm (putA (rdrA r c.realm) c.group ()) }, st.2) c.realm c.group).map fun st => (0, st)
        else (rekeyP ({ r with rdr := putA r.rdr c.realm (delA (rdrA r c.realm) c.group) }, st.2) c.group).bind fun st =>
          (eachP (fun st m => readerP st m c.group) (readP st.1 c.group) st).bind fun st => (turnP st c.realm).map fun st => (0, st)
      else some (212, st)
    else some (211, st)
  else some (1, st)
end Go.Proofs.YtcmhgpgookiomaaGreat
namespace Go.Proofs.YtcmhgpgookiomaaGreat

def In {α : Type} (l : List (Nat × α)) (n : Nat) : Prop := (getA l n).isSome = true
theorem in_put {α : Type} {l : List (Nat × α)} (h : Rise l) {n m : Nat} {x : α} : In (putA l n x) m ↔ m = n ∨ In l m := by
  unfold In
  rw [getA_put l n x m h]
  by_cases e : m = n <;> simp [e]
theorem in_del {α : Type} {l : List (Nat × α)} {n m : Nat} : In (delA l n) m ↔ m ≠ n ∧ In l m := by
  unfold In
  rw [getA_del]
  by_cases e : m = n <;> simp [e]
theorem in_nums {α : Type} {l : List (Nat × α)} {n : Nat} : n ∈ numsA l ↔ In l n := mem_nums

/-- Draws of which no two words are alike. -/
def Unlike (T : By) : Prop := ∀ p q, 4 ∣ p → 4 ∣ q → p + 4 ≤ T.length → q + 4 ≤ T.length → (T.drop p).take 4 = (T.drop q).take 4 → p = q
def Suite (T : By) (s : SSt) : Prop := ∃ c, 4 ∣ c ∧ c ≤ T.length ∧ s.tape = T.drop c ∧ (∀ kek ct k, s.pl kek ct = some k → ∃ p, 4 ∣ p ∧ p + 108 ≤ c ∧ ct = (T.drop p).take 108) ∧ ∀ kek k ct, s.ans kek k = some ct → s.pl kek ct = some k
def Mono (s s' : SSt) : Prop := ∀ kek ct k, s.pl kek ct = some k → s'.pl kek ct = some k
theorem Mono.refl (s : SSt) : Mono s s := fun _ _ _ h => h
theorem Mono.trans {s s' s'' : SSt} (h : Mono s s') (h' : Mono s' s'') : Mono s s'' := fun _ _ _ x => h' _ _ _ (h _ _ _ x)
theorem draw_ok {T : By} {s s' : SSt} {k : By} (h : Suite T s) (hd : drawP s = some (k, s')) : Suite T s' ∧ Mono s s' ∧ k.length = 32 := by
  obtain ⟨c, h1, h2, h3, h4, h5⟩ := h
  unfold drawP at hd
  split at hd
  · cases hd
  · rename_i hl
    cases hd
    rw [h3, List.length_drop] at hl
    refine ⟨⟨c + 32, by omega, by omega, by simp [h3, List.drop_drop], fun kek ct k hk => ?_, h5⟩, Mono.refl _, by rw [List.length_take, h3, List.length_drop]; omega⟩
    obtain ⟨p, p1, p2, p3⟩ := h4 kek ct k hk
    exact ⟨p, p1, by omega, p3⟩
theorem wrap_ok {T : By} (hU : Unlike T) {s s' : SSt} {kek k ct : By} (h : Suite T s) (hw : wrapP s kek k = some (ct, s')) : Suite T s' ∧ Mono s s' ∧ s'.pl kek ct = some k := by
  obtain ⟨c, h1, h2, h3, h4, h5⟩ := h
  unfold wrapP at hw
  split at hw
  · rename_i out ho
    cases hw
    exact ⟨⟨c, h1, h2, h3, h4, h5⟩, Mono.refl _, h5 _ _ _ ho⟩
  · rename_i ho
    split at hw
    · cases hw
    · rename_i hl
      cases hw
      rw [h3, List.length_drop] at hl
      have hnew : ∀ kek' k', s.pl kek' (s.tape.take 108) ≠ some k' := fun kek' k' hk => by
        obtain ⟨p, p1, p2, p3⟩ := h4 _ _ _ hk
        have : (T.drop c).take 4 = (T.drop p).take 4 := by
          have h6 := congrArg (List.take 4) p3
          rw [h3] at h6
          simpa [List.take_take] using h6
        have := hU c p h1 p1 (by omega) (by omega) this
        omega
      have hm : Mono s ⟨s.tape.drop 108, upd2 s.ans kek k (s.tape.take 108), upd2 s.pl kek (s.tape.take 108) k⟩ := fun kek' ct' k' hk => by
        show upd2 s.pl kek (s.tape.take 108) k kek' ct' = some k'
        unfold upd2
        rw [if_neg]
        · exact hk
        · rintro ⟨rfl, rfl⟩
          exact hnew _ _ hk
      refine ⟨⟨c + 108, by omega, by omega, by simp [h3, List.drop_drop], fun kek' ct' k' hk => ?_, fun kek' k' ct' hk => ?_⟩, hm, by show upd2 _ _ _ _ _ _ = _; unfold upd2; rw [if_pos ⟨rfl, rfl⟩]⟩
      · change upd2 s.pl kek (s.tape.take 108) k kek' ct' = some k' at hk
        unfold upd2 at hk
        split at hk
        · rename_i e
          obtain ⟨rfl, rfl⟩ := e
          exact ⟨c, h1, by omega, by rw [h3]⟩
        · obtain ⟨p, p1, p2, p3⟩ := h4 kek' ct' k' hk
          exact ⟨p, p1, by omega, p3⟩
      · change upd2 s.ans kek k (s.tape.take 108) kek' k' = some ct' at hk
        unfold upd2 at hk
        split at hk
        · rename_i e
          obtain ⟨rfl, rfl⟩ := e
          cases hk
          show upd2 _ _ _ _ _ _ = _; unfold upd2; rw [if_pos ⟨rfl, rfl⟩]
        · exact hm _ _ _ (h5 _ _ _ hk)

/-- What holds of a ring, but for members B1 without a box, realms B2 whose boxes are old, and boxes B3 of realms that are yet to come. -/
structure Inv (B1 : Nat → Nat → Prop) (B2 : Nat → Prop) (B3 : Nat → Nat → Prop) (r : PR) (s : SSt) : Prop where
  rs : Rise r.sec
  rg : Rise r.grp
  rr : Rise r.rlm
  rm : Rise r.mem
  rd : Rise r.rdr
  rms : ∀ g, Rise (memA r g)
  rds : ∀ m, Rise (rdrA r m)
  dm : ∀ g w, In (memA r g) w → In r.sec w ∧ In r.grp g
  dr : ∀ m g, In (rdrA r m) g → In r.rlm m ∧ In r.grp g
  u1 : ∀ b ∈ r.box, b.kind = 1 → In r.grp b.of ∧ b.ep ≤ (grpA r b.of).1 ∧ (b.ep = (grpA r b.of).1 → In (memA r b.of) b.fr)
  e1 : ∀ g w, In (memA r g) w → ¬ B1 g w → ∃ b ∈ r.box, b.kind = 1 ∧ b.of = g ∧ b.ep = (grpA r g).1 ∧ b.fr = w ∧ s.pl (secA r w) b.ct = some (grpA r g).2
  u2 : ∀ b ∈ r.box, b.kind = 2 → In r.rlm b.of ∧ b.ep ≤ (rlmA r b.of).1 ∧ (b.ep = (rlmA r b.of).1 → ¬ B2 b.of → In (rdrA r b.of) b.fr ∧ b.at' ≤ (grpA r b.fr).1 ∧ ∀ b' ∈ r.box, b'.kind = 1 → b'.of = b.fr → b'.ep = b.at' → In (memA r b.fr) b'.fr)
  e3 : ∀ m g, In (rdrA r m) g → ¬ B3 m g → ∃ b ∈ r.box, b.kind = 2 ∧ b.of = m ∧ b.ep = (rlmA r m).1 ∧ b.fr = g ∧ b.at' = (grpA r g).1 ∧ s.pl (grpA r g).2 b.ct = some (rlmA r m).2

section
variable {B1 B1' : Nat → Nat → Prop} {B2 B2' : Nat → Prop} {B3 B3' : Nat → Nat → Prop} {r : PR} {s s' : SSt}
theorem Inv.mono (h : Inv B1 B2 B3 r s) (hm : Mono s s') (h1 : ∀ g w, B1 g w → In (memA r g) w → B1' g w) (h2 : ∀ m, B2 m → B2' m) (h3 : ∀ m g, B3 m g → In (rdrA r m) g → B3' m g) : Inv B1' B2' B3' r s' :=
  ⟨h.rs, h.rg, h.rr, h.rm, h.rd, h.rms, h.rds, h.dm, h.dr, h.u1, fun g w hi hb => by
    obtain ⟨b, q1, q2, q3, q4, q5, q6⟩ := h.e1 g w hi (fun x => hb (h1 _ _ x hi))
    exact ⟨b, q1, q2, q3, q4, q5, hm _ _ _ q6⟩, fun b hb hk => ⟨(h.u2 b hb hk).1, (h.u2 b hb hk).2.1, fun he hn => (h.u2 b hb hk).2.2 he (fun x => hn (h2 _ x))⟩, fun m g hi hb => by
    obtain ⟨b, q1, q2, q3, q4, q5, q6, q7⟩ := h.e3 m g hi (fun x => hb (h3 _ _ x hi))
    exact ⟨b, q1, q2, q3, q4, q5, q6, hm _ _ _ q7⟩⟩
theorem mem_snoc {α : Type} {l : List α} {x y : α} (h : x ∈ l ++ [y]) : x ∈ l ∨ x = y := by simpa using h
/-- A box of a chain. -/
theorem Inv.chain (h : Inv B1 B2 B3 r s) (b : BoxP) (hb : b.kind = 3) : Inv B1 B2 B3 { r with box := r.box ++ [b] } s :=
  ⟨h.rs, h.rg, h.rr, h.rm, h.rd, h.rms, h.rds, h.dm, h.dr, fun c hc hk => by
    rcases mem_snoc hc with hc | rfl
    · exact h.u1 c hc hk
    · omega, fun g w hi hn => by
    obtain ⟨b, q1, q2⟩ := h.e1 g w hi hn
    exact ⟨b, List.mem_append_left _ q1, q2⟩, fun c hc hk => by
    rcases mem_snoc hc with hc | rfl
    · refine ⟨(h.u2 c hc hk).1, (h.u2 c hc hk).2.1, fun he hn => ⟨((h.u2 c hc hk).2.2 he hn).1, ((h.u2 c hc hk).2.2 he hn).2.1, fun b' hb' k1 k2 k3 => ?_⟩⟩
      rcases mem_snoc hb' with hb' | rfl
      · exact ((h.u2 c hc hk).2.2 he hn).2.2 b' hb' k1 k2 k3
      · omega
    · omega, fun m g hi hn => by
    obtain ⟨b, q1, q2⟩ := h.e3 m g hi hn
    exact ⟨b, List.mem_append_left _ q1, q2⟩⟩
/-- A member's box. -/
theorem Inv.memberBox (h : Inv B1 B2 B3 r s) {g w : Nat} {ct : By} (hw : In (memA r g) w) (hp : s.pl (secA r w) ct = some (grpA r g).2) : Inv (fun g' w' => B1 g' w' ∧ ¬ (g' = g ∧ w' = w)) B2 B3 { r with box := r.box ++ [⟨1, g, (grpA r g).1, w, 0, ct⟩] } s :=
  ⟨h.rs, h.rg, h.rr, h.rm, h.rd, h.rms, h.rds, h.dm, h.dr, fun c hc hk => by
    rcases mem_snoc hc with hc | rfl
    · exact h.u1 c hc hk
    · exact ⟨(h.dm g w hw).2, Nat.le_refl _, fun _ => hw⟩, fun g' w' hi hn => by
    by_cases e : g' = g ∧ w' = w
    · obtain ⟨rfl, rfl⟩ := e
      exact ⟨_, List.mem_append_right _ (List.mem_singleton.2 rfl), rfl, rfl, rfl, rfl, hp⟩
    · obtain ⟨b, q1, q2⟩ := h.e1 g' w' hi (fun x => hn ⟨x, e⟩)
      exact ⟨b, List.mem_append_left _ q1, q2⟩, fun c hc hk => by
    rcases mem_snoc hc with hc | rfl
    · refine ⟨(h.u2 c hc hk).1, (h.u2 c hc hk).2.1, fun he hn => ⟨((h.u2 c hc hk).2.2 he hn).1, ((h.u2 c hc hk).2.2 he hn).2.1, fun b' hb' k1 k2 k3 => ?_⟩⟩
      rcases mem_snoc hb' with hb' | rfl
      · exact ((h.u2 c hc hk).2.2 he hn).2.2 b' hb' k1 k2 k3
      · rw [← k2]; exact hw
    · exact absurd hk (by simp), fun m g' hi hn => by
    obtain ⟨b, q1, q2⟩ := h.e3 m g' hi hn
    exact ⟨b, List.mem_append_left _ q1, q2⟩⟩
/-- A reader's box. -/
theorem Inv.readerBox (h : Inv B1 B2 B3 r s) {m g : Nat} {ct : By} (hw : In (rdrA r m) g) (hp : s.pl (grpA r g).2 ct = some (rlmA r m).2) : Inv B1 B2 (fun m' g' => B3 m' g' ∧ ¬ (m' = m ∧ g' = g)) { r with box := r.box ++ [⟨2, m, (rlmA r m).1, g, (grpA r g).1, ct⟩] } s :=
  ⟨h.rs, h.rg, h.rr, h.rm, h.rd, h.rms, h.rds, h.dm, h.dr, fun c hc hk => by
    rcases mem_snoc hc with hc | rfl
    · exact h.u1 c hc hk
    · exact absurd hk (by simp), fun g' w' hi hn => by
    obtain ⟨b, q1, q2⟩ := h.e1 g' w' hi hn
    exact ⟨b, List.mem_append_left _ q1, q2⟩, fun c hc hk => by
    rcases mem_snoc hc with hc | rfl
    · refine ⟨(h.u2 c hc hk).1, (h.u2 c hc hk).2.1, fun he hn => ⟨((h.u2 c hc hk).2.2 he hn).1, ((h.u2 c hc hk).2.2 he hn).2.1, fun b' hb' k1 k2 k3 => ?_⟩⟩
      rcases mem_snoc hb' with hb' | rfl
      · exact ((h.u2 c hc hk).2.2 he hn).2.2 b' hb' k1 k2 k3
      · exact absurd k1 (by simp)
    · refine ⟨(h.dr m g hw).1, Nat.le_refl _, fun _ _ => ⟨hw, Nat.le_refl _, fun b' hb' k1 k2 k3 => ?_⟩⟩
      rcases mem_snoc hb' with hb' | rfl
      · have := (h.u1 b' hb' k1).2.2 (by rw [k2]; exact k3)
        rw [k2] at this; exact this
      · exact absurd k1 (by simp), fun m' g' hi hn => by
    by_cases e : m' = m ∧ g' = g
    · obtain ⟨rfl, rfl⟩ := e
      exact ⟨_, List.mem_append_right _ (List.mem_singleton.2 rfl), rfl, rfl, rfl, rfl, rfl, hp⟩
    · obtain ⟨b, q1, q2⟩ := h.e3 m' g' hi (fun x => hn ⟨x, e⟩)
      exact ⟨b, List.mem_append_left _ q1, q2⟩⟩
end
end Go.Proofs.YtcmhgpgookiomaaGreat
namespace Go.Proofs.YtcmhgpgookiomaaGreat

def N1 : Nat → Nat → Prop := fun _ _ => False
def N2 : Nat → Prop := fun _ => False

section
variable {T : By} {B1 : Nat → Nat → Prop} {B2 : Nat → Prop} {B3 : Nat → Nat → Prop}
theorem box_inv {st st' : St} {b : BoxP} {kek k : By} (h : boxP st b kek k = some st') : ∃ ct s', wrapP st.2 kek k = some (ct, s') ∧ st' = ({ st.1 with box := st.1.box ++ [{ b with ct := ct }] }, s') := by
  unfold boxP at h
  cases hw : wrapP st.2 kek k with
  | none => rw [hw] at h; cases h
  | some x => rw [hw] at h; cases h; exact ⟨x.1, x.2, rfl, rfl⟩
theorem member_ok (hU : Unlike T) {r : PR} {s : SSt} {st' : St} {g w : Nat} (h : Inv B1 B2 B3 r s) (hs : Suite T s) (hw : In (memA r g) w) (he : memberP (r, s) g w = some st') :
    Inv (fun g' w' => B1 g' w' ∧ ¬ (g' = g ∧ w' = w)) B2 B3 st'.1 st'.2 ∧ Suite T st'.2 ∧ Mono s st'.2 ∧ ∃ x, st'.1 = { r with box := r.box ++ x } := by
  obtain ⟨ct, s', h1, rfl⟩ := box_inv he
  obtain ⟨q1, q2, q3⟩ := wrap_ok hU hs h1
  exact ⟨(h.mono q2 (fun _ _ x _ => x) (fun _ x => x) (fun _ _ x _ => x)).memberBox hw q3, q1, q2, _, rfl⟩
theorem reader_ok (hU : Unlike T) {r : PR} {s : SSt} {st' : St} {m g : Nat} (h : Inv B1 B2 B3 r s) (hs : Suite T s) (hw : In (rdrA r m) g) (he : readerP (r, s) m g = some st') :
    Inv B1 B2 (fun m' g' => B3 m' g' ∧ ¬ (m' = m ∧ g' = g)) st'.1 st'.2 ∧ Suite T st'.2 ∧ Mono s st'.2 ∧ ∃ x, st'.1 = { r with box := r.box ++ x } := by
  obtain ⟨ct, s', h1, rfl⟩ := box_inv he
  obtain ⟨q1, q2, q3⟩ := wrap_ok hU hs h1
  exact ⟨(h.mono q2 (fun _ _ x _ => x) (fun _ x => x) (fun _ _ x _ => x)).readerBox hw q3, q1, q2, _, rfl⟩
theorem eachMember (hU : Unlike T) (g : Nat) : ∀ (l : List Nat) (B1 : Nat → Nat → Prop) (r : PR) (s : SSt) (st' : St), Inv B1 B2 B3 r s → Suite T s → (∀ w ∈ l, In (memA r g) w) → eachP (fun st w => memberP st g w) l (r, s) = some st' →
    Inv (fun g' w' => B1 g' w' ∧ ¬ (g' = g ∧ w' ∈ l)) B2 B3 st'.1 st'.2 ∧ Suite T st'.2 ∧ Mono s st'.2 ∧ ∃ x, st'.1 = { r with box := r.box ++ x }
  | [], B1, r, s, st', h, hs, _, he => by
    cases he
    exact ⟨h.mono (Mono.refl _) (fun _ _ x _ => ⟨x, fun y => by cases y.2⟩) (fun _ x => x) (fun _ _ x _ => x), hs, Mono.refl _, [], by simp⟩
  | w :: l, B1, r, s, st', h, hs, hw, he => by
    unfold eachP at he
    obtain ⟨st1, h1, h2⟩ := Option.bind_eq_some_iff.1 he
    obtain ⟨i1, i2, i3, x, i4⟩ := member_ok hU h hs (hw w (List.mem_cons_self ..)) h1
    obtain ⟨j1, j2, j3, y, j4⟩ := eachMember hU g l _ st1.1 st1.2 st' i1 i2 (fun v hv => by rw [i4]; exact hw v (List.mem_cons_of_mem _ hv)) h2
    refine ⟨j1.mono (Mono.refl _) (fun g' w' q _ => ⟨q.1.1, fun z => ?_⟩) (fun _ x => x) (fun _ _ x _ => x), j2, i3.trans j3, x ++ y, by rw [j4, i4]; simp⟩
    rcases List.mem_cons.1 z.2 with z2 | z2
    · exact q.1.2 ⟨z.1, z2⟩
    · exact q.2 ⟨z.1, z2⟩
theorem eachReader (hU : Unlike T) (f q : Nat → Nat) : ∀ (l : List Nat) (B3 : Nat → Nat → Prop) (r : PR) (s : SSt) (st' : St), Inv B1 B2 B3 r s → Suite T s → (∀ i ∈ l, In (rdrA r (f i)) (q i)) → eachP (fun st i => readerP st (f i) (q i)) l (r, s) = some st' →
    Inv B1 B2 (fun m' g' => B3 m' g' ∧ ¬ ∃ i ∈ l, m' = f i ∧ g' = q i) st'.1 st'.2 ∧ Suite T st'.2 ∧ Mono s st'.2 ∧ ∃ x, st'.1 = { r with box := r.box ++ x }
  | [], B3, r, s, st', h, hs, _, he => by
    cases he
    exact ⟨h.mono (Mono.refl _) (fun _ _ x _ => x) (fun _ x => x) (fun _ _ x _ => ⟨x, fun ⟨_, y, _⟩ => by cases y⟩), hs, Mono.refl _, [], by simp⟩
  | w :: l, B3, r, s, st', h, hs, hw, he => by
    unfold eachP at he
    obtain ⟨st1, h1, h2⟩ := Option.bind_eq_some_iff.1 he
    obtain ⟨i1, i2, i3, x, i4⟩ := reader_ok hU h hs (hw w (List.mem_cons_self ..)) h1
    obtain ⟨j1, j2, j3, y, j4⟩ := eachReader hU f q l _ st1.1 st1.2 st' i1 i2 (fun v hv => by rw [i4]; exact hw v (List.mem_cons_of_mem _ hv)) h2
    refine ⟨j1.mono (Mono.refl _) (fun _ _ x _ => x) (fun _ x => x) (fun m' g' z _ => ⟨z.1.1, fun ⟨i, z2, z3⟩ => ?_⟩), j2, i3.trans j3, x ++ y, by rw [j4, i4]; simp⟩
    rcases List.mem_cons.1 z2 with rfl | z2
    · exact z.1.2 z3
    · exact z.2 ⟨i, z2, z3⟩

/-! Values behind a put. -/
theorem rlmA_put {r : PR} (h : Rise r.rlm) (m : Nat) (v : Nat × By) (m' : Nat) : rlmA { r with rlm := putA r.rlm m v } m' = if m' = m then v else rlmA r m' := by
  unfold rlmA
  rw [show ({ r with rlm := putA r.rlm m v } : PR).rlm = putA r.rlm m v from rfl, getA_put _ _ _ _ h]
  split <;> rfl
theorem getD_put {α : Type} {l : List (Nat × α)} (h : Rise l) (n : Nat) (v : α) (m : Nat) (d : α) : (getA (putA l n v) m).getD d = if m = n then v else (getA l m).getD d := by
  rw [getA_put _ _ _ _ h]
  split <;> rfl

/-- A realm's epoch has turned; its boxes are yet to come. -/
theorem Inv.rlmTurn {r : PR} {s : SSt} (h : Inv B1 B2 B3 r s) (m : Nat) (k : By) :
    Inv B1 (fun m' => B2 m' ∧ m' ≠ m) (fun m' g' => B3 m' g' ∨ m' = m) { r with rlm := putA r.rlm m ((rlmA r m).1 + 1, k) } s := by
  have hA := fun m' => rlmA_put h.rr m ((rlmA r m).1 + 1, k) m'
  refine ⟨h.rs, h.rg, rise_put h.rr _ _, h.rm, h.rd, h.rms, h.rds, h.dm, fun m' g hi => ⟨(in_put h.rr).2 (.inr (h.dr m' g hi).1), (h.dr m' g hi).2⟩, h.u1, h.e1, fun b hb hk => ?_, fun m' g hi hn => ?_⟩
  · obtain ⟨q1, q2, q3⟩ := h.u2 b hb hk
    refine ⟨(in_put h.rr).2 (.inr q1), ?_, fun he hn => ?_⟩
    · rw [hA]; split
      · rename_i e; rw [e] at q2; show _ ≤ _ + 1; omega
      · exact q2
    · rw [hA] at he
      split at he
      · rename_i e; rw [e] at q2; change b.ep = _ + 1 at he; omega
      · rename_i e; exact q3 he (fun x => hn ⟨x, e⟩)
  · obtain ⟨b, q⟩ := h.e3 m' g hi (fun x => hn (.inl x))
    have e : m' ≠ m := fun x => hn (.inr x)
    refine ⟨b, ?_⟩
    rw [hA, if_neg e]
    exact q
theorem turn_ok (hU : Unlike T) {r : PR} {s : SSt} {st' : St} {m : Nat} (h : Inv B1 B2 B3 r s) (hs : Suite T s) (he : turnP (r, s) m = some st') :
    Inv B1 (fun m' => B2 m' ∧ m' ≠ m) (fun m' g' => B3 m' g' ∧ m' ≠ m) st'.1 st'.2 ∧ Suite T st'.2 ∧ Mono s st'.2 ∧ ∃ k x, st'.1 = { r with rlm := putA r.rlm m ((rlmA r m).1 + 1, k), box := r.box ++ x } := by
  unfold turnP at he
  obtain ⟨⟨k, s1⟩, h1, he⟩ := Option.bind_eq_some_iff.1 he
  obtain ⟨d1, d2, _⟩ := draw_ok hs h1
  simp only at he
  obtain ⟨st2, h2, he⟩ := Option.bind_eq_some_iff.1 he
  obtain ⟨ct, s2, h3, rfl⟩ := box_inv h2
  obtain ⟨w1, w2, _⟩ := wrap_ok hU d1 h3
  have i1 := ((h.rlmTurn m k).mono (d2.trans w2) (fun _ _ x _ => x) (fun _ x => x) (fun _ _ x _ => x)).chain ⟨3, m, (rlmA r m).1 + 1, 0, (rlmA r m).1, ct⟩ rfl
  obtain ⟨j1, j2, j3, x, j4⟩ := eachReader hU (fun _ => m) (fun i => i) _ _ _ _ st' i1 w1 (fun i hi => in_nums.1 hi) he
  refine ⟨j1.mono (Mono.refl _) (fun _ _ x _ => x) (fun _ x => x) (fun m' g' q hi => ?_), j2, (d2.trans w2).trans j3, k, [⟨3, m, (rlmA r m).1 + 1, 0, (rlmA r m).1, ct⟩] ++ x, by rw [j4]; simp⟩
  have hne : m' ≠ m := fun e => q.2 ⟨g', by rw [j4] at hi; rw [← e]; exact in_nums.2 hi, e, rfl⟩
  rcases q.1 with q1 | q1
  · exact ⟨q1, hne⟩
  · exact absurd q1 hne
/-- A group's epoch has turned, members or realms have gone; its boxes are yet to come. -/
theorem Inv.grpTurn {r : PR} {s : SSt} (h : Inv N1 N2 N1 r s) (g : Nat) (k : By) (M : List (Nat × List (Nat × Unit))) (R : List (Nat × List (Nat × Unit))) (B2 : Nat → Prop)
    (rm : Rise M) (rd : Rise R) (rms : ∀ g', Rise ((getA M g').getD [])) (rds : ∀ m, Rise ((getA R m).getD []))
    (hm : ∀ g' w, In ((getA M g').getD []) w → In (memA r g') w) (hm2 : ∀ g' w, g' ≠ g → In (memA r g') w → In ((getA M g').getD []) w) (hr : ∀ m x, In ((getA R m).getD []) x → In (rdrA r m) x)
    (hB : ∀ m, ¬ B2 m → (∀ x, In (rdrA r m) x → In ((getA R m).getD []) x) ∧ (In (rdrA r m) g → ∀ w, In (memA r g) w → In ((getA M g).getD []) w)) :
    Inv (fun g' _ => g' = g) B2 (fun _ g' => g' = g) { r with mem := M, rdr := R, grp := putA r.grp g ((grpA r g).1 + 1, k) } s := by
  have hA : ∀ g', grpA { r with mem := M, rdr := R, grp := putA r.grp g ((grpA r g).1 + 1, k) } g' = if g' = g then ((grpA r g).1 + 1, k) else grpA r g' := fun g' => by
    unfold grpA
    exact getD_put h.rg g _ g' _
  refine ⟨h.rs, rise_put h.rg _ _, h.rr, rm, rd, rms, rds, fun g' w hi => ⟨(h.dm g' w (hm g' w hi)).1, (in_put h.rg).2 (.inr (h.dm g' w (hm g' w hi)).2)⟩, fun m g' hi => ⟨(h.dr m g' (hr m g' hi)).1, (in_put h.rg).2 (.inr (h.dr m g' (hr m g' hi)).2)⟩,
    fun b hb hk => ?_, fun g' w hi hn => ?_, fun b hb hk => ?_, fun m g' hi hn => ?_⟩
  · obtain ⟨q1, q2, q3⟩ := h.u1 b hb hk
    refine ⟨(in_put h.rg).2 (.inr q1), ?_, fun he => ?_⟩
    · rw [hA]; split
      · rename_i e; rw [e] at q2; show _ ≤ _ + 1; omega
      · exact q2
    · rw [hA] at he
      split at he
      · rename_i e; rw [e] at q2; change b.ep = _ + 1 at he; omega
      · rename_i e; exact hm2 _ _ e (q3 he)
  · have e : g' ≠ g := hn
    obtain ⟨b, q⟩ := h.e1 g' w (hm g' w hi) (fun x => x)
    refine ⟨b, ?_⟩
    rw [hA, if_neg e]
    exact q
  · obtain ⟨q1, q2, q3⟩ := h.u2 b hb hk
    refine ⟨q1, q2, fun he hn => ?_⟩
    obtain ⟨z1, z2, z3⟩ := q3 he (fun x => x)
    obtain ⟨y1, y2⟩ := hB b.of hn
    refine ⟨y1 _ z1, ?_, fun b' hb' k1 k2 k3 => ?_⟩
    · rw [hA]; split
      · rename_i e; rw [e] at z2; show _ ≤ _ + 1; omega
      · exact z2
    · have := z3 b' hb' k1 k2 k3
      by_cases e : b.fr = g
      · rw [e] at this z1
        show In ((getA M b.fr).getD []) b'.fr
        rw [e]
        exact y2 z1 _ this
      · exact hm2 _ _ e this
  · have e : g' ≠ g := hn
    obtain ⟨b, q⟩ := h.e3 m g' (hr m g' hi) (fun x => x)
    refine ⟨b, ?_⟩
    rw [hA, if_neg e]
    exact q
end
end Go.Proofs.YtcmhgpgookiomaaGreat
namespace Go.Proofs.YtcmhgpgookiomaaGreat

section
variable {T : By} {B2 : Nat → Prop} {B3 : Nat → Nat → Prop}
theorem rekey_ok (hU : Unlike T) {r : PR} {s : SSt} {st' : St} (h : Inv N1 N2 N1 r s) (hs : Suite T s) (g : Nat) (M : List (Nat × List (Nat × Unit))) (R : List (Nat × List (Nat × Unit))) (B2 : Nat → Prop)
    (rm : Rise M) (rd : Rise R) (rms : ∀ g', Rise ((getA M g').getD [])) (rds : ∀ m, Rise ((getA R m).getD []))
    (hm : ∀ g' w, In ((getA M g').getD []) w → In (memA r g') w) (hm2 : ∀ g' w, g' ≠ g → In (memA r g') w → In ((getA M g').getD []) w) (hr : ∀ m x, In ((getA R m).getD []) x → In (rdrA r m) x)
    (hB : ∀ m, ¬ B2 m → (∀ x, In (rdrA r m) x → In ((getA R m).getD []) x) ∧ (In (rdrA r m) g → ∀ w, In (memA r g) w → In ((getA M g).getD []) w))
    (he : rekeyP ({ r with mem := M, rdr := R }, s) g = some st') :
    Inv N1 B2 (fun _ g' => g' = g) st'.1 st'.2 ∧ Suite T st'.2 ∧ Mono s st'.2 ∧ ∃ k x, st'.1 = { r with mem := M, rdr := R, grp := putA r.grp g ((grpA r g).1 + 1, k), box := r.box ++ x } := by
  unfold rekeyP at he
  obtain ⟨⟨k, s1⟩, h1, he⟩ := Option.bind_eq_some_iff.1 he
  obtain ⟨d1, d2, _⟩ := draw_ok hs h1
  have i1 := (h.grpTurn g k M R B2 rm rd rms rds hm hm2 hr hB).mono d2 (fun _ _ x _ => x) (fun _ x => x) (fun _ _ x _ => x)
  obtain ⟨j1, j2, j3, x, j4⟩ := eachMember hU g _ _ _ _ st' i1 d1 (fun i hi => in_nums.1 hi) he
  refine ⟨j1.mono (Mono.refl _) (fun g' w q hi => ?_) (fun _ x => x) (fun _ _ x _ => x), j2, d2.trans j3, k, x, j4⟩
  obtain ⟨e, q⟩ := q
  subst e
  exact q ⟨rfl, in_nums.2 (by rw [j4] at hi; exact hi)⟩
theorem eachTurn (hU : Unlike T) : ∀ (l : List Nat) (B2 : Nat → Prop) (B3 : Nat → Nat → Prop) (r : PR) (s : SSt) (st' : St), Inv N1 B2 B3 r s → Suite T s → eachP turnP l (r, s) = some st' →
    Inv N1 (fun m => B2 m ∧ m ∉ l) (fun m g => B3 m g ∧ m ∉ l) st'.1 st'.2 ∧ Suite T st'.2 ∧ Mono s st'.2 ∧ (∃ R x, st'.1 = { r with rlm := R, box := r.box ++ x }) ∧ (∀ m, In r.rlm m → In st'.1.rlm m) ∧ (l.Nodup → ∀ m, (rlmA st'.1 m).1 = (rlmA r m).1 + if m ∈ l then 1 else 0)
  | [], B2, B3, r, s, st', h, hs, he => by
    cases he
    exact ⟨h.mono (Mono.refl _) (fun _ _ x _ => x) (fun _ x => ⟨x, by simp⟩) (fun _ _ x _ => ⟨x, by simp⟩), hs, Mono.refl _, ⟨r.rlm, [], by simp⟩, fun _ x => x, fun _ m => by simp⟩
  | n :: l, B2, B3, r, s, st', h, hs, he => by
    unfold eachP at he
    obtain ⟨st1, h1, h2⟩ := Option.bind_eq_some_iff.1 he
    obtain ⟨i1, i2, i3, k, x, i4⟩ := turn_ok hU h hs h1
    obtain ⟨j1, j2, j3, ⟨R, y, j4⟩, j5, j6⟩ := eachTurn hU l _ _ st1.1 st1.2 st' i1 i2 h2
    refine ⟨j1.mono (Mono.refl _) (fun _ _ x _ => x) (fun m q => ⟨q.1.1, fun z => ?_⟩) (fun m g q _ => ⟨q.1.1, fun z => ?_⟩), j2, i3.trans j3, ⟨R, x ++ y, by rw [j4, i4]; simp⟩, fun m hm => j5 m (by rw [i4]; exact (in_put h.rr).2 (.inr hm)), fun hn m => ?_⟩
    · rcases List.mem_cons.1 z with z | z
      · exact q.1.2 z
      · exact q.2 z
    · rcases List.mem_cons.1 z with z | z
      · exact q.1.2 z
      · exact q.2 z
    · obtain ⟨n1, n2⟩ := List.nodup_cons.1 hn
      rw [j6 n2 m, i4]
      have : (rlmA { r with rlm := putA r.rlm n ((rlmA r n).1 + 1, k), box := r.box ++ x } m).1 = (rlmA r m).1 + if m = n then 1 else 0 := by
        rw [show rlmA { r with rlm := putA r.rlm n ((rlmA r n).1 + 1, k), box := r.box ++ x } m = rlmA { r with rlm := putA r.rlm n ((rlmA r n).1 + 1, k) } m from rfl, rlmA_put h.rr]
        split
        · rename_i e; rw [e]
        · rfl
      rw [this]
      by_cases e : m = n
      · subst e
        rw [if_pos rfl, if_neg n1, if_pos (List.mem_cons_self ..)]
      · rw [if_neg e]
        by_cases e2 : m ∈ l
        · rw [if_pos e2, if_pos (List.mem_cons_of_mem _ e2)]
        · rw [if_neg e2, if_neg (fun z => by rcases List.mem_cons.1 z with z | z; exact e z; exact e2 z)]
theorem nums_nodup {α : Type} {l : List (Nat × α)} (h : Rise l) : (numsA l).Nodup := by
  unfold numsA List.Nodup
  rw [List.pairwise_map]
  exact h.imp (fun hx => by omega)
theorem mem_read {r : PR} {g m : Nat} : m ∈ readP r g ↔ In r.rlm m ∧ In (rdrA r m) g := by
  unfold readP
  rw [List.mem_filter, in_nums]
  rfl
theorem read_nodup {r : PR} (h : Rise r.rlm) (g : Nat) : (readP r g).Nodup := (nums_nodup h).filter _

/-- Who is a reader of a realm. -/
def Rd (r : PR) (who realm : Nat) : Prop := ∃ g, In (rdrA r realm) g ∧ In (memA r g) who
theorem memA_put {r : PR} (h : Rise r.mem) (g : Nat) (v : List (Nat × Unit)) (g' : Nat) : (getA (putA r.mem g v) g').getD [] = if g' = g then v else memA r g' := getD_put h g v g' []
theorem rdrA_put {r : PR} (h : Rise r.rdr) (m : Nat) (v : List (Nat × Unit)) (m' : Nat) : (getA (putA r.rdr m v) m').getD [] = if m' = m then v else rdrA r m' := getD_put h m v m' []

/-- What a change leaves that is done. -/
structure Done (T : By) (r : PR) (s : SSt) (r' : PR) (s' : SSt) : Prop where
  inv : Inv N1 N2 N1 r' s'
  suite : Suite T s'
  mono : Mono s s'
  box : ∃ x, r'.box = r.box ++ x
  sec : ∀ w, In r.sec w → In r'.sec w ∧ secA r' w = secA r w
  rlm : ∀ m, In r.rlm m → In r'.rlm m
  turned : ∀ who realm, Rd r who realm → ¬ Rd r' who realm → (rlmA r' realm).1 = (rlmA r realm).1 + 1

/-- A member goes. -/
theorem expel_ok (hU : Unlike T) {r : PR} {s : SSt} {st1 st' : St} (h : Inv N1 N2 N1 r s) (hs : Suite T s) (g w : Nat)
    (h1 : rekeyP ({ r with mem := putA r.mem g (delA (memA r g) w) }, s) g = some st1) (h2 : eachP turnP (readP st1.1 g) st1 = some st') : Done T r s st'.1 st'.2 := by
  have hM := fun g' => memA_put h.rm g (delA (memA r g) w) g'
  obtain ⟨i1, i2, i3, k, x, i4⟩ := rekey_ok hU h hs g (putA r.mem g (delA (memA r g) w)) r.rdr (fun m => In (rdrA r m) g) (rise_put h.rm _ _) h.rd
    (fun g' => by rw [hM]; split; exact rise_del (h.rms g) w; exact h.rms g') h.rds
    (fun g' w' hi => by
      rw [hM] at hi
      split at hi
      · rename_i e; rw [e]; exact (in_del.1 hi).2
      · exact hi)
    (fun g' w' e hi => by rw [hM, if_neg e]; exact hi) (fun _ _ hi => hi) (fun m hn => ⟨fun _ hi => hi, fun hi => absurd hi hn⟩) h1
  obtain ⟨j1, j2, j3, ⟨R, y, j4⟩, j5, j6⟩ := eachTurn hU _ _ _ st1.1 st1.2 st' i1 i2 h2
  have hrd : ∀ m, rdrA st1.1 m = rdrA r m := fun m => by rw [i4]; rfl
  have hrl : st1.1.rlm = r.rlm := by rw [i4]
  refine ⟨j1.mono (Mono.refl _) (fun _ _ x _ => x) (fun m q => q.2 (mem_read.2 ⟨by rw [hrl]; exact (h.dr m g q.1).1, by rw [hrd]; exact q.1⟩)) (fun m g' q hi => ?_), j2, i3.trans j3, ⟨x ++ y, by rw [j4, i4]; simp⟩, fun v hv => ⟨by rw [j4, i4]; exact hv, by rw [j4, i4]; rfl⟩, fun m hm => j5 m (by rw [hrl]; exact hm), fun who realm hR hN => ?_⟩
  · obtain ⟨e, q⟩ := q
    have e' : g' = g := e
    subst e'
    have hi' : In (rdrA r m) g' := by rw [j4, i4] at hi; exact hi
    exact q (mem_read.2 ⟨by rw [hrl]; exact (h.dr m g' hi').1, by rw [hrd]; exact hi'⟩)
  · rw [j6 (read_nodup (by rw [hrl]; exact h.rr) g) realm, show rlmA st1.1 realm = rlmA r realm by rw [i4]; rfl, if_pos]
    obtain ⟨g', r1, r2⟩ := hR
    by_cases e : g' = g
    · subst e
      exact mem_read.2 ⟨by rw [hrl]; exact (h.dr _ _ r1).1, by rw [hrd]; exact r1⟩
    · exact absurd ⟨g', by rw [j4, i4]; exact r1, by rw [j4, i4]; show In ((getA (putA r.mem g (delA (memA r g) w)) g').getD []) who; rw [hM, if_neg e]; exact r2⟩ hN
/-- A group reads a realm no more. -/
theorem revoke_ok (hU : Unlike T) {r : PR} {s : SSt} {st1 st2 st' : St} (h : Inv N1 N2 N1 r s) (hs : Suite T s) (g m0 : Nat)
    (h1 : rekeyP ({ r with rdr := putA r.rdr m0 (delA (rdrA r m0) g) }, s) g = some st1) (h2 : eachP (fun st m => readerP st m g) (readP st1.1 g) st1 = some st2) (h3 : turnP st2 m0 = some st') : Done T r s st'.1 st'.2 := by
  have hM := fun m' => rdrA_put h.rd m0 (delA (rdrA r m0) g) m'
  obtain ⟨i1, i2, i3, k, x, i4⟩ := rekey_ok hU h hs g r.mem (putA r.rdr m0 (delA (rdrA r m0) g)) (fun m => m = m0) h.rm (rise_put h.rd _ _) h.rms
    (fun m' => by rw [hM]; split; exact rise_del (h.rds m0) g; exact h.rds m')
    (fun _ _ hi => hi) (fun _ _ _ hi => hi)
    (fun m' g' hi => by
      rw [hM] at hi
      split at hi
      · rename_i e; rw [e]; exact (in_del.1 hi).2
      · exact hi)
    (fun m hn => ⟨fun _ hi => by rw [hM, if_neg hn]; exact hi, fun _ _ hi => hi⟩) h1
  obtain ⟨j1, j2, j3, y, j4⟩ := eachReader hU (fun m => m) (fun _ => g) _ _ st1.1 st1.2 st2 i1 i2 (fun m hm => (mem_read.1 hm).2) h2
  obtain ⟨l1, l2, l3, k', z, l4⟩ := turn_ok hU j1 j2 h3
  have hrl : st1.1.rlm = r.rlm := by rw [i4]
  have hsec : st'.1.sec = r.sec := by rw [l4, j4, i4]
  have hmem : st'.1.mem = r.mem := by rw [l4, j4, i4]
  have hrdr : ∀ m, rdrA st'.1 m = if m = m0 then delA (rdrA r m0) g else rdrA r m := fun m => by rw [l4, j4, i4]; exact hM m
  have hep : ∀ m, (rlmA st'.1 m).1 = (rlmA r m).1 + if m = m0 then 1 else 0 := fun m => by
    rw [l4]
    rw [show rlmA { st2.1 with rlm := putA st2.1.rlm m0 ((rlmA st2.1 m0).1 + 1, k'), box := st2.1.box ++ z } m = rlmA { st2.1 with rlm := putA st2.1.rlm m0 ((rlmA st2.1 m0).1 + 1, k') } m from rfl, rlmA_put j1.rr]
    have e : ∀ q, rlmA st2.1 q = rlmA r q := fun q => by rw [j4, i4]; rfl
    rw [e, e]
    split
    · rename_i e; rw [e]
    · rfl
  refine ⟨l1.mono (Mono.refl _) (fun _ _ x _ => x) (fun m q => q.2 q.1) (fun m g' q hi => ?_), l2, (i3.trans j3).trans l3, ⟨x ++ y ++ z, by rw [l4, j4, i4]; simp⟩, fun v hv => ⟨by rw [hsec]; exact hv, by unfold secA; rw [hsec]⟩, fun m hm => by
      rw [l4]
      exact (in_put j1.rr).2 (.inr (by rw [j4, i4]; exact hm)), fun who realm hR hN => ?_⟩
  · obtain ⟨⟨q1, q2⟩, q3⟩ := q
    have e' : g' = g := q1
    subst e'
    rw [hrdr, if_neg q3] at hi
    refine q2 ⟨m, mem_read.2 ⟨by rw [hrl]; exact (h.dr m g' hi).1, ?_⟩, rfl, rfl⟩
    rw [i4]
    show In ((getA (putA r.rdr m0 (delA (rdrA r m0) g')) m).getD []) g'
    rw [hM, if_neg q3]; exact hi
  · rw [hep, if_pos]
    obtain ⟨g', r1, r2⟩ := hR
    by_cases e : realm = m0
    · exact e
    · exact absurd ⟨g', by rw [hrdr, if_neg e]; exact r1, by unfold memA; rw [hmem]; exact r2⟩ hN
end
end Go.Proofs.YtcmhgpgookiomaaGreat
namespace Go.Proofs.YtcmhgpgookiomaaGreat

section
variable {T : By}
theorem rise_one {α : Type} (n : Nat) (x : α) : Rise [(n, x)] := List.pairwise_singleton _ _
theorem Rd.mono {r r' : PR} {who realm : Nat} (h : Rd r who realm) (h1 : ∀ m g, In (rdrA r m) g → In (rdrA r' m) g) (h2 : ∀ g w, In (memA r g) w → In (memA r' g) w) : Rd r' who realm := by
  obtain ⟨g, a, b⟩ := h
  exact ⟨g, h1 _ _ a, h2 _ _ b⟩
theorem Done.same {r : PR} {s : SSt} (h : Inv N1 N2 N1 r s) (hs : Suite T s) : Done T r s r s := ⟨h, hs, Mono.refl _, ⟨[], by simp⟩, fun _ h => ⟨h, rfl⟩, fun _ h => h, fun _ _ h h' => absurd h h'⟩
/-- Whatever a change does, if it is done. -/
theorem change_ok (hU : Unlike T) {r : PR} {s : SSt} {n : Nat} {st' : St} (h : Inv N1 N2 N1 r s) (hs : Suite T s) (c : ChgP) (he : changeP (r, s) c = some (n, st')) : Done T r s st'.1 st'.2 := by
  unfold changeP at he
  simp only at he
  split at he
  · -- a principal
    split at he
    · cases he; exact Done.same h hs
    · rename_i hn
      obtain ⟨⟨k, s1⟩, h1, h2⟩ := Option.map_eq_some_iff.1 he
      cases h2
      obtain ⟨d1, d2, _⟩ := draw_ok hs h1
      have hne : ∀ w, In r.sec w → w ≠ c.who := fun w hw e => hn (by rw [← e]; exact hw)
      have hA : ∀ w, In r.sec w → secA { r with sec := putA r.sec c.who k } w = secA r w := fun w hw => by
        unfold secA
        rw [show ({ r with sec := putA r.sec c.who k } : PR).sec = putA r.sec c.who k from rfl, getD_put h.rs, if_neg (hne w hw)]
      refine ⟨⟨rise_put h.rs _ _, h.rg, h.rr, h.rm, h.rd, h.rms, h.rds, fun g w hi => ⟨(in_put h.rs).2 (.inr (h.dm g w hi).1), (h.dm g w hi).2⟩, h.dr, h.u1, fun g w hi hb => ?_, h.u2, fun m g hi hb => ?_⟩, d1, d2, ⟨[], by simp⟩, fun w hw => ⟨(in_put h.rs).2 (.inr hw), hA w hw⟩, fun _ h => h, fun who realm hR hN => absurd hR hN⟩
      · obtain ⟨b, q1, q2, q3, q4, q5, q6⟩ := h.e1 g w hi hb
        exact ⟨b, q1, q2, q3, q4, q5, by rw [hA w (h.dm g w hi).1]; exact d2 _ _ _ q6⟩
      · obtain ⟨b, q1, q2, q3, q4, q5, q6, q7⟩ := h.e3 m g hi hb
        exact ⟨b, q1, q2, q3, q4, q5, q6, d2 _ _ _ q7⟩
  split at he
  · -- a group
    split at he
    · cases he; exact Done.same h hs
    · rename_i hn
      obtain ⟨⟨k, s1⟩, h1, h2⟩ := Option.map_eq_some_iff.1 he
      cases h2
      obtain ⟨d1, d2, _⟩ := draw_ok hs h1
      have hne : ∀ g, In r.grp g → g ≠ c.group := fun g hg e => hn (by rw [← e]; exact hg)
      have hA : ∀ g, In r.grp g → grpA { r with grp := putA r.grp c.group (0, k), mem := putA r.mem c.group [] } g = grpA r g := fun g hg => by
        unfold grpA
        exact (getD_put h.rg _ _ _ _).trans (if_neg (hne g hg))
      have hM := fun g' => memA_put h.rm c.group [] g'
      have hM1 : ∀ g w, In (memA r g) w → In ((getA (putA r.mem c.group []) g).getD []) w := fun g w hi => by
        rw [hM, if_neg (hne g (h.dm g w hi).2)]; exact hi
      have hM2 : ∀ g w, In ((getA (putA r.mem c.group []) g).getD []) w → In (memA r g) w := fun g w hi => by
        rw [hM] at hi
        split at hi
        · simp [In, getA] at hi
        · exact hi
      refine ⟨⟨h.rs, rise_put h.rg _ _, h.rr, rise_put h.rm _ _, h.rd, fun g => ?_, h.rds, fun g w hi => ⟨(h.dm g w (hM2 g w hi)).1, (in_put h.rg).2 (.inr (h.dm g w (hM2 g w hi)).2)⟩, fun m g hi => ⟨(h.dr m g hi).1, (in_put h.rg).2 (.inr (h.dr m g hi).2)⟩,
        fun b hb hk => ?_, fun g w hi hb => ?_, fun b hb hk => ?_, fun m g hi hb => ?_⟩, d1, d2, ⟨[], by simp⟩, fun w hw => ⟨hw, rfl⟩, fun _ h => h, fun who realm hR hN => absurd (hR.mono (r' := { r with grp := putA r.grp c.group (0, k), mem := putA r.mem c.group [] }) (fun _ _ x => x) hM1) hN⟩
      · show Rise ((getA (putA r.mem c.group []) g).getD [])
        rw [hM]
        split
        · exact List.Pairwise.nil
        · exact h.rms g
      · obtain ⟨q1, q2, q3⟩ := h.u1 b hb hk
        refine ⟨(in_put h.rg).2 (.inr q1), by rw [hA _ q1]; exact q2, fun e => ?_⟩
        rw [hA _ q1] at e
        exact hM1 _ _ (q3 e)
      · obtain ⟨b, q1, q2, q3, q4, q5, q6⟩ := h.e1 g w (hM2 g w hi) hb
        exact ⟨b, q1, q2, q3, by rw [hA _ (h.dm g w (hM2 g w hi)).2]; exact q4, q5, by rw [hA _ (h.dm g w (hM2 g w hi)).2]; exact d2 _ _ _ q6⟩
      · obtain ⟨q1, q2, q3⟩ := h.u2 b hb hk
        refine ⟨q1, q2, fun e hn => ?_⟩
        obtain ⟨z1, z2, z3⟩ := q3 e hn
        exact ⟨z1, by rw [hA _ (h.dr _ _ z1).2]; exact z2, fun b' hb' k1 k2 k3 => hM1 _ _ (z3 b' hb' k1 k2 k3)⟩
      · obtain ⟨b, q1, q2, q3, q4, q5, q6, q7⟩ := h.e3 m g hi hb
        exact ⟨b, q1, q2, q3, q4, q5, by rw [hA _ (h.dr m g hi).2]; exact q6, by rw [hA _ (h.dr m g hi).2]; exact d2 _ _ _ q7⟩
  split at he
  · -- a realm
    split at he
    · cases he; exact Done.same h hs
    rename_i hn
    split at he
    · rename_i hg
      obtain ⟨⟨k, s1⟩, h1, he⟩ := Option.bind_eq_some_iff.1 he
      obtain ⟨st1, h2, h3⟩ := Option.map_eq_some_iff.1 he
      cases h3
      obtain ⟨d1, d2, _⟩ := draw_ok hs h1
      have hne : ∀ m, In r.rlm m → m ≠ c.realm := fun m hm e => hn (by rw [← e]; exact hm)
      have hA : ∀ m, In r.rlm m → rlmA { r with rlm := putA r.rlm c.realm (0, k), rdr := putA r.rdr c.realm [(c.group, ())] } m = rlmA r m := fun m hm => by
        unfold rlmA
        exact (getD_put h.rr _ _ _ _).trans (if_neg (hne m hm))
      have hM := fun m => rdrA_put h.rd c.realm [(c.group, ())] m
      have hM1 : ∀ m g, In (rdrA r m) g → In ((getA (putA r.rdr c.realm [(c.group, ())]) m).getD []) g := fun m g hi => by
        rw [hM, if_neg (hne m (h.dr m g hi).1)]; exact hi
      have hM2 : ∀ m g, In ((getA (putA r.rdr c.realm [(c.group, ())]) m).getD []) g → In (rdrA r m) g ∨ (m = c.realm ∧ g = c.group) := fun m g hi => by
        rw [hM] at hi
        split at hi
        · rename_i e
          refine .inr ⟨e, ?_⟩
          simp only [In, getA] at hi
          split at hi
          · rename_i e; exact e.symm
          · cases hi
        · exact .inl hi
      have i1 : Inv N1 N2 (fun m g => m = c.realm ∧ g = c.group) { r with rlm := putA r.rlm c.realm (0, k), rdr := putA r.rdr c.realm [(c.group, ())] } s1 := by
        refine ⟨h.rs, h.rg, rise_put h.rr _ _, h.rm, rise_put h.rd _ _, h.rms, fun m => ?_, h.dm, fun m g hi => ?_, h.u1, fun g w hi hb => ?_, fun b hb hk => ?_, fun m g hi hb => ?_⟩
        · show Rise ((getA (putA r.rdr c.realm [(c.group, ())]) m).getD [])
          rw [hM]
          split
          · exact rise_one _ _
          · exact h.rds m
        · rcases hM2 m g hi with hi | ⟨rfl, rfl⟩
          · exact ⟨(in_put h.rr).2 (.inr (h.dr m g hi).1), (h.dr m g hi).2⟩
          · exact ⟨(in_put h.rr).2 (.inl rfl), hg⟩
        · obtain ⟨b, q1, q2, q3, q4, q5, q6⟩ := h.e1 g w hi hb
          exact ⟨b, q1, q2, q3, q4, q5, d2 _ _ _ q6⟩
        · obtain ⟨q1, q2, q3⟩ := h.u2 b hb hk
          refine ⟨(in_put h.rr).2 (.inr q1), by rw [hA _ q1]; exact q2, fun e hn => ?_⟩
          rw [hA _ q1] at e
          obtain ⟨z1, z2, z3⟩ := q3 e hn
          exact ⟨hM1 _ _ z1, z2, z3⟩
        · rcases hM2 m g hi with hi | e
          · obtain ⟨b, q1, q2, q3, q4, q5, q6, q7⟩ := h.e3 m g hi (fun x => x)
            exact ⟨b, q1, q2, q3, by rw [hA _ (h.dr m g hi).1]; exact q4, q5, q6, by rw [hA _ (h.dr m g hi).1]; exact d2 _ _ _ q7⟩
          · exact absurd e hb
      obtain ⟨j1, j2, j3, x, j4⟩ := reader_ok hU i1 d1 (by
        show In ((getA (putA r.rdr c.realm [(c.group, ())]) c.realm).getD []) c.group
        rw [hM, if_pos rfl]; simp [In, getA]) h2
      refine ⟨j1.mono (Mono.refl _) (fun _ _ x _ => x) (fun _ x => x) (fun m g q _ => q.2 q.1), j2, d2.trans j3, ⟨x, by rw [j4]⟩, fun w hw => ⟨by rw [j4]; exact hw, by rw [j4]; rfl⟩, fun m hm => by rw [j4]; exact (in_put h.rr).2 (.inr hm), fun who realm hR hN => absurd (hR.mono (fun m g x => by rw [j4]; exact hM1 m g x) (fun g w x => by rw [j4]; exact x)) hN⟩
    · cases he; exact Done.same h hs
  split at he
  · -- a member
    split at he
    · rename_i hsec
      split at he
      · rename_i hg
        split at he
        · cases he; exact Done.same h hs
        · split at he
          · obtain ⟨st1, h2, h3⟩ := Option.map_eq_some_iff.1 he
            cases h3
            have hM := fun g' => memA_put h.rm c.group (putA (memA r c.group) c.who ()) g'
            have hM1 : ∀ g w, In (memA r g) w → In ((getA (putA r.mem c.group (putA (memA r c.group) c.who ())) g).getD []) w := fun g w hi => by
              rw [hM]
              split
              · rename_i e; rw [e] at hi; exact (in_put (h.rms _)).2 (.inr hi)
              · exact hi
            have hM2 : ∀ g w, In ((getA (putA r.mem c.group (putA (memA r c.group) c.who ())) g).getD []) w → In (memA r g) w ∨ (g = c.group ∧ w = c.who) := fun g w hi => by
              rw [hM] at hi
              split at hi
              · rename_i e
                rcases (in_put (h.rms _)).1 hi with hi | hi
                · exact .inr ⟨e, hi⟩
                · exact .inl (by rw [e]; exact hi)
              · exact .inl hi
            have i1 : Inv (fun g w => g = c.group ∧ w = c.who) N2 N1 { r with mem := putA r.mem c.group (putA (memA r c.group) c.who ()) } s := by
              refine ⟨h.rs, h.rg, h.rr, rise_put h.rm _ _, h.rd, fun g => ?_, h.rds, fun g w hi => ?_, h.dr, fun b hb hk => ?_, fun g w hi hb => ?_, fun b hb hk => ?_, h.e3⟩
              · show Rise ((getA (putA r.mem c.group (putA (memA r c.group) c.who ())) g).getD [])
                rw [hM]
                split
                · exact rise_put (h.rms _) _ _
                · exact h.rms g
              · rcases hM2 g w hi with hi | ⟨rfl, rfl⟩
                · exact h.dm g w hi
                · exact ⟨hsec, hg⟩
              · obtain ⟨q1, q2, q3⟩ := h.u1 b hb hk
                exact ⟨q1, q2, fun e => hM1 _ _ (q3 e)⟩
              · rcases hM2 g w hi with hi | e
                · exact h.e1 g w hi (fun x => x)
                · exact absurd e hb
              · obtain ⟨q1, q2, q3⟩ := h.u2 b hb hk
                refine ⟨q1, q2, fun e hn => ?_⟩
                obtain ⟨z1, z2, z3⟩ := q3 e hn
                exact ⟨z1, z2, fun b' hb' k1 k2 k3 => hM1 _ _ (z3 b' hb' k1 k2 k3)⟩
            obtain ⟨j1, j2, j3, x, j4⟩ := member_ok hU i1 hs (by
              show In ((getA (putA r.mem c.group (putA (memA r c.group) c.who ())) c.group).getD []) c.who
              rw [hM, if_pos rfl]; exact (in_put (h.rms _)).2 (.inl rfl)) h2
            refine ⟨j1.mono (Mono.refl _) (fun g w q _ => q.2 q.1) (fun _ x => x) (fun _ _ x _ => x), j2, j3, ⟨x, by rw [j4]⟩, fun w hw => ⟨by rw [j4]; exact hw, by rw [j4]; rfl⟩, fun m hm => by rw [j4]; exact hm, fun who realm hR hN => absurd (hR.mono (fun m g x => by rw [j4]; exact x) (fun g w x => by rw [j4]; exact hM1 g w x)) hN⟩
          · obtain ⟨st1, h1, he⟩ := Option.bind_eq_some_iff.1 he
            obtain ⟨st2, h2, h3⟩ := Option.map_eq_some_iff.1 he
            cases h3
            exact expel_ok hU h hs _ _ h1 h2
      · cases he; exact Done.same h hs
    · cases he; exact Done.same h hs
  split at he
  · -- a reader
    split at he
    · rename_i hg
      split at he
      · rename_i hm
        split at he
        · cases he; exact Done.same h hs
        · split at he
          · obtain ⟨st1, h2, h3⟩ := Option.map_eq_some_iff.1 he
            cases h3
            have hM := fun m => rdrA_put h.rd c.realm (putA (rdrA r c.realm) c.group ()) m
            have hM1 : ∀ m g, In (rdrA r m) g → In ((getA (putA r.rdr c.realm (putA (rdrA r c.realm) c.group ())) m).getD []) g := fun m g hi => by
              rw [hM]
              split
              · rename_i e; rw [e] at hi; exact (in_put (h.rds _)).2 (.inr hi)
              · exact hi
            have hM2 : ∀ m g, In ((getA (putA r.rdr c.realm (putA (rdrA r c.realm) c.group ())) m).getD []) g → In (rdrA r m) g ∨ (m = c.realm ∧ g = c.group) := fun m g hi => by
              rw [hM] at hi
              split at hi
              · rename_i e
                rcases (in_put (h.rds _)).1 hi with hi | hi
                · exact .inr ⟨e, hi⟩
                · exact .inl (by rw [e]; exact hi)
              · exact .inl hi
            have i1 : Inv N1 N2 (fun m g => m = c.realm ∧ g = c.group) { r with rdr := putA r.rdr c.realm (putA (rdrA r c.realm) c.group ()) } s := by
              refine ⟨h.rs, h.rg, h.rr, h.rm, rise_put h.rd _ _, h.rms, fun m => ?_, h.dm, fun m g hi => ?_, h.u1, h.e1, fun b hb hk => ?_, fun m g hi hb => ?_⟩
              · show Rise ((getA (putA r.rdr c.realm (putA (rdrA r c.realm) c.group ())) m).getD [])
                rw [hM]
                split
                · exact rise_put (h.rds _) _ _
                · exact h.rds m
              · rcases hM2 m g hi with hi | ⟨rfl, rfl⟩
                · exact h.dr m g hi
                · exact ⟨hm, hg⟩
              · obtain ⟨q1, q2, q3⟩ := h.u2 b hb hk
                refine ⟨q1, q2, fun e hn => ?_⟩
                obtain ⟨z1, z2, z3⟩ := q3 e hn
                exact ⟨hM1 _ _ z1, z2, z3⟩
              · rcases hM2 m g hi with hi | e
                · exact h.e3 m g hi (fun x => x)
                · exact absurd e hb
            obtain ⟨j1, j2, j3, x, j4⟩ := reader_ok hU i1 hs (by
              show In ((getA (putA r.rdr c.realm (putA (rdrA r c.realm) c.group ())) c.realm).getD []) c.group
              rw [hM, if_pos rfl]; exact (in_put (h.rds _)).2 (.inl rfl)) h2
            refine ⟨j1.mono (Mono.refl _) (fun _ _ x _ => x) (fun _ x => x) (fun m g q _ => q.2 q.1), j2, j3, ⟨x, by rw [j4]⟩, fun w hw => ⟨by rw [j4]; exact hw, by rw [j4]; rfl⟩, fun m hm => by rw [j4]; exact hm, fun who realm hR hN => absurd (hR.mono (fun m g x => by rw [j4]; exact hM1 m g x) (fun g w x => by rw [j4]; exact x)) hN⟩
          · obtain ⟨st1, h1, he⟩ := Option.bind_eq_some_iff.1 he
            obtain ⟨st2, h2, he⟩ := Option.bind_eq_some_iff.1 he
            obtain ⟨st3, h3, h4⟩ := Option.map_eq_some_iff.1 he
            cases h4
            exact revoke_ok hU h hs _ _ h1 h2 h3
      · cases he; exact Done.same h hs
    · cases he; exact Done.same h hs
  · cases he; exact Done.same h hs
end

/-! Who opens what. -/
/-- The keys of a group's epoch that somebody finds. -/
def keysP (s : SSt) (l : List BoxP) (sec : By) (who g e : Nat) : List By := l.filterMap fun b => if b.kind = 1 ∧ b.fr = who ∧ b.of = g ∧ b.ep = e then s.pl sec b.ct else none
def realmP (s : SSt) (keys : List By) (ct : By) : Option By := keys.findSome? fun k => s.pl k ct
def startP (s : SSt) (l : List BoxP) (sec : By) (who realm epoch : Nat) : Option (Nat × By) := l.foldl (fun best b =>
  if b.kind = 2 ∧ b.of = realm ∧ epoch ≤ b.ep ∧ (∀ x ∈ best, b.ep < x.1) then match realmP s (keysP s l sec who b.fr b.at') b.ct with
    | some k => some (b.ep, k)
    | none => best
  else best) none
theorem start_none {s : SSt} {l : List BoxP} {sec : By} {who realm epoch : Nat} (h : ∀ b ∈ l, b.kind = 2 → b.of = realm → epoch ≤ b.ep → keysP s l sec who b.fr b.at' = []) : startP s l sec who realm epoch = none := by
  unfold startP
  have : ∀ (l' : List BoxP), (∀ b ∈ l', b ∈ l) → l'.foldl (fun best b =>
      if b.kind = 2 ∧ b.of = realm ∧ epoch ≤ b.ep ∧ (∀ x ∈ best, b.ep < x.1) then match realmP s (keysP s l sec who b.fr b.at') b.ct with
        | some k => some (b.ep, k)
        | none => best
      else best) none = none := fun l' => by
    induction l' with
    | nil => intro _; rfl
    | cons b l' ih =>
      intro hl
      rw [List.foldl_cons]
      have : (if b.kind = 2 ∧ b.of = realm ∧ epoch ≤ b.ep ∧ (∀ x ∈ (none : Option (Nat × By)), b.ep < x.1) then match realmP s (keysP s l sec who b.fr b.at') b.ct with
        | some k => some (b.ep, k)
        | none => none
        else none) = none := by
        split
        · rename_i hb
          rw [h b (hl b (List.mem_cons_self ..)) hb.1 hb.2.1 hb.2.2.1]
          rfl
        · rfl
      rw [this]
      exact ih (fun c hc => hl c (List.mem_cons_of_mem _ hc))
  exact this l (fun _ h => h)
theorem start_some {s : SSt} {l : List BoxP} {sec : By} {who realm epoch : Nat} {b : BoxP} (hb : b ∈ l) (h1 : b.kind = 2) (h2 : b.of = realm) (h3 : b.ep = epoch) (h4 : (realmP s (keysP s l sec who b.fr b.at') b.ct).isSome) : ∃ k, startP s l sec who realm epoch = some (epoch, k) := by
  unfold startP
  have : ∀ (l' : List BoxP) (best : Option (Nat × By)), (∀ x ∈ best, epoch ≤ x.1) → (b ∈ l' ∨ ∃ k, best = some (epoch, k)) → ∃ k, l'.foldl (fun best b =>
      if b.kind = 2 ∧ b.of = realm ∧ epoch ≤ b.ep ∧ (∀ x ∈ best, b.ep < x.1) then match realmP s (keysP s l sec who b.fr b.at') b.ct with
        | some k => some (b.ep, k)
        | none => best
      else best) best = some (epoch, k) := fun l' => by
    induction l' with
    | nil =>
      intro best _ h
      rcases h with h | h
      · cases h
      · exact h
    | cons c l' ih =>
      intro best hle h
      rw [List.foldl_cons]
      refine ih _ (fun x hx => ?_) ?_
      · split at hx
        · rename_i hc
          split at hx
          · cases hx; exact hc.2.2.1
          · exact hle x hx
        · exact hle x hx
      · rcases h with h | ⟨k, rfl⟩
        · rcases List.mem_cons.1 h with rfl | h
          · right
            by_cases hc : ∀ x ∈ best, b.ep < x.1
            · rw [if_pos ⟨h1, h2, by omega, hc⟩]
              obtain ⟨k, hk⟩ := Option.isSome_iff_exists.1 h4
              rw [hk]
              exact ⟨k, by rw [h3]⟩
            · rw [if_neg (fun x => hc x.2.2.2)]
              cases best with
              | none => exact absurd (fun x hx => by cases hx) hc
              | some y =>
                obtain ⟨y1, y2⟩ := y
                have q1 : epoch ≤ y1 := hle _ rfl
                have q2 : ¬ b.ep < y1 := fun z => hc (fun x hx => by cases hx; exact z)
                exact ⟨y2, by rw [show y1 = epoch by omega]⟩
          · exact .inl h
        · right
          rw [if_neg (fun x => by have := x.2.2.2 _ rfl; have := x.2.2.1; omega)]
          exact ⟨k, rfl⟩
  exact this l none (fun _ h => by cases h) (.inl hb)
/-- Who is a reader no more opens no new epoch, and the one ahead of it. -/
theorem revoked {T : By} {r r' : PR} {s s' : SSt} (h : Inv N1 N2 N1 r s) (d : Done T r s r' s') {who realm : Nat} (hR : Rd r who realm) (hN : ¬ Rd r' who realm) :
    In r'.sec who ∧ In r'.rlm realm ∧ (rlmA r' realm).1 = (rlmA r realm).1 + 1 ∧ startP s' r'.box (secA r' who) who realm (rlmA r' realm).1 = none ∧ ∃ k, startP s' r'.box (secA r' who) who realm (rlmA r realm).1 = some ((rlmA r realm).1, k) := by
  obtain ⟨g, r1, r2⟩ := hR
  have hsec := (h.dm g who r2).1
  obtain ⟨x, hx⟩ := d.box
  refine ⟨(d.sec who hsec).1, d.rlm realm (h.dr realm g r1).1, d.turned who realm ⟨g, r1, r2⟩ hN, start_none fun b hb k1 k2 k3 => ?_, ?_⟩
  · obtain ⟨q1, q2, q3⟩ := d.inv.u2 b hb k1
    rw [k2] at q2 q3
    obtain ⟨z1, z2, z3⟩ := q3 (by omega) (fun x => x)
    unfold keysP
    rw [List.filterMap_eq_nil_iff]
    intro c hc
    rw [if_neg]
    rintro ⟨c1, c2, c3, c4⟩
    have := z3 c hc c1 c3 c4
    rw [c2] at this
    exact hN ⟨b.fr, z1, this⟩
  · obtain ⟨b1, q1, q2, q3, q4, q5, q6⟩ := h.e1 g who r2 (fun x => x)
    obtain ⟨b2, p1, p2, p3, p4, p5, p6, p7⟩ := h.e3 realm g r1 (fun x => x)
    refine start_some (b := b2) (by rw [hx]; exact List.mem_append_left _ p1) p2 p3 p4 ?_
    unfold realmP
    rw [List.findSome?_isSome_iff]
    refine ⟨(grpA r g).2, ?_, ?_⟩
    · unfold keysP
      rw [List.mem_filterMap]
      refine ⟨b1, by rw [hx]; exact List.mem_append_left _ q1, ?_⟩
      rw [if_pos ⟨q2, q5, by rw [q3, p5], by rw [q4, p6]⟩, (d.sec who hsec).2]
      exact d.mono _ _ _ q6
    · rw [d.mono _ _ _ p7]; rfl
end Go.Proofs.YtcmhgpgookiomaaGreat
namespace Go.Proofs.YtcmhgpgookiomaaGreat

section
variable {α : Type}
/-- The first of a number gets another value. -/
def setA : List (Nat × α) → Nat → α → List (Nat × α)
  | [], _, _ => []
  | (k, v) :: l, n, x => if k = n then (k, x) :: l else (k, v) :: setA l n x
theorem getA_set (l : List (Nat × α)) (n : Nat) (x : α) (m : Nat) (h : In l n) : getA (setA l n x) m = if m = n then some x else getA l m := by
  induction l with
  | nil => simp [In, getA] at h
  | cons p l ih =>
    obtain ⟨k, v⟩ := p
    unfold setA
    by_cases e : k = n
    · subst e
      rw [if_pos rfl]
      simp only [getA]
      by_cases e2 : k = m
      · rw [if_pos e2, if_pos e2.symm]
      · rw [if_neg e2, if_neg (Ne.symm e2), if_neg e2]
    · rw [if_neg e]
      have h' : In l n := by simpa [In, getA, e] using h
      simp only [getA]
      rw [ih h']
      by_cases e2 : k = m
      · rw [if_pos e2, if_neg (by omega), if_pos e2]
      · rw [if_neg e2, if_neg e2]
theorem getA_snoc (l : List (Nat × α)) (n : Nat) (x : α) (m : Nat) (h : ¬ In l n) : getA (l ++ [(n, x)]) m = if m = n then some x else getA l m := by
  induction l with
  | nil =>
    simp only [List.nil_append, getA]
    by_cases e : n = m
    · rw [if_pos e, if_pos e.symm]
    · rw [if_neg e, if_neg (Ne.symm e)]
  | cons p l ih =>
    obtain ⟨k, v⟩ := p
    have hk : k ≠ n := fun e => h (by simp [In, getA, e])
    have h' : ¬ In l n := fun x => h (by simpa [In, getA, hk] using x)
    simp only [List.cons_append, getA]
    rw [ih h']
    by_cases e2 : k = m
    · rw [if_pos e2, if_neg (by omega), if_pos e2]
    · rw [if_neg e2, if_neg e2]
end
def risesX : List Nat → Nat → List Nat
  | [], n => [n]
  | x :: l, n => if n < x then n :: x :: l else x :: risesX l n
theorem mem_rises {l : List Nat} {n m : Nat} : m ∈ risesX l n ↔ m = n ∨ m ∈ l := by
  induction l with
  | nil => simp [risesX]
  | cons x l ih =>
    unfold risesX
    split
    · simp
    · rw [List.mem_cons, ih, List.mem_cons]
      exact ⟨fun h => by rcases h with h | h | h; exact .inr (.inl h); exact .inl h; exact .inr (.inr h), fun h => by rcases h with h | h | h; exact .inr (.inl h); exact .inl h; exact .inr (.inr h)⟩
def butX (l : List Nat) (n : Nat) : List Nat := l.filter fun x => x != n
theorem mem_but {l : List Nat} {n m : Nat} : m ∈ butX l n ↔ m ≠ n ∧ m ∈ l := by
  unfold butX
  rw [List.mem_filter]
  simp [and_comm]

/-- The document's ring without keys. -/
structure RX where
  ps : List Nat
  gs : List (Nat × List Nat)
  ms : List (Nat × List Nat)
def memX (x : RX) (g : Nat) : List Nat := (getA x.gs g).getD []
def rdrX (x : RX) (m : Nat) : List Nat := (getA x.ms m).getD []
def changeX (x : RX) (c : ChgP) : Nat × RX :=
  if c.kind = 1 then if c.who ∈ x.ps then (210, x) else (0, { x with ps := x.ps ++ [c.who] })
  else if c.kind = 2 then if (getA x.gs c.group).isSome then (211, x) else (0, { x with gs := x.gs ++ [(c.group, [])] })
  else if c.kind = 3 then if (getA x.ms c.realm).isSome then (212, x) else if (getA x.gs c.group).isSome then (0, { x with ms := x.ms ++ [(c.realm, [c.group])] }) else (211, x)
  else if c.kind = 4 ∨ c.kind = 5 then
    if c.who ∈ x.ps then if (getA x.gs c.group).isSome then
      if decide (c.who ∈ memX x c.group) = decide (c.kind = 4) then (0, x)
      else if c.kind = 4 then (0, { x with gs := setA x.gs c.group (risesX (memX x c.group) c.who) }) else (0, { x with gs := setA x.gs c.group (butX (memX x c.group) c.who) })
    else (211, x) else (210, x)
  else if c.kind = 6 ∨ c.kind = 7 then
    if (getA x.gs c.group).isSome then if (getA x.ms c.realm).isSome then
      if decide (c.group ∈ rdrX x c.realm) = decide (c.kind = 6) then (0, x)
      else if c.kind = 6 then (0, { x with ms := setA x.ms c.realm (risesX (rdrX x c.realm) c.group) }) else (0, { x with ms := setA x.ms c.realm (butX (rdrX x c.realm) c.group) })
    else (212, x) else (211, x)
  else (1, x)
structure Sim (r : PR) (x : RX) : Prop where
  p : ∀ n, n ∈ x.ps ↔ In r.sec n
  g : ∀ n, In x.gs n ↔ In r.grp n
  m : ∀ n, In x.ms n ↔ In r.rlm n
  gm : ∀ n w, w ∈ memX x n ↔ In (memA r n) w
  mg : ∀ n w, w ∈ rdrX x n ↔ In (rdrA r n) w

/-! What the ring's operations leave alone. -/
def Kept (S : List (Nat × By)) (M R : List (Nat × List (Nat × Unit))) (G Q : Nat → Prop) (st : St) : Prop :=
  st.1.sec = S ∧ st.1.mem = M ∧ st.1.rdr = R ∧ (∀ n, In st.1.grp n ↔ G n) ∧ (∀ n, In st.1.rlm n ↔ Q n) ∧ Rise st.1.grp ∧ Rise st.1.rlm
section
variable {S : List (Nat × By)} {M R : List (Nat × List (Nat × Unit))} {G Q : Nat → Prop}
theorem Kept.box {st st' : St} {b : BoxP} {kek k : By} (h : Kept S M R G Q st) (he : boxP st b kek k = some st') : Kept S M R G Q st' := by
  obtain ⟨ct, s', _, rfl⟩ := box_inv he
  exact h
theorem eachP_keep {P : St → Prop} {f : St → Nat → Option St} : ∀ (l : List Nat) (st st' : St), (∀ n ∈ l, ∀ st st', P st → f st n = some st' → P st') → P st → eachP f l st = some st' → P st'
  | [], st, st', _, h, he => by cases he; exact h
  | n :: l, st, st', hf, h, he => by
    unfold eachP at he
    obtain ⟨st1, h1, h2⟩ := Option.bind_eq_some_iff.1 he
    exact eachP_keep l st1 st' (fun k hk => hf k (List.mem_cons_of_mem _ hk)) (hf n (List.mem_cons_self ..) _ _ h h1) h2
theorem Kept.turn {st st' : St} {m : Nat} (h : Kept S M R G Q st) (hm : Q m) (he : turnP st m = some st') : Kept S M R G Q st' := by
  unfold turnP at he
  obtain ⟨⟨k, s1⟩, h1, he⟩ := Option.bind_eq_some_iff.1 he
  simp only at he
  obtain ⟨st2, h2, he⟩ := Option.bind_eq_some_iff.1 he
  obtain ⟨a1, a2, a3, a4, a5, a6, a7⟩ := h
  have h3 : Kept S M R G Q ({ st.1 with rlm := putA st.1.rlm m ((rlmA st.1 m).1 + 1, k) }, s1) := ⟨a1, a2, a3, a4, fun n => by
    rw [in_put a7, a5]
    exact ⟨fun x => by rcases x with rfl | x; exact hm; exact x, .inr⟩, a6, rise_put a7 _ _⟩
  exact eachP_keep _ _ _ (fun _ _ _ _ x y => Kept.box x y) (h3.box h2) he
theorem Kept.rekey {st st' : St} {g : Nat} (h : Kept S M R G Q st) (hg : G g) (he : rekeyP st g = some st') : Kept S M R G Q st' := by
  unfold rekeyP at he
  obtain ⟨⟨k, s1⟩, h1, he⟩ := Option.bind_eq_some_iff.1 he
  obtain ⟨a1, a2, a3, a4, a5, a6, a7⟩ := h
  have h3 : Kept S M R G Q ({ st.1 with grp := putA st.1.grp g ((grpA st.1 g).1 + 1, k) }, s1) := ⟨a1, a2, a3, fun n => by
    rw [in_put a6, a4]
    exact ⟨fun x => by rcases x with rfl | x; exact hg; exact x, .inr⟩, a5, rise_put a6 _ _, a7⟩
  exact eachP_keep _ _ _ (fun _ _ _ _ x y => Kept.box x y) h3 he
end
theorem Sim.of_kept {x : RX} {st' : St} {S : List (Nat × By)} {M R : List (Nat × List (Nat × Unit))} {G Q : Nat → Prop} (hk : Kept S M R G Q st') (h1 : ∀ n, n ∈ x.ps ↔ In S n) (h2 : ∀ n, In x.gs n ↔ G n) (h3 : ∀ n, In x.ms n ↔ Q n)
    (h4 : ∀ n w, w ∈ memX x n ↔ In ((getA M n).getD []) w) (h5 : ∀ n w, w ∈ rdrX x n ↔ In ((getA R n).getD []) w) : Sim st'.1 x := by
  obtain ⟨a1, a2, a3, a4, a5, _, _⟩ := hk
  exact ⟨fun n => by rw [a1]; exact h1 n, fun n => (h2 n).trans (a4 n).symm, fun n => (h3 n).trans (a5 n).symm, fun n w => by unfold memA; rw [a2]; exact h4 n w, fun n w => by unfold rdrA; rw [a3]; exact h5 n w⟩
theorem memX_set {x : RX} {g : Nat} (h : In x.gs g) (l : List Nat) (n : Nat) : (getA (setA x.gs g l) n).getD [] = if n = g then l else memX x n := by
  rw [getA_set _ _ _ _ h]; split <;> rfl
theorem in_set {α : Type} {l : List (Nat × α)} {g : Nat} (h : In l g) (v : α) (n : Nat) : In (setA l g v) n ↔ In l n := by
  unfold In
  rw [getA_set _ _ _ _ h]
  split
  · rename_i e; subst e; exact ⟨fun _ => h, fun _ => rfl⟩
  · rfl
theorem rdrX_set {x : RX} {m : Nat} (h : In x.ms m) (l : List Nat) (n : Nat) : (getA (setA x.ms m l) n).getD [] = if n = m then l else rdrX x n := by
  rw [getA_set _ _ _ _ h]; split <;> rfl
theorem in_snoc {α : Type} {l : List (Nat × α)} {g : Nat} (h : ¬ In l g) (v : α) (n : Nat) : In (l ++ [(g, v)]) n ↔ n = g ∨ In l n := by
  unfold In
  rw [getA_snoc _ _ _ _ h]
  split
  · rename_i e; simp [e]
  · rename_i e; simp [e]
/-- Side by side. -/
theorem sim_change {r : PR} {s : SSt} {n : Nat} {st' : St} {x : RX} {B1 : Nat → Nat → Prop} {B2 : Nat → Prop} {B3 : Nat → Nat → Prop} (h : Inv B1 B2 B3 r s) (hS : Sim r x) (c : ChgP) (he : changeP (r, s) c = some (n, st')) : (changeX x c).1 = n ∧ Sim st'.1 (changeX x c).2 := by
  have kr : Kept r.sec r.mem r.rdr (In r.grp) (In r.rlm) (r, s) := ⟨rfl, rfl, rfl, fun _ => Iff.rfl, fun _ => Iff.rfl, h.rg, h.rr⟩
  unfold changeP at he
  unfold changeX
  simp only at he
  by_cases k1 : c.kind = 1
  · rw [if_pos k1] at he ⊢
    by_cases q : (getA r.sec c.who).isSome = true
    · rw [if_pos q] at he
      rw [if_pos ((hS.p _).2 q)]
      cases he; exact ⟨rfl, hS⟩
    · rw [if_neg q] at he
      rw [if_neg (fun z => q ((hS.p _).1 z))]
      obtain ⟨y, _, h2⟩ := Option.map_eq_some_iff.1 he
      cases h2
      refine ⟨rfl, ⟨fun m => ?_, hS.g, hS.m, hS.gm, hS.mg⟩⟩
      rw [List.mem_append, List.mem_singleton, hS.p]
      exact ⟨fun z => (in_put h.rs).2 z.symm, fun z => ((in_put h.rs).1 z).symm⟩
  rw [if_neg k1] at he ⊢
  by_cases k2 : c.kind = 2
  · rw [if_pos k2] at he ⊢
    by_cases q : (getA r.grp c.group).isSome = true
    · rw [if_pos q] at he
      rw [if_pos (show (getA x.gs c.group).isSome = true from (hS.g _).2 q)]
      cases he; exact ⟨rfl, hS⟩
    · have q' : ¬ In x.gs c.group := fun z => q ((hS.g _).1 z)
      rw [if_neg q] at he
      rw [if_neg (show ¬ (getA x.gs c.group).isSome = true from q')]
      obtain ⟨y, _, h2⟩ := Option.map_eq_some_iff.1 he
      cases h2
      refine ⟨rfl, ⟨hS.p, fun m => ?_, hS.m, fun m w => ?_, hS.mg⟩⟩
      · rw [in_snoc q']
        show _ ↔ In (putA r.grp c.group (0, y.1)) m
        rw [in_put h.rg, hS.g]
      · show w ∈ (getA (x.gs ++ [(c.group, [])]) m).getD [] ↔ In ((getA (putA r.mem c.group []) m).getD []) w
        rw [getA_snoc _ _ _ _ q', memA_put h.rm]
        by_cases e : m = c.group
        · rw [if_pos e, if_pos e]; simp [In, getA]
        · rw [if_neg e, if_neg e]; exact hS.gm m w
  rw [if_neg k2] at he ⊢
  by_cases k3 : c.kind = 3
  · rw [if_pos k3] at he ⊢
    by_cases q : (getA r.rlm c.realm).isSome = true
    · rw [if_pos q] at he
      rw [if_pos (show (getA x.ms c.realm).isSome = true from (hS.m _).2 q)]
      cases he; exact ⟨rfl, hS⟩
    · have q' : ¬ In x.ms c.realm := fun z => q ((hS.m _).1 z)
      rw [if_neg q] at he
      rw [if_neg (show ¬ (getA x.ms c.realm).isSome = true from q')]
      by_cases q2 : (getA r.grp c.group).isSome = true
      · rw [if_pos q2] at he
        rw [if_pos (show (getA x.gs c.group).isSome = true from (hS.g _).2 q2)]
        obtain ⟨⟨k, s1⟩, _, he⟩ := Option.bind_eq_some_iff.1 he
        obtain ⟨st1, h2, h3⟩ := Option.map_eq_some_iff.1 he
        cases h3
        have k0 : Kept r.sec r.mem (putA r.rdr c.realm [(c.group, ())]) (In r.grp) (fun n => n = c.realm ∨ In r.rlm n) ({ r with rlm := putA r.rlm c.realm (0, k), rdr := putA r.rdr c.realm [(c.group, ())] }, s1) := ⟨rfl, rfl, rfl, fun _ => Iff.rfl, fun n => in_put h.rr, h.rg, rise_put h.rr _ _⟩
        refine ⟨rfl, Sim.of_kept (Kept.box k0 h2) hS.p hS.g (fun n => by rw [in_snoc q', hS.m]) hS.gm (fun n w => ?_)⟩
        show w ∈ (getA (x.ms ++ [(c.realm, [c.group])]) n).getD [] ↔ _
        rw [getA_snoc _ _ _ _ q', rdrA_put h.rd]
        by_cases e : n = c.realm
        · rw [if_pos e, if_pos e]
          simp only [Option.getD_some, List.mem_singleton, In, getA]
          by_cases e2 : c.group = w
          · rw [if_pos e2]; simp [e2]
          · rw [if_neg e2]; simp; exact Ne.symm e2
        · rw [if_neg e, if_neg e]; exact hS.mg n w
      · rw [if_neg q2] at he
        rw [if_neg (show ¬ (getA x.gs c.group).isSome = true from fun z => q2 ((hS.g _).1 z))]
        cases he; exact ⟨rfl, hS⟩
  rw [if_neg k3] at he ⊢
  by_cases k4 : c.kind = 4 ∨ c.kind = 5
  · rw [if_pos k4] at he ⊢
    by_cases q : (getA r.sec c.who).isSome = true
    · rw [if_pos q] at he
      rw [if_pos ((hS.p _).2 q)]
      by_cases q2 : (getA r.grp c.group).isSome = true
      · have q2' := (hS.g _).2 q2
        rw [if_pos q2] at he
        rw [if_pos (show (getA x.gs c.group).isSome = true from q2')]
        have hb : decide (c.who ∈ memX x c.group) = (getA (memA r c.group) c.who).isSome := by
          have := hS.gm c.group c.who
          unfold In at this
          cases hh : (getA (memA r c.group) c.who).isSome <;> simp [this, hh]
        rw [hb]
        by_cases q3 : (getA (memA r c.group) c.who).isSome = decide (c.kind = 4)
        · rw [if_pos q3] at he ⊢
          cases he; exact ⟨rfl, hS⟩
        · rw [if_neg q3] at he ⊢
          by_cases q4 : c.kind = 4
          · rw [if_pos q4] at he ⊢
            obtain ⟨st1, h2, h3⟩ := Option.map_eq_some_iff.1 he
            cases h3
            have k0 : Kept r.sec (putA r.mem c.group (putA (memA r c.group) c.who ())) r.rdr (In r.grp) (In r.rlm) ({ r with mem := putA r.mem c.group (putA (memA r c.group) c.who ()) }, s) := ⟨rfl, rfl, rfl, fun _ => Iff.rfl, fun _ => Iff.rfl, h.rg, h.rr⟩
            refine ⟨rfl, Sim.of_kept (Kept.box k0 h2) hS.p (fun n => (in_set q2' _ n).trans (hS.g n)) hS.m (fun n w => ?_) hS.mg⟩
            show w ∈ (getA (setA x.gs c.group _) n).getD [] ↔ _
            rw [memX_set q2', memA_put h.rm]
            by_cases e : n = c.group
            · rw [if_pos e, if_pos e, mem_rises, in_put (h.rms _), hS.gm]
            · rw [if_neg e, if_neg e]; exact hS.gm n w
          · rw [if_neg q4] at he ⊢
            obtain ⟨st1, h1, he⟩ := Option.bind_eq_some_iff.1 he
            obtain ⟨st2, h2, h3⟩ := Option.map_eq_some_iff.1 he
            cases h3
            have k0 : Kept r.sec (putA r.mem c.group (delA (memA r c.group) c.who)) r.rdr (In r.grp) (In r.rlm) ({ r with mem := putA r.mem c.group (delA (memA r c.group) c.who) }, s) := ⟨rfl, rfl, rfl, fun _ => Iff.rfl, fun _ => Iff.rfl, h.rg, h.rr⟩
            have k1 := k0.rekey q2 h1
            have k2 := eachP_keep _ _ _ (fun m hm st st' y z => Kept.turn y ((k1.2.2.2.2.1 m).1 (mem_read.1 hm).1) z) k1 h2
            refine ⟨rfl, Sim.of_kept k2 hS.p (fun n => (in_set q2' _ n).trans (hS.g n)) hS.m (fun n w => ?_) hS.mg⟩
            show w ∈ (getA (setA x.gs c.group _) n).getD [] ↔ _
            rw [memX_set q2', memA_put h.rm]
            by_cases e : n = c.group
            · rw [if_pos e, if_pos e, mem_but, in_del, hS.gm]
            · rw [if_neg e, if_neg e]; exact hS.gm n w
      · rw [if_neg q2] at he
        rw [if_neg (show ¬ (getA x.gs c.group).isSome = true from fun z => q2 ((hS.g _).1 z))]
        cases he; exact ⟨rfl, hS⟩
    · rw [if_neg q] at he
      rw [if_neg (fun z => q ((hS.p _).1 z))]
      cases he; exact ⟨rfl, hS⟩
  rw [if_neg k4] at he ⊢
  by_cases k6 : c.kind = 6 ∨ c.kind = 7
  · rw [if_pos k6] at he ⊢
    by_cases q : (getA r.grp c.group).isSome = true
    · rw [if_pos q] at he
      rw [if_pos (show (getA x.gs c.group).isSome = true from (hS.g _).2 q)]
      by_cases q2 : (getA r.rlm c.realm).isSome = true
      · have q2' := (hS.m _).2 q2
        rw [if_pos q2] at he
        rw [if_pos (show (getA x.ms c.realm).isSome = true from q2')]
        have hb : decide (c.group ∈ rdrX x c.realm) = (getA (rdrA r c.realm) c.group).isSome := by
          have := hS.mg c.realm c.group
          unfold In at this
          cases hh : (getA (rdrA r c.realm) c.group).isSome <;> simp [this, hh]
        rw [hb]
        by_cases q3 : (getA (rdrA r c.realm) c.group).isSome = decide (c.kind = 6)
        · rw [if_pos q3] at he ⊢
          cases he; exact ⟨rfl, hS⟩
        · rw [if_neg q3] at he ⊢
          by_cases q4 : c.kind = 6
          · rw [if_pos q4] at he ⊢
            obtain ⟨st1, h2, h3⟩ := Option.map_eq_some_iff.1 he
            cases h3
            have k0 : Kept r.sec r.mem (putA r.rdr c.realm (putA (rdrA r c.realm) c.group ())) (In r.grp) (In r.rlm) ({ r with rdr := putA r.rdr c.realm (putA (rdrA r c.realm) c.group ()) }, s) := ⟨rfl, rfl, rfl, fun _ => Iff.rfl, fun _ => Iff.rfl, h.rg, h.rr⟩
            refine ⟨rfl, Sim.of_kept (Kept.box k0 h2) hS.p hS.g (fun n => (in_set q2' _ n).trans (hS.m n)) hS.gm (fun n w => ?_)⟩
            show w ∈ (getA (setA x.ms c.realm _) n).getD [] ↔ _
            rw [rdrX_set q2', rdrA_put h.rd]
            by_cases e : n = c.realm
            · rw [if_pos e, if_pos e, mem_rises, in_put (h.rds _), hS.mg]
            · rw [if_neg e, if_neg e]; exact hS.mg n w
          · rw [if_neg q4] at he ⊢
            obtain ⟨st1, h1, he⟩ := Option.bind_eq_some_iff.1 he
            obtain ⟨st2, h2, he⟩ := Option.bind_eq_some_iff.1 he
            obtain ⟨st3, h3, h4⟩ := Option.map_eq_some_iff.1 he
            cases h4
            have k0 : Kept r.sec r.mem (putA r.rdr c.realm (delA (rdrA r c.realm) c.group)) (In r.grp) (In r.rlm) ({ r with rdr := putA r.rdr c.realm (delA (rdrA r c.realm) c.group) }, s) := ⟨rfl, rfl, rfl, fun _ => Iff.rfl, fun _ => Iff.rfl, h.rg, h.rr⟩
            have k1 := k0.rekey q h1
            have k2 := eachP_keep _ _ _ (fun m hm st st' y z => Kept.box y z) k1 h2
            have k3 := k2.turn q2 h3
            refine ⟨rfl, Sim.of_kept k3 hS.p hS.g (fun n => (in_set q2' _ n).trans (hS.m n)) hS.gm (fun n w => ?_)⟩
            show w ∈ (getA (setA x.ms c.realm _) n).getD [] ↔ _
            rw [rdrX_set q2', rdrA_put h.rd]
            by_cases e : n = c.realm
            · rw [if_pos e, if_pos e, mem_but, in_del, hS.mg]
            · rw [if_neg e, if_neg e]; exact hS.mg n w
      · rw [if_neg q2] at he
        rw [if_neg (show ¬ (getA x.ms c.realm).isSome = true from fun z => q2 ((hS.m _).1 z))]
        cases he; exact ⟨rfl, hS⟩
    · rw [if_neg q] at he
      rw [if_neg (show ¬ (getA x.gs c.group).isSome = true from fun z => q ((hS.g _).1 z))]
      cases he; exact ⟨rfl, hS⟩
  rw [if_neg k6] at he ⊢
  cases he; exact ⟨rfl, hS⟩
/-- The document's reader. -/
def RdX (x : RX) (who realm : Nat) : Prop := ∃ g ∈ rdrX x realm, who ∈ memX x g
theorem Sim.rd {r : PR} {x : RX} (h : Sim r x) (who realm : Nat) : RdX x who realm ↔ Rd r who realm :=
  ⟨fun ⟨g, a, b⟩ => ⟨g, (h.mg _ _).1 a, (h.gm _ _).1 b⟩, fun ⟨g, a, b⟩ => ⟨g, (h.mg _ _).2 a, (h.gm _ _).2 b⟩⟩
end Go.Proofs.YtcmhgpgookiomaaGreat
namespace Go.Proofs.YtcmhgpgookiomaaGreat

def word4 (n : Nat) : By := [UInt8.ofNat (n / 16777216), UInt8.ofNat (n / 65536), UInt8.ofNat (n / 256), UInt8.ofNat n]
def tapeL (start words : Nat) : By := (List.range words).flatMap fun i => word4 ((start + i) % 4294967296)
theorem tape_succ (start words : Nat) : tapeL start (words + 1) = tapeL start words ++ word4 ((start + words) % 4294967296) := by
  unfold tapeL
  rw [List.range_succ, List.flatMap_append]
  simp
theorem tape_len (start : Nat) : ∀ words : Nat, (tapeL start words).length = 4 * words
  | 0 => rfl
  | words + 1 => by rw [tape_succ, List.length_append, tape_len start words]; rfl
theorem tape_at (start : Nat) : ∀ (words i : Nat), i < words → ((tapeL start words).drop (4 * i)).take 4 = word4 ((start + i) % 4294967296)
  | 0, _, h => by omega
  | words + 1, i, h => by
    rw [tape_succ]
    have hl := tape_len start words
    by_cases e : i = words
    · subst e
      rw [List.drop_append_of_le_length (by omega), List.drop_of_length_le (by omega)]
      rfl
    · rw [List.drop_append_of_le_length (by omega), List.take_append_of_le_length (by rw [List.length_drop]; omega)]
      exact tape_at start words i (by omega)
theorem word_inj {a b : Nat} (ha : a < 4294967296) (hb : b < 4294967296) (h : word4 a = word4 b) : a = b := by
  unfold word4 at h
  simp only [List.cons.injEq, and_true] at h
  obtain ⟨h1, h2, h3, h4⟩ := h
  have e : ∀ x y : Nat, UInt8.ofNat x = UInt8.ofNat y → x % 256 = y % 256 := fun x y h => by
    have := congrArg UInt8.toNat h
    simpa using this
  have := e _ _ h1
  have := e _ _ h2
  have := e _ _ h3
  have := e _ _ h4
  omega
theorem tape_unlike (start words : Nat) (hw : words < 4294967296) : Unlike (tapeL start words) := fun p q hp hq lp lq h => by
  obtain ⟨i, rfl⟩ := hp
  obtain ⟨j, rfl⟩ := hq
  rw [tape_len] at lp lq
  rw [tape_at _ _ _ (by omega), tape_at _ _ _ (by omega)] at h
  have := word_inj (Nat.mod_lt _ (by decide)) (Nat.mod_lt _ (by decide)) h
  omega
end Go.Proofs.YtcmhgpgookiomaaGreat
namespace Go.Proofs.YtcmhgpgookiomaaGreat
open Go.RowKit Go.Shelf

/-- Block b holds the cells cs. -/
def Arr (w : World) (b : Nat) (t : TypeId) (cs : List Value) : Prop := w.heap[b]? = some (.cells cs.toArray t (0, 0))
section
variable {w w' : World} {b : Nat} {t : TypeId} {cs : List Value}
theorem Arr.keep {X : Nat → Obj → Prop} (h : Arr w b t cs) (hk : Keep X w w') (hX : ¬ X b (.cells cs.toArray t (0, 0))) : Arr w' b t cs := hk.block b _ h hX
theorem Arr.ext (h : Arr w b t cs) (hk : Ext w w') : Arr w' b t cs := hk.block b _ h (fun h => h)
theorem Arr.new (w : World) (t : TypeId) (cs : List Value) : Arr (w.alloc (.cells cs.toArray t)) w.heap.size t cs := World.alloc_heap_new w _
theorem Arr.alloc (h : Arr w b t cs) (o : Obj) : Arr (w.alloc o) b t cs := h.ext ((Keep.refl _ w).alloc o)
theorem Arr.lt (h : Arr w b t cs) : b < w.heap.size := Keep.lt h
theorem Arr.cell (h : Arr w b t cs) {i : Nat} {v : Value} (hv : cs[i]? = some v) : w.cell? ⟨b, i, none⟩ = some v := by
  rw [cell_of_row _ _ i _ t (0, 0) h]
  simpa using hv
theorem Arr.row (h : Arr w b t cs) {off n c : Nat} (h1 : off + n ≤ cs.length) (h2 : n ≤ c) (h3 : c ≤ maxLen) : Row 1 w (some ⟨b, off, none⟩) n c ((cs.drop off).take n) := by
  refine ⟨h2, h3, by simp; omega, by simp, fun hn => ⟨b, off, rfl, fun i u hu => h.cell ?_⟩⟩
  rw [List.getElem?_take, List.getElem?_drop] at hu
  split at hu
  · exact hu
  · cases hu
theorem Arr.frozen (h : Arr w b t cs) (i : Nat) : w.frozen? ⟨b, i, none⟩ = false := by
  unfold Arr at h
  simp [World.frozen?, h]
theorem Arr.whole (h : Arr w b t cs) {n : Nat} (hn : cs.length = n) (h3 : n ≤ maxLen) : Row 1 w (some ⟨b, 0, none⟩) n n cs := by
  have := h.row (off := 0) (n := n) (c := n) (by omega) (Nat.le_refl _) h3
  rwa [List.drop_zero, List.take_of_length_le (by omega)] at this
theorem Arr.set (h : Arr w b t cs) (i : Nat) (v : Value) : Arr (w.setCell ⟨b, i, none⟩ v) b t (cs.set i v) := by
  unfold Arr at h ⊢
  unfold World.setCell
  simp [Array.getElem?_modify, h]
theorem Arr.setRow (h : Arr w b t cs) (cs' : List Value) : Arr (w.setRow b cs'.toArray) b t cs' := by
  unfold Arr at h ⊢
  simp [World.setRow, Array.getElem?_modify, h]
theorem keep_setRow (w : World) (b : Nat) (c : Array Value) : Keep (fun k _ => k = b) w (w.setRow b c) :=
  ⟨rfl, rfl, rfl, by simp [World.setRow], fun k o ho hx => by rw [setRow_other w b k _ (fun e => hx e)]; exact ho⟩
theorem keep_setCell (w : World) (b i : Nat) (v : Value) : Keep (fun k _ => k = b) w (w.setCell ⟨b, i, none⟩ v) := (Keep.refl _ w).setCell _ _ (fun _ _ => rfl)
end
theorem over_length {xs cs : List Value} {off : Nat} (h : off + cs.length ≤ xs.length) : (over xs off cs).length = xs.length := by simp [over]; omega

/-- The cells of a row, loaded. -/
theorem Row.loads {P : Program} {w : World} {b off n c : Nat} {cs : List Value} (h : Row 1 w (some ⟨b, off, none⟩) n c cs) (hn : 0 < n) : (loadCellsFrom ⟨b, off, none⟩ 0 n #[]).run P w = .ok cs.toArray w := by
  have hl : cs.length = n := by have := h.2.2.1; simpa using this
  have := run_loadCells_list (P := P) (w := w) ⟨b, off, none⟩ cs (fun j v hv => by rw [addr_add]; exact h.cell rfl hv hn)
  rw [hl] at this
  exact this

theorem run_loadVar_cells {P : Program} (w : World) (p : Addr) (ty : TypeId) (cs : List Value) (d : TypeDesc) (hl : (loadCellsFrom p 0 cs.length #[]).run P w = .ok cs.toArray w)
    (hu : P.underlying ty = some d) (hd : (match d with | .struct _ | .array _ _ => true | _ => false) = true) (hi : (P.info? ty).map (·.size) = some cs.length) :
    (loadVar ty p).run P w = .ok (.agg cs.toArray) w := by
  cases hq : P.info? ty with
  | none => simp [hq] at hi
  | some i =>
    have hs : i.size = cs.length := by simpa [hq] using hi
    have hagg : (isAgg ty).run P w = .ok true w := by
      unfold isAgg
      cases d <;> simp_all [run_underlying hu, Result.andThen]
    have hl' : (loadCells p cs.length).run P w = .ok cs.toArray w := hl
    simp [loadVar, hagg, sizeOf, typeInfo, hq, hs, hl', Result.andThen]
/-- An array's cells, loaded from wherever they stand. -/
theorem wpList_load_cells {P : Program} {ops : Array Oper} {rest : List Oper} {o : Oper} {a : Act} {w : World} {Q : Exit → Act → World → Prop} (hgd : o.guard = none) (ty : TypeId) (x : Operand) (ho : o.op = .load ty x)
    (p : Addr) (hx : a.eval x = .pointer (some p)) (cs : List Value) (d : TypeDesc) (hl : (loadCellsFrom p 0 cs.length #[]).run P w = .ok cs.toArray w)
    (hu : P.underlying ty = some d) (hd : (match d with | .struct _ | .array _ _ => true | _ => false) = true) (hi : (P.info? ty).map (·.size) = some cs.length)
    (h : wpList P ops Q rest (a.put o.dst (.agg cs.toArray)) w) : wpList P ops Q (o :: rest) a w :=
  wpList_plain hgd fun _ hK => by
    unfold Oper.wp execOp
    simp only [ho, hx, Instr.loadAt, Instr.sureAddr, Sem.run_bind, Sem.run_pure, Result.andThen_ok, run_loadVar_cells w p ty cs d hl hu hd hi]
    exact hK _ _ h

/-- Blocks laid in a row. -/
theorem wp_laid1 {P : Program} {c : Code} {Q : Exit → Act → World → Prop} {a : Act} {w : World} {o1 : Obj}
    (h : ∀ W, Ext w W → W.heap[w.heap.size]? = some o1 → Code.wp P c Q a W) : Code.wp P c Q a (w.alloc o1) :=
  h _ ((Keep.refl _ w).alloc _) (World.alloc_heap_new w o1)
theorem wp_laid2 {P : Program} {c : Code} {Q : Exit → Act → World → Prop} {a : Act} {w : World} {o1 o2 : Obj}
    (h : ∀ W, Ext w W → W.heap[w.heap.size]? = some o1 → W.heap[w.heap.size + 1]? = some o2 → Code.wp P c Q a W) : Code.wp P c Q a ((w.alloc o1).alloc o2) := by
  have k1 := World.alloc_heap_new w o1
  have k2 := World.alloc_heap_new (w.alloc o1) o2
  simp only [World.size_alloc] at k2
  exact h _ (((Keep.refl _ w).alloc _).alloc _) (((Keep.refl (fun _ _ => False) _).alloc o2).block _ _ k1 (fun h => h)) k2
theorem wp_laid3 {P : Program} {c : Code} {Q : Exit → Act → World → Prop} {a : Act} {w : World} {o1 o2 o3 : Obj}
    (h : ∀ W, Ext w W → W.heap[w.heap.size]? = some o1 → W.heap[w.heap.size + 1]? = some o2 → W.heap[w.heap.size + 1 + 1]? = some o3 → Code.wp P c Q a W) : Code.wp P c Q a (((w.alloc o1).alloc o2).alloc o3) := by
  have k1 := World.alloc_heap_new w o1
  have k2 := World.alloc_heap_new (w.alloc o1) o2
  have k3 := World.alloc_heap_new ((w.alloc o1).alloc o2) o3
  simp only [World.size_alloc] at k2 k3
  have e : ∀ (A : World) (o : Obj), Ext A (A.alloc o) := fun A o => (Keep.refl _ A).alloc o
  exact h _ ((((Keep.refl _ w).alloc _).alloc _).alloc _) ((e _ o3).block _ _ ((e _ o2).block _ _ k1 (fun h => h)) (fun h => h)) ((e _ o3).block _ _ k2 (fun h => h)) k3


end Go.Proofs.YtcmhgpgookiomaaGreat
