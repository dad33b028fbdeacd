/-
  SlogWhole: the plain law. What is found on a disk behind appends, of which the last one may have been torn by a crash.
-/
import Derived.Test.YtdopaoajbjodeaaSlR
import Derived.Test.YtdopaoajbjodeaaSlN
namespace Go.Proofs.Ytdopaoajbjodeaa
open Go.RowKit Go.Shelf

theorem secOver {F c : List UInt8} {i k n : Nat} (hF : F.length = n * 64) (hc : c.length ≤ 64) (hi : i < n) (hk : k < n) :
    ((overB F (i * 64) c).drop (k * 64)).take 64 = if k = i then overB ((F.drop (k * 64)).take 64) 0 c else (F.drop (k * 64)).take 64 := by
  have h64 : i * 64 + 64 ≤ n * 64 := by omega
  have hk64 : k * 64 + 64 ≤ n * 64 := by omega
  refine List.ext_getElem? fun x => ?_
  by_cases hki : k = i
  · subst hki
    rw [if_pos rfl]
    unfold overB
    simp only [List.getElem?_take, List.getElem?_drop, List.getElem?_append, List.length_append, List.length_take, hF, List.take_zero, List.nil_append, Nat.zero_add]
    rw [Nat.min_eq_left (show k * 64 ≤ n * 64 by omega)]
    by_cases hx : x < 64
    · by_cases hxc : x < c.length
      · simp [hx, hxc, show ¬ k * 64 + x < k * 64 from by omega]
      · simp [hx, hxc, show k * 64 + c.length + (k * 64 + x - (k * 64 + c.length)) = k * 64 + x by omega, show c.length + (x - c.length) = x by omega]
    · simp [hx, show ¬ x < c.length by omega, show ¬ c.length + (x - c.length) < 64 by omega]
  · rw [if_neg hki]
    unfold overB
    simp only [List.getElem?_take, List.getElem?_drop, List.getElem?_append, List.length_append, List.length_take, hF]
    rw [Nat.min_eq_left (show i * 64 ≤ n * 64 by omega)]
    by_cases hx : x < 64
    · by_cases hlt : k < i
      · simp [hx, show k * 64 + x < i * 64 by omega, show k * 64 + x < i * 64 + c.length by omega]
      · simp [hx, show ¬ k * 64 + x < i * 64 + c.length by omega, show i * 64 + c.length + (k * 64 + x - (i * 64 + c.length)) = k * 64 + x by omega]
    · simp [hx]
theorem putL_cons' (n k : Nat) : putL n (k + 1) = UInt8.ofNat n :: putL (n / 256) k := by
  unfold putL
  rw [List.range_succ_eq_map, List.map_cons, List.map_map]
  congr 1
  · simp
  · refine List.map_congr_left fun i _ => ?_
    simp only [Function.comp]
    congr 1
    rw [Nat.div_div_eq_div_mul, show 8 * (i + 1) = 8 + 8 * i by omega, Nat.pow_add]
theorem numL_putL' (n k : Nat) : numL (putL n k) = n % 256 ^ k := by
  induction k generalizing n with
  | zero => simp [putL, numL, Nat.mod_one]
  | succ k ih =>
    have e : n % 256 ^ (k + 1) = n % 256 + 256 * (n / 256 % 256 ^ k) := by rw [Nat.pow_succ, Nat.mul_comm (256 ^ k), Nat.mod_mul]
    rw [putL_cons', numL, ih, UInt8.toNat_ofNat', e]

/-- A write of a sector. -/
theorem write_sector {d : DSt} (hF : d.F.length = d.n * 64) (hpw : d.pw = true) {p q : Nat} {b : List UInt8} (hb : b.length = 64) (hp : p < d.n) (hq : q < d.n) :
    (d.write (p : Int) b).sector q = if q = p then (if d.tears then b.take d.keep ++ (d.sector p).drop (b.take d.keep).length else b) else d.sector q := by
  have hm : d.may (p : Int) = 0 := by unfold DSt.may; rw [if_pos hpw, if_neg (by omega)]
  have key : ∀ c : List UInt8, c.length ≤ 64 → ((overB d.F (p * 64) c).drop (q * 64)).take 64 = if q = p then c ++ (d.sector p).drop c.length else d.sector q := fun c hc => by
    rw [secOver hF hc hp hq]
    by_cases h : q = p
    · subst h
      rw [if_pos rfl, if_pos rfl]
      simp [overB, DSt.sector]
    · rw [if_neg h, if_neg h]; rfl
  unfold DSt.write
  rw [if_pos hm]
  by_cases ht : d.tears = true
  · rw [if_pos ht, if_pos ht]
    exact key (b.take d.keep) (by rw [List.length_take]; omega)
  · rw [if_neg ht, if_neg ht]
    have := key b (by omega)
    rw [List.drop_of_length_le (l := d.sector p) (by rw [sector_length hF hp]; omega), List.append_nil] at this
    exact this
theorem write_len {d : DSt} (hF : d.F.length = d.n * 64) (i : Int) (b : List UInt8) (hb : b.length = 64) : (d.write i b).F.length = d.n * 64 := by
  unfold DSt.write
  by_cases hm : d.may i = 0
  · rw [if_pos hm]
    obtain ⟨_, k, rfl, hk⟩ := may_zero hm
    have : ∀ c : List UInt8, c.length ≤ 64 → (overB d.F (((k : Nat) : Int).toNat * 64) c).length = d.n * 64 := fun c hc => by rw [overB_length (by rw [hF, Int.toNat_natCast]; omega), hF]
    split
    · exact this _ (by rw [List.length_take]; omega)
    · exact this _ (by omega)
  · rw [if_neg hm]; exact hF
theorem write_live {d : DSt} (hpw : d.pw = true) {p : Nat} (hp : p < d.n) : (d.tears = false ∧ d.writeE (p : Int) = 0) ∨ (d.tears = true ∧ d.writeE (p : Int) = 131) := by
  have hm : d.may (p : Int) = 0 := by unfold DSt.may; rw [if_pos hpw, if_neg (by omega)]
  unfold DSt.writeE
  rw [if_pos hm]
  cases d.tears with
  | true => exact .inr ⟨rfl, rfl⟩
  | false => exact .inl ⟨rfl, rfl⟩
theorem write_pw {d : DSt} (ht : d.tears = false) (i : Int) (b : List UInt8) : (d.write i b).pw = d.pw := by
  unfold DSt.write
  rw [ht]
  split <;> rfl

section
variable {l : List (Nat × List UInt8)} {d : DSt}
theorem wS_sec (hF : d.F.length = d.n * 64) (hpw : d.pw = true) (h64 : ∀ (j : Nat) (p : Nat × List UInt8), l[j]? = some p → p.2.length = 64 ∧ p.1 < d.n) : ∀ k : Nat, k ≤ l.length → okTo l d k →
    (wS l d k).F.length = d.n * 64 ∧ (wS l d k).pw = true ∧ (∀ q, q < d.n → (∀ (j : Nat) (p : Nat × List UInt8), j < k → l[j]? = some p → p.1 ≠ q) → (wS l d k).sector q = d.sector q) ∧
    ((∀ (i j : Nat) (p q : Nat × List UInt8), i < j → l[i]? = some p → l[j]? = some q → p.1 ≠ q.1) → ∀ (j : Nat) (p : Nat × List UInt8), j < k → l[j]? = some p → (wS l d k).sector p.1 = p.2)
  | 0, _, _ => ⟨by simpa [wS] using hF, by simpa [wS] using hpw, fun q _ _ => by simp [wS], fun _ j p hj => by omega⟩
  | k + 1, hk, hok => by
    obtain ⟨i1, i2, i3, i4⟩ := wS_sec hF hpw h64 k (by omega) (fun j p hj hp => hok j p (by omega) hp)
    have hn := (wS_cr l d k).2.2
    obtain ⟨p, hp⟩ : ∃ p, l[k]? = some p := ⟨_, List.getElem?_eq_getElem (by omega)⟩
    obtain ⟨hp64, hpn⟩ := h64 k p hp
    have hE := hok k p (by omega) hp
    have ht : (wS l d k).tears = false := by
      rcases write_live i2 (p := p.1) (by rw [hn]; exact hpn) with h | h
      · exact h.1
      · rw [h.2] at hE; exact absurd hE (by decide)
    rw [wS_succ hp]
    have hw := fun q hq => write_sector (d := wS l d k) (by rw [i1, hn]) i2 (p := p.1) (q := q) hp64 (by rw [hn]; exact hpn) (by rw [hn]; exact hq)
    refine ⟨by rw [write_len (by rw [i1, hn]) _ _ hp64, hn], by rw [write_pw ht, i2], fun q hq hne => ?_, fun hd j p' hj hp' => ?_⟩
    · rw [hw q hq, if_neg (Ne.symm (hne k p (by omega) hp))]
      exact i3 q hq (fun j p' hj hp' => hne j p' (by omega) hp')
    · by_cases hjk : j = k
      · subst hjk
        rw [hp] at hp'
        cases hp'
        rw [hw p.1 hpn, if_pos rfl, ht]
        rfl
      · rw [hw p'.1 (h64 j p' hp').2, if_neg (hd j k p' p (by omega) hp' hp)]
        exact i4 hd j p' (by omega) hp'
theorem runW_cases : ∀ (n : Nat), n ≤ l.length → okTo l d n ∨ ∃ (k : Nat) (p : Nat × List UInt8), k < n ∧ okTo l d k ∧ l[k]? = some p ∧ (wS l d k).writeE (p.1 : Int) ≠ 0
  | 0, _ => .inl fun j p hj => by omega
  | n + 1, hn => by
    rcases runW_cases n (by omega) with h | ⟨k, p, h1, h2, h3, h4⟩
    · obtain ⟨p, hp⟩ : ∃ p, l[n]? = some p := ⟨_, List.getElem?_eq_getElem (by omega)⟩
      by_cases hE : (wS l d n).writeE (p.1 : Int) = 0
      · exact .inl fun j p' hj hp' => by
          by_cases hjn : j = n
          · subst hjn; rw [hp] at hp'; cases hp'; exact hE
          · exact h j p' (by omega) hp'
      · exact .inr ⟨n, p, by omega, h, hp, hE⟩
    · exact .inr ⟨k, p, by omega, h2, h3, h4⟩
end

/-- The records that stand ahead of sector t. -/
inductive Good (F : Nat → List UInt8) (gen n : Nat) : Nat → List (List UInt8) → Prop
  | nil : Good F gen n 0 []
  | snoc {t : Nat} {recs : List (List UInt8)} {m : Nat} : Good F gen n t recs → t < n → dueL gen recs.length (F t) (n - t) = some m → Good F gen n (t + spanN m) (recs ++ [(bodyU F t (spanN m - 1)).take m])

section
variable {F F' : Nat → List UInt8} {gen n : Nat}
theorem Good.opens {t : Nat} {recs : List (List UInt8)} (h : Good F gen n t recs) : ∃ k, k ≤ t ∧ ∀ f, openG F gen n (k + f) 0 [] = openG F gen n f t recs := by
  induction h with
  | nil => exact ⟨0, Nat.le_refl _, fun f => by rw [Nat.zero_add]⟩
  | snoc _ ht hd ih =>
    obtain ⟨k, hk, h⟩ := ih
    have h1 := spanN_pos (dueL_some hd).2.2.1
    exact ⟨k + 1, by omega, fun f => by rw [show k + 1 + f = k + (f + 1) by omega, h (f + 1), openG_some ht hd]⟩
theorem bodyU_congr {t : Nat} : ∀ j : Nat, (∀ i, i ≤ j → F' (t + i) = F (t + i)) → bodyU F' t j = bodyU F t j
  | 0, h => by unfold bodyU; have := h 0 (Nat.le_refl _); rw [Nat.add_zero] at this; rw [this]
  | j + 1, h => by rw [bodyU, bodyU, bodyU_congr j (fun i hi => h i (by omega)), h (j + 1) (Nat.le_refl _)]
theorem Good.congr {t : Nat} {recs : List (List UInt8)} (h : Good F gen n t recs) (hF : ∀ i, i < t → F' i = F i) : Good F' gen n t recs := by
  induction h with
  | nil => exact .nil
  | @snoc t recs m _ ht hd ih =>
    have h1 := spanN_pos (dueL_some hd).2.2.1
    have := Good.snoc (ih (fun i hi => hF i (by omega))) ht (by rw [hF t (by omega)]; exact hd)
    rw [bodyU_congr (spanN m - 1) (fun i hi => hF (t + i) (by omega))] at this
    exact this
theorem Good.le {t : Nat} {recs : List (List UInt8)} (h : Good F gen n t recs) : t ≤ n := by
  induction h with
  | nil => omega
  | snoc _ ht hd _ => have := (dueL_some hd).2.2.2; omega
theorem Good.close {t : Nat} {recs : List (List UInt8)} (h : Good F gen n t recs) (hd : t < n → dueL gen recs.length (F t) (n - t) = none) : openG F gen n n 0 [] = (t, recs) := by
  have hle := h.le
  obtain ⟨k, hk, h⟩ := h.opens
  have := h (n - k)
  rw [show k + (n - k) = n by omega] at this
  rw [this]
  by_cases ht : t < n
  · exact openG_none (hd ht)
  · exact openG_stop ht

theorem firstL_take4 {b : List UInt8} {gen num : Nat} (hb : b.length ≤ 262144) : numL ((firstL b gen num).take 4) = b.length := by
  unfold firstL
  have h4 := putL_length b.length 4
  rw [List.append_assoc, List.append_assoc, List.take_append_of_le_length (by omega), List.take_of_length_le (by omega), numL_putL']
  exact Nat.mod_eq_of_lt (by omega)
theorem dueL_first {b : List UInt8} {gen num room : Nat} (hb : b.length ≤ 262144) (hr : spanN b.length ≤ room) : dueL gen num (firstL b gen num) room = some b.length := by
  unfold dueL
  rw [firstL_take4 hb, if_pos ⟨firstL_drop b gen num, hb, hr⟩]
theorem dueL_last {s : List UInt8} {gen num room : Nat} (h64 : 55 < s.length) (h : s.getLast? = some 0) : dueL gen num s room = none := by
  unfold dueL
  rw [if_neg]
  intro h1
  have h2 := congrArg (fun l : List UInt8 => l.getLast?) h1.1
  unfold markL at h2
  simp only [List.getLast?_drop, List.getLast?_append, List.getLast?_singleton, Option.some_or] at h2
  rw [if_neg (by omega), h] at h2
  exact absurd h2 (by decide)
theorem dueL_torn {b : List UInt8} {gen num room c : Nat} (hc : c < 64) : dueL gen num ((firstL b gen num).take c ++ (zeros 64).drop c) room = none := by
  have hl := firstL_length b gen num
  refine dueL_last (by rw [List.length_append, List.length_take, List.length_drop, hl]; simp [zeros]; omega) ?_
  rw [List.getLast?_append, show ((zeros 64).drop c).getLast? = some 0 by rw [List.getLast?_drop, if_neg (by simp [zeros]; omega)]; rfl]
  rfl
theorem body_at {b : List UInt8} {gen num t : Nat} (h0 : F t = firstL b gen num) (hc : ∀ i, i < spanN b.length - 1 → F (t + (1 + i)) = padTo 64 (chunkAt 64 (b.drop (min 51 b.length)) i)) (hb : b.length ≤ 262144) :
    ∀ j, j ≤ spanN b.length - 1 → (bodyU F t j).length = 51 + 64 * j ∧ ∀ i, i < b.length → i < 51 + 64 * j → (bodyU F t j)[i]? = b[i]?
  | 0, _ => by
    have hl := firstL_length b gen num
    refine ⟨by unfold bodyU; rw [h0, List.length_take, List.length_drop, hl]; rfl, fun i hi hi2 => ?_⟩
    unfold bodyU
    have h4 := putL_length b.length 4
    have h51 := padTo_length 51 b
    rw [h0, List.getElem?_take, if_pos (by omega), List.getElem?_drop]
    unfold firstL
    rw [List.append_assoc, List.append_assoc, List.getElem?_append_right (by omega), h4, List.getElem?_append_left (by omega), show 4 + i - 4 = i by omega]
    unfold padTo
    rw [List.getElem?_append_left (by rw [List.length_take]; omega), List.getElem?_take, if_pos (by omega)]
  | j + 1, hj => by
    obtain ⟨i1, i2⟩ := body_at h0 hc hb j (by omega)
    have hcj := hc j (by omega)
    have hj1 : 51 + 64 * j < b.length := by
      unfold spanN at hj
      rw [if_neg (by omega)] at hj
      split at hj <;> omega
    rw [show 1 + j = j + 1 by omega] at hcj
    refine ⟨by rw [bodyU, List.length_append, i1, hcj, padTo_length]; omega, fun i hi hi2 => ?_⟩
    rw [bodyU]
    by_cases h : i < 51 + 64 * j
    · rw [List.getElem?_append_left (by omega)]
      exact i2 i hi h
    · rw [List.getElem?_append_right (by omega), i1, hcj]
      unfold padTo chunkAt
      rw [Nat.min_eq_left (by omega), List.drop_drop, List.take_take, List.getElem?_append_left (by rw [List.length_take, List.length_drop]; omega), List.getElem?_take, if_pos (by omega), List.getElem?_drop]
      congr 1
      omega
theorem body_rec {b : List UInt8} {gen num t : Nat} (h0 : F t = firstL b gen num) (hc : ∀ i, i < spanN b.length - 1 → F (t + (1 + i)) = padTo 64 (chunkAt 64 (b.drop (min 51 b.length)) i)) (hb : b.length ≤ 262144) : (bodyU F t (spanN b.length - 1)).take b.length = b := by
  obtain ⟨h1, h2⟩ := body_at h0 hc hb (spanN b.length - 1) (Nat.le_refl _)
  have hf := spanN_fits hb
  refine List.ext_getElem? fun i => ?_
  by_cases hi : i < b.length
  · rw [List.getElem?_take, if_pos hi, h2 i hi (by omega)]
  · rw [List.getElem?_eq_none (by rw [List.length_take]; omega), List.getElem?_eq_none (by omega)]
end

/-- The log, its disk, what was answered with OK, whether a write has failed, and the record of which it was. -/
structure WInv (gen : UInt32) (st : LSt) (d : DSt) (done : List (List UInt8)) (br : Bool) (next : List UInt8) : Prop where
  fr : st.fr = 0
  n : st.n = 60
  g : st.gen = gen
  dn : d.n = 60
  F : d.F.length = d.n * 64
  sbr : st.br = br
  live : br = false → d.pw = true ∧ st.recs = done ∧ Good (secF d 0) gen.toNat 60 st.at' done ∧ (st.at' < 60 → d.sector st.at' = zeros 64)
  dead : br = true → ∃ t recs, openG (secF d 0) gen.toNat 60 60 0 [] = (t, recs) ∧ (recs = done ∨ recs = done ++ [next])

/-- The sectors of a record's writes. -/
theorem writes_place {at' n g num : Nat} {b : List UInt8} {k : Nat} {p : Nat × List UInt8} (h : (writesL 0 at' n g num b)[k]? = some p) :
    (k < spanN b.length - 1 ∧ p.1 = at' + (1 + k)) ∨ (k = spanN b.length - 1 ∧ at' + spanN b.length < n ∧ p.1 = at' + spanN b.length) ∨ (k + 1 = (writesL 0 at' n g num b).length ∧ spanN b.length - 1 ≤ k ∧ (at' + spanN b.length < n → spanN b.length ≤ k + 1 ∧ k ≠ spanN b.length - 1) ∧ p.1 = at' ∧ p.2 = firstL b g num) := by
  have hlen := writes_len (fr := 0) (at' := at') (n := n) (g := g) (num := num) (b := b)
  have hk : k < (writesL 0 at' n g num b).length := (List.getElem?_eq_some_iff.1 h).1
  by_cases h1 : k < spanN b.length - 1
  · rw [writes_at h1] at h
    cases h
    exact .inl ⟨h1, by show 0 + at' + (1 + k) = _; omega⟩
  · by_cases h2 : at' + spanN b.length < n
    · rw [if_pos h2] at hlen
      by_cases h3 : k = spanN b.length - 1
      · subst h3
        rw [writes_mid h2] at h
        cases h
        exact .inr (.inl ⟨rfl, h2, by show 0 + at' + spanN b.length = _; omega⟩)
      · have h4 := writes_last (fr := 0) (at' := at') (n := n) (g := g) (num := num) (b := b)
        rw [if_pos h2] at h4
        obtain rfl : k = spanN b.length - 1 + 1 := by omega
        rw [h4] at h
        cases h
        exact .inr (.inr ⟨by omega, by omega, fun _ => ⟨by omega, by omega⟩, by show 0 + at' = _; omega, rfl⟩)
    · rw [if_neg h2] at hlen
      have h4 := writes_last (fr := 0) (at' := at') (n := n) (g := g) (num := num) (b := b)
      rw [if_neg h2, Nat.add_zero] at h4
      obtain rfl : k = spanN b.length - 1 := by omega
      rw [h4] at h
      cases h
      exact .inr (.inr ⟨by omega, by omega, fun h => absurd h h2, by show 0 + at' = _; omega, rfl⟩)
theorem writes_apart {at' n g num : Nat} {b : List UInt8} (hb : b.length ≤ 262144) : ∀ (i j : Nat) (p q : Nat × List UInt8), i < j → (writesL 0 at' n g num b)[i]? = some p → (writesL 0 at' n g num b)[j]? = some q → p.1 ≠ q.1 := by
  intro i j p q hij hp hq
  have h1 := spanN_pos hb
  have hj : j < (writesL 0 at' n g num b).length := (List.getElem?_eq_some_iff.1 hq).1
  rcases writes_place hp with ⟨a1, a2⟩ | ⟨a1, a2, a3⟩ | ⟨a1, _, _, a3, _⟩ <;> rcases writes_place hq with ⟨b1, b2⟩ | ⟨b1, b2, b3⟩ | ⟨b1, _, _, b3, _⟩ <;> omega

theorem winv_step {gen : UInt32} {st : LSt} {d : DSt} {done : List (List UInt8)} {br : Bool} {next : List UInt8} (h : WInv gen st d done br next) (b : List UInt8) (hb : b.length ≤ 262144) :
    ((appL st b d).1 = 0 ∧ WInv gen (appL st b d).2.1 (appL st b d).2.2 (done ++ [b]) br next) ∨ ((appL st b d).1 = 131 ∧ WInv gen (appL st b d).2.1 (appL st b d).2.2 done true b) ∨
    ((appL st b d).1 ≠ 0 ∧ (appL st b d).1 ≠ 131 ∧ WInv gen (appL st b d).2.1 (appL st b d).2.2 done br next) := by
  have hst := h.sbr
  cases br with
  | true =>
    have : appL st b d = (140, st, d) := by unfold appL; rw [hst]; rfl
    rw [this]
    exact .inr (.inr ⟨by show (140 : Int) ≠ 0; decide, by show (140 : Int) ≠ 131; decide, h⟩)
  | false =>
    by_cases hroom : st.n - st.at' < spanN b.length
    · have : appL st b d = (141, st, d) := by unfold appL; rw [hst, if_neg (by decide), if_neg (by omega), if_pos hroom]
      rw [this]
      exact .inr (.inr ⟨by show (141 : Int) ≠ 0; decide, by show (141 : Int) ≠ 131; decide, h⟩)
    · obtain ⟨hpw, hrecs, hgood, hblank⟩ := h.live rfl
      have hn := h.n
      have hsp := spanN_pos hb
      have hle := hgood.le
      have hat : st.at' + spanN b.length ≤ 60 := by omega
      have hF := h.F
      have hdn := h.dn
      have hz := hblank (by omega)
      obtain ⟨t, ht⟩ : ∃ x, st.at' = x := ⟨_, rfl⟩
      rw [ht] at hgood hblank hat hle hz
      obtain ⟨WL, hWL⟩ : ∃ x, writesL st.fr st.at' st.n st.gen.toNat st.recs.length b = x := ⟨_, rfl⟩
      have hWL2 := hWL
      rw [h.fr, h.n, h.g, hrecs, ht] at hWL
      have h64 : ∀ (j : Nat) (p : Nat × List UInt8), WL[j]? = some p → p.2.length = 64 ∧ p.1 < d.n := fun j p hp => by
        rw [← hWL] at hp
        refine ⟨writes_64 hp, ?_⟩
        rcases writes_place hp with ⟨a1, a2⟩ | ⟨a1, a2, a3⟩ | ⟨a1, _, _, a3, _⟩ <;> omega
      have hap : ∀ (i j : Nat) (p q : Nat × List UInt8), i < j → WL[i]? = some p → WL[j]? = some q → p.1 ≠ q.1 := by rw [← hWL]; exact writes_apart hb
      have hlen : WL.length = spanN b.length - 1 + (if t + spanN b.length < 60 then 1 else 0) + 1 := by rw [← hWL]; exact writes_len
      have happ : appL st b d = if (runW WL d).1 = 0 then (0, st.took b, (runW WL d).2) else ((runW WL d).1, { st with br := true }, (runW WL d).2) := by
        unfold appL
        rw [hst, if_neg (by decide), if_neg (by omega), if_neg hroom, hWL2]
      have hsec0 : ∀ D : DSt, secF D 0 = fun i => D.sector i := fun D => by funext i; unfold secF; rw [Nat.zero_add]
      -- the chunks and the first sector are laid: the record is found
      have hrec : ∀ D : DSt, (∀ i, i < t → D.sector i = d.sector i) → D.sector t = firstL b gen.toNat done.length → (∀ i, i < spanN b.length - 1 → D.sector (t + (1 + i)) = padTo 64 (chunkAt 64 (b.drop (min 51 b.length)) i)) →
          Good (secF D 0) gen.toNat 60 (t + spanN b.length) (done ++ [b]) := fun D h1 h2 h3 => by
        have hg : Good (secF D 0) gen.toNat 60 t done := hgood.congr (fun i hi => by rw [hsec0, hsec0]; exact h1 i hi)
        have hdue : dueL gen.toNat done.length (secF D 0 t) (60 - t) = some b.length := by rw [hsec0]; show dueL _ _ (D.sector t) _ = _; rw [h2]; exact dueL_first hb (by omega)
        have := Good.snoc hg (by omega) hdue
        rw [body_rec (F := secF D 0) (by rw [hsec0]; exact h2) (fun i hi => by rw [hsec0]; exact h3 i hi) hb] at this
        exact this
      rcases runW_cases (l := WL) (d := d) WL.length (Nat.le_refl _) with hok | ⟨k, p, hk, hok, hp, hE⟩
      · obtain ⟨w1, w2, w3, w4⟩ := wS_sec hF hpw h64 WL.length (Nat.le_refl _) hok
        have hrun := runW_ok hok
        rw [hrun] at happ
        simp only [if_true] at happ
        rw [happ]
        have hw4 := w4 hap
        have hlast : (wS WL d WL.length).sector t = firstL b gen.toNat done.length := by
          have h1 := writes_last (fr := 0) (at' := t) (n := 60) (g := gen.toNat) (num := done.length) (b := b)
          rw [hWL] at h1
          have := hw4 _ _ (by omega) h1
          rwa [Nat.zero_add] at this
        have hch : ∀ i, i < spanN b.length - 1 → (wS WL d WL.length).sector (t + (1 + i)) = padTo 64 (chunkAt 64 (b.drop (min 51 b.length)) i) := fun i hi => by
          have h1 := writes_at (fr := 0) (at' := t) (n := 60) (g := gen.toNat) (num := done.length) hi
          rw [hWL] at h1
          have := hw4 _ _ (by omega) h1
          rwa [Nat.zero_add] at this
        have hold : ∀ i, i < t → (wS WL d WL.length).sector i = d.sector i := fun i hi => w3 i (by omega) (fun j p' _ hp' => by
          rw [← hWL] at hp'
          rcases writes_place hp' with ⟨a1, a2⟩ | ⟨a1, a2, a3⟩ | ⟨a1, _, _, a3, _⟩ <;> omega)
        refine .inl ⟨rfl, ⟨h.fr, h.n, h.g, by rw [(wS_cr WL d _).2.2, hdn], by rw [w1, (wS_cr WL d _).2.2], hst, fun _ => ⟨w2, by show st.recs ++ [b] = _; rw [hrecs], ?_, fun hlt => ?_⟩, fun h => by cases h⟩⟩
        · show Good _ _ _ (st.at' + spanN b.length) _
          rw [ht]
          exact hrec _ hold hlast hch
        · replace hlt : st.at' + spanN b.length < 60 := hlt
          show (wS WL d WL.length).sector (st.at' + spanN b.length) = _
          rw [ht] at hlt ⊢
          have h1 := writes_mid (fr := 0) (g := gen.toNat) (num := done.length) hlt
          rw [hWL] at h1
          have := hw4 _ _ (by omega) h1
          rwa [Nat.zero_add] at this
      · obtain ⟨w1, w2, w3, w4⟩ := wS_sec hF hpw h64 k (by omega) hok
        have hw4 := w4 hap
        have hwn := (wS_cr WL d k).2.2
        obtain ⟨hp64, hpn⟩ := h64 k p hp
        have htr : (wS WL d k).tears = true ∧ (wS WL d k).writeE (p.1 : Int) = 131 := by
          rcases write_live w2 (p := p.1) (by rw [hwn]; exact hpn) with h | h
          · exact absurd h.2 hE
          · exact h
        have hrun := runW_fail hok hp hE
        have hsec := fun q hq => write_sector (d := wS WL d k) (by rw [w1, hwn]) w2 (p := p.1) (q := q) hp64 (by rw [hwn]; exact hpn) (by rw [hwn]; exact hq)
        rw [hrun, htr.2] at happ
        simp only [if_neg (show ¬ ((131 : Int) = 0) by decide)] at happ
        rw [happ]
        obtain ⟨D, hD⟩ : ∃ x, (wS WL d k).write (p.1 : Int) p.2 = x := ⟨_, rfl⟩
        have hDn : D.n = d.n := by rw [← hD, (write_cr _ _ _).2.2, hwn]
        have hDF : D.F.length = d.n * 64 := by rw [← hD, write_len (by rw [w1, hwn]) _ _ hp64, hwn]
        rw [hD] at hsec ⊢
        refine .inr (.inl ⟨rfl, ⟨h.fr, h.n, h.g, by rw [hDn, hdn], by rw [hDF, hDn], rfl, fun h => (by cases h), fun _ => ?_⟩⟩)
        -- no place below t is written
        have hold : ∀ i, i < t → D.sector i = d.sector i := fun i hi => by
          have hpi : p.1 ≠ i := by
            rw [← hWL] at hp
            rcases writes_place hp with ⟨a1, a2⟩ | ⟨a1, a2, a3⟩ | ⟨a1, _, _, a3, _⟩ <;> omega
          rw [hsec i (by omega), if_neg (Ne.symm hpi)]
          exact w3 i (by omega) (fun j p' _ hp' => by
            rw [← hWL] at hp'
            rcases writes_place hp' with ⟨a1, a2⟩ | ⟨a1, a2, a3⟩ | ⟨a1, _, _, a3, _⟩ <;> omega)
        have hg : Good (secF D 0) gen.toNat 60 t done := hgood.congr (fun i hi => by rw [hsec0, hsec0]; exact hold i hi)
        have hnone : dueL gen.toNat done.length (D.sector t) (60 - t) = none → ∃ t' recs, openG (secF D 0) gen.toNat 60 60 0 [] = (t', recs) ∧ (recs = done ∨ recs = done ++ [b]) := fun hd =>
          ⟨t, done, hg.close (fun _ => by rw [hsec0]; exact hd), .inl rfl⟩
        have hp' := hp
        rw [← hWL] at hp'
        rcases writes_place hp' with ⟨a1, a2⟩ | ⟨a1, a2, a3⟩ | ⟨a1, a4, a5, a3, a6⟩
        · refine hnone ?_
          rw [hsec t (by omega), if_neg (by omega), w3 t (by omega) (fun j q hj hq => by
            rw [← hWL] at hq
            rcases writes_place hq with ⟨b1, b2⟩ | ⟨b1, b2, b3⟩ | ⟨b1, _, _, b3, _⟩ <;> omega), hz]
          exact dueL_zeros _ _ _
        · refine hnone ?_
          rw [hsec t (by omega), if_neg (by omega), w3 t (by omega) (fun j q hj hq => by
            rw [← hWL] at hq
            rcases writes_place hq with ⟨b1, b2⟩ | ⟨b1, b2, b3⟩ | ⟨b1, _, _, b3, _⟩ <;> omega), hz]
          exact dueL_zeros _ _ _
        · have hst0 : (wS WL d k).sector t = zeros 64 := by
            rw [w3 t (by omega) (fun j q hj hq => by
              have hne := hap j k q p hj hq hp
              omega), hz]
          have hDt := hsec t (by omega)
          rw [a3, if_pos rfl, htr.1, if_pos rfl, a6, hst0] at hDt
          have hk64 : (wS WL d k).keep ≤ 64 := by
            unfold DSt.keep
            split
            · exact Nat.le_refl _
            · unfold keepN; omega
          have hfl := firstL_length b gen.toNat done.length
          by_cases hc : (wS WL d k).keep < 64
          · refine hnone ?_
            rw [hDt, List.length_take, hfl, Nat.min_eq_left hk64]
            exact dueL_torn hc
          · rw [List.take_of_length_le (by omega), hfl, show (zeros 64).drop 64 = [] from rfl, List.append_nil] at hDt
            have hch : ∀ i, i < spanN b.length - 1 → D.sector (t + (1 + i)) = padTo 64 (chunkAt 64 (b.drop (min 51 b.length)) i) := fun i hi => by
              have h1 := writes_at (fr := 0) (at' := t) (n := 60) (g := gen.toNat) (num := done.length) hi
              rw [hWL] at h1
              have := hw4 _ _ (by omega) h1
              rw [hsec _ (by omega), if_neg (by omega)]
              rwa [Nat.zero_add] at this
            have hG := hrec D hold hDt hch
            refine ⟨t + spanN b.length, done ++ [b], hG.close (fun hlt => ?_), .inr rfl⟩
            have h1 := writes_mid (fr := 0) (g := gen.toNat) (num := done.length) hlt
            rw [hWL] at h1
            have hkk := (a5 hlt).1
            have hk2 := (a5 hlt).2
            have := hw4 _ _ (by omega) h1
            rw [Nat.zero_add] at this
            rw [hsec0]
            show dueL _ _ (D.sector (t + spanN b.length)) _ = _
            rw [hsec _ (by omega), if_neg (by omega)]
            rw [this]
            exact dueL_zeros _ _ _
/-- What is found at last. -/
theorem winv_end {gen : UInt32} {st : LSt} {d : DSt} {done : List (List UInt8)} {br : Bool} {next : List UInt8} (h : WInv gen st d done br next) :
    (openSt d.start 0 60 gen).recs = done ∨ (br = true ∧ (openSt d.start 0 60 gen).recs = done ++ [next]) := by
  show (openG (secF d 0) gen.toNat 60 60 0 []).2 = done ∨ _ ∧ (openG (secF d 0) gen.toNat 60 60 0 []).2 = done ++ [next]
  cases br with
  | true =>
    obtain ⟨t, recs, h1, h2⟩ := h.dead rfl
    rw [h1]
    exact h2.imp id (fun h => ⟨rfl, h⟩)
  | false =>
    obtain ⟨_, _, hg, hz⟩ := h.live rfl
    rw [hg.close (fun ht => by unfold secF; rw [Nat.zero_add, hz ht]; exact dueL_zeros _ _ _)]
    exact .inl rfl
end Go.Proofs.Ytdopaoajbjodeaa
