/-
  The law LinesLongest.
-/
import Derived.Test.YthedpnnfkmbdpaaLinE
namespace Go.Proofs.Ythedpnnfkmbdpaa
open Go.RowKit Go.Shelf

/-- Pairs of numbers as cells. -/
def ipairC (p : Int × Int) : List Value := [.int .i64 p.1, .int .i64 p.2]
def ipairsC (l : List (Int × Int)) : List Value := l.flatMap ipairC
theorem ipairsC_get {l : List (Int × Int)} {k : Nat} {p : Int × Int} (h : l[k]? = some p) : (ipairsC l)[k * 2]? = some (.int .i64 p.1) ∧ (ipairsC l)[k * 2 + 1]? = some (.int .i64 p.2) := by
  induction l generalizing k with
  | nil => simp at h
  | cons q t ih =>
    rw [show ipairsC (q :: t) = .int .i64 q.1 :: .int .i64 q.2 :: ipairsC t from rfl]
    cases k with
    | zero => simp at h; subst h; simp
    | succ k =>
      have := ih (k := k) (by simpa using h)
      rw [show (k + 1) * 2 = k * 2 + 1 + 1 by omega]
      simpa using this

/-- The pairs from number k on, all behind i and j. -/
def GoodAt (a b : List ByteArray) (l : List (Int × Int)) (k : Nat) : Prop :=
  ∀ p, l[k]? = some p → 0 ≤ p.1 ∧ 0 ≤ p.2 ∧ (∃ x, a[p.1.toNat]? = some x ∧ b[p.2.toNat]? = some x) ∧ ∀ j q, k = j + 1 → l[j]? = some q → q.1 < p.1 ∧ q.2 < p.2
theorem rising_good (a b : List ByteArray) (l : List (Int × Int)) (h : ∀ k, k < l.length → GoodAt a b l k) : ∀ (n k i j : Nat), l.length - k = n → (∀ p, l[k]? = some p → (i : Int) ≤ p.1 ∧ (j : Int) ≤ p.2) →
    Rising a b i j ((l.drop k).map fun p => (p.1.toNat, p.2.toNat))
  | 0, k, i, j, hn, _ => by rw [List.drop_eq_nil_of_le (by omega)]; trivial
  | n + 1, k, i, j, hn, hij => by
    have hk : k < l.length := by omega
    rw [List.drop_eq_getElem_cons hk, List.map_cons]
    have h0 := List.getElem?_eq_getElem hk
    obtain ⟨h1, h2, h3, h4⟩ := h k hk _ h0
    obtain ⟨h5, h6⟩ := hij _ h0
    refine ⟨by show i ≤ (l[k]).1.toNat; omega, by show j ≤ (l[k]).2.toNat; omega, h3, ?_⟩
    refine rising_good a b l h n (k + 1) _ _ (by omega) (fun p hp => ?_)
    obtain ⟨hk1, hp2⟩ := List.getElem?_eq_some_iff.1 hp
    obtain ⟨_, _, _, h7⟩ := h (k + 1) hk1 p hp
    have := h7 k _ rfl h0
    constructor
    · show (((l[k]).1.toNat + 1 : Nat) : Int) ≤ p.1; omega
    · show (((l[k]).2.toNat + 1 : Nat) : Int) ≤ p.2; omega
theorem good_le (a b : List ByteArray) (l : List (Int × Int)) (h : ∀ k, k < l.length → GoodAt a b l k) : l.length ≤ (commonL a 0 b 0).length := by
  rw [commonL_length]
  have := rising_le a b _ 0 0 (rising_good a b l h l.length 0 0 0 (by omega) (fun p hp => by
    obtain ⟨hk1, _⟩ := List.getElem?_eq_some_iff.1 hp
    obtain ⟨h1, h2, _⟩ := h 0 hk1 p hp
    exact ⟨by omega, by omega⟩))
  simpa using this

set_option maxRecDepth 20000 in
set_option maxHeartbeats 8000000 in
theorem linesLongest_any (aA : Option Addr) (nA cA : Nat) (a : List ByteArray) (aB : Option Addr) (nB cB : Nat) (b : List ByteArray) (aL : Option Addr) (nL cL : Nat) (l : List (Int × Int)) (w : World)
    (hA : Row 1 w aA nA cA (a.map Value.string)) (hB : Row 1 w aB nB cB (b.map Value.string)) (hL : Row 2 w aL nL cL (ipairsC l)) (hll : l.length = nL) (hlb : ∀ p ∈ l, (-9223372036854775808 ≤ p.1 ∧ p.1 ≤ 9223372036854775807) ∧ (-9223372036854775808 ≤ p.2 ∧ p.2 ≤ 9223372036854775807)) :
    Calls Try.prog 3 #[.slice aA nA cA, .slice aB nB cB, .slice aL nL cL] w fun e w' => e = .returned (.bool true) ∧ Ext w w' := by
  have hla : a.length = nA := by have := hA.2.2.1; simpa using this
  have hlb' : b.length = nB := by have := hB.2.2.1; simpa using this
  have hcA := hA.1
  have hmA := hA.2.1
  have hcB := hB.1
  have hmB := hB.2.1
  have hcL := hL.1
  have hmL := hL.2.1
  unfold maxLen at hmA hmB hmL
  have HLA := Lib.hid hla
  have HLB := Lib.hid hlb'
  have HLL := Lib.hid hll
  clear hla hlb' hll
  refine calls_cps fun R hR => ?_
  go_enter Try.func3, Try.ntmps3
  go_wp2_with fail
  refine (awake25_any _).mono ?_; rintro e w1 ⟨rfl, e1⟩
  go_wp2_with fail
  refine (few25_any _ _ _ _ _ (hA.ext e1)).mono ?_; rintro e _ ⟨qa, rfl, hqa, rfl⟩
  cases qa with
  | false =>
    go_wp2
    exact ⟨rfl, e1⟩
  | true =>
    have hA24 : nA ≤ 24 := hqa rfl
    clear hqa
    go_wp2_with fail
    refine (few25_any _ _ _ _ _ (hB.ext e1)).mono ?_; rintro e _ ⟨qb, rfl, hqb, rfl⟩
    cases qb with
    | false =>
      go_wp2
      exact ⟨rfl, e1⟩
    | true =>
      have hB24 : nB ≤ 24 := hqb rfl
      clear hqb
      by_cases h30 : 30 < nL
      · go_wp2
        exact ⟨rfl, e1⟩
      · go_wp2
        go_loopw [26] (fun i wr => ∃ k : Nat, k ≤ nL ∧ i = .int .i64 k ∧ Hid (∀ m, m < k → GoodAt a b l m) ∧ Ext w wr) (fun i _ => nL - (intOf i).toNat)
        case atStart => exact ⟨0, by omega, rfl, Lib.hid (fun m hm => by omega), e1⟩
        case round =>
          obtain ⟨k, hk, rfl, HG, hE⟩ := hrel
          by_cases hlt : k < nL
          · have hkl : k < l.length := by have := HLL.out; omega
            have hpk := List.getElem?_eq_getElem hkl
            obtain ⟨g1, g2⟩ := ipairsC_get hpk
            have hbd := hlb _ (List.getElem_mem hkl)
            obtain ⟨bl, ol, rfl, hcl⟩ := hL.2.2.2.2 (by omega)
            have c1 := hE.cell (hcl _ _ g1)
            have c2 := hE.cell (hcl _ _ g2)
            rw [← Nat.add_assoc] at c2
            obtain ⟨p, hp⟩ : ∃ p, l[k] = p := ⟨_, rfl⟩
            obtain ⟨p1, p2⟩ := p
            rw [hp] at c1 c2 hbd hpk
            simp only at c1 c2 hbd
            obtain ⟨⟨b1, b2⟩, b3, b4⟩ := hbd
            clear g1 g2 hp
            go_wp2
            have hE2 : Ext w (wr.alloc (.cells #[.int .i64 p1, .int .i64 p2] 27)) := hE.alloc _
            obtain ⟨W2, hW2⟩ : ∃ W2, wr.alloc (.cells #[.int .i64 p1, .int .i64 p2] 27) = W2 := ⟨_, rfl⟩
            have hbox : W2.heap[wr.heap.size]? = some (.cells #[.int .i64 p1, .int .i64 p2] 27 (0, 0)) := by rw [← hW2]; exact World.alloc_heap_new wr _
            rw [hW2] at hE2 ⊢
            clear hW2
            have hD : ∀ g : At W2.drew, Ext W2 g.w := fun g => ((Keep.refl _ W2).drew).trans g.ext
            have d1 := fun g => cell_of_block ((hD g).block _ _ hbox (fun h => h)) 0
            have d2 := fun g => cell_of_block ((hD g).block _ _ hbox (fun h => h)) 1
            simp at d1 d2
            clear c1 c2
            by_cases hn1 : p1 < 0
            · skip
              refine wp_flow (fun _ => .reads) (by kernel_rfl) (by kernel_rfl) ?_
              repeat (first | (refine flow_r rfl rfl ?_; go_big_quiet_step (fail); refine wpQuiet_nil ?_) | (refine flow_s rfl rfl ?_; simp only [Act.put, List.setIfInBounds_toArray, List.set_cons_succ, List.set_cons_zero]))
              refine flow_end (fun wc hEc _ => ?_)
              have hEn := (hE2.drew).trans hEc
              clear d1 d2
              go_wp2
              try exact ⟨rfl, hEn⟩
            · skip
              by_cases hn2 : p2 < 0
              · skip
                refine wp_flow (fun _ => .reads) (by kernel_rfl) (by kernel_rfl) ?_
                repeat (first | (refine flow_r rfl rfl ?_; go_big_quiet_step (fail); refine wpQuiet_nil ?_) | (refine flow_s rfl rfl ?_; simp only [Act.put, List.setIfInBounds_toArray, List.set_cons_succ, List.set_cons_zero]))
                refine flow_end (fun wc hEc _ => ?_)
                have hEn := (hE2.drew).trans hEc
                clear d1 d2
                go_wp2
                try exact ⟨rfl, hEn⟩
              · skip
                obtain ⟨P1, rfl⟩ := Int.eq_ofNat_of_zero_le (show 0 ≤ p1 by omega)
                obtain ⟨P2, rfl⟩ := Int.eq_ofNat_of_zero_le (show 0 ≤ p2 by omega)
                by_cases ho1 : nA ≤ P1
                · skip
                  refine wp_flow (fun _ => .reads) (by kernel_rfl) (by kernel_rfl) ?_
                  repeat (first | (refine flow_r rfl rfl ?_; go_big_quiet_step (fail); refine wpQuiet_nil ?_) | (refine flow_s rfl rfl ?_; simp only [Act.put, List.setIfInBounds_toArray, List.set_cons_succ, List.set_cons_zero]))
                  refine flow_end (fun wc hEc _ => ?_)
                  have hEn := (hE2.drew).trans hEc
                  clear d1 d2
                  go_wp2
                  try exact ⟨rfl, hEn⟩
                · skip
                  by_cases ho2 : nB ≤ P2
                  · skip
                    refine wp_flow (fun _ => .reads) (by kernel_rfl) (by kernel_rfl) ?_
                    repeat (first | (refine flow_r rfl rfl ?_; go_big_quiet_step (fail); refine wpQuiet_nil ?_) | (refine flow_s rfl rfl ?_; simp only [Act.put, List.setIfInBounds_toArray, List.set_cons_succ, List.set_cons_zero]))
                    refine flow_end (fun wc hEc _ => ?_)
                    have hEn := (hE2.drew).trans hEc
                    clear d1 d2
                    go_wp2
                    try exact ⟨rfl, hEn⟩
                  · skip
                    obtain ⟨ba, oa, rfl, hca⟩ := hA.2.2.2.2 (by omega)
                    obtain ⟨bb, ob, rfl, hcb⟩ := hB.2.2.2.2 (by omega)
                    have hpa : P1 < a.length := by have := HLA.out; omega
                    have hpb : P2 < b.length := by have := HLB.out; omega
                    have d3 := fun g => (hE2.trans (hD g)).cell (hca P1 (.string a[P1]) (by simp [hpa]))
                    have d4 := fun g => (hE2.trans (hD g)).cell (hcb P2 (.string b[P2]) (by simp [hpb]))
                    have HSA : Hid (a[P1]? = some a[P1]) := List.getElem?_eq_getElem hpa
                    have HSB : Hid (b[P2]? = some b[P2]) := List.getElem?_eq_getElem hpb
                    have hbq := bytes_beq a[P1] b[P2]
                    obtain ⟨sa, hsa⟩ : ∃ sa, a[P1] = sa := ⟨_, rfl⟩
                    obtain ⟨sb, hsb⟩ : ∃ sb, b[P2] = sb := ⟨_, rfl⟩
                    simp only [hsa] at d3 HSA hbq
                    simp only [hsb] at d4 HSB hbq
                    clear hsa hsb hca hcb hpa hpb
                    by_cases hss : sa = sb
                    · skip
                      rw [decide_eq_true hss] at hbq
                      by_cases hk0 : k = 0
                      · skip
                        subst hk0
                        refine wp_flow (fun _ => .reads) (by kernel_rfl) (by kernel_rfl) ?_
                        repeat (first | (refine flow_r rfl rfl ?_; go_big_quiet_step (fail); refine wpQuiet_nil ?_) | (refine flow_s rfl rfl ?_; simp only [Act.put, List.setIfInBounds_toArray, List.set_cons_succ, List.set_cons_zero]))
                        refine flow_end (fun wc hEc _ => ?_)
                        have hEn := (hE2.drew).trans hEc
                        clear d1 d2 d3 d4
                        have HG' : Hid (∀ m, m < 0 + 1 → GoodAt a b l m) := fun m hm => by
                          by_cases h : m < 0
                          · exact HG.out m h
                          · obtain rfl : m = 0 := by omega
                            intro p hp
                            rw [hpk] at hp
                            cases hp
                            exact ⟨by show (0 : Int) ≤ (P1 : Int); omega, by show (0 : Int) ≤ (P2 : Int); omega, ⟨sa, by rw [Int.toNat_natCast]; exact HSA.out, by rw [Int.toNat_natCast, hss]; exact HSB.out⟩, fun j q hj => by omega⟩
                        clear HG hpk hbq hss hD hbox
                        go_wp2
                        go_roundw
                        case rel => exact ⟨0 + 1, by omega, by go_num, HG', hEn⟩
                        case measure => simp [intOf]; omega
                      · skip
                        obtain ⟨j, rfl⟩ : ∃ j, k = j + 1 := ⟨k - 1, by omega⟩
                        have hjj : ((j + 1 : Nat) : Int) - 1 = (j : Int) := by omega
                        have hjl : j < l.length := by omega
                        have hqk := List.getElem?_eq_getElem hjl
                        obtain ⟨g1, g2⟩ := ipairsC_get hqk
                        have HQ0 := Lib.hid hqk
                        obtain ⟨q, hq⟩ : ∃ q, l[j] = q := ⟨_, rfl⟩
                        obtain ⟨q1, q2⟩ := q
                        have HQ : Hid (l[j]? = some (q1, q2)) := by have := HQ0.out; rw [hq] at this; exact this
                        rw [hq] at g1 g2
                        have d5 := fun g => (hE2.trans (hD g)).cell (hcl _ _ g1)
                        have d6 := fun g => (hE2.trans (hD g)).cell (hcl _ _ g2)
                        simp only [← Nat.add_assoc] at d6
                        clear hq hqk HQ0 g1 g2 hjl hkl
                        by_cases hl1 : (P1 : Int) ≤ q1
                        · skip
                          refine wp_flow (fun _ => .reads) (by kernel_rfl) (by kernel_rfl) ?_
                          repeat (first | (refine flow_r rfl rfl ?_; go_big_quiet_step (fail); refine wpQuiet_nil ?_) | (refine flow_s rfl rfl ?_; simp only [Act.put, List.setIfInBounds_toArray, List.set_cons_succ, List.set_cons_zero]))
                          refine flow_end (fun wc hEc _ => ?_)
                          have hEn := (hE2.drew).trans hEc
                          clear d1 d2 d3 d4 d5 d6 hjj
                          go_wp2
                          try exact ⟨rfl, hEn⟩
                        · skip
                          by_cases hl2 : (P2 : Int) ≤ q2
                          · skip
                            refine wp_flow (fun _ => .reads) (by kernel_rfl) (by kernel_rfl) ?_
                            repeat (first | (refine flow_r rfl rfl ?_; go_big_quiet_step (fail); refine wpQuiet_nil ?_) | (refine flow_s rfl rfl ?_; simp only [Act.put, List.setIfInBounds_toArray, List.set_cons_succ, List.set_cons_zero]))
                            refine flow_end (fun wc hEc _ => ?_)
                            have hEn := (hE2.drew).trans hEc
                            clear d1 d2 d3 d4 d5 d6 hjj
                            go_wp2
                            try exact ⟨rfl, hEn⟩
                          · skip
                            refine wp_flow (fun _ => .reads) (by kernel_rfl) (by kernel_rfl) ?_
                            repeat (first | (refine flow_r rfl rfl ?_; go_big_quiet_step (fail); refine wpQuiet_nil ?_) | (refine flow_s rfl rfl ?_; simp only [Act.put, List.setIfInBounds_toArray, List.set_cons_succ, List.set_cons_zero]))
                            refine flow_end (fun wc hEc _ => ?_)
                            have hEn := (hE2.drew).trans hEc
                            clear d1 d2 d3 d4 d5 d6 hjj
                            have HG' : Hid (∀ m, m < j + 1 + 1 → GoodAt a b l m) := fun m hm => by
                              by_cases h : m < j + 1
                              · exact HG.out m h
                              · obtain rfl : m = j + 1 := by omega
                                intro p hp
                                rw [hpk] at hp
                                cases hp
                                exact ⟨by show (0 : Int) ≤ (P1 : Int); omega, by show (0 : Int) ≤ (P2 : Int); omega, ⟨sa, by rw [Int.toNat_natCast]; exact HSA.out, by rw [Int.toNat_natCast, hss]; exact HSB.out⟩, fun j' q hj hq => by
                                  obtain rfl : j' = j := by omega
                                  have h5 := HQ.out
                                  rw [h5] at hq
                                  cases hq
                                  exact ⟨by show q1 < (P1 : Int); omega, by show q2 < (P2 : Int); omega⟩⟩
                            clear HG hpk hbq hss hD hbox
                            go_wp2
                            go_roundw
                            case rel => exact ⟨j + 1 + 1, by omega, by go_num, HG', hEn⟩
                            case measure => simp [intOf]; omega
                    · skip
                      rw [decide_eq_false hss] at hbq
                      refine wp_flow (fun _ => .reads) (by kernel_rfl) (by kernel_rfl) ?_
                      repeat (first | (refine flow_r rfl rfl ?_; go_big_quiet_step (fail); refine wpQuiet_nil ?_) | (refine flow_s rfl rfl ?_; simp only [Act.put, List.setIfInBounds_toArray, List.set_cons_succ, List.set_cons_zero]))
                      refine flow_end (fun wc hEc _ => ?_)
                      have hEn := (hE2.drew).trans hEc
                      clear d1 d2 d3 d4
                      go_wp2
                      try exact ⟨rfl, hEn⟩
          · obtain rfl : k = nL := by omega
            have hfin := good_le a b l (fun m hm => HG.out m (by have := HLL.out; omega))
            rw [HLL.out] at hfin
            have hcom := common_any _ aA aB nA cA nB cB a b (hA.ext hE) (hB.ext hE) (by omega) (by omega)
            clear HG
            go_wp2_with fail
            refine hcom.mono ?_; rintro e w5 ⟨a5, c5, rfl, _, e5⟩
            have hEn := hE.trans e5
            clear hcom
            go_wp2
            exact ⟨rfl, hEn⟩
end Go.Proofs.Ythedpnnfkmbdpaa
