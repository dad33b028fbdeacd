/-
  Texts alike: tabulariumref01.SameTexts.
-/
import Derived.Test.YtafeecdpkceigaaVecD
import Derived.Test.YtafeecdpkceigaaFlow
import Derived.Test.YtafeecdpkceigaaBytes
namespace Go.Proofs.Ytafeecdpkceigaa
open Go.RowKit Go.Shelf

theorem sameTexts_any (a b : Option Addr) (n m c d : Nat) (xs ys : List (List UInt8)) (w : World) (hx : Texts w a n c xs) (hy : Texts w b m d ys) :
    Calls Try.prog 20 #[.slice a n c, .slice b m d] w fun e w' => e = .returned (.bool (decide (xs = ys))) ∧ Ext w w' := by
  obtain ⟨vx, hrx, hnx, hcx⟩ := hx
  obtain ⟨vy, hry, hny, hcy⟩ := hy
  have hmx := hrx.2.1
  have hnc := hrx.1
  unfold maxLen at hmx
  by_cases hne : n = m
  · subst hne
    have hb : ((n : Int) != (n : Int)) = false := by simp
    refine calls_cps fun R hR => ?_
    go_enter Try.func20, Try.ntmps20
    go_wp2
    go_loopw [13] (fun i wr => ∃ k : Nat, k ≤ n ∧ i = .int .i64 k ∧ (∀ j, j < k → xs[j]? = ys[j]?) ∧ Ext w wr) (fun i _ => n - (intOf i).toNat)
    case atStart => exact ⟨0, by omega, rfl, fun j hj => by omega, Keep.refl _ _⟩
    case round =>
      obtain ⟨k, hk, rfl, hj, hE⟩ := hrel
      have HJ := Lib.hid hj
      clear hj
      by_cases hlt : k < n
      · obtain ⟨ax, cx, hvx, hrowx⟩ := hcx k xs[k] (List.getElem?_eq_getElem (by omega))
        obtain ⟨ay, cy, hvy, hrowy⟩ := hcy k ys[k] (List.getElem?_eq_getElem (by omega))
        obtain ⟨bx, ox, rfl, hcellx⟩ := hrx.2.2.2.2 (by omega)
        obtain ⟨by', oy, rfl, hcelly⟩ := hry.2.2.2.2 (by omega)
        have hD : ∀ g : At wr.drew, Ext w g.w := fun g => (hE.drew).trans g.ext
        have c1 := fun g => (hD g).cell (hcellx k _ hvx)
        have c2 := fun g => (hD g).cell (hcelly k _ hvy)
        have s1 := fun g => run_string_row (P := Try.prog) g.w 31 9 5 Try.underlying31 Try.underlying5 Try.underlying9 (hrowx.ext (hD g))
        have s2 := fun g => run_string_row (P := Try.prog) g.w 31 9 5 Try.underlying31 Try.underlying5 Try.underlying9 (hrowy.ext (hD g))
        have hE' := hE.drew
        obtain ⟨tx, htx⟩ : ∃ tx, (⟨xs[k].toArray⟩ : ByteArray) = tx := ⟨_, rfl⟩
        obtain ⟨ty, hty⟩ : ∃ ty, (⟨ys[k].toArray⟩ : ByteArray) = ty := ⟨_, rfl⟩
        simp only [htx] at s1
        simp only [hty] at s2
        obtain ⟨lx, hlx⟩ : ∃ lx, xs[k].length = lx := ⟨_, rfl⟩
        obtain ⟨ly, hly⟩ : ∃ ly, ys[k].length = ly := ⟨_, rfl⟩
        simp only [hlx] at s1 c1
        simp only [hly] at s2 c2
        clear hcellx hcelly hcx hcy
        go_wp2
        refine wp_flow (fun _ => .reads) (by kernel_rfl) (by kernel_rfl) ?_
        repeat (refine flow_r rfl rfl ?_; go_big_quiet_step (fail); refine wpQuiet_nil ?_)
        refine flow_end (fun w1 hE1 _ => ?_)
        have hb : (tx.toList == ty.toList) = decide (xs[k] = ys[k]) := by rw [← htx, ← hty, toList_mk, toList_mk]; by_cases h : xs[k] = ys[k] <;> simp [h]
        rw [hb]
        clear s1 s2 c1 c2 hb
        by_cases he : xs[k] = ys[k]
        · have hd : decide (xs[k] = ys[k]) = true := by simp [he]
          rw [hd]
          go_wp2
          go_round
          case rel => exact ⟨k + 1, by omega, by go_num, fun j hj => by
              by_cases h : j < k
              · exact HJ.out j h
              · obtain rfl : j = k := by omega
                rw [List.getElem?_eq_getElem (by omega), List.getElem?_eq_getElem (by omega), he], hE'.trans hE1⟩
          case measure => simp [intOf]; omega
        · have hd : decide (xs[k] = ys[k]) = false := by simp [he]
          rw [hd]
          go_wp2
          have hf : decide (xs = ys) = false := by
            simp only [decide_eq_false_iff_not]
            rintro rfl
            exact he rfl
          try rw [hf]
          exact ⟨rfl, hE'.trans hE1⟩
      · have hf : decide (xs = ys) = true := by
          simp only [decide_eq_true_eq]
          refine List.ext_getElem? fun j => ?_
          by_cases h : j < k
          · exact HJ.out j h
          · rw [List.getElem?_eq_none (by omega), List.getElem?_eq_none (by omega)]
        rw [hf] at hR
        go_wp2
        exact ⟨rfl, hE⟩
  · have hb : ((n : Int) != (m : Int)) = true := by simp; omega
    refine calls_cps fun R hR => ?_
    go_enter Try.func20, Try.ntmps20
    have hf : decide (xs = ys) = false := by
      simp only [decide_eq_false_iff_not]
      rintro rfl
      exact hne (by omega)
    rw [hf] at hR
    go_wp2
    exact ⟨rfl, Keep.refl _ _⟩
end Go.Proofs.Ytafeecdpkceigaa
