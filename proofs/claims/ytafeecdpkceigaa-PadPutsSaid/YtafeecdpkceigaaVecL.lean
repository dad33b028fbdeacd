/-
  The law VecXors.
-/
import Derived.Test.YtafeecdpkceigaaVecJ
import Derived.Test.YtafeecdpkceigaaVecK
import Derived.Test.YtafeecdpkceigaaVecD
import Derived.Test.YtafeecdpkceigaaBytes
namespace Go.Proofs.Ytafeecdpkceigaa
open Go.RowKit Go.Shelf

/-- A slice that holds the bytes xs. -/
def Bs (xs : List UInt8) (v : Value) (w : World) : Prop := ∃ a c, v = .slice a xs.length c ∧ Row 1 w a xs.length c (xs.map u8v)
def SliceN (n : Nat) (v : Value) : Prop := ∃ a c, v = .slice a n c
theorem Bs.mono {xs : List UInt8} {v : Value} {w w' : World} (h : Bs xs v w) (hE : Ext w w') : Bs xs v w' := by
  obtain ⟨a, c, h1, h2⟩ := h
  exact ⟨a, c, h1, h2.ext hE⟩
theorem Bs.sh {xs : List UInt8} {v : Value} {w : World} (h : Bs xs v w) : SliceN xs.length v := by obtain ⟨a, c, h1, _⟩ := h; exact ⟨a, c, h1⟩
theorem Bs.of_own {xs : List UInt8} {w : World} {base n : Nat} {v : Value} (h : w.ownsRow base 5 1 v n (xs.map u8v)) (hn : xs.length = n) : Bs xs v w := by
  subst hn
  obtain ⟨a, c, h1, h2⟩ := owns_row h
  exact ⟨a, c, h1, h2⟩
/-- The value u. -/
def Is (u v : Value) (_ : World) : Prop := v = u
def IsSh (u v : Value) : Prop := v = u

def vecXorsTab (n : Nat) (X : List UInt8) (tX : ByteArray) (q : Bool) : Kind :=
  if n = 2 ∨ n = 6 then .grows (Bs X) (SliceN X.length) else if n = 3 ∨ n = 7 then .grows (Is (.string tX)) (IsSh (.string tX)) else if n = 12 then .grows (Is (.bool q)) (IsSh (.bool q)) else if n = 23 then .grows (Is (.bool true)) (IsSh (.bool true)) else .reads

set_option maxHeartbeats 2000000 in
theorem vecXors_any (a : Option Addr) (n1 c1 : Nat) (l : List UInt8) (b : Option Addr) (n2 c2 : Nat) (r : List UInt8) (w : World) (h1 : Row 1 w a n1 c1 (l.map u8v)) (h2 : Row 1 w b n2 c2 (r.map u8v)) :
    Calls Try.prog 8 #[.slice a n1 c1, .slice b n2 c2] w fun e w' => e = .returned (.bool true) ∧ Ext w w' := by
  have hl1 : l.length = n1 := by have := h1.2.2.1; simpa using this
  have hl2 : r.length = n2 := by have := h2.2.2.1; simpa using this
  have HL1 := Lib.hid hl1
  have HL2 := Lib.hid hl2
  have hc1 := h1.1
  have hm1 := h1.2.1
  have hc2 := h2.1
  have hm2 := h2.2.1
  unfold maxLen at hm1 hm2
  clear hl1 hl2
  by_cases hA : 500 < n1
  · refine calls_cps fun R hR => ?_
    go_enter Try.func8, Try.ntmps8
    go_wp2_with fail
    refine (awake01_any _).mono ?_; rintro e w1 ⟨rfl, e1⟩
    go_wp2
  · by_cases hB : 500 < n2
    · refine calls_cps fun R hR => ?_
      go_enter Try.func8, Try.ntmps8
      go_wp2_with fail
      refine (awake01_any _).mono ?_; rintro e w1 ⟨rfl, e1⟩
      go_wp2
      try exact ⟨rfl, e1⟩
    · refine calls_cps fun R hR => ?_
      go_enter Try.func8, Try.ntmps8
      go_wp2_with fail
      refine (awake01_any _).mono ?_; rintro e w1 ⟨rfl, e1⟩
      go_wp2_with fail
      obtain ⟨X, hX⟩ : ∃ X, xorL l r = X := ⟨_, rfl⟩
      obtain ⟨tX, htX⟩ : ∃ tX, (⟨X.toArray⟩ : ByteArray) = tX := ⟨_, rfl⟩
      obtain ⟨q, hq⟩ : ∃ q, decide (l = r) = q := ⟨_, rfl⟩
      have D1 : ∀ g : At w1.drew, Ext w g.w := fun g => (e1.drew).trans g.ext
      refine wp_flow (fun n => vecXorsTab n X tX q) (by kernel_rfl) (by kernel_rfl) ?_
      repeat (refine flow_r rfl rfl ?_; go_big_quiet_step (fail); refine wpQuiet_nil ?_)
      refine flow_g rfl rfl (by simp) ⟨_, none, 0, rfl⟩ (fun _ _ _ h hE => h.mono hE) (fun _ _ h => h.sh) (fun w2 hE2 _ => ?_) (fun v hv => ?_)
      · go_wp2_with fail
        have hD := e1.drew.trans hE2
        refine (xor_any _ _ _ _ _ _ l r _ (h1.ext hD) (h2.ext hD) (by omega) (by omega)).mono ?_
        rintro e w3 ⟨a', c', rfl, hown, hE3⟩
        rw [hX] at hown ⊢
        have hB : Bs X (.slice a' X.length c') w3 := Bs.of_own hown rfl
        go_wp2
      obtain ⟨av, cv, rfl⟩ := hv
      simp only [Act.put, List.setIfInBounds_toArray, List.set_cons_succ, List.set_cons_zero]
      refine flow_g rfl rfl (by simp) ⟨_, rfl⟩ (fun _ _ _ h hE => h) (fun _ _ h => h) (fun w2 hE2 hf => ?_) (fun v hv => ?_)
      · have hB2 : Bs X (.slice av X.length cv) w2 := hf 2 (by kernel_rfl)
        clear hf
        obtain ⟨_, _, e2, hrow⟩ := hB2
        cases e2
        have s1 := run_string_row (P := Try.prog) w2 31 9 5 Try.underlying31 Try.underlying5 Try.underlying9 hrow
        rw [htX] at s1
        go_wp2
        exact ⟨Keep.refl _ _, rfl⟩
      cases hv
      simp only [Act.put, List.setIfInBounds_toArray, List.set_cons_succ, List.set_cons_zero]
      repeat (refine flow_r rfl rfl ?_; go_big_quiet_step (fail); refine wpQuiet_nil ?_)
      refine flow_g rfl rfl (by simp) ⟨_, none, 0, rfl⟩ (fun _ _ _ h hE => h.mono hE) (fun _ _ h => h.sh) (fun w2 hE2 _ => ?_) (fun v hv => ?_)
      · go_wp2_with fail
        have hD := e1.drew.trans hE2
        refine (refXor_any _ _ _ _ _ _ l r _ (h1.ext hD) (h2.ext hD) (by omega) (by omega)).mono ?_
        rintro e w3 ⟨a', c', rfl, hown, hE3⟩
        rw [hX] at hown ⊢
        have hB : Bs X (.slice a' X.length c') w3 := Bs.of_own hown rfl
        go_wp2
      obtain ⟨aw, cw, rfl⟩ := hv
      simp only [Act.put, List.setIfInBounds_toArray, List.set_cons_succ, List.set_cons_zero]
      refine flow_g rfl rfl (by simp) ⟨_, rfl⟩ (fun _ _ _ h hE => h) (fun _ _ h => h) (fun w2 hE2 hf => ?_) (fun v hv => ?_)
      · have hB2 : Bs X (.slice aw X.length cw) w2 := hf 6 (by kernel_rfl)
        clear hf
        obtain ⟨_, _, e2, hrow⟩ := hB2
        cases e2
        have s1 := run_string_row (P := Try.prog) w2 31 9 5 Try.underlying31 Try.underlying5 Try.underlying9 hrow
        rw [htX] at s1
        go_wp2
        exact ⟨Keep.refl _ _, rfl⟩
      cases hv
      simp only [Act.put, List.setIfInBounds_toArray, List.set_cons_succ, List.set_cons_zero]
      repeat (refine flow_r rfl rfl ?_; go_big_quiet_step (fail); refine wpQuiet_nil ?_)
      refine flow_g rfl rfl (by simp) ⟨_, rfl⟩ (fun _ _ _ h hE => h) (fun _ _ h => h) (fun w2 hE2 hf => ?_) (fun v hv => ?_)
      · have hD := e1.drew.trans hE2
        have hc := equal_any _ _ _ _ _ _ l r _ (h1.ext hD) (h2.ext hD)
        rw [hq] at hc
        clear hf
        go_wp2_with fail
        refine hc.mono ?_
        rintro e w3 ⟨rfl, rfl⟩
        go_wp2
        exact ⟨Keep.refl _ _, rfl⟩
      cases hv
      simp only [Act.put, List.setIfInBounds_toArray, List.set_cons_succ, List.set_cons_zero]
      have s1 := fun g => run_string_row (P := Try.prog) (At.w g) 31 9 5 Try.underlying31 Try.underlying5 Try.underlying9 (h1.ext (D1 g))
      have s2 := fun g => run_string_row (P := Try.prog) (At.w g) 31 9 5 Try.underlying31 Try.underlying5 Try.underlying9 (h2.ext (D1 g))
      have hb : ((⟨l.toArray⟩ : ByteArray).toList == (⟨r.toArray⟩ : ByteArray).toList) = q := by rw [← hq, toList_mk, toList_mk]; by_cases h : l = r <;> simp [h]
      obtain ⟨tl, htl⟩ : ∃ tl, (⟨l.toArray⟩ : ByteArray) = tl := ⟨_, rfl⟩
      obtain ⟨tr, htr⟩ : ∃ tr, (⟨r.toArray⟩ : ByteArray) = tr := ⟨_, rfl⟩
      simp only [htl] at s1 hb
      simp only [htr] at s2 hb
      repeat (refine flow_r rfl rfl ?_; go_big_quiet_step (fail); refine wpQuiet_nil ?_)
      refine flow_g rfl rfl (by simp) ⟨_, rfl⟩ (fun _ _ _ h hE => h) (fun _ _ h => h) (fun w2 hE2 hf => ?_) (fun v hv => ?_)
      · have hD := e1.drew.trans hE2
        have hc := equal_any _ _ _ _ _ _ l l _ (h1.ext hD) (h1.ext hD)
        simp only [decide_true] at hc
        clear hf
        go_wp2_with fail
        refine hc.mono ?_
        rintro e w3 ⟨rfl, rfl⟩
        go_wp2
        exact ⟨Keep.refl _ _, rfl⟩
      cases hv
      simp only [Act.put, List.setIfInBounds_toArray, List.set_cons_succ, List.set_cons_zero]
      repeat (refine flow_r rfl rfl ?_; go_big_quiet_step (fail); refine wpQuiet_nil ?_)
      refine flow_end (fun w3 hE3 _ => ?_)
      have hfin := (e1.drew).trans hE3
      clear s1 s2
      go_wp2
      exact ⟨rfl, hfin⟩
end Go.Proofs.Ytafeecdpkceigaa
