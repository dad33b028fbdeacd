/-
  A map[int]bool that the call owns, as the set of its keys.
-/
import Derived.Test.YthedpnnfkmbdpaaBase
import Derived.Maps.Own
import Derived.Maps.OwnOps
import Derived.Maps.Views
namespace Go.Proofs.Ythedpnnfkmbdpaa
open Go.RowKit Go.Maps

theorem plainElem_bool_inv {H : Type} {P : Program} {e : TypeId} (he : P.underlying e = some .bool) {v : Value} {z : DataW H × List MemPlace} (h : plainElem P e v = some z) : ∃ x, v = .bool x ∧ z = (.lit (.bool x), []) := by
  unfold plainElem at h
  rw [he] at h
  cases v <;> simp at h
  exact ⟨_, rfl, h.symm⟩
theorem lookup_bool {H : Type} {P : Program} {w : World} {t k e : TypeId} {b n : Nat} {D : DataW H} (h : w.ownsMap P k (plainElem P e) b n D) (K : Keyed P k) (ht : P.underlying t = some (.map k e)) (he : P.underlying e = some .bool) (hz : (zeroValue e).run P w = .ok (.bool false) w)
    {key : Value} {kl : Lit} (hkey : keyOf P k key = some kl) : ∃ c, (Instr.lookup t (.map (some b)) key false).run P w = .ok (.bool c) w ∧ D.atKey kl (.lit (.bool false)) = .lit (.bool c) := by
  obtain ⟨v, ps, hrun, hv⟩ := h.lookup K ht hz (plainElem_bool he false) hkey
  obtain ⟨c, rfl, hc⟩ := plainElem_bool_inv he hv
  simp only [Prod.mk.injEq] at hc
  exact ⟨c, hrun, hc.1⟩

/-- Block B is a map of at most n entries: S says at which numbers it holds true; at no other it holds anything. -/
def BMap (P : Program) (k e : TypeId) (w : World) (B n : Nat) (S : Int → Bool) : Prop :=
  ∃ D : DataW Unit, w.ownsMap P k (plainElem P e) B n D ∧ IsMap D ∧ ∀ i : Int, D.atKey (.int .i64 i) (.lit (.bool false)) = .lit (.bool (S i))

section
variable {P : Program} {t k e : TypeId} {w : World} {B n : Nat} {S : Int → Bool}
theorem BMap.made (P : Program) (k e : TypeId) (w : World) : BMap P k e (w.alloc (.map #[] 0)) w.heap.size 0 (fun _ => false) := ⟨_, World.ownsMap_made _ _ _ _, isMap_empty, fun _ => rfl⟩
theorem BMap.kept {w' : World} {row : Option Nat} (h : BMap P k e w B n S) (hg : w.grownBy w' row) (hne : some B ≠ row) : BMap P k e w' B n S := by
  obtain ⟨D, h1, h2⟩ := h
  exact ⟨D, h1.kept hg hne, h2⟩
theorem BMap.block {X : Nat → Obj → Prop} {w' : World} (h : BMap P k e w B n S) (hk : Keep X w w') (hX : ∀ es c, ¬ X B (.map es c)) : BMap P k e w' B n S := by
  obtain ⟨D, ⟨es, clock, hb, rest⟩, h2⟩ := h
  exact ⟨D, ⟨es, clock, hk.block B _ hb (hX _ _), rest⟩, h2⟩
theorem BMap.ext {w' : World} (h : BMap P k e w B n S) (hk : Ext w w') : BMap P k e w' B n S := h.block hk (fun _ _ h => h)
theorem BMap.look (h : BMap P k e w B n S) (ht : P.underlying t = some (.map k e)) (hk : P.underlying k = some (.int .i64)) (he : P.underlying e = some .bool) (hz : (zeroValue e).run P w = .ok (.bool false) w) {i : Int} (hi : (Lit.int .i64 i).wf = true) :
    (Instr.lookup t (.map (some B)) (.int .i64 i) false).run P w = .ok (.bool (S i)) w := by
  obtain ⟨D, h1, _, h3⟩ := h
  obtain ⟨c, hrun, hat⟩ := lookup_bool h1 (int_keyed hk) ht he hz (keyOf_int_mk hk hi)
  rw [h3 i] at hat
  cases hat
  exact hrun
theorem BMap.put (h : BMap P k e w B n S) (ht : P.underlying t = some (.map k e)) (hk : P.underlying k = some (.int .i64)) (he : P.underlying e = some .bool) (hn : n < maxLen) {i : Int} (hi : (Lit.int .i64 i).wf = true) :
    ∃ w', (Instr.mapUpdate t (.map (some B)) (.int .i64 i) (.bool true)).run P w = .ok () w' ∧ BMap P k e w' B (n + 1) (fun j => j == i || S j) ∧ w.grownBy w' (some B) := by
  obtain ⟨D, h1, h2, h3⟩ := h
  obtain ⟨w', hrun, h4, h5⟩ := h1.update (int_keyed hk) ht hn (keyOf_int_mk hk hi) (plainElem_bool he true)
  refine ⟨w', hrun, ⟨_, h4, h2.put _ _, fun j => ?_⟩, h5⟩
  by_cases hj : j = i
  · subst hj
    rw [atKey_put_same h2 (show WideAt.IsKeyLit (.int .i64 j) from trivial)]; simp
  · rw [atKey_put_other (by simpa using hj), h3 j]
    have : (j == i) = false := by simpa using hj
    simp [this]
end
end Go.Proofs.Ythedpnnfkmbdpaa
