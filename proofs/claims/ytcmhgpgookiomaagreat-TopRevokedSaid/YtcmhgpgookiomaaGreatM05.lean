/-
  TopRevoked: copy into what the call owns, as an equation. Nothing here names the program.
-/
import Derived.Test.YtcmhgpgookiomaaGreatM04
import Derived.Laws.IdiomCopy
import Derived.Laws.CopyRow
namespace Go.Proofs.YtcmhgpgookiomaaGreat
open Go.RowKit

/-- xs, from 'off' on overwritten by cs. -/
def over (xs : List Value) (off : Nat) (cs : List Value) : List Value := xs.take off ++ cs ++ xs.drop (off + cs.length)

theorem run_copy_owned {P : Program} (w : World) {base e : Nat} {g n cap : Nat} {xs : List Value} (dT sT ty : TypeId) (hu : P.underlying dT = some (.slice e)) (hsz : (P.info? e).map (·.size) = some 1)
    (hown : w.ownsRow base e 1 (.slice (some ⟨g, 0, none⟩) n cap) n xs) {a : Option Addr} {m c : Nat} {cs : List Value} (hr : Row 1 w a m c cs) (h1 : ∀ v ∈ cs, v.oneCell' = true)
    (off dLen dCap : Nat) (hle : m ≤ dLen) (hfit : off + m ≤ n) :
    ∃ w', (Builtin.copy_ #[dT, sT] ty #[.slice (some ⟨g, off, none⟩) dLen dCap, .slice a m c]).run P w = .ok (.int .i64 (m : Int)) w' ∧
      w'.ownsRow base e 1 (.slice (some ⟨g, 0, none⟩) n cap) n (over xs off cs) ∧ w.grownBy w' (some g) := by
  have hcl : cs.length = m := by have := hr.2.2.1; simpa using this
  by_cases hm : m = 0
  · subst hm
    have hcs : cs = [] := List.eq_nil_of_length_eq_zero hcl
    subst hcs
    refine ⟨w, run_copy_none w dT sT ty e _ a dLen dCap 0 c hu hsz (by simp), ?_, ⟨rfl, rfl, rfl, Nat.le_refl _, fun _ _ _ => rfl⟩⟩
    simpa [over] using hown
  · obtain ⟨b, o2, rfl, hcell⟩ := hr.2.2.2.2 (by omega)
    rcases hown.2 with ⟨h', _⟩ | ⟨g', cap', cur, h', hb, hg, hnc, hcm, hcs, htake⟩
    · cases h'
    · cases h'
      have hcu : cur.size = cap := by simpa using hcs
      have hmin : cs.length = Nat.min m dLen := by rw [hcl]; exact (Nat.min_eq_left hle).symm
      have hrun := run_copy_row (P := P) w dT sT ty e g off dLen dCap ⟨b, o2, none⟩ m c cur e cs hu hsz hg hmin (fun j v hv => by rw [addr_add]; exact hcell j v hv) (by omega) h1
      rw [hcl] at hrun
      refine ⟨_, hrun, ?_, ?_⟩
      · have hlen := hown.1
        refine ⟨by simp [over, hcl] at hlen ⊢; omega, .inr ⟨g, cap, (cur.toList.take off ++ cs ++ cur.toList.drop (off + m)).toArray, rfl, hb, ?_, hnc, hcm, by simp [hcl]; omega, ?_⟩⟩
        · simp [World.setRow, Array.getElem?_modify, hg]
        · have hxs : xs = cur.toList.take n := by rw [← htake, Nat.mul_one]
          unfold over
          rw [hxs, Nat.mul_one, hcl]
          refine List.ext_getElem? fun j => ?_
          simp only [List.getElem?_take, List.getElem?_append, List.getElem?_drop, List.length_append, List.length_take, hcl, Array.length_toList]
          rw [Nat.min_eq_left (show off ≤ cur.size by omega), Nat.min_eq_left (show off ≤ min n cur.size by omega)]
          by_cases h1 : j < off
          · simp [h1, show j < n by omega, show j < off + m by omega]
          · by_cases h2 : j < off + m
            · simp [h1, h2, show j < n by omega]
            · have : off + m + (j - (off + m)) = j := by omega
              simp [h2, this]
      · exact ⟨rfl, rfl, rfl, by simp [World.setRow], fun k hk hne => setRow_other w g k _ (fun e => hne (by rw [e]))⟩
end Go.Proofs.YtcmhgpgookiomaaGreat
