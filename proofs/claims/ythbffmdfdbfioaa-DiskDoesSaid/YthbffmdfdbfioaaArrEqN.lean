/-
  '!=' of arrays of integers that are alike. Nothing here names the program.
-/
import Derived.Test.YthbffmdfdbfioaaArrEq
namespace Go.Proofs.Ythbffmdfdbfioaa
open Go.RowKit Go.Shelf

section
variable {P : Program} {w : World}
theorem run_neq_arr {t e : TypeId} {n : Nat} {k : IntKind} (xs : Array Value) (hu : P.underlying t = some (.array n e)) (he : P.underlying e = some (.int k)) (hs : (P.info? e).map (·.size) = some 1)
    (hx : ∀ i, i < n → ∃ a, xs[i]? = some (.int k a)) : (binOp .neq t (.agg xs) (.agg xs)).run P w = .ok (.bool false) w := by
  rw [run_neq_struct, show (10000 : Nat) = 9998 + 1 + 1 from rfl, run_equalIn_arr 9998 xs hu he hs hx]
  rfl
theorem exec_neq_arr {o : Oper} {a : Act} {t t' e : TypeId} {x y : Operand} {n : Nat} {k : IntKind} {xs : Array Value} (ho : o.op = .binOp .neq t x y t') (hx : a.eval x = .agg xs) (hy : a.eval y = .agg xs) (hu : P.underlying t = some (.array n e)) (he : P.underlying e = some (.int k)) (hs : (P.info? e).map (·.size) = some 1)
    (hm : P.eqGuardType P.depth t = false)
    (hv : ∀ i, i < n → ∃ a, xs[i]? = some (.int k a)) : (execOp a.eval o).run P w = .ok (.value (.bool false)) w := by
  unfold execOp
  simp only [ho, hx, hy, Sem.run_bind, run_eqGuard_agg (P := P) w .neq t x y xs xs hm, run_neq_arr xs hu he hs hv, Result.andThen_ok, Sem.run_pure]
end
end Go.Proofs.Ythbffmdfdbfioaa
