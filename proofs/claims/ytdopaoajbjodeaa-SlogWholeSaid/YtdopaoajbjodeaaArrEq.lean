/-
  '==' of arrays of integers that are alike; an operation of a drawn region that loads a whole array. Nothing here names the program.
-/
import Derived.Test.YtdopaoajbjodeaaArr
import Derived.Laws.StructEq
namespace Go.Proofs.Ytdopaoajbjodeaa
open Go.RowKit Go.Shelf

section
variable {P : Program} {w : World}
theorem run_part_int {e : TypeId} {k : IntKind} {xs : Array Value} {i : Nat} {v : Value} (he : P.underlying e = some (.int k)) (hi : xs[i]? = some v) : (part e xs i).run P w = .ok v w := by
  have hagg : (isAgg e).run P w = .ok false w := by
    unfold isAgg
    rw [Sem.run_bind, run_underlying he w]
    simp
  unfold part
  rw [Sem.run_bind, hagg]
  simp [hi]
theorem run_equalIn_arr {t e : TypeId} {n : Nat} {k : IntKind} (d : Nat) (xs : Array Value) (hu : P.underlying t = some (.array n e)) (he : P.underlying e = some (.int k)) (hs : (P.info? e).map (·.size) = some 1)
    (hx : ∀ i, i < n → ∃ a, xs[i]? = some (.int k a)) : (Op.equalIn (d + 1 + 1) t (.agg xs) (.agg xs)).run P w = .ok true w := by
  have hsz : (sizeOf e).run P w = .ok 1 w := by
    cases hq : P.info? e with
    | none => simp [hq] at hs
    | some i => simp [sizeOf, typeInfo, hq]; simpa [hq] using hs
  have hb : ∀ i, i < n → (part e xs (i * 1)).run P w = .ok (xs[i]?.getD undef) w ∧ (Op.equalIn (d + 1) e (xs[i]?.getD undef) (xs[i]?.getD undef)).run P w = .ok true w := fun i hi => by
    obtain ⟨a, ha⟩ := hx i hi
    rw [Nat.mul_one, ha]
    refine ⟨run_part_int he ha, ?_⟩
    have := run_equalIn_int (P := P) w d e k k a a he
    simpa using this
  rw [Op.equalIn]
  simp only [Sem.run_bind, run_underlying hu, Result.andThen_ok, hsz, Std.Legacy.Range.forIn_eq_forIn_range', Std.Legacy.Range.size, Nat.sub_zero, Nat.add_one_sub_one, Nat.div_one]
  have hL : ∀ L : List Nat, (∀ i ∈ L, i < n) → (forIn (m := Sem) L ((none, ()) : Option Bool × PUnit) fun i _ => do
      let __do_lift ← part e xs (i * 1)
      let __do_lift_1 ← part e xs (i * 1)
      let __do_lift ← Op.equalIn (d + 1) e __do_lift __do_lift_1
      if (!__do_lift) = true then pure (ForInStep.done (some false, ())) else pure (ForInStep.yield (none, ()))).run P w = .ok (none, ()) w := by
    intro L
    induction L with
    | nil => intro _; simp
    | cons i L ih =>
      intro hi
      obtain ⟨h1, h2⟩ := hb i (hi i List.mem_cons_self)
      simp only [List.forIn_cons, Sem.run_bind, h1, Result.andThen_ok, h2, Bool.not_true, Bool.false_eq_true, if_false, Sem.run_pure]
      exact ih (fun j hj => hi j (List.mem_cons_of_mem _ hj))
  rw [hL _ (fun i hi => by have := List.mem_range'.1 hi; omega)]
  simp
theorem run_eql_arr {t e : TypeId} {n : Nat} {k : IntKind} (xs : Array Value) (hu : P.underlying t = some (.array n e)) (he : P.underlying e = some (.int k)) (hs : (P.info? e).map (·.size) = some 1)
    (hx : ∀ i, i < n → ∃ a, xs[i]? = some (.int k a)) : (binOp .eql t (.agg xs) (.agg xs)).run P w = .ok (.bool true) w := by
  rw [run_eql_struct, show (10000 : Nat) = 9998 + 1 + 1 from rfl, run_equalIn_arr 9998 xs hu he hs hx]
  rfl
theorem exec_load_row {o : Oper} {a : Act} {ty : TypeId} {x : Operand} {g : Nat} {t : TypeId} {cs : Array Value} {fr : Nat × Nat} {d : TypeDesc} (ho : o.op = .load ty x) (hx : a.eval x = .pointer (some ⟨g, 0, none⟩)) (hg : w.heap[g]? = some (.cells cs t fr))
    (hu : P.underlying ty = some d) (hd : (match d with | .struct _ | .array _ _ => true | _ => false) = true) (hi : (P.info? ty).map (·.size) = some cs.size) : (execOp a.eval o).run P w = .ok (.value (.agg cs)) w := by
  unfold execOp
  simp only [ho, hx, Instr.loadAt, Instr.sureAddr, Sem.run_bind, Sem.run_pure, Result.andThen_ok, run_loadVar_row w g t ty cs fr d hg hu hd hi]
theorem exec_eql_arr {o : Oper} {a : Act} {t t' e : TypeId} {x y : Operand} {n : Nat} {k : IntKind} {xs : Array Value} (ho : o.op = .binOp .eql t x y t') (hx : a.eval x = .agg xs) (hy : a.eval y = .agg xs) (hu : P.underlying t = some (.array n e)) (he : P.underlying e = some (.int k)) (hs : (P.info? e).map (·.size) = some 1)
    (hm : P.eqGuardType P.depth t = false)
    (hv : ∀ i, i < n → ∃ a, xs[i]? = some (.int k a)) : (execOp a.eval o).run P w = .ok (.value (.bool true)) w := by
  unfold execOp
  simp only [ho, hx, hy, Sem.run_bind, run_eqGuard_agg (P := P) w .eql t x y xs xs hm, run_eql_arr xs hu he hs hv, Result.andThen_ok, Sem.run_pure]
end
section
variable {P : Program} {ops : Array Oper} {md : Region.Mode} {w0 : World} {tab : Nat → Kind} {Q : Exit → Act → World → Prop} {k : Nat} {facts : Nat → World → Prop} {a : Act} {o : Oper} {os : List Oper}
/-- A reading operation whose run is given. -/
theorem flow_v {v : Value} (ht : tab k = .reads) (hw : Region.wanted o (yielded ops a.tmps) = true) (h1 : ∀ w, Ext w0 w → (execOp a.eval o).run P w = .ok (.value v) w)
    (h : wpFlows P ops md tab Q os (k + 1) w0 facts (a.put o.dst v)) : wpFlows P ops md tab Q (o :: os) k w0 facts a := fun hi => by
  have hk : ops[k]? = some o := by simpa using hi 0
  refine flows_cons (o := o) ?_ hi
  unfold flowOp
  simp only [hk, ht]
  exact ⟨v, fun w hE => by unfold opIs; rw [if_pos hw]; exact .inl (h1 w hE), h⟩
end
end Go.Proofs.Ytdopaoajbjodeaa
