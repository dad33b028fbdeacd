/-
  TopRevoked: Slices that are read ('Row'), slices of the call's own ('ownsRow'), append and make as equations, bytes and words as cells. Nothing here names the program. A literal's row. vec.Chunks and its iterator. vec.Words. tabulariumref01.Number and Put: numbers and their bytes, the lowest ahead. vec.Bytes. pad.Buckets, pad.Bucket, tabulariumref01.Bucket: the buckets' sizes.
-/
import Derived.Test.YtcmhgpgookiomaaGreatM01
import Derived.Laws.AppendOwnNone
import Derived.Laws.CopyOwn
import Derived.WalkSpells
import Derived.WalkLawsBesides
import Derived.WalkKit
import Derived.Lib.Hide
import Derived.Test.YtcmhgpgookiomaaGreatRows
import Derived.Laws.BitsAllLaws
namespace Go.Proofs.YtcmhgpgookiomaaGreat
open Go.RowKit

/-- The slice (a, n, c) of elements of sz cells holds the cells xs. -/
def Row (sz : Nat) (w : World) (a : Option Addr) (n c : Nat) (xs : List Value) : Prop :=
  n ≤ c ∧ c ≤ maxLen ∧ xs.length = n * sz ∧ (a = none → c = 0) ∧
  (0 < n → ∃ b off, a = some ⟨b, off, none⟩ ∧ ∀ i u, xs[i]? = some u → w.cell? ⟨b, off + i, none⟩ = some u)

section
variable {sz : Nat} {w : World} {a : Option Addr} {n c : Nat} {xs : List Value}
theorem addr_add (b off i : Nat) : (⟨b, off, none⟩ : Addr).add i = ⟨b, off + i, none⟩ := by unfold Addr.add; split <;> simp_all
theorem Row.keep {X : Nat → Obj → Prop} {w' : World} (h : Row sz w a n c xs) (hk : Keep X w w')
    (hX : ∀ p o, a = some p → w.heap[p.block]? = some o → o.isCells = true → ¬ X p.block o) : Row sz w' a n c xs := by
  refine ⟨h.1, h.2.1, h.2.2.1, h.2.2.2.1, fun hn => ?_⟩
  obtain ⟨b, off, rfl, hc⟩ := h.2.2.2.2 hn
  exact ⟨b, off, rfl, fun i u hu => hk.cell (hc i u hu) (fun o ho hcell => hX ⟨b, off, none⟩ o rfl ho hcell)⟩
theorem Row.ext {w' : World} (h : Row sz w a n c xs) (hk : Ext w w') : Row sz w' a n c xs := h.keep hk (fun _ _ _ _ _ h => h)
theorem Row.nil (sz : Nat) (w : World) : Row sz w none 0 0 [] := ⟨by simp, by simp [maxLen], by simp, by simp, by simp⟩
theorem Row.cut (h : Row sz w a n c xs) {lo hi : Nat} (h1 : lo ≤ hi) (h2 : hi ≤ n) :
    Row sz w (if c = lo then a else a.map (·.add (lo * sz))) (hi - lo) (c - lo) ((xs.drop (lo * sz)).take ((hi - lo) * sz)) := by
  obtain ⟨hnc, hm, hl, hnone, hc⟩ := h
  have e1 : (hi - lo) * sz = hi * sz - lo * sz := Nat.sub_mul _ _ _
  have e2 : hi * sz ≤ n * sz := Nat.mul_le_mul_right _ h2
  have e3 : lo * sz ≤ hi * sz := Nat.mul_le_mul_right _ h1
  refine ⟨by omega, by omega, by rw [List.length_take, List.length_drop, hl, e1]; omega, ?_, fun hn => ?_⟩
  · intro ha
    split at ha
    · have := hnone ha; omega
    · cases a with
      | none => have := hnone rfl; omega
      | some p => simp at ha
  · obtain ⟨b, off, rfl, hcell⟩ := hc (by omega)
    refine ⟨b, off + lo * sz, ?_, fun i u hu => ?_⟩
    · rw [if_neg (by omega), Option.map_some, addr_add]
    · rw [Nat.add_assoc]
      refine hcell (lo * sz + i) u ?_
      rw [List.getElem?_take] at hu
      split at hu
      · rw [List.getElem?_drop] at hu; exact hu
      · cases hu
theorem owns_row {base : Nat} {e : TypeId} {v : Value} (h : w.ownsRow base e sz v n xs) : ∃ a c, v = .slice a n c ∧ Row sz w a n c xs := by
  have hlen := h.1
  rcases h.2 with ⟨rfl, rfl⟩ | ⟨g, cap, cur, rfl, hb, hg, hnc, hcm, hcs, htake⟩
  · have hx : xs = [] := List.eq_nil_of_length_eq_zero (by simpa using hlen)
    subst hx
    exact ⟨none, 0, rfl, Row.nil _ _⟩
  · refine ⟨_, cap, rfl, hnc, hcm, hlen, by simp, fun _ => ⟨g, 0, rfl, fun i u hu => ?_⟩⟩
    have := h.cells (g := g) rfl i u hu
    rwa [addr_add] at this
theorem Row.cell (h : Row sz w a n c xs) {b off : Nat} (ha : a = some ⟨b, off, none⟩) {i : Nat} {u : Value} (hu : xs[i]? = some u) (hn : 0 < n) : w.cell? ⟨b, off + i, none⟩ = some u := by
  obtain ⟨b', off', ha', hc⟩ := h.2.2.2.2 hn
  rw [ha] at ha'; cases ha'
  exact hc i u hu
end

/-- A byte as a cell, a word as a cell. -/
def u8v (u : UInt8) : Value := .int .u8 (u.toNat : Int)
def u32v (u : UInt32) : Value := .int .u32 (u.toNat : Int)
theorem u8v_one (l : List UInt8) : ∀ u ∈ l.map u8v, u.oneCell' = true := by
  intro u hu
  obtain ⟨x, _, rfl⟩ := List.mem_map.1 hu
  rfl

/-- append onto what the call owns, whatever slice is appended. -/
theorem run_append_row {P : Program} (w : World) (base : Nat) (t ty e : TypeId) (z : Value) (size bytes : Nat) (ht : P.underlying t = some (.slice e))
    (hinfo : (P.info? e).map (fun i => (i.zero, i.size, i.bytes)) = some (some z, size, bytes)) (hzs : z.cells.size = size) (hsz : 0 < size)
    {v : Value} {n : Nat} {xs : List Value} (hown : w.ownsRow base e size v n xs) {a : Option Addr} {m c : Nat} {news : List Value} (hr : Row size w a m c news) (h1 : ∀ u ∈ news, u.oneCell' = true)
    (h63 : n + m ≤ maxLen) (hbytes : (n + m) * bytes ≤ 140737488355328) (hbase : base ≤ w.heap.size) :
    ∃ v' w', (Builtin.append_ #[t, t] ty #[v, .slice a m c]).run P w = .ok v' w' ∧ w'.ownsRow base e size v' (n + m) (xs ++ news) ∧ w.grownBy w' v.ownBlock ∧
      (v' = .slice none 0 0 ↔ v = .slice none 0 0 ∧ m = 0) := by
  obtain ⟨i, hi, hz, hs, hb⟩ := info_parts hinfo
  cases a with
  | none =>
    have hc := hr.2.2.2.1 rfl
    have hm : m = 0 := by have := hr.1; omega
    subst hc; subst hm
    have hn : news = [] := List.eq_nil_of_length_eq_zero (by simpa using hr.2.2.1)
    subst hn
    refine ⟨v, w, run_append_owned_none w base t ty e i size ht hi v n xs hown, by simpa using hown, ⟨rfl, rfl, rfl, Nat.le_refl _, fun _ _ _ => rfl⟩, by simp⟩
  | some p =>
    refine run_append_own (P := P) w base t ty e i z size bytes ht hi hz hs hb hzs hsz v n xs hown p m c news hr.2.2.1 ?_ h1 h63 hbytes hbase
    intro j u hu
    by_cases hm : 0 < m
    · obtain ⟨b, off, hp, hcell⟩ := hr.2.2.2.2 hm
      cases hp
      rw [addr_add]; exact hcell j u hu
    · have hn : news = [] := List.eq_nil_of_length_eq_zero (by have := hr.2.2.1; simp [show m = 0 by omega] at this; simpa using this)
      subst hn; simp at hu

section
variable {P : Program} {w w' : World} {ops : Array Oper} {rest : List Oper} {o : Oper} {a : Act} {Q : Exit → Act → World → Prop} {s x : Operand} {t1 t2 : TypeId} {v xv v' : Value}
/-- The append at the head of the walk, its run known. -/
theorem wpList_append_run (hrun : (Builtin.append_ #[t1, t2] o.type #[v, xv]).run P w = .ok v' w') (hgd : o.guard = none)
    (ho : o.op = .call { callee := .builtin .append, args := #[s, x], argTypes := #[t1, t2] }) (hs : a.eval s = v) (hx : a.eval x = xv)
    (h : wpList P ops Q rest (a.put o.dst v') w') : wpList P ops Q (o :: rest) a w := by
  refine wpList_plain hgd fun K hK => ?_
  unfold Oper.wp
  simp [execOp, ho, resolve, invoke, builtin, hs, hx, hrun, Result.andThen]
  exact hK _ _ h
theorem wpListIn_append_run {F : Fence} {n : Nat} (hrun : (Builtin.append_ #[t1, t2] o.type #[v, xv]).run P w = .ok v' w') (hgd : o.guard = none)
    (ho : o.op = .call { callee := .builtin .append, args := #[s, x], argTypes := #[t1, t2] }) (hs : a.eval s = v) (hx : a.eval x = xv)
    (h : wpListIn F n P ops Q rest (a.put o.dst v') w') : wpListIn F n P ops Q (o :: rest) a w := by
  refine wpListIn_plain hgd fun K hK => ?_
  unfold Oper.wpIn
  refine ⟨?_, ?_⟩
  · simp [Oper.about, ho, resolve, Target.leads, Sem.run_pure]
  · rw [Oper.semAt_plain F _ _ (by rw [ho]; intro c hc'; cases hc')]
    simp [execOp, ho, resolve, invoke, builtin, hs, hx, hrun, Result.andThen]
    exact hK _ _ h
end

/-- 'out = append(out, ..)' where out lies in a box. W0: the world with the block of what is appended; w1: behind the append. -/
theorem box_append {X : Nat → Obj → Prop} {W W0 w1 : World} {base B : Nat} {t e : TypeId} {sz k m : Nat} {v v' : Value} {xs ys : List Value}
    (hv : Boxed W B t v) (hte : t ≠ e) (hrow : W.ownsRow base e sz v k xs) (hE : Ext W W0) (hown' : w1.ownsRow base e sz v' m ys) (hgrow : W0.grownBy w1 v.ownBlock)
    (hXB : X B (.cells #[v] t (0, 0))) (hXr : ∀ g cur, v.ownBlock = some g → X g (.cells cur e (0, 0))) :
    Boxed w1 B t v ∧ Boxed (w1.setCell ⟨B, 0, none⟩ v') B t v' ∧ (w1.setCell ⟨B, 0, none⟩ v').ownsRow base e sz v' m ys ∧ Keep X W (w1.setCell ⟨B, 0, none⟩ v') := by
  have hv0 := hE.boxed hv
  have hv1 : Boxed w1 B t v := hv0.kept hgrow (hv.not_row hte hrow)
  refine ⟨hv1, hv1.set v', hown'.kept (grownBy_setCell' w1 B v') (.inr (hv1.not_row hte hown').symm), ?_⟩
  refine ((Keep.of_ext hE).grown hgrow (fun g o hg ho => ?_)).setCell _ _ (fun o ho => ?_)
  · rcases hrow.2 with ⟨rfl, _⟩ | ⟨g', cap, cur, rfl, _, hgb, _⟩
    · simp [Value.ownBlock] at hg
    · obtain rfl : g' = g := by simpa [Value.ownBlock] using hg
      rw [hgb] at ho; cases ho; exact hXr _ _ rfl
  · rw [show W.heap[B]? = _ from hv] at ho; cases ho; exact hXB

theorem Keep.owns' {X : Nat → Obj → Prop} {A B : World} {base n sz : Nat} {e : TypeId} {v : Value} {xs : List Value} (h : Keep X A B) (ho : A.ownsRow base e sz v n xs)
    (hX : ∀ k cur, v.ownBlock = some k → ¬ X k (.cells cur e (0, 0))) : B.ownsRow base e sz v n xs := by
  refine ⟨ho.1, ?_⟩
  rcases ho.2 with hn | ⟨g, cap, cur, rfl, hb, hg, rest⟩
  · exact .inl hn
  · exact .inr ⟨g, cap, cur, rfl, hb, h.block g _ hg (hX g _ rfl), rest⟩



/-- string(b). -/
theorem run_string_row {P : Program} (w : World) (src dst e : TypeId) (hs : P.underlying src = some (.slice e)) (he : P.underlying e = some (.int .u8)) (hd : P.underlying dst = some .string)
    {a : Option Addr} {n c : Nat} {l : List UInt8} (hr : Row 1 w a n c (l.map u8v)) : (convert src dst (.slice a n c)).run P w = .ok (.string ⟨l.toArray⟩) w := by
  have hl : l.length = n := by have := hr.2.2.1; simpa using this
  cases a with
  | none =>
    have hc := hr.2.2.2.1 rfl
    have hm : n = 0 := by have := hr.1; omega
    subst hm
    obtain rfl : l = [] := List.eq_nil_of_length_eq_zero hl
    subst hc; exact run_convert_bytes_nil w src e hs he 0 0 dst hd
  | some p =>
    subst hl
    refine run_convert_bytes_back w src dst e p c l hs he hd ?_
    intro j hj
    obtain ⟨b, off, hp, hcell⟩ := hr.2.2.2.2 (by omega)
    cases hp
    rw [addr_add]
    exact hcell j _ (by simp [hj, u8v])
end Go.Proofs.YtcmhgpgookiomaaGreat
namespace Go.Proofs.YtcmhgpgookiomaaGreat
open Go.RowKit Go.Shelf

theorem lit_row {base : Nat} (w : World) (e : TypeId) (cs : Array Value) (n : Nat) (hm : n ≤ maxLen) (hs : cs.size = n) (hb : base ≤ w.heap.size) :
    (w.alloc (.cells cs e)).ownsRow base e 1 (.slice (some ⟨w.heap.size, 0, none⟩) n n) n cs.toList ∧ Row 1 (w.alloc (.cells cs e)) (some ⟨w.heap.size, 0, none⟩) n n cs.toList := by
  have h := World.ownsRow_lit (base := base) (e := e) (size := 1) w cs n hb hm (by simpa using hs)
  obtain ⟨_, _, h1, h2⟩ := owns_row h
  cases h1
  exact ⟨h, h2⟩

end Go.Proofs.YtcmhgpgookiomaaGreat
namespace Go.Proofs.YtcmhgpgookiomaaGreat
open Go.RowKit Go.Shelf
attribute [local go_sem] Oper.semAt_some



theorem info_u8 : (Tryz.prog.info? 5).map (fun i => (i.zero, i.size, i.bytes)) = some (some (.int .u8 0), 1, 1) := by kernel_rfl



end Go.Proofs.YtcmhgpgookiomaaGreat
namespace Go.Proofs.YtcmhgpgookiomaaGreat
open Go.RowKit Go.Shelf
attribute [local go_sem] Oper.semAt_some

theorem info_u32 : (Tryz.prog.info? 22).map (fun i => (i.zero, i.size, i.bytes)) = some (some (.int .u32 0), 1, 4) := by kernel_rfl

end Go.Proofs.YtcmhgpgookiomaaGreat
namespace Go.Proofs.YtcmhgpgookiomaaGreat
open Go.RowKit Go.Shelf




/-- The lowest k bytes of n, the lowest ahead. -/
def putL (n k : Nat) : List UInt8 := (List.range k).map fun i => UInt8.ofNat (n / 2 ^ (8 * i))
theorem putL_length (n k : Nat) : (putL n k).length = k := by simp [putL]

end Go.Proofs.YtcmhgpgookiomaaGreat
namespace Go.Proofs.YtcmhgpgookiomaaGreat
open Go.RowKit Go.Shelf

/-- The bytes of words. -/
def bytesOf (ws : List UInt32) : List UInt8 := ws.flatMap fun x => putL x.toNat 4
theorem bytesOf_snoc (ws : List UInt32) (x : UInt32) : bytesOf (ws ++ [x]) = bytesOf ws ++ putL x.toNat 4 := by simp [bytesOf, List.flatMap_append]

set_option maxRecDepth 20000 in
set_option maxHeartbeats 1000000 in
theorem bytes_any (a : Option Addr) (n c : Nat) (ws : List UInt32) (w : World) (hr : Row 1 w a n c (ws.map u32v)) (hn : n ≤ 4294967296) :
    Calls Tryz.prog 150 #[.slice a n c] w fun e w' => ∃ a' c', e = .returned (.slice a' (4 * n) c') ∧ w'.ownsRow w.heap.size 5 1 (.slice a' (4 * n) c') (4 * n) ((bytesOf ws).map u8v) ∧ Ext w w' := by
  have hll : ws.length = n := by have := hr.2.2.1; simpa using this
  have hmx := hr.2.1
  have hnc := hr.1
  obtain ⟨i0, hi, hz0, hz1, hz2⟩ := info_parts info_u8
  refine calls_cps fun R hR => ?_
  go_enter Tryz.func150, Tryz.ntmps150
  go_wp2_with (at_make; go_must (refine wpList_make_own _ rfl _ _ 26 rfl w.heap.size 5 i0 _ 1 Tryz.underlying26 hi hz0 hz1 .i64 .i64 _ (4 * n) rfl rfl (by omega) (by rw [hz2]; omega) (by unfold maxLen; omega) (Nat.le_refl _) ?_); intro w1 hown1 hgrow1)
  go_loopw [3, 12] (fun out i wr => ∃ (k : Nat) (ao : Option Addr) (co : Nat), k ≤ n ∧ i = .int .i64 k ∧ out = .slice ao (4 * k) co ∧ wr.ownsRow w.heap.size 5 1 (.slice ao (4 * k) co) (4 * k) ((bytesOf (ws.take k)).map u8v) ∧ Ext w wr) (fun _ i _ => n - (intOf i).toNat)
  case atStart => exact ⟨0, _, _, by omega, rfl, rfl, hown1, Keep.of_grownBy hgrow1 (fun k o h _ => by cases h)⟩
  case round =>
    obtain ⟨k, ao, co, hk, rfl, rfl, hown, hE⟩ := hrel
    unfold maxLen at hmx
    by_cases hlt : k < n
    · have hkl : k < ws.length := by omega
      obtain ⟨ba, oa, rfl, hca⟩ := hr.2.2.2.2 (by omega)
      have c1 := hE.cell (hca k (u32v ws[k]) (by simp [hkl]))
      have htk : ws.take (k + 1) = ws.take k ++ [ws[k]] := by rw [List.take_add_one, List.getElem?_eq_getElem hkl]; rfl
      obtain ⟨x, hx⟩ : ∃ x, (ws[k]).toNat = x := ⟨_, rfl⟩
      have hxb := (ws[k]).toNat_lt
      rw [hx] at hxb
      have hput : (putL (ws[k]).toNat 4).map u8v = [.int .u8 ((x : Int) % 256), .int .u8 ((x : Int) / 256 % 256), .int .u8 ((x : Int) / 65536 % 256), .int .u8 ((x : Int) / 16777216)] := by
        rw [hx]
        simp only [putL, List.range, List.range.loop, List.map_cons, List.map_nil, u8v, UInt8.toNat_ofNat']
        simp only [Nat.reduceMul, Nat.reducePow, Nat.pow_zero, Nat.div_one, List.cons.injEq, Value.int.injEq, true_and, and_true]
        omega
      simp only [u32v, hx] at c1
      have hsrc := (lit_row (base := 0) wr 5 #[.int .u8 ((x : Int) % 256), .int .u8 ((x : Int) / 256 % 256), .int .u8 ((x : Int) / 65536 % 256), .int .u8 ((x : Int) / 16777216)] 4 (by simp [maxLen]) rfl (Nat.zero_le _)).2
      obtain ⟨v', w', hrun, hown', hgrow, _⟩ := run_append_row (wr.alloc (.cells #[.int .u8 ((x : Int) % 256), .int .u8 ((x : Int) / 256 % 256), .int .u8 ((x : Int) / 65536 % 256), .int .u8 ((x : Int) / 16777216)] 5)) w.heap.size 26 26 5 _ 1 1 Tryz.underlying26 info_u8 rfl (by decide) (hown.alloc _) hsrc (by simp [Value.oneCell']) (by unfold maxLen; omega) (by omega) (by have := hE.size; simp; omega)
      have hEw : Ext w w' := Ext.of_below (((Ext.below hE).alloc hE.size _).grown hgrow (by have := hE.size; simp; omega) (fun g hg => (hown.lt g hg).1))
      rw [show 4 * k + 4 = 4 * (k + 1) by omega] at hown'
      obtain ⟨a2, c2, rfl, _⟩ := owns_row hown'
      rw [show (#[Value.int .u8 ((x : Int) % 256), .int .u8 ((x : Int) / 256 % 256), .int .u8 ((x : Int) / 65536 % 256), .int .u8 ((x : Int) / 16777216)] : Array Value).toList = (putL (ws[k]).toNat 4).map u8v from hput.symm, ← List.map_append, ← bytesOf_snoc, ← htk] at hown'
      have Hrun := Lib.hid hrun
      clear hrun hsrc hput htk hx hca
      go_wp2_with (at_builtin; go_must (refine wpList_append_run Hrun.out rfl rfl rfl rfl ?_))
      go_roundw
      case rel => exact ⟨k + 1, _, _, by omega, by go_num, rfl, hown', hEw⟩
      case measure => simp [intOf]; omega
    · obtain rfl : k = n := by omega
      rw [List.take_of_length_le (by omega)] at hown
      go_wp2
      exact ⟨_, _, rfl, hown, hE⟩
end Go.Proofs.YtcmhgpgookiomaaGreat
namespace Go.Proofs.YtcmhgpgookiomaaGreat
open Go.RowKit Go.Shelf
attribute [local go_sem] Oper.semAt_some

/-- The k-th bucket. -/
def bkt (k : Nat) : Int := 32 * 2 ^ k
theorem bkt_succ (k : Nat) : bkt (k + 1) = bkt k * 2 := by unfold bkt; rw [Int.pow_succ]; omega
theorem bkt_zero : bkt 0 = 32 := rfl
theorem bkt_pos (k : Nat) : 32 ≤ bkt k := by
  induction k with
  | zero => rw [bkt_zero]; omega
  | succ k ih => rw [bkt_succ]; omega
theorem bkt_11 : bkt 11 = 65536 := rfl
theorem bkt_12 : bkt 12 = 131072 := rfl
theorem bkt_mono {j k : Nat} (h : j ≤ k) : bkt j ≤ bkt k := by
  induction h with
  | refl => omega
  | @step m h ih => rw [bkt_succ]; have := bkt_pos m; omega
theorem bkt_lt {k : Nat} (h : k < 12) : bkt k ≤ 65536 := by have := bkt_mono (show k ≤ 11 by omega); rw [bkt_11] at this; omega

set_option maxHeartbeats 1000000 in
theorem buckets1_iter : Iter Tryz.prog 145 #[] 12 False (fun k _ args => args = #[.int .i64 (bkt k)]) (fun _ => True) (fun _ => False) (fun _ => False) := by
  intro l J Jx W _ _ _ hY _ h0
  refine callsIn_wide.1 (callsIn_of_wp (F := Fence.wide) (n := 3) Tryz.func145 rfl trivial ?_ rfl)
  simp only [Tryz.ntmps145, List.size_toArray, List.length_cons, List.length_nil, Nat.reduceAdd, Nat.reduceSub, Array.replicate_succ, Array.replicate_zero, List.push_toArray, List.append_toArray, List.nil_append, List.cons_append]
  gi_wp2
  gi_loopw [2] (fun p wr => ∃ k : Nat, k ≤ 12 ∧ p = .int .i64 (bkt k) ∧ J k wr) (fun p _ => 131072 - (intOf p).toNat)
  case atStart => exact ⟨0, by omega, rfl, h0⟩
  case round =>
    obtain ⟨k, hk, rfl, hJk⟩ := hrel
    have hp := bkt_pos k
    by_cases hlt : k < 12
    · have hle := bkt_lt hlt
      obtain ⟨fn, tmps, assign, body, hy, hR⟩ := hY k wr _ hlt hJk rfl
      gi_wp2
      refine (roundIn_wide hR).mono ?_
      rintro e W3 (⟨rfl, hJ3, _⟩ | ⟨rfl, hJx3⟩)
      · gi_wp2
        go_roundw
        case rel => exact ⟨k + 1, by omega, by rw [bkt_succ], hJ3⟩
        case measure => simp [intOf]; omega
      · gi_wp2
        refine bodyPost_ret (results_none rfl _ _ _) rfl ?_
        exact ⟨⟨_, rfl⟩, .inr ⟨k, hlt, hJx3⟩⟩
    · obtain rfl : k = 12 := by omega
      have h12 : ¬ bkt 12 ≤ 65536 := by rw [bkt_12]; omega
      gi_wp2
      go_end0
      exact ⟨⟨_, rfl⟩, .inl hJk⟩

/-- The bucket of a length. -/
def bucket (n : Int) : Int :=
  if n < 0 ∨ 65532 < n then 0 else if n ≤ 28 then 32 else if n ≤ 60 then 64 else if n ≤ 124 then 128 else if n ≤ 252 then 256 else if n ≤ 508 then 512 else if n ≤ 1020 then 1024
  else if n ≤ 2044 then 2048 else if n ≤ 4092 then 4096 else if n ≤ 8188 then 8192 else if n ≤ 16380 then 16384 else if n ≤ 32764 then 32768 else 65536
theorem bkt_vals : bkt 0 = 32 ∧ bkt 1 = 64 ∧ bkt 2 = 128 ∧ bkt 3 = 256 ∧ bkt 4 = 512 ∧ bkt 5 = 1024 ∧ bkt 6 = 2048 ∧ bkt 7 = 4096 ∧ bkt 8 = 8192 ∧ bkt 9 = 16384 ∧ bkt 10 = 32768 ∧ bkt 11 = 65536 := by decide
set_option maxHeartbeats 2000000 in
theorem bucket_of {n : Int} {k : Nat} (h0 : 0 ≤ n) (h1 : n ≤ 65532) (hk : k < 12) (hle : n ≤ bkt k - 4) (hlt : ∀ j, j < k → bkt j - 4 < n) : bucket n = bkt k := by
  obtain ⟨b0, b1, b2, b3, b4, b5, b6, b7, b8, b9, b10, b11⟩ := bkt_vals
  unfold bucket
  rw [if_neg (by omega)]
  have hlast : k = 0 ∨ bkt (k - 1) - 4 < n := by
    by_cases hz : k = 0
    · exact .inl hz
    · exact .inr (hlt (k - 1) (by omega))
  rcases (show k = 0 ∨ k = 1 ∨ k = 2 ∨ k = 3 ∨ k = 4 ∨ k = 5 ∨ k = 6 ∨ k = 7 ∨ k = 8 ∨ k = 9 ∨ k = 10 ∨ k = 11 by omega) with rfl | rfl | rfl | rfl | rfl | rfl | rfl | rfl | rfl | rfl | rfl | rfl <;>
    simp only [Nat.reduceSub, Nat.succ_ne_self, b0, b1, b2, b3, b4, b5, b6, b7, b8, b9, b10, b11, Nat.reduceEqDiff, false_or, true_or] at hle hlast ⊢ <;>
    (repeat (first | rw [if_pos (by omega)] | rw [if_neg (by omega)]))

theorem buckets_any (w : World) : Calls Tryz.prog 115 #[] w fun e w' => e = .returned (.func (.func 145) #[] #[]) ∧ w = w' := by
  go_enter Tryz.func115, Tryz.ntmps115
  go_wp2
  go_ret
  exact ⟨rfl, rfl⟩


set_option maxHeartbeats 1000000 in
theorem bucket_in_any (n : Int) (w : World) (h0 : 0 ≤ n) (h1 : n ≤ 65532) : Calls Tryz.prog 122 #[.int .i64 n] w fun e w' => e = .returned (.int .i64 (bucket n)) ∧ Ext w w' := by
  have bN := Boxed.new w 3 (.int .i64 n)
  have bF := Boxed.new (w.alloc (.cells #[.int .i64 n] 3)) 3 (.int .i64 0)
  rw [World.size_alloc] at bF
  replace bN := bN.alloc (.cells #[.int .i64 0] 3)
  have hE : Ext w ((w.alloc (.cells #[.int .i64 n] 3)).alloc (.cells #[.int .i64 0] 3)) := ((Keep.refl _ w).alloc _).alloc _
  refine calls_marks Tryz.func122 rfl ?_
  simp only [Tryz.ntmps122, List.size_toArray, List.length_cons, List.length_nil, Nat.reduceAdd, Nat.reduceSub, Array.replicate_succ, Array.replicate_zero, List.push_toArray, List.append_toArray, List.nil_append, List.cons_append]
  go_wp2; go_step3
  go_wp2_with (go_at_call 115; refine (buckets_any _).mono ?_; rintro e w' ⟨rfl, rfl⟩)
  go_step3
  go_wp2_with (go_at_call 115; refine (buckets_any _).mono ?_; rintro e w' ⟨rfl, rfl⟩)
  refine range_wp rfl (enters_of Tryz.func145 (by kernel_rfl) rfl) buckets1_iter (fun _ h => h.elim) (fun _ h => h.elim) (fun _ _ _ h => by rw [h]; rfl) (fun _ _ => trivial)
    (fun k A => (∀ j, j < k → bkt j - 4 < n) ∧ Boxed A w.heap.size 3 (.int .i64 n) ∧ Boxed A (w.heap.size + 1) 3 (.int .i64 0) ∧ Ext w A)
    (fun k c A => c = .exit 0 ∧ (∀ j, j < k → bkt j - 4 < n) ∧ n ≤ bkt k - 4 ∧ Boxed A (w.heap.size + 1) 3 (.int .i64 (bkt k)) ∧ Ext w A)
    (fun k A B h hk => ⟨h.1, hk.boxed_turn h.2.1 id, hk.boxed_turn h.2.2.1 id, h.2.2.2.then_turn hk (by simp; omega) (fun _ _ h _ => h)⟩)
    (fun k c A B h hk => ⟨h.1, h.2.1, h.2.2.1, hk.boxed_turn h.2.2.2.1 id, h.2.2.2.2.then_turn hk (by simp; omega) (fun _ _ h _ => h)⟩)
    (fun h => h.elim) ⟨fun j hj => by omega, bN, bF, hE⟩ ?round ?done ?stop
  case round =>
    rintro l k A args KN KX hk ⟨hj, hN, hF, hA⟩ rfl hKN hKX
    gi_wp2
    refine ⟨Keep.refl _ _, fun C hC => ?_⟩
    replace hN := hC.boxed_turn hN id
    replace hF := hC.boxed_turn hF id
    have hAC := hA.then_turn hC (by simp; omega) (fun _ _ h _ => h)
    have hpos := bkt_pos k
    have hlt := bkt_lt hk
    have cN := hN.cell
    have cF := hF.cell
    have fF := hF.frozen
    have hfin : ∀ v, Ext w (C.setCell ⟨w.heap.size + 1, 0, none⟩ v) := fun v => hAC.setCell ⟨w.heap.size + 1, 0, none⟩ v (fun o ho => by have := Keep.lt ho; simp at this; omega)
    gi_wp2
    · have hle : n ≤ bkt k - 4 := by assumption
      exact hKX _ _ _ ((Keep.refl _ _).setCell _ _ (fun o ho => ⟨id, .inl (by simp)⟩)) ⟨rfl, hj, hle, hF.set _, hfin _⟩
    · have hgt : bkt k - 4 < n := by assumption
      exact hKN _ _ (Keep.refl _ _) ⟨fun j hjk => by rcases Nat.lt_succ_iff_lt_or_eq.1 hjk with h | rfl; exact hj j h; exact hgt, hN, hF, hAC⟩
  case done =>
    rintro D A hD ⟨hj, _⟩ _
    have := hj 11 (by omega)
    rw [bkt_11] at this
    omega
  case stop =>
    rintro D c k A hD hk ⟨rfl, hj, hle, hF, hA⟩ hd
    have hr := Lib.hid (bucket_of h0 h1 hk hle hj)
    have cF := hF.cell
    go_wp2
    rw [Exit.noGoto_ret]
    refine mark_ret hd rfl (results_tmp rfl _ _ _) ⟨?_, ?_⟩
    · rw [hr.out]; rfl
    · exact hA.putObj _ _ (fun o ho => by have := Keep.lt ho; simp at hD; omega)
end Go.Proofs.YtcmhgpgookiomaaGreat
