/-
  disk.Disk: Read.
-/
import Derived.Test.YtdopaoajbjodeaaDkB
namespace Go.Proofs.Ytdopaoajbjodeaa
open Go.RowKit Go.Shelf

attribute [local go_sem] Oper.semAt_some

def aggB (l : List UInt8) : Value := .agg (l.map u8v).toArray
theorem zeros_agg : (List.replicate 64 (.int .u8 0) : List Value) = (zeros 64).map u8v := by simp [zeros, u8v]
theorem sector_length {s : DSt} (h : s.F.length = s.n * 64) {k : Nat} (hk : k < s.n) : (s.sector k).length = 64 := by
  unfold DSt.sector
  rw [List.length_take, List.length_drop, h]
  omega
theorem index_sec (gs n cap k : Nat) (hk : k < n) (w : World) : (Instr.indexAt 63 (.slice (some ⟨gs, 0, none⟩) n cap) (.int .i64 (k : Int))).run Try.prog w = .ok (.pointer (some ⟨gs, k * 64, none⟩)) w := by
  have h1 : (0 : Int) ≤ (k : Int) ∧ (k : Int) < (n : Int) := by omega
  simp [Instr.indexAt, asIntOf, Result.andThen, h1, addr_add, hk]

theorem sector_cells {s : DSt} (h : s.F.length = s.n * 64) {k : Nat} (hk : k < s.n) {tl : List Value} : ((s.F.map u8v ++ tl).drop (k * 64)).take 64 = (s.sector k).map u8v := by
  have h1 : k * 64 + 64 ≤ (s.F.map u8v).length := by rw [List.length_map, h]; omega
  rw [List.drop_append_of_le_length (by omega), List.take_append_of_le_length (by rw [List.length_drop]; omega)]
  simp [DSt.sector, List.map_take, List.map_drop]
theorem Keep.setRow_new {X : Nat → Obj → Prop} {A B : World} (h : Keep X A B) (b : Nat) (c : Array Value) (hb : A.heap.size ≤ b) : Keep X A (B.setRow b c) :=
  ⟨h.os, h.tape, h.output, by simpa [World.setRow] using h.size, fun k o ho hx => by
    have := Keep.lt ho
    rw [setRow_other B b k _ (by omega)]; exact h.block k o ho hx⟩
theorem all_one (l : List UInt8) : (l.map u8v).toArray.all (·.oneCell') = true := by
  rw [List.all_toArray, List.all_eq_true]; exact u8v_one l

theorem results_cell_slot {P : Program} {fn : Func} {p q : Tmp} {ty : TypeId} (h : fn.results = #[.cell p ty, .tmp q]) (tmps : Array Value) (w : World) (g : Nat) (t : TypeId) (cs : Array Value) (fr : Nat × Nat) (d : TypeDesc) (v : Value)
    (hp : tmps.getD p undef = .pointer (some ⟨g, 0, none⟩)) (hq : tmps.getD q undef = v) (hg : w.heap[g]? = some (.cells cs t fr))
    (hu : P.underlying ty = some d) (hd : (match d with | .struct _ | .array _ _ => true | _ => false) = true) (hi : (P.info? ty).map (·.size) = some cs.size) :
    (results fn tmps).run P w = .ok (.tuple #[.agg cs, v]) w := by
  have hp' : tmps[p]?.getD undef = .pointer (some ⟨g, 0, none⟩) := by simpa using hp
  have hq' : tmps[q]?.getD undef = v := by simpa using hq
  simp [results, h, hp', hq', asAddr, run_loadVar_row w g t ty cs fr d hg hu hd hi]

set_option maxRecDepth 20000 in
set_option maxHeartbeats 1000000 in
theorem dread_any {w : World} {B gs gc : Nat} {s : DSt} (h : PD w B gs gc s) (i : Int) : Calls Try.prog 29 #[.pointer (some ⟨B, 0, none⟩), .int .i64 i] w fun e w' =>
    e = .returned (.tuple #[aggB (s.read i), .int .i64 (s.may i)]) ∧ Ext w w' := by
  have HI := Lib.hid info_sec
  unfold aggB
  have hlen := Lib.hid h.len
  obtain ⟨zz, hzz⟩ : ∃ z, (zeros 64).map u8v = z := ⟨_, rfl⟩
  have HZ := Lib.hid (show (List.replicate 64 (.int .u8 0) : List Value) = zz by rw [← hzz]; rfl)
  have hone0 : zz.toArray.all (·.oneCell') = true := by rw [← hzz]; exact all_one _
  have HO := Lib.hid hone0
  have HZs := Lib.hid (show (Try.prog.info? 60).map (·.size) = some zz.toArray.size by rw [info_sec, ← hzz]; rfl)
  have HZ64 := Lib.hid (show zz.toArray.size = 64 by rw [← hzz]; rfl)
  refine calls_cps fun R hR => ?_
  go_enter Try.func29, Try.ntmps29
  go_wp2_with fail
  refine (dmay_any (h.ext ((Keep.refl _ w).alloc _)) i).mono ?_; rintro e w1 ⟨rfl, e1⟩
  have hE : Ext w w1 := ((Keep.refl _ w).alloc _).trans e1
  have hZ : Arr w1 w.heap.size 60 (List.replicate 64 (.int .u8 0)) := (Arr.new w _ (List.replicate 64 (.int .u8 0))).ext e1
  rw [HZ.out] at hZ
  have h1 := h.ext hE
  clear h e1 hone0
  by_cases hm : s.may i = 0
  · obtain ⟨hp, k, rfl, hk⟩ := may_zero hm
    have hrd : s.read (k : Int) = s.sector k := by simp [DSt.read, hm]
    obtain ⟨ac, cc, cap, tl, e1, e2, e3, e4, e5, e6⟩ := h1.ex
    have hsl := sector_length hlen.out hk
    have hld := (e4 (by omega)).loads_mid (P := Try.prog) (off := k * 64) (n := 64) (by rw [List.length_append, List.length_map, hlen.out]; omega)
    rw [sector_cells hlen.out hk] at hld
    rw [hrd] at hR
    rw [hm] at hR ⊢
    obtain ⟨O, hO⟩ : ∃ O, (s.sector k).map u8v = O := ⟨_, rfl⟩
    have hOl : O.length = 64 := by rw [← hO, List.length_map, hsl]
    have HO1 := Lib.hid (show O.toArray.all (·.oneCell') = true by rw [← hO]; exact all_one _)
    have HOs := Lib.hid (show (Try.prog.info? 60).map (·.size) = some O.length by rw [info_sec, hOl])
    have HOz := Lib.hid (show zz.toArray.size = O.toArray.size by rw [HZ64.out, List.size_toArray, hOl])
    have HLD := Lib.hid (show (loadCellsFrom ⟨gs, k * 64, none⟩ 0 O.length #[]).run Try.prog w1 = .ok O.toArray w1 by rw [hOl, ← hO]; exact hld)
    rw [hO] at hR
    have c0 := e1.cell (i := 0) rfl
    have hix := index_sec gs s.n cap k hk
    clear hrd hm hld hO hOl hsl e1 e2 e3 e4
    go_wp2_with (first | (refine wpList_load_cells ?_ 60 (.tmp 19) ?_ ⟨gs, k * 64, none⟩ ?_ O _ ?_ Try.underlying60 rfl HOs.out ?_; rfl; rfl; rfl; exact HLD.out) | (refine wpList_store_row ?_ 60 (.tmp 4) (.tmp 20) ?_ w.heap.size O.toArray ?_ ?_ 60 zz.toArray ?_ HOs.out HOz.out HO1.out ?_; rfl; rfl; rfl; rfl; exact hZ))
    exact bodyPost_ret (results_cell_slot rfl _ _ w.heap.size 60 O.toArray (0, 0) _ (.int .i64 0) rfl rfl (hZ.setRow O) Try.underlying60 rfl HOs.out) rfl (hR _ _ ⟨rfl, hE.setRow_new _ _ (Nat.le_refl _)⟩)
  · have hrd : (s.read i) = zeros 64 := by simp [DSt.read, hm]
    rw [hrd, hzz] at hR
    obtain ⟨er, her⟩ : ∃ e, s.may i = e := ⟨_, rfl⟩
    rw [her] at hm hR ⊢
    clear hrd hzz her
    go_wp2_with (refine wpList_store_row ?_ 60 (.tmp 4) (.tmp 12) ?_ w.heap.size (List.replicate 64 (.int .u8 0)).toArray ?_ ?_ 60 zz.toArray ?_ (by rw [HZ.out]; exact HZs.out) (by rw [HZ.out]) (by rw [HZ.out]; exact HO.out) ?_; rfl; rfl; rfl; rfl; exact hZ)
    have h2 := hZ.setRow (List.replicate 64 (.int .u8 0))
    unfold Arr at h2
    rw [show (some (Obj.cells (List.replicate 64 (.int .u8 0)).toArray 60 (0, 0)) : Option Obj) = some (Obj.cells zz.toArray 60 (0, 0)) by rw [HZ.out]] at h2
    exact bodyPost_ret (results_cell_slot rfl _ _ w.heap.size 60 zz.toArray (0, 0) _ (.int .i64 er) rfl rfl h2 Try.underlying60 rfl HZs.out) rfl (hR _ _ ⟨rfl, hE.setRow_new _ _ (Nat.le_refl _)⟩)
end Go.Proofs.Ytdopaoajbjodeaa
