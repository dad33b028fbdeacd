/-
  TopRevoked: learn: the keys that somebody finds. realm: a realm's key by the keys found.
-/
import Derived.Test.YtcmhgpgookiomaaGreatM17
namespace Go.Proofs.YtcmhgpgookiomaaGreat
open Go.RowKit Go.Shelf Go.Maps

attribute [local go_sem] Oper.semAt_some

def flatK (l : List By) : List Value := l.flatMap fun k => k.map u8v
/-- The keys found so far, by group and epoch. -/
structure KeysAt (w : World) (base M n : Nat) (F : Nat → Nat → List By) (S : Lit → Option Value) (V : Nat → Nat → Value) : Prop where
  map : KMap Tryz.prog 149 w M n S
  at' : ∀ g e l, g < 4294967296 → e < 4294967296 → keyOf Tryz.prog 149 (pairV g e) = some l → S l = if F g e = [] then none else some (V g e)
  own : ∀ g e, w.ownsRow base 51 32 (V g e) (F g e).length (flatK (F g e))
  sep : ∀ g e g' e' b, (V g e).ownBlock = some b → (V g' e').ownBlock = some b → g = g' ∧ e = e'
  nil : ∀ g e, F g e = [] → V g e = .slice none 0 0
theorem KeysAt.ext {w w' : World} {base M n : Nat} {F : Nat → Nat → List By} {S : Lit → Option Value} {V : Nat → Nat → Value} (h : KeysAt w base M n F S V) (hE : Ext w w') : KeysAt w' base M n F S V :=
  ⟨h.map.ext hE, h.at', fun g e => Ext.owns hE (h.own g e), h.sep, h.nil⟩
theorem KeysAt.empty {w : World} {base base' M n : Nat} {S : Lit → Option Value} {V : Nat → Nat → Value} (h : KeysAt w base M n (fun _ _ => []) S V) : KeysAt w base' M n (fun _ _ => []) S V :=
  ⟨h.map, h.at', fun g e => by rw [h.nil g e rfl]; exact World.ownsRow_nil _ _ _ _, h.sep, h.nil⟩
theorem KeysAt.lower {w : World} {base base' M n : Nat} {F : Nat → Nat → List By} {S : Lit → Option Value} {V : Nat → Nat → Value} (h : KeysAt w base M n F S V) (hb : base' ≤ base) : KeysAt w base' M n F S V :=
  ⟨h.map, h.at', fun g e => ownMono (h.own g e) hb, h.sep, h.nil⟩
theorem keysP_snoc (s : SSt) (l : List BoxP) (b : BoxP) (sec : By) (who g e : Nat) : keysP s (l ++ [b]) sec who g e = keysP s l sec who g e ++ (if b.kind = 1 ∧ b.fr = who ∧ b.of = g ∧ b.ep = e then (s.pl sec b.ct).toList else []) := by
  unfold keysP
  rw [List.filterMap_append]
  congr 1
  by_cases h : b.kind = 1 ∧ b.fr = who ∧ b.of = g ∧ b.ep = e
  · rw [if_pos h]
    simp only [List.filterMap_cons, List.filterMap_nil, if_pos h]
    cases s.pl sec b.ct <;> rfl
  · rw [if_neg h]
    simp only [List.filterMap_cons, List.filterMap_nil, if_neg h]
theorem flat6 {bv : List (BoxP × Value)} {i : Nat} {p : BoxP × Value} (h : bv[i]? = some p) {j : Nat} (hj : j < 6) : (bv.flatMap fun p => boxC p.1 p.2)[i * 6 + j]? = (boxC p.1 p.2)[j]? := by
  induction bv generalizing i with
  | nil => simp at h
  | cons q bv ih =>
    rw [List.flatMap_cons]
    cases i with
    | zero =>
      obtain rfl : q = p := by simpa using h
      rw [Nat.zero_mul, Nat.zero_add, List.getElem?_append_left (by simpa [boxC] using hj)]
    | succ i =>
      rw [List.getElem?_append_right (by simp [boxC]; omega)]
      have : (i + 1) * 6 + j - (boxC q.1 q.2).length = i * 6 + j := by simp [boxC]; omega
      rw [this]
      exact ih (by simpa using h)
theorem load_box {w : World} {b o n c : Nat} {bv : List (BoxP × Value)} (h : Row 6 w (some ⟨b, o, none⟩) n c (bv.flatMap fun p => boxC p.1 p.2)) (hn : 0 < n) {i : Nat} {p : BoxP × Value} (hi : bv[i]? = some p) : (loadCellsFrom ⟨b, o + i * 6, none⟩ 0 6 #[]).run Tryz.prog w = .ok (boxC p.1 p.2).toArray w := by
  have := run_loadCells_list (P := Tryz.prog) (w := w) ⟨b, o + i * 6, none⟩ (boxC p.1 p.2) (fun j u hu => by
    have hj : j < 6 := by have := (List.getElem?_eq_some_iff.1 hu).1; simpa [boxC] using this
    rw [addr_add]
    have := h.cell rfl ((flat6 hi hj).trans hu) hn
    rwa [show o + i * 6 + j = o + (i * 6 + j) by omega])
  exact this

theorem info_keyrow : (Tryz.prog.info? 51).map (fun i => (i.zero, i.size, i.bytes)) = some (some (.agg (List.replicate 32 (Value.int .u8 0)).toArray), 32, 32) := by kernel_rfl
theorem append_own_key {w : World} {base : Nat} {u : Value} {l : List By} {k : By} (h : w.ownsRow base 51 32 u l.length (flatK l)) (hk : k.length = 32) (hn : l.length ≤ 100000) {q : Nat} (hq : Arr w q 51 (k.map u8v)) (hb : base ≤ w.heap.size) (ty : TypeId) :
    ∃ v' w', (Builtin.append_ #[150, 150] ty #[u, .slice (some ⟨q, 0, none⟩) 1 1]).run Tryz.prog w = .ok v' w' ∧ w'.ownsRow base 51 32 v' (l ++ [k]).length (flatK (l ++ [k])) ∧
      Keep (fun b o => u.ownBlock = some b ∧ ∃ cur, o = .cells cur 51 (0, 0)) w w' ∧ (v'.ownBlock = u.ownBlock ∨ v'.ownBlock = some w.heap.size) := by
  obtain ⟨i, hi, hz, hsz, hbt⟩ := info_parts info_keyrow
  obtain ⟨v', w', hrun, hown', hgrow, _, hblk⟩ := run_append_own_at (P := Tryz.prog) w base 150 ty 51 i _ 32 32 Tryz.underlying150 hi hz hsz hbt (by simp [Value.cells]) (by decide) u _ _ h ⟨q, 0, none⟩ 1 1 (k.map u8v) (by rw [List.length_map, hk])
    (fun j x hx => by rw [addr_add, Nat.zero_add]; exact hq.cell hx) (u8v_one k) (by unfold maxLen; omega) (by omega) hb
  refine ⟨v', w', hrun, ?_, Keep.of_grownBy hgrow (fun k o hk ho => ?_), hblk⟩
  · rw [List.length_append]
    unfold flatK at hown' ⊢
    rw [List.flatMap_append]
    simpa using hown'
  · rcases h.2 with ⟨rfl, _⟩ | ⟨g', cap, cur, rfl, hb, hgb, _⟩
    · simp [Value.ownBlock] at hk
    · obtain rfl : g' = k := by simpa [Value.ownBlock] using hk
      rw [hgb] at ho; cases ho; exact ⟨rfl, _, rfl⟩
theorem zero_keys (w : World) : (zeroValue 150).run Tryz.prog w = .ok (.slice none 0 0) w := by kernel_rfl
/-- A key is added at a group and an epoch: the worlds are those at the entry's making, the append and the filling. -/
theorem KeysAt.add {w w1 w2 w3 : World} {base M n : Nat} {F : Nat → Nat → List By} {S S' : Lit → Option Value} {V : Nat → Nat → Value} (h : KeysAt w base M n F S V) {g0 e0 : Nat} {kl : Lit} (hkl : keyOf Tryz.prog 149 (pairV g0 e0) = some kl) (hg0 : g0 < 4294967296) (he0 : e0 < 4294967296)
    {k : By} {v' : Value} (k1 : Keep (MapX M) w w1) (k2 : Keep (fun b o => (V g0 e0).ownBlock = some b ∧ ∃ cur, o = .cells cur 51 (0, 0)) w1 w2) (k3 : Keep (MapX M) w2 w3)
    (hown : w2.ownsRow base 51 32 v' (F g0 e0 ++ [k]).length (flatK (F g0 e0 ++ [k]))) (hblk : v'.ownBlock = (V g0 e0).ownBlock ∨ v'.ownBlock = some w1.heap.size)
    (hS : S' = updS S kl (some v')) (hmap : KMap Tryz.prog 149 w3 M (n + 1) S') :
    KeysAt w3 base M (n + 1) (fun g e => if g = g0 ∧ e = e0 then F g0 e0 ++ [k] else F g e) S' (fun g e => if g = g0 ∧ e = e0 then v' else V g e) := by
  have hlt : ∀ g e b, (V g e).ownBlock = some b → b < w1.heap.size := fun g e b hb => Nat.lt_of_lt_of_le ((h.own g e).lt b hb).2 k1.size
  refine ⟨hmap, fun g e l hg he hl => ?_, fun g e => ?_, fun g e g' e' b h1 h2 => ?_, fun g e hF => ?_⟩
  · subst hS
    by_cases hc : g = g0 ∧ e = e0
    · obtain ⟨rfl, rfl⟩ := hc
      rw [hkl] at hl
      cases hl
      rw [updS_same]
      simp
    · have hne : l ≠ kl := fun hh => by
        subst hh
        exact hc (pairV_inj (law_pair.inj hl hkl))
      rw [updS_other _ _ hne, h.at' g e l hg he hl]
      simp only [if_neg hc]
  · by_cases hc : g = g0 ∧ e = e0
    · simp only [if_pos hc]
      exact k3.owns' hown (fun _ _ _ => MapX.cells)
    · simp only [if_neg hc]
      refine k3.owns' (k2.owns' (k1.owns' (h.own g e) (fun _ _ _ => MapX.cells)) (fun b cur hb hx => ?_)) (fun _ _ _ => MapX.cells)
      exact hc (h.sep g e g0 e0 b hb hx.1)
  · by_cases hc : g = g0 ∧ e = e0 <;> by_cases hc' : g' = g0 ∧ e' = e0
    · exact ⟨hc.1.trans hc'.1.symm, hc.2.trans hc'.2.symm⟩
    · simp only [if_pos hc, if_neg hc'] at h1 h2
      rcases hblk with hb | hb
      · rw [hb] at h1
        have := h.sep g0 e0 g' e' b h1 h2
        exact absurd ⟨this.1.symm, this.2.symm⟩ hc'
      · rw [hb] at h1; cases h1; have := hlt g' e' _ h2; omega
    · simp only [if_neg hc, if_pos hc'] at h1 h2
      rcases hblk with hb | hb
      · rw [hb] at h2
        have := h.sep g e g0 e0 b h1 h2
        exact absurd this hc
      · rw [hb] at h2; cases h2; have := hlt g e _ h1; omega
    · simp only [if_neg hc, if_neg hc'] at h1 h2
      exact h.sep g e g' e' b h1 h2
  · by_cases hc : g = g0 ∧ e = e0
    · simp only [if_pos hc] at hF
      exact absurd hF (by simp)
    · simp only [if_neg hc] at hF ⊢
      exact h.nil g e hF

set_option maxRecDepth 20000 in
set_option maxHeartbeats 8000000 in
theorem learn_any {w : World} {N Q TB A PL O M : Nat} {s : SSt} {v : Value} {bv : List (BoxP × Value)} {S : Lit → Option Value} {V : Nat → Nat → Value} (hs : SuiteAt w Q TB A PL s) (hb : BoxesAt w N v bv) (hO : Arr w O 123 [.pointer (some ⟨Q, 0, none⟩), v, .map (some M)])
    (hM : KeysAt w w.heap.size M 0 (fun _ _ => []) S V) (sec : By) (hsec : sec.length = 32) (who : Nat) (hwho : who < 4294967296) (hn : bv.length ≤ 20000) (hA : A ≠ M) (hPL : PL ≠ M) :
    Calls Tryz.prog 47 #[.pointer (some ⟨O, 0, none⟩), aggK sec, .int .u32 (who : Int)] w fun e w' => e = .returned (.tuple #[]) ∧ (∃ m S' V', m ≤ bv.length ∧ KeysAt w' w.heap.size M m (fun g e => keysP s (bv.map (·.1)) sec who g e) S' V') ∧ Keep (MapX M) w w' := by
  obtain ⟨a, c, rfl, hrow⟩ := owns_row hb.own
  obtain ⟨K, hK⟩ : ∃ K, sec.map u8v = K := ⟨_, rfl⟩
  have hKl : K.length = 32 := by rw [← hK, List.length_map, hsec]
  have hiK := Lib.hid (show (Tryz.prog.info? 51).map (·.size) = some K.toArray.size by rw [info_key, List.size_toArray, hKl])
  have HK := Lib.hid hK
  have hMlt := hM.map.lt
  unfold aggK
  rw [hK]
  obtain ⟨n, hnn⟩ : ∃ n, bv.length = n := ⟨_, rfl⟩
  rw [hnn] at hrow hn hO ⊢
  have HN := Lib.hid hnn
  have HS := Lib.hid hs
  have HB := Lib.hid hb
  have HM := Lib.hid hM
  have HROW := Lib.hid hrow
  have HSEC := Lib.hid hsec
  clear hK hKl hs hb hM hrow hnn hsec
  refine calls_cps fun R0 hR => ?_
  have HR := Lib.hid hR
  clear hR
  go_enter Tryz.func47, Tryz.ntmps47
  go_upto_region 1 with fail
  refine wp_laid1 fun W eW hG => ?_
  have aK : Arr W w.heap.size 51 K := hG
  have HEW := Lib.hid eW
  have c1 := Ext.cell eW (hO.cell (i := 1) rfl)
  have HO := Lib.hid hO
  clear hG hO eW
  go_wp2
  go_loopw [16] (fun ix wr => ∃ k : Nat, k ≤ n ∧ ix = .int .i64 (k : Int) ∧ Hid (∃ m S' V', m ≤ k ∧ KeysAt wr W.heap.size M m (fun g e => keysP s ((bv.take k).map (·.1)) sec who g e) S' V') ∧ Hid (Keep (MapX M) W wr)) (fun ix _ => n - (vI ix).toNat)
  case atStart => exact ⟨0, by omega, rfl, Lib.hid ⟨0, S, V, Nat.le_refl _, (HM.out.ext HEW.out).empty⟩, Lib.hid (Keep.refl _ _)⟩
  case round =>
    obtain ⟨k, hk, rfl, HKS, HKK⟩ := hrel
    clear c1
    by_cases hlt : k < n
    · obtain ⟨p, hp⟩ : ∃ p, bv[k]? = some p := ⟨_, List.getElem?_eq_getElem (by have := HN.out; omega)⟩
      obtain ⟨bx, ox, rfl, hcell⟩ := HROW.out.2.2.2.2 (by omega)
      clear hcell
      have hrk : Row 6 wr (some ⟨bx, ox, none⟩) n c (bv.flatMap fun p => boxC p.1 p.2) := (HROW.out.ext HEW.out).keep HKK.out (fun p o hp ho hc hx => by obtain ⟨_, _, _, rfl⟩ := hx; cases hc)
      have hld := load_box hrk (by omega) hp
      have hct := (HB.out.ct p (List.mem_of_getElem? hp)).keep ((Keep.of_ext (X := MapX M) HEW.out).trans HKK.out) (fun _ _ _ => MapX.cells)
      have hlt4 := HB.out.lt p (List.mem_of_getElem? hp)
      have htk : (bv.take (k + 1)).map (·.1) = (bv.take k).map (·.1) ++ [p.1] := by rw [List.take_add_one, hp, List.map_append]; rfl
      obtain ⟨⟨bk, bof, bep, bfr, bat, bct⟩, vb⟩ := p
      simp only at hct hlt4 htk
      obtain ⟨hl108, ac, cc, hvb, hrowc, hib⟩ := hct
      subst hvb
      simp only [boxC, u32n] at hld
      have HLD := Lib.hid hld
      have HTK := Lib.hid htk
      have HCT := Lib.hid hrowc
      have HL108 := Lib.hid hl108
      have hi6 := Lib.hid (show (Tryz.prog.info? 107).map (·.size) = some 6 by kernel_rfl)
      have hskip : ¬ (bk = 1 ∧ bfr = who) → (fun g e => keysP s ((bv.take (k + 1)).map (·.1)) sec who g e) = fun g e => keysP s ((bv.take k).map (·.1)) sec who g e := fun hne => by
        funext g e
        rw [HTK.out, keysP_snoc, if_neg (fun h => hne ⟨h.1, h.2.1⟩), List.append_nil]
      have HSK := Lib.hid hskip
      clear hld hrk htk hrowc hl108 hib hskip hp
      by_cases hb1 : bk = 1
      · by_cases hb2 : bfr = who
        · subst hb1 hb2
          have hsk : SuiteAt wr Q TB A PL s := (HS.out.ext HEW.out).keep HKK.out (fun _ => MapX.cells) (fun _ => MapX.cells) (fun _ _ => MapX.cells) (fun _ _ => mapX_ne hA) (fun _ _ => mapX_ne hPL)
          have hun := fun B (hB : Ext wr B) => unwrap_any (hsk.ext hB) sec bct HSEC.out HL108.out ac cc (HCT.out.ext hB)
          unfold aggK at hun
          rw [HK.out] at hun
          obtain ⟨Rv, er, hR32, hR1, hcl, hres⟩ : ∃ (Rv : List Value) (er : Int), Rv.length = 32 ∧ Rv.toArray.all (·.oneCell') = true ∧ (∀ B, Ext wr B → Calls Tryz.prog 66 #[.pointer (some ⟨Q, 0, none⟩), .agg K.toArray, .slice ac 108 cc] B fun e w' => Ext B w' ∧ e = .returned (.tuple #[.agg Rv.toArray, .int .i64 er])) ∧
              ((s.pl sec bct = none ∧ er = 70) ∨ ∃ kk, s.pl sec bct = some kk ∧ er = 0 ∧ Rv = kk.map u8v) := by
            cases hq : s.pl sec bct with
            | none => exact ⟨key0.map u8v, 70, by rw [List.length_map, key0_len], all_one _, fun B hB => (hun B hB).mono (fun e w' h => ⟨h.1, h.2.1 hq⟩), .inl ⟨rfl, rfl⟩⟩
            | some kk => exact ⟨kk.map u8v, 0, by rw [List.length_map]; exact hsk.lp _ _ _ hq, all_one _, fun B hB => (hun B hB).mono (fun e w' h => ⟨h.1, h.2.2 kk hq⟩), .inr ⟨kk, rfl, rfl, rfl⟩⟩
          have hiR := Lib.hid (show (Tryz.prog.info? 51).map (·.size) = some Rv.toArray.size by rw [info_key, List.size_toArray, hR32])
          have h1R := Lib.hid hR1
          have HR32 := Lib.hid hR32
          have HCL := Lib.hid hcl
          have HRES := Lib.hid hres
          have hk1 : ((((1 : Nat) : Int)) == 1) = true := rfl
          clear hun hsk hR32 hR1 hcl hres HCT HSK
          go_wp2_with (first
            | (refine wpList_val (o := ⟨some 19, _, _, _, _, _⟩) (v := .agg #[.int .i64 ((1 : Nat) : Int), .int .u32 (bof : Int), .int .u32 (bep : Int), .int .u32 (bfr : Int), .int .u32 (bat : Int), .slice ac 108 cc]) ?_ ?_ ?_; exact exec_load_mid' rfl rfl HLD.out Tryz.underlying107 rfl hi6.out; rfl)
            | fail)
          refine wp_laid1 fun W2 eW2 hG2 => ?_
          have aB : Arr W2 wr.heap.size 107 [.int .i64 1, .int .u32 (bof : Int), .int .u32 (bep : Int), .int .u32 (bfr : Int), .int .u32 (bat : Int), .slice ac 108 cc] := hG2
          have aO := (((HO.out.ext HEW.out).keep HKK.out MapX.cells).ext eW2)
          have aK2 := ((aK.keep HKK.out MapX.cells).ext eW2)
          have HE2 := Lib.hid eW2
          clear hG2 eW2
          have hX : ∀ B, Keep (fun k _ => W2.heap.size ≤ k) W2.drew B → Ext W2 B := fun B hB => (((Keep.refl (fun k _ => W2.heap.size ≤ k) W2).drew).trans hB).mono (fun k o ho hx => by have := Keep.lt ho; replace hx : W2.heap.size ≤ k := hx; omega)
          have d0 := fun g : FY.At (fun k _ => W2.heap.size ≤ k) W2.drew => (aO.ext (hX _ g.ext)).cell (i := 0) rfl
          have d5 := fun g : FY.At (fun k _ => W2.heap.size ≤ k) W2.drew => (aB.ext (hX _ g.ext)).cell (i := 5) rfl
          have HX := Lib.hid hX
          clear hX
          refine FY.wp_flow (X := fun k _ => W2.heap.size ≤ k) (0 :: 1 :: 2 :: 3 :: 4 :: 5 :: 6 :: 7 :: 8 :: 9 :: 10 :: 11 :: 12 :: 13 :: []) (fun n => if n = 7 then .grows (fun v _ => v = .tuple #[.agg Rv.toArray, .int .i64 er]) (fun v => v = .tuple #[.agg Rv.toArray, .int .i64 er]) else if n = 11 then .grows (NewCell W2.heap.size 51 32) PtrSh else if n = 12 then .bar else .still) (by kernel_rfl) (by kernel_rfl) ?_
          iterate 4 (refine FY.flow_q rfl rfl rfl ?_; go_big_quiet_step (fail); refine wpQuiet_nil ?_)
          refine FY.flow_vq (v := .agg K.toArray) rfl rfl rfl (fun w' hE => exec_load_row rfl rfl (aK2.ext (HX.out w' hE)) Tryz.underlying51 rfl hiK.out) ?_
          simp only [Act.put, List.setIfInBounds_toArray, List.set_cons_succ, List.set_cons_zero]
          iterate 2 (refine FY.flow_q rfl rfl rfl ?_; go_big_quiet_step (fail); refine wpQuiet_nil ?_)
          refine FY.flow_g rfl rfl rfl (by simp) ⟨_, rfl⟩ (fun _ _ _ h _ => h) (fun _ _ h => h) (fun w5 hE5 _ => ?_) (fun v hv => ?_)
          · have hcall := HCL.out w5 (HE2.out.trans (((Keep.refl _ W2).drew).trans hE5))
            clear d0 d5
            go_wp2_with fail
            refine hcall.mono ?_
            rintro e w6 ⟨hE6, rfl⟩
            clear hcall
            go_wp2
          subst hv
          simp only [Act.put, List.setIfInBounds_toArray, List.set_cons_succ, List.set_cons_zero]
          iterate 3 (refine FY.flow_q rfl rfl rfl ?_; go_big_quiet_step (fail); refine wpQuiet_nil ?_)
          refine FY.flow_g rfl rfl rfl (by simp) ⟨_, 0, rfl⟩ (fun v A B h hE => h.ext hE) (fun v A h => h.sh) (fun w5 hE5 _ => ?_) (fun v hv => ?_)
          · refine wpList_valw (exec_alloc_key w5 rfl) rfl (wpList_nil ?_)
            exact ⟨rfl, _, rfl, (Keep.refl _ w5).alloc _, newCell_key (((Keep.refl _ W2).drew).trans hE5)⟩
          obtain ⟨g1, rfl⟩ := hv
          simp only [Act.put, List.setIfInBounds_toArray, List.set_cons_succ, List.set_cons_zero]
          clear d0 d5
          refine FY.flow_ba rfl rfl rfl (by kernel_rfl) (fun w6 hE6 hf => ?_)
          have hnc : NewCell W2.heap.size 51 32 (.pointer (some ⟨g1, 0, none⟩)) w6 := hf 11
          have hE6' : Ext W2 w6 := ((Keep.refl _ W2).drew).trans hE6
          obtain ⟨_, C0, q, hb0, hlen0, hc0⟩ := hnc
          cases q
          have hK7 : Keep (fun k _ => W2.heap.size ≤ k) w6 (w6.setRow g1 Rv.toArray) := (keep_setRow w6 g1 Rv.toArray).mono (fun k o _ hx => by rw [hx]; exact hb0)
          have hE7 : Ext W2 (w6.setRow g1 Rv.toArray) := ((Keep.of_ext hE6').trans hK7).mono (fun k o ho hx => by have := Keep.lt ho; replace hx : W2.heap.size ≤ k := hx; omega)
          have hsz : C0.toArray.size = Rv.toArray.size := by rw [List.size_toArray, hlen0, List.size_toArray, HR32.out]
          have aR7 := hc0.setRow Rv
          have HK7 := Lib.hid hK7
          have HE7 := Lib.hid hE7
          have HSZ := Lib.hid hsz
          have HC0 := Lib.hid hc0
          have HA7 := Lib.hid aR7
          clear hf hE6 hE6' hK7 hE7 hsz hc0 hlen0 hb0 aR7
          go_wp2_with (first
            | (refine wpList_skipw (o := ⟨none, .store _ _ _, _, _, _, _⟩) (w' := w6.setRow g1 Rv.toArray) ?_ ?_ ?_; exact exec_store_row rfl rfl rfl HC0.out hiR.out HSZ.out h1R.out; rfl)
            | fail)
          refine ⟨HK7.out, ?_⟩
          refine FY.flow_q rfl rfl rfl ?_; go_big_quiet_step (fail); refine wpQuiet_nil ?_
          refine FY.flow_end (fun w8 hE8 _ => ?_)
          have hE28 : Ext W2 w8 := HE7.out.trans hE8
          have aR8 := HA7.out.ext hE8
          have aB8 := aB.ext hE28
          have aO8 := aO.ext hE28
          have HE8 := Lib.hid (HE2.out.trans hE28)
          clear hE8 hE28 aB aO HK7 HE7 HSZ HC0 HA7 HX
          rcases HRES.out with ⟨hq, rfl⟩ | ⟨kk, hq, rfl, hRv⟩
          · have hF : (fun g e => keysP s ((bv.take (k + 1)).map (·.1)) sec bfr g e) = fun g e => keysP s ((bv.take k).map (·.1)) sec bfr g e := by
              funext g e
              rw [HTK.out, keysP_snoc]
              simp [hq]
            have HF := Lib.hid hF
            clear hF hq HRES
            go_wp2
            go_roundw
            case rel => exact ⟨k + 1, by omega, by go_num, Lib.hid (by rw [HF.out]; obtain ⟨m, S', V', h1, h2⟩ := HKS.out; exact ⟨m, S', V', by omega, h2.ext HE8.out⟩), Lib.hid (HKK.out.trans (Keep.of_ext HE8.out))⟩
            case measure => simp [vI]; omega
          · have hkk : kk.length = 32 := by have := HR32.out; rw [hRv, List.length_map] at this; exact this
            have c1 := aB8.cell (i := 1) rfl
            have c2 := aB8.cell (i := 2) rfl
            go_wp2_with fail
            refine wp_laid1 fun W3 eW3 hG3 => ?_
            have aP : Arr W3 w8.heap.size 149 [.int .u32 (bof : Int), .int .u32 (bep : Int)] := hG3
            have aR3 := aR8.ext eW3
            have aO3 := aO8.ext eW3
            have HE3 := Lib.hid (HE8.out.trans eW3)
            have HRV := Lib.hid hRv
            have HQ := Lib.hid hq
            have HKL := Lib.hid hkk
            have hi2 := Lib.hid (show (Tryz.prog.info? 149).map (·.size) = some 2 by kernel_rfl)
            clear hG3 c1 c2 aR8 aO8 aB8 eW3 hRv hq hkk HRES
            obtain ⟨m, S', V', hmk, hks⟩ := HKS.out
            obtain ⟨kl, hkl⟩ := pair_lit bof bep hlt4.2.1 hlt4.2.2.1
            have HKS2 := Lib.hid hks
            have HKLT := Lib.hid hkl
            have hz : (S' kl).getD (.slice none 0 0) = V' bof bep := by
              rw [hks.at' bof bep kl hlt4.2.1 hlt4.2.2.1 hkl]
              split
              · rename_i hF
                exact (hks.nil bof bep hF).symm
              · rfl
            have HZ := Lib.hid hz
            have hFl : (keysP s ((bv.take k).map (·.1)) sec bfr bof bep).length ≤ 20000 := by
              unfold keysP
              refine Nat.le_trans (List.length_filterMap_le _ _) ?_
              rw [List.length_map, List.length_take]
              omega
            have HFL := Lib.hid hFl
            clear hks hkl hz hFl
            have d0 := fun g : FY.At (fun _ _ => False) W3.drew => (aO3.ext (((Keep.refl _ W3).drew).trans g.ext)).cell (i := 2) rfl
            refine FY.wp_flow (X := fun _ _ => True) (0 :: 1 :: 2 :: 3 :: 4 :: 5 :: 6 :: 7 :: 8 :: 10 :: 9 :: 11 :: []) (fun n => if n = 6 then .grows (fun v A => ∃ g, v = .slice (some ⟨g, 0, none⟩) 1 1 ∧ Arr A g 51 Rv) (fun v => ∃ g, v = .slice (some ⟨g, 0, none⟩) 1 1) else if n = 7 ∨ n = 9 ∨ n = 11 then .bar else if n < 6 then .reads else .still) (by kernel_rfl) (by kernel_rfl) ?_
            iterate 4 (refine FY.flow_r rfl rfl rfl ?_; go_big_quiet_step (fail); refine wpQuiet_nil ?_)
            refine FY.flow_v (v := .agg #[.int .u32 (bof : Int), .int .u32 (bep : Int)]) rfl rfl rfl (fun w' hE => exec_load_row rfl rfl (aP.ext (((Keep.refl _ W3).drew).trans hE)) Tryz.underlying149 rfl hi2.out) ?_
            simp only [Act.put, List.setIfInBounds_toArray, List.set_cons_succ, List.set_cons_zero]
            refine FY.flow_v (v := .agg Rv.toArray) rfl rfl rfl (fun w' hE => exec_load_row rfl rfl (aR3.ext (((Keep.refl _ W3).drew).trans hE)) Tryz.underlying51 rfl hiR.out) ?_
            simp only [Act.put, List.setIfInBounds_toArray, List.set_cons_succ, List.set_cons_zero]
            clear d0
            refine FY.flow_g rfl rfl rfl (by simp) ⟨_, 0, rfl⟩ (fun v A B ⟨g, h1, h2⟩ hE => ⟨g, h1, h2.ext hE⟩) (fun v A ⟨g, h1, _⟩ => ⟨g, h1⟩) (fun w5 hE5 _ => ?_) (fun v hv => ?_)
            · refine wpList_valw (v := .slice (some ⟨w5.heap.size, 0, none⟩) 1 1) (w' := w5.alloc (.cells Rv.toArray 51)) ?_ rfl (wpList_nil ?_)
              · have := buildSlice_key Rv HR32.out w5
                simp [execOp, Act.eval, this, Result.andThen]
              · exact ⟨rfl, _, rfl, (Keep.refl _ w5).alloc _, _, rfl, Arr.new w5 _ _⟩
            obtain ⟨g2, rfl⟩ := hv
            simp only [Act.put, List.setIfInBounds_toArray, List.set_cons_succ, List.set_cons_zero]
            refine FY.flow_bvs rfl rfl rfl (by simp) (by kernel_rfl) (fun w5 hE5 hf => ?_)
            obtain ⟨_, q, hAg⟩ : ∃ g, (Value.slice (some ⟨g2, 0, none⟩) 1 1) = .slice (some ⟨g, 0, none⟩) 1 1 ∧ Arr w5 g 51 Rv := hf 6
            cases q
            replace hE5 : Ext W3 w5 := ((Keep.refl _ W3).drew).trans hE5
            have hk5 := HKS2.out.ext (HE3.out.trans hE5)
            obtain ⟨sp, E, w6, hrun6, hE6, ⟨es0, ck0, hEm⟩, hg6, hst6⟩ := hk5.map.entry law_pair Tryz.underlying121 (by unfold maxLen; omega) zero_keys HKLT.out
            rw [HZ.out] at hrun6
            have k6 : Keep (MapX M) w5 w6 := hk5.map.keepPut hg6
            have hrun6' : (Instr.mapEntry 121 (.map (some M)) (.agg #[.int .u32 (bof : Int), .int .u32 (bep : Int)])).run Tryz.prog w5 = .ok (.tuple #[V' bof bep, .int .i64 sp]) w6 := hrun6
            refine wpList_valw (v := .tuple #[V' bof bep, .int .i64 sp]) (w' := w6) (exec_mapEntry' rfl hrun6') rfl (wpList_nil ?_)
            refine ⟨rfl, _, rfl, k6.mono (fun _ _ _ _ => trivial), ?_⟩
            simp only [Act.put, List.setIfInBounds_toArray, List.set_cons_succ, List.set_cons_zero]
            have hAg6 := hAg.keep k6 MapX.cells
            have HK5 := Lib.hid hk5
            have HK6 := Lib.hid k6
            have HST := Lib.hid hst6
            have HE6 := Lib.hid hE6
            have HAG := Lib.hid hAg6
            have HW5 := Lib.hid hE5
            clear hk5 hrun6 hrun6' hg6 hst6 hE6 k6 hAg hAg6 hf hE5
            iterate 2 (refine FY.flow_q rfl rfl rfl ?_; go_big_quiet_step (fail); refine wpQuiet_nil ?_)
            refine FY.flow_bvs rfl rfl rfl (by simp) (by kernel_rfl) (fun w7 hE7 _ => ?_)
            replace hE7 : Ext w6 w7 := hE7
            have hown7 := Ext.owns hE7 (HK6.out.owns' (HK5.out.own bof bep) (fun _ _ _ => MapX.cells))
            obtain ⟨v9, w9, hrun9, hown9, k9, hblk9⟩ := append_own_key hown7 HKL.out (by have := HFL.out; omega) (by have := HAG.out.ext hE7; rw [HRV.out] at this; exact this) (by have h1 := HK6.out.size; have h2 := hE7.size; have h3 := HW5.out.size; have h4 := HE3.out.size; have h5 := HKK.out.size; omega) 150
            refine wpList_append_run hrun9 rfl rfl rfl rfl (wpList_nil ?_)
            refine ⟨rfl, _, rfl, k9.mono (fun _ _ _ _ => trivial), ?_⟩
            simp only [Act.put, List.setIfInBounds_toArray, List.set_cons_succ, List.set_cons_zero]
            have HE7 := Lib.hid hE7
            have HO9 := Lib.hid hown9
            have HK9 := Lib.hid k9
            have HB9 := Lib.hid hblk9
            clear hrun9 hown9 k9 hblk9 hown7 hE7
            refine FY.flow_ba rfl rfl rfl (by kernel_rfl) (fun w10 hE10 _ => ?_)
            replace hE10 : Ext w9 w10 := hE10
            have hE10' : w10.heap[M]? = some E := hE10.block _ _ (HK9.out.block _ _ (HE7.out.block _ _ HE6.out (fun h => h)) (fun hx => by obtain ⟨_, _, hx⟩ := hx; rw [hEm] at hx; cases hx)) (fun h => h)
            obtain ⟨w11, hrun11, hmap11, hg11⟩ := HST.out w10 v9 hE10'
            have k11 : Keep (MapX M) w10 w11 := Keep.of_grownBy hg11 (fun k o hk ho => by cases hk; rw [hE10'] at ho; cases ho; exact ⟨rfl, _, _, hEm⟩)
            have hadd := HK5.out.add (w1 := w7) (w2 := w10) HKLT.out hlt4.2.1 hlt4.2.2.1 (k := kk) (HK6.out.trans (Keep.of_ext HE7.out)) (HK9.out.trans (Keep.of_ext hE10)) k11 (Ext.owns hE10 HO9.out) HB9.out rfl hmap11
            have hkeep : Keep (MapX M) W w11 := by
              have z1 : Keep (MapX M) W w7 := ((HKK.out.trans (Keep.of_ext (HE3.out.trans HW5.out))).trans HK6.out).trans (Keep.of_ext HE7.out)
              have z2 : Keep (MapX M) W w9 := ⟨HK9.out.os.trans z1.os, HK9.out.tape.trans z1.tape, HK9.out.output.trans z1.output, Nat.le_trans z1.size HK9.out.size, fun i o ho hx => HK9.out.block i o (z1.block i o ho hx) (fun hh => by
                have h1 := ((HK5.out.own bof bep).lt i hh.1).1
                have := Keep.lt ho
                omega)⟩
              exact (z2.trans (Keep.of_ext hE10)).trans k11
            have HKEEP := Lib.hid hkeep
            have hrun11' : (Instr.entryStore 121 (.map (some M)) (.int .i64 sp) v9).run Tryz.prog w10 = .ok () w11 := hrun11
            have HRUN := Lib.hid hrun11'
            have HK11 := Lib.hid k11
            have hF : (fun g e => keysP s ((bv.take (k + 1)).map (·.1)) sec bfr g e) = fun g e => if g = bof ∧ e = bep then keysP s ((bv.take k).map (·.1)) sec bfr bof bep ++ [kk] else keysP s ((bv.take k).map (·.1)) sec bfr g e := by
              funext g e
              rw [HTK.out, keysP_snoc]
              simp only [HQ.out, Option.toList_some, true_and]
              by_cases hc : g = bof ∧ e = bep
              · rw [if_pos hc, if_pos ⟨hc.1.symm, hc.2.symm⟩, hc.1, hc.2]
              · rw [if_neg hc, if_neg (fun h => hc ⟨h.1.symm, h.2.symm⟩), List.append_nil]
            rw [← hF] at hadd
            have HADD := Lib.hid hadd
            clear hadd hkeep hF k11 hrun11 hrun11' hmap11 hg11 hE10' hE10 HST HK5 HK6 HK9 HO9 HB9 HE6 HAG HW5 HE7 HKS2
            go_wp2_with (first
              | (refine wpList_skipw (o := ⟨none, .entryStore _ _ _ _, _, _, _, _⟩) (w' := w11) ?_ ?_ ?_; exact exec_entryStore' rfl HRUN.out; rfl)
              | fail)
            refine ⟨HK11.out.mono (fun _ _ _ _ => trivial), ?_⟩
            refine FY.flow_end (fun w12 hE12 _ => ?_)
            replace hE12 : Ext w11 w12 := hE12
            have HE12 := Lib.hid hE12
            clear hE12
            go_wp2
            go_roundw
            case rel => exact ⟨k + 1, by omega, by go_num, Lib.hid ⟨m + 1, _, _, by omega, HADD.out.ext HE12.out⟩, Lib.hid (HKEEP.out.trans (Keep.of_ext HE12.out))⟩
            case measure => simp [vI]; omega
        · have hk1 : ((bk : Int) == 1) = true := by simp [hb1]
          have hk2 : ¬ (bfr : Int) = (who : Int) := by omega
          have hk3 : (bk : Int) = 1 := by omega
          have hk4 : ((bfr : Int) == (who : Int)) = false := by rw [beq_eq_false_iff_ne]; exact hk2
          have HF := Lib.hid (HSK.out (fun h => hb2 h.2))
          clear hb1 hb2
          go_wp2_with (first
            | (refine wpList_val (o := ⟨some 19, _, _, _, _, _⟩) (v := .agg #[.int .i64 (bk : Int), .int .u32 (bof : Int), .int .u32 (bep : Int), .int .u32 (bfr : Int), .int .u32 (bat : Int), .slice ac 108 cc]) ?_ ?_ ?_; exact exec_load_mid' rfl rfl HLD.out Tryz.underlying107 rfl hi6.out; rfl)
            | fail)
          go_roundw
          case rel => exact ⟨k + 1, by omega, by go_num, Lib.hid (by rw [HF.out]; obtain ⟨m, S', V', h1, h2⟩ := HKS.out; exact ⟨m, S', V', by omega, h2.ext ((Keep.refl _ wr).alloc _)⟩), Lib.hid (HKK.out.trans ((Keep.refl _ wr).alloc _))⟩
          case measure => simp [vI]; omega
      · have hk3 : ¬ (bk : Int) = 1 := by omega
        have hk1 : ((bk : Int) == 1) = false := by rw [beq_eq_false_iff_ne]; exact hk3
        have HF := Lib.hid (HSK.out (fun h => hb1 h.1))
        clear hb1
        go_wp2_with (first
          | (refine wpList_val (o := ⟨some 19, _, _, _, _, _⟩) (v := .agg #[.int .i64 (bk : Int), .int .u32 (bof : Int), .int .u32 (bep : Int), .int .u32 (bfr : Int), .int .u32 (bat : Int), .slice ac 108 cc]) ?_ ?_ ?_; exact exec_load_mid' rfl rfl HLD.out Tryz.underlying107 rfl hi6.out; rfl)
          | fail)
        go_roundw
        case rel => exact ⟨k + 1, by omega, by go_num, Lib.hid (by rw [HF.out]; obtain ⟨m, S', V', h1, h2⟩ := HKS.out; exact ⟨m, S', V', by omega, h2.ext ((Keep.refl _ wr).alloc _)⟩), Lib.hid (HKK.out.trans ((Keep.refl _ wr).alloc _))⟩
        case measure => simp [vI]; omega
    · obtain rfl : k = n := by omega
      obtain ⟨m, S', V', h1, h2⟩ := HKS.out
      rw [List.take_of_length_le (by have := HN.out; omega)] at h2
      have hfin := HR.out (.returned (.tuple #[])) wr ⟨rfl, ⟨m, S', V', h1, h2.lower HEW.out.size⟩, (Keep.of_ext HEW.out).trans HKK.out⟩
      clear HR HKS h2
      go_wp2
      exact bodyPost_end (results_none rfl _ _ _) rfl hfin
end Go.Proofs.YtcmhgpgookiomaaGreat
namespace Go.Proofs.YtcmhgpgookiomaaGreat
open Go.RowKit Go.Shelf Go.Maps

attribute [local go_sem] Oper.semAt_some

theorem flat32 {ks : List By} (h32 : ∀ k ∈ ks, k.length = 32) {i : Nat} {p : By} (h : ks[i]? = some p) {j : Nat} (hj : j < 32) : (flatK ks)[i * 32 + j]? = (p.map u8v)[j]? := by
  induction ks generalizing i with
  | nil => simp at h
  | cons q ks ih =>
    have hq := h32 q (List.mem_cons_self ..)
    unfold flatK at ih ⊢
    rw [List.flatMap_cons]
    cases i with
    | zero =>
      obtain rfl : q = p := by simpa using h
      rw [Nat.zero_mul, Nat.zero_add, List.getElem?_append_left (by rw [List.length_map, hq]; exact hj)]
    | succ i =>
      rw [List.getElem?_append_right (by rw [List.length_map, hq]; omega)]
      have : (i + 1) * 32 + j - (q.map u8v).length = i * 32 + j := by rw [List.length_map, hq]; omega
      rw [this]
      exact ih (fun k hk => h32 k (List.mem_cons_of_mem _ hk)) (by simpa using h)
theorem load_key {w : World} {b o n c : Nat} {ks : List By} (h : Row 32 w (some ⟨b, o, none⟩) n c (flatK ks)) (hn : 0 < n) (h32 : ∀ k ∈ ks, k.length = 32) {i : Nat} {p : By} (hi : ks[i]? = some p) : (loadCellsFrom ⟨b, o + i * 32, none⟩ 0 (p.map u8v).length #[]).run Tryz.prog w = .ok (p.map u8v).toArray w :=
  run_loadCells_list (P := Tryz.prog) (w := w) ⟨b, o + i * 32, none⟩ (p.map u8v) (fun j u hu => by
    have hj : j < 32 := by have := (List.getElem?_eq_some_iff.1 hu).1; rw [List.length_map, h32 p (List.mem_of_getElem? hi)] at this; exact this
    rw [addr_add]
    have := h.cell rfl ((flat32 h32 hi hj).trans hu) hn
    rwa [show o + i * 32 + j = o + (i * 32 + j) by omega])
theorem realmP_take {s : SSt} {ks : List By} {ct : By} {k : Nat} {p : By} (hp : ks[k]? = some p) (h : realmP s (ks.take k) ct = none) : realmP s (ks.take (k + 1)) ct = s.pl p ct := by
  unfold realmP at h ⊢
  rw [List.take_add_one, hp, List.findSome?_append, h]
  simp
theorem realmP_found {s : SSt} {ks : List By} {ct x : By} {k : Nat} (h : realmP s (ks.take k) ct = some x) : realmP s ks ct = some x := by
  unfold realmP at h ⊢
  rw [← List.take_append_drop k ks, List.findSome?_append, h]
  rfl

theorem exec_build_key0 (w : World) {o : Oper} (a : Act) (ho : o.op = .build 51 #[]) : (execOp a.eval o).run Tryz.prog w = .ok (.value (.agg (key0.map u8v).toArray)) w := by
  unfold execOp
  rw [ho]
  kernel_rfl

set_option maxRecDepth 20000 in
set_option maxHeartbeats 8000000 in
theorem realm_any {w : World} {Q TB A PL O M base n : Nat} {s : SSt} {vb : Value} {F : Nat → Nat → List By} {S : Lit → Option Value} {V : Nat → Nat → Value} (hs : SuiteAt w Q TB A PL s) (hO : Arr w O 123 [.pointer (some ⟨Q, 0, none⟩), vb, .map (some M)])
    (hM : KeysAt w base M n F S V) (b : BoxP) (hb : b.fr < 4294967296 ∧ b.at' < 4294967296) {ac : Option Addr} {cc : Nat} (hct : b.ct.length = 108) (hrow : Row 1 w ac 108 cc (b.ct.map u8v)) (h32 : ∀ k ∈ F b.fr b.at', k.length = 32) (hL : (F b.fr b.at').length ≤ 20000) :
    Calls Tryz.prog 67 #[.pointer (some ⟨O, 0, none⟩), .agg #[.int .i64 (b.kind : Int), .int .u32 (b.of : Int), .int .u32 (b.ep : Int), .int .u32 (b.fr : Int), .int .u32 (b.at' : Int), .slice ac 108 cc]] w fun e w' => Ext w w' ∧
      (realmP s (F b.fr b.at') b.ct = none → e = .returned (.tuple #[aggK key0, .bool false])) ∧ (∀ k, realmP s (F b.fr b.at') b.ct = some k → e = .returned (.tuple #[aggK k, .bool true])) := by
  obtain ⟨bk, bof, bep, bfr, bat, bct⟩ := b
  simp only at hb hct hrow h32 hL ⊢
  have HLPL := Lib.hid (fun p kk (h : s.pl p bct = some kk) => hs.lp p bct kk h)
  obtain ⟨kl, hkl⟩ := pair_lit bfr bat hb.1 hb.2
  obtain ⟨ks, hks⟩ : ∃ ks, F bfr bat = ks := ⟨_, rfl⟩
  have hown := hM.own bfr bat
  rw [hks] at hown h32 hL ⊢
  obtain ⟨a, c, hv, hrk⟩ := owns_row hown
  have hlook : ∀ B, Ext w B → (Instr.lookup 121 (.map (some M)) (.agg #[.int .u32 (bfr : Int), .int .u32 (bat : Int)]) false).run Tryz.prog B = .ok (.slice a ks.length c) B := fun B hB => by
    have h1 := (hM.map.ext hB).look1 law_pair Tryz.underlying121 (zero_keys B) hkl
    have hz : (S kl).getD (.slice none 0 0) = V bfr bat := by
      rw [hM.at' bfr bat kl hb.1 hb.2 hkl]
      split
      · rename_i hF
        exact (hM.nil bfr bat hF).symm
      · rfl
    rw [hz, hv] at h1
    exact h1
  have hun := fun p (hp : p.length = 32) B (hB : Ext w B) => unwrap_any (hs.ext hB) p bct hp hct ac cc (hrow.ext hB)
  obtain ⟨L, hLn⟩ : ∃ L, ks.length = L := ⟨_, rfl⟩
  rw [hLn] at hlook hrk hL
  obtain ⟨Z, hZ⟩ : ∃ Z, key0.map u8v = Z := ⟨_, rfl⟩
  have hZl : Z.length = 32 := by rw [← hZ, List.length_map, key0_len]
  have HZE := Lib.hid (show (List.replicate 32 (Value.int .u8 0)) = Z by rw [← hZ]; rfl)
  have hiZ := Lib.hid (show (Tryz.prog.info? 51).map (·.size) = some Z.toArray.size by rw [info_key, List.size_toArray, hZl])
  have h1Z := Lib.hid (show Z.toArray.all (·.oneCell') = true by rw [← hZ]; exact all_one _)
  have HZL := Lib.hid hZl
  have HBZ := Lib.hid (show ∀ (w : World) (o : Oper) (a : Act), o.op = .build 51 #[] → (execOp a.eval o).run Tryz.prog w = .ok (.value (.agg Z.toArray)) w from fun w o a ho => by rw [← hZ]; exact exec_build_key0 w a ho)
  unfold aggK
  rw [hZ]
  have HL := Lib.hid hLn
  have HLOOK := Lib.hid hlook
  have HROW := Lib.hid hrk
  have HUN := Lib.hid hun
  have H32 := Lib.hid h32
  have HO := Lib.hid hO
  clear hZ hZl hLn hlook hrk hun h32 hO hs hM hkl hks hown hv hrow hct hb
  refine calls_cps fun R0 hR => ?_
  have HR := Lib.hid hR
  clear hR
  go_enter Tryz.func67, Tryz.ntmps67
  go_upto_region 1 with fail
  refine wp_laid2 fun W eW hG1 hG2 => ?_
  have aB : Arr W w.heap.size 107 [.int .i64 (bk : Int), .int .u32 (bof : Int), .int .u32 (bep : Int), .int .u32 (bfr : Int), .int .u32 (bat : Int), .slice ac 108 cc] := hG1
  have aZ : Arr W (w.heap.size + 1) 51 Z := by rw [← HZE.out]; exact hG2
  have HEW := Lib.hid eW
  have aO := HO.out.ext eW
  clear hG1 hG2 eW
  have d0 := fun g : At W.drew => (aO.ext (((Keep.refl _ W).drew).trans g.ext)).cell (i := 2) rfl
  have d3 := fun g : At W.drew => (aB.ext (((Keep.refl _ W).drew).trans g.ext)).cell (i := 3) rfl
  have d4 := fun g : At W.drew => (aB.ext (((Keep.refl _ W).drew).trans g.ext)).cell (i := 4) rfl
  refine wp_flow (fun _ => .reads) (by kernel_rfl) (by kernel_rfl) ?_
  iterate 9 (refine flow_r rfl rfl ?_; go_big_quiet_step (fail); refine wpQuiet_nil ?_)
  refine flow_v (v := .slice a L c) rfl rfl (fun w' hE => exec_lookup' rfl (HLOOK.out w' ((HEW.out.drew).trans hE))) ?_
  simp only [Act.put, List.setIfInBounds_toArray, List.set_cons_succ, List.set_cons_zero]
  iterate 2 (refine flow_r rfl rfl ?_; go_big_quiet_step (fail); refine wpQuiet_nil ?_)
  clear d0 d3 d4
  refine flow_end (fun W0 hE0 _ => ?_)
  replace hE0 : Ext W W0 := ((Keep.refl _ W).drew).trans hE0
  have E0 := Lib.hid (HEW.out.trans hE0)
  have aB0 := Lib.hid (aB.ext hE0)
  have aO0 := Lib.hid (aO.ext hE0)
  have aZ0 := Lib.hid (aZ.ext hE0)
  clear hE0 aB aO aZ
  go_wp2
  go_loopw [21] (fun ix wr => ∃ k : Nat, k ≤ L ∧ ix = .int .i64 (k : Int) ∧ Hid (realmP s (ks.take k) bct = none) ∧ Hid (Ext W0 wr)) (fun ix _ => L - (vI ix).toNat)
  case atStart => exact ⟨0, by omega, rfl, Lib.hid rfl, Lib.hid (Keep.refl _ _)⟩
  case round =>
    obtain ⟨k, hk, rfl, HRP, HKK⟩ := hrel
    by_cases hlt : k < L
    · obtain ⟨p, hp⟩ : ∃ p, ks[k]? = some p := ⟨_, List.getElem?_eq_getElem (by have := HL.out; omega)⟩
      have hp32 := H32.out p (List.mem_of_getElem? hp)
      obtain ⟨bx, ox, rfl, hcell⟩ := HROW.out.2.2.2.2 (by omega)
      clear hcell
      have hld := load_key (HROW.out.ext (E0.out.trans HKK.out)) (by omega) H32.out hp
      have hrt := realmP_take hp HRP.out
      have hfound := fun x (h : realmP s (ks.take (k + 1)) bct = some x) => realmP_found (ks := ks) h
      obtain ⟨K, hK⟩ : ∃ K, p.map u8v = K := ⟨_, rfl⟩
      have hKl : K.length = 32 := by rw [← hK, List.length_map, hp32]
      have hiK := Lib.hid (show (Tryz.prog.info? 51).map (·.size) = some K.toArray.size by rw [info_key, List.size_toArray, hKl])
      have hiK' := Lib.hid (show (Tryz.prog.info? 51).map (·.size) = some K.length by rw [info_key, hKl])
      have hoK := Lib.hid (show 32 = K.toArray.size by rw [List.size_toArray, hKl])
      have h1K := Lib.hid (show K.toArray.all (·.oneCell') = true by rw [← hK]; exact all_one _)
      rw [hK] at hld
      have HLD := Lib.hid hld
      have hun := HUN.out p hp32
      unfold aggK at hun
      rw [hK] at hun
      obtain ⟨Rv, er, hR32, hR1, hcl, hres⟩ : ∃ (Rv : List Value) (er : Int), Rv.length = 32 ∧ Rv.toArray.all (·.oneCell') = true ∧ (∀ B, Ext w B → Calls Tryz.prog 66 #[.pointer (some ⟨Q, 0, none⟩), .agg K.toArray, .slice ac 108 cc] B fun e w' => Ext B w' ∧ e = .returned (.tuple #[.agg Rv.toArray, .int .i64 er])) ∧
          ((s.pl p bct = none ∧ er = 70) ∨ ∃ kk, s.pl p bct = some kk ∧ er = 0 ∧ Rv = kk.map u8v) := by
        cases hq : s.pl p bct with
        | none => exact ⟨key0.map u8v, 70, by rw [List.length_map, key0_len], all_one _, fun B hB => (hun B hB).mono (fun e w' h => ⟨h.1, h.2.1 hq⟩), .inl ⟨rfl, rfl⟩⟩
        | some kk => exact ⟨kk.map u8v, 0, by rw [List.length_map]; exact HLPL.out p kk hq, all_one _, fun B hB => (hun B hB).mono (fun e w' h => ⟨h.1, h.2.2 kk hq⟩), .inr ⟨kk, rfl, rfl, rfl⟩⟩
      have hiR := Lib.hid (show (Tryz.prog.info? 51).map (·.size) = some Rv.toArray.size by rw [info_key, List.size_toArray, hR32])
      have h1R := Lib.hid hR1
      have HR32 := Lib.hid hR32
      have HCL := Lib.hid hcl
      have HRES := Lib.hid hres
      have HRT := Lib.hid hrt
      have HFOUND := Lib.hid hfound
      clear hun hR32 hR1 hcl hres hld hrt hfound hp hK hKl hp32
      go_wp2_with (first
        | (refine wpList_val (o := ⟨some 24, _, _, _, _, _⟩) (v := .agg K.toArray) ?_ ?_ ?_; exact exec_load_mid' rfl rfl HLD.out Tryz.underlying51 rfl hiK'.out; rfl)
        | (refine wpList_skip0 (o := ⟨none, .store _ _ _, _, _, _, _⟩) (w' := wr.alloc (.cells K.toArray 51)) ?_ ?_ ?_ ?_; exact exec_store_new rfl rfl rfl hiK.out hoK.out h1K.out; rfl; rfl; refine wpList_laid1 fun W2 eW2 hG2 => ?_)
        | fail)
      have aK2 : Arr W2 wr.heap.size 51 K := hG2
      have aB := (aB0.out.ext HKK.out).ext eW2
      have aO := (aO0.out.ext HKK.out).ext eW2
      have HE2 := Lib.hid ((E0.out.trans HKK.out).trans eW2)
      have HE2' := Lib.hid (HKK.out.trans eW2)
      clear hG2 eW2
      have hX : ∀ B, Keep (fun k _ => W2.heap.size ≤ k) W2.drew B → Ext W2 B := fun B hB => (((Keep.refl (fun k _ => W2.heap.size ≤ k) W2).drew).trans hB).mono (fun k o ho hx => by have := Keep.lt ho; replace hx : W2.heap.size ≤ k := hx; omega)
      have d0 := fun g : FY.At (fun k _ => W2.heap.size ≤ k) W2.drew => (aO.ext (hX _ g.ext)).cell (i := 0) rfl
      have d5 := fun g : FY.At (fun k _ => W2.heap.size ≤ k) W2.drew => (aB.ext (hX _ g.ext)).cell (i := 5) rfl
      have HX := Lib.hid hX
      clear hX
      refine FY.wp_flow (X := fun k _ => W2.heap.size ≤ k) (0 :: 1 :: 2 :: 3 :: 4 :: 5 :: 6 :: 7 :: 8 :: 9 :: 10 :: 11 :: 12 :: 13 :: []) (fun n => if n = 7 then .grows (fun v _ => v = .tuple #[.agg Rv.toArray, .int .i64 er]) (fun v => v = .tuple #[.agg Rv.toArray, .int .i64 er]) else if n = 11 then .grows (NewCell W2.heap.size 51 32) PtrSh else if n = 12 then .bar else .still) (by kernel_rfl) (by kernel_rfl) ?_
      iterate 4 (refine FY.flow_q rfl rfl rfl ?_; go_big_quiet_step (fail); refine wpQuiet_nil ?_)
      refine FY.flow_vq (v := .agg K.toArray) rfl rfl rfl (fun w' hE => exec_load_row rfl rfl (aK2.ext (HX.out w' hE)) Tryz.underlying51 rfl hiK.out) ?_
      simp only [Act.put, List.setIfInBounds_toArray, List.set_cons_succ, List.set_cons_zero]
      iterate 2 (refine FY.flow_q rfl rfl rfl ?_; go_big_quiet_step (fail); refine wpQuiet_nil ?_)
      refine FY.flow_g rfl rfl rfl (by simp) ⟨_, rfl⟩ (fun _ _ _ h _ => h) (fun _ _ h => h) (fun w5 hE5 _ => ?_) (fun v hv => ?_)
      · have hcall := HCL.out w5 (HE2.out.trans (((Keep.refl _ W2).drew).trans hE5))
        clear d0 d5
        go_wp2_with fail
        refine hcall.mono ?_
        rintro e w6 ⟨hE6, rfl⟩
        clear hcall
        go_wp2
      subst hv
      simp only [Act.put, List.setIfInBounds_toArray, List.set_cons_succ, List.set_cons_zero]
      iterate 3 (refine FY.flow_q rfl rfl rfl ?_; go_big_quiet_step (fail); refine wpQuiet_nil ?_)
      refine FY.flow_g rfl rfl rfl (by simp) ⟨_, 0, rfl⟩ (fun v A B h hE => h.ext hE) (fun v A h => h.sh) (fun w5 hE5 _ => ?_) (fun v hv => ?_)
      · refine wpList_valw (exec_alloc_key w5 rfl) rfl (wpList_nil ?_)
        exact ⟨rfl, _, rfl, (Keep.refl _ w5).alloc _, newCell_key (((Keep.refl _ W2).drew).trans hE5)⟩
      obtain ⟨g1, rfl⟩ := hv
      simp only [Act.put, List.setIfInBounds_toArray, List.set_cons_succ, List.set_cons_zero]
      clear d0 d5
      refine FY.flow_ba rfl rfl rfl (by kernel_rfl) (fun w6 hE6 hf => ?_)
      have hnc : NewCell W2.heap.size 51 32 (.pointer (some ⟨g1, 0, none⟩)) w6 := hf 11
      have hE6' : Ext W2 w6 := ((Keep.refl _ W2).drew).trans hE6
      obtain ⟨_, C0, q, hb0, hlen0, hc0⟩ := hnc
      cases q
      have hK7 : Keep (fun k _ => W2.heap.size ≤ k) w6 (w6.setRow g1 Rv.toArray) := (keep_setRow w6 g1 Rv.toArray).mono (fun k o _ hx => by rw [hx]; exact hb0)
      have hE7 : Ext W2 (w6.setRow g1 Rv.toArray) := ((Keep.of_ext hE6').trans hK7).mono (fun k o ho hx => by have := Keep.lt ho; replace hx : W2.heap.size ≤ k := hx; omega)
      have hsz : C0.toArray.size = Rv.toArray.size := by rw [List.size_toArray, hlen0, List.size_toArray, HR32.out]
      have aR7 := hc0.setRow Rv
      have HK7 := Lib.hid hK7
      have HE7 := Lib.hid hE7
      have HSZ := Lib.hid hsz
      have HC0 := Lib.hid hc0
      have HA7 := Lib.hid aR7
      clear hf hE6 hE6' hK7 hE7 hsz hc0 hlen0 hb0 aR7
      go_wp2_with (first
        | (refine wpList_skipw (o := ⟨none, .store _ _ _, _, _, _, _⟩) (w' := w6.setRow g1 Rv.toArray) ?_ ?_ ?_; exact exec_store_row rfl rfl rfl HC0.out hiR.out HSZ.out h1R.out; rfl)
        | fail)
      refine ⟨HK7.out, ?_⟩
      refine FY.flow_q rfl rfl rfl ?_; go_big_quiet_step (fail); refine wpQuiet_nil ?_
      refine FY.flow_end (fun w8 hE8 _ => ?_)
      have hE28 : Ext W2 w8 := HE7.out.trans hE8
      have aR8 := HA7.out.ext hE8
      have HE8 := Lib.hid (HE2'.out.trans hE28)
      clear hE8 hE28 aB aO HK7 HE7 HSZ HC0 HA7 HX aK2
      rcases HRES.out with ⟨hq, rfl⟩ | ⟨kk, hq, rfl, hRv⟩
      · have hF : realmP s (ks.take (k + 1)) bct = none := by rw [HRT.out, hq]
        have HF := Lib.hid hF
        clear hF hq HRES aR8
        go_wp2
        go_roundw
        case rel => exact ⟨k + 1, by omega, by go_num, HF, HE8⟩
        case measure => simp [vI]; omega
      · have hF : realmP s ks bct = some kk := HFOUND.out kk (by rw [HRT.out, hq])
        have aZ8 := (aZ0.out.ext HE8.out)
        have HE9 := Lib.hid (E0.out.trans HE8.out)
        have hkS : Ext w (w8.setRow (w.heap.size + 1) Rv.toArray) := ((Keep.of_ext HE9.out).trans (keep_setRow w8 (w.heap.size + 1) _)).mono (fun k o ho hx => by have := Keep.lt ho; omega)
        have hRR := HR.out (.returned (.tuple #[.agg Rv.toArray, .bool true])) (w8.setRow (w.heap.size + 1) Rv.toArray) ⟨hkS, fun h => (by rw [hF] at h; cases h), fun k' h => (by rw [hF] at h; cases h; rw [hRv])⟩
        have hZs : Z.toArray.size = Rv.toArray.size := by rw [List.size_toArray, List.size_toArray, HZL.out, HR32.out]
        have hcell := aZ8.setRow Rv
        have HZS := Lib.hid hZs
        have HA8 := Lib.hid aZ8
        have HAR := Lib.hid aR8
        clear hF hq HRES HR hkS hZs hRv aZ8 aR8
        go_wp2_with (first
          | (refine wpList_val (o := ⟨some 38, _, _, _, _, _⟩) (v := .agg Rv.toArray) ?_ ?_ ?_; exact exec_load_row rfl rfl HAR.out Tryz.underlying51 rfl hiR.out; rfl)
          | (refine wpList_skipw (o := ⟨none, .store _ _ _, _, _, _, _⟩) (w' := w8.setRow (w.heap.size + 1) Rv.toArray) ?_ ?_ ?_; exact exec_store_row rfl rfl rfl HA8.out hiR.out HZS.out h1R.out; rfl)
          | fail)
        exact bodyPost_ret (results_cell_slot rfl _ _ (w.heap.size + 1) 51 Rv.toArray (0, 0) _ (.bool true) rfl rfl hcell Tryz.underlying51 rfl hiR.out) rfl hRR
    · obtain rfl : k = L := by omega
      have hF : realmP s ks bct = none := by have := HRP.out; rwa [List.take_of_length_le (by have := HL.out; omega)] at this
      have aZ8 := (aZ0.out.ext HKK.out)
      have hkS : Ext w (wr.setRow (w.heap.size + 1) Z.toArray) := ((Keep.of_ext (E0.out.trans HKK.out)).trans (keep_setRow wr (w.heap.size + 1) _)).mono (fun k o ho hx => by have := Keep.lt ho; omega)
      have hRR := HR.out (.returned (.tuple #[.agg Z.toArray, .bool false])) (wr.setRow (w.heap.size + 1) Z.toArray) ⟨hkS, fun _ => rfl, fun k' h => (by rw [hF] at h; cases h)⟩
      have hcell := aZ8.setRow Z
      have HA8 := Lib.hid aZ8
      clear hF HR hkS aZ8
      go_wp2_with (first
        | (refine wpList_val (o := ⟨some 40, _, _, _, _, _⟩) (v := .agg Z.toArray) ?_ ?_ ?_; exact HBZ.out _ _ _ rfl; rfl)
        | (refine wpList_skipw (o := ⟨none, .store _ _ _, _, _, _, _⟩) (w' := wr.setRow (w.heap.size + 1) Z.toArray) ?_ ?_ ?_; exact exec_store_row rfl rfl rfl HA8.out hiZ.out rfl h1Z.out; rfl)
        | fail)
      exact bodyPost_ret (results_cell_slot rfl _ _ (w.heap.size + 1) 51 Z.toArray (0, 0) _ (.bool false) rfl rfl hcell Tryz.underlying51 rfl hiZ.out) rfl hRR
end Go.Proofs.YtcmhgpgookiomaaGreat
