/-
  chacha.Keystream: an endless iterator.
-/
import Derived.Test.YtijpbbjblenhaaaChE
import Derived.Test.YtijpbbjblenhaaaArrIn
namespace Go.Proofs.Ytijpbbjblenhaaa
open Go.RowKit Go.Shelf

attribute [local go_sem] Oper.semAt_some

def ctrAt (n : UInt32) (k : Nat) : UInt32 := n + UInt32.ofNat k
theorem ctrAt_zero (n : UInt32) : ctrAt n 0 = n := by simp [ctrAt]
theorem ctrAt_succ (n : UInt32) (k : Nat) : ctrAt n k + 1 = ctrAt n (k + 1) := by
  unfold ctrAt
  rw [UInt32.ofNat_add, UInt32.add_assoc]; rfl
def ctrIdx (n : UInt32) (pc : Nat) (w : World) : Nat := match w.cell? ⟨pc, 0, none⟩ with
  | some (.int _ c) => ((c - (n.toNat : Int)) % 4294967296).toNat
  | _ => 0
theorem ctrIdx_at {n : UInt32} {pc k : Nat} {w : World} (hk : k < 4294967296) (h : w.cell? ⟨pc, 0, none⟩ = some (.int .u32 ((ctrAt n k).toNat : Int))) : ctrIdx n pc w = k := by
  unfold ctrIdx
  rw [h]
  simp only [ctrAt, UInt32.toNat_add, UInt32.toNat_ofNat']
  have := n.toNat_lt
  omega

set_option maxRecDepth 20000 in
set_option maxHeartbeats 4000000 in
theorem keystream1_iter (pk pc pn : Nat) (key nonce : List UInt8) (n : UInt32) (N : Nat) (hk : key.length = 32) (hn : nonce.length = 12) (hN : N < 4294967296) (h1 : pk ≠ pc) (h2 : pn ≠ pc) :
    Iter Try.prog 23 #[.pointer (some ⟨pk, 0, none⟩), .pointer (some ⟨pc, 0, none⟩), .pointer (some ⟨pn, 0, none⟩)] N True
      (fun k A args => args = #[aggB (blockL key (ctrAt n k) nonce)] ∧ Arr A pk 25 (key.map u8v) ∧ Boxed A pc 22 (.int .u32 ((ctrAt n k).toNat : Int)) ∧ Arr A pn 26 (nonce.map u8v))
      (fun A => Arr A pk 25 (key.map u8v) ∧ Boxed A pc 22 (.int .u32 (n.toNat : Int)) ∧ Arr A pn 26 (nonce.map u8v))
      (fun b => b = pc) (fun b => b = pk ∨ b = pc ∨ b = pn) := by
  intro l' J Jx W hPre hJ hJx hY hinf h0
  have hb : ∀ k w, Calls Try.prog 11 #[.agg (key.map u8v).toArray, .int .u32 ((ctrAt n k).toNat : Int), .agg (nonce.map u8v).toArray] w fun e w' => e = .returned (aggB (blockL key (ctrAt n k) nonce)) ∧ Ext w w' := fun k w => block_any key nonce (ctrAt n k) w hk hn
  have hik := Lib.hid (show (Try.prog.info? 25).map (·.size) = some (key.map u8v).toArray.size by rw [info_key]; simp [hk])
  have hin := Lib.hid (show (Try.prog.info? 26).map (·.size) = some (nonce.map u8v).toArray.size by rw [info_nonce]; simp [hn])
  obtain ⟨cK, hcK⟩ : ∃ c, key.map u8v = c := ⟨_, rfl⟩
  obtain ⟨cN, hcN⟩ : ∃ c, nonce.map u8v = c := ⟨_, rfl⟩
  rw [hcK] at hPre hb hik hY
  rw [hcN] at hPre hb hin hY
  have HNE := Lib.hid (And.intro h1 h2)
  clear hcK hcN hk hn h1 h2
  refine callsIn_wide.1 (callsIn_of_wp (F := Fence.wide) (n := 3) Try.func23 rfl trivial ?_ rfl)
  simp only [Try.ntmps23, List.size_toArray, List.length_cons, List.length_nil, Nat.reduceAdd, Nat.reduceSub, Array.replicate_succ, Array.replicate_zero, List.push_toArray, List.append_toArray, List.nil_append, List.cons_append]
  gi_wp2
  gi_loopw [12] (fun _ wr => ∃ k : Nat, k ≤ N ∧ J k wr ∧ Arr wr pk 25 cK ∧ Boxed wr pc 22 (.int .u32 ((ctrAt n k).toNat : Int)) ∧ Arr wr pn 26 cN) (fun _ wr => N - ctrIdx n pc wr)
  case atStart => exact ⟨0, by omega, h0, hPre.1, by rw [ctrAt_zero]; exact hPre.2.1, hPre.2.2⟩
  case round =>
    obtain ⟨k, hk, hJk, hK, hC, hNo⟩ := hrel
    by_cases hlt : k < N
    · have cC := hC.cell
      have hbk := hb k
      obtain ⟨V, hV⟩ : ∃ V, aggB (blockL key (ctrAt n k) nonce) = V := ⟨_, rfl⟩
      rw [hV] at hbk
      have hidx := ctrIdx_at (n := n) (k := k) (by omega) cC
      have hsucc := congrArg UInt32.toNat (ctrAt_succ n k)
      rw [UInt32.toNat_add] at hsucc
      have hadd : (((ctrAt n k).toNat : Int) + 1) % 4294967296 = ((ctrAt n (k + 1)).toNat : Int) := by
        rw [← hsucc]; show _ = (((_ % 4294967296 : Nat)) : Int); simp
      have hidx2 : ∀ w', w'.cell? ⟨pc, 0, none⟩ = some (.int .u32 ((ctrAt n (k + 1)).toNat : Int)) → ctrIdx n pc w' = k + 1 := fun w' h => ctrIdx_at (by omega) h
      obtain ⟨c0, hc0⟩ : ∃ c, ctrAt n k = c := ⟨_, rfl⟩
      obtain ⟨c1, hc1⟩ : ∃ c, ctrAt n (k + 1) = c := ⟨_, rfl⟩
      rw [hc0] at hC hadd cC hbk
      rw [hc1] at hadd hidx2
      have HI := Lib.hid hidx
      have HI2 := Lib.hid hidx2
      have HV := Lib.hid (show (#[V] : Array Value) = #[aggB (blockL key (ctrAt n k) nonce)] by rw [hV])
      have HC1 := Lib.hid hc1
      have HC0 := Lib.hid hc0
      clear hidx hidx2 hsucc hc0 hc1 hV hb
      gi_wp2_with (first | (refine wpListIn_load_row ?_ 25 (.tmp 1) ?_ pk ?_ 25 cK.toArray (0, 0) _ ?_ Try.underlying25 rfl hik.out ?_; rfl; rfl; rfl; exact hK) | (refine wpListIn_load_row ?_ 26 (.tmp 3) ?_ pn ?_ 26 cN.toArray (0, 0) _ ?_ Try.underlying26 rfl hin.out ?_; rfl; rfl; rfl; exact hNo))
      refine ⟨trivial, (callsIn_wide.2 (hbk wr)).mono ?_⟩
      rintro e w2 ⟨rfl, e2⟩
      have hJ2 := hJ _ _ _ hJk (Keep.of_ext e2)
      have hK2 := hK.ext e2
      have hC2 := e2.boxed hC
      have hN2 := hNo.ext e2
      obtain ⟨fn, tmps, assign, body, hy, hRd⟩ := hY k w2 #[V] hlt hJ2 ⟨HV.out, hK2, by rw [HC0.out]; exact hC2, hN2⟩
      have hKn := HNE.out.1
      have hNn := HNE.out.2
      clear hbk hJk hK hC hNo e2 hY cC
      gi_wp2
      refine (roundIn_wide hRd).mono ?_
      rintro e W3 (⟨rfl, hJ3, hK3⟩ | ⟨rfl, hJx3⟩)
      · have aK := hK2.keep hK3 (fun h => h (.inl rfl))
        have aC := hK3.boxed hC2 (fun h => h (.inr (.inl rfl)))
        have aN := hN2.keep hK3 (fun h => h (.inr (.inr rfl)))
        have c3 := aC.cell
        have f3 := aC.frozen
        have aC4 := aC.set (.int .u32 (c1.toNat : Int))
        have k4 := keep_setCell W3 pc 0 (.int .u32 (c1.toNat : Int))
        have aK4 := aK.keep k4 hKn
        have aN4 := aN.keep k4 hNn
        have hJ4 := hJ _ _ _ hJ3 k4
        have hm := HI2.out _ aC4.cell
        rw [← HC1.out] at aC4
        clear hRd hy hK3 hJ3 hK2 hC2 hN2 aK aC aN k4
        gi_wp2
        rw [HC1.out] at aC4
        go_roundw
        case rel => exact ⟨k + 1, by omega, hJ4, aK4, by rw [HC1.out]; exact aC4, aN4⟩
        case measure => rw [HI.out, hm]; omega
      · clear hy hRd
        gi_wp2
        refine bodyPost_ret (results_none rfl _ _ _) rfl ?_
        exact ⟨⟨_, rfl⟩, .inr ⟨k, hlt, hJx3⟩⟩
    · obtain rfl : k = N := by omega
      exact (hinf trivial _ hJk).elim
end Go.Proofs.Ytijpbbjblenhaaa
