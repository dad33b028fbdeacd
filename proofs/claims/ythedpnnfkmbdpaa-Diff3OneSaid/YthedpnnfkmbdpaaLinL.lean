/-
  lines.Lines, lines.Split.
-/
import Derived.Test.YthedpnnfkmbdpaaLinK
namespace Go.Proofs.Ythedpnnfkmbdpaa
open Go.RowKit Go.Shelf

attribute [local go_sem] Oper.semAt_some

theorem out_emit {s : ByteArray} {i : Nat} {x : ByteArray} (hi : i < s.size) (h : ¬ (s[i]? ≠ some 10 ∧ i + 1 < s.size)) (hx : s.extract (outTo s i).2 (i + 1) = x) :
    outTo s (i + 1) = ((outTo s i).1 ++ [x], i + 1) ∧ (refL s)[(outTo s i).1.length]? = some x := by
  have h1 : outTo s (i + 1) = ((outTo s i).1 ++ [x], i + 1) := by rw [outTo, if_neg h, hx]
  refine ⟨h1, ?_⟩
  have hp := out_prefix s (i + 1) s.size (by omega)
  rw [outL_ref, h1] at hp
  obtain ⟨t, ht⟩ := hp
  rw [← ht]
  simp

set_option maxHeartbeats 2000000 in
theorem lines1_iter (ps : Nat) (s : ByteArray) (hs : s.size ≤ 100000) :
    Iter Try.prog 30 #[.pointer (some ⟨ps, 0, none⟩)] (refL s).length False
      (fun k _ args => ∃ x, (refL s)[k]? = some x ∧ args = #[.int .i64 (k : Int), .string x])
      (fun A => Boxed A ps 9 (.string s)) (fun _ => False) (fun b => b = ps) := by
  intro l' J Jx W hPre hJ hJx hY _ h0
  obtain ⟨n, hn⟩ : ∃ n, s.size = n := ⟨_, rfl⟩
  have hle := outTo_le s
  have hem : ∀ i, i < n → ¬ (s[i]? ≠ some 10 ∧ i + 1 < n) → ∀ x, s.extract (outTo s i).2 (i + 1) = x → outTo s (i + 1) = ((outTo s i).1 ++ [x], i + 1) ∧ (refL s)[(outTo s i).1.length]? = some x := fun i hi h x hx => out_emit (by omega) (by rw [hn]; exact h) hx
  have hno : ∀ i, (s[i]? ≠ some 10 ∧ i + 1 < n) → outTo s (i + 1) = outTo s i := fun i h => by rw [outTo, if_pos (by rw [hn]; exact h)]
  have hfin := outL_ref s
  rw [hn] at hfin hs
  have HEM := Lib.hid hem
  have HNO := Lib.hid hno
  have HFI := Lib.hid hfin
  have HLE := Lib.hid hle
  clear hem hno hfin hle
  refine callsIn_wide.1 (callsIn_of_wp (F := Fence.wide) (n := 3) Try.func30 rfl trivial ?_ rfl)
  simp only [Try.ntmps30, List.size_toArray, List.length_cons, List.length_nil, Nat.reduceAdd, Nat.reduceSub, Array.replicate_succ, Array.replicate_zero, List.push_toArray, List.append_toArray, List.nil_append, List.cons_append]
  refine wpIn_wide.2 (wp_scope_straight ((wpIn_wide (n := 3)).1 ?_))
  have cS := hPre.cell
  gi_wp2
  refine wpIn_label ?_
  gi_wp2
  gi_loopw [3, 4, 8] (fun fr nr ix wr => ∃ (i f k : Nat), i ≤ n ∧ ix = .int .i64 i ∧ fr = .int .i64 f ∧ nr = .int .i64 k ∧ f ≤ i ∧ k ≤ i ∧ Hid (∀ _ : Unit, (outTo s i).2 = f ∧ (outTo s i).1.length = k) ∧ J k wr ∧ Boxed wr ps 9 (.string s)) (fun _ _ ix _ => n - (intOf ix).toNat)
  case atStart => exact ⟨0, 0, 0, by omega, rfl, rfl, rfl, by omega, by omega, Lib.hid (fun _ => ⟨rfl, rfl⟩), h0, hPre⟩
  case round =>
    clear cS
    obtain ⟨i, f, k, hi, rfl, rfl, rfl, hf, hkk, HP, hJk, hB⟩ := hrel
    by_cases hlt : i < n
    · have cS := hB.cell
      obtain ⟨b, hb⟩ := str_get (s := s) (i := i) (by omega)
      have hix := index_str s i b hb
      by_cases hb10 : b = 10
      · subst hb10
        have hix' : ∀ w, (Instr.index 9 (.string s) (.int .i64 (i : Int))).run Try.prog w = .ok (.int .u8 10) w := hix
        clear hix
        obtain ⟨he1, he2⟩ := HEM.out i hlt (fun h => h.1 hb) (s.extract f (i + 1)) (by rw [(HP.out ()).1])
        rw [(HP.out ()).2] at he2
        have hkN : k < (refL s).length := (List.getElem?_eq_some_iff.1 he2).1
        have HP' := Lib.hid (fun _ : Unit => And.intro (show (outTo s (i + 1)).2 = i + 1 by rw [he1]) (show (outTo s (i + 1)).1.length = k + 1 by rw [he1]; simp [(HP.out ()).2]))
        obtain ⟨fn, tmps, assign, body, hy, hRd⟩ := hY k wr #[.int .i64 (k : Int), .string (s.extract f (i + 1))] hkN hJk ⟨_, he2, rfl⟩
        have HK := Lib.hid hkN
        clear hb he1 he2 hkN HP
        gi_wp2
        refine (roundIn_wide hRd).mono ?_
        rintro e W3 (⟨rfl, hJ3, hK3⟩ | ⟨rfl, hJx3⟩)
        · have hB3 := hK3.boxed hB (fun h => h rfl)
          have cB3 := hB3.cell
          gi_wp2
          go_roundw
          case rel => exact ⟨i + 1, i + 1, k + 1, by omega, by go_num, by go_num, by go_num, by omega, by omega, HP', hJ3, hB3⟩
          case measure => simp [intOf]; omega
        · gi_wp2
          rw [Exit.noGoto_ret]
          refine bodyPost_ret (results_none rfl _ _ _) rfl ?_
          exact ⟨⟨_, rfl⟩, .inr ⟨k, HK.out, hJx3⟩⟩
      · have hne : ((b.toNat : Int) == 10) = false := by
          simp only [beq_eq_false_iff_ne, ne_eq]
          intro h
          exact hb10 (UInt8.toNat.inj (by show b.toNat = 10; omega))
        have hne1 : ¬ (b.toNat : Int) = 10 := by simpa using hne
        have hne2 : ((b.toNat : Int) != 10) = true := by simpa using hne1
        by_cases hlast : i + 1 < n
        · have HP' := Lib.hid (fun _ : Unit => show (outTo s (i + 1)).2 = f ∧ (outTo s (i + 1)).1.length = k by rw [HNO.out i ⟨fun h => hb10 (by rw [hb] at h; cases h; rfl), hlast⟩]; exact HP.out ())
          clear hb HP
          gi_wp2
          go_roundw
          case rel => exact ⟨i + 1, f, k, by omega, by go_num, rfl, rfl, by omega, by omega, HP', hJk, hB⟩
          case measure => simp [intOf]; omega
        · obtain ⟨he1, he2⟩ := HEM.out i hlt (fun h => hlast h.2) (s.extract f (i + 1)) (by rw [(HP.out ()).1])
          rw [(HP.out ()).2] at he2
          have hkN : k < (refL s).length := (List.getElem?_eq_some_iff.1 he2).1
          have HP' := Lib.hid (fun _ : Unit => And.intro (show (outTo s (i + 1)).2 = i + 1 by rw [he1]) (show (outTo s (i + 1)).1.length = k + 1 by rw [he1]; simp [(HP.out ()).2]))
          obtain ⟨fn, tmps, assign, body, hy, hRd⟩ := hY k wr #[.int .i64 (k : Int), .string (s.extract f (i + 1))] hkN hJk ⟨_, he2, rfl⟩
          have HK := Lib.hid hkN
          clear hb he1 he2 hkN HP
          gi_wp2
          refine (roundIn_wide hRd).mono ?_
          rintro e W3 (⟨rfl, hJ3, hK3⟩ | ⟨rfl, hJx3⟩)
          · have hB3 := hK3.boxed hB (fun h => h rfl)
            have cB3 := hB3.cell
            gi_wp2
            go_roundw
            case rel => exact ⟨i + 1, i + 1, k + 1, by omega, by go_num, by go_num, by go_num, by omega, by omega, HP', hJ3, hB3⟩
            case measure => simp [intOf]; omega
          · gi_wp2
            rw [Exit.noGoto_ret]
            refine bodyPost_ret (results_none rfl _ _ _) rfl ?_
            exact ⟨⟨_, rfl⟩, .inr ⟨k, HK.out, hJx3⟩⟩
    · obtain rfl : i = n := by omega
      have hkN : (refL s).length = k := by rw [← HFI.out]; exact (HP.out ()).2
      have HK := Lib.hid hkN
      clear hkN HP
      gi_wp2
      rw [Exit.noGoto_normal]
      go_end0
      exact ⟨⟨_, rfl⟩, .inl (by rw [HK.out]; exact hJk)⟩
end Go.Proofs.Ythedpnnfkmbdpaa
