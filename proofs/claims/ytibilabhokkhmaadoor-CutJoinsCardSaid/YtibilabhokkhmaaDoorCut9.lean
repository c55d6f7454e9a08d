/-
  Cut: the laws' walks (chapter 6).
-/
import Derived.Test.YtibilabhokkhmaaDoorCut7
import Derived.Test.YtibilabhokkhmaaDoorCut8
namespace Go.Proofs.YtibilabhokkhmaaDoor
open Go.RowKit
set_option linter.unusedVariables false
set_option maxRecDepth 100000
set_option maxHeartbeats 1000000
theorem cuts_walk (s : List UInt8) (k len : Int) (hs : s.length ≤ 9223372036854775807) (hk : -9223372036854775808 ≤ k ∧ k ≤ 9223372036854775807) (hl : -9223372036854775808 ≤ len ∧ len ≤ 9223372036854775807) (w : World) :
    Calls Tryd.prog 3 #[Str s, .int .i64 k, .int .i64 len] w fun e w' => e = .returned (.bool true) ∧ Below w.heap.size w w' := by
  by_cases hbig : 40000 < s.length
  · have h1 : (40000 : Int) < (s.length : Int) := by omega
    go_enter Tryd.func3, Tryd.ntmps3
    go_wp2_with fail
    refine (awake06 _).mono ?_
    rintro e w1 ⟨rfl, hb1⟩
    go_wp2_with fail
    go_ret
    exact ⟨rfl, hb1⟩
  · have h1 : ¬ (40000 : Int) < (s.length : Int) := by omega
    have H1 := Lib.hid (cut_c s k hk)
    have H2 := Lib.hid (rcut_c s k hk)
    have H3 := Lib.hid (fun w => (sizes_c len k hl hk w).1)
    have H4 := Lib.hid (fun w => (sizes_c len k hl hk w).2)
    clear hk hl hbig
    generalize cutE s k = E at *
    generalize cutT s k = T at *
    generalize sizeC len k = z at *
    go_enter Tryd.func3, Tryd.ntmps3
    go_wp2_with fail
    refine (H1.out _).mono ?_
    rintro e w1 ⟨v1, rfl, hv1, hb1⟩
    obtain ⟨a1, p1, rfl, _⟩ := strs_at hv1
    have HV1 := Lib.hid hv1
    clear hv1
    go_wp2_with fail
    refine (H2.out _).mono ?_
    rintro e w2 ⟨v2, rfl, hv2, hb2⟩
    obtain ⟨a2, p2, rfl, _⟩ := strs_at hv2
    have HV2 := Lib.hid hv2
    have HV3 := Lib.hid (HV1.out.chain hb2)
    have hB2 := Below.chain hb2 hb1
    clear hv2 hb1 hb2
    go_wp2_with fail
    refine (texts_c _ HV3.out HV2.out).mono ?_
    rw [show textsB T T = true from by simp [textsB]]
    rintro e w3 ⟨rfl, hd3⟩
    have hB3 := Below.chain hd3.below hB2
    clear hd3 hB2
    go_wp2_with fail
    refine (H3.out _).mono ?_
    rintro e w4 ⟨rfl, rfl⟩
    go_wp2_with fail
    refine (H4.out _).mono ?_
    rintro e w5 ⟨rfl, rfl⟩
    go_wp2_with fail
    refine (awake06 _).mono ?_
    rintro e w6 ⟨rfl, hb6⟩
    have hB6 := Below.chain hb6 hB3
    clear hb6 hB3
    go_wp2_with fail
    go_ret
    exact ⟨rfl, hB6⟩
theorem flat_bd (T : List (List UInt8)) (h : ∀ t ∈ T, t.length ≤ 200) : T.flatten.length ≤ T.length * 200 := by
  induction T with
  | nil => simp
  | cons x T ih =>
    rw [List.flatten_cons, List.length_append, List.length_cons, Nat.succ_mul]
    have h1 := h x (by simp)
    have h2 := ih (fun t ht => h t (by simp [ht]))
    omega
theorem joins_walk (B : Nat) (v : Value) (T : List (List UInt8)) (len : Int) (w : World) (h : SlAt B w 9 v (T.map Str)) :
    Calls Tryd.prog 4 #[v, .int .i64 len] w fun e w' => e = .returned (.bool true) ∧ Below w.heap.size w w' := by
  have h0 := h
  obtain ⟨a, cap, rfl, hm, hat⟩ := strs_at h
  by_cases hbig : 40 < T.length
  · have h1 : (40 : Int) < (T.length : Int) := by omega
    clear hat h
    go_enter Tryd.func4, Tryd.ntmps4
    go_wp2_with fail
    refine (awake06 _).mono ?_
    rintro e w1 ⟨rfl, hb1⟩
    go_wp2_with fail
    go_ret
    exact ⟨rfl, hb1⟩
  · have h1 : ¬ (40 : Int) < (T.length : Int) := by omega
    have H0 := Lib.hid h0
    clear h h0
    go_enter Tryd.func4, Tryd.ntmps4
    go_wp2_with fail
    clear h1
    go_loopw [5] (fun i wr => ∃ k : Nat, k ≤ T.length ∧ i = .int .i64 k ∧ Hid (∀ t ∈ T.take k, t.length ≤ 200) ∧ wr = w) (fun i _ => T.length - (intOf i).toNat)
    case atStart => exact ⟨0, Nat.zero_le _, rfl, Lib.hid (by simp), rfl⟩
    case round =>
      obtain ⟨k, hk, rfl, hall, hw⟩ := hrel
      have hw' := hw.symm
      subst hw'
      clear hw
      by_cases hlt : k < T.length
      · obtain ⟨g1, o1, rfl, hg1, c1⟩ := hat k hlt
        have hk2 : (k : Int) < (T.length : Int) := by omega
        have HTK := Lib.hid (List.take_succ_eq_append_getElem hlt)
        clear hat
        by_cases h2 : 200 < T[k].length
        · have h3 : (200 : Int) < (T[k].length : Int) := by omega
          clear HTK hall h2
          generalize T[k] = Y at *
          go_wp2_with fail
          refine (awake06 _).mono ?_
          rintro e w1 ⟨rfl, hb1⟩
          go_wp2_with fail
          go_ret
          exact ⟨rfl, hb1⟩
        · have h3 : ¬ (200 : Int) < (T[k].length : Int) := by omega
          have HA := Lib.hid (fun t (ht : t ∈ T.take (k + 1)) => show t.length ≤ 200 by
            rw [HTK.out] at ht
            rcases List.mem_append.1 ht with h | h
            · exact hall.out t h
            · rw [List.mem_singleton.1 h]; omega)
          clear HTK hall h2
          generalize T[k] = Y at *
          go_wp2_with fail
          go_roundw
          case rel => exact ⟨k + 1, hlt, by go_num, HA, by trivial⟩
          case measure => simp [intOf]; omega
      · obtain rfl : k = T.length := by omega
        have hall' := hall.out
        rw [List.take_length] at hall'
        have hfl : T.flatten.length ≤ 1000000 := by
          have := flat_bd T hall'
          omega
        have HJ1 := Lib.hid (join_c B _ T len w H0.out (by omega) hfl)
        have HJ2 := Lib.hid (fun w' (h' : Below w.heap.size w w') => rjoin_c B _ T len w' (H0.out.chain h') (by omega) hfl)
        have hlt' : ¬ (T.length : Int) < (T.length : Int) := by omega
        generalize joinC T len = J at *
        obtain ⟨x, z⟩ := J
        clear hall hall' hfl hat hlt hbig
        go_wp2_with fail
        refine HJ1.out.mono ?_
        rintro e w1 ⟨rfl, hb1⟩
        go_wp2_with fail
        refine (HJ2.out _ hb1).mono ?_
        rintro e w2 ⟨rfl, hd2⟩
        have hB2 := Below.chain hd2.below hb1
        clear hb1 hd2 HJ1 HJ2
        go_wp2_with fail
        refine (awake06 _).mono ?_
        rintro e w3 ⟨rfl, hb3⟩
        have hB3 := Below.chain hb3 hB2
        clear hb3 hB2
        go_wp2_with fail
        go_ret
        exact ⟨rfl, hB3⟩
theorem back_walk (s : List UInt8) (k : Int) (hs : s.length ≤ 9223372036854775807) (hk : 0 ≤ k ∧ k ≤ 255) (w : World) :
    Calls Tryd.prog 5 #[Str s, .int .u8 k] w fun e w' => e = .returned (.bool true) ∧ Below w.heap.size w w' := by
  by_cases hbig : 2000 < s.length
  · have h1 : (2000 : Int) < (s.length : Int) := by omega
    go_enter Tryd.func5, Tryd.ntmps5
    go_wp2_with fail
    refine (awake06 _).mono ?_
    rintro e w1 ⟨rfl, hb1⟩
    go_wp2_with fail
    go_ret
    exact ⟨rfl, hb1⟩
  · have h1 : ¬ (2000 : Int) < (s.length : Int) := by omega
    obtain ⟨q, hq⟩ : ∃ q : Nat, k % 32 = (q : Int) := ⟨(k % 32).toNat, by omega⟩
    have hq32 : q < 32 := by omega
    have e1 : k.tmod 32 = (q : Int) := by rw [Int.tmod_eq_emod_of_nonneg hk.1]; exact hq
    have e2 : IntKind.u8.wrap (q : Int) = (q : Int) := IntWalk.u8_in _ (by omega)
    have e3 : IntKind.i64.wrap (q : Int) = (q : Int) := IntWalk.i64_in _ (by omega)
    have e4 : wrap64 ((q : Int) + 1) = ((q + 1 : Nat) : Int) := by rw [IntWalk.wrap64_in _ (by omega)]; omega
    have e5 : wrap64 (1024 * ((q : Int) + 1)) = 1024 * ((q : Int) + 1) := IntWalk.wrap64_in _ (by omega)
    clear hk
    have H1 := cut_c s ((q : Int) + 1) (by omega)
    by_cases hbad : s = [] ∨ (s.length : Int) > ((q : Int) + 1) * 1024
    · have hE : cutE s ((q : Int) + 1) = 3 := by unfold cutE; rw [if_neg (by omega), if_pos hbad]
      rw [hE] at H1
      have HC := Lib.hid (H1 w)
      clear H1 hE
      by_cases hs0 : s = []
      · subst hs0
        clear hbad hbig
        go_enter Tryd.func5, Tryd.ntmps5
        go_wp2_with fail
        refine HC.out.mono ?_
        rintro e w1 ⟨v1, rfl, hv1, hb1⟩
        obtain ⟨a1, p1, rfl, _⟩ := strs_at hv1
        clear hv1
        go_wp2_with fail
        refine (awake06 _).mono ?_
        rintro e w6 ⟨rfl, hb6⟩
        have hB6 := Below.chain hb6 hb1
        clear hb6 hb1
        go_wp2_with fail
        go_ret
        exact ⟨rfl, hB6⟩
      · have h3 : s.isEmpty = false := by simpa using hs0
        have h4 : 1024 * ((q : Int) + 1) < (s.length : Int) := by
          rcases hbad with h | h
          · exact absurd h hs0
          · omega
        clear hbad hbig hs0
        go_enter Tryd.func5, Tryd.ntmps5
        go_wp2_with fail
        refine HC.out.mono ?_
        rintro e w1 ⟨v1, rfl, hv1, hb1⟩
        obtain ⟨a1, p1, rfl, _⟩ := strs_at hv1
        clear hv1
        go_wp2_with fail
        refine (awake06 _).mono ?_
        rintro e w6 ⟨rfl, hb6⟩
        have hB6 := Below.chain hb6 hb1
        clear hb6 hb1
        go_wp2_with fail
        go_ret
        exact ⟨rfl, hB6⟩
    · have hs0 : s ≠ [] := fun e => hbad (.inl e)
      have hpos : 0 < s.length := List.length_pos_iff.2 hs0
      have hle : s.length ≤ (q + 1) * 1024 := by omega
      obtain ⟨n, hn, hn2, hn1, _⟩ := size_facts s.length (q + 1) (by omega) (by omega) hpos hle
      have hE : cutE s ((q : Int) + 1) = 0 := by unfold cutE; rw [if_neg (by omega), if_neg hbad]
      have hT : cutT s ((q : Int) + 1) = partsC s n (q + 1) := by
        unfold cutT
        rw [hE, if_pos rfl, show ((q : Int) + 1) = ((q + 1 : Nat) : Int) by omega, hn]
        rfl
      rw [hE, hT] at H1
      have hTl : (partsC s n (q + 1)).length = q + 1 := by simp [partsC]
      have hb := parts_bound s n (q + 1) (by omega) hn1
      have hj := join_back s n (q + 1) (by omega) hn2
      have HJ : ∀ w1 v1, SlAt 0 w1 9 v1 ((partsC s n (q + 1)).map Str) → Calls Tryd.prog 12 #[v1, .int .i64 (s.length : Nat)] w1 fun e w' => e = .returned (.tuple #[Str s, .int .i64 0]) ∧ Below w1.heap.size w1 w' := fun w1 v1 hv => by
        have := join_c 0 v1 _ (s.length : Nat) w1 hv hb.1 hb.2
        rw [hj] at this
        exact this
      have HJJ := Lib.hid HJ
      have HC := Lib.hid (H1 w)
      have HL := Lib.hid hTl
      clear H1 hE hT hTl hb hj HJ hn hn2 hn1 hle hbad hbig hpos
      generalize partsC s n (q + 1) = T at *
      go_enter Tryd.func5, Tryd.ntmps5
      go_wp2_with fail
      refine HC.out.mono ?_
      rintro e w1 ⟨v1, rfl, hv1, hb1⟩
      have hcall := HJJ.out _ _ hv1
      obtain ⟨a1, p1, rfl, _⟩ := strs_at hv1
      rw [HL.out] at hcall ⊢
      have HCJ := Lib.hid hcall
      clear hv1 hcall
      go_wp2_with fail
      refine HCJ.out.mono ?_
      rintro e w2 ⟨rfl, hb2⟩
      have hB2 := Below.chain hb2 hb1
      clear hb1 hb2
      go_wp2_with fail
      refine (awake06 _).mono ?_
      rintro e w6 ⟨rfl, hb6⟩
      have hB6 := Below.chain hb6 hB2
      clear hb6 hB2
      go_wp2_with fail
      go_ret
      exact ⟨rfl, hB6⟩
end Go.Proofs.YtibilabhokkhmaaDoor
