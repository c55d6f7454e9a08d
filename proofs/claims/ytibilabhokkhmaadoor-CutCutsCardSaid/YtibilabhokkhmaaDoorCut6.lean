/-
  Cut: the document's Join (chapter 6).
-/
import Derived.Test.YtibilabhokkhmaaDoorCut4
namespace Go.Proofs.YtibilabhokkhmaaDoor
open Go.RowKit
set_option linter.unusedVariables false
set_option maxRecDepth 100000
set_option maxHeartbeats 400000
theorem flat_succ (T : List (List UInt8)) (k : Nat) (h : k < T.length) : (T.take (k + 1)).flatten = (T.take k).flatten ++ T[k] := by
  rw [List.take_succ_eq_append_getElem h, List.flatten_append, List.flatten_cons, List.flatten_nil, List.append_nil]
theorem flat_le (T : List (List UInt8)) (k : Nat) : (T.take k).flatten.length ≤ T.flatten.length := by
  have := congrArg (fun l => (List.flatten l).length) (List.take_append_drop k T)
  simp only [List.flatten_append, List.length_append] at this
  omega
theorem flat_lt (T : List (List UInt8)) (k : Nat) (h : k < T.length) : (T.take k).flatten.length + T[k].length ≤ T.flatten.length := by
  have := flat_le T (k + 1)
  rwa [flat_succ T k h, List.length_append] at this
theorem all_zero {F : List UInt8} {L : Nat} (h : ∀ r (hr : r < F.length), L ≤ r → F[r] = 0) : (F.drop L).all (· == 0) = true := by
  rw [List.all_eq_true]
  intro x hx
  obtain ⟨i, hi, rfl⟩ := List.mem_iff_getElem.1 hx
  rw [List.getElem_drop, h _ _ (Nat.le_add_right _ _)]
  rfl
theorem not_all_zero {F : List UInt8} {L r : Nat} (hr : r < F.length) (hL : L ≤ r) (h : F[r] ≠ 0) : ¬ (F.drop L).all (· == 0) = true := by
  rw [List.all_eq_true]
  intro hall
  have := hall F[r] (by
    rw [List.mem_iff_getElem]
    refine ⟨r - L, by simp; omega, ?_⟩
    rw [List.getElem_drop]
    congr 1
    omega)
  exact h (by simpa using this)
/-- The document's Join. -/
theorem rjoin_c (B : Nat) (v : Value) (T : List (List UInt8)) (len : Int) (w : World) (h : SlAt B w 9 v (T.map Str)) (hN : T.length ≤ 1000) (hT : T.flatten.length ≤ 1000000) :
    Calls Tryd.prog 13 #[v, .int .i64 len] w fun e w' => e = .returned (.tuple #[Str (joinC T len).1, .int .i64 (joinC T len).2]) ∧ Drawn w w' := by
  have h0 := h
  obtain ⟨a, cap, rfl, hm, hat⟩ := strs_at h
  by_cases hne : T = []
  · subst hne
    go_enter Tryd.func13, Tryd.ntmps13
    go_wp2_with fail
    go_ret2
    exact ⟨rfl, Drawn.refl _⟩
  · have hpos : 0 < T.length := List.length_pos_iff.2 hne
    have hl0 : ¬ (T.length : Int) = 0 := by omega
    have hlb : ((T.length : Int) == 0) = false := by simp; omega
    have eT : joinC T len = if T.any (fun t => decide (t.length ≠ (T.headD []).length)) then ([], 16)
      else if len < 0 ∨ len > (T.flatten.length : Int) then ([], 2)
      else if (T.flatten.drop len.toNat).all (· == 0) then (T.flatten.take len.toNat, 0) else ([], 5) := by
        unfold joinC
        rw [if_neg hne]
    have hhd : T.headD [] = T[0] := by
      cases T with
      | nil => exact absurd rfl hne
      | cons x ts => rfl
    rw [hhd] at eT
    generalize hJ : joinC T len = J at *
    have HE := Lib.hid eT
    have HT := Lib.hid hT
    clear hJ eT hhd hne hat h hT
    go_enter Tryd.func13, Tryd.ntmps13
    go_wp2_with fail
    clear hl0 hlb
    go_loopw [6, 7] (fun sv i wr => ∃ k : Nat, k ≤ T.length ∧ i = .int .i64 k ∧ sv = Str ((T.take k).flatten) ∧ Hid (∀ t ∈ T.take k, t.length = T[0].length) ∧ Drawn w wr) (fun _ i _ => T.length - (intOf i).toNat)
    case atStart => exact ⟨0, by omega, rfl, rfl, Lib.hid (by simp), Drawn.refl _⟩
    case round =>
      obtain ⟨k, hk, rfl, rfl, hall, hd⟩ := hrel
      by_cases hlt : k < T.length
      · obtain ⟨_, _, e, _, h1⟩ := strs_at (h0.chain hd.below)
        cases e
        obtain ⟨g1, o1, rfl, hg1, c1⟩ := h1 k hlt
        obtain ⟨g2, o2, e, _, c2⟩ := h1 0 hpos
        cases e
        rw [Nat.add_zero] at c2
        clear h1
        have hfs := Lib.hid (flat_succ T k hlt)
        have hfl := flat_lt T k hlt
        have hk2 : (k : Int) < (T.length : Int) := by omega
        have hp2 : (0 : Int) < (T.length : Int) := by omega
        have hmem : T[k] ∈ T := List.getElem_mem hlt
        have HM := Lib.hid hmem
        have HTK := Lib.hid (List.take_succ_eq_append_getElem hlt)
        clear hmem
        by_cases he : T[k].length = T[0].length
        · have hs5 : ¬ 9223372036854775807 < (T.take k).flatten.length + T[k].length := by have := HT.out; omega
          have hap := app_c
          have HEQ := Lib.hid he
          have hne2 : ((T[k].length : Int) != (T[0].length : Int)) = false := by simp [he]
          clear he hfl
          generalize (T.take k).flatten = X at *
          generalize T[k] = Y at *
          generalize T[0] = Z at *
          go_wp2_with fail
          go_quiet (fail)
          go_wp2_with fail
          go_roundw
          case rel => exact ⟨k + 1, by omega, by go_num, by rw [hfs.out], Lib.hid (fun t ht => by
            rw [HTK.out] at ht
            rcases List.mem_append.1 ht with h | h
            · exact hall.out t h
            · rw [List.mem_singleton.1 h]; exact HEQ.out), hd.trans (Drawn.of_drewN _ _)⟩
          case measure => simp [intOf]; omega
        · have hJ : J = ([], 16) := by
            rw [HE.out, if_pos]
            rw [List.any_eq_true]
            exact ⟨_, HM.out, by simpa using he⟩
          have hne2 : ((T[k].length : Int) != (T[0].length : Int)) = true := by simp; omega
          have hne3 : ¬ (T[k].length : Int) = (T[0].length : Int) := by omega
          clear HE HM hfs hfl HTK hall
          generalize (T.take k).flatten = X at *
          generalize T[k] = Y at *
          generalize T[0] = Z at *
          subst hJ
          go_wp2_with fail
          go_quiet (fail)
          go_wp2_with fail
          go_ret2
          exact ⟨rfl, hd.trans (Drawn.of_drewN _ _)⟩
      · obtain rfl : k = T.length := by omega
        have hany : ¬ T.any (fun t => decide (t.length ≠ T[0].length)) = true := by
          rw [List.any_eq_true]
          rintro ⟨t, ht, h⟩
          have := hall.out t (by rw [List.take_length]; exact ht)
          simp [this] at h
        have hE := HE.out
        rw [if_neg hany] at hE
        rw [List.take_length]
        have hFl := HT.out
        clear HE HT hall hany
        generalize T.flatten = F at *
        have hlt' : ¬ (T.length : Int) < (T.length : Int) := by omega
        by_cases hbad : len < 0 ∨ len > (F.length : Int)
        · rw [if_pos hbad] at hE
          subst hE
          by_cases h2 : len < 0
          · clear hbad
            go_wp2_with fail
            go_ret2
            exact ⟨rfl, hd⟩
          · have h3 : (F.length : Int) < len := by omega
            clear hbad
            go_wp2_with fail
            go_ret2
            exact ⟨rfl, hd⟩
        · rw [if_neg hbad] at hE
          obtain ⟨L, rfl⟩ : ∃ L : Nat, len = L := ⟨len.toNat, by omega⟩
          have h2 : ¬ (L : Int) < 0 := by omega
          have h3 : ¬ (F.length : Int) < L := by omega
          have hLF : L ≤ F.length := by omega
          rw [Int.toNat_natCast] at hE
          have HEE := Lib.hid hE
          clear hE hbad
          go_wp2_with fail
          clear h2 h3
          go_loopw [8] (fun i w2 => ∃ q : Nat, L ≤ q ∧ q ≤ F.length ∧ i = .int .i64 q ∧ Hid (∀ r (hr : r < F.length), L ≤ r → r < q → F[r] = 0) ∧ w2 = wr) (fun i _ => F.length - (intOf i).toNat)
          case atStart => exact ⟨L, Nat.le_refl _, hLF, rfl, Lib.hid (fun r hr h1 h2 => by omega), rfl⟩
          case round =>
            obtain ⟨q, hq1, hq2, rfl, hz, hw2⟩ := hrel
            have hw3 := hw2.symm
            subst hw3
            clear hw2
            by_cases hlq : q < F.length
            · have hl1 : (q : Int) < (F.length : Int) := by omega
              have hl2 : (0 : Int) ≤ (q : Int) := by omega
              obtain ⟨x, hx⟩ : ∃ x, F[q] = x := ⟨_, rfl⟩
              have hix : ∀ h, (⟨F.toArray⟩ : ByteArray)[q]'h = x := fun h => hx
              by_cases he : x = 0
              · have HZ := Lib.hid (fun r (hr : r < F.length) (h1 : L ≤ r) (h2 : r < q + 1) => show F[r] = 0 by
                  rcases Nat.lt_or_ge r q with h | h
                  · exact hz.out r hr h1 h
                  · obtain rfl : r = q := by omega
                    exact hx.trans he)
                rw [he] at hix
                clear hz he hx
                go_wp2_with fail
                go_roundw
                case rel => exact ⟨q + 1, by omega, by omega, by go_num, HZ, by trivial⟩
                case measure => simp [intOf]; omega
              · have hJ : J = ([], 5) := by rw [HEE.out, if_neg (not_all_zero hlq hq1 (by rw [hx]; exact he))]
                have hne3 : ¬ x.toNat = 0 := fun e => he (UInt8.toNat_inj.1 (by simpa using e))
                have hne2 : ((x.toNat : Int) != 0) = true := by
                  simp
                  omega
                subst hJ
                clear hz HEE hx
                go_wp2_with fail
                go_ret2
                exact ⟨rfl, hd⟩
            · obtain rfl : q = F.length := by omega
              have hJ : J = (F.take L, 0) := by rw [HEE.out, if_pos (all_zero (fun r hr h1 => hz.out r hr h1 hr))]
              subst hJ
              clear hz HEE
              have hl1 : ¬ (F.length : Int) < (F.length : Int) := by omega
              have hl2 : (L : Int) ≤ (F.length : Int) := by omega
              have hl3 : (0 : Int) ≤ (L : Int) := by omega
              have hex : (⟨F.toArray⟩ : ByteArray).extract 0 L = ⟨(F.take L).toArray⟩ := by rw [ext_list, List.drop_zero]
              go_wp2_with fail
              go_ret2
              exact ⟨rfl, hd⟩
end Go.Proofs.YtibilabhokkhmaaDoor
