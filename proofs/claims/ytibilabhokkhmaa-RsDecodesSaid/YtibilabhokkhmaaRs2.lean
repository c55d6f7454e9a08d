/-
  More shards than needed: why data may not be; so many shards, each by its number (chapter 5).
-/
import Derived.Test.YtibilabhokkhmaaRs1
namespace Go.Proofs.Ytibilabhokkhmaa
open Go.RowKit
set_option linter.unusedVariables false
set_option maxRecDepth 100000
set_option maxHeartbeats 1000000
def checkS (ds : List (List UInt8)) : Int := if ds.length < 1 ∨ 32 < ds.length then 1 else if (ds.headD []).length < 1 ∨ 1024 < (ds.headD []).length then 3 else if ds.any (fun t => decide (t.length ≠ (ds.headD []).length)) then 16 else 0
def mayS (ds : List (List UInt8)) (n : Int) : Int := if checkS ds ≠ 0 then checkS ds else if n < (ds.length : Int) ∨ 255 < n then 1 else 0
theorem checkS_ok {ds : List (List UInt8)} (h : checkS ds = 0) : 1 ≤ ds.length ∧ ds.length ≤ 32 ∧ 1 ≤ (ds.headD []).length ∧ (ds.headD []).length ≤ 1024 ∧ ∀ t ∈ ds, t.length = (ds.headD []).length := by
  unfold checkS at h
  split at h
  · cases h
  · rename_i h1
    split at h
    · cases h
    · rename_i h2
      split at h
      · cases h
      · rename_i h3
        refine ⟨by omega, by omega, by omega, by omega, fun t ht => ?_⟩
        rw [List.any_eq_true] at h3
        exact Classical.byContradiction fun hne => h3 ⟨t, ht, by simpa using hne⟩
theorem rscheck_any (B : Nat) (v : Value) (ds : List (List UInt8)) (w : World) (h : SlAt B w 9 v (ds.map Str)) : Calls Try.prog 72 #[v] w fun e w' => e = .returned (.int .i64 (checkS ds)) ∧ w' = w := by
  obtain ⟨a, cap, rfl, hm, hat⟩ := strs_at h
  clear h
  by_cases h1 : ds.length < 1 ∨ 32 < ds.length
  · have e : checkS ds = 1 := by unfold checkS; rw [if_pos h1]
    rw [e]
    clear e hat
    by_cases h2 : ds.length < 1
    · have h3 : (ds.length : Int) < 1 := by omega
      clear h1 h2
      go_enter Try.func72, Try.ntmps72
      go_wp2_with fail
      go_ret
      exact ⟨rfl, rfl⟩
    · have h3 : ¬ (ds.length : Int) < 1 := by omega
      have h4 : (32 : Int) < (ds.length : Int) := by omega
      clear h1 h2
      go_enter Try.func72, Try.ntmps72
      go_wp2_with fail
      go_ret
      exact ⟨rfl, rfl⟩
  · have g1 : ¬ (ds.length : Int) < 1 := by omega
    have g2 : ¬ (32 : Int) < (ds.length : Int) := by omega
    have hp : 0 < ds.length := by omega
    have hpi : (0 : Int) < (ds.length : Int) := by omega
    have hhd : ds.headD [] = ds[0] := by
      cases ds with
      | nil => simp at hp
      | cons x ts => rfl
    obtain ⟨g, off, rfl, hg, c0⟩ := hat 0 hp
    rw [Nat.add_zero] at c0
    by_cases h2 : ds[0].length < 1 ∨ 1024 < ds[0].length
    · have e : checkS ds = 3 := by unfold checkS; rw [if_neg h1, hhd, if_pos h2]
      rw [e]
      clear e hat hhd h1
      generalize ds[0] = d0 at *
      by_cases h3 : d0.length < 1
      · have h4 : (d0.length : Int) < 1 := by omega
        clear h2 h3
        go_enter Try.func72, Try.ntmps72
        go_wp2_with fail
        go_ret
        exact ⟨rfl, rfl⟩
      · have h4 : ¬ (d0.length : Int) < 1 := by omega
        have h5 : (1024 : Int) < (d0.length : Int) := by omega
        clear h2 h3
        go_enter Try.func72, Try.ntmps72
        go_wp2_with fail
        go_ret
        exact ⟨rfl, rfl⟩
    · have h4 : ¬ (ds[0].length : Int) < 1 := by omega
      have h5 : ¬ (1024 : Int) < (ds[0].length : Int) := by omega
      have e : checkS ds = if ds.any (fun t => decide (t.length ≠ ds[0].length)) then 16 else 0 := by unfold checkS; rw [if_neg h1, hhd, if_neg h2]
      have HE := Lib.hid e
      obtain ⟨L, hL⟩ : ∃ L, ds[0].length = L := ⟨_, rfl⟩
      rw [hL] at HE h4 h5
      generalize checkS ds = z at *
      clear e hhd h1 h2
      have hat' : ∀ k (hk : k < ds.length), w.cell? ⟨g, off + k, none⟩ = some (Str ds[k]) := fun k hk => by
        obtain ⟨_, _, e, _, hc⟩ := hat k hk
        cases e
        exact hc
      clear hat
      generalize hd0 : ds[0] = d0 at *
      clear hd0
      go_enter Try.func72, Try.ntmps72
      go_wp2_with fail
      clear c0
      go_loopw [5, 26] (fun _ i wr => ∃ k : Nat, k ≤ ds.length ∧ i = .int .i64 k ∧ Hid (∀ t ∈ ds.take k, t.length = L) ∧ wr = w) (fun _ i _ => ds.length - (intOf i).toNat)
      case atStart => exact ⟨0, Nat.zero_le _, rfl, Lib.hid (by simp), rfl⟩
      case round =>
        obtain ⟨k, hk, rfl, hall, hw⟩ := hrel
        have hw' := hw.symm
        subst hw'
        clear hw
        by_cases hlt : k < ds.length
        · have ck := hat' k hlt
          have hk2 : (k : Int) < (ds.length : Int) := by omega
          have HTK := Lib.hid (List.take_succ_eq_append_getElem hlt)
          have HMM := Lib.hid (List.getElem_mem hlt)
          clear hat'
          by_cases he : ds[k].length = L
          · have HA := Lib.hid (fun t (ht : t ∈ ds.take (k + 1)) => show t.length = L by
              rw [HTK.out] at ht
              rcases List.mem_append.1 ht with h | h
              · exact hall.out t h
              · rw [List.mem_singleton.1 h]; exact he)
            have hne2 : ((ds[k].length : Int) != (L : Int)) = false := by simp [he]
            clear HTK HMM hall
            generalize ds[k] = x at *
            go_wp2_with fail
            go_roundw
            case rel => exact ⟨k + 1, hlt, by go_num, HA, by trivial⟩
            case measure => simp [intOf]; omega
          · have hz : z = 16 := by
              rw [HE.out, if_pos]
              rw [List.any_eq_true]
              exact ⟨_, HMM.out, by simpa using he⟩
            have hne2 : ((ds[k].length : Int) != (L : Int)) = true := by simp; omega
            have hne3 : ¬ (ds[k].length : Int) = (L : Int) := by omega
            clear HTK HMM hall HE
            subst hz
            generalize ds[k] = x at *
            go_wp2_with fail
            go_ret
            exact ⟨rfl, rfl⟩
        · obtain rfl : k = ds.length := by omega
          have hz : z = 0 := by
            rw [HE.out, if_neg]
            rw [List.any_eq_true]
            rintro ⟨t, ht, h⟩
            have := hall.out t (by rw [List.take_length]; exact ht)
            simp [this] at h
          subst hz
          have hlt' : ¬ (ds.length : Int) < (ds.length : Int) := by omega
          clear hall HE
          go_wp2_with fail
          go_ret
          exact ⟨rfl, rfl⟩
theorem rsmay_any (B : Nat) (v : Value) (ds : List (List UInt8)) (n : Int) (w : World) (h : SlAt B w 9 v (ds.map Str)) : Calls Try.prog 61 #[v, .int .i64 n] w fun e w' => e = .returned (.int .i64 (mayS ds n)) ∧ w' = w := by
  have HC := Lib.hid (rscheck_any B v ds w h)
  obtain ⟨a, cap, rfl, hm, _⟩ := strs_at h
  clear h
  by_cases h1 : checkS ds = 0
  · by_cases h2 : n < (ds.length : Int) ∨ 255 < n
    · have e : mayS ds n = 1 := by unfold mayS; rw [if_neg (by omega), if_pos h2]
      rw [h1] at HC
      rw [e]
      by_cases h3 : n < (ds.length : Int)
      · clear h2 e h1
        go_enter Try.func61, Try.ntmps61
        go_wp2_with fail
        refine HC.out.mono ?_
        rintro e w1 ⟨rfl, rfl⟩
        go_wp2_with fail
        go_ret
        exact ⟨rfl, rfl⟩
      · have h4 : 255 < n := by omega
        clear h2 e h1
        go_enter Try.func61, Try.ntmps61
        go_wp2_with fail
        refine HC.out.mono ?_
        rintro e w1 ⟨rfl, rfl⟩
        go_wp2_with fail
        go_ret
        exact ⟨rfl, rfl⟩
    · have e : mayS ds n = 0 := by unfold mayS; rw [if_neg (by omega), if_neg h2]
      rw [h1] at HC
      rw [e]
      have h3 : ¬ n < (ds.length : Int) := by omega
      have h4 : ¬ 255 < n := by omega
      clear h2 e h1
      go_enter Try.func61, Try.ntmps61
      go_wp2_with fail
      refine HC.out.mono ?_
      rintro e w1 ⟨rfl, rfl⟩
      go_wp2_with fail
      go_ret
      exact ⟨rfl, rfl⟩
  · have e : mayS ds n = checkS ds := by unfold mayS; rw [if_pos h1]
    have hne : (checkS ds != 0) = true := by simpa using h1
    rw [e]
    clear e
    generalize checkS ds = z at *
    go_enter Try.func61, Try.ntmps61
    go_wp2_with fail
    refine HC.out.mono ?_
    rintro e w1 ⟨rfl, rfl⟩
    go_wp2_with fail
    go_ret
    exact ⟨rfl, rfl⟩
end Go.Proofs.Ytibilabhokkhmaa
