/-
  Cut: how long a shard is; whether two lists of texts are the same (chapters 6 and 5).
-/
import Derived.Test.YtibilabhokkhmaaDoorSl0
import Derived.Test.YtibilabhokkhmaaDoorLift3
namespace Go.Proofs.YtibilabhokkhmaaDoor
open Go.RowKit
set_option linter.unusedVariables false
set_option maxRecDepth 100000
set_option maxHeartbeats 1000000
/-- How long a shard is. -/
def sizeC (n k : Int) : Int := if n < 0 ∨ k < 1 then 0 else if n.tmod k = 0 then n.tdiv k else n.tdiv k + 1
theorem tdiv_small {n k : Int} (h0 : 0 ≤ n) (h1 : n ≤ 9223372036854775807) (hk : 1 ≤ k) : 0 ≤ n.tdiv k ∧ n.tdiv k ≤ n ∧ (n.tmod k ≠ 0 → n.tdiv k < n) ∧ 0 ≤ n.tmod k := by
  have e1 : n.tdiv k = n / k := Int.tdiv_eq_ediv_of_nonneg h0
  have e2 : n.tmod k = n % k := Int.tmod_eq_emod_of_nonneg h0
  rw [e1, e2]
  have h2 := Int.ediv_nonneg h0 (show 0 ≤ k by omega)
  have h3 := Int.ediv_le_self k h0
  refine ⟨h2, h3, fun hne => ?_, Int.emod_nonneg _ (by omega)⟩
  have h4 := Int.mul_ediv_add_emod n k
  have h5 := Int.emod_nonneg n (show k ≠ 0 by omega)
  have h6 : n / k ≤ k * (n / k) := by
    have := Int.mul_le_mul_of_nonneg_right hk h2
    omega
  omega
theorem sizes_c (n k : Int) (hn : -9223372036854775808 ≤ n ∧ n ≤ 9223372036854775807) (hk : -9223372036854775808 ≤ k ∧ k ≤ 9223372036854775807) (w : World) :
    Calls Tryd.prog 10 #[.int .i64 n, .int .i64 k] w (fun e w' => e = .returned (.int .i64 (sizeC n k)) ∧ w' = w) ∧
    Calls Tryd.prog 11 #[.int .i64 n, .int .i64 k] w (fun e w' => e = .returned (.int .i64 (sizeC n k)) ∧ w' = w) := by
  by_cases h0 : n < 0
  · have e : sizeC n k = 0 := by unfold sizeC; rw [if_pos (.inl h0)]
    rw [e]
    clear e
    constructor
    · go_enter Tryd.func10, Tryd.ntmps10
      go_wp2_with fail
      go_ret
      exact ⟨rfl, rfl⟩
    · go_enter Tryd.func11, Tryd.ntmps11
      go_wp2_with fail
      go_ret
      exact ⟨rfl, rfl⟩
  · by_cases h1 : k < 1
    · have e : sizeC n k = 0 := by unfold sizeC; rw [if_pos (.inr h1)]
      rw [e]
      clear e
      constructor
      · go_enter Tryd.func10, Tryd.ntmps10
        go_wp2_with fail
        go_ret
        exact ⟨rfl, rfl⟩
      · go_enter Tryd.func11, Tryd.ntmps11
        go_wp2_with fail
        go_ret
        exact ⟨rfl, rfl⟩
    · have e : sizeC n k = if n.tmod k = 0 then n.tdiv k else n.tdiv k + 1 := by unfold sizeC; rw [if_neg (by omega)]
      obtain ⟨g1, g2, g3, g4⟩ := tdiv_small (n := n) (k := k) (by omega) hn.2 (by omega)
      have hz : ¬ k = 0 := by omega
      have hz' : (k == 0) = false := by simp [hz]
      rw [e]
      clear e
      have d1 : n / k = n.tdiv k := (Int.tdiv_eq_ediv_of_nonneg (by omega)).symm
      have d2 : n % k = n.tmod k := (Int.tmod_eq_emod_of_nonneg (by omega)).symm
      obtain ⟨q, hq⟩ : ∃ q, n.tdiv k = q := ⟨_, rfl⟩
      obtain ⟨r, hr⟩ : ∃ r, n.tmod k = r := ⟨_, rfl⟩
      rw [hq] at d1 g1 g2 g3 ⊢
      rw [hr] at d2 g3 g4 ⊢
      have hw : wrap64 q = q := IntWalk.wrap64_in _ (by omega)
      by_cases h2 : r = 0
      · subst h2
        rw [if_pos rfl]
        constructor
        · go_enter Tryd.func10, Tryd.ntmps10
          go_wp2_with fail
          go_ret
          exact ⟨rfl, rfl⟩
        · go_enter Tryd.func11, Tryd.ntmps11
          go_wp2_with fail
          go_ret
          exact ⟨rfl, rfl⟩
      · have h3 : 0 < r := by omega
        have h4 := g3 h2
        have hw1 : wrap64 (q + 1) = q + 1 := IntWalk.wrap64_in _ (by omega)
        rw [if_neg h2]
        clear g3
        constructor
        · go_enter Tryd.func10, Tryd.ntmps10
          go_wp2_with fail
          go_ret
          exact ⟨rfl, rfl⟩
        · go_enter Tryd.func11, Tryd.ntmps11
          go_wp2_with fail
          go_ret
          exact ⟨rfl, rfl⟩
end Go.Proofs.YtibilabhokkhmaaDoor
