/-
  The table: slices.BinarySearchFunc over shards (chapter 18).
-/
import Derived.Test.YteepdknnmdhckaaTa1
namespace Go.Proofs.Yteepdknnmdhckaa
open Go Go.RowKit
set_option linter.unusedVariables false
set_option linter.unusedSimpArgs false
set_option maxRecDepth 100000
set_option maxHeartbeats 1000000
theorem half (lo hi : Nat) (h : lo < hi) : lo ≤ (lo + hi) / 2 ∧ (lo + hi) / 2 < hi := by omega
theorem bs_low {t : Int} {l : List Sh} (hr : Rise l) {lo : Nat} (h1 : ∀ j y, j < lo → l[j]? = some y → y.1 < t) {m : Nat} {y : Sh} (hm : l[m]? = some y) (hy : y.1 < t) : ∀ j z, j < m + 1 → l[j]? = some z → z.1 < t := fun j z hj hz => by
  by_cases e : j = m
  · subst e
    rw [hm] at hz
    cases hz
    exact hy
  · have := hr.lt hz hm (by omega)
    omega
theorem bs_high {t : Int} {l : List Sh} (hr : Rise l) {m : Nat} {y : Sh} (hm : l[m]? = some y) (hy : ¬ y.1 < t) : ∀ j z, m ≤ j → l[j]? = some z → ¬ z.1 < t := fun j z hj hz => by
  by_cases e : j = m
  · subst e
    rw [hm] at hz
    cases hz
    exact hy
  · have := hr.lt hm hz (by omega)
    omega
theorem cmpI_neg {x t : Int} (h : x < t) : cmpI x t = -1 := by simp [cmpI, h]
theorem cmpI_pos {x t : Int} (h : ¬ x < t) : ¬ cmpI x t < 0 := by unfold cmpI; rw [if_neg h]; split <;> omega
theorem cmpI_zero {x t : Int} : cmpI x t = 0 ↔ x = t := by
  unfold cmpI
  by_cases h1 : x < t
  · simp [h1]; omega
  · by_cases h2 : t < x
    · simp [h1, h2]; omega
    · simp [h1, h2]; omega
theorem bs_hit {t : Int} {l : List Sh} {lo : Nat} (hl : lo ≤ l.length) (h1 : ∀ j y, j < lo → l[j]? = some y → y.1 < t) (h2 : ∀ j y, lo ≤ j → l[j]? = some y → ¬ y.1 < t) : lowN t l = lo := lowN_eq t l lo hl h1 (fun y hy => h2 lo y (Nat.le_refl _) hy)
end Go.Proofs.Yteepdknnmdhckaa
