/-
  Numbers that go round (chapter 8): how far ahead, less, within.
-/
import Derived.Test.YtgfbhclkpephnaaSeg
namespace Go.Proofs.Ytgfbhclkpephnaa
open Go Go.RowKit
set_option linter.unusedVariables false
set_option linter.unusedSimpArgs false
set_option maxRecDepth 100000
set_option maxHeartbeats 1000000
/-- How far b is ahead of a. -/
def ahead (a b : Int) : Int := if (b - a) % 4294967296 < 2147483648 then (b - a) % 4294967296 else (b - a) % 4294967296 - 4294967296
theorem to_any (a b : Int) (w : World) : Calls Try.prog 85 #[.int .u32 a, .int .u32 b] w fun e w' => e = .returned (.int .i64 (ahead a b)) ∧ w' = w := by
  have h1 : wrap64 (wrap32 ((b - a) % 4294967296)) = ahead a b := by
    unfold ahead wrap64 wrap32
    split <;> omega
  have H1 := Lib.hid h1
  clear h1
  go_enter Try.func85, Try.ntmps85
  go_wp2_with fail
  go_ret
  exact ⟨by rw [← H1.out]; rfl, rfl⟩
theorem ahead_any (a b : Int) (w : World) : Calls Try.prog 57 #[.int .u32 a, .int .u32 b] w fun e w' => e = .returned (.int .i64 (ahead a b)) ∧ w' = w := by
  have hmf : ∀ (fn : Fn) (first cap : Array Value) (w : World), (Instr.makeFunc fn first cap).run Try.prog w = .ok (.func fn first cap) w := fun _ _ _ _ => rfl
  have H := Lib.hid (to_any a b w)
  go_enter Try.func57, Try.ntmps57
  go_wp2_with fail
  refine H.out.mono ?_
  rintro e w1 ⟨rfl, rfl⟩
  go_wp2_with fail
  go_ret
  exact ⟨rfl, rfl⟩
theorem less_any (a b : Int) (w : World) : Calls Try.prog 56 #[.int .u32 a, .int .u32 b] w fun e w' => e = .returned (.bool (decide (0 < ahead a b))) ∧ w' = w := by
  have H := Lib.hid (ahead_any a b w)
  generalize ahead a b = x at *
  go_enter Try.func56, Try.ntmps56
  go_wp2_with fail
  refine H.out.mono ?_
  rintro e w1 ⟨rfl, rfl⟩
  go_wp2_with fail
  go_ret
  exact ⟨by simp, rfl⟩
theorem within_any (x base n : Int) (w : World) : Calls Try.prog 84 #[.int .u32 x, .int .u32 base, .int .i64 n] w fun e w' => e = .returned (.bool (decide (0 ≤ ahead base x) && decide (ahead base x < n))) ∧ w' = w := by
  have H := Lib.hid (ahead_any base x w)
  generalize ahead base x = d at *
  by_cases h1 : 0 ≤ d
  · by_cases h2 : d < n
    · go_enter Try.func84, Try.ntmps84
      go_wp2_with fail
      refine H.out.mono ?_
      rintro e w1 ⟨rfl, rfl⟩
      go_wp2_with fail
      go_ret
      exact ⟨by simp [h1, h2], rfl⟩
    · go_enter Try.func84, Try.ntmps84
      go_wp2_with fail
      refine H.out.mono ?_
      rintro e w1 ⟨rfl, rfl⟩
      go_wp2_with fail
      go_ret
      exact ⟨by simp [h1, h2], rfl⟩
  · go_enter Try.func84, Try.ntmps84
    go_wp2_with fail
    refine H.out.mono ?_
    rintro e w1 ⟨rfl, rfl⟩
    go_wp2_with fail
    go_ret
    exact ⟨by simp; omega, rfl⟩
end Go.Proofs.Ytgfbhclkpephnaa
