/-
  Frag: what Cut answers, any text (chapter 49).
-/
import Derived.Test.YtgfbhclkpephnaaFr2
namespace Go.Proofs.Ytgfbhclkpephnaa
open Go.RowKit
set_option linter.unusedVariables false
set_option maxRecDepth 100000
set_option maxHeartbeats 1000000
theorem fragE_ok {s : List UInt8} {size : Int} (h : fragE s size = 0) : ∃ n : Nat, size = (n : Int) ∧ 1 ≤ n ∧ n ≤ 1024 ∧ 0 < s.length ∧ s.length ≤ 255 * n := by
  unfold fragE at h
  by_cases h1 : size < 1 ∨ size > 1024
  · rw [if_pos h1] at h
    cases h
  · rw [if_neg h1] at h
    by_cases h2 : s = [] ∨ (s.length : Int) > 255 * size
    · rw [if_pos h2] at h
      cases h
    · have h3 : s ≠ [] := fun e => h2 (.inl e)
      have h4 := List.length_pos_iff.2 h3
      exact ⟨size.toNat, by omega, by omega, by omega, h4, by have : ¬ (s.length : Int) > 255 * size := fun e => h2 (.inr e); omega⟩
theorem fcut_any (id : Int) (i0 : 0 ≤ id) (i1 : id < 4294967296) (s : List UInt8) (size : Int) (hl : s.length ≤ 1000000) (w : World) :
    Calls Try.prog 33 #[.int .u32 id, Str s, .int .i64 size] w fun e w' => ∃ v, e = .returned (.tuple #[v, .int .i64 (fragE s size)]) ∧ SlAt 0 w' 9 v ((fragT id s size).map Str) ∧ Below w.heap.size w w' := by
  by_cases h : fragE s size = 0
  · obtain ⟨n, rfl, h1, h2, h3, h4⟩ := fragE_ok h
    rw [h, fragT, if_pos h]
    exact fcut_ok id i0 i1 s n _ h1 h2 h3 h4 rfl w
  · refine (fcut_bad id s size h hl w).mono ?_
    rintro e w' ⟨rfl, rfl⟩
    exact ⟨_, rfl, by rw [fragT, if_neg h]; exact SlAt.nil _ _ _, Below.refl _ _⟩
theorem gcut_any (id : Int) (i0 : 0 ≤ id) (i1 : id < 4294967296) (s : List UInt8) (size : Int) (hl : s.length ≤ 1000000) (w : World) :
    Calls Try.prog 34 #[.int .u32 id, Str s, .int .i64 size] w fun e w' => ∃ v, e = .returned (.tuple #[v, .int .i64 (fragE s size)]) ∧ SlAt 0 w' 9 v ((fragT id s size).map Str) ∧ Below w.heap.size w w' := by
  by_cases h : fragE s size = 0
  · obtain ⟨n, rfl, h1, h2, h3, h4⟩ := fragE_ok h
    rw [h, fragT, if_pos h]
    exact gcut_ok id i0 i1 s n _ h1 h2 h3 h4 rfl w
  · refine (gcut_bad id s size h hl w).mono ?_
    rintro e w' ⟨rfl, rfl⟩
    exact ⟨_, rfl, by rw [fragT, if_neg h]; exact SlAt.nil _ _ _, Below.refl _ _⟩
end Go.Proofs.Ytgfbhclkpephnaa
