/-
  Stats: none, no numbers; the law's example (chapter 51).
-/
import Derived.Test.YtdjjienklfbalaaSta2
namespace Go.Proofs.Ytdjjienklfbalaa
open Go.RowKit
set_option linter.unusedVariables false
set_option maxRecDepth 100000
set_option maxHeartbeats 1000000
theorem len_nil (w : World) : Calls Try.prog 55 #[.pointer none] w fun e w' => e = .returned (.int .i64 0) ∧ w' = w := by
  go_enter Try.func55, Try.ntmps55
  go_wp2_with fail
  go_ret
  exact ⟨rfl, rfl⟩
theorem part_nil (fv : Value) (w : World) : Calls Try.prog 107 #[.pointer none, fv] w fun e w' => e = .returned (.int .i64 0) ∧ w' = w := by
  go_enter Try.func107, Try.ntmps107
  go_wp2_with fail
  refine (len_nil _).mono ?_
  rintro e w1 ⟨rfl, rfl⟩
  go_wp2_with fail
  go_ret
  exact ⟨rfl, rfl⟩
theorem least_nil (w : World) : Calls Try.prog 57 #[.pointer none] w fun e w' => e = .returned (.int .i64 0) ∧ w' = w := by
  go_enter Try.func57, Try.ntmps57
  go_wp2_with fail
  refine (part_nil _ _).mono ?_
  rintro e w1 ⟨rfl, rfl⟩
  go_wp2_with fail
  go_ret
  exact ⟨rfl, rfl⟩
theorem most_nil (w : World) : Calls Try.prog 58 #[.pointer none] w fun e w' => e = .returned (.int .i64 0) ∧ w' = w := by
  go_enter Try.func58, Try.ntmps58
  go_wp2_with fail
  refine (part_nil _ _).mono ?_
  rintro e w1 ⟨rfl, rfl⟩
  go_wp2_with fail
  go_ret
  exact ⟨rfl, rfl⟩
theorem mean_nil (w : World) : Calls Try.prog 59 #[.pointer none] w fun e w' => e = .returned (.int .i64 0) ∧ w' = w := by
  go_enter Try.func59, Try.ntmps59
  go_wp2_with fail
  refine (len_nil _).mono ?_
  rintro e w1 ⟨rfl, rfl⟩
  go_wp2_with fail
  go_ret
  exact ⟨rfl, rfl⟩
theorem pt_nil (p : Int) (w : World) : Calls Try.prog 56 #[.pointer none, .int .i64 p] w fun e w' => e = .returned (.tuple #[.int .i64 0, .int .i64 17]) ∧ Below w.heap.size w w' := by
  go_enter Try.func56, Try.ntmps56
  go_wp2_with fail
  go_ret2
  exact ⟨rfl, Below.chainAlloc (Below.refl _ _) _⟩
theorem pt_bad (b : Nat) (p : Int) (hp : p < 1 ∨ 100 < p) (w : World) : Calls Try.prog 56 #[.pointer (some ⟨b, 0, none⟩), .int .i64 p] w fun e w' => e = .returned (.tuple #[.int .i64 0, .int .i64 1]) ∧ Below w.heap.size w w' := by
  by_cases h0 : p < 1
  · have d0 : decide (p < 1) = true := by simpa using h0
    clear hp
    go_enter Try.func56, Try.ntmps56
    go_wp2_with fail
    go_ret2
    exact ⟨rfl, Below.chainAlloc (Below.refl _ _) _⟩
  · have d0 : decide (p < 1) = false := by simpa using h0
    have d1 : decide (100 < p) = true := by simp; omega
    clear hp h0
    go_enter Try.func56, Try.ntmps56
    go_wp2_with fail
    go_ret2
    exact ⟨rfl, Below.chainAlloc (Below.refl _ _) _⟩
theorem pt_none (b : Nat) (sum p : Int) (hp0 : 1 ≤ p) (hp1 : p ≤ 100) (w : World) (h : St w b [] sum) : Calls Try.prog 56 #[.pointer (some ⟨b, 0, none⟩), .int .i64 p] w fun e w' => e = .returned (.tuple #[.int .i64 0, .int .i64 7]) ∧ Below w.heap.size w w' := by
  have d0 : decide (p < 1) = false := by simp; omega
  have d1 : decide (100 < p) = false := by simp; omega
  have hlt := h.lt
  obtain ⟨v, h1, h2⟩ := h.below (Below.chainAlloc (Below.refl w.heap.size w) (.cells #[.int .i64 p] 3))
  obtain ⟨a, cap, rfl⟩ := h2.form
  obtain ⟨cb, fb, lb⟩ := h1.facts
  simp only [List.length_nil] at cb
  clear h h1 h2
  go_enter Try.func56, Try.ntmps56
  go_wp2_with fail
  go_ret2
  exact ⟨rfl, Below.chainAlloc (Below.refl _ _) _⟩
theorem new_st (w : World) : Calls Try.prog 52 #[] w fun e w' => e = .returned (.pointer (some ⟨w.heap.size, 0, none⟩)) ∧ St w' w.heap.size [] 0 ∧ Below w.heap.size w w' := by
  go_enter Try.func52, Try.ntmps52
  go_wp2_with fail
  go_ret
  exact ⟨rfl, ⟨.slice none 0 0, Blk.new w _ _, Seg.nil _ _ _ _⟩, Below.chainAlloc (Below.refl _ _) _⟩
theorem awake51 (w : World) : Calls Try.prog 51 #[] w fun e w' => e = .returned (.bool true) ∧ Below w.heap.size w w' := by
  go_enter Try.func51, Try.ntmps51
  go_wp2_with fail
  refine (new_st _).mono ?_
  rintro e w1 ⟨rfl, s1, hB1⟩
  generalize hb0 : w.heap.size = b at *
  go_wp2_with fail
  refine (pt_none b 0 50 (by decide) (by decide) _ s1).mono ?_
  rintro e w2 ⟨rfl, hb⟩
  have s2 := s1.below hb
  have hB2 := hB1.trans (hb.mono (Nat.le_of_lt s1.lt))
  clear hb s1 hB1
  go_wp2_with fail
  refine (add_st b [] 0 4 _ s2 (by decide) (by decide) (by decide) (by decide) (by decide) (by decide)).mono ?_
  rintro e w3 ⟨rfl, s3, hb⟩
  rw [show insZ [] 4 = [4] by decide, show (0 : Int) + 4 = 4 by decide] at s3
  have hB3 := hB2.trans hb
  clear hb s2 hB2
  go_wp2_with fail
  refine (add_bad b (-1) (by decide) _).mono ?_
  rintro e w4 ⟨rfl, rfl⟩
  have s4 := s3
  have hB4 := hB3
  clear s3 hB3
  go_wp2_with fail
  refine (add_st b [4] 4 1 _ s4 (by decide) (by decide) (by decide) (by decide) (by decide) (by decide)).mono ?_
  rintro e w5 ⟨rfl, s5, hb⟩
  rw [show insZ [4] 1 = [1, 4] by decide, show (4 : Int) + 1 = 5 by decide] at s5
  have hB5 := hB4.trans hb
  clear hb s4 hB4
  go_wp2_with fail
  refine (add_st b [1, 4] 5 3 _ s5 (by decide) (by decide) (by decide) (by decide) (by decide) (by decide)).mono ?_
  rintro e w6 ⟨rfl, s6, hb⟩
  rw [show insZ [1, 4] 3 = [1, 3, 4] by decide, show (5 : Int) + 3 = 8 by decide] at s6
  have hB6 := hB5.trans hb
  clear hb s5 hB5
  go_wp2_with fail
  refine (add_st b [1, 3, 4] 8 2 _ s6 (by decide) (by decide) (by decide) (by decide) (by decide) (by decide)).mono ?_
  rintro e w7 ⟨rfl, s7, hb⟩
  rw [show insZ [1, 3, 4] 2 = [1, 2, 3, 4] by decide, show (8 : Int) + 2 = 10 by decide] at s7
  have hB7 := hB6.trans hb
  clear hb s6 hB6
  go_wp2_with fail
  refine (part_st b [1, 2, 3, 4] 10 50 (by decide) (by decide) (by decide) (by decide) _ s7).mono ?_
  rintro e w8 ⟨rfl, hb⟩
  have s8 := s7.below hb
  have hB8 := hB7.trans (hb.mono (Nat.le_of_lt s7.lt))
  clear hb s7 hB7
  rw [show atZ [1, 2, 3, 4] (partAt 50 ([1, 2, 3, 4] : List Int).length) = 2 by decide]
  go_wp2_with fail
  refine (pt_bad b 0 (by decide) _).mono ?_
  rintro e w9 ⟨rfl, hb⟩
  have s9 := s8.below hb
  have hB9 := hB8.trans (hb.mono (Nat.le_of_lt s8.lt))
  clear hb s8 hB8
  go_wp2_with fail
  refine (len_st b [1, 2, 3, 4] 10 _ s9).mono ?_
  rintro e w10 ⟨rfl, rfl⟩
  have s10 := s9
  have hB10 := hB9
  clear s9 hB9
  go_wp2_with fail
  refine (least_st b [1, 2, 3, 4] 10 (by decide) (by decide) _ s10).mono ?_
  rintro e w11 ⟨rfl, hb⟩
  have s11 := s10.below hb
  have hB11 := hB10.trans (hb.mono (Nat.le_of_lt s10.lt))
  clear hb s10 hB10
  rw [show atZ [1, 2, 3, 4] 0 = 1 by decide]
  go_wp2_with fail
  refine (most_st b [1, 2, 3, 4] 10 (by decide) (by decide) _ s11).mono ?_
  rintro e w12 ⟨rfl, hb⟩
  have s12 := s11.below hb
  have hB12 := hB11.trans (hb.mono (Nat.le_of_lt s11.lt))
  clear hb s11 hB11
  rw [show atZ [1, 2, 3, 4] (([1, 2, 3, 4] : List Int).length - 1) = 4 by decide]
  go_wp2_with fail
  refine (mean_st b [1, 2, 3, 4] 10 (by decide) (by decide) (by decide) (by decide) _ s12).mono ?_
  rintro e w13 ⟨rfl, hb⟩
  have s13 := s12.below hb
  have hB13 := hB12.trans (hb.mono (Nat.le_of_lt s12.lt))
  clear hb s12 hB12
  rw [show (10 : Int) / ((([1, 2, 3, 4] : List Int).length : Nat) : Int) = 2 by decide]
  go_wp2_with fail
  go_ret
  exact ⟨rfl, by rw [hb0]; exact hB13⟩
end Go.Proofs.Ytdjjienklfbalaa
