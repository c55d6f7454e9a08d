/-
  A stream that is none (chapter 27).
-/
import Derived.Test.YtnmlmpffmjhihaaGreatMT
namespace Go.Proofs.YtnmlmpffmjhihaaGreat
open Go Go.RowKit
set_option linter.unusedVariables false
set_option linter.unusedSimpArgs false
set_option maxRecDepth 100000
set_option maxHeartbeats 2000000
theorem owrite_nil (s : List UInt8) (w : World) : Calls Tryz.prog 6 #[.pointer none, Str s] w fun e w' => e = .returned (.int .i64 0) ∧ w' = w := by
  go_enter Tryz.func6, Tryz.ntmps6
  go_wp2_with fail
  go_ret
  exact ⟨rfl, rfl⟩
theorem oclose_nil (w : World) : Calls Tryz.prog 7 #[.pointer none] w fun e w' => e = .returned (.int .i64 17) ∧ w' = w := by
  go_enter Tryz.func7, Tryz.ntmps7
  go_wp2_with fail
  go_ret
  exact ⟨rfl, rfl⟩
theorem ofill_nil (t : Int) (w : World) : Calls Tryz.prog 8 #[.pointer none, .int .i64 t] w fun e w' => e = .returned (.slice none 0 0) ∧ w' = w := by
  go_enter Tryz.func8, Tryz.ntmps8
  go_wp2_with fail
  go_ret
  exact ⟨rfl, rfl⟩
theorem onack_nil (x : Int) (h : List UInt8) (w : World) : Calls Tryz.prog 9 #[.pointer none, .int .u32 x, Str h] w fun e w' => e = .returned (.slice none 0 0) ∧ w' = w := by
  go_enter Tryz.func9, Tryz.ntmps9
  go_wp2_with fail
  go_ret
  exact ⟨rfl, rfl⟩
theorem otick_nil (t : Int) (w : World) : Calls Tryz.prog 10 #[.pointer none, .int .i64 t] w fun e w' => e = .returned (.slice none 0 0) ∧ w' = w := by
  go_enter Tryz.func10, Tryz.ntmps10
  go_wp2_with fail
  go_ret
  exact ⟨rfl, rfl⟩
theorem oack_nil (x m : Int) (w : World) : Calls Tryz.prog 11 #[.pointer none, .int .u32 x, .int .i64 m] w fun e w' => e = .returned (.int .i64 0) ∧ w' = w := by
  go_enter Tryz.func11, Tryz.ntmps11
  go_wp2_with fail
  go_ret
  exact ⟨rfl, rfl⟩
theorem ofin_nil (w : World) : Calls Tryz.prog 5 #[.pointer none] w fun e w' => e = .returned (.tuple #[.int .u32 0, .bool false]) ∧ w' = w := by
  go_enter Tryz.func5, Tryz.ntmps5
  go_wp2_with fail
  go_ret2
  exact ⟨rfl, rfl⟩
theorem ofinished_nil (w : World) : Calls Tryz.prog 12 #[.pointer none] w fun e w' => e = .returned (.bool false) ∧ w' = w := by
  go_enter Tryz.func12, Tryz.ntmps12
  go_wp2_with fail
  go_ret
  exact ⟨rfl, rfl⟩
theorem oroom_nil (w : World) : Calls Tryz.prog 13 #[.pointer none] w fun e w' => e = .returned (.int .i64 0) ∧ w' = w := by
  go_enter Tryz.func13, Tryz.ntmps13
  go_wp2_with fail
  go_ret
  exact ⟨rfl, rfl⟩
theorem oheld_nil (w : World) : Calls Tryz.prog 14 #[.pointer none] w fun e w' => e = .returned (.int .i64 0) ∧ w' = w := by
  go_enter Tryz.func14, Tryz.ntmps14
  go_wp2_with fail
  go_ret
  exact ⟨rfl, rfl⟩
theorem opop_nil (w : World) : Calls Tryz.prog 4 #[.pointer none] w fun e w' => e = .returned (.tuple #[dg0.val, .bool false]) ∧ Below w.heap.size w w' := by
  have ha := Below.chainAlloc (Below.refl _ w) (.cells #[.int .i64 0, .int .i64 0, .int .u32 0, .int .i64 0, .int .i64 0, .int .i64 0, .int .i64 0, .int .i64 0, Str [], Str []] 27)
  have HZ := Lib.hid (Blk.new w #[.int .i64 0, .int .i64 0, .int .u32 0, .int .i64 0, .int .i64 0, .int .i64 0, .int .i64 0, .int .i64 0, Str [], Str []] 27)
  have HB := Lib.hid ha
  clear ha
  go_enter Tryz.func4, Tryz.ntmps4
  go_upto_region 1 with fail
  obtain ⟨b, hb⟩ : ∃ b, w.heap.size = b := ⟨_, rfl⟩
  have HBB := Lib.hid hb
  rw [hb] at HZ HB ⊢
  generalize w.alloc (.cells #[.int .i64 0, .int .i64 0, .int .u32 0, .int .i64 0, .int .i64 0, .int .i64 0, .int .i64 0, .int .i64 0, Str [], Str []] 27) = W0 at *
  have z0 := HZ.out.facts.1 0
  have fz0 := HZ.out.facts.2.1 0
  have z1 := HZ.out.facts.1 1
  have fz1 := HZ.out.facts.2.1 1
  have z2 := HZ.out.facts.1 2
  have fz2 := HZ.out.facts.2.1 2
  have z3 := HZ.out.facts.1 3
  have fz3 := HZ.out.facts.2.1 3
  have z4 := HZ.out.facts.1 4
  have fz4 := HZ.out.facts.2.1 4
  have z5 := HZ.out.facts.1 5
  have fz5 := HZ.out.facts.2.1 5
  have z6 := HZ.out.facts.1 6
  have fz6 := HZ.out.facts.2.1 6
  have z7 := HZ.out.facts.1 7
  have fz7 := HZ.out.facts.2.1 7
  have z8 := HZ.out.facts.1 8
  have fz8 := HZ.out.facts.2.1 8
  have z9 := HZ.out.facts.1 9
  have fz9 := HZ.out.facts.2.1 9
  go_wp2_with fail
  have hB := HB.out
  exact bodyPost_ret (v := .tuple #[dg0.val, .bool false]) (by simp [results, Tryz.results4, go_sem, z0, z1, z2, z3, z4, z5, z6, z7, z8, z9, dg0]) rfl ⟨rfl, by rw [HBB.out]; exact ((((((((((hB.setCell (p := ⟨b, 0, none⟩) (Nat.le_refl b) _).setCell (p := ⟨b, 1, none⟩) (Nat.le_refl b) _).setCell (p := ⟨b, 2, none⟩) (Nat.le_refl b) _).setCell (p := ⟨b, 3, none⟩) (Nat.le_refl b) _).setCell (p := ⟨b, 4, none⟩) (Nat.le_refl b) _).setCell (p := ⟨b, 5, none⟩) (Nat.le_refl b) _).setCell (p := ⟨b, 6, none⟩) (Nat.le_refl b) _).setCell (p := ⟨b, 7, none⟩) (Nat.le_refl b) _).setCell (p := ⟨b, 8, none⟩) (Nat.le_refl b) _).setCell (p := ⟨b, 9, none⟩) (Nat.le_refl b) _)⟩
end Go.Proofs.YtnmlmpffmjhihaaGreat
