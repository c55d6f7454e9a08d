/-
  A stream that is none: the walk (chapter 27).
-/
import Derived.Test.YtnmlmpffmjhihaaGreatOr25
import Derived.StillTailTactics
namespace Go.Proofs.YtnmlmpffmjhihaaGreat
open Go Go.RowKit
set_option linter.unusedVariables false
set_option linter.unusedSimpArgs false
set_option maxRecDepth 100000
set_option maxHeartbeats 4000000
/-- The deed's cells. -/
def fd27 (k : Int) (bd : List UInt8) (n x : Int) (hv : List UInt8) : Array Value := #[.int .i64 k, Str bd, .int .i64 n, .int .u32 x, Str hv]
theorem onone_walk (k : Int) (bd : List UInt8) (n x : Int) (hv : List UInt8) (w : World) : Calls Tryz.prog 3 #[.agg (fd27 k bd n x hv)] w fun e w' => e = .returned (.bool true) ∧ Below w.heap.size w w' := by
  have HB := Lib.hid (Below.chainAlloc (Below.refl _ w) (.cells #[.int .i64 k, Str bd, .int .i64 n, .int .u32 x, Str hv] 24))
  have HK := Lib.hid (Blk.new w #[.int .i64 k, Str bd, .int .i64 n, .int .u32 x, Str hv] 24)
  unfold fd27
  have heq : ∀ w : World, (binOp .eql 27 (.agg #[.int .i64 0, .int .i64 0, .int .u32 0, .int .i64 0, .int .i64 0, .int .i64 0, .int .i64 0, .int .i64 0, Str [], Str []]) (.agg #[.int .i64 0, .int .i64 0, .int .u32 0, .int .i64 0, .int .i64 0, .int .i64 0, .int .i64 0, .int .i64 0, Str [], Str []])).run Tryz.prog w = .ok (.bool true) w := fun _ => by kernel_rfl
  go_enter Tryz.func3, Tryz.ntmps3
  go_wp2_with fail
  refine (opop_nil _).mono ?_
  rintro e w1 ⟨rfl, hb1⟩
  rw [show dg0.val = .agg #[.int .i64 0, .int .i64 0, .int .u32 0, .int .i64 0, .int .i64 0, .int .i64 0, .int .i64 0, .int .i64 0, Str [], Str []] from rfl]
  have hb2 := Below.chainAlloc hb1 (.cells #[.int .i64 0, .int .i64 0, .int .u32 0, .int .i64 0, .int .i64 0, .int .i64 0, .int .i64 0, .int .i64 0, Str [], Str []] 27)
  have hk2 := HK.out.below hb2 HK.out.lt
  have c1 := hk2.facts.1 1
  have c2 := hk2.facts.1 2
  have c3 := hk2.facts.1 3
  have c4 := hk2.facts.1 4
  have HB2 := Lib.hid (Below.chain hb2 HB.out)
  have hlt : w.heap.size < w1.heap.size := by have := HK.out.lt; have := hb1.size; omega
  have hz2 := Blk.new w1 #[.int .i64 0, .int .i64 0, .int .u32 0, .int .i64 0, .int .i64 0, .int .i64 0, .int .i64 0, .int .i64 0, Str [], Str []] 27
  have z0 := hz2.facts.1 0
  have z1 := hz2.facts.1 1
  have z2 := hz2.facts.1 2
  have z3 := hz2.facts.1 3
  have z4 := hz2.facts.1 4
  have z5 := hz2.facts.1 5
  have z6 := hz2.facts.1 6
  have z7 := hz2.facts.1 7
  have z8 := hz2.facts.1 8
  have z9 := hz2.facts.1 9
  clear hb1 hb2 hk2 HB HK hz2
  go_wp2_with (first
    | (go_at_call 5; refine (ofin_nil _).mono ?_; rintro e w2 ⟨rfl, rfl⟩))
  generalize w1.alloc (.cells #[.int .i64 0, .int .i64 0, .int .u32 0, .int .i64 0, .int .i64 0, .int .i64 0, .int .i64 0, .int .i64 0, Str [], Str []] 27) = W0 at *
  generalize w1.heap.size = d0 at *
  generalize hb0 : w.heap.size = b0 at c1 c2 c3 c4 ⊢
  refine wp_region_still_tail 74 (by kernel_rfl) (by kernel_rfl) ?_
  simp only [List.append_eq, List.cons_append, List.nil_append, List.take_succ_cons, List.take_zero, List.drop_succ_cons, List.drop_zero]
  repeat (first
    | still_step
    | still_call (owrite_nil bd _)
    | still_call (oclose_nil _)
    | still_call (ofill_nil n _)
    | still_call (onack_nil x hv _)
    | still_call (otick_nil n _)
    | still_call (oack_nil x n _)
    | still_call (ofinished_nil _)
    | still_call (oroom_nil _)
    | still_call (oheld_nil _))
  try refine wpStill_nil ?_
  change wpList _ _ _ _ _ (World.drew _)
  go_wp2_with (first
    | (go_at_call 15; refine (awake27_ok _).mono ?_; rintro e w12 ⟨rfl, hb12⟩; have HB12 := Lib.hid (Below.chain (Below.chain hb12 (Below.refl _ _).drew) HB2.out); clear hb12))
  go_ret
  exact ⟨rfl, HB12.out⟩
end Go.Proofs.YtnmlmpffmjhihaaGreat
