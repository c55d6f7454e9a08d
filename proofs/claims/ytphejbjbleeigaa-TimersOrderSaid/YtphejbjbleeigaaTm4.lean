/-
  Timers: order's contract; the sort by it (chapter 13).
-/
import Derived.Test.YtphejbjbleeigaaTm3
import Derived.Test.YtphejbjbleeigaaTmShelf
namespace Go.Proofs.Ytphejbjbleeigaa
open Go Go.RowKit
open Go.Shelf Go.Sort
set_option linter.unusedVariables false
set_option maxRecDepth 100000
set_option maxHeartbeats 2000000
def duC (d : Du) : List Value := [.int .i64 d.s, .int .u32 d.b, .int .i64 d.at_]
/-- 'order': the world is as it was, but for draws and new blocks. -/
theorem order_any (x y : Du) (w : World) : Calls Try.prog 94 #[.agg (duC x).toArray, .agg (duC y).toArray] w fun e w' => e = .returned (.int .i64 (ordD x y)) ∧ ∃ q os', w' = grow (w.drewN q) os' := by
  obtain ⟨a, b, z⟩ := x
  obtain ⟨c, d, u⟩ := y
  unfold ordD duC
  dsimp only
  have HI1 := Lib.hid (fun w' => (cmp_int z u w').mono fun _ _ h => (⟨h.1, h.2.symm⟩ : _ ∧ _ = w'))
  have HI2 := Lib.hid (fun w' => (cmp_int a c w').mono fun _ _ h => (⟨h.1, h.2.symm⟩ : _ ∧ _ = w'))
  have HI3 := Lib.hid (fun w' => (cmp_u32 b d w').mono fun _ _ h => (⟨h.1, h.2.symm⟩ : _ ∧ _ = w'))
  have HO := Lib.hid (or_int (cmpI z u) (cmpI a c) (cmpI b d))
  generalize cmpI z u = p1 at *
  generalize cmpI a c = p2 at *
  generalize cmpI b d = p3 at *
  generalize orI p1 p2 p3 = r at *
  have k1 := (Blk.new w #[.int .i64 a, .int .u32 b, .int .i64 z] 96).alloc (.cells #[.int .i64 c, .int .u32 d, .int .i64 u] 96)
  have k2 := Blk.new (w.alloc (.cells #[.int .i64 a, .int .u32 b, .int .i64 z] 96)) #[.int .i64 c, .int .u32 d, .int .i64 u] 96
  rw [size_alloc] at k2
  obtain ⟨W, hW⟩ : ∃ W, (w.alloc (.cells #[.int .i64 a, .int .u32 b, .int .i64 z] 96)).alloc (.cells #[.int .i64 c, .int .u32 d, .int .i64 u] 96) = W := ⟨_, rfl⟩
  rw [hW] at k1 k2
  have x0 := k1.facts.1 0
  have x1 := k1.facts.1 1
  have x2 := k1.facts.1 2
  have y0 := k2.facts.1 0
  have y1 := k2.facts.1 1
  have y2 := k2.facts.1 2
  have hg : W = grow w #[.cells #[.int .i64 a, .int .u32 b, .int .i64 z] 96, .cells #[.int .i64 c, .int .u32 d, .int .i64 u] 96] := by
    rw [← hW, alloc_eq_grow, alloc_eq_grow, grow_grow]
    rfl
  have HW := Lib.hid hW
  have HG := Lib.hid hg
  clear hW hg k1 k2
  go_enter Try.func94, Try.ntmps94
  go_upto_region 1 with fail
  rw [HW.out]
  refine wp_region_still_tail 19 (by kernel_rfl) (by kernel_rfl) ?_
  simp only [List.take_succ_cons, List.take_zero, List.drop_succ_cons, List.drop_zero]
  iterate 4 still_step
  still_call (HI1.out _)
  iterate 6 still_step
  still_call (HI2.out _)
  iterate 6 still_step
  still_call (HI3.out _)
  refine wpStill_nil ?_
  go_wp2_with fail
  have kz := Blk.new W #[.int .i64 p1, .int .i64 p2, .int .i64 p3] 3
  have kz0 : (W.alloc (.cells #[.int .i64 p1, .int .i64 p2, .int .i64 p3] 3)).drew.cell? ⟨W.heap.size, 0, none⟩ = some (.int .i64 p1) := kz.facts.1 0
  have kz1 : (W.alloc (.cells #[.int .i64 p1, .int .i64 p2, .int .i64 p3] 3)).drew.cell? ⟨W.heap.size, 1, none⟩ = some (.int .i64 p2) := kz.facts.1 1
  have kz2 : (W.alloc (.cells #[.int .i64 p1, .int .i64 p2, .int .i64 p3] 3)).drew.cell? ⟨W.heap.size, 2, none⟩ = some (.int .i64 p3) := kz.facts.1 2
  refine (HO.out _ _ _ kz0 kz1 kz2).mono ?_
  rintro e w' ⟨rfl, rfl⟩
  clear kz kz0 kz1 kz2
  go_wp2_with fail
  go_ret
  refine ⟨rfl, 1, #[.cells #[.int .i64 a, .int .u32 b, .int .i64 z] 96, .cells #[.int .i64 c, .int .u32 d, .int .i64 u] 96] ++ #[.cells #[.int .i64 p1, .int .i64 p2, .int .i64 p3] 3], ?_⟩
  rw [HG.out, alloc_eq_grow, grow_grow]
  rfl
end Go.Proofs.Ytphejbjbleeigaa
