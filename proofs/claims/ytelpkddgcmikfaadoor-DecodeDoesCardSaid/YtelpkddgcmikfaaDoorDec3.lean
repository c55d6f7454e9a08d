/-
  Blocks out of shards: Do (chapter 20).
-/
import Derived.Test.YtelpkddgcmikfaaDoorDec2
namespace Go.Proofs.YtelpkddgcmikfaaDoor
open Go Go.RowKit
set_option linter.unusedVariables false
set_option maxRecDepth 100000
set_option maxHeartbeats 1000000
/-- A result's cells. -/
def resV (st bl : Int) (D : List UInt8 × Int) : Value := .agg #[.int .i64 st, .int .u32 bl, Str D.1, .int .i64 D.2]
theorem do_any (B : Nat) (st bl k n len : Int) (v : Value) (xs : List Sh5) (hl : xs.length ≤ 1000) (w : World) (hs : ShAt B w v xs) :
    Calls Tryd.prog 10 #[jobV st bl k n len v] w fun e w' => e = .returned (resV st bl (doD k n len xs)) ∧ Below w.heap.size w w' := by
  have hmf : ∀ (fn : Fn) (first cap : Array Value) (w : World), (Instr.makeFunc fn first cap).run Tryd.prog w = .ok (.func fn first cap) w := fun _ _ _ _ => rfl
  have HS := Lib.hid hs
  have HX := Lib.hid (fun w' (h : Below w.heap.size w w') => text_any B st bl k n len v xs hl w' (hs.chain h))
  obtain ⟨D, hD⟩ : ∃ D, doD k n len xs = D := ⟨_, rfl⟩
  have HBAD : Hid (D.2 ≠ 0 → D.1 = []) := Lib.hid (by rw [← hD]; exact doD_bad)
  rw [hD] at HX ⊢
  clear hs hD
  unfold jobV at *
  go_enter_defers Tryd.func10, Tryd.ntmps10
  go_wp2_with fail
  have k1 := Blk.newAt (w := w.alloc (.cells #[.int .i64 st, .int .u32 bl, .int .i64 k, .int .i64 n, .int .i64 len, v] 30)) (n := w.heap.size + 1) (cs := #[.int .i64 st, .int .u32 bl, Str [], .int .i64 0]) (t := 35) (by simp)
  have hB0 : Below w.heap.size w ((w.alloc (.cells #[.int .i64 st, .int .u32 bl, .int .i64 k, .int .i64 n, .int .i64 len, v] 30)).alloc (.cells #[.int .i64 st, .int .u32 bl, Str [], .int .i64 0] 35)) := ((Below.refl _ w).alloc (Nat.le_refl _) _).alloc (by simp) _
  generalize (w.alloc (.cells #[.int .i64 st, .int .u32 bl, .int .i64 k, .int .i64 n, .int .i64 len, v] 30)).alloc (.cells #[.int .i64 st, .int .u32 bl, Str [], .int .i64 0] 35) = W0 at *
  refine (HX.out W0 hB0).mono ?_
  rintro e w1 ⟨hb1, rfl⟩
  have k2 := k1.below hb1 k1.lt
  have HB1 := Lib.hid (Below.chain hb1 hB0)
  clear hb1 hB0 k1
  obtain ⟨T, z⟩ := D
  by_cases hz : z = 0
  · subst hz
    rw [if_pos rfl]
    obtain ⟨x1, x2, x3⟩ := k2.facts
    have y0 := x1 0
    have y1 := x1 1
    have y3 := x1 3
    have f1 := x2 2
    go_wp2_with fail
    have q1 := Blk.setAt (Blk.setAt (Blk.setAt (Blk.setAt (Blk.setAt k2 2 (Str T) rfl) 0 (.int .i64 st) rfl) 1 (.int .u32 bl) rfl) 2 (Str T) rfl) 3 (.int .i64 0) rfl
    have q2 := (((((HB1.out.setCell (p := ⟨w.heap.size + 1, 2, none⟩) (Nat.le_succ _) (Str T)).setCell (p := ⟨w.heap.size + 1, 0, none⟩) (Nat.le_succ _) (.int .i64 st)).setCell (p := ⟨w.heap.size + 1, 1, none⟩) (Nat.le_succ _) (.int .u32 bl)).setCell (p := ⟨w.heap.size + 1, 2, none⟩) (Nat.le_succ _) (Str T)).setCell (p := ⟨w.heap.size + 1, 3, none⟩) (Nat.le_succ _) (.int .i64 0))
    generalize ((((w1.setCell ⟨w.heap.size + 1, 2, none⟩ (Str T)).setCell ⟨w.heap.size + 1, 0, none⟩ (.int .i64 st)).setCell ⟨w.heap.size + 1, 1, none⟩ (.int .u32 bl)).setCell ⟨w.heap.size + 1, 2, none⟩ (Str T)).setCell ⟨w.heap.size + 1, 3, none⟩ (.int .i64 0) = W at *
    refine leaves_cons (f := 16) (args := #[.pointer (some ⟨w.heap.size + 1, 0, none⟩)]) (by simp) (by simp [go_sem]) ?_
    refine (idle (w.heap.size + 1) _).mono ?_
    rintro e u' w2 ⟨rfl, rfl, hb2⟩
    obtain ⟨c1, _, _⟩ := (q1.below hb2 q1.lt).facts
    have e0 : w2.cell? ⟨w.heap.size + 1, 0, none⟩ = some (.int .i64 st) := c1 0
    have e1 : w2.cell? ⟨w.heap.size + 1, 1, none⟩ = some (.int .u32 bl) := c1 1
    have e2 : w2.cell? ⟨w.heap.size + 1, 2, none⟩ = some (Str T) := c1 2
    have e3 : w2.cell? ⟨w.heap.size + 1, 3, none⟩ = some (.int .i64 0) := c1 3
    have hB := Below.chain hb2 q2
    clear c1 q1 q2
    simp [Leaves, settle, results, Tryd.results10, go_sem, e0, e1, e2, e3, resV]
    exact hB
  · rw [if_neg hz]
    have hT : T = [] := HBAD.out hz
    subst hT
    go_wp2_with fail
    refine leaves_cons (f := 16) (args := #[.pointer (some ⟨w.heap.size + 1, 0, none⟩)]) (by simp) (by simp [go_sem]) ?_
    refine (caught (w.heap.size + 1) z [] _ _ _ _ _ k2).mono ?_
    rintro e u' w2 ⟨rfl, rfl, hk2, hb2⟩
    obtain ⟨c1, _, _⟩ := hk2.facts
    have e0 : w2.cell? ⟨w.heap.size + 1, 0, none⟩ = some (.int .i64 st) := c1 0
    have e1 : w2.cell? ⟨w.heap.size + 1, 1, none⟩ = some (.int .u32 bl) := c1 1
    have e2 : w2.cell? ⟨w.heap.size + 1, 2, none⟩ = some (Str []) := c1 2
    have e3 : w2.cell? ⟨w.heap.size + 1, 3, none⟩ = some (.int .i64 z) := c1 3
    have hB : Below w.heap.size w w2 := HB1.out.trans (hb2.mono (Nat.le_succ _))
    clear c1 hk2 hb2
    simp [Leaves, settle, results, Tryd.results10, go_sem, e0, e1, e2, e3, resV]
    exact hB
end Go.Proofs.YtelpkddgcmikfaaDoor
