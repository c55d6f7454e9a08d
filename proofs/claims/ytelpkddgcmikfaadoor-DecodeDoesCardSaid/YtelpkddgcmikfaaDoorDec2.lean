/-
  Blocks out of shards: Do: its deferred closure, and the whole (chapter 20).
-/
import Derived.Test.YtelpkddgcmikfaaDoorDec1
namespace Go.Proofs.YtelpkddgcmikfaaDoor
open Go Go.RowKit
set_option linter.unusedVariables false
set_option maxRecDepth 100000
set_option maxHeartbeats 1000000
theorem ta_yes (v : Value) (w : World) : (Instr.typeAssert (.iface 57 v) 20 57 true).run Tryd.prog w = .ok (.tuple #[v, .bool true]) w := by
  simp [Instr.typeAssert, go_sem]
theorem wrong_zero (w : World) : (zeroValue 57).run Tryd.prog w = .ok (.agg #[.int .i64 0]) w := rfl
theorem ta_no (w : World) : (Instr.typeAssert .nilIface 20 57 true).run Tryd.prog w = .ok (.tuple #[.agg #[.int .i64 0], .bool false]) w := by
  simp [Instr.typeAssert, go_sem]
theorem caught (b : Nat) (z : Int) (older : List PanicEntry) (w : World) (c0 c1 c2 c3 : Value) (hk : Blk w b #[c0, c1, c2, c3] 35) :
    CallsD Tryd.prog 16 #[.pointer (some ⟨b, 0, none⟩)] (.panicking ({ v := .iface 57 (.agg #[.int .i64 z]), recovered := false } :: older)) w fun e u' w' =>
      e = .returned (.tuple #[]) ∧ u' = .panicking ({ v := .iface 57 (.agg #[.int .i64 z]), recovered := true } :: older) ∧ Blk w' b #[c0, c1, c2, .int .i64 z] 35 ∧ Below b w w' := by
  refine callsD_of_wpS Tryd.func16 rfl fun c₀ cs hu => ?_
  apply wpS_seq
  apply wpS_region
  simp [wpOpsS, go_sem, recoverD, hu, Tryd.ntmps16, Exit.thenS, ta_yes, Array.replicate]
  have hk2 := hk.alloc (.cells #[.int .i64 z] 57)
  have hb : Below b w (w.alloc (.cells #[.int .i64 z] 57)) := (Below.refl _ _).alloc (Nat.le_of_lt hk.lt) _
  have k3 := Blk.new w #[.int .i64 z] 57
  have hne : b ≠ w.heap.size := Nat.ne_of_lt hk.lt
  generalize hW : w.alloc (.cells #[.int .i64 z] 57) = W at *
  generalize hbx : w.heap.size = bx at *
  obtain ⟨x1, x2, x3⟩ := k3.facts
  obtain ⟨y1, y2, y3⟩ := hk2.facts
  have e1 : W.cell? ⟨bx, 0, none⟩ = some (.int .i64 z) := x1 0
  have e2 : W.frozen? ⟨b, 3, none⟩ = false := y2 3
  have e3 : W.cell? ⟨b, 3, none⟩ = some c3 := y1 3
  have hfin : Blk (W.setCell ⟨b, 3, none⟩ (.int .i64 z)) b #[c0, c1, c2, .int .i64 z] 35 := Blk.setAt hk2 3 _ rfl
  have hfb : Below b w (W.setCell ⟨b, 3, none⟩ (.int .i64 z)) := hb.setCell (Nat.le_refl _) _
  apply wpS_seq
  apply wpS_region
  simp [wpOpsS, go_sem, Exit.thenS]
  refine wpS_cond (t := true) (by simp [Act.eval]) ?_
  simp only [if_true]
  apply wpS_region
  simp [wpOpsS, go_sem, e1, e2, e3, bodyPostS, results, Tryd.results16]
  exact ⟨hfin, hfb⟩
theorem idle (b : Nat) (w : World) :
    CallsD Tryd.prog 16 #[.pointer (some ⟨b, 0, none⟩)] .returning w fun e u' w' => e = .returned (.tuple #[]) ∧ u' = .returning ∧ Below w.heap.size w w' := by
  refine callsD_of_wpS Tryd.func16 rfl fun c₀ cs hu => ?_
  apply wpS_seq
  apply wpS_region
  simp [wpOpsS, go_sem, recoverD, hu, Tryd.ntmps16, Exit.thenS, ta_no, Array.replicate]
  have hb : Below w.heap.size w (w.alloc (.cells #[.int .i64 0] 57)) := Below.chainAlloc (Below.refl _ _) _
  generalize hW : w.alloc (.cells #[.int .i64 0] 57) = W at *
  apply wpS_seq
  apply wpS_region
  simp [wpOpsS, go_sem, Exit.thenS]
  refine wpS_cond (t := false) (by simp [Act.eval]) ?_
  simp only [Bool.false_eq_true, if_false]
  refine wpS_of_wp (wp_skip ?_)
  cases c₀
  simp_all [bodyPostS, results, Tryd.results16]
end Go.Proofs.YtelpkddgcmikfaaDoor
