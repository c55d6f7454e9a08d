/-
  Whose turn it is: fair shares: how all lies (chapter 17).
-/
import Derived.Test.YtgfbhclkpephnaaDrF1
namespace Go.Proofs.Ytgfbhclkpephnaa
open Go Go.RowKit
set_option linter.unusedVariables false
set_option linter.unusedSimpArgs false
set_option maxRecDepth 100000
set_option maxHeartbeats 1000000
/-- The scheduler, the weights, and two rows of sums. -/
structure FrS (W : World) (bs : Nat) (S : PS) (bw : Nat) (w1 w2 : Int) (v1 v2 : Value) (L1 L2 : List Int) (w : World) : Prop where
  al : Al W bs S (bw :: (v1.ownBlock.toList ++ v2.ownBlock.toList)) w
  wb : Blk w bw #[.int .u8 w1, .int .u8 w2] 43
  s1 : Seg w W.heap.size 3 1 v1 L1.length (iv L1)
  s2 : Seg w W.heap.size 3 1 v2 L2.length (iv L2)
  ne : ∀ g, v1.ownBlock = some g → v2.ownBlock ≠ some g
  lw : W.heap.size ≤ bw
section
variable {W w w' w5 : World} {bs bw : Nat} {S S' : PS} {w1 w2 : Int} {v1 v2 : Value} {L1 L2 : List Int}
theorem FrS.step (h : FrS W bs S bw w1 w2 v1 v2 L1 L2 w) (ha : Al W bs S' (bw :: (v1.ownBlock.toList ++ v2.ownBlock.toList)) w') (hk : Keep (bw :: (v1.ownBlock.toList ++ v2.ownBlock.toList)) w w') : FrS W bs S' bw w1 w2 v1 v2 L1 L2 w' :=
  ⟨ha, hk.blk h.wb List.mem_cons_self, hk.seg h.s1 (fun g hg => by simp [hg]), hk.seg h.s2 (fun g hg => by simp [hg]), h.ne, h.lw⟩
theorem FrS.chain (h : FrS W bs S bw w1 w2 v1 v2 L1 L2 w) (hb : Below w.heap.size w w') : FrS W bs S bw w1 w2 v1 v2 L1 L2 w' := ⟨h.al.chain hb, h.wb.below hb h.wb.lt, h.s1.chain hb, h.s2.chain hb, h.ne, h.lw⟩
theorem FrS.push1 (h : FrS W bs S bw w1 w2 v1 v2 L1 L2 w) (z : Int) {g off cp : Nat} (hown : Seg w5 W.heap.size 3 1 (.slice (some ⟨g, off, none⟩) (L1.length + 1) cp) (L1.length + 1) (iv L1 ++ [.int .i64 z])) (hgrow : Only v1.ownBlock.toList w w5) (hat : v1.ownBlock = some g ∨ w.heap.size ≤ g) :
    FrS W bs S bw w1 w2 (.slice (some ⟨g, off, none⟩) (L1.length + 1) cp) v2 (L1 ++ [z]) L2 w5 := by
  have hg5 := hown.blk g rfl
  have hbw : bw ∉ v1.ownBlock.toList := fun hm => h.s1.ne_blk h.wb (by decide) bw (by simpa using hm) rfl
  have e1 : iv (L1 ++ [z]) = iv L1 ++ [.int .i64 z] := by simp [iv]
  refine ⟨?_, h.wb.only hgrow hbw, by rw [List.length_append, e1]; exact hown, h.s2.only hgrow (fun y hy hm => h.ne y (by simpa using hm) hy), fun y hy hy2 => ?_, h.lw⟩
  · rcases hat with e | e
    · have := (h.al.other (X := v1.ownBlock.toList) (G := []) hgrow (fun y hy => ⟨List.mem_cons_of_mem _ (List.mem_append_left _ hy), (h.s1.blk y (by simpa using hy)).1⟩) (by simp))
      refine this.less (fun y hy => ?_)
      rcases List.mem_cons.1 hy with e' | hy
      · rw [e']; exact List.mem_cons_self
      · rcases List.mem_append.1 hy with hy | hy
        · have : g = y := (by simpa [Value.ownBlock] using hy : y = g).symm
          exact List.mem_cons_of_mem _ (List.mem_append_left _ (by rw [e, this]; simp))
        · exact List.mem_cons_of_mem _ (List.mem_append_right _ hy)
    · have := (h.al.other (X := v1.ownBlock.toList) (G := [g]) hgrow (fun y hy => ⟨List.mem_cons_of_mem _ (List.mem_append_left _ hy), (h.s1.blk y (by simpa using hy)).1⟩) (fun y hy => by
        obtain rfl := List.mem_singleton.1 hy
        exact ⟨e, hg5.2⟩))
      refine this.less (fun y hy => ?_)
      rcases List.mem_cons.1 hy with e' | hy
      · rw [e']; exact List.mem_append_right _ List.mem_cons_self
      · rcases List.mem_append.1 hy with hy | hy
        · have : g = y := (by simpa [Value.ownBlock] using hy : y = g).symm
          exact List.mem_append_left _ (by rw [this]; simp)
        · exact List.mem_append_right _ (List.mem_cons_of_mem _ (List.mem_append_right _ hy))
  · have hgy : g = y := by simpa [Value.ownBlock] using hy
    subst hgy
    rcases hat with e | e
    · exact h.ne g e hy2
    · have := (h.s2.blk g hy2).2
      omega
theorem FrS.swap (h : FrS W bs S bw w1 w2 v1 v2 L1 L2 w) : FrS W bs S bw w1 w2 v2 v1 L2 L1 w :=
  ⟨h.al.less (fun y hy => by
    rcases List.mem_cons.1 hy with e | hy
    · rw [e]; exact List.mem_cons_self
    · exact List.mem_cons_of_mem _ ((List.mem_append.1 hy).elim (fun e => List.mem_append_right _ e) (fun e => List.mem_append_left _ e))), h.wb, h.s2, h.s1, fun g hg hg' => h.ne g hg' hg, h.lw⟩
theorem FrS.push2 (h : FrS W bs S bw w1 w2 v1 v2 L1 L2 w) (z : Int) {g off cp : Nat} (hown : Seg w5 W.heap.size 3 1 (.slice (some ⟨g, off, none⟩) (L2.length + 1) cp) (L2.length + 1) (iv L2 ++ [.int .i64 z])) (hgrow : Only v2.ownBlock.toList w w5) (hat : v2.ownBlock = some g ∨ w.heap.size ≤ g) :
    FrS W bs S bw w1 w2 v1 (.slice (some ⟨g, off, none⟩) (L2.length + 1) cp) L1 (L2 ++ [z]) w5 := (h.swap.push1 z hown hgrow hat).swap
end
/-- The size of a number. -/
theorem size_any (n : Int) (hn : -9223372036854775807 ≤ n ∧ n ≤ 9223372036854775807) (w : World) : Calls Try.prog 21 #[.int .i64 n] w fun e w' => e = .returned (.int .i64 (if n < 0 then -n else n)) ∧ w' = w := by
  have hw2 : wrap64 (-n) = -n := IntWalk.wrap64_in _ (by omega)
  by_cases h : n < 0
  · rw [if_pos h]
    have h2 : (if n < -n then -n else n) = -n := if_pos (by omega)
    clear hn
    go_enter Try.func21, Try.ntmps21
    go_wp2_with fail
    go_ret
    exact ⟨rfl, rfl⟩
  · rw [if_neg h]
    have h2 : (if n < -n then -n else n) = n := if_neg (by omega)
    have h3 : ¬ n < -n := by omega
    clear hn
    go_enter Try.func21, Try.ntmps21
    go_wp2_with fail
    go_ret
    exact ⟨rfl, rfl⟩
end Go.Proofs.Ytgfbhclkpephnaa
