/-
  The table: Put, Get, Take as they are called; of a table that is none (chapter 18).
-/
import Derived.Test.YteepdknnmdhckaaTa16
namespace Go.Proofs.Yteepdknnmdhckaa
open Go Go.RowKit Go.MuLone
set_option linter.unusedVariables false
set_option linter.unusedSimpArgs false
set_option maxRecDepth 100000
set_option maxHeartbeats 1000000
/-- What is found: a slice, and whether there is one. -/
def FoundR (base bt room : Nat) (A : List DE) (m : Nat) (k : Int × Int) (A' : List DE) (w : World) (e : Ending) (w' : World) : Prop :=
  ∃ sv, e = .returned (.tuple #[sv, .bool (getD k A).isSome]) ∧ ShS w' base sv (((getD k A).map fun d => d.2.2).getD []) ∧ (∃ s', Tab base w' bt room A' m s') ∧ Turn base KT w w'
theorem len_nil (w : World) : Calls Try.prog 30 #[.pointer none] w fun e w' => e = .returned (.int .i64 0) ∧ Below w.heap.size w w' := by
  go_enter_defers Try.func30, Try.ntmps30
  go_wp2_with fail
  exact ⟨_, results_tmp rfl _ _ _, rfl, Below.refl _ _⟩
end Go.Proofs.Yteepdknnmdhckaa
