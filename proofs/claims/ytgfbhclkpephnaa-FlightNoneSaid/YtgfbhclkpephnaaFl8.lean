/-
  Blocks that were sent: the document's Same, of lists of one (chapters 15, 22).
-/
import Derived.Test.YtgfbhclkpephnaaFl7
import Derived.Test.YtgfbhclkpephnaaFl4
namespace Go.Proofs.Ytgfbhclkpephnaa
open Go Go.RowKit
set_option linter.unusedVariables false
set_option linter.unusedSimpArgs false
set_option maxRecDepth 100000
set_option maxHeartbeats 1000000
theorem same22_one (x j : Int) {w : World} {B1 B2 : Nat} {v1 v2 : Value} (h1 : Seg w B1 127 2 v1 1 [.int .u32 x, .int .i64 j]) (h2 : Seg w B2 127 2 v2 1 [.int .u32 x, .int .i64 j]) :
    Calls Try.prog 63 #[v1, v2] w fun e w' => e = .returned (.bool true) ∧ Below w.heap.size w w' := by
  obtain ⟨g1, o1, c1, rfl, _⟩ := h1.shape (by omega)
  obtain ⟨g2, o2, c2, rfl, _⟩ := h2.shape (by omega)
  have a0 : w.cell? ⟨g1, o1, none⟩ = some (.int .u32 x) := h1.at 0 (by omega)
  have a1 : w.cell? ⟨g1, o1 + 1, none⟩ = some (.int .i64 j) := h1.at 1 (by omega)
  have b0 : w.cell? ⟨g2, o2, none⟩ = some (.int .u32 x) := h2.at 0 (by omega)
  have b1 : w.cell? ⟨g2, o2 + 1, none⟩ = some (.int .i64 j) := h2.at 1 (by omega)
  clear h1 h2
  go_enter Try.func63, Try.ntmps63
  go_wp2_with fail
  go_loopg [5] 1 (fun gk i wr => (gk = 1 ∧ i = .int .i64 0 ∧ wr = w) ∨ (gk = 0 ∧ i = .int .i64 1 ∧ Hid (Below w.heap.size w wr)))
  case atStart => exact .inl ⟨rfl, rfl, rfl⟩
  case round =>
    rcases hrel with ⟨rfl, rfl, rfl⟩ | ⟨rfl, rfl, HB⟩
    · go_upto_region 6 with fail
      go_region
      go_wp2_with fail
      go_roundg 0
      case measure => omega
      case rel => exact .inr ⟨rfl, rfl, Lib.hid (Below.refl _ _).drew⟩
    · go_wp2_with fail
      go_ret
      exact ⟨rfl, HB.out⟩
theorem same15_one (x : Int) {w : World} {B1 B2 : Nat} {v1 v2 : Value} (h1 : Seg w B1 53 1 v1 1 [.int .u32 x]) (h2 : Seg w B2 53 1 v2 1 [.int .u32 x]) :
    Calls Try.prog 64 #[v1, v2] w fun e w' => e = .returned (.bool true) ∧ Below w.heap.size w w' := by
  obtain ⟨g1, o1, c1, rfl, _⟩ := h1.shape (by omega)
  obtain ⟨g2, o2, c2, rfl, _⟩ := h2.shape (by omega)
  have a0 : w.cell? ⟨g1, o1, none⟩ = some (.int .u32 x) := h1.at 0 (by omega)
  have b0 : w.cell? ⟨g2, o2, none⟩ = some (.int .u32 x) := h2.at 0 (by omega)
  clear h1 h2
  go_enter Try.func64, Try.ntmps64
  go_wp2_with fail
  go_loopg [5] 1 (fun gk i wr => (gk = 1 ∧ i = .int .i64 0 ∧ wr = w) ∨ (gk = 0 ∧ i = .int .i64 1 ∧ Hid (Below w.heap.size w wr)))
  case atStart => exact .inl ⟨rfl, rfl, rfl⟩
  case round =>
    rcases hrel with ⟨rfl, rfl, rfl⟩ | ⟨rfl, rfl, HB⟩
    · go_upto_region 6 with fail
      go_region
      go_wp2_with fail
      go_roundg 0
      case measure => omega
      case rel => exact .inr ⟨rfl, rfl, Lib.hid (Below.refl _ _).drew⟩
    · go_wp2_with fail
      go_ret
      exact ⟨rfl, HB.out⟩
end Go.Proofs.Ytgfbhclkpephnaa
