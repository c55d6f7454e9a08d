/-
  The table: part, judge (chapter 18).
-/
import Derived.Test.YteepdknnmdhckaaTa7
namespace Go.Proofs.Yteepdknnmdhckaa
open Go Go.RowKit Go.MuLone
set_option linter.unusedVariables false
set_option linter.unusedSimpArgs false
set_option maxRecDepth 100000
set_option maxHeartbeats 2000000
theorem Seg.ptrAt {w : World} {base : Nat} {v : Value} {t : TypeId} {ps : List (Nat × Nat)} (h : Seg w base t 1 v ps.length (ps.map fun p => .pointer (some ⟨p.1, 0, none⟩))) : ∃ a cap, v = .slice a ps.length cap ∧ ∀ j p, ps[j]? = some p → ∃ g off, a = some ⟨g, off, none⟩ ∧ g < w.heap.size ∧ w.cell? ⟨g, off + j, none⟩ = some (.pointer (some ⟨p.1, 0, none⟩)) := by
  obtain ⟨a, cap, rfl⟩ := h.form
  refine ⟨a, cap, rfl, fun j p hp => ?_⟩
  have hj := (List.getElem?_eq_some_iff.1 hp).1
  obtain ⟨g, off, cap', e, _, hg, _⟩ := h.shape (by omega)
  cases e
  refine ⟨g, off, rfl, hg, ?_⟩
  rw [h.at j (by omega), List.getElem?_map, hp]
  rfl
theorem partOf_lt {P : Nat} (h : 0 < P) (k : Int × Int) : partOf P k < P := by
  unfold partOf hashN
  have h1 := Int.emod_nonneg (hash0 k) (show (P : Int) ≠ 0 by omega)
  have h2 := Int.emod_lt_of_pos (hash0 k) (show (0 : Int) < (P : Int) by omega)
  omega
end Go.Proofs.Yteepdknnmdhckaa
