/-
  A row of cells that is the call's own: a cell is stored; nothing is frozen. For whatever program.
-/
import Derived.Test.YteepdknnmdhckaaSegA
namespace Go.Proofs.Yteepdknnmdhckaa
open Go Go.RowKit
set_option linter.unusedVariables false
set_option linter.unusedSimpArgs false
section
variable {w : World} {base : Nat} {e : TypeId} {size n g off cap : Nat} {xs : List Value}
theorem heap_set_same {w : World} {g o : Nat} {cur : Array Value} {e : TypeId} (u : Value) (h : w.heap[g]? = some (.cells cur e (0, 0))) : (w.setCell ⟨g, o, none⟩ u).heap[g]? = some (.cells (cur.setIfInBounds o u) e (0, 0)) := by
  have hb : Blk w g cur e := h
  exact Blk.setAt hb o u rfl
theorem Seg.put (h : Seg w base e size (.slice (some ⟨g, off, none⟩) n cap) n xs) (j : Nat) (u : Value) (hj : j < n * size) : Seg (w.setCell ⟨g, off + j, none⟩ u) base e size (.slice (some ⟨g, off, none⟩) n cap) n (xs.set j u) := by
  obtain ⟨h1, h2⟩ := h
  rcases h2 with ⟨h0, _⟩ | ⟨g', off', cap', cur, hv, hg, hh, hn, hc, hs, ht⟩
  · cases h0
  · cases hv
    refine ⟨by rw [List.length_set]; exact h1, .inr ⟨g, off, cap, _, rfl, hg, heap_set_same u hh, hn, hc, by simpa using hs, ?_⟩⟩
    rw [Array.toList_setIfInBounds, ← ht]
    apply List.ext_getElem?
    intro i
    rw [List.getElem?_take, List.getElem?_drop, List.getElem?_set, List.getElem?_set, List.getElem?_take, List.getElem?_drop]
    have hlen : off + j < cur.toList.length := by
      have h3 : ((cur.toList.drop off).take (n * size)).length = n * size := by rw [ht]; exact h1
      rw [List.length_take, List.length_drop] at h3
      omega
    have hlen2 : j < ((cur.toList.drop off).take (n * size)).length := by rw [ht, h1]; exact hj
    by_cases e1 : j = i
    · subst e1
      rw [if_pos hj, if_pos rfl, if_pos hlen, if_pos rfl, if_pos hlen2]
    · rw [if_neg e1]
      by_cases hi : i < n * size
      · rw [if_pos hi, if_neg (by omega), if_pos hi]
      · rw [if_neg hi, if_neg hi]
theorem Seg.free (h : Seg w base e size (.slice (some ⟨g, off, none⟩) n cap) n xs) (o : Nat) : w.frozen? ⟨g, o, none⟩ = false := by
  rcases h.2 with ⟨h0, _⟩ | ⟨g', off', cap', cur, hv, hg, hh, _⟩
  · cases h0
  · cases hv
    simp [World.frozen?, hh]
end
end Go.Proofs.Yteepdknnmdhckaa
