/-
  A slice of things of k cells, sorted by slices.SortFunc: what it was and what it is, as lists. For whatever program.
-/
import Derived.Test.YtjfmjehacaemcaaSeg
import Derived.Shelf.SlSortCmp.WholeK
namespace Go.Proofs.Ytjfmjehacaemcaa
open Go Go.RowKit Go.Shelf Go.Sort
set_option linter.unusedVariables false
section
variable {α : Type} [Inhabited α] {enc : α → List Value} {k : Nat}
theorem get_flat (hk : ∀ x, (enc x).length = k) : ∀ (xs : List α) (t : Nat), t < xs.length * k → (xs.flatMap enc)[t]? = (enc xs[t / k]!)[t % k]?
  | [], t, h => by simp at h
  | x :: xs, t, h => by
    have hkp : 0 < k := by
      rcases Nat.eq_zero_or_pos k with h0 | h0
      · rw [h0] at h; simp at h
      · exact h0
    rw [List.flatMap_cons]
    by_cases ht : t < k
    · rw [List.getElem?_append_left (by rw [hk]; exact ht), Nat.div_eq_of_lt ht, Nat.mod_eq_of_lt ht]
      rfl
    · have hge : k ≤ t := by omega
      have ih := get_flat hk xs (t - k) (by rw [List.length_cons, Nat.succ_mul] at h; omega)
      rw [List.getElem?_append_right (by rw [hk]; exact hge), hk, ih]
      have e1 : t / k = (t - k) / k + 1 := by
        conv => lhs; rw [show t = (t - k) + k by omega]
        rw [Nat.add_div_right _ hkp]
      have e2 : t % k = (t - k) % k := by
        conv => lhs; rw [show t = (t - k) + k by omega]
        rw [Nat.add_mod_right]
      rw [e1, e2]
      rfl
omit [Inhabited α] in
theorem length_flat (hk : ∀ x, (enc x).length = k) : ∀ xs : List α, (xs.flatMap enc).length = xs.length * k
  | [] => by simp
  | x :: xs => by rw [List.flatMap_cons, List.length_append, hk, length_flat hk xs, List.length_cons, Nat.succ_mul]; omega
theorem flatK_list (hk : ∀ x, (enc x).length = k) (xs : List α) : Go.Sort.flatK enc k xs.toArray = (xs.flatMap enc).toArray := by
  apply Array.ext_getElem?
  intro t
  by_cases h : t < xs.length * k
  · have h1 := get_flat hk xs t h
    have hl := length_flat hk xs
    have hkp : 0 < k := by
      rcases Nat.eq_zero_or_pos k with h0 | h0
      · rw [h0] at h; simp at h
      · exact h0
    have hm : t % k < (enc xs[t / k]!).length := by rw [hk]; exact Nat.mod_lt _ hkp
    simp only [Go.Sort.flatK, List.size_toArray, Array.getElem?_map, Array.getElem?_range, h, if_true, Option.map_some]
    rw [List.getElem?_toArray, h1, List.getElem?_eq_getElem hm]
    simp only [List.getElem!_toArray, Option.some.injEq]
    rw [List.getElem!_eq_getElem?_getD, List.getElem?_eq_getElem hm]
    rfl
  · rw [Array.getElem?_eq_none (by simp [Go.Sort.flatK]; omega), Array.getElem?_eq_none (by simp [length_flat hk]; omega)]
theorem Seg.holdsK {w : World} {base : Nat} {t : TypeId} {g off cap : Nat} {xs : List α} (hk : ∀ x, (enc x).length = k) (h : Seg w base t k (.slice (some ⟨g, off, none⟩) xs.length cap) xs.length (xs.flatMap enc)) : HoldsK enc k w g off xs.toArray := by
  intro j hj
  rw [flatK_list hk] at hj ⊢
  have hj' : j < xs.length * k := by simpa [length_flat hk] using hj
  refine ⟨?_, ?_⟩
  · rw [h.at j hj']
    have : j < (xs.flatMap enc).length := by rw [length_flat hk]; exact hj'
    rw [List.getElem?_eq_getElem this]
    simp only [Array.getElem!_eq_getD, Array.getD_eq_getD_getElem?, List.getElem?_toArray, List.getElem?_eq_getElem this, Option.getD_some, id]
  · rcases h.2 with ⟨h0, _⟩ | ⟨g', off', cap', cur, hv, _, hh, _⟩
    · cases h0
    · cases hv
      simp [World.frozen?, hh]
theorem Seg.sortedK {w : World} {base : Nat} {t : TypeId} {g off cap m : Nat} {xs ys : List α} {os : Array Obj} (hk : ∀ x, (enc x).length = k) (h : Seg w base t k (.slice (some ⟨g, off, none⟩) xs.length cap) xs.length (xs.flatMap enc)) (hl : ys.length = xs.length) :
    Seg (sortWorldK enc k w g off m ys.toArray os) base t k (.slice (some ⟨g, off, none⟩) xs.length cap) xs.length (ys.flatMap enc) ∧ Only [g] w (sortWorldK enc k w g off m ys.toArray os) := by
  rcases h.2 with ⟨h0, _⟩ | ⟨g', off', cap', cur, hv, hb, hh, hn, hc, hs, ht⟩
  · cases h0
  · cases hv
    have hg : g < w.heap.size := (Array.getElem?_eq_some_iff.1 hh).1
    have hblk : (sortWorldK enc k w g off m ys.toArray os).heap[g]? = some (.cells (putCells id off (Go.Sort.flatK enc k ys.toArray) cur) t (0, 0)) := by
      unfold sortWorldK
      rw [heap_grow_old _ _ (by simp [putRowK, putRow, mapBlock]; exact hg)]
      simp only [putRowK, putRow, mapBlock, Array.getElem?_modify, heap_ahead, hh, if_true, Option.map_some, onCells]
    refine ⟨⟨by rw [length_flat hk, hl], .inr ⟨g, off, cap, _, rfl, hb, hblk, hn, hc, by simpa [putCells] using hs, ?_⟩⟩, ⟨rfl, rfl, rfl, by simp [sortWorldK, putRowK, putRow, mapBlock], fun j hj hne => ?_⟩⟩
    · rw [flatK_list hk]
      have hcs : off + xs.length * k ≤ cur.size := by
        have := Nat.mul_le_mul_right k hn
        omega
      apply List.ext_getElem?
      intro j
      rw [List.getElem?_take]
      by_cases hj : j < xs.length * k
      · have hjl : j < (ys.flatMap enc).length := by rw [length_flat hk, hl]; exact hj
        rw [if_pos hj, List.getElem?_drop, List.getElem?_eq_getElem hjl]
        have e : (putCells id off (ys.flatMap enc).toArray cur).toList[off + j]? = (putCells id off (ys.flatMap enc).toArray cur)[off + j]? := by simp
        rw [e]
        simp only [putCells, Array.getElem?_mapIdx, Array.getElem?_eq_getElem (show off + j < cur.size by omega), Option.map_some, List.size_toArray, id]
        rw [if_pos ⟨by omega, by omega⟩, Nat.add_sub_cancel_left]
        simp only [Array.getElem!_eq_getD, Array.getD_eq_getD_getElem?, List.getElem?_toArray, List.getElem?_eq_getElem hjl, Option.getD_some]
      · rw [if_neg hj, List.getElem?_eq_none (by rw [length_flat hk, hl]; omega)]
    · have hne' : g ≠ j := fun e => hne (by simp [e])
      unfold sortWorldK
      rw [heap_grow_old _ _ (by simp [putRowK, putRow, mapBlock]; exact hj)]
      simp [putRowK, putRow, mapBlock, Array.getElem?_modify, hne']
end
end Go.Proofs.Ytjfmjehacaemcaa
