/-
  The table: Drop (chapter 18).
-/
import Derived.Test.YteepdknnmdhckaaTa18
namespace Go.Proofs.Yteepdknnmdhckaa
open Go Go.RowKit Go.MuLone
set_option linter.unusedVariables false
set_option linter.unusedSimpArgs false
set_option maxRecDepth 100000
set_option maxHeartbeats 2000000
/-- Without a stream's entries in the parts ahead of j. -/
def dropTo (P j : Nat) (z : Int) (es : List TE) : List TE := es.filter fun e => !(decide (partOf P e.k < j) && decide (e.k.1 = z))
theorem dropTo_zero (P : Nat) (z : Int) (es : List TE) : dropTo P 0 z es = es := by
  unfold dropTo
  exact List.filter_eq_self.2 fun e _ => by simp
theorem dropTo_succ (P j : Nat) (z : Int) (es : List TE) : dropP P j z (dropTo P j z es) = dropTo P (j + 1) z es := by
  unfold dropP dropTo
  rw [List.filter_filter]
  refine List.filter_congr fun e _ => ?_
  by_cases h1 : partOf P e.k = j <;> by_cases h2 : e.k.1 = z
  · simp [h1, h2]
  · simp [h1, h2]
  · have : partOf P e.k < j + 1 ↔ partOf P e.k < j := by omega
    simp [h1, h2, this]
  · simp [h1, h2]
theorem dropTo_all {P : Nat} (hP : 0 < P) (z : Int) (es : List TE) : dropTo P P z es = es.filter fun e => !decide (e.k.1 = z) := by
  unfold dropTo
  refine List.filter_congr fun e _ => ?_
  simp [partOf_lt hP]
theorem filter_split {α : Type} (p : α → Bool) : ∀ l : List α, (l.filter p).length + (l.filter fun x => !p x).length = l.length
  | [] => rfl
  | x :: l => by
    have ih := filter_split p l
    by_cases h : p x = true
    · rw [List.filter_cons_of_pos h, List.filter_cons_of_neg (by simp [h]), List.length_cons, List.length_cons]; omega
    · rw [List.filter_cons_of_neg h, List.filter_cons_of_pos (by simp [h]), List.length_cons, List.length_cons]; omega
theorem drop_count (P j : Nat) (z : Int) (es : List TE) : ((inP P es j).filter (hasS z)).length + (dropP P j z es).length = es.length := by
  have e1 : ((inP P es j).filter (hasS z)).length = (es.filter fun e => decide (partOf P e.k = j) && decide (e.k.1 = z)).length := by
    unfold inP
    rw [List.filter_map, List.length_map, List.filter_filter]
    congr 1
    refine List.filter_congr fun e _ => ?_
    by_cases h1 : partOf P e.k = j <;> by_cases h2 : e.k.1 = z <;> simp [TE.mp, hasS, h1, h2]
  rw [e1]
  exact filter_split _ es
theorem TabM.ptrAt {base : Nat} {w : World} {bt : Nat} {s : TS} {hd : Option Nat} (h : TabM base w bt s hd) {g off n cap : Nat} (hv : s.pv = .slice (some ⟨g, off, none⟩) n cap) {j : Nat} {p : Nat × Nat} (hp : s.ps[j]? = some p) : w.cell? ⟨g, off + j, none⟩ = some (ptr p.1) := by
  obtain ⟨a, c, he, hc⟩ := Seg.ptrAt h.pa
  rw [hv] at he
  cases he
  obtain ⟨g', off', e, _, hcell⟩ := hc j p hp
  cases e
  exact hcell
end Go.Proofs.Yteepdknnmdhckaa
