/-
  The table: find, Get, Take (chapter 18).
-/
import Derived.Test.YteepdknnmdhckaaTa14
import Derived.StillTailTactics
namespace Go.Proofs.Yteepdknnmdhckaa
open Go Go.RowKit Go.MuLone
set_option linter.unusedVariables false
set_option linter.unusedSimpArgs false
set_option maxRecDepth 100000
set_option maxHeartbeats 2000000
def dropK (k : Int × Int) (es : List TE) : List TE := es.filter fun e => !decide (e.k = k)
theorem inP_dropK (P : Nat) (k : Int × Int) (es : List TE) : inP P (dropK k es) (partOf P k) = delM k (inP P es (partOf P k)) := by
  unfold inP dropK delM
  rw [List.filter_map, List.filter_filter, List.filter_filter]
  congr 1
  refine List.filter_congr fun e _ => ?_
  by_cases he : e.k = k <;> simp [TE.mp, he]
theorem inP_dropK' (P : Nat) (k : Int × Int) (es : List TE) (i : Nat) (hi : i ≠ partOf P k) : inP P (dropK k es) i = inP P es i := by
  unfold inP dropK
  rw [List.filter_filter]
  congr 1
  refine List.filter_congr fun e _ => ?_
  by_cases he : partOf P e.k = i
  · have : ¬ e.k = k := fun h => hi (by rw [← he, h])
    simp [he, this]
  · simp [he]
theorem TabM.delEnt {base : Nat} {W w' : World} {bt : Nat} {s : TS} {hd : Option Nat} (h : TabM base W bt s hd) {k : Int × Int} {p : Nat × Nat} (hj : s.ps[partOf s.ps.length k]? = some p)
    (ho : Only [p.2] W w') (hp : MapW encK w' p.2 (delM k (inP s.ps.length s.es (partOf s.ps.length k)))) : TabM base w' bt { s with es := dropK k s.es } hd := by
  refine h.setMap hj (dropK k s.es) ho (by rw [inP_dropK]; exact hp) (fun i hi => inP_dropK' _ _ _ _ hi) (fun f hf => h.pe f (List.mem_filter.1 hf).1) ?_
  exact List.Sublist.nodup ((List.filter_sublist).map _) h.en
theorem EntM.turn {base : Nat} {w w' : World} {e : TE} {K : List (Option TypeId)} (h : EntM w base e) (ht : Turn base K w w') (h1 : some 211 ∉ K) (h2 : some 207 ∉ K) : EntM w' base e := ⟨ht.blk h.b h1, ht.seg h.s h2, h.lo⟩
end Go.Proofs.Yteepdknnmdhckaa
