/-
  The table: put (chapter 18).
-/
import Derived.Test.YteepdknnmdhckaaTa12
namespace Go.Proofs.Yteepdknnmdhckaa
open Go Go.RowKit Go.MuLone
set_option linter.unusedVariables false
set_option linter.unusedSimpArgs false
set_option maxRecDepth 100000
set_option maxHeartbeats 2000000
theorem MapW.drew {κ : Type} [DecidableEq κ] {enc : κ → Value} {w : World} {b : Nat} {l : List (κ × Value)} (h : MapW enc w b l) : MapW enc w.drew b l := h
theorem EntM.drew {w : World} {base : Nat} {e : TE} (h : EntM w base e) : EntM w.drew base e := ⟨h.b.drew, h.s.drew, h.lo⟩
/-- A part is locked. -/
theorem TabM.lock {base : Nat} {w : World} {bt : Nat} {s : TS} (h : TabM base w bt s none) {j : Nat} {p : Nat × Nat} (hp : s.ps[j]? = some p) : TabM base (w.setCell ⟨p.1, 0, none⟩ (.int .i32 1)) bt s (some j) := by
  refine h.setPart hp (some j) ((Only.refl _ _).setCell _ _ (.inl (by simp))) ((h.pc j p hp).1.setAt 0 _ (by simp [partC, lockOf])) (fun i hi => ?_)
  unfold lockOf
  rw [if_neg (fun e => hi (Option.some.inj e).symm), if_neg (by simp)]
theorem TabM.unlock {base : Nat} {w : World} {bt : Nat} {s : TS} {j : Nat} (h : TabM base w bt s (some j)) {p : Nat × Nat} (hp : s.ps[j]? = some p) : TabM base (w.setCell ⟨p.1, 0, none⟩ (.int .i32 0)) bt s none := by
  refine h.setPart hp none ((Only.refl _ _).setCell _ _ (.inl (by simp))) ((h.pc j p hp).1.setAt 0 _ (by simp [partC, lockOf])) (fun i hi => ?_)
  unfold lockOf
  rw [if_neg (by simp), if_neg (fun e => hi (Option.some.inj e).symm)]
end Go.Proofs.Yteepdknnmdhckaa
