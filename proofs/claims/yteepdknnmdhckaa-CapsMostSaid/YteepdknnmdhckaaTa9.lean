/-
  The table: judge (chapter 18).
-/
import Derived.Test.YteepdknnmdhckaaTa8
namespace Go.Proofs.Yteepdknnmdhckaa
open Go Go.RowKit Go.MuLone
set_option linter.unusedVariables false
set_option linter.unusedSimpArgs false
set_option maxRecDepth 100000
set_option maxHeartbeats 2000000
/-- What an entry is to be: at least one shard, by rising index, no more than are needed. -/
structure EOk (e : TE) : Prop where
  a : 1 ≤ e.need
  b : e.need ≤ 32
  c : 0 < e.l.length
  d : (e.l.length : Int) ≤ e.need
  r : Rise e.l
theorem EntM.chain {w w' : World} {base : Nat} {e : TE} (h : EntM w base e) (hb : Below w.heap.size w w') : EntM w' base e := ⟨h.b.below hb h.b.lt, h.s.chain hb, h.lo⟩
theorem judge_fin {e : TE} {base base2 : Nat} {w wq : World} {l : List Sh} {v : Value} (h : EntM w base e) (hb : Below w.heap.size w wq) (hs : ShS wq base2 v l) (hle : base ≤ base2) :
    EntM (wq.setCell ⟨e.eb, 1, none⟩ v) base { e with l := l, sv := v } ∧ Only [e.eb] w (wq.setCell ⟨e.eb, 1, none⟩ v) := by
  have hq := h.chain hb
  refine ⟨⟨hq.b.setAt 1 v rfl, (hs.le hle).setOther _ _ (fun g hg => ?_), hq.lo⟩, (Only.of_below hb).setCell _ _ (.inl (by simp))⟩
  rcases hs.2 with ⟨hv, _⟩ | ⟨g', off, cap, cur, hv, _, hh, _⟩
  · rw [hv] at hg; cases hg
  · rw [hv] at hg
    obtain rfl : g' = g := by simpa [Value.ownBlock] using hg
    rintro rfl
    have := hq.b
    unfold Blk at this
    rw [show wq.heap[e.eb]? = _ from hh] at this
    cases this
end Go.Proofs.Yteepdknnmdhckaa
