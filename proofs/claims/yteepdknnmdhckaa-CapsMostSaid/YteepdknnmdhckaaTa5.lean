/-
  The table: slices.Insert of a shard in place; at any place (chapter 18).
-/
import Derived.Test.YteepdknnmdhckaaTa4
namespace Go.Proofs.Yteepdknnmdhckaa
open Go Go.RowKit
set_option linter.unusedVariables false
set_option linter.unusedSimpArgs false
set_option maxRecDepth 100000
set_option maxHeartbeats 2000000
theorem Seg.shape? {w : World} {base g off cap n : Nat} {e : TypeId} {size : Nat} {xs : List Value} (h : Seg w base e size (.slice (some ⟨g, off, none⟩) n cap) n xs) (hc : 0 < cap) (hs : 0 < size) : ∃ k, w.shape? g = some (e, k) ∧ k ≠ 0 := by
  rcases h.2 with ⟨h0, _⟩ | ⟨g', off', cap', cur, hv, hg, hh, hn, hcm, hf, _⟩
  · cases h0
  · cases hv
    refine ⟨cur.size, by unfold World.shape?; rw [hh], ?_⟩
    have := Nat.mul_pos hc hs
    omega
theorem Blk.shape? {w : World} {b : Nat} {cs : Array Value} {t : TypeId} (h : Blk w b cs t) : w.shape? b = some (t, cs.size) := by
  unfold Blk at h
  unfold World.shape?
  rw [h]
theorem sizeOfSh (w : World) : (Go.sizeOf 207).run Try.prog w = .ok 2 w := Try.sizeOf207 w
end Go.Proofs.Yteepdknnmdhckaa
