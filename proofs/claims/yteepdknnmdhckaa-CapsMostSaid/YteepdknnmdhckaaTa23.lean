/-
  The table: the example (chapter 18).
-/
import Derived.Test.YteepdknnmdhckaaTa22
import Derived.Deep.RegionHeld3
namespace Go.Proofs.Yteepdknnmdhckaa
open Go Go.RowKit Go.MuLone
set_option linter.unusedVariables false
set_option linter.unusedSimpArgs false
set_option maxRecDepth 100000
set_option maxHeartbeats 2000000
/-- A table of room 2 at bt, and a key of its own at kb. -/
def AW (W : World) (bt kb : Nat) (A : List DE) (m : Nat) (w : World) : Prop := (∃ s, Tab W.heap.size w bt 2 A m s) ∧ Blk w kb #[.int .i64 1, .int .u32 7] 169 ∧ Below W.heap.size W w
theorem AW.turn {W w w' : World} {bt kb : Nat} {A A' : List DE} {m m' : Nat} (h : AW W bt kb A m w) (ht : Turn W.heap.size KT w w') (hs : ∃ s, Tab W.heap.size w' bt 2 A' m' s) : AW W bt kb A' m' w' :=
  ⟨hs, ht.blk h.2.1 (by decide), h.2.2.trans (ht.below h.2.2.size)⟩
theorem AW.chain {W w w' : World} {bt kb : Nat} {A : List DE} {m : Nat} (h : AW W bt kb A m w) (hb : Below w.heap.size w w') : AW W bt kb A m w' :=
  ⟨h.1.imp fun s hs => hs.chain hb, h.2.1.below hb h.2.1.lt, Below.chain hb h.2.2⟩
theorem tLen (base bt room : Nat) (A : List DE) (m : Nat) (s : TS) (w : World) (h : Tab base w bt room A m s) : Calls Try.prog 30 #[ptr bt] w (TabR base bt room A m w (.int .i64 (A.length : Nat))) := by
  obtain ⟨ht, ok, ha, hr, hm⟩ := h
  subst ha hr
  refine (tlen_any bt s w ht.tb).mono ?_
  rintro e w' ⟨rfl, hb, ho⟩
  have hl : s.A.length = s.n := by unfold TS.A; rw [List.length_map, ok.n]
  refine ⟨by rw [hl], ⟨s, ht.setTab (n := s.n) (made := s.made) ho hb, ok, rfl, rfl, hm⟩, Turn.only1 ho ht.lo ht.tb (by simp)⟩
theorem aw_len {W w : World} {bt kb : Nat} {A : List DE} {m : Nat} (h : AW W bt kb A m w) : Calls Try.prog 30 #[ptr bt] w fun e w' => e = .returned (.int .i64 (A.length : Nat)) ∧ AW W bt kb A m w' ∧ Turn W.heap.size KT w w' := by
  obtain ⟨s, hs⟩ := h.1
  refine (tLen W.heap.size bt 2 A m s w hs).mono ?_
  rintro e w' ⟨rfl, hs', ht⟩
  exact ⟨rfl, h.turn ht hs', ht⟩
def A18a : List DE := [((1, 7), 2, [(3, [97])])]
def A18b : List DE := [((1, 7), 2, [(0, [98]), (3, [97])])]
def A18c : List DE := [((1, 7), 2, [(0, [98]), (3, [97])]), ((1, 0), 3, [(0, [120])])]
def A18d : List DE := [((1, 0), 3, [(0, [120])])]
end Go.Proofs.Yteepdknnmdhckaa
