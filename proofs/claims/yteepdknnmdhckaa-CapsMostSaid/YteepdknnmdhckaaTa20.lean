/-
  The table: a part's oldest entry (chapter 18).
-/
import Derived.Test.YteepdknnmdhckaaTa19
namespace Go.Proofs.Yteepdknnmdhckaa
open Go Go.RowKit Go.MuLone
set_option linter.unusedVariables false
set_option linter.unusedSimpArgs false
set_option maxRecDepth 100000
set_option maxHeartbeats 2000000
def doneE (e : TE) : Prop := e.need ≤ (e.l.length : Int)
instance (e : TE) : Decidable (doneE e) := by unfold doneE; infer_instance
/-- The oldest one so far, of the entries that were seen. -/
def OldI (seen all : TE → Prop) (k : Int × Int) (made : Nat) : Prop :=
  (made = 0 ∧ k = (0, 0) ∧ ∀ e, seen e → doneE e) ∨ (∃ e, all e ∧ ¬ doneE e ∧ made = e.made ∧ k = e.k ∧ 0 < made ∧ ∀ f, seen f → ¬ doneE f → e.made ≤ f.made)
theorem OldI.old {seen seen' all : TE → Prop} {k : Int × Int} {made : Nat} (h : OldI seen all k made) (e : TE) (hs : ∀ f, seen' f → seen f ∨ f = e) (hd : doneE e ∨ (0 < made ∧ made ≤ e.made)) : OldI seen' all k made := by
  rcases h with ⟨h1, h2, h3⟩ | ⟨g, h1, h2, h3, h4, h6, h5⟩
  · refine .inl ⟨h1, h2, fun f hf => ?_⟩
    rcases hs f hf with h | rfl
    · exact h3 f h
    · rcases hd with hd | hd
      · exact hd
      · omega
  · refine .inr ⟨g, h1, h2, h3, h4, h6, fun f hf hn => ?_⟩
    rcases hs f hf with h | rfl
    · exact h5 f h hn
    · rcases hd with hd | hd
      · exact absurd hd hn
      · omega
theorem OldI.new {seen seen' all : TE → Prop} {k : Int × Int} {made : Nat} (h : OldI seen all k made) (e : TE) (he : all e) (he0 : 0 < e.made) (hs : ∀ f, seen' f → seen f ∨ f = e) (hd : ¬ doneE e) (hm : made = 0 ∨ e.made < made) : OldI seen' all e.k e.made := by
  refine .inr ⟨e, he, hd, rfl, rfl, he0, fun f hf hn => ?_⟩
  rcases hs f hf with hf | rfl
  · rcases h with ⟨h1, h2, h3⟩ | ⟨g, h1, h2, h3, h4, h6, h5⟩
    · exact absurd (h3 f hf) hn
    · have := h5 f hf hn
      have := (hm : made = 0 ∨ e.made < made)
      rcases this with h0 | h0
      · omega
      · omega
  · exact Nat.le_refl _
def PartE (P j : Nat) (es : List TE) (e : TE) : Prop := e ∈ es ∧ partOf P e.k = j
theorem TabM.turn {base b0 : Nat} {K : List (Option TypeId)} {w w' : World} {bt : Nat} {s : TS} {hd : Option Nat} (h : TabM base w bt s hd) (ht : Turn b0 K w w') (h1 : some 102 ∉ K) (h2 : some 103 ∉ K) (h3 : some 106 ∉ K) (h4 : none ∉ K) (h5 : some 211 ∉ K) (h6 : some 207 ∉ K) : TabM base w' bt s hd :=
  ⟨ht.blk h.tb h1, h.lo, ht.seg h.pa h2, fun j p hp => ⟨ht.blk (h.pc j p hp).1 h3, (h.pc j p hp).2⟩, fun j p hp => ⟨ht.map (h.pm j p hp).1 h4, (h.pm j p hp).2⟩, h.n1, h.n2, fun e he => ⟨ht.blk (h.pe e he).b h5, ht.seg (h.pe e he).s h6, (h.pe e he).lo⟩, h.en⟩
theorem Turn.fresh {base : Nat} {K : List (Option TypeId)} {a b c : World} {x : Nat} (h : Turn base K a b) (k : Only [x] b c) (hx : a.heap.size ≤ x) : Turn base K a c := by
  obtain ⟨S, h1, h2⟩ := h
  exact ⟨S, h1.trans' k (fun y hy => .inr (by rw [List.mem_singleton.1 hy]; exact hx)), h2⟩
theorem only_two (w : World) (b : Nat) (u v : Value) : Only [b] w ((w.setCell ⟨b, 0, none⟩ u).setCell ⟨b, 1, none⟩ v) := ((Only.refl _ _).setCell _ _ (.inl (by simp))).setCell _ _ (.inl (by simp))
end Go.Proofs.Yteepdknnmdhckaa
