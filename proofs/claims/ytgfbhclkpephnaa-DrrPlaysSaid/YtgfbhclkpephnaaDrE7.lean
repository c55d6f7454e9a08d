/-
  The scheduler and the document's queues, side by side.
-/
import Derived.Test.YtgfbhclkpephnaaDrE6
namespace Go.Proofs.Ytgfbhclkpephnaa
open Go Go.RowKit
set_option linter.unusedVariables false
set_option linter.unusedSimpArgs false
set_option maxRecDepth 100000
set_option maxHeartbeats 1000000
theorem Al.grown {W w w' : World} {bs : Nat} {S : PS} {F : List Nat} (h : Al W bs S F w) (hb : Below w.heap.size w w') : Al W bs S (List.range' w.heap.size (w'.heap.size - w.heap.size) ++ F) w' :=
  h.other (X := []) (Only.of_below hb) (by simp) (fun y hy => by
    have := hb.size
    rw [List.mem_range'_1] at hy
    omega)
theorem Al.addSeg {W w : World} {bs : Nat} {S : PS} {F : List Nat} (h : Al W bs S F w) {b size n : Nat} {e : TypeId} {v : Value} {xs : List Value} (hs : Seg w b e size v n xs) (h1 : e ≠ 98) (h2 : e ≠ 94) (h3 : e ≠ 110) (h4 : e ≠ 35) : Al W bs S (v.ownBlock.toList ++ F) w := by
  obtain ⟨m, hm, hF⟩ := h.s
  obtain ⟨cs, hcs, _⟩ := hm.s
  refine ⟨h.ok, ⟨m, hm, fun y hy hy2 => ?_⟩, h.b, fun y hy => ?_⟩
  · rcases List.mem_append.1 hy2 with hv | hv
    · have hv' : v.ownBlock = some y := by simpa using hv
      rcases own_cases hy with e | hy | ⟨q, hq, e | hy⟩
      · exact hs.ne_blk hcs h1 y hv' e
      · exact hs.ne_seg hm.r h2 y hv' (by simpa using hy)
      · exact hs.ne_blk (hm.q q hq) h3 y hv' e
      · exact hs.ne_seg (hm.i q hq) h4 y hv' (by simpa using hy)
    · exact hF y hy hv
  · rcases List.mem_append.1 hy with hv | hv
    · exact (hs.blk y (by simpa using hv)).2
    · exact h.f y hv
theorem Al.doc {W w w' : World} {bs : Nat} {S S' : PS} {F : List Nat} {qv rv : Value} {ls0 ls : List Value} (h : Al W bs S F w) (hd : DocR w' qv rv ls S') (hb : Below w.heap.size w w') (hsub : SubL w.heap.size ls0 ls) (hi : ∀ v ∈ ls0, ∀ g, v.ownBlock = some g → g ∈ F) :
    ∃ F', (∀ y ∈ F, y ∈ F') ∧ Al W bs S F' w' ∧ (∀ v ∈ qv :: rv :: ls, ∀ g, v.ownBlock = some g → g ∈ F') := by
  have h1 := ((h.grown hb).addSeg hd.2.2.2 (by decide) (by decide) (by decide) (by decide)).addSeg hd.2.1 (by decide) (by decide) (by decide) (by decide)
  refine ⟨_, fun y hy => ?_, h1, fun v hv g hg => ?_⟩
  · exact List.mem_append_right _ (List.mem_append_right _ (List.mem_append_right _ hy))
  · rcases List.mem_cons.1 hv with rfl | hv
    · exact List.mem_append_left _ (by simp [hg])
    · rcases List.mem_cons.1 hv with rfl | hv
      · exact List.mem_append_right _ (List.mem_append_left _ (by simp [hg]))
      · refine List.mem_append_right _ (List.mem_append_right _ ?_)
        rcases hsub v hv g hg with ⟨z, hz, hzg⟩ | hge
        · exact List.mem_append_right _ (hi z hz g hzg)
        · obtain ⟨i, hi2, rfl⟩ := List.getElem_of_mem hv
          have := ((hd.2.2.1 i (by rw [← hd.1]; exact hi2) hi2).blk g hg).2
          exact List.mem_append_left _ (by rw [List.mem_range'_1]; omega)
theorem DocR.keepK {w w' : World} {qv rv : Value} {ls : List Value} {S : PS} {F : List Nat} (h : DocR w qv rv ls S) (hk : Keep F w w') (hF : ∀ v ∈ qv :: rv :: ls, ∀ g, v.ownBlock = some g → g ∈ F) : DocR w' qv rv ls S :=
  ⟨h.1, hk.seg h.2.1 (hF _ List.mem_cons_self), fun i h1 h2 => hk.seg (h.2.2.1 i h1 h2) (hF _ (List.mem_cons_of_mem _ (List.mem_cons_of_mem _ (List.getElem_mem h2)))), hk.seg h.2.2.2 (hF _ (List.mem_cons_of_mem _ List.mem_cons_self))⟩
/-- The scheduler, and the document's queues beside it. -/
structure Joint (W : World) (bs : Nat) (S : PS) (F : List Nat) (qv rv : Value) (ls : List Value) (w : World) : Prop where
  al : Al W bs S F w
  d : DocR w qv rv ls S
  i : ∀ v ∈ ls, ∀ g, v.ownBlock = some g → g ∈ F
theorem Joint.new {W w : World} {bs : Nat} {S : PS} {F : List Nat} {qv rv : Value} {ls : List Value} (h : Joint W bs S F qv rv ls w) (o : Obj) : Joint W bs S (w.heap.size :: F) qv rv ls (w.alloc o) :=
  ⟨h.al.new o, h.d.chain (Below.chainAlloc (Below.refl _ w) o), fun v hv g hg => List.mem_cons_of_mem _ (h.i v hv g hg)⟩
theorem Joint.chain {W w w' : World} {bs : Nat} {S : PS} {F : List Nat} {qv rv : Value} {ls : List Value} (h : Joint W bs S F qv rv ls w) (hb : Below w.heap.size w w') : Joint W bs S F qv rv ls w' := ⟨h.al.chain hb, h.d.chain hb, h.i⟩
/-- What a deed answers. -/
def DoPost (W : World) (bs : Nat) (F : List Nat) (w : World) (n : Nat) (e : Ending) (w' : World) : Prop :=
  ∃ S' F' qv' rv' ls', e = .returned (.tuple #[docV S' qv' rv', .bool true]) ∧ Joint W bs S' F' qv' rv' ls' w' ∧ Keep F w w' ∧ (∀ y ∈ F, y ∈ F') ∧ totQ S'.qs ≤ n
/-- The end of a deed: the answer is stored into its cell. -/
theorem do_fin {W w w3 w5 wx : World} {bs b2 : Nat} {S' : PS} {F F1 : List Nat} {qv rv : Value} {ls : List Value} {cs : Array Value} {n : Nat} (hk0 : Keep F w w3) (hF : ∀ y ∈ F, y ∈ F1) (hal : Al W bs S' F1 w5) (hk : Keep F1 w3 w5) (hd : DocR w3 qv rv ls S') (hi : ∀ v ∈ qv :: rv :: ls, ∀ g, v.ownBlock = some g → g ∈ F1) (hb2 : b2 ∈ F1) (hbF : b2 ∉ F) (hbW : W.heap.size ≤ b2) (k2 : Blk w5 b2 cs 31) (ho : Only [b2] w5 wx) (ht : totQ S'.qs ≤ n) :
    DoPost W bs F w n (.returned (.tuple #[docV S' qv rv, .bool true])) wx := by
  have hd5 := hd.keepK hk hi
  have hal2 := hal.other (X := [b2]) (G := []) ho (fun y hy => by rw [List.mem_singleton.1 hy]; exact ⟨hb2, hbW⟩) (by simp)
  refine ⟨S', F1, qv, rv, ls, rfl, ⟨by simpa using hal2, hd5.keepS k2 ho, fun v hv => hi v (List.mem_cons_of_mem _ (List.mem_cons_of_mem _ hv))⟩, ?_, hF, ht⟩
  have hk1 : Keep F w w5 := ⟨Nat.le_trans hk0.1 hk.1, fun y hy => (hk.2 y (hF y hy)).trans (hk0.2 y hy)⟩
  refine ⟨Nat.le_trans hk1.1 ho.size, fun y hy => (ho.block y (hal.f y (hF y hy)) (fun hm => hbF (by rw [← List.mem_singleton.1 hm]; exact hy))).trans (hk1.2 y hy)⟩
end Go.Proofs.Ytgfbhclkpephnaa
