/-
  What is to be said: two lists side by side (chapter 25).
-/
import Derived.Test.YtphejbjbleeigaaCt12
import Derived.Test.YtphejbjbleeigaaFlat
namespace Go.Proofs.Ytphejbjbleeigaa
open Go Go.RowKit
set_option linter.unusedVariables false
set_option maxRecDepth 100000
set_option maxHeartbeats 1000000
open Go.ChangeShapes Go.WideShapes Go.ChangeAt
/-- The program's list ds and the document's list xs lie apart, behind w0's memory. -/
def R25 (w0 : World) (bc : Nat) (xv : Value) (xs ds : List Dg) (w : World) : Prop :=
  ∃ v, Ctl w bc w0.heap.size v ds ∧ Seg w w0.heap.size 24 10 xv xs.length (dgC xs) ∧ (∀ g, xv.ownBlock = some g → g ≠ bc ∧ v.ownBlock ≠ some g) ∧ Below w0.heap.size w0 w ∧ w0.heap.size ≤ bc
section
variable {w0 w : World} {bc : Nat} {xv : Value} {xs ds : List Dg}
theorem R25.chain {w' : World} (h : R25 w0 bc xv xs ds w) (hb : Below w.heap.size w w') : R25 w0 bc xv xs ds w' := by
  obtain ⟨v, h1, h2, h3, h4, h5⟩ := h
  exact ⟨v, h1.chain hb, h2.chain hb, h3, Below.chain hb h4, h5⟩
theorem R25.below (h : R25 w0 bc xv xs ds w) : Below w0.heap.size w0 w := by
  obtain ⟨v, h1, h2, h3, h4, h5⟩ := h
  exact h4
theorem R25.seg (h : R25 w0 bc xv xs ds w) : Seg w w0.heap.size 24 10 xv xs.length (dgC xs) := by
  obtain ⟨v, h1, h2, h3, h4, h5⟩ := h
  exact h2
/-- The document's list is a new one. -/
theorem R25.fresh {w' : World} {xv' : Value} {xs' : List Dg} (h : R25 w0 bc xv xs ds w) (hb : Below w.heap.size w w') (hs : Seg w' w.heap.size 24 10 xv' xs'.length (dgC xs')) : R25 w0 bc xv' xs' ds w' := by
  obtain ⟨v, h1, h2, h3, h4, h5⟩ := h
  refine ⟨v, h1.chain hb, hs.le h4.size, fun g hg => ?_, Below.chain hb h4, h5⟩
  have := (hs.blk g hg).1
  refine ⟨fun e => ?_, fun e => ?_⟩
  · have := h1.b.lt; omega
  · have := (h1.s.blk g e).2; omega
/-- The program's list has turned. -/
theorem R25.post {w' : World} {v R : Value} {ds' : List Dg} {e : Ending} (h1 : Ctl w bc w0.heap.size v ds) (h2 : Seg w w0.heap.size 24 10 xv xs.length (dgC xs)) (h3 : ∀ g, xv.ownBlock = some g → g ≠ bc ∧ v.ownBlock ≠ some g) (h4 : Below w0.heap.size w0 w) (h5 : w0.heap.size ≤ bc)
    (h : CtlPost R bc w0.heap.size v ds' w e w') : e = .returned R ∧ R25 w0 bc xv xs ds' w' := by
  obtain ⟨v', he, hc, ho, hv⟩ := h
  refine ⟨he, v', hc, h2.only ho (fun g hg hm => ?_), fun g hg => ⟨(h3 g hg).1, fun e => ?_⟩, Below.only h4 ho (fun x hx => ?_), h5⟩
  · rcases List.mem_cons.1 hm with e | e
    · exact (h3 g hg).1 e
    · exact (h3 g hg).2 (by simpa using e)
  · rcases hv with hv | ⟨g', hg', hl⟩
    · exact (h3 g hg).2 (hv ▸ e)
    · rw [hg'] at e
      have := (h2.blk g hg).2
      cases e
      omega
  · rcases List.mem_cons.1 hx with rfl | hx
    · exact h5
    · exact (h1.s.blk x (by simpa using hx)).1
theorem p_ask (d : Dg) (hh : d.have'.length ≤ 9223372036854775807) (hl : d.body.length ≤ 9223372036854775807) (hds : ds.length ≤ 1000) (h : R25 w0 bc xv xs ds w) :
    Calls Try.prog 27 #[.pointer (some ⟨bc, 0, none⟩), d.val] w fun e w' => e = .returned (.int .i64 (askE d)) ∧ R25 w0 bc xv xs (if askE d = 0 then askL ds d else ds) w' := by
  have hS := h
  obtain ⟨v, h1, h2, h3, h4, h5⟩ := h
  by_cases he : askE d = 0
  · rw [if_pos he, he]
    exact (ask_ok d bc w0.heap.size v ds w hh hl h1 h4.size hds he).mono fun e w' h => R25.post h1 h2 h3 h4 h5 h
  · rw [if_neg he]
    exact (ask_bad d bc w hh hl he).mono fun e w' h => ⟨h.1, hS.chain h.2⟩
theorem r_ask (d : Dg) (hh : d.have'.length ≤ 9223372036854775807) (hl : d.body.length ≤ 9223372036854775807) (hds : xs.length ≤ 1000) (h : R25 w0 bc xv xs ds w) :
    Calls Try.prog 26 #[xv, d.val] w fun e w' => ∃ xv', e = .returned (.tuple #[xv', .int .i64 (askE d)]) ∧ R25 w0 bc xv' (if askE d = 0 then rAskL xs d else xs) ds w' := by
  by_cases he : askE d = 0
  · rw [if_pos he, he]
    exact (rask_ok d w0.heap.size xv xs w hh hl h.seg hds he).mono fun e w' ⟨xv', h1, h2, h3⟩ => ⟨xv', h1, h.fresh h3 h2⟩
  · rw [if_neg he]
    exact (rask_bad d xv w hh hl he).mono fun e w' h' => ⟨xv, h'.1, h.chain h'.2⟩
theorem p_next (d : Dg) (h : R25 w0 bc xv xs (d :: ds) w) :
    Calls Try.prog 28 #[.pointer (some ⟨bc, 0, none⟩)] w fun e w' => e = .returned (.tuple #[d.val, .bool true]) ∧ R25 w0 bc xv xs ds w' := by
  obtain ⟨v, h1, h2, h3, h4, h5⟩ := h
  exact (next_ok bc w0.heap.size v d ds w h1).mono fun e w' h => R25.post h1 h2 h3 h4 h5 h
theorem p_none (h : R25 w0 bc xv xs [] w) :
    Calls Try.prog 28 #[.pointer (some ⟨bc, 0, none⟩)] w fun e w' => e = .returned (.tuple #[dg0.val, .bool false]) ∧ R25 w0 bc xv xs [] w' := by
  have hS := h
  obtain ⟨v, h1, h2, h3, h4, h5⟩ := h
  exact (next_empty bc w0.heap.size v w h1).mono fun e w' h => ⟨h.1, hS.chain h.2⟩
theorem p_len (h : R25 w0 bc xv xs ds w) :
    Calls Try.prog 33 #[.pointer (some ⟨bc, 0, none⟩)] w fun e w' => e = .returned (.int .i64 (ds.length : Nat)) ∧ R25 w0 bc xv xs ds w' := by
  have hS := h
  obtain ⟨v, h1, h2, h3, h4, h5⟩ := h
  exact (len_any bc w0.heap.size v ds w h1).mono fun e w' h => ⟨h.1, h.2 ▸ hS⟩
theorem p_drop (st : Int) (h : R25 w0 bc xv xs ds w) :
    Calls Try.prog 32 #[.pointer (some ⟨bc, 0, none⟩), .int .i64 st] w fun e w' => e = .returned (.int .i64 ((ds.length : Int) - ((keptD (dropB st) ds).length : Int))) ∧ R25 w0 bc xv xs (keptD (dropB st) ds) w' := by
  obtain ⟨v, h1, h2, h3, h4, h5⟩ := h
  exact (drop_any st bc w0.heap.size v ds w h1).mono fun e w' h => R25.post h1 h2 h3 h4 h5 h
theorem p_clean (st b : Int) (h : R25 w0 bc xv xs ds w) :
    Calls Try.prog 30 #[.pointer (some ⟨bc, 0, none⟩), .int .i64 st, .int .u32 b] w fun e w' => e = .returned (.int .i64 ((ds.length : Int) - ((keptD (cleanB st b) ds).length : Int))) ∧ R25 w0 bc xv xs (keptD (cleanB st b) ds) w' := by
  obtain ⟨v, h1, h2, h3, h4, h5⟩ := h
  exact (clean_any st b bc w0.heap.size v ds w h1).mono fun e w' h => R25.post h1 h2 h3 h4 h5 h
theorem r_drop (st : Int) (hds : xs.length ≤ 1000) (h : R25 w0 bc xv xs ds w) :
    Calls Try.prog 31 #[xv, .int .i64 st] w fun e w' => ∃ xv', e = .returned (.tuple #[xv', .int .i64 ((xs.length : Int) - ((keptD (dropB st) xs).length : Int))]) ∧ R25 w0 bc xv' (keptD (dropB st) xs) ds w' :=
  (rdrop_any st w0.heap.size xv xs w h.seg hds).mono fun e w' ⟨xv', h1, h2, h3⟩ => ⟨xv', h1, h.fresh h3 h2⟩
theorem r_clean (st b : Int) (hds : xs.length ≤ 1000) (hb : 0 ≤ b ∧ b < 4294967296) (hx : ∀ x ∈ xs, 0 ≤ x.block ∧ x.block < 4294967296) (h : R25 w0 bc xv xs ds w) :
    Calls Try.prog 29 #[xv, .int .i64 st, .int .u32 b] w fun e w' => ∃ xv', e = .returned (.tuple #[xv', .int .i64 ((xs.length : Int) - ((keptD (cleanB st b) xs).length : Int))]) ∧ R25 w0 bc xv' (keptD (cleanB st b) xs) ds w' :=
  (rclean_any st b w0.heap.size xv xs w h.seg hds hb hx).mono fun e w' ⟨xv', h1, h2, h3⟩ => ⟨xv', h1, h.fresh h3 h2⟩
theorem R25.tail {g off cap : Nat} {d : Dg} (h : R25 w0 bc (.slice (some ⟨g, off, none⟩) (xs.length + 1) cap) (d :: xs) ds w) (off' : Nat) (ho : off' = off + 10 ∨ cap = 1 ∧ off' = off) : R25 w0 bc (.slice (some ⟨g, off', none⟩) xs.length (cap - 1)) xs ds w := by
  obtain ⟨v, h1, h2, h3, h4, h5⟩ := h
  have e : (dgC (d :: xs)).drop 10 = dgC xs := rfl
  exact ⟨v, h1, e ▸ Seg.tail h2 off' ho, fun g hg => h3 g hg, h4, h5⟩
end
structure CD where
  kind : Int
  d : Dg
def CD.cells (c : CD) : List Value := .int .i64 c.kind :: c.d.vals
def CD.good (c : CD) : Prop := 0 ≤ c.d.block ∧ c.d.block < 4294967296
theorem open_cd {H : Type} {enc : TypeId × Value → H} {W : World} {b : Nat} {sp : Nat → Bool} {hd : Bool} {a : Option Addr} {len cap : Nat} {d : DataW H} {p : List MemPlace}
    (h : DataW.Trod enc Try.prog W b sp hd 43 (.slice a len cap) d p) : ∃ ds : List CD, IsRows 11 CD.cells W a len cap ds ∧ ∀ r ∈ ds, r.good := by
  refine open_rows 11 CD.cells CD.good Try.underlying43 (by kernel_rfl) (by decide) h fun cs m x hx => ?_
  have := flat_fits 9 m 48 [.int .i64, .int .i64, .int .i64, .int .u32, .int .i64, .int .i64, .int .i64, .int .i64, .int .i64, .str, .str] cs x (by kernel_rfl) hx
  obtain ⟨_, _, rfl, ⟨k, rfl, wk⟩, _, _, rfl, ⟨z0, rfl, w0⟩, _, _, rfl, ⟨z1, rfl, w1⟩, _, _, rfl, ⟨z2, rfl, w2⟩, _, _, rfl, ⟨z3, rfl, w3⟩, _, _, rfl, ⟨z4, rfl, w4⟩, _, _, rfl, ⟨z5, rfl, w5⟩, _, _, rfl, ⟨z6, rfl, w6⟩, _, _, rfl, ⟨z7, rfl, w7⟩, _, _, rfl, ⟨z8, rfl, w8⟩, _, _, rfl, ⟨z9, rfl, w9⟩, rfl⟩ := this
  have := wf_u32 w2
  exact ⟨⟨k, ⟨z0, z1, z2, z3, z4, z5, z6, z7, z8, z9⟩⟩, rfl, this.1, by have := this.2; show z2 < 4294967296; omega⟩
theorem IsRows.at {α : Type} {size : Nat} {encd : α → List Value} {w : World} {a : Option Addr} {len cap : Nat} {ds : List α} (h : IsRows size encd w a len cap ds) (k : Nat) (hk : k < len) :
    ∃ (g off : Nat) (hk' : k < ds.length), a = some ⟨g, off, none⟩ ∧ g < w.heap.size ∧ ∀ j, j < size → w.cell? ⟨g, off + k * size + j, none⟩ = (encd ds[k])[j]? := by
  obtain ⟨h1, _, _, h4⟩ := h
  obtain ⟨g, off, ha, hg, hc⟩ := h4.resolve_left (by omega)
  exact ⟨g, off, by omega, ha, hg, fun j hj => hc k (by omega) j hj⟩
/-- A list that may be. -/
def Good25 (ds : List Dg) : Prop := Apart25 ds ∧ ∀ x ∈ ds, 0 ≤ x.block ∧ x.block < 4294967296
theorem Good25.kept {ds : List Dg} (h : Good25 ds) (p : Dg → Bool) : Good25 (keptD p ds) := ⟨h.1.filter p, fun x hx => h.2 x (List.mem_filter.1 hx).1⟩
theorem Good25.tail {d : Dg} {ds : List Dg} (h : Good25 (d :: ds)) : Good25 ds := ⟨(List.pairwise_cons.1 h.1).2, fun x hx => h.2 x (List.mem_cons_of_mem _ hx)⟩
theorem Good25.ask {ds : List Dg} (h : Good25 ds) {d : Dg} (hd : 0 ≤ d.block ∧ d.block < 4294967296) : Good25 (askL ds d) := by
  refine ⟨h.1.ask d, fun x hx => ?_⟩
  unfold askL at hx
  split at hx
  · rcases List.mem_or_eq_of_mem_set hx with hx | rfl
    · exact h.2 x hx
    · exact hd
  · rcases List.mem_append.1 hx with hx | hx
    · exact h.2 x hx
    · rw [List.mem_singleton.1 hx]; exact hd
theorem ask_len (ds : List Dg) (d : Dg) : (askL ds d).length ≤ ds.length + 1 := by
  unfold askL
  split <;> simp
end Go.Proofs.Ytphejbjbleeigaa
