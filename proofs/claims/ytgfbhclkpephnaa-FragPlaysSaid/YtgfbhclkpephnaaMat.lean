/-
  Slices that read as lists, rows of bytes, tables of rows: what stays of them when memory grows, when an outer cell is stored, when an outer slice is appended to. For whatever program.
-/
import Derived.Test.YtgfbhclkpephnaaSeg
namespace Go.Proofs.Ytgfbhclkpephnaa
open Go.RowKit
set_option linter.unusedVariables false
/-- v reads as vs; what it lies in was there below B, or is a block of elements of type t. -/
def SlAt (B : Nat) (w : World) (t : TypeId) (v : Value) (vs : List Value) : Prop :=
  ∃ a cap, v = .slice a vs.length cap ∧ vs.length ≤ cap ∧ cap ≤ maxLen ∧
    (vs = [] ∨ ∃ g off, a = some ⟨g, off, none⟩ ∧ g < w.heap.size ∧ (g < B ∨ ∃ cs fr, w.heap[g]? = some (.cells cs t fr)) ∧ ∀ j (h : j < vs.length), w.cell? ⟨g, off + j, none⟩ = some vs[j])
/-- A block of elements of another type than t, at or above B. -/
def Apart (B : Nat) (w : World) (t : TypeId) (g : Nat) : Prop := B ≤ g ∧ ∀ cs fr, w.heap[g]? ≠ some (.cells cs t fr)
theorem Blk.apart {w : World} {g B : Nat} {cs : Array Value} {t t' : TypeId} (h : Blk w g cs t') (hB : B ≤ g) (ht : t' ≠ t) : Apart B w t g := ⟨hB, fun cs' fr e => by
  unfold Blk at h
  rw [h] at e
  cases e
  exact ht rfl⟩
section
variable {B : Nat} {w w' : World} {t : TypeId} {v : Value} {vs : List Value}
theorem SlAt.nil (B : Nat) (w : World) (t : TypeId) : SlAt B w t (.slice none 0 0) [] := ⟨none, 0, rfl, Nat.le_refl _, by simp, .inl rfl⟩
theorem SlAt.same (h : SlAt B w t v vs) (hs : w.heap.size ≤ w'.heap.size) (hk : ∀ g, g < w.heap.size → (g < B ∨ ∃ cs fr, w.heap[g]? = some (.cells cs t fr)) → w'.heap[g]? = w.heap[g]?) : SlAt B w' t v vs := by
  obtain ⟨a, cap, hv, h1, h2, h3⟩ := h
  refine ⟨a, cap, hv, h1, h2, h3.imp id ?_⟩
  rintro ⟨g, off, ha, hg, ht, hc⟩
  have e := hk g hg ht
  refine ⟨g, off, ha, by omega, by rw [e]; exact ht, fun j hj => ?_⟩
  rw [← hc j hj]
  unfold World.cell?
  simp only
  rw [e]
theorem SlAt.chain (h : SlAt B w t v vs) (hb : Below w.heap.size w w') : SlAt B w' t v vs := h.same hb.size (fun g hg _ => hb.block g hg)
theorem SlAt.drew (h : SlAt B w t v vs) : SlAt B w.drew t v vs := h
theorem SlAt.alloc (h : SlAt B w t v vs) (o : Obj) : SlAt B (w.alloc o) t v vs := h.chain (Below.chainAlloc (Below.refl _ _) o)
theorem SlAt.only {S : List Nat} (h : SlAt B w t v vs) (ho : Only S w w') (hS : ∀ x ∈ S, Apart B w t x) : SlAt B w' t v vs :=
  h.same ho.size (fun g hg ht => ho.block g hg (fun hm => by
    obtain ⟨h1, h2⟩ := hS g hm
    rcases ht with ht | ⟨cs, fr, e⟩
    · omega
    · exact h2 cs fr e))
theorem SlAt.store (h : SlAt B w t v vs) (p : Addr) (u : Value) (hp : Apart B w t p.block) : SlAt B (w.setCell p u) t v vs :=
  h.only (S := [p.block]) ((Only.refl _ _).setCell p u (.inl (by simp))) (by simpa using hp)
theorem SlAt.le {B' : Nat} (h : SlAt B w t v vs) (hB : B ≤ B') : SlAt B' w t v vs := by
  obtain ⟨a, cap, hv, h1, h2, h3⟩ := h
  refine ⟨a, cap, hv, h1, h2, h3.imp id ?_⟩
  rintro ⟨g, off, ha, hg, ht, hc⟩
  exact ⟨g, off, ha, hg, ht.imp (fun h => by omega) id, hc⟩
theorem SlAt.max (h : SlAt B w t v vs) : vs.length ≤ 9223372036854775807 := by
  obtain ⟨a, cap, hv, h1, h2, h3⟩ := h
  unfold maxLen at h2
  omega
theorem SlAt.at (h : SlAt B w t v vs) : ∃ a cap, v = .slice a vs.length cap ∧ ∀ k (hk : k < vs.length), ∃ g off, a = some ⟨g, off, none⟩ ∧ g < w.heap.size ∧ w.cell? ⟨g, off + k, none⟩ = some vs[k] := by
  obtain ⟨a, cap, hv, h1, h2, h3⟩ := h
  refine ⟨a, cap, hv, fun k hk => ?_⟩
  rcases h3 with h3 | ⟨g, off, ha, hg, _, hc⟩
  · subst h3; simp at hk
  · exact ⟨g, off, ha, hg, hc k hk⟩
end
theorem SlAt.of_blk {B : Nat} {w : World} {t : TypeId} {g : Nat} {vs : List Value} {cap : Nat} (h : Blk w g vs.toArray t) (hc : vs.length ≤ cap) (hm : cap ≤ maxLen) : SlAt B w t (.slice (some ⟨g, 0, none⟩) vs.length cap) vs := by
  refine ⟨_, cap, rfl, hc, hm, .inr ⟨g, 0, rfl, h.lt, .inr ⟨_, _, h⟩, fun j hj => ?_⟩⟩
  have := h.facts.1 j
  rw [Nat.zero_add, this]
  simp [List.getElem?_eq_getElem hj]
theorem SlAt.of_seg {B base : Nat} {w : World} {t : TypeId} {v : Value} {n : Nat} {xs : List Value} (h : Seg w base t 1 v n xs) : SlAt B w t v xs := by
  have hl := h.1
  have hn : xs.length = n := by omega
  have h0 := h
  obtain ⟨_, h2⟩ := h
  rcases h2 with ⟨rfl, h3⟩ | ⟨g, off, cap, cur, rfl, hg, hh, h3, h4, _, _⟩
  · have : xs = [] := List.eq_nil_of_length_eq_zero (by omega)
    subst this
    exact SlAt.nil _ _ _
  · refine ⟨_, cap, by rw [hn], by omega, h4, .inr ⟨g, off, rfl, (Array.getElem?_eq_some_iff.1 hh).1, .inr ⟨_, _, hh⟩, fun j hj => ?_⟩⟩
    rw [h0.at j (by omega), List.getElem?_eq_getElem hj]
/-- The value of a row of bytes. -/
def u8s (bs : List Nat) : List Value := bs.map fun (n : Nat) => .int .u8 (n : Int)
theorem u8s_length (bs : List Nat) : (u8s bs).length = bs.length := by simp [u8s]
def RowAt (B : Nat) (w : World) (v : Value) (bs : List Nat) : Prop := SlAt B w 5 v (u8s bs) ∧ ∀ x ∈ bs, x < 256
def MatAt (B : Nat) (w : World) (v : Value) (rows : List (List Nat)) : Prop :=
  ∃ vs : List Value, vs.length = rows.length ∧ SlAt B w 44 v vs ∧ ∀ i (h : i < vs.length) (h' : i < rows.length), RowAt B w vs[i] rows[i]
section
variable {B : Nat} {w w' : World} {v : Value} {bs : List Nat} {rows : List (List Nat)}
theorem RowAt.nil (B : Nat) (w : World) : RowAt B w (.slice none 0 0) [] := ⟨SlAt.nil _ _ _, by simp⟩
theorem RowAt.chain (h : RowAt B w v bs) (hb : Below w.heap.size w w') : RowAt B w' v bs := ⟨h.1.chain hb, h.2⟩
theorem RowAt.only {S : List Nat} (h : RowAt B w v bs) (ho : Only S w w') (hS : ∀ x ∈ S, Apart B w 5 x) : RowAt B w' v bs := ⟨h.1.only ho hS, h.2⟩
theorem RowAt.store (h : RowAt B w v bs) (p : Addr) (u : Value) (hp : Apart B w 5 p.block) : RowAt B (w.setCell p u) v bs := ⟨h.1.store p u hp, h.2⟩
theorem RowAt.le {B' : Nat} (h : RowAt B w v bs) (hB : B ≤ B') : RowAt B' w v bs := ⟨h.1.le hB, h.2⟩
theorem RowAt.max (h : RowAt B w v bs) : bs.length ≤ 9223372036854775807 := by have := h.1.max; rwa [u8s_length] at this
theorem RowAt.at (h : RowAt B w v bs) : ∃ a cap, v = .slice a bs.length cap ∧ ∀ k (hk : k < bs.length), ∃ g off, a = some ⟨g, off, none⟩ ∧ g < w.heap.size ∧ w.cell? ⟨g, off + k, none⟩ = some (.int .u8 (bs[k] : Nat)) := by
  obtain ⟨a, cap, hv, hc⟩ := h.1.at
  rw [u8s_length] at hv
  refine ⟨a, cap, hv, fun k hk => ?_⟩
  obtain ⟨g, off, ha, hg, e⟩ := hc k (by rw [u8s_length]; exact hk)
  exact ⟨g, off, ha, hg, by rw [e]; simp [u8s]⟩
theorem RowAt.of_blk {g : Nat} {cap : Nat} (h : Blk w g (u8s bs).toArray 5) (hc : bs.length ≤ cap) (hm : cap ≤ maxLen) (hbs : ∀ x ∈ bs, x < 256) : RowAt B w (.slice (some ⟨g, 0, none⟩) bs.length cap) bs := by
  have := SlAt.of_blk (B := B) (vs := u8s bs) (cap := cap) h (by rw [u8s_length]; exact hc) hm
  rw [u8s_length] at this
  exact ⟨this, hbs⟩
theorem MatAt.nil (B : Nat) (w : World) : MatAt B w (.slice none 0 0) [] := ⟨[], rfl, SlAt.nil _ _ _, by simp⟩
theorem MatAt.chain (h : MatAt B w v rows) (hb : Below w.heap.size w w') : MatAt B w' v rows := by
  obtain ⟨vs, h1, h2, h3⟩ := h
  exact ⟨vs, h1, h2.chain hb, fun i h h' => (h3 i h h').chain hb⟩
theorem MatAt.le {B' : Nat} (h : MatAt B w v rows) (hB : B ≤ B') : MatAt B' w v rows := by
  obtain ⟨vs, h1, h2, h3⟩ := h
  exact ⟨vs, h1, h2.le hB, fun i h h' => (h3 i h h').le hB⟩
/-- An outer slice, and the row at each place. -/
theorem MatAt.at (h : MatAt B w v rows) : ∃ a cap, v = .slice a rows.length cap ∧ rows.length ≤ 9223372036854775807 ∧ ∀ k (hk : k < rows.length), ∃ g off u, a = some ⟨g, off, none⟩ ∧ g < w.heap.size ∧ w.cell? ⟨g, off + k, none⟩ = some u ∧ RowAt B w u rows[k] := by
  obtain ⟨vs, h1, h2, h3⟩ := h
  obtain ⟨a, cap, hv, hc⟩ := h2.at
  have hm := h2.max
  rw [h1] at hv hm
  refine ⟨a, cap, hv, hm, fun k hk => ?_⟩
  obtain ⟨g, off, ha, hg, e⟩ := hc k (by omega)
  exact ⟨g, off, _, ha, hg, e, h3 k (by omega) hk⟩
end
/-- The world drew, and no more. -/
def Drawn (w w' : World) : Prop := ∃ n, w' = w.drewN n
theorem Drawn.refl (w : World) : Drawn w w := ⟨0, rfl⟩
theorem Drawn.trans {a b c : World} (h : Drawn a b) (k : Drawn b c) : Drawn a c := by
  obtain ⟨n, rfl⟩ := h
  obtain ⟨m, rfl⟩ := k
  exact ⟨n + m, by rw [World.drewN_drewN]⟩
theorem Drawn.below {w w' : World} (h : Drawn w w') : Below w.heap.size w w' := by
  obtain ⟨n, rfl⟩ := h
  exact below_drewN (Below.refl _ _) n
theorem Drawn.of_drewN (w : World) (n : Nat) : Drawn w (w.drewN n) := ⟨n, rfl⟩
end Go.Proofs.Ytgfbhclkpephnaa
