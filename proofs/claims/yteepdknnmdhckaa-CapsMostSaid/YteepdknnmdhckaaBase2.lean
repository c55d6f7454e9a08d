/-
  Byte blocks, rows that grow: small facts for the walks.
-/
import Derived.Test.YteepdknnmdhckaaBase
import Derived.Deep.LoopGhost
import Derived.Deep.DeepCutAuto
import Derived.LoopN
import Derived.OwnWalk
namespace Go.Proofs.Yteepdknnmdhckaa
open Go.RowKit
/-- The first bytes of block g are bs, and may be written. -/
def Byt (w : World) (g : Nat) (bs : List UInt8) : Prop :=
  g < w.heap.size ∧ ∀ j (h : j < bs.length), w.cell? ⟨g, j, none⟩ = some (.int .u8 (bs[j].toNat : Int)) ∧ w.frozen? ⟨g, j, none⟩ = false
theorem Byt.below {w w' : World} {g B : Nat} {bs : List UInt8} (h : Byt w g bs) (hb : Below B w w') (hg : g < B) : Byt w' g bs :=
  ⟨Nat.lt_of_lt_of_le h.1 hb.size, fun j hj => ⟨(hb.cell (p := ⟨g, j, none⟩) hg).trans (h.2 j hj).1, (hb.frozen (p := ⟨g, j, none⟩) hg).trans (h.2 j hj).2⟩⟩
theorem Byt.chain {w w' : World} {g : Nat} {bs : List UInt8} (h : Byt w g bs) (hb : Below w.heap.size w w') : Byt w' g bs := h.below hb h.1
theorem frozen_setCell (w : World) (p a : Addr) (v : Value) : (w.setCell p v).frozen? a = w.frozen? a := by
  unfold World.frozen? World.setCell
  simp only [Array.getElem?_modify]
  by_cases h : p.block = a.block
  · rw [if_pos h]
    cases w.heap[a.block]? with
    | none => rfl
    | some o => cases o <;> rfl
  · rw [if_neg h]
theorem Byt.set {w : World} {g : Nat} {bs : List UInt8} (h : Byt w g bs) (i : Nat) (c : UInt8) : Byt (w.setCell ⟨g, i, none⟩ (.int .u8 (c.toNat : Int))) g (bs.set i c) := by
  refine ⟨by simpa [World.setCell] using h.1, fun j hj => ?_⟩
  have hj' : j < bs.length := by simpa using hj
  refine ⟨?_, by rw [frozen_setCell]; exact (h.2 j hj').2⟩
  by_cases e : i = j
  · subst e
    have h1 := (h.2 i hj').1
    have h2 : ∃ cs t fr, w.heap[g]? = some (.cells cs t fr) ∧ i < cs.size := by
      unfold World.cell? at h1
      split at h1
      · rename_i cs t fr hh
        refine ⟨cs, t, fr, hh, ?_⟩
        simp at h1
        exact (Array.getElem?_eq_some_iff.1 h1).1
      · cases h1
    obtain ⟨cs, t, fr, hh, hi⟩ := h2
    unfold World.cell? World.setCell
    simp only [Array.getElem?_modify, hh]
    simp [hi]
  · rw [World.cell?_setCell_other _ _ _ _ (by intro h; cases h; exact e rfl), (h.2 j hj').1]
    simp [e]
theorem Byt.setAt {w : World} {g : Nat} {bs : List UInt8} (h : Byt w g bs) (i : Nat) (z : Int) (h0 : 0 ≤ z) (h1 : z < 256) : Byt (w.setCell ⟨g, i, none⟩ (.int .u8 z)) g (bs.set i (U8 z)) := by
  have e : ((U8 z).toNat : Int) = z := by unfold U8; simp; omega
  have := h.set i (U8 z)
  rwa [e] at this
/-- '[]byte(s)'. -/
theorem conv_bytes (w : World) (l : List UInt8) (hl : l.length ≤ 9223372036854775807) : ∃ c W', (convert 9 131 (.string ⟨l.toArray⟩)).run Try.prog w = .ok (.slice (some ⟨w.heap.size, 0, none⟩) l.length c) W' ∧
    Byt W' w.heap.size l ∧ Below w.heap.size w W' ∧ l.length ≤ c ∧ c ≤ 9223372036854775807 := by
  have hsz : (⟨l.toArray⟩ : ByteArray).size = l.length := by simp [ByteArray.size]
  have hr := run_bytes_of_string (P := Try.prog) w 9 131 5 ⟨l.toArray⟩ Try.underlying9 Try.underlying131 Try.underlying5
  rw [hsz] at hr
  refine ⟨_, _, hr, ⟨?_, fun j hj => ?_⟩, ?_, ?_, ?_⟩
  · show w.heap.size < (w.heap.push _).size
    simp
  · have e : w.heap.size = w.drew.heap.size := rfl
    refine ⟨?_, ?_⟩
    · rw [e, World.cell?_alloc_mark, bytesRow_at _ _ _ (show j < (⟨l.toArray⟩ : ByteArray).data.size by simpa using hj)]
      simp
    · rw [e, World.frozen?_alloc_mark]
      simp [bytesRow]
      omega
  · exact ((Below.refl _ _).drew).alloc (by show w.heap.size ≤ w.heap.size; exact Nat.le_refl _) _
  · show l.length ≤ l.length + _ % _
    omega
  · show l.length + (w.tape w.drawn (Question.appendCap l.length 0 5)) % (2 ^ 63 - l.length) ≤ _
    have h : 2 ^ 63 - l.length > 0 := by omega
    have := Nat.mod_lt (w.tape w.drawn (Question.appendCap l.length 0 5)) h
    omega
/-- 'string(b)'. -/
theorem conv_string {w : World} {g n : Nat} {bs : List UInt8} (h : Byt w g bs) (hn : n = bs.length) (c : Nat) : (convert 131 9 (.slice (some ⟨g, 0, none⟩) n c)).run Try.prog w = .ok (.string ⟨bs.toArray⟩) w := by
  subst hn
  have := run_str_cells (P := Try.prog) w 131 9 5 ⟨g, 0, none⟩ c (bs.map fun b => (b.toNat : Int)) Try.underlying131 Try.underlying5 Try.underlying9 (fun j hj => by
    have e : (⟨g, 0, none⟩ : Addr).add j = ⟨g, j, none⟩ := by unfold Addr.add; split <;> simp_all
    rw [e, (h.2 j (by simpa using hj)).1]
    simp)
  rw [List.length_map] at this
  rw [this]
  have e2 : (bs.map fun b => (b.toNat : Int)).map U8 = bs := by
    rw [List.map_map]
    conv => rhs; rw [← List.map_id bs]
    refine List.map_congr_left fun b _ => ?_
    apply UInt8.toNat.inj
    simp [U8]
  rw [e2]
theorem Only.of_grown {w w' : World} {row : Option Nat} (h : w.grownBy w' row) : Only row.toList w w' :=
  ⟨h.os, h.tape, h.output, h.size, fun k hk hn => h.block k hk (fun e => hn (by rw [← e]; simp))⟩
/-- An append to what the call itself made (or to nil): what stood below B stays. -/
theorem Below.grow {B : Nat} {w0 w w' : World} {v : Value} {n size : Nat} {e : TypeId} {xs : List Value} (h : Below B w0 w) (hown : w.ownsRow B e size v n xs) (hg : w.grownBy w' v.ownBlock) (hB : B ≤ w.heap.size) : Below B w0 w' :=
  h.grown hg hB (fun k hk => by
    rcases hown.2 with ⟨hv, _⟩ | ⟨g, cap, cur, hv, hg', _⟩
    · rw [hv] at hk; cases hk
    · rw [hv] at hk
      obtain rfl : g = k := by simpa [Value.ownBlock] using hk
      exact hg')
end Go.Proofs.Yteepdknnmdhckaa
