/-
  The table: part, judge (chapter 18).
-/
import Derived.Test.YtnommofekjiiaaaTa7
namespace Go.Proofs.Ytnommofekjiiaaa
open Go Go.RowKit Go.MuLone
set_option linter.unusedVariables false
set_option linter.unusedSimpArgs false
set_option maxRecDepth 100000
set_option maxHeartbeats 2000000
theorem Seg.ptrAt {w : World} {base : Nat} {v : Value} {t : TypeId} {ps : List (Nat × Nat)} (h : Seg w base t 1 v ps.length (ps.map fun p => .pointer (some ⟨p.1, 0, none⟩))) : ∃ a cap, v = .slice a ps.length cap ∧ ∀ j p, ps[j]? = some p → ∃ g off, a = some ⟨g, off, none⟩ ∧ g < w.heap.size ∧ w.cell? ⟨g, off + j, none⟩ = some (.pointer (some ⟨p.1, 0, none⟩)) := by
  obtain ⟨a, cap, rfl⟩ := h.form
  refine ⟨a, cap, rfl, fun j p hp => ?_⟩
  have hj := (List.getElem?_eq_some_iff.1 hp).1
  obtain ⟨g, off, cap', e, _, hg, _⟩ := h.shape (by omega)
  cases e
  refine ⟨g, off, rfl, hg, ?_⟩
  rw [h.at j (by omega), List.getElem?_map, hp]
  rfl
theorem partOf_lt {P : Nat} (h : 0 < P) (k : Int × Int) : partOf P k < P := by
  unfold partOf hashN
  have h1 := Int.emod_nonneg (hash0 k) (show (P : Int) ≠ 0 by omega)
  have h2 := Int.emod_lt_of_pos (hash0 k) (show (0 : Int) < (P : Int) by omega)
  omega
theorem part_any (base bt : Nat) (s : TS) (hd : Option Nat) (k : Int × Int) (p : Nat × Nat) (w : World) (h : TabM base w bt s hd) (h1 : 1 ≤ s.ps.length) (h2 : s.ps.length ≤ 64) (hp : s.ps[partOf s.ps.length k]? = some p) :
    Calls Try.prog 35 #[ptr bt, encK k] w fun e w' => e = .returned (ptr p.1) ∧ Below w.heap.size w w' := by
  obtain ⟨a, cap, hv, hc⟩ := Seg.ptrAt h.pa
  obtain ⟨g, off, rfl, hgw, c2⟩ := hc _ p hp
  have c0 := h.tb.facts.1 0
  rw [show tabC s = #[s.pv, .int .i32 0, .int .u32 0, .int .i64 (s.room : Int), .int .i64 (s.n : Int), .int .i64 (s.made : Int)] from rfl, hv] at c0
  have hbt := h.tb.lt
  have hlt := partOf_lt (P := s.ps.length) (by omega) k
  have hz : 0 ≤ hashN s.ps.length k := Int.emod_nonneg _ (by omega)
  have hz2 : hashN s.ps.length k < (s.ps.length : Int) := Int.emod_lt_of_pos _ (by omega)
  have he : (hashN s.ps.length k).toNat = partOf s.ps.length k := rfl
  have hh : (k.1 % 4294967296 * 31 % 4294967296 + k.2) % 4294967296 = hash0 k := rfl
  have hn : hash0 k % (s.ps.length : Int) = hashN s.ps.length k := rfl
  have h00 : 0 ≤ hash0 k := Int.emod_nonneg _ (by decide)
  have h01 : hash0 k < 4294967296 := Int.emod_lt_of_pos _ (by decide)
  have hw1 : IntKind.u32.wrap (s.ps.length : Int) = (s.ps.length : Int) := by rw [IntKind.wrap_u32]; omega
  have hw2 : (s.ps.length : Int) % 4294967296 = (s.ps.length : Int) := by omega
  have hne : ¬ ((s.ps.length : Int) = 0) := by omega
  unfold encK
  clear h h1 h2 hc hp
  go_enter Try.func35, Try.ntmps35
  go_wp2_with fail
  go_region
  go_wp2_with fail
  go_ret
  exact ⟨rfl, (Below.chainAlloc (Below.refl _ _) _).drew⟩
end Go.Proofs.Ytnommofekjiiaaa
