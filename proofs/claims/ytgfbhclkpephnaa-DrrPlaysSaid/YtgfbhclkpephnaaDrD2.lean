/-
  The document's queues (lightshipref17): Len.
-/
import Derived.Test.YtgfbhclkpephnaaDrD1
namespace Go.Proofs.Ytgfbhclkpephnaa
open Go Go.RowKit
set_option linter.unusedVariables false
set_option linter.unusedSimpArgs false
set_option maxRecDepth 100000
set_option maxHeartbeats 1000000
theorem AtR.get {S : PS} {id r : Int} (h : AtR S id r) (hS : S.Ok) : (∃ (i : Nat) (hi : i < S.qs.length), r = (i : Int) ∧ getQ id S.qs = some S.qs[i]) ∨ (r = -1 ∧ getQ id S.qs = none) := by
  rcases h with ⟨i, hi, h1, h2⟩ | ⟨h1, h2⟩
  · exact .inl ⟨i, hi, h1, by rw [← h2]; exact getQ_of hS.nd (List.getElem_mem hi)⟩
  · exact .inr ⟨h1, getQ_none.2 h2⟩
theorem rlen_any (id : Int) {qv rv : Value} {ls : List Value} {S : PS} (w : World) (h : DocR w qv rv ls S) (hS : S.Ok) (hl : S.qs.length ≤ 300) :
    Calls Try.prog 17 #[docV S qv rv, .int .i64 id] w fun e w' => e = .returned (.int .i64 (lenP id S : Nat)) ∧ Below w.heap.size w w' := by
  have hB := Below.chainAlloc (Below.refl _ w) (.cells #[.int .i64 S.quantum, qv, rv] 31)
  have hbx := Blk.new w #[.int .i64 S.quantum, qv, rv] 31
  have c0 := hbx.facts.1 0
  have c1 := hbx.facts.1 1
  have c2 := hbx.facts.1 2
  have HX := Lib.hid hbx.lt
  have HR := Lib.hid (h.chain hB)
  have HB := Lib.hid hB
  have HAT := Lib.hid (rat_any id _ (h.chain hB) hl)
  unfold docV at *
  have HS := Lib.hid hS
  clear h hB hbx hl hS
  go_enter Try.func17, Try.ntmps17
  go_wp2_with fail
  refine HAT.out.mono ?_
  rintro e w2 ⟨r, rfl, hr, hb⟩
  have HB2 := Lib.hid (Below.chain hb HB.out)
  have HR2 := Lib.hid (HR.out.chain hb)
  have d1 := (hb.cell (p := ⟨w.heap.size, 1, none⟩) HX.out).trans c1
  clear hb c0 c1 c2 HAT HR HX
  rcases hr.get HS.out with ⟨i, hi, rfl, hg⟩ | ⟨rfl, hg⟩
  · have hi0 : (0 : Int) ≤ (i : Int) := by omega
    have hi0' : ¬ (i : Int) < 0 := by omega
    have hlen : lenP id S = S.qs[i].items.length := by unfold lenP; rw [hg]
    have hil : i < ls.length := by rw [HR2.out.1]; exact hi
    obtain ⟨g, off, cap, ea, _⟩ := HR2.out.shape (Nat.lt_of_le_of_lt (Nat.zero_le _) hi)
    subst ea
    obtain ⟨a, c, hv⟩ := (HR2.out.2.2.1 i hi hil).form
    have d2 : w2.cell? ⟨g, off + i * 5 + 4, none⟩ = some ls[i] := HR2.out.cell rfl i 4 hi (by decide)
    rw [hv] at d2
    have hii : (i : Int) < (S.qs.length : Int) := Int.ofNat_lt.2 hi
    go_wp2_with fail
    go_ret
    exact ⟨by rw [hlen]; rfl, HB2.out⟩
  · have hlen : lenP id S = 0 := by unfold lenP; rw [hg]
    go_wp2_with fail
    go_ret
    exact ⟨by rw [hlen]; rfl, HB2.out⟩
end Go.Proofs.Ytgfbhclkpephnaa
