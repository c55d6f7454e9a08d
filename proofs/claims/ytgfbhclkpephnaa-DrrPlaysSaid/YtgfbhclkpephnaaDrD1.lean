/-
  The document's queues (lightshipref17): at.
-/
import Derived.Test.YtgfbhclkpephnaaDrD0
namespace Go.Proofs.Ytgfbhclkpephnaa
open Go Go.RowKit
set_option linter.unusedVariables false
set_option linter.unusedSimpArgs false
set_option maxRecDepth 100000
set_option maxHeartbeats 1000000
theorem kw17 (k n : Nat) (hk : k < n) (hn : n ≤ 300) : wrap64 ((k : Int) + 1) = (k : Int) + 1 := IntWalk.wrap64_in _ (by omega)
theorem rat_any (id : Int) {qv rv : Value} {ls : List Value} {S : PS} (w : World) (h : DocR w qv rv ls S) (hl : S.qs.length ≤ 300) :
    Calls Try.prog 50 #[docV S qv rv, .int .i64 id] w fun e w' => ∃ r, e = .returned (.int .i64 r) ∧ AtR S id r ∧ Below w.heap.size w w' := by
  obtain ⟨a, cp, rfl⟩ := h.2.1.form
  have hB := Below.chainAlloc (Below.refl _ w) (.cells #[.int .i64 S.quantum, .slice a S.qs.length cp, rv] 31)
  have hbx := Blk.new w #[.int .i64 S.quantum, .slice a S.qs.length cp, rv] 31
  have c1 := hbx.facts.1 1
  have HR := Lib.hid (h.chain hB)
  have HB := Lib.hid hB
  unfold docV
  obtain ⟨n, hn⟩ : ∃ n, S.qs.length = n := ⟨_, rfl⟩
  rw [hn] at c1 HR HB hl ⊢
  have HN := Lib.hid hn
  have HL := Lib.hid hl
  clear h hB hbx hn hl
  go_enter Try.func50, Try.ntmps50
  go_wp2_with fail
  generalize w.alloc (.cells #[.int .i64 S.quantum, .slice a n cp, rv] 31) = W at *
  generalize hbx : w.heap.size = bx at *
  have HS0 : Hid (∀ j (hj : j < S.qs.length), j < 0 → S.qs[j].id ≠ id) := Lib.hid fun j hj h => absurd h (Nat.not_lt_zero _)
  go_loopw [5] (fun i wr => ∃ k : Nat, k ≤ n ∧ i = .int .i64 (k : Nat) ∧ wr = W ∧ Hid (∀ j (hj : j < S.qs.length), j < k → S.qs[j].id ≠ id)) (fun i _ => n - (intOf i).toNat)
  case atStart => exact ⟨0, Nat.zero_le _, rfl, rfl, HS0⟩
  case round =>
    obtain ⟨k, hk, rfl, rfl, HS⟩ := hrel
    clear HS0
    by_cases hlt : k < n
    · have hlt' : (k : Int) < (n : Int) := Int.ofNat_lt.2 hlt
      have hk0 : (0 : Int) ≤ (k : Int) := by omega
      have HK := Lib.hid hlt
      obtain ⟨g, off, cap, ea, _⟩ := HR.out.shape (by rw [HN.out]; exact Nat.zero_lt_of_lt hlt)
      rw [HN.out] at ea
      cases ea
      have hkl : k < S.qs.length := by rw [HN.out]; exact hlt
      have d0 : wr.cell? ⟨g, off + k * 5, none⟩ = some (.int .i64 S.qs[k].id) := HR.out.cell HN.out.symm k 0 hkl (by decide)
      by_cases hid : S.qs[k].id = id
      · have HI := Lib.hid hid
        have hb : (S.qs[k].id == id) = true := by rw [hid]; simp
        go_wp2_with fail
        go_ret
        subst hbx
        exact ⟨_, rfl, .inl ⟨k, hkl, rfl, HI.out⟩, HB.out⟩
      · have hb : (S.qs[k].id == id) = false := beq_eq_false_iff_ne.2 hid
        have HI := Lib.hid hid
        have hkw := kw17 k n hlt HL.out
        have HS2 : Hid (∀ j (hj : j < S.qs.length), j < k + 1 → S.qs[j].id ≠ id) := Lib.hid fun j hj h => by
          by_cases e : j = k
          · subst e; exact hid
          · exact HS.out j hj (by omega)
        go_wp2_with fail
        go_roundw
        case measure => rw [hkw]; clear hkw; have := HK.out; simp [intOf]; omega
        case rel => exact ⟨k + 1, HK.out, by rw [hkw]; clear hkw; go_num, by first | rfl | trivial, HS2⟩
    · obtain rfl : k = n := Nat.le_antisymm hk (Nat.le_of_not_lt hlt)
      have hlt' : ¬ (k : Int) < (k : Int) := Int.lt_irrefl _
      clear hk hlt
      go_wp2_with fail
      go_ret
      subst hbx
      refine ⟨_, rfl, .inr ⟨rfl, fun q hq => ?_⟩, HB.out⟩
      obtain ⟨j, hj, rfl⟩ := List.getElem_of_mem hq
      exact HS.out j hj (by rw [← HN.out]; exact hj)
end Go.Proofs.Ytgfbhclkpephnaa
