/-
  The document's queues (lightshipref17): Waiting.
-/
import Derived.Test.YtgfbhclkpephnaaDrD3
namespace Go.Proofs.Ytgfbhclkpephnaa
open Go Go.RowKit
set_option linter.unusedVariables false
set_option linter.unusedSimpArgs false
set_option maxRecDepth 100000
set_option maxHeartbeats 1000000
theorem tot_step (l : List PQ) (k : Nat) (hk : k < l.length) : totQ (l.take (k + 1)) = totQ (l.take k) + l[k].items.length := by
  unfold totQ
  rw [List.take_succ_eq_append_getElem hk, sumQ_app]
  simp [sumQ]
theorem tot_take (l : List PQ) (k : Nat) : totQ (l.take k) ≤ totQ l := by
  have := sumQ_app (fun q : PQ => q.items.length) (l := l.take k) (m := l.drop k)
  rw [List.take_append_drop] at this
  unfold totQ
  omega
theorem tw17 (a b c : Nat) (h : a = b + c) (ha : a ≤ 60000) : wrap64 ((b : Int) + (c : Int)) = (a : Int) := by
  rw [IntWalk.wrap64_in _ (by omega)]
  omega
theorem rwait_any {qv rv : Value} {ls : List Value} {S : PS} (w : World) (h : DocR w qv rv ls S) (hl : S.qs.length ≤ 300) (ht : totQ S.qs ≤ 60000) :
    Calls Try.prog 15 #[docV S qv rv] w fun e w' => e = .returned (.int .i64 (totQ S.qs : Nat)) ∧ Below w.heap.size w w' := by
  obtain ⟨a, cp, rfl⟩ := h.2.1.form
  have hB := Below.chainAlloc (Below.refl _ w) (.cells #[.int .i64 S.quantum, .slice a S.qs.length cp, rv] 31)
  have hbx := Blk.new w #[.int .i64 S.quantum, .slice a S.qs.length cp, rv] 31
  have c1 := hbx.facts.1 1
  have HR := Lib.hid (h.chain hB)
  have HB := Lib.hid hB
  have HT := Lib.hid ht
  unfold docV
  obtain ⟨n, hn⟩ : ∃ n, S.qs.length = n := ⟨_, rfl⟩
  rw [hn] at c1 HR HB hl ⊢
  have HN := Lib.hid hn
  have HL := Lib.hid hl
  clear h hB hbx hn hl ht
  go_enter Try.func15, Try.ntmps15
  go_wp2_with fail
  generalize w.alloc (.cells #[.int .i64 S.quantum, .slice a n cp, rv] 31) = W at *
  generalize hbx : w.heap.size = bx at *
  go_loopw [3, 4] (fun s i wr => ∃ k : Nat, k ≤ n ∧ s = .int .i64 (totQ (S.qs.take k) : Nat) ∧ i = .int .i64 (k : Nat) ∧ wr = W) (fun _ i _ => n - (intOf i).toNat)
  case atStart => exact ⟨0, Nat.zero_le _, rfl, rfl, rfl⟩
  case round =>
    obtain ⟨k, hk, rfl, rfl, rfl⟩ := hrel
    by_cases hlt : k < n
    · have hlt' : (k : Int) < (n : Int) := Int.ofNat_lt.2 hlt
      have hk0 : (0 : Int) ≤ (k : Int) := by omega
      have HK := Lib.hid hlt
      obtain ⟨g, off, cap, ea, _⟩ := HR.out.shape (by rw [HN.out]; exact Nat.zero_lt_of_lt hlt)
      rw [HN.out] at ea
      cases ea
      have hkl : k < S.qs.length := by rw [HN.out]; exact hlt
      have hil : k < ls.length := by rw [HR.out.1]; exact hkl
      obtain ⟨a, c, hv⟩ := (HR.out.2.2.1 k hkl hil).form
      have d0 : wr.cell? ⟨g, off + k * 5 + 4, none⟩ = some ls[k] := HR.out.cell HN.out.symm k 4 hkl (by decide)
      rw [hv] at d0
      have HTS := Lib.hid (tw17 _ _ _ (tot_step S.qs k hkl) (Nat.le_trans (tot_take S.qs (k + 1)) HT.out))
      have hkw := kw17 k n hlt HL.out
      have htw := HTS.out
      go_wp2_with fail
      go_roundw
      case measure => rw [hkw]; clear hkw htw; have := HK.out; simp [intOf]; omega
      case rel => exact ⟨k + 1, HK.out, by rw [htw], by rw [hkw]; clear hkw htw; go_num, by first | rfl | trivial⟩
    · obtain rfl : k = n := Nat.le_antisymm hk (Nat.le_of_not_lt hlt)
      have hlt' : ¬ (k : Int) < (k : Int) := Int.lt_irrefl _
      have HE : Hid (S.qs.take k = S.qs) := Lib.hid (List.take_of_length_le (by rw [HN.out]; exact Nat.le_refl _))
      clear hk hlt
      go_wp2_with fail
      go_ret
      subst hbx
      exact ⟨by rw [HE.out]; rfl, HB.out⟩
end Go.Proofs.Ytgfbhclkpephnaa
