/-
  Cut: plain: a text comes back from its shards (chapter 6).
-/
import Derived.Test.YtibilabhokkhmaaDoorCut5
namespace Go.Proofs.YtibilabhokkhmaaDoor
set_option linter.unusedVariables false
theorem parts_flat (s : List UInt8) (n k j : Nat) (hs : s.length ≤ n * k) (hj : s.length + j = n * k) : ∀ m, m ≤ k → (partsC s n m).flatten = (s ++ List.replicate j 0).take (m * n)
  | 0, _ => by simp [partsC]
  | m + 1, h => by
    have ih := parts_flat s n k j hs hj m (by omega)
    rw [partsC_succ, List.flatten_append, ih, List.flatten_cons, List.flatten_nil, List.append_nil, ← part_pad s n k m j (by omega) hs hj, Nat.succ_mul]
    have := List.take_append_drop (m * n) ((s ++ List.replicate j 0).take (m * n + n))
    rw [List.take_take, Nat.min_eq_left (by omega)] at this
    exact this
theorem part_length (s : List UInt8) (n i : Nat) : (partC s n i).length = n := by
  unfold partC
  simp
  omega
theorem parts_any (s : List UInt8) (n k : Nat) (hk : 1 ≤ k) : (partsC s n k).any (fun t => decide (t.length ≠ ((partsC s n k).headD []).length)) = false := by
  have hl : ∀ t ∈ partsC s n k, t.length = n := fun t ht => by
    obtain ⟨i, _, rfl⟩ := List.mem_map.1 ht
    exact part_length s n i
  have hh : ((partsC s n k).headD []).length = n := by
    apply hl
    cases h : partsC s n k with
    | nil =>
      have : (partsC s n k).length = k := by simp [partsC]
      rw [h] at this
      simp at this
      omega
    | cons x ts => simp
  rw [List.any_eq_false]
  intro t ht
  rw [hl t ht, hh]
  simp
theorem join_back (s : List UInt8) (n k : Nat) (hk : 1 ≤ k) (hs : s.length ≤ n * k) : joinC (partsC s n k) (s.length : Nat) = (s, 0) := by
  obtain ⟨j, hj⟩ : ∃ j, s.length + j = n * k := ⟨n * k - s.length, by omega⟩
  have hf : (partsC s n k).flatten = s ++ List.replicate j 0 := by
    rw [parts_flat s n k j hs hj k (Nat.le_refl _), Nat.mul_comm k n, List.take_of_length_le (by simp; omega)]
  unfold joinC
  have hne : partsC s n k ≠ [] := fun e => by
    have : (partsC s n k).length = k := by simp [partsC]
    rw [e] at this
    simp at this
    omega
  rw [if_neg hne, parts_any s n k hk, if_neg (by simp), hf, if_neg (by simp; omega), Int.toNat_natCast, List.drop_left, List.take_left, if_pos (by simp)]
theorem parts_bound (s : List UInt8) (n k : Nat) (hk : k ≤ 32) (hn : n ≤ 1024) : (partsC s n k).length ≤ 1000 ∧ (partsC s n k).flatten.length ≤ 1000000 := by
  have h1 : (partsC s n k).length = k := by simp [partsC]
  refine ⟨by omega, ?_⟩
  have h2 : ∀ m, m ≤ k → (partsC s n m).flatten.length = m * n := fun m => by
    induction m with
    | zero => intro _; simp [partsC]
    | succ m ih =>
      intro h
      rw [partsC_succ, List.flatten_append, List.length_append, ih (by omega), List.flatten_cons, List.flatten_nil, List.append_nil, part_length, Nat.succ_mul]
  rw [h2 k (Nat.le_refl _)]
  have := Nat.mul_le_mul hk hn
  omega
end Go.Proofs.YtibilabhokkhmaaDoor
