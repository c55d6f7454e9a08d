/-
  Merged: Cut: whether two lists of texts are the same; texts that came in; the answer of Cut, errors too (chapters 5 and 6). | Cut: the document's Cut and Join (chapter 6). | Cut: the document's Join (chapter 6). | Cut: plain: a text comes back from its shards (chapter 6).
-/
import Derived.Test.YtnmlmpffmjhihaaGreatMK
import Derived.Test.YtnmlmpffmjhihaaGreatMA
import Derived.Test.YtnmlmpffmjhihaaGreatMH
namespace Go.Proofs.YtnmlmpffmjhihaaGreat
open Go.RowKit
set_option linter.unusedVariables false
set_option maxRecDepth 100000
set_option maxHeartbeats 1000000
theorem take_ne_t {α : Type} {xs ys : List α} {k : Nat} (h1 : k < xs.length) (h2 : k < ys.length) (h : xs[k] ≠ ys[k]) : xs ≠ ys := fun e => h (by subst e; rfl)
theorem take_succ_t {α : Type} {xs ys : List α} {k : Nat} (h1 : k < xs.length) (h2 : k < ys.length) (h : xs[k] = ys[k]) (ht : xs.take k = ys.take k) : xs.take (k + 1) = ys.take (k + 1) := by
  rw [List.take_succ_eq_append_getElem h1, List.take_succ_eq_append_getElem h2, h, ht]
def textsB (xs ys : List (List UInt8)) : Bool := decide (xs = ys)
/-- Texts that came in. -/
theorem open_strs {H : Type} {enc : TypeId × Value → H} {W : World} {b : Nat} {sp : Nat → Bool} {hd : Bool} {a : Option Addr} {len cap : Nat} {d : DataW H} {p : List MemPlace}
    (h : DataW.Trod enc Tryz.prog W b sp hd 60 (.slice a len cap) d p) : ∃ ts : List (List UInt8), len = ts.length ∧ SlAt W.heap.size W 9 (.slice a len cap) (ts.map Str) ∧ ∀ t ∈ ts, t.length ≤ 9223372036854775807 := by
  obtain ⟨ts, ⟨h1, h2, h3, h4⟩, hg⟩ := open_rows (P := Tryz.prog) 1 (fun t : List UInt8 => [Str t]) (fun t => t.length ≤ 9223372036854775807) Tryz.underlying60 (by kernel_rfl) (by decide) h (fun cs m x hx => by
    obtain ⟨z, rfl, _, hl⟩ := DataW.trod_string Tryz.underlying9 hx
    obtain ⟨l, rfl⟩ := str_list z
    exact ⟨l, rfl, str_len hl⟩)
  refine ⟨ts, h1.symm, ⟨a, cap, by rw [List.length_map, h1], by rw [List.length_map, h1]; exact h2, h3, ?_⟩, hg⟩
  rcases h4 with h4 | ⟨g, off, ha, hlt, hc⟩
  · left
    rw [List.map_eq_nil_iff]
    exact List.eq_nil_of_length_eq_zero (by omega)
  · right
    refine ⟨g, off, ha, hlt, .inl hlt, fun j hj => ?_⟩
    have := hc j (by simpa using hj) 0 (by decide)
    rw [Nat.mul_one, Nat.add_zero] at this
    rw [this]
    simp
/-- What Cut answers. -/
def cutE (s : List UInt8) (k : Int) : Int := if k < 1 ∨ k > 32 then 1 else if s = [] ∨ (s.length : Int) > k * 1024 then 3 else 0
def cutT (s : List UInt8) (k : Int) : List (List UInt8) := if cutE s k = 0 then partsC s (sizeC (s.length : Nat) k).toNat k.toNat else []
theorem size_facts (L k : Nat) (hk0 : 1 ≤ k) (hk : k ≤ 32) (h0 : 0 < L) (hL : L ≤ k * 1024) : ∃ n : Nat, sizeC (L : Nat) (k : Nat) = (n : Int) ∧ L ≤ n * k ∧ n ≤ 1024 ∧ 1 ≤ n := by
  have e : sizeC (L : Nat) (k : Nat) = if L % k = 0 then ((L / k : Nat) : Int) else ((L / k + 1 : Nat) : Int) := by
    unfold sizeC
    rw [if_neg (by omega), Int.tdiv_eq_ediv_of_nonneg (by omega), Int.tmod_eq_emod_of_nonneg (by omega)]
    norm_cast
  have hd := Nat.div_add_mod L k
  have hm := Nat.mod_lt L (show 0 < k by omega)
  have hle : L / k ≤ 1024 := by
    have := Nat.div_le_div_right (c := k) hL
    rwa [Nat.mul_div_cancel_left _ (by omega)] at this
  by_cases h : L % k = 0
  · refine ⟨L / k, by rw [e, if_pos h], ?_, hle, ?_⟩
    · rw [Nat.mul_comm]; omega
    · rcases Nat.eq_zero_or_pos (L / k) with h1 | h1
      · rw [h1] at hd; omega
      · exact h1
  · refine ⟨L / k + 1, by rw [e, if_neg h], ?_, ?_, Nat.succ_le_succ (Nat.zero_le _)⟩
    · rw [Nat.add_mul, Nat.one_mul, Nat.mul_comm]; omega
    · rcases Nat.lt_or_ge (L / k) 1024 with h1 | h1
      · exact h1
      · have : L / k = 1024 := by omega
        rw [this] at hd
        omega
theorem cut_c (s : List UInt8) (k : Int) (hk : -9223372036854775808 ≤ k ∧ k ≤ 9223372036854775807) (w : World) :
    Calls Tryz.prog 62 #[Str s, .int .i64 k] w fun e w' => ∃ v, e = .returned (.tuple #[v, .int .i64 (cutE s k)]) ∧ SlAt 0 w' 9 v ((cutT s k).map Str) ∧ Below w.heap.size w w' := by
  by_cases h1 : k < 1 ∨ k > 32
  · have e1 : cutE s k = 1 := by unfold cutE; rw [if_pos h1]
    have e2 : cutT s k = [] := by unfold cutT; rw [e1]; rfl
    rw [e1, e2]
    clear e1 e2
    by_cases h2 : k < 1
    · refine Calls.mono (R := fun e w' => e = .returned (.tuple #[.slice none 0 0, .int .i64 1]) ∧ w' = w) ?_ (fun e w' h => ⟨_, h.1, SlAt.nil _ _ _, by rw [h.2]; exact Below.refl _ _⟩)
      clear h1
      go_enter Tryz.func62, Tryz.ntmps62
      go_wp2_with fail
      go_ret2
      exact ⟨rfl, rfl⟩
    · have h3 : (32 : Int) < k := by omega
      refine Calls.mono (R := fun e w' => e = .returned (.tuple #[.slice none 0 0, .int .i64 1]) ∧ w' = w) ?_ (fun e w' h => ⟨_, h.1, SlAt.nil _ _ _, by rw [h.2]; exact Below.refl _ _⟩)
      clear h1
      go_enter Tryz.func62, Tryz.ntmps62
      go_wp2_with fail
      go_ret2
      exact ⟨rfl, rfl⟩
  · obtain ⟨m, rfl⟩ : ∃ m : Nat, k = m := ⟨k.toNat, by omega⟩
    by_cases h2 : s = [] ∨ (s.length : Int) > (m : Int) * 1024
    · have e1 : cutE s m = 3 := by unfold cutE; rw [if_neg h1, if_pos h2]
      have e2 : cutT s m = [] := by unfold cutT; rw [e1]; rfl
      rw [e1, e2]
      clear e1 e2
      have g1 : ¬ (m : Int) < 1 := by omega
      have g2 : ¬ (32 : Int) < (m : Int) := by omega
      have g5 : wrap64 ((m : Int) * 1024) = (m : Int) * 1024 := IntWalk.wrap64_in _ (by omega)
      refine Calls.mono (R := fun e w' => e = .returned (.tuple #[.slice none 0 0, .int .i64 3]) ∧ w' = w) ?_ (fun e w' h => ⟨_, h.1, SlAt.nil _ _ _, by rw [h.2]; exact Below.refl _ _⟩)
      by_cases h3 : s = []
      · subst h3
        clear h1 h2
        go_enter Tryz.func62, Tryz.ntmps62
        go_wp2_with fail
        go_ret2
        exact ⟨rfl, rfl⟩
      · have h4 : s.isEmpty = false := by simpa using h3
        have h5 : (m : Int) * 1024 < (s.length : Int) := by
          rcases h2 with h2 | h2
          · exact absurd h2 h3
          · exact h2
        clear h1 h2 h3
        go_enter Tryz.func62, Tryz.ntmps62
        go_wp2_with fail
        go_ret2
        exact ⟨rfl, rfl⟩
    · have h3 : s ≠ [] := fun e => h2 (.inl e)
      have h4 : 0 < s.length := List.length_pos_iff.2 h3
      have h5 : s.length ≤ m * 1024 := by omega
      obtain ⟨n, hn, _, hn1, _⟩ := size_facts s.length m (by omega) (by omega) h4 h5
      have e1 : cutE s m = 0 := by unfold cutE; rw [if_neg h1, if_neg h2]
      have e2 : cutT s m = partsC s n m := by unfold cutT; rw [e1, if_pos rfl, hn]; rfl
      rw [e1, e2]
      exact cut_ok s m n (by omega) (by omega) h4 h5 hn (by omega) w
end Go.Proofs.YtnmlmpffmjhihaaGreat
namespace Go.Proofs.YtnmlmpffmjhihaaGreat
open Go.RowKit
set_option linter.unusedVariables false
set_option maxRecDepth 100000
set_option maxHeartbeats 1000000
theorem part_pad (s : List UInt8) (n k i j : Nat) (hi : i < k) (hs : s.length ≤ n * k) (hj : s.length + j = n * k) : ((s ++ List.replicate j 0).take (i * n + n)).drop (i * n) = partC s n i := by
  unfold partC
  have h1 : i * n + n ≤ n * k := by
    have := Nat.mul_le_mul_left n (Nat.succ_le_of_lt hi)
    rw [Nat.mul_succ, Nat.mul_comm n i] at this
    exact this
  apply List.ext_getElem
  · simp
    omega
  · intro q g1 g2
    simp only [List.getElem_drop, List.getElem_take, List.getElem_append, List.getElem_replicate, List.length_take, List.length_drop]
    by_cases h : i * n + q < s.length
    · rw [dif_pos h]
      have : q < min n (s.length - i * n) := by simp at g1; omega
      rw [dif_pos this]
    · rw [dif_neg h, dif_neg (by omega)]
theorem app_facts (m k a b : Nat) (h : m < k) (hk : k ≤ 32) (hab : a ≤ b) : m + 1 ≤ maxLen ∧ (m + 1) * 16 ≤ 140737488355328 ∧ a ≤ b + 1 := ⟨by unfold maxLen; omega, by omega, by omega⟩
theorem slice_facts (a n nk c L : Nat) (hc : a + n = c) (hle : c ≤ nk) (hnk : nk ≤ 32768) (hL : L = nk) :
    (a : Int) + (n : Int) = (c : Int) ∧ wrap64 (a : Int) = (a : Int) ∧ wrap64 (c : Int) = (c : Int) ∧ (a : Int) ≤ (c : Int) ∧ (c : Int) ≤ (L : Int) ∧ (0 : Int) ≤ (a : Int) :=
  ⟨by omega, IntWalk.wrap64_in _ (by omega), IntWalk.wrap64_in _ (by omega), by omega, by omega, by omega⟩
end Go.Proofs.YtnmlmpffmjhihaaGreat
namespace Go.Proofs.YtnmlmpffmjhihaaGreat
open Go.RowKit
set_option linter.unusedVariables false
set_option maxRecDepth 100000
set_option maxHeartbeats 400000
theorem flat_succ (T : List (List UInt8)) (k : Nat) (h : k < T.length) : (T.take (k + 1)).flatten = (T.take k).flatten ++ T[k] := by
  rw [List.take_succ_eq_append_getElem h, List.flatten_append, List.flatten_cons, List.flatten_nil, List.append_nil]
theorem flat_le (T : List (List UInt8)) (k : Nat) : (T.take k).flatten.length ≤ T.flatten.length := by
  have := congrArg (fun l => (List.flatten l).length) (List.take_append_drop k T)
  simp only [List.flatten_append, List.length_append] at this
  omega
theorem flat_lt (T : List (List UInt8)) (k : Nat) (h : k < T.length) : (T.take k).flatten.length + T[k].length ≤ T.flatten.length := by
  have := flat_le T (k + 1)
  rwa [flat_succ T k h, List.length_append] at this
theorem all_zero {F : List UInt8} {L : Nat} (h : ∀ r (hr : r < F.length), L ≤ r → F[r] = 0) : (F.drop L).all (· == 0) = true := by
  rw [List.all_eq_true]
  intro x hx
  obtain ⟨i, hi, rfl⟩ := List.mem_iff_getElem.1 hx
  rw [List.getElem_drop, h _ _ (Nat.le_add_right _ _)]
  rfl
theorem not_all_zero {F : List UInt8} {L r : Nat} (hr : r < F.length) (hL : L ≤ r) (h : F[r] ≠ 0) : ¬ (F.drop L).all (· == 0) = true := by
  rw [List.all_eq_true]
  intro hall
  have := hall F[r] (by
    rw [List.mem_iff_getElem]
    refine ⟨r - L, by simp; omega, ?_⟩
    rw [List.getElem_drop]
    congr 1
    omega)
  exact h (by simpa using this)
end Go.Proofs.YtnmlmpffmjhihaaGreat
namespace Go.Proofs.YtnmlmpffmjhihaaGreat
set_option linter.unusedVariables false
theorem parts_flat (s : List UInt8) (n k j : Nat) (hs : s.length ≤ n * k) (hj : s.length + j = n * k) : ∀ m, m ≤ k → (partsC s n m).flatten = (s ++ List.replicate j 0).take (m * n)
  | 0, _ => by simp [partsC]
  | m + 1, h => by
    have ih := parts_flat s n k j hs hj m (by omega)
    rw [partsC_succ, List.flatten_append, ih, List.flatten_cons, List.flatten_nil, List.append_nil, ← part_pad s n k m j (by omega) hs hj, Nat.succ_mul]
    have := List.take_append_drop (m * n) ((s ++ List.replicate j 0).take (m * n + n))
    rw [List.take_take, Nat.min_eq_left (by omega)] at this
    exact this
theorem part_length (s : List UInt8) (n i : Nat) : (partC s n i).length = n := by
  unfold partC
  simp
  omega
theorem parts_any (s : List UInt8) (n k : Nat) (hk : 1 ≤ k) : (partsC s n k).any (fun t => decide (t.length ≠ ((partsC s n k).headD []).length)) = false := by
  have hl : ∀ t ∈ partsC s n k, t.length = n := fun t ht => by
    obtain ⟨i, _, rfl⟩ := List.mem_map.1 ht
    exact part_length s n i
  have hh : ((partsC s n k).headD []).length = n := by
    apply hl
    cases h : partsC s n k with
    | nil =>
      have : (partsC s n k).length = k := by simp [partsC]
      rw [h] at this
      simp at this
      omega
    | cons x ts => simp
  rw [List.any_eq_false]
  intro t ht
  rw [hl t ht, hh]
  simp
theorem join_back (s : List UInt8) (n k : Nat) (hk : 1 ≤ k) (hs : s.length ≤ n * k) : joinC (partsC s n k) (s.length : Nat) = (s, 0) := by
  obtain ⟨j, hj⟩ : ∃ j, s.length + j = n * k := ⟨n * k - s.length, by omega⟩
  have hf : (partsC s n k).flatten = s ++ List.replicate j 0 := by
    rw [parts_flat s n k j hs hj k (Nat.le_refl _), Nat.mul_comm k n, List.take_of_length_le (by simp; omega)]
  unfold joinC
  have hne : partsC s n k ≠ [] := fun e => by
    have : (partsC s n k).length = k := by simp [partsC]
    rw [e] at this
    simp at this
    omega
  rw [if_neg hne, parts_any s n k hk, if_neg (by simp), hf, if_neg (by simp; omega), Int.toNat_natCast, List.drop_left, List.take_left, if_pos (by simp)]
theorem parts_bound (s : List UInt8) (n k : Nat) (hk : k ≤ 32) (hn : n ≤ 1024) : (partsC s n k).length ≤ 1000 ∧ (partsC s n k).flatten.length ≤ 1000000 := by
  have h1 : (partsC s n k).length = k := by simp [partsC]
  refine ⟨by omega, ?_⟩
  have h2 : ∀ m, m ≤ k → (partsC s n m).flatten.length = m * n := fun m => by
    induction m with
    | zero => intro _; simp [partsC]
    | succ m ih =>
      intro h
      rw [partsC_succ, List.flatten_append, List.length_append, ih (by omega), List.flatten_cons, List.flatten_nil, List.append_nil, part_length, Nat.succ_mul]
  rw [h2 k (Nat.le_refl _)]
  have := Nat.mul_le_mul hk hn
  omega
end Go.Proofs.YtnmlmpffmjhihaaGreat
