/-
  Cut: the document's Cut and Join (chapter 6).
-/
import Derived.Test.YtibilabhokkhmaaDoorCut4
namespace Go.Proofs.YtibilabhokkhmaaDoor
open Go.RowKit
set_option linter.unusedVariables false
set_option maxRecDepth 100000
set_option maxHeartbeats 1000000
theorem part_pad (s : List UInt8) (n k i j : Nat) (hi : i < k) (hs : s.length ≤ n * k) (hj : s.length + j = n * k) : ((s ++ List.replicate j 0).take (i * n + n)).drop (i * n) = partC s n i := by
  unfold partC
  have h1 : i * n + n ≤ n * k := by
    have := Nat.mul_le_mul_left n (Nat.succ_le_of_lt hi)
    rw [Nat.mul_succ, Nat.mul_comm n i] at this
    exact this
  apply List.ext_getElem
  · simp
    omega
  · intro q g1 g2
    simp only [List.getElem_drop, List.getElem_take, List.getElem_append, List.getElem_replicate, List.length_take, List.length_drop]
    by_cases h : i * n + q < s.length
    · rw [dif_pos h]
      have : q < min n (s.length - i * n) := by simp at g1; omega
      rw [dif_pos this]
    · rw [dif_neg h, dif_neg (by omega)]
theorem app_facts (m k a b : Nat) (h : m < k) (hk : k ≤ 32) (hab : a ≤ b) : m + 1 ≤ maxLen ∧ (m + 1) * 16 ≤ 140737488355328 ∧ a ≤ b + 1 := ⟨by unfold maxLen; omega, by omega, by omega⟩
theorem slice_facts (a n nk c L : Nat) (hc : a + n = c) (hle : c ≤ nk) (hnk : nk ≤ 32768) (hL : L = nk) :
    (a : Int) + (n : Int) = (c : Int) ∧ wrap64 (a : Int) = (a : Int) ∧ wrap64 (c : Int) = (c : Int) ∧ (a : Int) ≤ (c : Int) ∧ (c : Int) ≤ (L : Int) ∧ (0 : Int) ≤ (a : Int) :=
  ⟨by omega, IntWalk.wrap64_in _ (by omega), IntWalk.wrap64_in _ (by omega), by omega, by omega, by omega⟩
theorem rcut_ok (s : List UInt8) (k n : Nat) (hk0 : 1 ≤ k) (hk : k ≤ 32) (hs0 : 0 < s.length) (hs : s.length ≤ k * 1024) (hn : sizeC (s.length : Nat) (k : Nat) = (n : Int)) (hn1 : n ≤ 1024) (hn2 : s.length ≤ n * k) (w : World) :
    Calls Tryd.prog 8 #[Str s, .int .i64 (k : Nat)] w fun e w' => ∃ v, e = .returned (.tuple #[v, .int .i64 0]) ∧ SlAt 0 w' 9 v ((partsC s n k).map Str) ∧ Below w.heap.size w w' := by
  obtain ⟨i0, hi, hz0, hz1, hz2⟩ := info_parts infoStr
  have hsz := (sizes_c (s.length : Nat) (k : Nat) (by omega) (by omega) w).2
  rw [hn] at hsz
  have HSZ := Lib.hid hsz
  have h1 : ¬ (k : Int) < 1 := by omega
  have h2 : ¬ (32 : Int) < (k : Int) := by omega
  have h3 : ¬ (s.length : Int) < 1 := by omega
  have h4 : ¬ (k : Int) * 1024 < (s.length : Int) := by omega
  have h5 : wrap64 ((k : Int) * 1024) = (k : Int) * 1024 := IntWalk.wrap64_in _ (by omega)
  have hnk : n * k ≤ 32768 := Nat.mul_le_mul hn1 hk
  obtain ⟨j0, hj0⟩ : ∃ j0, s.length + j0 = n * k := ⟨n * k - s.length, by omega⟩
  have h6 : (n : Int) * (k : Int) = ((n * k : Nat) : Int) := by norm_cast
  obtain ⟨nk, hnk0⟩ : ∃ nk, n * k = nk := ⟨_, rfl⟩
  have HP := Lib.hid (fun i hi => part_pad s n k i j0 hi hn2 hj0)
  rw [hnk0] at hj0 h6 hnk
  have h7 : wrap64 (nk : Int) = (nk : Int) := IntWalk.wrap64_in _ (by omega)
  have HNK := Lib.hid hnk0
  clear hsz hs0 hs hk0 hn hn2 hnk0
  have hap := app_c
  go_enter Tryd.func8, Tryd.ntmps8
  go_wp2_with fail
  refine HSZ.out.mono ?_
  rintro e w1 ⟨rfl, rfl⟩
  go_wp2_with fail
  have hap0 : ∀ x : List UInt8, ((⟨x.toArray⟩ : ByteArray) ++ ⟨#[0]⟩) = ⟨(x ++ [0]).toArray⟩ := fun x => app_c x [0]
  clear HSZ
  go_loopg [0] nk (fun gk v wr => ∃ j : Nat, j ≤ j0 ∧ j0 - j ≤ gk ∧ v = Str (s ++ List.replicate j 0) ∧ wr = w1)
  case atStart => exact ⟨0, by omega, by omega, by simp, rfl⟩
  case round =>
    obtain ⟨j, hj, hg, rfl, hwr⟩ := hrel
    have hwr' := hwr.symm
    subst hwr'
    clear hwr
    obtain ⟨X, hX⟩ : ∃ X, s ++ List.replicate j 0 = X := ⟨_, rfl⟩
    have hXl : X.length = s.length + j := by rw [← hX]; simp
    rw [hX]
    by_cases hlt : j < j0
    · have hl : (X.length : Int) < (nk : Int) := by omega
      have hs5 : ¬ 9223372036854775807 < X.length + 1 := by omega
      go_wp2_with fail
      go_roundg (j0 - (j + 1))
      case rel => exact ⟨j + 1, by omega, by omega, by rw [← hX, List.replicate_succ', List.append_assoc], rfl⟩
      case measure => omega
    · obtain rfl : j = j0 := by omega
      have hl : ¬ (X.length : Int) < (nk : Int) := by omega
      rw [hX] at HP
      go_wp2_with fail
      clear hg
      go_loopg [7, 8] k (fun gk v i w2 => ∃ m : Nat, m ≤ k ∧ k - m ≤ gk ∧ i = .int .i64 (m : Nat) ∧ Seg w2 w1.heap.size 9 1 v m ((partsC s n m).map Str) ∧ Below w1.heap.size w1 w2)
      case atStart => exact ⟨0, by omega, by omega, rfl, Seg.nil _ _ _ _, Below.refl _ _⟩
      case round =>
        obtain ⟨m, hm, hg, rfl, hsg, hB⟩ := hrel
        obtain ⟨ao, co, rfl⟩ := hsg.form
        by_cases hlt2 : m < k
        · have hY := HP.out m hlt2
          have hle : m * n + n ≤ nk := by
            rw [← HNK.out]
            have := Nat.mul_le_mul_left n (Nat.succ_le_of_lt hlt2)
            rw [Nat.mul_succ, Nat.mul_comm n m] at this
            exact this
          have hsn : partsC s n (m + 1) = partsC s n m ++ [partC s n m] := partsC_succ s n m
          have hmn : (m : Int) * (n : Int) = ((m * n : Nat) : Int) := by norm_cast
          generalize m * n = a at *
          obtain ⟨c, hc⟩ : ∃ c, a + n = c := ⟨_, rfl⟩
          rw [hc] at hY hle
          obtain ⟨hac, q1, q2, q3, q4, q5⟩ := slice_facts a n nk c X.length hc hle hnk (hXl.trans hj0)
          have q6 : wrap64 ((m : Int) * (n : Int)) = (a : Int) := by rw [hmn]; exact q1
          have q7 : wrap64 ((a : Int) + (n : Int)) = (c : Int) := by rw [hac]; exact q2
          have HQ := Lib.hid (And.intro hmn (And.intro hac (And.intro q1 q2)))
          clear hmn hac q1 q2
          have hex : (⟨X.toArray⟩ : ByteArray).extract a c = ⟨(partC s n m).toArray⟩ := by rw [ext_list, hY]
          have HS := Lib.hid hsn
          generalize partC s n m = Y at *
          clear hY hc hsn
          obtain ⟨z1, z2, z3⟩ := app_facts m k w1.heap.size wr.heap.size hlt2 hk hB.size
          have hbz : w1.heap.size ≤ (wr.alloc (.cells #[Str Y] 9)).heap.size := by rw [size_alloc]; exact z3
          clear hXl hj0 hl hj hlt hX hap hap0
          go_wp2_with (at_builtin; refine wpList_append_seg _ rfl (.tmp 42) (.tmp 53) 23 rfl w1.heap.size 9 i0 _ 1 16 Tryd.underlying23 hi hz0 hz1 hz2 rfl (by decide) (.slice ao m co) m ((partsC s n m).map Str) rfl (hsg.alloc _) ⟨wr.heap.size, 0, none⟩ 1 1 [Str Y] rfl rfl (cells_new _ _ _) (by simp [Value.oneCell']) (by decide) z1 z2 hbz (wr.heap.size + 1) (size_alloc _ _) ?_; intro g' off' cap' w3 hown hgrow hat)
          have hbb := Below.only (Below.chainAlloc hB _) (Only.of_grown hgrow) (fun x hm => (hsg.blk x (by simpa using hm)).1)
          clear hgrow hat hsg hB
          go_wp2_with fail
          go_roundg (k - (m + 1))
          case rel => exact ⟨m + 1, by omega, by omega, by go_num, by rw [HS.out]; simpa using hown, hbb⟩
          case measure => omega
        · obtain rfl : m = k := by omega
          have hl2 : ¬ (m : Int) < (m : Int) := by omega
          go_wp2_with fail
          go_ret2
          exact ⟨_, rfl, SlAt.of_seg hsg, hB⟩
/-- The document's Cut. -/
theorem rcut_c (s : List UInt8) (k : Int) (hk : -9223372036854775808 ≤ k ∧ k ≤ 9223372036854775807) (w : World) :
    Calls Tryd.prog 8 #[Str s, .int .i64 k] w fun e w' => ∃ v, e = .returned (.tuple #[v, .int .i64 (cutE s k)]) ∧ SlAt 0 w' 9 v ((cutT s k).map Str) ∧ Below w.heap.size w w' := by
  by_cases h1 : k < 1 ∨ k > 32
  · have e1 : cutE s k = 1 := by unfold cutE; rw [if_pos h1]
    have e2 : cutT s k = [] := by unfold cutT; rw [e1]; rfl
    rw [e1, e2]
    clear e1 e2
    refine Calls.mono (R := fun e w' => e = .returned (.tuple #[.slice none 0 0, .int .i64 1]) ∧ w' = w) ?_ (fun e w' h => ⟨_, h.1, SlAt.nil _ _ _, by rw [h.2]; exact Below.refl _ _⟩)
    by_cases h2 : k < 1
    · clear h1
      go_enter Tryd.func8, Tryd.ntmps8
      go_wp2_with fail
      go_ret2
      exact ⟨rfl, rfl⟩
    · have h3 : (32 : Int) < k := by omega
      clear h1
      go_enter Tryd.func8, Tryd.ntmps8
      go_wp2_with fail
      go_ret2
      exact ⟨rfl, rfl⟩
  · obtain ⟨m, rfl⟩ : ∃ m : Nat, k = m := ⟨k.toNat, by omega⟩
    by_cases h2 : s = [] ∨ (s.length : Int) > (m : Int) * 1024
    · have e1 : cutE s m = 3 := by unfold cutE; rw [if_neg h1, if_pos h2]
      have e2 : cutT s m = [] := by unfold cutT; rw [e1]; rfl
      rw [e1, e2]
      clear e1 e2
      have g1 : ¬ (m : Int) < 1 := by omega
      have g2 : ¬ (32 : Int) < (m : Int) := by omega
      have g5 : wrap64 ((m : Int) * 1024) = (m : Int) * 1024 := IntWalk.wrap64_in _ (by omega)
      refine Calls.mono (R := fun e w' => e = .returned (.tuple #[.slice none 0 0, .int .i64 3]) ∧ w' = w) ?_ (fun e w' h => ⟨_, h.1, SlAt.nil _ _ _, by rw [h.2]; exact Below.refl _ _⟩)
      by_cases h3 : s = []
      · subst h3
        clear h1 h2
        go_enter Tryd.func8, Tryd.ntmps8
        go_wp2_with fail
        go_ret2
        exact ⟨rfl, rfl⟩
      · have h6 : 0 < s.length := List.length_pos_iff.2 h3
        have h4 : ¬ (s.length : Int) < 1 := by omega
        have h5 : (m : Int) * 1024 < (s.length : Int) := by
          rcases h2 with h2 | h2
          · exact absurd h2 h3
          · exact h2
        clear h1 h2 h3
        go_enter Tryd.func8, Tryd.ntmps8
        go_wp2_with fail
        go_ret2
        exact ⟨rfl, rfl⟩
    · have h3 : s ≠ [] := fun e => h2 (.inl e)
      have h4 : 0 < s.length := List.length_pos_iff.2 h3
      have h5 : s.length ≤ m * 1024 := by omega
      obtain ⟨n, hn, hn2, hn1, _⟩ := size_facts s.length m (by omega) (by omega) h4 h5
      have e1 : cutE s m = 0 := by unfold cutE; rw [if_neg h1, if_neg h2]
      have e2 : cutT s m = partsC s n m := by unfold cutT; rw [e1, if_pos rfl, hn]; rfl
      rw [e1, e2]
      exact rcut_ok s m n (by omega) (by omega) h4 h5 hn hn1 hn2 w
end Go.Proofs.YtibilabhokkhmaaDoor
