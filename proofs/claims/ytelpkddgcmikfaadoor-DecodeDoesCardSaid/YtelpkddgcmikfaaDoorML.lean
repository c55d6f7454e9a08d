/-
  Merged: Cut: whether two lists of texts are the same; texts that came in; the answer of Cut, errors too (chapters 5 and 6). | Cut: the document's Cut and Join (chapter 6). | Cut: the document's Join (chapter 6). | Cut: plain: a text comes back from its shards (chapter 6).
-/
import Derived.Test.YtelpkddgcmikfaaDoorMK
import Derived.Test.YtelpkddgcmikfaaDoorMA
import Derived.Test.YtelpkddgcmikfaaDoorMH
namespace Go.Proofs.YtelpkddgcmikfaaDoor
open Go.RowKit
set_option linter.unusedVariables false
set_option maxRecDepth 100000
set_option maxHeartbeats 1000000
theorem take_ne_t {α : Type} {xs ys : List α} {k : Nat} (h1 : k < xs.length) (h2 : k < ys.length) (h : xs[k] ≠ ys[k]) : xs ≠ ys := fun e => h (by subst e; rfl)
theorem take_succ_t {α : Type} {xs ys : List α} {k : Nat} (h1 : k < xs.length) (h2 : k < ys.length) (h : xs[k] = ys[k]) (ht : xs.take k = ys.take k) : xs.take (k + 1) = ys.take (k + 1) := by
  rw [List.take_succ_eq_append_getElem h1, List.take_succ_eq_append_getElem h2, h, ht]
def textsB (xs ys : List (List UInt8)) : Bool := decide (xs = ys)
theorem texts_c {B1 B2 : Nat} {va vb : Value} {xs ys : List (List UInt8)} (w : World) (ha : SlAt B1 w 9 va (xs.map Str)) (hb : SlAt B2 w 9 vb (ys.map Str)) :
    Calls Tryd.prog 13 #[va, vb] w fun e w' => e = .returned (.bool (textsB xs ys)) ∧ Drawn w w' := by
  have ha0 := ha
  have hb0 := hb
  obtain ⟨aa, ca, rfl, hma, hca⟩ := strs_at ha
  obtain ⟨ab, cb, rfl, hmb, hcb⟩ := strs_at hb
  by_cases hlen : xs.length = ys.length
  · have hl : ((xs.length : Int) != (ys.length : Int)) = false := by simp [hlen]
    have HL := Lib.hid hlen
    clear hlen hca hcb
    go_enter Tryd.func13, Tryd.ntmps13
    go_wp2_with fail
    clear hl
    go_loopw [5] (fun i wr => ∃ k : Nat, k ≤ xs.length ∧ i = .int .i64 k ∧ xs.take k = ys.take k ∧ Drawn w wr) (fun i _ => xs.length - (intOf i).toNat)
    case atStart => exact ⟨0, by omega, rfl, rfl, Drawn.refl _⟩
    case round =>
      obtain ⟨k, hk, rfl, ht, hd⟩ := hrel
      have HT := Lib.hid ht
      clear ht
      by_cases hlt : k < xs.length
      · have hlt2 : k < ys.length := by rw [← HL.out]; exact hlt
        obtain ⟨_, _, e, _, h1⟩ := strs_at (ha0.chain hd.below)
        cases e
        obtain ⟨_, _, e, _, h2⟩ := strs_at (hb0.chain hd.below)
        cases e
        obtain ⟨g1, o1, rfl, hg1, c1⟩ := h1 k hlt
        obtain ⟨g2, o2, rfl, hg2, c2⟩ := h2 k hlt2
        clear h1 h2
        by_cases he : xs[k] = ys[k]
        · have HS := Lib.hid (take_succ_t hlt hlt2 he HT.out)
          rw [he] at c1
          clear he
          generalize ys[k] = x at *
          go_wp2_with fail
          go_quiet (fail)
          go_wp2_with fail
          go_roundw
          case rel => exact ⟨k + 1, by omega, by go_num, HS.out, hd.trans (Drawn.of_drewN _ _)⟩
          case measure => simp [intOf]; omega
        · have hne : textsB xs ys = false := by
            unfold textsB
            exact decide_eq_false (take_ne_t hlt hlt2 he)
          have HN := Lib.hid hne
          clear hne
          generalize xs[k] = x at *
          generalize ys[k] = y at *
          have hxy : (x == y) = false := by simpa using he
          go_wp2_with fail
          go_quiet (fail)
          go_wp2_with fail
          go_ret
          exact ⟨by rw [HN.out]; rfl, hd.trans (Drawn.of_drewN _ _)⟩
      · have hy : textsB xs ys = true := by
          unfold textsB
          refine decide_eq_true ?_
          have := HT.out
          rwa [List.take_of_length_le (by omega), List.take_of_length_le (by have := HL.out; omega)] at this
        have HY := Lib.hid hy
        have hlt' : ¬ (k : Int) < (xs.length : Int) := by omega
        clear hy
        go_wp2_with fail
        go_ret
        exact ⟨by rw [HY.out]; rfl, hd⟩
  · have hne : textsB xs ys = false := by
      unfold textsB
      exact decide_eq_false (fun e => hlen (by rw [e]))
    have HN := Lib.hid hne
    have hl : ((xs.length : Int) != (ys.length : Int)) = true := by simp; omega
    clear hne hlen
    go_enter Tryd.func13, Tryd.ntmps13
    go_wp2_with fail
    go_ret
    exact ⟨by rw [HN.out]; rfl, Drawn.refl _⟩
/-- Texts that came in. -/
theorem open_strs {H : Type} {enc : TypeId × Value → H} {W : World} {b : Nat} {sp : Nat → Bool} {hd : Bool} {a : Option Addr} {len cap : Nat} {d : DataW H} {p : List MemPlace}
    (h : DataW.Trod enc Tryd.prog W b sp hd 38 (.slice a len cap) d p) : ∃ ts : List (List UInt8), len = ts.length ∧ SlAt W.heap.size W 9 (.slice a len cap) (ts.map Str) ∧ ∀ t ∈ ts, t.length ≤ 9223372036854775807 := by
  obtain ⟨ts, ⟨h1, h2, h3, h4⟩, hg⟩ := open_rows (P := Tryd.prog) 1 (fun t : List UInt8 => [Str t]) (fun t => t.length ≤ 9223372036854775807) Tryd.underlying38 (by kernel_rfl) (by decide) h (fun cs m x hx => by
    obtain ⟨z, rfl, _, hl⟩ := DataW.trod_string Tryd.underlying9 hx
    obtain ⟨l, rfl⟩ := str_list z
    exact ⟨l, rfl, str_len hl⟩)
  refine ⟨ts, h1.symm, ⟨a, cap, by rw [List.length_map, h1], by rw [List.length_map, h1]; exact h2, h3, ?_⟩, hg⟩
  rcases h4 with h4 | ⟨g, off, ha, hlt, hc⟩
  · left
    rw [List.map_eq_nil_iff]
    exact List.eq_nil_of_length_eq_zero (by omega)
  · right
    refine ⟨g, off, ha, hlt, .inl hlt, fun j hj => ?_⟩
    have := hc j (by simpa using hj) 0 (by decide)
    rw [Nat.mul_one, Nat.add_zero] at this
    rw [this]
    simp
/-- What Cut answers. -/
def cutE (s : List UInt8) (k : Int) : Int := if k < 1 ∨ k > 32 then 1 else if s = [] ∨ (s.length : Int) > k * 1024 then 3 else 0
def cutT (s : List UInt8) (k : Int) : List (List UInt8) := if cutE s k = 0 then partsC s (sizeC (s.length : Nat) k).toNat k.toNat else []
theorem size_facts (L k : Nat) (hk0 : 1 ≤ k) (hk : k ≤ 32) (h0 : 0 < L) (hL : L ≤ k * 1024) : ∃ n : Nat, sizeC (L : Nat) (k : Nat) = (n : Int) ∧ L ≤ n * k ∧ n ≤ 1024 ∧ 1 ≤ n := by
  have e : sizeC (L : Nat) (k : Nat) = if L % k = 0 then ((L / k : Nat) : Int) else ((L / k + 1 : Nat) : Int) := by
    unfold sizeC
    rw [if_neg (by omega), Int.tdiv_eq_ediv_of_nonneg (by omega), Int.tmod_eq_emod_of_nonneg (by omega)]
    norm_cast
  have hd := Nat.div_add_mod L k
  have hm := Nat.mod_lt L (show 0 < k by omega)
  have hle : L / k ≤ 1024 := by
    have := Nat.div_le_div_right (c := k) hL
    rwa [Nat.mul_div_cancel_left _ (by omega)] at this
  by_cases h : L % k = 0
  · refine ⟨L / k, by rw [e, if_pos h], ?_, hle, ?_⟩
    · rw [Nat.mul_comm]; omega
    · rcases Nat.eq_zero_or_pos (L / k) with h1 | h1
      · rw [h1] at hd; omega
      · exact h1
  · refine ⟨L / k + 1, by rw [e, if_neg h], ?_, ?_, Nat.succ_le_succ (Nat.zero_le _)⟩
    · rw [Nat.add_mul, Nat.one_mul, Nat.mul_comm]; omega
    · rcases Nat.lt_or_ge (L / k) 1024 with h1 | h1
      · exact h1
      · have : L / k = 1024 := by omega
        rw [this] at hd
        omega
theorem cut_c (s : List UInt8) (k : Int) (hk : -9223372036854775808 ≤ k ∧ k ≤ 9223372036854775807) (w : World) :
    Calls Tryd.prog 18 #[Str s, .int .i64 k] w fun e w' => ∃ v, e = .returned (.tuple #[v, .int .i64 (cutE s k)]) ∧ SlAt 0 w' 9 v ((cutT s k).map Str) ∧ Below w.heap.size w w' := by
  by_cases h1 : k < 1 ∨ k > 32
  · have e1 : cutE s k = 1 := by unfold cutE; rw [if_pos h1]
    have e2 : cutT s k = [] := by unfold cutT; rw [e1]; rfl
    rw [e1, e2]
    clear e1 e2
    by_cases h2 : k < 1
    · refine Calls.mono (R := fun e w' => e = .returned (.tuple #[.slice none 0 0, .int .i64 1]) ∧ w' = w) ?_ (fun e w' h => ⟨_, h.1, SlAt.nil _ _ _, by rw [h.2]; exact Below.refl _ _⟩)
      clear h1
      go_enter Tryd.func18, Tryd.ntmps18
      go_wp2_with fail
      go_ret2
      exact ⟨rfl, rfl⟩
    · have h3 : (32 : Int) < k := by omega
      refine Calls.mono (R := fun e w' => e = .returned (.tuple #[.slice none 0 0, .int .i64 1]) ∧ w' = w) ?_ (fun e w' h => ⟨_, h.1, SlAt.nil _ _ _, by rw [h.2]; exact Below.refl _ _⟩)
      clear h1
      go_enter Tryd.func18, Tryd.ntmps18
      go_wp2_with fail
      go_ret2
      exact ⟨rfl, rfl⟩
  · obtain ⟨m, rfl⟩ : ∃ m : Nat, k = m := ⟨k.toNat, by omega⟩
    by_cases h2 : s = [] ∨ (s.length : Int) > (m : Int) * 1024
    · have e1 : cutE s m = 3 := by unfold cutE; rw [if_neg h1, if_pos h2]
      have e2 : cutT s m = [] := by unfold cutT; rw [e1]; rfl
      rw [e1, e2]
      clear e1 e2
      have g1 : ¬ (m : Int) < 1 := by omega
      have g2 : ¬ (32 : Int) < (m : Int) := by omega
      have g5 : wrap64 ((m : Int) * 1024) = (m : Int) * 1024 := IntWalk.wrap64_in _ (by omega)
      refine Calls.mono (R := fun e w' => e = .returned (.tuple #[.slice none 0 0, .int .i64 3]) ∧ w' = w) ?_ (fun e w' h => ⟨_, h.1, SlAt.nil _ _ _, by rw [h.2]; exact Below.refl _ _⟩)
      by_cases h3 : s = []
      · subst h3
        clear h1 h2
        go_enter Tryd.func18, Tryd.ntmps18
        go_wp2_with fail
        go_ret2
        exact ⟨rfl, rfl⟩
      · have h4 : s.isEmpty = false := by simpa using h3
        have h5 : (m : Int) * 1024 < (s.length : Int) := by
          rcases h2 with h2 | h2
          · exact absurd h2 h3
          · exact h2
        clear h1 h2 h3
        go_enter Tryd.func18, Tryd.ntmps18
        go_wp2_with fail
        go_ret2
        exact ⟨rfl, rfl⟩
    · have h3 : s ≠ [] := fun e => h2 (.inl e)
      have h4 : 0 < s.length := List.length_pos_iff.2 h3
      have h5 : s.length ≤ m * 1024 := by omega
      obtain ⟨n, hn, _, hn1, _⟩ := size_facts s.length m (by omega) (by omega) h4 h5
      have e1 : cutE s m = 0 := by unfold cutE; rw [if_neg h1, if_neg h2]
      have e2 : cutT s m = partsC s n m := by unfold cutT; rw [e1, if_pos rfl, hn]; rfl
      rw [e1, e2]
      exact cut_ok s m n (by omega) (by omega) h4 h5 hn (by omega) w
end Go.Proofs.YtelpkddgcmikfaaDoor
namespace Go.Proofs.YtelpkddgcmikfaaDoor
open Go.RowKit
set_option linter.unusedVariables false
set_option maxRecDepth 100000
set_option maxHeartbeats 1000000
theorem part_pad (s : List UInt8) (n k i j : Nat) (hi : i < k) (hs : s.length ≤ n * k) (hj : s.length + j = n * k) : ((s ++ List.replicate j 0).take (i * n + n)).drop (i * n) = partC s n i := by
  unfold partC
  have h1 : i * n + n ≤ n * k := by
    have := Nat.mul_le_mul_left n (Nat.succ_le_of_lt hi)
    rw [Nat.mul_succ, Nat.mul_comm n i] at this
    exact this
  apply List.ext_getElem
  · simp
    omega
  · intro q g1 g2
    simp only [List.getElem_drop, List.getElem_take, List.getElem_append, List.getElem_replicate, List.length_take, List.length_drop]
    by_cases h : i * n + q < s.length
    · rw [dif_pos h]
      have : q < min n (s.length - i * n) := by simp at g1; omega
      rw [dif_pos this]
    · rw [dif_neg h, dif_neg (by omega)]
theorem app_facts (m k a b : Nat) (h : m < k) (hk : k ≤ 32) (hab : a ≤ b) : m + 1 ≤ maxLen ∧ (m + 1) * 16 ≤ 140737488355328 ∧ a ≤ b + 1 := ⟨by unfold maxLen; omega, by omega, by omega⟩
theorem slice_facts (a n nk c L : Nat) (hc : a + n = c) (hle : c ≤ nk) (hnk : nk ≤ 32768) (hL : L = nk) :
    (a : Int) + (n : Int) = (c : Int) ∧ wrap64 (a : Int) = (a : Int) ∧ wrap64 (c : Int) = (c : Int) ∧ (a : Int) ≤ (c : Int) ∧ (c : Int) ≤ (L : Int) ∧ (0 : Int) ≤ (a : Int) :=
  ⟨by omega, IntWalk.wrap64_in _ (by omega), IntWalk.wrap64_in _ (by omega), by omega, by omega, by omega⟩
theorem rcut_ok (s : List UInt8) (k n : Nat) (hk0 : 1 ≤ k) (hk : k ≤ 32) (hs0 : 0 < s.length) (hs : s.length ≤ k * 1024) (hn : sizeC (s.length : Nat) (k : Nat) = (n : Int)) (hn1 : n ≤ 1024) (hn2 : s.length ≤ n * k) (w : World) :
    Calls Tryd.prog 20 #[Str s, .int .i64 (k : Nat)] w fun e w' => ∃ v, e = .returned (.tuple #[v, .int .i64 0]) ∧ SlAt 0 w' 9 v ((partsC s n k).map Str) ∧ Below w.heap.size w w' := by
  obtain ⟨i0, hi, hz0, hz1, hz2⟩ := info_parts infoStr
  have hsz := (sizes_c (s.length : Nat) (k : Nat) (by omega) (by omega) w).2
  rw [hn] at hsz
  have HSZ := Lib.hid hsz
  have h1 : ¬ (k : Int) < 1 := by omega
  have h2 : ¬ (32 : Int) < (k : Int) := by omega
  have h3 : ¬ (s.length : Int) < 1 := by omega
  have h4 : ¬ (k : Int) * 1024 < (s.length : Int) := by omega
  have h5 : wrap64 ((k : Int) * 1024) = (k : Int) * 1024 := IntWalk.wrap64_in _ (by omega)
  have hnk : n * k ≤ 32768 := Nat.mul_le_mul hn1 hk
  obtain ⟨j0, hj0⟩ : ∃ j0, s.length + j0 = n * k := ⟨n * k - s.length, by omega⟩
  have h6 : (n : Int) * (k : Int) = ((n * k : Nat) : Int) := by norm_cast
  obtain ⟨nk, hnk0⟩ : ∃ nk, n * k = nk := ⟨_, rfl⟩
  have HP := Lib.hid (fun i hi => part_pad s n k i j0 hi hn2 hj0)
  rw [hnk0] at hj0 h6 hnk
  have h7 : wrap64 (nk : Int) = (nk : Int) := IntWalk.wrap64_in _ (by omega)
  have HNK := Lib.hid hnk0
  clear hsz hs0 hs hk0 hn hn2 hnk0
  have hap := app_c
  go_enter Tryd.func20, Tryd.ntmps20
  go_wp2_with fail
  refine HSZ.out.mono ?_
  rintro e w1 ⟨rfl, rfl⟩
  go_wp2_with fail
  have hap0 : ∀ x : List UInt8, ((⟨x.toArray⟩ : ByteArray) ++ ⟨#[0]⟩) = ⟨(x ++ [0]).toArray⟩ := fun x => app_c x [0]
  clear HSZ
  go_loopg [0] nk (fun gk v wr => ∃ j : Nat, j ≤ j0 ∧ j0 - j ≤ gk ∧ v = Str (s ++ List.replicate j 0) ∧ wr = w1)
  case atStart => exact ⟨0, by omega, by omega, by simp, rfl⟩
  case round =>
    obtain ⟨j, hj, hg, rfl, hwr⟩ := hrel
    have hwr' := hwr.symm
    subst hwr'
    clear hwr
    obtain ⟨X, hX⟩ : ∃ X, s ++ List.replicate j 0 = X := ⟨_, rfl⟩
    have hXl : X.length = s.length + j := by rw [← hX]; simp
    rw [hX]
    by_cases hlt : j < j0
    · have hl : (X.length : Int) < (nk : Int) := by omega
      have hs5 : ¬ 9223372036854775807 < X.length + 1 := by omega
      go_wp2_with fail
      go_roundg (j0 - (j + 1))
      case rel => exact ⟨j + 1, by omega, by omega, by rw [← hX, List.replicate_succ', List.append_assoc], rfl⟩
      case measure => omega
    · obtain rfl : j = j0 := by omega
      have hl : ¬ (X.length : Int) < (nk : Int) := by omega
      rw [hX] at HP
      go_wp2_with fail
      clear hg
      go_loopg [7, 8] k (fun gk v i w2 => ∃ m : Nat, m ≤ k ∧ k - m ≤ gk ∧ i = .int .i64 (m : Nat) ∧ Seg w2 w1.heap.size 9 1 v m ((partsC s n m).map Str) ∧ Below w1.heap.size w1 w2)
      case atStart => exact ⟨0, by omega, by omega, rfl, Seg.nil _ _ _ _, Below.refl _ _⟩
      case round =>
        obtain ⟨m, hm, hg, rfl, hsg, hB⟩ := hrel
        obtain ⟨ao, co, rfl⟩ := hsg.form
        by_cases hlt2 : m < k
        · have hY := HP.out m hlt2
          have hle : m * n + n ≤ nk := by
            rw [← HNK.out]
            have := Nat.mul_le_mul_left n (Nat.succ_le_of_lt hlt2)
            rw [Nat.mul_succ, Nat.mul_comm n m] at this
            exact this
          have hsn : partsC s n (m + 1) = partsC s n m ++ [partC s n m] := partsC_succ s n m
          have hmn : (m : Int) * (n : Int) = ((m * n : Nat) : Int) := by norm_cast
          generalize m * n = a at *
          obtain ⟨c, hc⟩ : ∃ c, a + n = c := ⟨_, rfl⟩
          rw [hc] at hY hle
          obtain ⟨hac, q1, q2, q3, q4, q5⟩ := slice_facts a n nk c X.length hc hle hnk (hXl.trans hj0)
          have q6 : wrap64 ((m : Int) * (n : Int)) = (a : Int) := by rw [hmn]; exact q1
          have q7 : wrap64 ((a : Int) + (n : Int)) = (c : Int) := by rw [hac]; exact q2
          have HQ := Lib.hid (And.intro hmn (And.intro hac (And.intro q1 q2)))
          clear hmn hac q1 q2
          have hex : (⟨X.toArray⟩ : ByteArray).extract a c = ⟨(partC s n m).toArray⟩ := by rw [ext_list, hY]
          have HS := Lib.hid hsn
          generalize partC s n m = Y at *
          clear hY hc hsn
          obtain ⟨z1, z2, z3⟩ := app_facts m k w1.heap.size wr.heap.size hlt2 hk hB.size
          have hbz : w1.heap.size ≤ (wr.alloc (.cells #[Str Y] 9)).heap.size := by rw [size_alloc]; exact z3
          clear hXl hj0 hl hj hlt hX hap hap0
          go_wp2_with (at_builtin; refine wpList_append_seg _ rfl (.tmp 42) (.tmp 53) 38 rfl w1.heap.size 9 i0 _ 1 16 Tryd.underlying38 hi hz0 hz1 hz2 rfl (by decide) (.slice ao m co) m ((partsC s n m).map Str) rfl (hsg.alloc _) ⟨wr.heap.size, 0, none⟩ 1 1 [Str Y] rfl rfl (cells_new _ _ _) (by simp [Value.oneCell']) (by decide) z1 z2 hbz (wr.heap.size + 1) (size_alloc _ _) ?_; intro g' off' cap' w3 hown hgrow hat)
          have hbb := Below.only (Below.chainAlloc hB _) (Only.of_grown hgrow) (fun x hm => (hsg.blk x (by simpa using hm)).1)
          clear hgrow hat hsg hB
          go_wp2_with fail
          go_roundg (k - (m + 1))
          case rel => exact ⟨m + 1, by omega, by omega, by go_num, by rw [HS.out]; simpa using hown, hbb⟩
          case measure => omega
        · obtain rfl : m = k := by omega
          have hl2 : ¬ (m : Int) < (m : Int) := by omega
          go_wp2_with fail
          go_ret2
          exact ⟨_, rfl, SlAt.of_seg hsg, hB⟩
/-- The document's Cut. -/
theorem rcut_c (s : List UInt8) (k : Int) (hk : -9223372036854775808 ≤ k ∧ k ≤ 9223372036854775807) (w : World) :
    Calls Tryd.prog 20 #[Str s, .int .i64 k] w fun e w' => ∃ v, e = .returned (.tuple #[v, .int .i64 (cutE s k)]) ∧ SlAt 0 w' 9 v ((cutT s k).map Str) ∧ Below w.heap.size w w' := by
  by_cases h1 : k < 1 ∨ k > 32
  · have e1 : cutE s k = 1 := by unfold cutE; rw [if_pos h1]
    have e2 : cutT s k = [] := by unfold cutT; rw [e1]; rfl
    rw [e1, e2]
    clear e1 e2
    refine Calls.mono (R := fun e w' => e = .returned (.tuple #[.slice none 0 0, .int .i64 1]) ∧ w' = w) ?_ (fun e w' h => ⟨_, h.1, SlAt.nil _ _ _, by rw [h.2]; exact Below.refl _ _⟩)
    by_cases h2 : k < 1
    · clear h1
      go_enter Tryd.func20, Tryd.ntmps20
      go_wp2_with fail
      go_ret2
      exact ⟨rfl, rfl⟩
    · have h3 : (32 : Int) < k := by omega
      clear h1
      go_enter Tryd.func20, Tryd.ntmps20
      go_wp2_with fail
      go_ret2
      exact ⟨rfl, rfl⟩
  · obtain ⟨m, rfl⟩ : ∃ m : Nat, k = m := ⟨k.toNat, by omega⟩
    by_cases h2 : s = [] ∨ (s.length : Int) > (m : Int) * 1024
    · have e1 : cutE s m = 3 := by unfold cutE; rw [if_neg h1, if_pos h2]
      have e2 : cutT s m = [] := by unfold cutT; rw [e1]; rfl
      rw [e1, e2]
      clear e1 e2
      have g1 : ¬ (m : Int) < 1 := by omega
      have g2 : ¬ (32 : Int) < (m : Int) := by omega
      have g5 : wrap64 ((m : Int) * 1024) = (m : Int) * 1024 := IntWalk.wrap64_in _ (by omega)
      refine Calls.mono (R := fun e w' => e = .returned (.tuple #[.slice none 0 0, .int .i64 3]) ∧ w' = w) ?_ (fun e w' h => ⟨_, h.1, SlAt.nil _ _ _, by rw [h.2]; exact Below.refl _ _⟩)
      by_cases h3 : s = []
      · subst h3
        clear h1 h2
        go_enter Tryd.func20, Tryd.ntmps20
        go_wp2_with fail
        go_ret2
        exact ⟨rfl, rfl⟩
      · have h6 : 0 < s.length := List.length_pos_iff.2 h3
        have h4 : ¬ (s.length : Int) < 1 := by omega
        have h5 : (m : Int) * 1024 < (s.length : Int) := by
          rcases h2 with h2 | h2
          · exact absurd h2 h3
          · exact h2
        clear h1 h2 h3
        go_enter Tryd.func20, Tryd.ntmps20
        go_wp2_with fail
        go_ret2
        exact ⟨rfl, rfl⟩
    · have h3 : s ≠ [] := fun e => h2 (.inl e)
      have h4 : 0 < s.length := List.length_pos_iff.2 h3
      have h5 : s.length ≤ m * 1024 := by omega
      obtain ⟨n, hn, hn2, hn1, _⟩ := size_facts s.length m (by omega) (by omega) h4 h5
      have e1 : cutE s m = 0 := by unfold cutE; rw [if_neg h1, if_neg h2]
      have e2 : cutT s m = partsC s n m := by unfold cutT; rw [e1, if_pos rfl, hn]; rfl
      rw [e1, e2]
      exact rcut_ok s m n (by omega) (by omega) h4 h5 hn hn1 hn2 w
end Go.Proofs.YtelpkddgcmikfaaDoor
namespace Go.Proofs.YtelpkddgcmikfaaDoor
open Go.RowKit
set_option linter.unusedVariables false
set_option maxRecDepth 100000
set_option maxHeartbeats 400000
theorem flat_succ (T : List (List UInt8)) (k : Nat) (h : k < T.length) : (T.take (k + 1)).flatten = (T.take k).flatten ++ T[k] := by
  rw [List.take_succ_eq_append_getElem h, List.flatten_append, List.flatten_cons, List.flatten_nil, List.append_nil]
theorem flat_le (T : List (List UInt8)) (k : Nat) : (T.take k).flatten.length ≤ T.flatten.length := by
  have := congrArg (fun l => (List.flatten l).length) (List.take_append_drop k T)
  simp only [List.flatten_append, List.length_append] at this
  omega
theorem flat_lt (T : List (List UInt8)) (k : Nat) (h : k < T.length) : (T.take k).flatten.length + T[k].length ≤ T.flatten.length := by
  have := flat_le T (k + 1)
  rwa [flat_succ T k h, List.length_append] at this
theorem all_zero {F : List UInt8} {L : Nat} (h : ∀ r (hr : r < F.length), L ≤ r → F[r] = 0) : (F.drop L).all (· == 0) = true := by
  rw [List.all_eq_true]
  intro x hx
  obtain ⟨i, hi, rfl⟩ := List.mem_iff_getElem.1 hx
  rw [List.getElem_drop, h _ _ (Nat.le_add_right _ _)]
  rfl
theorem not_all_zero {F : List UInt8} {L r : Nat} (hr : r < F.length) (hL : L ≤ r) (h : F[r] ≠ 0) : ¬ (F.drop L).all (· == 0) = true := by
  rw [List.all_eq_true]
  intro hall
  have := hall F[r] (by
    rw [List.mem_iff_getElem]
    refine ⟨r - L, by simp; omega, ?_⟩
    rw [List.getElem_drop]
    congr 1
    omega)
  exact h (by simpa using this)
/-- The document's Join. -/
theorem rjoin_c (B : Nat) (v : Value) (T : List (List UInt8)) (len : Int) (w : World) (h : SlAt B w 9 v (T.map Str)) (hN : T.length ≤ 1000) (hT : T.flatten.length ≤ 1000000) :
    Calls Tryd.prog 15 #[v, .int .i64 len] w fun e w' => e = .returned (.tuple #[Str (joinC T len).1, .int .i64 (joinC T len).2]) ∧ Drawn w w' := by
  have h0 := h
  obtain ⟨a, cap, rfl, hm, hat⟩ := strs_at h
  by_cases hne : T = []
  · subst hne
    go_enter Tryd.func15, Tryd.ntmps15
    go_wp2_with fail
    go_ret2
    exact ⟨rfl, Drawn.refl _⟩
  · have hpos : 0 < T.length := List.length_pos_iff.2 hne
    have hl0 : ¬ (T.length : Int) = 0 := by omega
    have hlb : ((T.length : Int) == 0) = false := by simp; omega
    have eT : joinC T len = if T.any (fun t => decide (t.length ≠ (T.headD []).length)) then ([], 16)
      else if len < 0 ∨ len > (T.flatten.length : Int) then ([], 2)
      else if (T.flatten.drop len.toNat).all (· == 0) then (T.flatten.take len.toNat, 0) else ([], 5) := by
        unfold joinC
        rw [if_neg hne]
    have hhd : T.headD [] = T[0] := by
      cases T with
      | nil => exact absurd rfl hne
      | cons x ts => rfl
    rw [hhd] at eT
    generalize hJ : joinC T len = J at *
    have HE := Lib.hid eT
    have HT := Lib.hid hT
    clear hJ eT hhd hne hat h hT
    go_enter Tryd.func15, Tryd.ntmps15
    go_wp2_with fail
    clear hl0 hlb
    go_loopw [6, 7] (fun sv i wr => ∃ k : Nat, k ≤ T.length ∧ i = .int .i64 k ∧ sv = Str ((T.take k).flatten) ∧ Hid (∀ t ∈ T.take k, t.length = T[0].length) ∧ Drawn w wr) (fun _ i _ => T.length - (intOf i).toNat)
    case atStart => exact ⟨0, by omega, rfl, rfl, Lib.hid (by simp), Drawn.refl _⟩
    case round =>
      obtain ⟨k, hk, rfl, rfl, hall, hd⟩ := hrel
      by_cases hlt : k < T.length
      · obtain ⟨_, _, e, _, h1⟩ := strs_at (h0.chain hd.below)
        cases e
        obtain ⟨g1, o1, rfl, hg1, c1⟩ := h1 k hlt
        obtain ⟨g2, o2, e, _, c2⟩ := h1 0 hpos
        cases e
        rw [Nat.add_zero] at c2
        clear h1
        have hfs := Lib.hid (flat_succ T k hlt)
        have hfl := flat_lt T k hlt
        have hk2 : (k : Int) < (T.length : Int) := by omega
        have hp2 : (0 : Int) < (T.length : Int) := by omega
        have hmem : T[k] ∈ T := List.getElem_mem hlt
        have HM := Lib.hid hmem
        have HTK := Lib.hid (List.take_succ_eq_append_getElem hlt)
        clear hmem
        by_cases he : T[k].length = T[0].length
        · have hs5 : ¬ 9223372036854775807 < (T.take k).flatten.length + T[k].length := by have := HT.out; omega
          have hap := app_c
          have HEQ := Lib.hid he
          have hne2 : ((T[k].length : Int) != (T[0].length : Int)) = false := by simp [he]
          clear he hfl
          generalize (T.take k).flatten = X at *
          generalize T[k] = Y at *
          generalize T[0] = Z at *
          go_wp2_with fail
          go_quiet (fail)
          go_wp2_with fail
          go_roundw
          case rel => exact ⟨k + 1, by omega, by go_num, by rw [hfs.out], Lib.hid (fun t ht => by
            rw [HTK.out] at ht
            rcases List.mem_append.1 ht with h | h
            · exact hall.out t h
            · rw [List.mem_singleton.1 h]; exact HEQ.out), hd.trans (Drawn.of_drewN _ _)⟩
          case measure => simp [intOf]; omega
        · have hJ : J = ([], 16) := by
            rw [HE.out, if_pos]
            rw [List.any_eq_true]
            exact ⟨_, HM.out, by simpa using he⟩
          have hne2 : ((T[k].length : Int) != (T[0].length : Int)) = true := by simp; omega
          have hne3 : ¬ (T[k].length : Int) = (T[0].length : Int) := by omega
          clear HE HM hfs hfl HTK hall
          generalize (T.take k).flatten = X at *
          generalize T[k] = Y at *
          generalize T[0] = Z at *
          subst hJ
          go_wp2_with fail
          go_quiet (fail)
          go_wp2_with fail
          go_ret2
          exact ⟨rfl, hd.trans (Drawn.of_drewN _ _)⟩
      · obtain rfl : k = T.length := by omega
        have hany : ¬ T.any (fun t => decide (t.length ≠ T[0].length)) = true := by
          rw [List.any_eq_true]
          rintro ⟨t, ht, h⟩
          have := hall.out t (by rw [List.take_length]; exact ht)
          simp [this] at h
        have hE := HE.out
        rw [if_neg hany] at hE
        rw [List.take_length]
        have hFl := HT.out
        clear HE HT hall hany
        generalize T.flatten = F at *
        have hlt' : ¬ (T.length : Int) < (T.length : Int) := by omega
        by_cases hbad : len < 0 ∨ len > (F.length : Int)
        · rw [if_pos hbad] at hE
          subst hE
          by_cases h2 : len < 0
          · clear hbad
            go_wp2_with fail
            go_ret2
            exact ⟨rfl, hd⟩
          · have h3 : (F.length : Int) < len := by omega
            clear hbad
            go_wp2_with fail
            go_ret2
            exact ⟨rfl, hd⟩
        · rw [if_neg hbad] at hE
          obtain ⟨L, rfl⟩ : ∃ L : Nat, len = L := ⟨len.toNat, by omega⟩
          have h2 : ¬ (L : Int) < 0 := by omega
          have h3 : ¬ (F.length : Int) < L := by omega
          have hLF : L ≤ F.length := by omega
          rw [Int.toNat_natCast] at hE
          have HEE := Lib.hid hE
          clear hE hbad
          go_wp2_with fail
          clear h2 h3
          go_loopw [8] (fun i w2 => ∃ q : Nat, L ≤ q ∧ q ≤ F.length ∧ i = .int .i64 q ∧ Hid (∀ r (hr : r < F.length), L ≤ r → r < q → F[r] = 0) ∧ w2 = wr) (fun i _ => F.length - (intOf i).toNat)
          case atStart => exact ⟨L, Nat.le_refl _, hLF, rfl, Lib.hid (fun r hr h1 h2 => by omega), rfl⟩
          case round =>
            obtain ⟨q, hq1, hq2, rfl, hz, hw2⟩ := hrel
            have hw3 := hw2.symm
            subst hw3
            clear hw2
            by_cases hlq : q < F.length
            · have hl1 : (q : Int) < (F.length : Int) := by omega
              have hl2 : (0 : Int) ≤ (q : Int) := by omega
              obtain ⟨x, hx⟩ : ∃ x, F[q] = x := ⟨_, rfl⟩
              have hix : ∀ h, (⟨F.toArray⟩ : ByteArray)[q]'h = x := fun h => hx
              by_cases he : x = 0
              · have HZ := Lib.hid (fun r (hr : r < F.length) (h1 : L ≤ r) (h2 : r < q + 1) => show F[r] = 0 by
                  rcases Nat.lt_or_ge r q with h | h
                  · exact hz.out r hr h1 h
                  · obtain rfl : r = q := by omega
                    exact hx.trans he)
                rw [he] at hix
                clear hz he hx
                go_wp2_with fail
                go_roundw
                case rel => exact ⟨q + 1, by omega, by omega, by go_num, HZ, by trivial⟩
                case measure => simp [intOf]; omega
              · have hJ : J = ([], 5) := by rw [HEE.out, if_neg (not_all_zero hlq hq1 (by rw [hx]; exact he))]
                have hne3 : ¬ x.toNat = 0 := fun e => he (UInt8.toNat_inj.1 (by simpa using e))
                have hne2 : ((x.toNat : Int) != 0) = true := by
                  simp
                  omega
                subst hJ
                clear hz HEE hx
                go_wp2_with fail
                go_ret2
                exact ⟨rfl, hd⟩
            · obtain rfl : q = F.length := by omega
              have hJ : J = (F.take L, 0) := by rw [HEE.out, if_pos (all_zero (fun r hr h1 => hz.out r hr h1 hr))]
              subst hJ
              clear hz HEE
              have hl1 : ¬ (F.length : Int) < (F.length : Int) := by omega
              have hl2 : (L : Int) ≤ (F.length : Int) := by omega
              have hl3 : (0 : Int) ≤ (L : Int) := by omega
              have hex : (⟨F.toArray⟩ : ByteArray).extract 0 L = ⟨(F.take L).toArray⟩ := by rw [ext_list, List.drop_zero]
              go_wp2_with fail
              go_ret2
              exact ⟨rfl, hd⟩
end Go.Proofs.YtelpkddgcmikfaaDoor
namespace Go.Proofs.YtelpkddgcmikfaaDoor
set_option linter.unusedVariables false
theorem parts_flat (s : List UInt8) (n k j : Nat) (hs : s.length ≤ n * k) (hj : s.length + j = n * k) : ∀ m, m ≤ k → (partsC s n m).flatten = (s ++ List.replicate j 0).take (m * n)
  | 0, _ => by simp [partsC]
  | m + 1, h => by
    have ih := parts_flat s n k j hs hj m (by omega)
    rw [partsC_succ, List.flatten_append, ih, List.flatten_cons, List.flatten_nil, List.append_nil, ← part_pad s n k m j (by omega) hs hj, Nat.succ_mul]
    have := List.take_append_drop (m * n) ((s ++ List.replicate j 0).take (m * n + n))
    rw [List.take_take, Nat.min_eq_left (by omega)] at this
    exact this
theorem part_length (s : List UInt8) (n i : Nat) : (partC s n i).length = n := by
  unfold partC
  simp
  omega
theorem parts_any (s : List UInt8) (n k : Nat) (hk : 1 ≤ k) : (partsC s n k).any (fun t => decide (t.length ≠ ((partsC s n k).headD []).length)) = false := by
  have hl : ∀ t ∈ partsC s n k, t.length = n := fun t ht => by
    obtain ⟨i, _, rfl⟩ := List.mem_map.1 ht
    exact part_length s n i
  have hh : ((partsC s n k).headD []).length = n := by
    apply hl
    cases h : partsC s n k with
    | nil =>
      have : (partsC s n k).length = k := by simp [partsC]
      rw [h] at this
      simp at this
      omega
    | cons x ts => simp
  rw [List.any_eq_false]
  intro t ht
  rw [hl t ht, hh]
  simp
theorem join_back (s : List UInt8) (n k : Nat) (hk : 1 ≤ k) (hs : s.length ≤ n * k) : joinC (partsC s n k) (s.length : Nat) = (s, 0) := by
  obtain ⟨j, hj⟩ : ∃ j, s.length + j = n * k := ⟨n * k - s.length, by omega⟩
  have hf : (partsC s n k).flatten = s ++ List.replicate j 0 := by
    rw [parts_flat s n k j hs hj k (Nat.le_refl _), Nat.mul_comm k n, List.take_of_length_le (by simp; omega)]
  unfold joinC
  have hne : partsC s n k ≠ [] := fun e => by
    have : (partsC s n k).length = k := by simp [partsC]
    rw [e] at this
    simp at this
    omega
  rw [if_neg hne, parts_any s n k hk, if_neg (by simp), hf, if_neg (by simp; omega), Int.toNat_natCast, List.drop_left, List.take_left, if_pos (by simp)]
theorem parts_bound (s : List UInt8) (n k : Nat) (hk : k ≤ 32) (hn : n ≤ 1024) : (partsC s n k).length ≤ 1000 ∧ (partsC s n k).flatten.length ≤ 1000000 := by
  have h1 : (partsC s n k).length = k := by simp [partsC]
  refine ⟨by omega, ?_⟩
  have h2 : ∀ m, m ≤ k → (partsC s n m).flatten.length = m * n := fun m => by
    induction m with
    | zero => intro _; simp [partsC]
    | succ m ih =>
      intro h
      rw [partsC_succ, List.flatten_append, List.length_append, ih (by omega), List.flatten_cons, List.flatten_nil, List.append_nil, part_length, Nat.succ_mul]
  rw [h2 k (Nat.le_refl _)]
  have := Nat.mul_le_mul hk hn
  omega
end Go.Proofs.YtelpkddgcmikfaaDoor
