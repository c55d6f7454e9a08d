/-
  Frag: a text's parts, the program's Cut and the document's (chapter 49).
-/
import Derived.Test.YtgfbhclkpephnaaFr0
import Derived.Test.YtgfbhclkpephnaaWireRef
namespace Go.Proofs.Ytgfbhclkpephnaa
open Go.RowKit
set_option linter.unusedVariables false
set_option maxRecDepth 100000
set_option maxHeartbeats 1000000
/-- Part i of a text of many parts. -/
def partF (id : Int) (s : List UInt8) (size m i : Nat) : List UInt8 := be id 4 ++ ([U8 i] ++ ([U8 m] ++ (s.drop (i * size)).take size))
def partsF (id : Int) (s : List UInt8) (size m k : Nat) : List (List UInt8) := (List.range k).map (partF id s size m)
theorem partsF_succ (id : Int) (s : List UInt8) (size m k : Nat) : partsF id s size m (k + 1) = partsF id s size m k ++ [partF id s size m k] := by simp [partsF, List.range_succ]
theorem partsF_len (id : Int) (s : List UInt8) (size m k : Nat) : (partsF id s size m k).length = k := by simp [partsF]
theorem putS4 (n : Int) (h0 : 0 ≤ n) (h1 : n < 4294967296) : putS n 4 = be n 4 ∧ putE n 4 = 0 := by
  have : putE n 4 = 0 := by unfold putE; rw [if_neg (by decide), if_neg (by omega)]
  unfold putS
  rw [if_pos this]
  exact ⟨rfl, this⟩
theorem putS1 (n : Int) (h0 : 0 ≤ n) (h1 : n < 256) : putS n 1 = [U8 n] ∧ putE n 1 = 0 := by
  have : putE n 1 = 0 := by unfold putE; rw [if_neg (by decide), if_neg (by simp; omega)]
  unfold putS
  rw [if_pos this]
  exact ⟨rfl, this⟩
theorem fput1 (n : Nat) (h1 : n < 256) (w : World) : Calls Try.prog 65 #[.int .u32 (n : Int), .int .i64 1] w fun e w' => e = .returned (.tuple #[Str [U8 n], .int .i64 0]) ∧ Below w.heap.size w w' := by
  have h := put_any (n : Int) 1 (by omega) (by omega) w
  rwa [(putS1 (n : Int) (by omega) (by omega)).1, (putS1 (n : Int) (by omega) (by omega)).2] at h
theorem fput4 (n : Int) (h0 : 0 ≤ n) (h1 : n < 4294967296) (w : World) : Calls Try.prog 65 #[.int .u32 n, .int .i64 4] w fun e w' => e = .returned (.tuple #[Str (be n 4), .int .i64 0]) ∧ Below w.heap.size w w' := by
  have h := put_any n 4 h0 h1 w
  rwa [(putS4 n h0 h1).1, (putS4 n h0 h1).2] at h
theorem gput1 (n : Nat) (h1 : n < 256) (w : World) : Calls Try.prog 66 #[.int .u32 (n : Int), .int .i64 1] w fun e w' => e = .returned (.tuple #[Str [U8 n], .int .i64 0]) ∧ Below w.heap.size w w' := by
  have h := rput_any (n : Int) 1 (by omega) (by omega) w
  rwa [(putS1 (n : Int) (by omega) (by omega)).1, (putS1 (n : Int) (by omega) (by omega)).2] at h
theorem gput4 (n : Int) (h0 : 0 ≤ n) (h1 : n < 4294967296) (w : World) : Calls Try.prog 66 #[.int .u32 n, .int .i64 4] w fun e w' => e = .returned (.tuple #[Str (be n 4), .int .i64 0]) ∧ Below w.heap.size w w' := by
  have h := rput_any n 4 h0 h1 w
  rwa [(putS4 n h0 h1).1, (putS4 n h0 h1).2] at h
theorem take_min_f {α : Type} (R : List α) (n : Nat) : R.take (min n R.length) = R.take n := by
  by_cases h : n ≤ R.length
  · rw [Nat.min_eq_left h]
  · rw [Nat.min_eq_right (by omega), List.take_length, List.take_of_length_le (by omega)]
theorem drop_min_f {α : Type} (s : List α) (a n : Nat) : (s.drop a).drop (min n (s.drop a).length) = s.drop (a + n) := by
  rw [← List.drop_drop]
  by_cases h : n ≤ (s.drop a).length
  · rw [Nat.min_eq_left h]
  · rw [Nat.min_eq_right (by omega), List.drop_length, List.drop_of_length_le (by omega)]
theorem round_f (s : List UInt8) (n a : Nat) (R : List UInt8) (hR : s.drop a = R) : ∃ M : Nat, (if R.length < n then (R.length : Int) else (n : Int)) = (M : Int) ∧ (if (R.length : Int) < (n : Int) then (R.length : Int) else (n : Int)) = (M : Int) ∧ (0 : Int) ≤ (M : Int) ∧ (M : Int) ≤ (R.length : Int) ∧
    (⟨R.toArray⟩ : ByteArray).extract 0 M = ⟨(R.take n).toArray⟩ ∧ Hid ((⟨R.toArray⟩ : ByteArray).extract M R.length = ⟨(s.drop (a + n)).toArray⟩) := by
  refine ⟨min n R.length, by split <;> omega, by split <;> omega, by omega, by omega, ?_, Lib.hid ?_⟩
  · rw [ext_list, List.drop_zero, take_min_f]
  · rw [ext_list, List.take_length, ← hR, drop_min_f]
/-- The error's number, and all parts. -/
def fragE (s : List UInt8) (size : Int) : Int := if size < 1 ∨ size > 1024 then 1 else if s = [] ∨ (s.length : Int) > 255 * size then 3 else 0
def fragT (id : Int) (s : List UInt8) (size : Int) : List (List UInt8) :=
  if fragE s size = 0 then partsF id s size.toNat ((s.length + size.toNat - 1) / size.toNat) ((s.length + size.toNat - 1) / size.toNat) else []
theorem many_f (L n : Nat) (h0 : 0 < L) (hn : 1 ≤ n) (hn2 : n ≤ 1024) (hL : L ≤ 255 * n) : ∃ m : Nat, (L + n - 1) / n = m ∧ m ≤ 255 ∧ 1 ≤ m ∧ m * n ≤ L + n - 1 ∧ ((L : Int) + (n : Int) - 1).tdiv (n : Int) = (m : Int) := by
  refine ⟨_, rfl, ?_, ?_, ?_, ?_⟩
  · apply Nat.le_of_lt_succ
    rw [Nat.div_lt_iff_lt_mul hn]
    omega
  · exact (Nat.le_div_iff_mul_le hn).2 (by omega)
  · exact Nat.div_mul_le_self _ _
  · rw [show (L : Int) + (n : Int) - 1 = ((L + n - 1 : Nat) : Int) by omega]
    rw [Int.tdiv_eq_ediv_of_nonneg (by omega)]
    norm_cast
theorem wraps_f (L n m : Nat) (hn : 1 ≤ n) (hn2 : n ≤ 1024) (hL : L ≤ 1000000) (hm : m ≤ 255) : wrap64 (255 * (n : Int)) = 255 * (n : Int) ∧ wrap64 ((L : Int) + (n : Int)) = (L : Int) + (n : Int) ∧
    wrap64 ((L : Int) + (n : Int) - 1) = (L : Int) + (n : Int) - 1 ∧ wrap64 (m : Int) = (m : Int) ∧ ((n : Int) == 0) = false ∧ IntKind.u32.wrap (m : Int) = (m : Int) :=
  ⟨IntWalk.wrap64_in _ (by omega), IntWalk.wrap64_in _ (by omega), IntWalk.wrap64_in _ (by omega), IntWalk.wrap64_in _ (by omega), beq_eq_false_iff_ne.2 (by omega), IntWalk.u32_in _ (by omega)⟩
theorem fcut_bad (id : Int) (s : List UInt8) (size : Int) (h : ¬ fragE s size = 0) (hl : s.length ≤ 1000000) (w : World) : Calls Try.prog 33 #[.int .u32 id, Str s, .int .i64 size] w fun e w' => e = .returned (.tuple #[.slice none 0 0, .int .i64 (fragE s size)]) ∧ w = w' := by
  by_cases h1 : size < 1
  · have e : fragE s size = 1 := if_pos (.inl h1)
    rw [e]
    clear e h
    go_enter Try.func33, Try.ntmps33
    go_wp2_with fail
    go_ret2
    exact ⟨rfl, rfl⟩
  · by_cases h2 : 1024 < size
    · have e : fragE s size = 1 := if_pos (.inr h2)
      rw [e]
      clear e h
      go_enter Try.func33, Try.ntmps33
      go_wp2_with fail
      go_ret2
      exact ⟨rfl, rfl⟩
    · have h5 : wrap64 (255 * size) = 255 * size := IntWalk.wrap64_in _ (by omega)
      by_cases h3 : s = []
      · have e : fragE s size = 3 := by unfold fragE; rw [if_neg (by omega), if_pos (.inl h3)]
        rw [e]
        clear e h
        subst h3
        have h6 : ¬ 255 * size < 0 := by omega
        go_enter Try.func33, Try.ntmps33
        go_wp2_with fail
        go_ret2
        exact ⟨rfl, rfl⟩
      · have hp : 0 < s.length := List.length_pos_iff.2 h3
        have h3' : s.isEmpty = false := by cases s with | nil => exact absurd rfl h3 | cons a s => rfl
        have h4 : ¬ (s.length : Int) < 1 := by omega
        have h6 : 255 * size < (s.length : Int) := by
          apply Classical.byContradiction
          intro hh
          apply h
          unfold fragE
          rw [if_neg (by omega), if_neg (fun hx => hx.elim h3 (fun hy => hh hy))]
        have e : fragE s size = 3 := by unfold fragE; rw [if_neg (by omega), if_pos (.inr h6)]
        rw [e]
        clear e h hp
        go_enter Try.func33, Try.ntmps33
        go_wp2_with fail
        go_ret2
        exact ⟨rfl, rfl⟩
theorem fcut_ok (id : Int) (i0 : 0 ≤ id) (i1 : id < 4294967296) (s : List UInt8) (n m : Nat) (hn : 1 ≤ n) (hn2 : n ≤ 1024) (h0 : 0 < s.length) (hL : s.length ≤ 255 * n) (hm : (s.length + n - 1) / n = m) (w : World) :
    Calls Try.prog 33 #[.int .u32 id, Str s, .int .i64 (n : Nat)] w fun e w' => ∃ v, e = .returned (.tuple #[v, .int .i64 0]) ∧ SlAt 0 w' 9 v ((partsF id s n m m).map Str) ∧ Below w.heap.size w w' := by
  obtain ⟨m', hm', hm1, hm2, hm3, hq⟩ := many_f s.length n h0 hn hn2 hL
  obtain rfl : m' = m := hm'.symm.trans hm
  have HQ := Lib.hid hq
  clear hm hm' hq
  obtain ⟨ti, hi, hz0, hz1, hz2⟩ := info_parts infoStr
  have h1 : ¬ (n : Int) < 1 := by omega
  have h2 : ¬ (1024 : Int) < (n : Int) := by omega
  have h3 : s.isEmpty = false := by cases s with | nil => simp at h0 | cons a s => rfl
  have h4 : ¬ (s.length : Int) < 1 := by omega
  have h6 : ¬ 255 * (n : Int) < (s.length : Int) := by omega
  have hsl : s.length ≤ 1000000 := by omega
  have HA := Lib.hid (fun w => fput1 m' (by omega) w)
  obtain ⟨h5, h7, h8, h9, h10, h11⟩ := wraps_f s.length n m' hn hn2 hsl hm1
  have hap := app_c
  have HN := Lib.hid (fun w => fput4 id i0 i1 w)
  have hq := HQ.out
  clear h0 hL hm3
  go_enter Try.func33, Try.ntmps33
  go_wp2_with fail
  refine (HA.out _).mono ?_
  rintro e w1 ⟨rfl, hb⟩
  have HB1 := Lib.hid hb
  clear hb
  go_wp2_with fail
  refine (HN.out _).mono ?_
  rintro e w2 ⟨rfl, hb⟩
  have HB2 := Lib.hid (Below.chain hb HB1.out)
  clear hb HB1 HA HN h3 h4 h5 h6 h7 h8 h9 h10 h11 hq HQ
  go_wp2_with fail
  go_loopw [1, 13, 54] (fun sv v iv wr => ∃ k : Nat, k ≤ m' ∧ sv = Str (s.drop (k * n)) ∧ iv = .int .i64 (k : Nat) ∧ Hid (Seg wr w2.heap.size 9 1 v k ((partsF id s n m' k).map Str)) ∧ Hid (Below w.heap.size w wr) ∧ Hid (w2.heap.size ≤ wr.heap.size)) (fun _ _ iv _ => m' - (intOf iv).toNat)
  case atStart => exact ⟨0, Nat.zero_le _, by simp, rfl, Lib.hid (Seg.nil _ _ _ _), HB2, Lib.hid (Nat.le_refl _)⟩
  case round =>
    obtain ⟨k, hk, rfl, rfl, HS, HB, HZ⟩ := hrel
    obtain ⟨ao, co, rfl⟩ := HS.out.form
    by_cases hlt : k < m'
    · have hlt' : (k : Int) < (m' : Int) := by omega
      obtain ⟨a, ha⟩ : ∃ a, k * n = a := ⟨_, rfl⟩
      rw [ha]
      obtain ⟨R, hR⟩ : ∃ R, s.drop a = R := ⟨_, rfl⟩
      rw [hR]
      obtain ⟨M, g1, g1', g2, g3, g4, HX⟩ := round_f s n a R hR
      have HP : Hid (partsF id s n m' (k + 1) = partsF id s n m' k ++ [be id 4 ++ ([U8 k] ++ ([U8 m'] ++ R.take n))]) := Lib.hid (by rw [partsF_succ, partF, ha, hR])
      have HE : Hid (a + n = (k + 1) * n) := Lib.hid (by rw [Nat.succ_mul, ha])
      have hRl : R.length ≤ 1000000 := by rw [← hR]; simp; omega
      have hYl : (R.take n).length ≤ 1024 := by simp; omega
      have hbl := be_length id 4
      have hku : IntKind.u32.wrap (k : Int) = (k : Int) := IntWalk.u32_in _ (by omega)
      have HK := Lib.hid (fun w => fput1 k (by omega) w)
      have q1 : k + 1 ≤ maxLen := by simp only [maxLen]; omega
      have q2 : (k + 1) * 16 ≤ 140737488355328 := by omega
      generalize be id 4 = X4 at *
      generalize R.take n = Y at *
      clear ha hR
      go_wp2_with fail
      refine (HK.out _).mono ?_
      rintro e w3 ⟨rfl, hb⟩
      have HB3 := Lib.hid (Below.chain hb HB.out)
      have HS3 := Lib.hid (HS.out.chain hb)
      have HZ3 := Lib.hid (Nat.le_trans HZ.out hb.size)
      clear hb HK HS HB HZ hku
      go_wp2_with (at_builtin; refine wpList_append_seg _ rfl (.tmp 67) (.tmp 77) 68 rfl w2.heap.size 9 ti _ 1 16 Try.underlying68 hi hz0 hz1 hz2 rfl (by decide) (.slice ao k co) k ((partsF id s n m' k).map Str) rfl (HS3.out.alloc _) ⟨w3.heap.size, 0, none⟩ 1 1 [_] rfl rfl (cells_new _ _ _) (by simp [Value.oneCell']) (by decide) q1 q2 (by rw [size_alloc]; have := HZ3.out; omega) (w3.heap.size + 1) (size_alloc _ _) ?_; intro g' off' cap' w4 hown hgrow hat)
      have HG := Lib.hid hgrow
      have HO := Lib.hid hown
      have HSP := Lib.hid (Below.only (Below.chainAlloc HB3.out _) (Only.of_grown HG.out) (fun x hm => by have := (HS3.out.blk x (by simpa using hm)).1; have := HB2.out.size; omega))
      clear hgrow hat hown
      go_wp2_with fail
      go_roundw
      case measure => simp [intOf]; omega
      case rel => exact ⟨k + 1, hlt, by rw [HX.out, HE.out], by go_num, Lib.hid (by rw [HP.out]; simpa using HO.out), HSP, Lib.hid (by have hg := HG.out.size; rw [size_alloc] at hg; have := HZ3.out; omega)⟩
    · obtain rfl : k = m' := by omega
      have hlt' : ¬ (k : Int) < (k : Int) := by omega
      go_wp2_with fail
      go_ret2
      exact ⟨_, rfl, SlAt.of_seg HS.out, HB.out⟩
end Go.Proofs.Ytgfbhclkpephnaa
