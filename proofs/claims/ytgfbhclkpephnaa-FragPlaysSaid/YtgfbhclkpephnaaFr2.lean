/-
  Frag: a text's parts, the document's Cut (chapter 49).
-/
import Derived.Test.YtgfbhclkpephnaaFr1
namespace Go.Proofs.Ytgfbhclkpephnaa
open Go.RowKit
set_option linter.unusedVariables false
set_option maxRecDepth 100000
set_option maxHeartbeats 1000000
theorem gfacts (s : List UInt8) (n k a m : Nat) (R : List UInt8) (ha : k * n = a) (hR : s.drop a = R) (hn : 1 ≤ n) (hn2 : n ≤ 1024) (hk : k < m) (hm : m ≤ 255) (hm3 : m * n ≤ s.length + n - 1) (hs : s.length ≤ 1000000) :
    ∃ b c : Nat, (k : Int) * (n : Int) = (a : Int) ∧ wrap64 (a : Int) = (a : Int) ∧ wrap64 ((k : Int) * (n : Int)) = (a : Int) ∧ (a : Int) + (n : Int) = (b : Int) ∧ wrap64 (b : Int) = (b : Int) ∧ wrap64 ((a : Int) + (n : Int)) = (b : Int) ∧
      (if b < s.length then (b : Int) else (s.length : Int)) = (c : Int) ∧ (if (b : Int) < (s.length : Int) then (b : Int) else (s.length : Int)) = (c : Int) ∧ (0 : Int) ≤ (a : Int) ∧ (a : Int) ≤ (c : Int) ∧ (c : Int) ≤ (s.length : Int) ∧
      (⟨s.toArray⟩ : ByteArray).extract a c = ⟨(R.take n).toArray⟩ := by
  have h1 : k * n + n ≤ m * n := by
    have := Nat.mul_le_mul_right n (Nat.succ_le_of_lt hk)
    rwa [Nat.succ_mul] at this
  rw [ha] at h1
  have h2 : a + n ≤ s.length + n - 1 := Nat.le_trans h1 hm3
  clear h1 hm3
  have e1 : (k : Int) * (n : Int) = (a : Int) := by rw [← ha]; norm_cast
  clear ha
  have e2 : wrap64 (a : Int) = (a : Int) := IntWalk.wrap64_in _ (by omega)
  refine ⟨a + n, min (a + n) s.length, e1, e2, by rw [e1]; exact e2, by norm_cast, ?_, ?_, by clear e1 e2; split <;> omega, by clear e1 e2; split <;> omega, by clear e1 e2; omega, by clear e1 e2; omega, by clear e1 e2; omega, ?_⟩
  · clear e1 e2; exact IntWalk.wrap64_in _ (by omega)
  · clear e1 e2; rw [show (a : Int) + (n : Int) = ((a + n : Nat) : Int) by norm_cast]; exact IntWalk.wrap64_in _ (by omega)
  · rw [ext_list, ← hR]
    congr 2
    rw [List.drop_take, List.take_eq_take_iff, List.length_drop]
    clear e1 e2
    omega
theorem gcut_bad (id : Int) (s : List UInt8) (size : Int) (h : ¬ fragE s size = 0) (hl : s.length ≤ 1000000) (w : World) : Calls Try.prog 34 #[.int .u32 id, Str s, .int .i64 size] w fun e w' => e = .returned (.tuple #[.slice none 0 0, .int .i64 (fragE s size)]) ∧ w = w' := by
  by_cases h1 : size < 1
  · have e : fragE s size = 1 := if_pos (.inl h1)
    rw [e]
    clear e h
    go_enter Try.func34, Try.ntmps34
    go_wp2_with fail
    go_ret2
    exact ⟨rfl, rfl⟩
  · by_cases h2 : 1024 < size
    · have e : fragE s size = 1 := if_pos (.inr h2)
      rw [e]
      clear e h
      go_enter Try.func34, Try.ntmps34
      go_wp2_with fail
      go_ret2
      exact ⟨rfl, rfl⟩
    · have h5 : wrap64 (255 * size) = 255 * size := IntWalk.wrap64_in _ (by omega)
      by_cases h3 : s = []
      · have e : fragE s size = 3 := by unfold fragE; rw [if_neg (by omega), if_pos (.inl h3)]
        rw [e]
        clear e h
        subst h3
        have h6 : ¬ 255 * size < 0 := by omega
        go_enter Try.func34, Try.ntmps34
        go_wp2_with fail
        go_ret2
        exact ⟨rfl, rfl⟩
      · have hp : 0 < s.length := List.length_pos_iff.2 h3
        have h3' : s.isEmpty = false := by cases s with | nil => exact absurd rfl h3 | cons a s => rfl
        have h4 : ¬ (s.length : Int) < 1 := by omega
        have h6 : 255 * size < (s.length : Int) := by
          apply Classical.byContradiction
          intro hh
          apply h
          unfold fragE
          rw [if_neg (by omega), if_neg (fun hx => hx.elim h3 (fun hy => hh hy))]
        have e : fragE s size = 3 := by unfold fragE; rw [if_neg (by omega), if_pos (.inr h6)]
        rw [e]
        clear e h hp
        go_enter Try.func34, Try.ntmps34
        go_wp2_with fail
        go_ret2
        exact ⟨rfl, rfl⟩
theorem gcut_ok (id : Int) (i0 : 0 ≤ id) (i1 : id < 4294967296) (s : List UInt8) (n m : Nat) (hn : 1 ≤ n) (hn2 : n ≤ 1024) (h0 : 0 < s.length) (hL : s.length ≤ 255 * n) (hm : (s.length + n - 1) / n = m) (w : World) :
    Calls Try.prog 34 #[.int .u32 id, Str s, .int .i64 (n : Nat)] w fun e w' => ∃ v, e = .returned (.tuple #[v, .int .i64 0]) ∧ SlAt 0 w' 9 v ((partsF id s n m m).map Str) ∧ Below w.heap.size w w' := by
  obtain ⟨m', hm', hm1, hm2, hm3, hq⟩ := many_f s.length n h0 hn hn2 hL
  obtain rfl : m' = m := hm'.symm.trans hm
  have HQ := Lib.hid hq
  clear hm hm' hq
  obtain ⟨ti, hi, hz0, hz1, hz2⟩ := info_parts infoStr
  have h1 : ¬ (n : Int) < 1 := by omega
  have h2 : ¬ (1024 : Int) < (n : Int) := by omega
  have h3 : s.isEmpty = false := by cases s with | nil => simp at h0 | cons a s => rfl
  have h4 : ¬ (s.length : Int) < 1 := by omega
  have h6 : ¬ 255 * (n : Int) < (s.length : Int) := by omega
  have hsl : s.length ≤ 1000000 := by omega
  have HA := Lib.hid (fun w => gput1 m' (by omega) w)
  have HM3 := Lib.hid hm3
  obtain ⟨h5, h7, h8, h9, h10, h11⟩ := wraps_f s.length n m' hn hn2 hsl hm1
  have hap := app_c
  have HN := Lib.hid (fun w => gput4 id i0 i1 w)
  have hq := HQ.out
  clear h0 hL hm3
  go_enter Try.func34, Try.ntmps34
  go_wp2_with fail
  clear h3 h4 h5 h6 h7 h8 h9 h10 hq HQ
  go_loopw [9, 10] (fun v iv wr => ∃ k : Nat, k ≤ m' ∧ iv = .int .i64 (k : Nat) ∧ Hid (Seg wr w.heap.size 9 1 v k ((partsF id s n m' k).map Str)) ∧ Hid (Below w.heap.size w wr)) (fun _ iv _ => m' - (intOf iv).toNat)
  case atStart => exact ⟨0, Nat.zero_le _, rfl, Lib.hid (Seg.nil _ _ _ _), Lib.hid (Below.refl _ _)⟩
  case round =>
    obtain ⟨k, hk, rfl, HS, HB⟩ := hrel
    obtain ⟨ao, co, rfl⟩ := HS.out.form
    by_cases hlt : k < m'
    · have hlt' : (k : Int) < (m' : Int) := by omega
      obtain ⟨a, ha⟩ : ∃ a, k * n = a := ⟨_, rfl⟩
      obtain ⟨R, hR⟩ : ∃ R, s.drop a = R := ⟨_, rfl⟩
      have HP : Hid (partsF id s n m' (k + 1) = partsF id s n m' k ++ [be id 4 ++ ([U8 k] ++ ([U8 m'] ++ R.take n))]) := Lib.hid (by rw [partsF_succ, partF, ha, hR])
      have hYl : (R.take n).length ≤ 1024 := by simp; omega
      have hbl := be_length id 4
      have HK := Lib.hid (fun w => gput1 k (by omega) w)
      have q1 : k + 1 ≤ maxLen := by simp only [maxLen]; omega
      have q2 : (k + 1) * 16 ≤ 140737488355328 := by omega
      have hku : IntKind.u32.wrap (k : Int) = (k : Int) := IntWalk.u32_in _ (by clear h11; omega)
      obtain ⟨b, c, p1, p2, p3, p4, p5, p6, p7, p8, p9, p10, p11, p12⟩ := gfacts s n k a m' R ha hR hn hn2 hlt hm1 HM3.out hsl
      have HF := Lib.hid (And.intro p3 p6)
      generalize be id 4 = X4 at *
      generalize R.take n = Y at *
      clear ha hR p1 p2 p3 p4 p5 p6
      go_wp2_with fail
      refine (HN.out _).mono ?_
      rintro e w1 ⟨rfl, hb1⟩
      go_wp2_with fail
      refine (HK.out _).mono ?_
      rintro e w2 ⟨rfl, hb2⟩
      go_wp2_with fail
      refine (HA.out _).mono ?_
      rintro e w3 ⟨rfl, hb3⟩
      have HB3 := Lib.hid (Below.chain hb3 (Below.chain hb2 (Below.chain hb1 HB.out)))
      have HS3 := Lib.hid (((HS.out.chain hb1).chain hb2).chain hb3)
      clear hb1 hb2 hb3 HK HS HB hku
      obtain ⟨p3, p6⟩ := HF.out
      go_wp2_with (at_builtin; refine wpList_append_seg _ rfl (.tmp 62) (.tmp 82) 68 rfl w.heap.size 9 ti _ 1 16 Try.underlying68 hi hz0 hz1 hz2 rfl (by decide) (.slice ao k co) k ((partsF id s n m' k).map Str) rfl (HS3.out.alloc _) ⟨w3.heap.size, 0, none⟩ 1 1 [_] rfl rfl (cells_new _ _ _) (by simp [Value.oneCell']) (by decide) q1 q2 (by rw [size_alloc]; have := HB3.out.size; clear p3 p6 p7 p8 h11; omega) (w3.heap.size + 1) (size_alloc _ _) ?_; intro g' off' cap' w4 hown hgrow hat)
      have HG := Lib.hid hgrow
      have HO := Lib.hid hown
      have HSP := Lib.hid (Below.only (Below.chainAlloc HB3.out _) (Only.of_grown HG.out) (fun x hm => (HS3.out.blk x (by simpa using hm)).1))
      clear hgrow hat hown p3 p6 p7 p8 p9 p10 p11 p12 HF
      go_wp2_with fail
      go_roundw
      case measure => simp [intOf]; omega
      case rel => exact ⟨k + 1, hlt, by go_num, Lib.hid (by rw [HP.out]; simpa using HO.out), HSP⟩
    · obtain rfl : k = m' := by omega
      have hlt' : ¬ (k : Int) < (k : Int) := by omega
      go_wp2_with fail
      go_ret2
      exact ⟨_, rfl, SlAt.of_seg HS.out, HB.out⟩
end Go.Proofs.Ytgfbhclkpephnaa
