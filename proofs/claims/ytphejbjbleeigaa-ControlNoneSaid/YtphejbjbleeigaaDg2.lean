/-
  Datagrams: what each kind asks of its fields, and just the fields that it has: contracts (chapter 10).
-/
import Derived.Test.YtphejbjbleeigaaDg1
import Derived.BigRegion
import Derived.Outline
import Derived.Deep.DrawnRows
namespace Go.Proofs.Ytphejbjbleeigaa
open Go.RowKit
set_option linter.unusedVariables false
set_option maxRecDepth 100000
set_option maxHeartbeats 1000000
attribute [local go_sem ↓] Go.wp_at_zero Go.wp_at_succ
structure Dg.len' (d : Dg) : Prop where
  h : d.have'.length ≤ 9223372036854775807
  b : d.body.length ≤ 9223372036854775807
theorem head_any (kind stream block index k n len credit : Int) (hv body : List UInt8) (w : World) : Calls Try.prog 133 #[.agg #[.int .i64 kind, .int .i64 stream, .int .u32 block, .int .i64 index, .int .i64 k, .int .i64 n, .int .i64 len, .int .i64 credit, Str hv, Str body]] w
    (RetB (.agg #[.int .i64 kind, .int .i64 stream, .int .u32 block, .int .i64 0, .int .i64 0, .int .i64 0, .int .i64 0, .int .i64 0, .string ⟨#[]⟩, .string ⟨#[]⟩]) w) := by
  go_enter Try.func133, Try.ntmps133
  go_wp2_with fail
  exact bodyPost_ret (v := .agg #[.int .i64 kind, .int .i64 stream, .int .u32 block, .int .i64 0, .int .i64 0, .int .i64 0, .int .i64 0, .int .i64 0, .string ⟨#[]⟩, .string ⟨#[]⟩]) (by simp [results, go_sem]) rfl ⟨rfl, Below.chainAlloc (Below.chainAlloc (Below.refl _ _) _) _⟩
theorem shE_1 {d : Dg} (h : d.k < 1 ∨ 32 < d.k ∨ d.n < d.k ∨ 255 < d.n ∨ d.index < 0 ∨ d.n ≤ d.index) : shE d = 2 := by unfold shE; rw [if_pos h]
theorem shE_2 {d : Dg} (h1 : ¬ (d.k < 1 ∨ 32 < d.k ∨ d.n < d.k ∨ 255 < d.n ∨ d.index < 0 ∨ d.n ≤ d.index)) (h : (decide (d.index < d.k) != (d.kind == 1)) = true ∨ d.len < 1 ∨ 32768 < d.len) : shE d = 2 := by unfold shE; rw [if_neg h1, if_pos h]
theorem shE_3 {d : Dg} (h1 : ¬ (d.k < 1 ∨ 32 < d.k ∨ d.n < d.k ∨ 255 < d.n ∨ d.index < 0 ∨ d.n ≤ d.index)) (h2 : ¬ ((decide (d.index < d.k) != (d.kind == 1)) = true ∨ d.len < 1 ∨ 32768 < d.len)) (h : (d.body.length : Int) ≠ (d.len - 1) / d.k + 1 ∨ 1024 < (d.body.length : Int)) : shE d = 3 := by
  unfold shE; rw [if_neg h1, if_neg h2, if_pos h]
theorem shE_4 {d : Dg} (h1 : ¬ (d.k < 1 ∨ 32 < d.k ∨ d.n < d.k ∨ 255 < d.n ∨ d.index < 0 ∨ d.n ≤ d.index)) (h2 : ¬ ((decide (d.index < d.k) != (d.kind == 1)) = true ∨ d.len < 1 ∨ 32768 < d.len)) (h : ¬ ((d.body.length : Int) ≠ (d.len - 1) / d.k + 1 ∨ 1024 < (d.body.length : Int))) : shE d = 0 := by
  unfold shE; rw [if_neg h1, if_neg h2, if_neg h]
theorem checkShard_any (kind stream block index k n len credit : Int) (hv body : List UInt8) (hb : body.length ≤ 9223372036854775807) (w : World) : Calls Try.prog 129 #[.agg #[.int .i64 kind, .int .i64 stream, .int .u32 block, .int .i64 index, .int .i64 k, .int .i64 n, .int .i64 len, .int .i64 credit, Str hv, Str body]] w
    (RetB (.int .i64 (shE ⟨kind, stream, block, index, k, n, len, credit, hv, body⟩)) w) := by
  have S1 := Lib.hid (shE_1 (d := ⟨kind, stream, block, index, k, n, len, credit, hv, body⟩))
  have S2 := Lib.hid (shE_2 (d := ⟨kind, stream, block, index, k, n, len, credit, hv, body⟩))
  have S3 := Lib.hid (shE_3 (d := ⟨kind, stream, block, index, k, n, len, credit, hv, body⟩))
  have S4 := Lib.hid (shE_4 (d := ⟨kind, stream, block, index, k, n, len, credit, hv, body⟩))
  simp only at S1 S2 S3 S4
  generalize shE ⟨kind, stream, block, index, k, n, len, credit, hv, body⟩ = z at *
  by_cases g1 : k < 1 ∨ 32 < k ∨ n < k ∨ 255 < n ∨ index < 0 ∨ n ≤ index
  · have HZ := Lib.hid (S1.out g1)
    clear S1 S2 S3 S4
    go_enter Try.func129, Try.ntmps129
    go_wp2_with fail
    all_goals first
      | (exfalso; omega)
      | (go_ret; exact ⟨ret_int HZ.out.symm, Below.chainAlloc (Below.refl _ _) _⟩)
  · have f1 : decide (k < 1) = false := by simp; omega
    have f2 : decide (32 < k) = false := by simp; omega
    have f3 : decide (n < k) = false := by simp; omega
    have f4 : decide (255 < n) = false := by simp; omega
    have f5 : decide (index < 0) = false := by simp; omega
    have f6 : decide (n ≤ index) = false := by simp; omega
    have k1 : 1 ≤ k := by omega
    have k2 : k ≤ 32 := by omega
    obtain ⟨p, d1⟩ : ∃ p, decide (index < k) = p := ⟨_, rfl⟩
    obtain ⟨q, d2⟩ : ∃ q, (kind == 1) = q := ⟨_, rfl⟩
    have S2' := Lib.hid (S2.out g1)
    have S3' := Lib.hid (S3.out g1)
    have S4' := Lib.hid (S4.out g1)
    clear S1 S2 S3 S4 g1
    rw [d1, d2] at S2' S3' S4'
    by_cases g2 : (p != q) = true ∨ len < 1 ∨ 32768 < len
    · have HZ := Lib.hid (S2'.out g2)
      clear S2' S3' S4'
      cases hb1 : (p != q) with
      | true =>
        clear g2
        cases p <;> cases q
        all_goals first
          | (exfalso; revert hb1; decide)
          | (go_enter Try.func129, Try.ntmps129
             go_wp2_with fail
             all_goals first
               | (exfalso; omega)
               | (go_ret; exact ⟨ret_int HZ.out.symm, Below.chainAlloc (Below.refl _ _) _⟩))
      | false =>
        have g3 : len < 1 ∨ 32768 < len := by rw [hb1] at g2; simpa using g2
        clear g2
        cases p <;> cases q
        all_goals first
          | (exfalso; revert hb1; decide)
          | (go_enter Try.func129, Try.ntmps129
             go_wp2_with fail
             all_goals first
               | (exfalso; omega)
               | (go_ret; exact ⟨ret_int HZ.out.symm, Below.chainAlloc (Below.refl _ _) _⟩))
    · have hb1 : (p != q) = false := by
        cases h : (p != q) with
        | false => rfl
        | true => exact absurd (.inl h) g2
      have l1 : 1 ≤ len := by omega
      have l2 : len ≤ 32768 := by omega
      have f7 : decide (len < 1) = false := by simp; omega
      have f8 : decide (32768 < len) = false := by simp; omega
      have q0 : 0 ≤ (len - 1) / k := Int.ediv_nonneg (by omega) (by omega)
      have q1 : (len - 1) / k ≤ 32768 := Int.le_trans (Int.ediv_le_self _ (by omega)) (by omega)
      have hw1 : IntKind.i64.wrap (len - 1) = len - 1 := by rw [IntWalk.i64_in _ (by omega)]
      have hq : (len - 1).tdiv k = (len - 1) / k := Int.tdiv_eq_ediv_of_nonneg (by omega)
      have hw2 : IntKind.i64.wrap ((len - 1) / k + 1) = (len - 1) / k + 1 := by rw [IntWalk.i64_in _ (by omega)]
      by_cases g3 : (body.length : Int) ≠ (len - 1) / k + 1 ∨ 1024 < (body.length : Int)
      · have HZ := Lib.hid (S3'.out g2 g3)
        clear S2' S3' S4' g2
        by_cases g4 : (body.length : Int) = (len - 1) / k + 1
        · have e1 : ((body.length : Int) != (len - 1) / k + 1) = false := by simpa using g4
          have e2 : decide (1024 < (body.length : Int)) = true := by simp; omega
          clear g3 g4
          generalize (len - 1) / k = qq at *
          cases p <;> cases q
          all_goals first
            | (exfalso; revert hb1; decide)
            | (go_enter Try.func129, Try.ntmps129
               go_wp2_with fail
               go_quiet (fail)
               go_wp2_with fail
               go_ret
               exact ⟨ret_int HZ.out.symm, below_drewN (Below.chainAlloc (Below.refl _ _) _) _⟩)
        · have e1 : ((body.length : Int) != (len - 1) / k + 1) = true := by simpa using g4
          clear g3 g4
          generalize (len - 1) / k = qq at *
          cases p <;> cases q
          all_goals first
            | (exfalso; revert hb1; decide)
            | (go_enter Try.func129, Try.ntmps129
               go_wp2_with fail
               go_quiet (fail)
               go_wp2_with fail
               go_ret
               exact ⟨ret_int HZ.out.symm, below_drewN (Below.chainAlloc (Below.refl _ _) _) _⟩)
      · have HZ := Lib.hid (S4'.out g2 g3)
        clear S2' S3' S4' g2
        have e1 : ((body.length : Int) != (len - 1) / k + 1) = false := by simp; omega
        have e2 : decide (1024 < (body.length : Int)) = false := by simp; omega
        clear g3
        generalize (len - 1) / k = qq at *
        cases p <;> cases q
        all_goals first
          | (exfalso; revert hb1; decide)
          | (go_enter Try.func129, Try.ntmps129
             go_wp2_with fail
             go_quiet (fail)
             go_wp2_with fail
             go_ret
             exact ⟨ret_int HZ.out.symm, below_drewN (Below.chainAlloc (Below.refl _ _) _) _⟩)
end Go.Proofs.Ytphejbjbleeigaa
