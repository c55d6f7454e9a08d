/-
  Datagrams: the document's answer: own fields, a shard's fields, whether one may be: contracts (chapter 10).
-/
import Derived.Test.YtphejbjbleeigaaDg7
import Derived.Deep.RegionWith
namespace Go.Proofs.Ytphejbjbleeigaa
open Go.RowKit
set_option linter.unusedVariables false
set_option maxRecDepth 100000
set_option maxHeartbeats 1000000
attribute [local go_sem ↓] Go.wp_at_zero Go.wp_at_succ
theorem div_up (len k : Int) (h1 : 1 ≤ len) (hk : 1 ≤ k) : (if 0 < len % k then len / k + 1 else len / k) = (len - 1) / k + 1 := by
  have e : len % k + k * (len / k) = len := by first | exact Int.emod_add_mul_ediv len k | exact Int.emod_add_ediv len k
  have h0 := Int.emod_nonneg len (show k ≠ 0 by omega)
  have h2 := Int.emod_lt_of_pos len (show 0 < k by omega)
  generalize len / k = q at *
  generalize len % k = r at *
  by_cases hr : 0 < r
  · rw [if_pos hr]
    have : (len - 1) / k = q := by
      rw [show len - 1 = (r - 1) + k * q from by omega, Int.add_mul_ediv_left _ _ (by omega), Int.ediv_eq_zero_of_lt (by omega) (by omega)]
      omega
    omega
  · rw [if_neg hr]
    have hr0 : r = 0 := by omega
    have : (len - 1) / k = q - 1 := by
      have hm : k * (q - 1) = k * q - k := by rw [Int.mul_sub, Int.mul_one]
      rw [show len - 1 = (k - 1) + k * (q - 1) by omega, Int.add_mul_ediv_left _ _ (by omega), Int.ediv_eq_zero_of_lt (by omega) (by omega)]
      omega
    omega
theorem rsize_ok (len k : Int) (h1 : 1 ≤ len) (h2 : len ≤ 32768) (hk : 1 ≤ k) (hk2 : k ≤ 32) (w : World) : Calls Try.prog 107 #[.int .i64 len, .int .i64 k] w fun e w' => e = .returned (.int .i64 ((len - 1) / k + 1)) ∧ w = w' := by
  have HZ := Lib.hid (div_up len k h1 hk)
  generalize (len - 1) / k + 1 = z at *
  have f1 : decide (len < 0) = false := by simp; omega
  have f2 : decide (k < 1) = false := by simp; omega
  have hq : len.tdiv k = len / k := Int.tdiv_eq_ediv_of_nonneg (by omega)
  have hr : len.tmod k = len % k := Int.tmod_eq_emod_of_nonneg (by omega)
  have q0 : 0 ≤ len / k := Int.ediv_nonneg (by omega) (by omega)
  have q1 : len / k ≤ 32768 := Int.le_trans (Int.ediv_le_self _ (by omega)) (by omega)
  have hk0 : ¬ k = 0 := by omega
  have hk1 : (k == 0) = false := by simpa using hk0
  have m0 := Int.emod_nonneg len (show k ≠ 0 by omega)
  generalize len / k = q at *
  generalize len % k = r at *
  have hw : IntKind.i64.wrap (q + 1) = q + 1 := by rw [IntWalk.i64_in _ (by omega)]
  by_cases hp : 0 < r
  · have HR := Lib.hid (show q + 1 = z by rw [← HZ.out, if_pos hp])
    clear HZ
    go_enter Try.func107, Try.ntmps107
    go_wp2_with fail
    go_ret
    exact ⟨ret_int HR.out, rfl⟩
  · have HR := Lib.hid (show q = z by rw [← HZ.out, if_neg hp])
    have hp' : decide (0 < r) = false := by simpa using hp
    clear HZ
    go_enter Try.func107, Try.ntmps107
    go_wp2_with fail
    go_ret
    exact ⟨ret_int HR.out, rfl⟩
theorem rown1 (stream block index k n len credit : Int) (hv body : List UInt8) (w : World) : Calls Try.prog 62 #[.agg #[.int .i64 1, .int .i64 stream, .int .u32 block, .int .i64 index, .int .i64 k, .int .i64 n, .int .i64 len, .int .i64 credit, Str hv, Str body]] w (RetB (.agg #[.int .i64 1, .int .i64 stream, .int .u32 block, .int .i64 index, .int .i64 k, .int .i64 n, .int .i64 len, .int .i64 0, .string ⟨#[]⟩, Str body]) w) := by
  go_enter Try.func62, Try.ntmps62
  go_wp2_with fail
  exact bodyPost_ret (v := .agg #[.int .i64 1, .int .i64 stream, .int .u32 block, .int .i64 index, .int .i64 k, .int .i64 n, .int .i64 len, .int .i64 0, .string ⟨#[]⟩, Str body]) (by simp [results, go_sem]) rfl ⟨rfl, Below.chainAlloc (Below.chainAlloc (Below.chainAlloc (Below.refl _ _) _) _) _⟩
theorem rown2 (stream block index k n len credit : Int) (hv body : List UInt8) (w : World) : Calls Try.prog 62 #[.agg #[.int .i64 2, .int .i64 stream, .int .u32 block, .int .i64 index, .int .i64 k, .int .i64 n, .int .i64 len, .int .i64 credit, Str hv, Str body]] w (RetB (.agg #[.int .i64 2, .int .i64 stream, .int .u32 block, .int .i64 index, .int .i64 k, .int .i64 n, .int .i64 len, .int .i64 0, .string ⟨#[]⟩, Str body]) w) := by
  go_enter Try.func62, Try.ntmps62
  go_wp2_with fail
  exact bodyPost_ret (v := .agg #[.int .i64 2, .int .i64 stream, .int .u32 block, .int .i64 index, .int .i64 k, .int .i64 n, .int .i64 len, .int .i64 0, .string ⟨#[]⟩, Str body]) (by simp [results, go_sem]) rfl ⟨rfl, Below.chainAlloc (Below.chainAlloc (Below.chainAlloc (Below.refl _ _) _) _) _⟩
theorem rown3 (stream block index k n len credit : Int) (hv body : List UInt8) (w : World) : Calls Try.prog 62 #[.agg #[.int .i64 3, .int .i64 stream, .int .u32 block, .int .i64 index, .int .i64 k, .int .i64 n, .int .i64 len, .int .i64 credit, Str hv, Str body]] w (RetB (.agg #[.int .i64 3, .int .i64 stream, .int .u32 block, .int .i64 0, .int .i64 0, .int .i64 0, .int .i64 0, .int .i64 0, Str hv, .string ⟨#[]⟩]) w) := by
  go_enter Try.func62, Try.ntmps62
  go_wp2_with fail
  exact bodyPost_ret (v := .agg #[.int .i64 3, .int .i64 stream, .int .u32 block, .int .i64 0, .int .i64 0, .int .i64 0, .int .i64 0, .int .i64 0, Str hv, .string ⟨#[]⟩]) (by simp [results, go_sem]) rfl ⟨rfl, Below.chainAlloc (Below.chainAlloc (Below.chainAlloc (Below.refl _ _) _) _) _⟩
theorem rown4 (stream block index k n len credit : Int) (hv body : List UInt8) (w : World) : Calls Try.prog 62 #[.agg #[.int .i64 4, .int .i64 stream, .int .u32 block, .int .i64 index, .int .i64 k, .int .i64 n, .int .i64 len, .int .i64 credit, Str hv, Str body]] w (RetB (.agg #[.int .i64 4, .int .i64 stream, .int .u32 block, .int .i64 0, .int .i64 0, .int .i64 0, .int .i64 0, .int .i64 credit, .string ⟨#[]⟩, .string ⟨#[]⟩]) w) := by
  go_enter Try.func62, Try.ntmps62
  go_wp2_with fail
  exact bodyPost_ret (v := .agg #[.int .i64 4, .int .i64 stream, .int .u32 block, .int .i64 0, .int .i64 0, .int .i64 0, .int .i64 0, .int .i64 credit, .string ⟨#[]⟩, .string ⟨#[]⟩]) (by simp [results, go_sem]) rfl ⟨rfl, Below.chainAlloc (Below.chainAlloc (Below.chainAlloc (Below.refl _ _) _) _) _⟩
theorem rownO (kind stream block index k n len credit : Int) (hv body : List UInt8) (h1 : kind ≠ 1) (h2 : kind ≠ 2) (h3 : kind ≠ 3) (h4 : kind ≠ 4) (w : World) : Calls Try.prog 62 #[.agg #[.int .i64 kind, .int .i64 stream, .int .u32 block, .int .i64 index, .int .i64 k, .int .i64 n, .int .i64 len, .int .i64 credit, Str hv, Str body]] w (RetB (.agg #[.int .i64 kind, .int .i64 stream, .int .u32 block, .int .i64 0, .int .i64 0, .int .i64 0, .int .i64 0, .int .i64 0, .string ⟨#[]⟩, .string ⟨#[]⟩]) w) := by
  have d1 : (kind == 1) = false := by simpa using h1
  have d2 : (kind == 2) = false := by simpa using h2
  have d3 : (kind == 3) = false := by simpa using h3
  have d4 : (kind == 4) = false := by simpa using h4
  clear h1 h2 h3 h4
  go_enter Try.func62, Try.ntmps62
  go_wp2_with fail
  exact bodyPost_ret (v := .agg #[.int .i64 kind, .int .i64 stream, .int .u32 block, .int .i64 0, .int .i64 0, .int .i64 0, .int .i64 0, .int .i64 0, .string ⟨#[]⟩, .string ⟨#[]⟩]) (by simp [results, go_sem]) rfl ⟨rfl, Below.chainAlloc (Below.chainAlloc (Below.chainAlloc (Below.refl _ _) _) _) _⟩
theorem rown_dg (kind stream block index k n len credit : Int) (hv body : List UInt8) (w : World) : Calls Try.prog 62 #[.agg #[.int .i64 kind, .int .i64 stream, .int .u32 block, .int .i64 index, .int .i64 k, .int .i64 n, .int .i64 len, .int .i64 credit, Str hv, Str body]] w (RetB (ownD ⟨kind, stream, block, index, k, n, len, credit, hv, body⟩).val w) := by
  unfold ownD
  by_cases c1 : kind = 1
  · subst c1; exact rown1 stream block index k n len credit hv body w
  · by_cases c2 : kind = 2
    · subst c2; exact rown2 stream block index k n len credit hv body w
    · simp only
      rw [if_neg (by omega)]
      by_cases c3 : kind = 3
      · subst c3; exact rown3 stream block index k n len credit hv body w
      · rw [if_neg c3]
        by_cases c4 : kind = 4
        · subst c4; exact rown4 stream block index k n len credit hv body w
        · rw [if_neg c4]
          exact rownO kind stream block index k n len credit hv body c1 c2 c3 c4 w
theorem rshard_any (kind stream block index k n len credit : Int) (hv body : List UInt8) (hb : body.length ≤ 9223372036854775807) (w : World) : Calls Try.prog 61 #[.agg #[.int .i64 kind, .int .i64 stream, .int .u32 block, .int .i64 index, .int .i64 k, .int .i64 n, .int .i64 len, .int .i64 credit, Str hv, Str body]] w
    (RetB (.int .i64 (shE ⟨kind, stream, block, index, k, n, len, credit, hv, body⟩)) w) := by
  have S1 := Lib.hid (shE_1 (d := ⟨kind, stream, block, index, k, n, len, credit, hv, body⟩))
  have S2 := Lib.hid (shE_2 (d := ⟨kind, stream, block, index, k, n, len, credit, hv, body⟩))
  have S3 := Lib.hid (shE_3 (d := ⟨kind, stream, block, index, k, n, len, credit, hv, body⟩))
  have S4 := Lib.hid (shE_4 (d := ⟨kind, stream, block, index, k, n, len, credit, hv, body⟩))
  simp only at S1 S2 S3 S4
  generalize shE ⟨kind, stream, block, index, k, n, len, credit, hv, body⟩ = z at *
  by_cases g1 : k < 1 ∨ 32 < k ∨ n < k ∨ 255 < n ∨ index < 0 ∨ n ≤ index
  · have HZ := Lib.hid (S1.out g1)
    clear S1 S2 S3 S4
    go_enter Try.func61, Try.ntmps61
    go_wp2_with fail
    all_goals first
      | (exfalso; omega)
      | (go_ret; exact ⟨ret_int HZ.out.symm, Below.chainAlloc (Below.refl _ _) _⟩)
  · have f1 : decide (k < 1) = false := by simp; omega
    have f2 : decide (32 < k) = false := by simp; omega
    have f3 : decide (n < k) = false := by simp; omega
    have f4 : decide (255 < n) = false := by simp; omega
    have f5 : decide (index < 0) = false := by simp; omega
    have f6 : decide (n ≤ index) = false := by simp; omega
    have k1 : 1 ≤ k := by omega
    have k2 : k ≤ 32 := by omega
    obtain ⟨p, d1⟩ : ∃ p, decide (index < k) = p := ⟨_, rfl⟩
    obtain ⟨q, d2⟩ : ∃ q, (kind == 1) = q := ⟨_, rfl⟩
    have S2' := Lib.hid (S2.out g1)
    have S3' := Lib.hid (S3.out g1)
    have S4' := Lib.hid (S4.out g1)
    clear S1 S2 S3 S4 g1
    rw [d1, d2] at S2' S3' S4'
    by_cases g2 : (p != q) = true ∨ len < 1 ∨ 32768 < len
    · have HZ := Lib.hid (S2'.out g2)
      clear S2' S3' S4'
      cases hb1 : (p != q) with
      | true =>
        clear g2
        cases p <;> cases q
        all_goals first
          | (exfalso; revert hb1; decide)
          | (go_enter Try.func61, Try.ntmps61
             go_wp2_with fail
             all_goals first
               | (exfalso; omega)
               | (go_ret; exact ⟨ret_int HZ.out.symm, Below.chainAlloc (Below.refl _ _) _⟩))
      | false =>
        have g3 : len < 1 ∨ 32768 < len := by rw [hb1] at g2; simpa using g2
        clear g2
        cases p <;> cases q
        all_goals first
          | (exfalso; revert hb1; decide)
          | (go_enter Try.func61, Try.ntmps61
             go_wp2_with fail
             all_goals first
               | (exfalso; omega)
               | (go_ret; exact ⟨ret_int HZ.out.symm, Below.chainAlloc (Below.refl _ _) _⟩))
    · have hb1 : (p != q) = false := by
        cases h : (p != q) with
        | false => rfl
        | true => exact absurd (.inl h) g2
      have l1 : 1 ≤ len := by omega
      have l2 : len ≤ 32768 := by omega
      have f7 : decide (len < 1) = false := by simp; omega
      have f8 : decide (32768 < len) = false := by simp; omega
      have q0 : 0 ≤ (len - 1) / k := Int.ediv_nonneg (by omega) (by omega)
      have q1 : (len - 1) / k ≤ 32768 := Int.le_trans (Int.ediv_le_self _ (by omega)) (by omega)
      have hw1 : IntKind.i64.wrap (len - 1) = len - 1 := by rw [IntWalk.i64_in _ (by omega)]
      have hq : (len - 1).tdiv k = (len - 1) / k := Int.tdiv_eq_ediv_of_nonneg (by omega)
      have hw2 : IntKind.i64.wrap ((len - 1) / k + 1) = (len - 1) / k + 1 := by rw [IntWalk.i64_in _ (by omega)]
      have HSZ := Lib.hid (fun w => (rsize_ok len k l1 l2 k1 k2 w).mono (R' := fun e w' => e = .returned (.int .i64 ((len - 1) / k + 1)) ∧ w' = w) (fun e w' h => ⟨h.1, h.2.symm⟩))
      by_cases g3 : (body.length : Int) ≠ (len - 1) / k + 1 ∨ 1024 < (body.length : Int)
      · have HZ := Lib.hid (S3'.out g2 g3)
        clear S2' S3' S4' g2
        by_cases g4 : (body.length : Int) = (len - 1) / k + 1
        · have e1 : ((body.length : Int) != (len - 1) / k + 1) = false := by simpa using g4
          have e2 : decide (1024 < (body.length : Int)) = true := by simp; omega
          clear g3 g4
          generalize (len - 1) / k = qq at *
          cases p <;> cases q
          all_goals first
            | (exfalso; revert hb1; decide)
            | (go_enter Try.func61, Try.ntmps61
               go_upto_region 5 with fail
               have kb := Blk.new w #[.int .i64 kind, .int .i64 stream, .int .u32 block, .int .i64 index, .int .i64 k, .int .i64 n, .int .i64 len, .int .i64 credit, Str hv, Str body] 24
               have hW := Below.chainAlloc (Below.refl w.heap.size w) (.cells #[.int .i64 kind, .int .i64 stream, .int .u32 block, .int .i64 index, .int .i64 k, .int .i64 n, .int .i64 len, .int .i64 credit, Str hv, Str body] 24)
               generalize w.alloc (.cells #[.int .i64 kind, .int .i64 stream, .int .u32 block, .int .i64 index, .int .i64 k, .int .i64 n, .int .i64 len, .int .i64 credit, Str hv, Str body] 24) = W at *
               have c4 : W.cell? ⟨w.heap.size, 4, none⟩ = some (.int .i64 k) := kb.facts.1 4
               have c6 : W.cell? ⟨w.heap.size, 6, none⟩ = some (.int .i64 len) := kb.facts.1 6
               have c9 : W.cell? ⟨w.heap.size, 9, none⟩ = some (.string ⟨body.toArray⟩) := kb.facts.1 9
               clear kb
               go_quiet ((go_at_call 107; refine Calls.quiet_of_same (HSZ.out _)))
               go_wp2_with fail
               go_ret
               exact ⟨ret_int HZ.out.symm, below_drewN hW _⟩)
        · have e1 : ((body.length : Int) != (len - 1) / k + 1) = true := by simpa using g4
          have e3 : ((body.length : Int) == (len - 1) / k + 1) = false := by simpa using g4
          have e4 : decide ((body.length : Int) = (len - 1) / k + 1) = false := by simpa using g4
          clear g3 g4
          generalize (len - 1) / k = qq at *
          cases p <;> cases q
          all_goals first
            | (exfalso; revert hb1; decide)
            | (go_enter Try.func61, Try.ntmps61
               go_upto_region 5 with fail
               have kb := Blk.new w #[.int .i64 kind, .int .i64 stream, .int .u32 block, .int .i64 index, .int .i64 k, .int .i64 n, .int .i64 len, .int .i64 credit, Str hv, Str body] 24
               have hW := Below.chainAlloc (Below.refl w.heap.size w) (.cells #[.int .i64 kind, .int .i64 stream, .int .u32 block, .int .i64 index, .int .i64 k, .int .i64 n, .int .i64 len, .int .i64 credit, Str hv, Str body] 24)
               generalize w.alloc (.cells #[.int .i64 kind, .int .i64 stream, .int .u32 block, .int .i64 index, .int .i64 k, .int .i64 n, .int .i64 len, .int .i64 credit, Str hv, Str body] 24) = W at *
               have c4 : W.cell? ⟨w.heap.size, 4, none⟩ = some (.int .i64 k) := kb.facts.1 4
               have c6 : W.cell? ⟨w.heap.size, 6, none⟩ = some (.int .i64 len) := kb.facts.1 6
               have c9 : W.cell? ⟨w.heap.size, 9, none⟩ = some (.string ⟨body.toArray⟩) := kb.facts.1 9
               clear kb
               go_quiet ((go_at_call 107; refine Calls.quiet_of_same (HSZ.out _)))
               go_wp2_with fail
               go_ret
               exact ⟨ret_int HZ.out.symm, below_drewN hW _⟩)
      · have HZ := Lib.hid (S4'.out g2 g3)
        clear S2' S3' S4' g2
        have e1 : ((body.length : Int) != (len - 1) / k + 1) = false := by simp; omega
        have e2 : decide (1024 < (body.length : Int)) = false := by simp; omega
        clear g3
        generalize (len - 1) / k = qq at *
        cases p <;> cases q
        all_goals first
          | (exfalso; revert hb1; decide)
          | (go_enter Try.func61, Try.ntmps61
             go_upto_region 5 with fail
             have kb := Blk.new w #[.int .i64 kind, .int .i64 stream, .int .u32 block, .int .i64 index, .int .i64 k, .int .i64 n, .int .i64 len, .int .i64 credit, Str hv, Str body] 24
             have hW := Below.chainAlloc (Below.refl w.heap.size w) (.cells #[.int .i64 kind, .int .i64 stream, .int .u32 block, .int .i64 index, .int .i64 k, .int .i64 n, .int .i64 len, .int .i64 credit, Str hv, Str body] 24)
             generalize w.alloc (.cells #[.int .i64 kind, .int .i64 stream, .int .u32 block, .int .i64 index, .int .i64 k, .int .i64 n, .int .i64 len, .int .i64 credit, Str hv, Str body] 24) = W at *
             have c4 : W.cell? ⟨w.heap.size, 4, none⟩ = some (.int .i64 k) := kb.facts.1 4
             have c6 : W.cell? ⟨w.heap.size, 6, none⟩ = some (.int .i64 len) := kb.facts.1 6
             have c9 : W.cell? ⟨w.heap.size, 9, none⟩ = some (.string ⟨body.toArray⟩) := kb.facts.1 9
             clear kb
             go_quiet ((go_at_call 107; refine Calls.quiet_of_same (HSZ.out _)))
             go_wp2_with fail
             go_ret
             exact ⟨ret_int HZ.out.symm, below_drewN hW _⟩)
end Go.Proofs.Ytphejbjbleeigaa
