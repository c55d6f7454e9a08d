/-
  Datagrams: the document's answer: whether one may be: contract (chapter 10).
-/
import Derived.Test.YtphejbjbleeigaaRg2
import Derived.Deep.RegionWith
namespace Go.Proofs.Ytphejbjbleeigaa
open Go.RowKit
set_option linter.unusedVariables false
set_option maxRecDepth 100000
set_option maxHeartbeats 1000000
attribute [local go_sem ↓] Go.wp_at_zero Go.wp_at_succ
theorem rchk4 (stream block index k n len credit : Int) (hv body : List UInt8) (hh : hv.length ≤ 9223372036854775807) (hb0 : body.length ≤ 9223372036854775807) (w : World) :
    Calls Try.prog 20 #[.agg #[.int .i64 4, .int .i64 stream, .int .u32 block, .int .i64 index, .int .i64 k, .int .i64 n, .int .i64 len, .int .i64 credit, Str hv, Str body]] w (RetB (.int .i64 (dgE ⟨4, stream, block, index, k, n, len, credit, hv, body⟩)) w) := by
  have hz : dgE ⟨4, stream, block, index, k, n, len, credit, hv, body⟩ = (if stream < 0 ∨ 255 < stream then 2 else if kdE ⟨4, stream, block, index, k, n, len, credit, hv, body⟩ ≠ 0 then kdE ⟨4, stream, block, index, k, n, len, credit, hv, body⟩ else if ownD ⟨4, stream, block, index, k, n, len, credit, hv, body⟩ ≠ ⟨4, stream, block, index, k, n, len, credit, hv, body⟩ then 5 else 0) := dgE_k (show (1 : Int) ≤ 4 ∧ (4 : Int) ≤ 6 by decide)
  have hke : kdE ⟨4, stream, block, index, k, n, len, credit, hv, body⟩ = (if credit < 0 ∨ 65535 < credit then (2 : Int) else 0) := by unfold kdE; rw [if_neg (show ¬ ((4 : Int) = 1 ∨ (4 : Int) = 2) by decide), if_neg (show ¬ (4 : Int) = 3 by decide), if_pos rfl]
  rw [hke] at hz
  have HOW := Lib.hid (rown_dg 4 stream block index k n len credit hv body)
  obtain ⟨o, ho⟩ : ∃ o, ownD ⟨4, stream, block, index, k, n, len, credit, hv, body⟩ = o := ⟨_, rfl⟩
  obtain ⟨V, hV⟩ : ∃ V, o.val = V := ⟨_, rfl⟩
  rw [ho] at hz HOW
  rw [hV] at HOW
  have hn := run_neq_dg o ⟨4, stream, block, index, k, n, len, credit, hv, body⟩
  have hg := guard_dg o ⟨4, stream, block, index, k, n, len, credit, hv, body⟩
  rw [hV] at hn hg
  have HN := Lib.hid hn
  have HG := Lib.hid hg
  generalize dgE ⟨4, stream, block, index, k, n, len, credit, hv, body⟩ = z at *
  have HZ := Lib.hid hz
  clear hn hg hV ho hz hke
  by_cases hs : stream < 0 ∨ 255 < stream
  · have HR := Lib.hid (show (2 : Int) = z by rw [HZ.out, if_pos hs])
    clear HZ
    go_enter Try.func20, Try.ntmps20
    go_wp2_with fail
    all_goals first
      | (exfalso; omega)
      | (go_ret; exact ⟨ret_int HR.out, Below.chainAlloc (Below.refl _ _) _⟩)
  · have HZ2 := Lib.hid (show (if (if credit < 0 ∨ 65535 < credit then (2 : Int) else 0) ≠ 0 then (if credit < 0 ∨ 65535 < credit then (2 : Int) else 0) else if o ≠ ⟨4, stream, block, index, k, n, len, credit, hv, body⟩ then 5 else 0 : Int) = z by rw [HZ.out, if_neg hs])
    have s1 : decide (stream < 0) = false := by simp; omega
    have s2 : decide (255 < stream) = false := by simp; omega
    clear HZ hs
    by_cases h0 : ¬ (credit < 0 ∨ 65535 < credit)
    · rw [if_neg h0] at HZ2
      have HZ3 : Hid ((if o ≠ ⟨4, stream, block, index, k, n, len, credit, hv, body⟩ then 5 else 0 : Int) = z) := Lib.hid (by rw [← HZ2.out]; exact (if_neg (fun h => h rfl)).symm)
      have e : decide (credit < 0) = false := by simp; omega
      have e2 : decide (65535 < credit) = false := by simp; omega
      clear HZ2 h0
      go_enter Try.func20, Try.ntmps20
      have k1 := Blk.new w #[.int .i64 4, .int .i64 stream, .int .u32 block, .int .i64 index, .int .i64 k, .int .i64 n, .int .i64 len, .int .i64 credit, Str hv, Str body] 24
      have hB := Below.chainAlloc (Below.refl w.heap.size w) (.cells #[.int .i64 4, .int .i64 stream, .int .u32 block, .int .i64 index, .int .i64 k, .int .i64 n, .int .i64 len, .int .i64 credit, Str hv, Str body] 24)
      go_upto_region 12 with fail
      generalize hW1 : w.alloc (.cells #[.int .i64 4, .int .i64 stream, .int .u32 block, .int .i64 index, .int .i64 k, .int .i64 n, .int .i64 len, .int .i64 credit, Str hv, Str body] 24) = W1 at *
      clear hW1
      generalize hq : w.heap.size = B0 at *
      have HQ := Lib.hid hq
      clear hq
      have hmk : ∀ w', Below W1.heap.size W1 w' → ((∀ o, w'.cell? ⟨B0, o, none⟩ = #[.int .i64 4, .int .i64 stream, .int .u32 block, .int .i64 index, .int .i64 k, .int .i64 n, .int .i64 len, .int .i64 credit, Str hv, Str body][o]?) ∧ Below W1.heap.size W1 w') := fun w' h => ⟨fun o => (h.cell (p := ⟨B0, o, none⟩) k1.lt).trans (k1.facts.1 o), h⟩
      have HMK := Lib.hid hmk
      have HW := Lib.hid hB
      clear hmk k1 hB
      obtain ⟨bb, hbb⟩ : ∃ bb, (!decide (o = ⟨4, stream, block, index, k, n, len, credit, hv, body⟩)) = bb := ⟨_, rfl⟩
      have hn := HN.out
      have hg := HG.out
      rw [hbb] at hn
      have HBB := Lib.hid hbb
      clear hbb HN HG
      go_region_held3 (fun w' => (∀ o, w'.cell? ⟨B0, o, none⟩ = #[.int .i64 4, .int .i64 stream, .int .u32 block, .int .i64 index, .int .i64 k, .int .i64 n, .int .i64 len, .int .i64 credit, Str hv, Str body][o]?) ∧ Below W1.heap.size W1 w')
        (first
          | exact HMK.out _ (Below.refl _ _).drew
          | exact HMK.out _ (Below.refl _ _)
          | (go_split_ands; exact HMK.out _ (Below.chain hb (by assumption))))
        ((go_at_call 62; refine (HOW.out _).mono ?_; rintro x w3 ⟨rfl, hb⟩))
      rename_i hHeld
      have hw := HW.out
      rw [← HQ.out] at hw
      have hW := Below.chain hHeld.2 hw
      clear hw hb hn hg
      cases bb with
      | true =>
        have HR := Lib.hid (show (5 : Int) = z by rw [← HZ3.out]; exact (if_pos (by simpa using HBB.out)).symm)
        go_wp2_with fail
        go_ret
        exact ⟨ret_int HR.out, hW⟩
      | false =>
        have HR := Lib.hid (show (0 : Int) = z by rw [← HZ3.out]; exact (if_neg (by simpa using HBB.out)).symm)
        go_wp2_with fail
        go_ret
        exact ⟨ret_int HR.out, hW⟩
    · rw [if_pos (show credit < 0 ∨ 65535 < credit by omega)] at HZ2
      have HR := Lib.hid (show (2 : Int) = z by rw [← HZ2.out]; exact (if_pos (by decide)).symm)
      clear HZ2
      go_enter Try.func20, Try.ntmps20
      go_wp2_with fail
      all_goals first
        | (exfalso; omega)
        | (go_ret; exact ⟨ret_int HR.out, Below.chainAlloc (Below.refl _ _) _⟩)
theorem rchk5 (stream block index k n len credit : Int) (hv body : List UInt8) (hh : hv.length ≤ 9223372036854775807) (hb0 : body.length ≤ 9223372036854775807) (w : World) :
    Calls Try.prog 20 #[.agg #[.int .i64 5, .int .i64 stream, .int .u32 block, .int .i64 index, .int .i64 k, .int .i64 n, .int .i64 len, .int .i64 credit, Str hv, Str body]] w (RetB (.int .i64 (dgE ⟨5, stream, block, index, k, n, len, credit, hv, body⟩)) w) := by
  have hz : dgE ⟨5, stream, block, index, k, n, len, credit, hv, body⟩ = (if stream < 0 ∨ 255 < stream then 2 else if kdE ⟨5, stream, block, index, k, n, len, credit, hv, body⟩ ≠ 0 then kdE ⟨5, stream, block, index, k, n, len, credit, hv, body⟩ else if ownD ⟨5, stream, block, index, k, n, len, credit, hv, body⟩ ≠ ⟨5, stream, block, index, k, n, len, credit, hv, body⟩ then 5 else 0) := dgE_k (show (1 : Int) ≤ 5 ∧ (5 : Int) ≤ 6 by decide)
  have hke : kdE ⟨5, stream, block, index, k, n, len, credit, hv, body⟩ = (0 : Int) := by unfold kdE; rw [if_neg (show ¬ ((5 : Int) = 1 ∨ (5 : Int) = 2) by decide), if_neg (show ¬ (5 : Int) = 3 by decide), if_neg (show ¬ (5 : Int) = 4 by decide)]
  rw [hke] at hz
  have HOW := Lib.hid (rown_dg 5 stream block index k n len credit hv body)
  obtain ⟨o, ho⟩ : ∃ o, ownD ⟨5, stream, block, index, k, n, len, credit, hv, body⟩ = o := ⟨_, rfl⟩
  obtain ⟨V, hV⟩ : ∃ V, o.val = V := ⟨_, rfl⟩
  rw [ho] at hz HOW
  rw [hV] at HOW
  have hn := run_neq_dg o ⟨5, stream, block, index, k, n, len, credit, hv, body⟩
  have hg := guard_dg o ⟨5, stream, block, index, k, n, len, credit, hv, body⟩
  rw [hV] at hn hg
  have HN := Lib.hid hn
  have HG := Lib.hid hg
  generalize dgE ⟨5, stream, block, index, k, n, len, credit, hv, body⟩ = z at *
  have HZ := Lib.hid hz
  clear hn hg hV ho hz hke
  by_cases hs : stream < 0 ∨ 255 < stream
  · have HR := Lib.hid (show (2 : Int) = z by rw [HZ.out, if_pos hs])
    clear HZ
    go_enter Try.func20, Try.ntmps20
    go_wp2_with fail
    all_goals first
      | (exfalso; omega)
      | (go_ret; exact ⟨ret_int HR.out, Below.chainAlloc (Below.refl _ _) _⟩)
  · have HZ2 := Lib.hid (show (if (0 : Int) ≠ 0 then (0 : Int) else if o ≠ ⟨5, stream, block, index, k, n, len, credit, hv, body⟩ then 5 else 0 : Int) = z by rw [HZ.out, if_neg hs])
    have s1 : decide (stream < 0) = false := by simp; omega
    have s2 : decide (255 < stream) = false := by simp; omega
    clear HZ hs
    have HZ3 : Hid ((if o ≠ ⟨5, stream, block, index, k, n, len, credit, hv, body⟩ then 5 else 0 : Int) = z) := Lib.hid (by rw [← HZ2.out]; exact (if_neg (fun h => h rfl)).symm)
    clear HZ2
    go_enter Try.func20, Try.ntmps20
    have k1 := Blk.new w #[.int .i64 5, .int .i64 stream, .int .u32 block, .int .i64 index, .int .i64 k, .int .i64 n, .int .i64 len, .int .i64 credit, Str hv, Str body] 24
    have hB := Below.chainAlloc (Below.refl w.heap.size w) (.cells #[.int .i64 5, .int .i64 stream, .int .u32 block, .int .i64 index, .int .i64 k, .int .i64 n, .int .i64 len, .int .i64 credit, Str hv, Str body] 24)
    go_upto_region 12 with fail
    generalize hW1 : w.alloc (.cells #[.int .i64 5, .int .i64 stream, .int .u32 block, .int .i64 index, .int .i64 k, .int .i64 n, .int .i64 len, .int .i64 credit, Str hv, Str body] 24) = W1 at *
    clear hW1
    generalize hq : w.heap.size = B0 at *
    have HQ := Lib.hid hq
    clear hq
    have hmk : ∀ w', Below W1.heap.size W1 w' → ((∀ o, w'.cell? ⟨B0, o, none⟩ = #[.int .i64 5, .int .i64 stream, .int .u32 block, .int .i64 index, .int .i64 k, .int .i64 n, .int .i64 len, .int .i64 credit, Str hv, Str body][o]?) ∧ Below W1.heap.size W1 w') := fun w' h => ⟨fun o => (h.cell (p := ⟨B0, o, none⟩) k1.lt).trans (k1.facts.1 o), h⟩
    have HMK := Lib.hid hmk
    have HW := Lib.hid hB
    clear hmk k1 hB
    obtain ⟨bb, hbb⟩ : ∃ bb, (!decide (o = ⟨5, stream, block, index, k, n, len, credit, hv, body⟩)) = bb := ⟨_, rfl⟩
    have hn := HN.out
    have hg := HG.out
    rw [hbb] at hn
    have HBB := Lib.hid hbb
    clear hbb HN HG
    go_region_held3 (fun w' => (∀ o, w'.cell? ⟨B0, o, none⟩ = #[.int .i64 5, .int .i64 stream, .int .u32 block, .int .i64 index, .int .i64 k, .int .i64 n, .int .i64 len, .int .i64 credit, Str hv, Str body][o]?) ∧ Below W1.heap.size W1 w')
      (first
        | exact HMK.out _ (Below.refl _ _).drew
        | exact HMK.out _ (Below.refl _ _)
        | (go_split_ands; exact HMK.out _ (Below.chain hb (by assumption))))
      ((go_at_call 62; refine (HOW.out _).mono ?_; rintro x w3 ⟨rfl, hb⟩))
    rename_i hHeld
    have hw := HW.out
    rw [← HQ.out] at hw
    have hW := Below.chain hHeld.2 hw
    clear hw hb hn hg
    cases bb with
    | true =>
      have HR := Lib.hid (show (5 : Int) = z by rw [← HZ3.out]; exact (if_pos (by simpa using HBB.out)).symm)
      go_wp2_with fail
      go_ret
      exact ⟨ret_int HR.out, hW⟩
    | false =>
      have HR := Lib.hid (show (0 : Int) = z by rw [← HZ3.out]; exact (if_neg (by simpa using HBB.out)).symm)
      go_wp2_with fail
      go_ret
      exact ⟨ret_int HR.out, hW⟩
theorem rchk6 (stream block index k n len credit : Int) (hv body : List UInt8) (hh : hv.length ≤ 9223372036854775807) (hb0 : body.length ≤ 9223372036854775807) (w : World) :
    Calls Try.prog 20 #[.agg #[.int .i64 6, .int .i64 stream, .int .u32 block, .int .i64 index, .int .i64 k, .int .i64 n, .int .i64 len, .int .i64 credit, Str hv, Str body]] w (RetB (.int .i64 (dgE ⟨6, stream, block, index, k, n, len, credit, hv, body⟩)) w) := by
  have hz : dgE ⟨6, stream, block, index, k, n, len, credit, hv, body⟩ = (if stream < 0 ∨ 255 < stream then 2 else if kdE ⟨6, stream, block, index, k, n, len, credit, hv, body⟩ ≠ 0 then kdE ⟨6, stream, block, index, k, n, len, credit, hv, body⟩ else if ownD ⟨6, stream, block, index, k, n, len, credit, hv, body⟩ ≠ ⟨6, stream, block, index, k, n, len, credit, hv, body⟩ then 5 else 0) := dgE_k (show (1 : Int) ≤ 6 ∧ (6 : Int) ≤ 6 by decide)
  have hke : kdE ⟨6, stream, block, index, k, n, len, credit, hv, body⟩ = (0 : Int) := by unfold kdE; rw [if_neg (show ¬ ((6 : Int) = 1 ∨ (6 : Int) = 2) by decide), if_neg (show ¬ (6 : Int) = 3 by decide), if_neg (show ¬ (6 : Int) = 4 by decide)]
  rw [hke] at hz
  have HOW := Lib.hid (rown_dg 6 stream block index k n len credit hv body)
  obtain ⟨o, ho⟩ : ∃ o, ownD ⟨6, stream, block, index, k, n, len, credit, hv, body⟩ = o := ⟨_, rfl⟩
  obtain ⟨V, hV⟩ : ∃ V, o.val = V := ⟨_, rfl⟩
  rw [ho] at hz HOW
  rw [hV] at HOW
  have hn := run_neq_dg o ⟨6, stream, block, index, k, n, len, credit, hv, body⟩
  have hg := guard_dg o ⟨6, stream, block, index, k, n, len, credit, hv, body⟩
  rw [hV] at hn hg
  have HN := Lib.hid hn
  have HG := Lib.hid hg
  generalize dgE ⟨6, stream, block, index, k, n, len, credit, hv, body⟩ = z at *
  have HZ := Lib.hid hz
  clear hn hg hV ho hz hke
  by_cases hs : stream < 0 ∨ 255 < stream
  · have HR := Lib.hid (show (2 : Int) = z by rw [HZ.out, if_pos hs])
    clear HZ
    go_enter Try.func20, Try.ntmps20
    go_wp2_with fail
    all_goals first
      | (exfalso; omega)
      | (go_ret; exact ⟨ret_int HR.out, Below.chainAlloc (Below.refl _ _) _⟩)
  · have HZ2 := Lib.hid (show (if (0 : Int) ≠ 0 then (0 : Int) else if o ≠ ⟨6, stream, block, index, k, n, len, credit, hv, body⟩ then 5 else 0 : Int) = z by rw [HZ.out, if_neg hs])
    have s1 : decide (stream < 0) = false := by simp; omega
    have s2 : decide (255 < stream) = false := by simp; omega
    clear HZ hs
    have HZ3 : Hid ((if o ≠ ⟨6, stream, block, index, k, n, len, credit, hv, body⟩ then 5 else 0 : Int) = z) := Lib.hid (by rw [← HZ2.out]; exact (if_neg (fun h => h rfl)).symm)
    clear HZ2
    go_enter Try.func20, Try.ntmps20
    have k1 := Blk.new w #[.int .i64 6, .int .i64 stream, .int .u32 block, .int .i64 index, .int .i64 k, .int .i64 n, .int .i64 len, .int .i64 credit, Str hv, Str body] 24
    have hB := Below.chainAlloc (Below.refl w.heap.size w) (.cells #[.int .i64 6, .int .i64 stream, .int .u32 block, .int .i64 index, .int .i64 k, .int .i64 n, .int .i64 len, .int .i64 credit, Str hv, Str body] 24)
    go_upto_region 12 with fail
    generalize hW1 : w.alloc (.cells #[.int .i64 6, .int .i64 stream, .int .u32 block, .int .i64 index, .int .i64 k, .int .i64 n, .int .i64 len, .int .i64 credit, Str hv, Str body] 24) = W1 at *
    clear hW1
    generalize hq : w.heap.size = B0 at *
    have HQ := Lib.hid hq
    clear hq
    have hmk : ∀ w', Below W1.heap.size W1 w' → ((∀ o, w'.cell? ⟨B0, o, none⟩ = #[.int .i64 6, .int .i64 stream, .int .u32 block, .int .i64 index, .int .i64 k, .int .i64 n, .int .i64 len, .int .i64 credit, Str hv, Str body][o]?) ∧ Below W1.heap.size W1 w') := fun w' h => ⟨fun o => (h.cell (p := ⟨B0, o, none⟩) k1.lt).trans (k1.facts.1 o), h⟩
    have HMK := Lib.hid hmk
    have HW := Lib.hid hB
    clear hmk k1 hB
    obtain ⟨bb, hbb⟩ : ∃ bb, (!decide (o = ⟨6, stream, block, index, k, n, len, credit, hv, body⟩)) = bb := ⟨_, rfl⟩
    have hn := HN.out
    have hg := HG.out
    rw [hbb] at hn
    have HBB := Lib.hid hbb
    clear hbb HN HG
    go_region_held3 (fun w' => (∀ o, w'.cell? ⟨B0, o, none⟩ = #[.int .i64 6, .int .i64 stream, .int .u32 block, .int .i64 index, .int .i64 k, .int .i64 n, .int .i64 len, .int .i64 credit, Str hv, Str body][o]?) ∧ Below W1.heap.size W1 w')
      (first
        | exact HMK.out _ (Below.refl _ _).drew
        | exact HMK.out _ (Below.refl _ _)
        | (go_split_ands; exact HMK.out _ (Below.chain hb (by assumption))))
      ((go_at_call 62; refine (HOW.out _).mono ?_; rintro x w3 ⟨rfl, hb⟩))
    rename_i hHeld
    have hw := HW.out
    rw [← HQ.out] at hw
    have hW := Below.chain hHeld.2 hw
    clear hw hb hn hg
    cases bb with
    | true =>
      have HR := Lib.hid (show (5 : Int) = z by rw [← HZ3.out]; exact (if_pos (by simpa using HBB.out)).symm)
      go_wp2_with fail
      go_ret
      exact ⟨ret_int HR.out, hW⟩
    | false =>
      have HR := Lib.hid (show (0 : Int) = z by rw [← HZ3.out]; exact (if_neg (by simpa using HBB.out)).symm)
      go_wp2_with fail
      go_ret
      exact ⟨ret_int HR.out, hW⟩
theorem rchkO (kind stream block index k n len credit : Int) (hv body : List UInt8) (h : kind < 1 ∨ 6 < kind) (w : World) :
    Calls Try.prog 20 #[.agg #[.int .i64 kind, .int .i64 stream, .int .u32 block, .int .i64 index, .int .i64 k, .int .i64 n, .int .i64 len, .int .i64 credit, Str hv, Str body]] w (RetB (.int .i64 1) w) := by
  go_enter Try.func20, Try.ntmps20
  go_wp2_with fail
  all_goals first
    | (exfalso; omega)
    | (go_ret; exact ⟨rfl, Below.chainAlloc (Below.refl _ _) _⟩)
theorem rchk_dg (d : Dg) (hh : d.have'.length ≤ 9223372036854775807) (hb : d.body.length ≤ 9223372036854775807) (w : World) : Calls Try.prog 20 #[d.val] w (RetB (.int .i64 (dgE d)) w) := by
  obtain ⟨kind, stream, block, index, k, n, len, credit, hv, body⟩ := d
  by_cases h : kind < 1 ∨ 6 < kind
  · have e : dgE ⟨kind, stream, block, index, k, n, len, credit, hv, body⟩ = 1 := by unfold dgE; rw [if_pos (by exact h)]
    rw [e]
    exact rchkO kind stream block index k n len credit hv body h w
  · obtain rfl | rfl | rfl | rfl | rfl | rfl : kind = 1 ∨ kind = 2 ∨ kind = 3 ∨ kind = 4 ∨ kind = 5 ∨ kind = 6 := by omega
    · exact rchk1 stream block index k n len credit hv body hh hb w
    · exact rchk2 stream block index k n len credit hv body hh hb w
    · exact rchk3 stream block index k n len credit hv body hh hb w
    · exact rchk4 stream block index k n len credit hv body hh hb w
    · exact rchk5 stream block index k n len credit hv body hh hb w
    · exact rchk6 stream block index k n len credit hv body hh hb w
end Go.Proofs.Ytphejbjbleeigaa
