/-
  Datagrams: the document's answer: whether one may be: contract (chapter 10).
-/
import Derived.Test.YtphejbjbleeigaaRg1
import Derived.Deep.RegionWith
namespace Go.Proofs.Ytphejbjbleeigaa
open Go.RowKit
set_option linter.unusedVariables false
set_option maxRecDepth 100000
set_option maxHeartbeats 1000000
attribute [local go_sem ↓] Go.wp_at_zero Go.wp_at_succ
theorem rchk1 (stream block index k n len credit : Int) (hv body : List UInt8) (hh : hv.length ≤ 9223372036854775807) (hb0 : body.length ≤ 9223372036854775807) (w : World) :
    Calls Try.prog 20 #[.agg #[.int .i64 1, .int .i64 stream, .int .u32 block, .int .i64 index, .int .i64 k, .int .i64 n, .int .i64 len, .int .i64 credit, Str hv, Str body]] w (RetB (.int .i64 (dgE ⟨1, stream, block, index, k, n, len, credit, hv, body⟩)) w) := by
  have hz : dgE ⟨1, stream, block, index, k, n, len, credit, hv, body⟩ = (if stream < 0 ∨ 255 < stream then 2 else if kdE ⟨1, stream, block, index, k, n, len, credit, hv, body⟩ ≠ 0 then kdE ⟨1, stream, block, index, k, n, len, credit, hv, body⟩ else if ownD ⟨1, stream, block, index, k, n, len, credit, hv, body⟩ ≠ ⟨1, stream, block, index, k, n, len, credit, hv, body⟩ then 5 else 0) := dgE_k (show (1 : Int) ≤ 1 ∧ (1 : Int) ≤ 6 by decide)
  have hke : kdE ⟨1, stream, block, index, k, n, len, credit, hv, body⟩ = shE ⟨1, stream, block, index, k, n, len, credit, hv, body⟩ := by unfold kdE; rw [if_pos (show (1 : Int) = 1 ∨ (1 : Int) = 2 by decide)]
  rw [hke] at hz
  have HOW := Lib.hid (rown_dg 1 stream block index k n len credit hv body)
  obtain ⟨o, ho⟩ : ∃ o, ownD ⟨1, stream, block, index, k, n, len, credit, hv, body⟩ = o := ⟨_, rfl⟩
  obtain ⟨V, hV⟩ : ∃ V, o.val = V := ⟨_, rfl⟩
  rw [ho] at hz HOW
  rw [hV] at HOW
  have hn := run_neq_dg o ⟨1, stream, block, index, k, n, len, credit, hv, body⟩
  have hg := guard_dg o ⟨1, stream, block, index, k, n, len, credit, hv, body⟩
  rw [hV] at hn hg
  have HN := Lib.hid hn
  have HG := Lib.hid hg
  generalize dgE ⟨1, stream, block, index, k, n, len, credit, hv, body⟩ = z at *
  have HZ := Lib.hid hz
  clear hn hg hV ho hz hke
  by_cases hs : stream < 0 ∨ 255 < stream
  · have HR := Lib.hid (show (2 : Int) = z by rw [HZ.out, if_pos hs])
    clear HZ
    go_enter Try.func20, Try.ntmps20
    go_wp2_with fail
    all_goals first
      | (exfalso; omega)
      | (go_ret; exact ⟨ret_int HR.out, Below.chainAlloc (Below.refl _ _) _⟩)
  · have HZ2 := Lib.hid (show (if shE ⟨1, stream, block, index, k, n, len, credit, hv, body⟩ ≠ 0 then shE ⟨1, stream, block, index, k, n, len, credit, hv, body⟩ else if o ≠ ⟨1, stream, block, index, k, n, len, credit, hv, body⟩ then 5 else 0 : Int) = z by rw [HZ.out, if_neg hs])
    have s1 : decide (stream < 0) = false := by simp; omega
    have s2 : decide (255 < stream) = false := by simp; omega
    clear HZ hs
    have HSh := Lib.hid (rshard_any 1 stream block index k n len credit hv body hb0)
    generalize shE ⟨1, stream, block, index, k, n, len, credit, hv, body⟩ = E at *
    go_enter Try.func20, Try.ntmps20
    go_wp2_with fail
    refine (HSh.out _).mono ?_
    rintro e W1 ⟨rfl, hb⟩
    have k1 := (Blk.new w #[.int .i64 1, .int .i64 stream, .int .u32 block, .int .i64 index, .int .i64 k, .int .i64 n, .int .i64 len, .int .i64 credit, Str hv, Str body] 24).below hb (by simp)
    have hB := Below.chain hb (Below.chainAlloc (Below.refl _ _) _)
    clear hb HSh
    obtain ⟨c1, f1, l1⟩ := k1.facts
    by_cases hE : E = 0
    · subst hE
      have HZ3 : Hid ((if o ≠ ⟨1, stream, block, index, k, n, len, credit, hv, body⟩ then 5 else 0 : Int) = z) := Lib.hid (by rw [← HZ2.out]; exact (if_neg (fun h => h rfl)).symm)
      clear HZ2 c1 f1 l1
      go_upto_region 12 with fail
      generalize hq : w.heap.size = B0 at *
      have HQ := Lib.hid hq
      clear hq
      have hmk : ∀ w', Below W1.heap.size W1 w' → ((∀ o, w'.cell? ⟨B0, o, none⟩ = #[.int .i64 1, .int .i64 stream, .int .u32 block, .int .i64 index, .int .i64 k, .int .i64 n, .int .i64 len, .int .i64 credit, Str hv, Str body][o]?) ∧ Below W1.heap.size W1 w') := fun w' h => ⟨fun o => (h.cell (p := ⟨B0, o, none⟩) k1.lt).trans (k1.facts.1 o), h⟩
      have HMK := Lib.hid hmk
      have HW := Lib.hid hB
      clear hmk k1 hB
      obtain ⟨bb, hbb⟩ : ∃ bb, (!decide (o = ⟨1, stream, block, index, k, n, len, credit, hv, body⟩)) = bb := ⟨_, rfl⟩
      have hn := HN.out
      have hg := HG.out
      rw [hbb] at hn
      have HBB := Lib.hid hbb
      clear hbb HN HG
      go_region_held3 (fun w' => (∀ o, w'.cell? ⟨B0, o, none⟩ = #[.int .i64 1, .int .i64 stream, .int .u32 block, .int .i64 index, .int .i64 k, .int .i64 n, .int .i64 len, .int .i64 credit, Str hv, Str body][o]?) ∧ Below W1.heap.size W1 w')
        (first
          | exact HMK.out _ (Below.refl _ _).drew
          | exact HMK.out _ (Below.refl _ _)
          | (go_split_ands; exact HMK.out _ (Below.chain hb (by assumption))))
        ((go_at_call 62; refine (HOW.out _).mono ?_; rintro x w3 ⟨rfl, hb⟩))
      rename_i hHeld
      have hw := HW.out
      rw [← HQ.out] at hw
      have hW := Below.chain hHeld.2 hw
      clear hw hb hn hg
      cases bb with
      | true =>
        have HR := Lib.hid (show (5 : Int) = z by rw [← HZ3.out]; exact (if_pos (by simpa using HBB.out)).symm)
        go_wp2_with fail
        go_ret
        exact ⟨ret_int HR.out, hW⟩
      | false =>
        have HR := Lib.hid (show (0 : Int) = z by rw [← HZ3.out]; exact (if_neg (by simpa using HBB.out)).symm)
        go_wp2_with fail
        go_ret
        exact ⟨ret_int HR.out, hW⟩
    · have HR := Lib.hid (show E = z by rw [← HZ2.out, if_pos hE])
      have hE' : (E == 0) = false := by simpa using hE
      clear hE HZ2
      go_upto_region 12 with fail
      go_quiet (fail)
      go_wp2_with fail
      go_ret
      exact ⟨ret_int HR.out, below_drewN hB _⟩
theorem rchk2 (stream block index k n len credit : Int) (hv body : List UInt8) (hh : hv.length ≤ 9223372036854775807) (hb0 : body.length ≤ 9223372036854775807) (w : World) :
    Calls Try.prog 20 #[.agg #[.int .i64 2, .int .i64 stream, .int .u32 block, .int .i64 index, .int .i64 k, .int .i64 n, .int .i64 len, .int .i64 credit, Str hv, Str body]] w (RetB (.int .i64 (dgE ⟨2, stream, block, index, k, n, len, credit, hv, body⟩)) w) := by
  have hz : dgE ⟨2, stream, block, index, k, n, len, credit, hv, body⟩ = (if stream < 0 ∨ 255 < stream then 2 else if kdE ⟨2, stream, block, index, k, n, len, credit, hv, body⟩ ≠ 0 then kdE ⟨2, stream, block, index, k, n, len, credit, hv, body⟩ else if ownD ⟨2, stream, block, index, k, n, len, credit, hv, body⟩ ≠ ⟨2, stream, block, index, k, n, len, credit, hv, body⟩ then 5 else 0) := dgE_k (show (1 : Int) ≤ 2 ∧ (2 : Int) ≤ 6 by decide)
  have hke : kdE ⟨2, stream, block, index, k, n, len, credit, hv, body⟩ = shE ⟨2, stream, block, index, k, n, len, credit, hv, body⟩ := by unfold kdE; rw [if_pos (show (2 : Int) = 1 ∨ (2 : Int) = 2 by decide)]
  rw [hke] at hz
  have HOW := Lib.hid (rown_dg 2 stream block index k n len credit hv body)
  obtain ⟨o, ho⟩ : ∃ o, ownD ⟨2, stream, block, index, k, n, len, credit, hv, body⟩ = o := ⟨_, rfl⟩
  obtain ⟨V, hV⟩ : ∃ V, o.val = V := ⟨_, rfl⟩
  rw [ho] at hz HOW
  rw [hV] at HOW
  have hn := run_neq_dg o ⟨2, stream, block, index, k, n, len, credit, hv, body⟩
  have hg := guard_dg o ⟨2, stream, block, index, k, n, len, credit, hv, body⟩
  rw [hV] at hn hg
  have HN := Lib.hid hn
  have HG := Lib.hid hg
  generalize dgE ⟨2, stream, block, index, k, n, len, credit, hv, body⟩ = z at *
  have HZ := Lib.hid hz
  clear hn hg hV ho hz hke
  by_cases hs : stream < 0 ∨ 255 < stream
  · have HR := Lib.hid (show (2 : Int) = z by rw [HZ.out, if_pos hs])
    clear HZ
    go_enter Try.func20, Try.ntmps20
    go_wp2_with fail
    all_goals first
      | (exfalso; omega)
      | (go_ret; exact ⟨ret_int HR.out, Below.chainAlloc (Below.refl _ _) _⟩)
  · have HZ2 := Lib.hid (show (if shE ⟨2, stream, block, index, k, n, len, credit, hv, body⟩ ≠ 0 then shE ⟨2, stream, block, index, k, n, len, credit, hv, body⟩ else if o ≠ ⟨2, stream, block, index, k, n, len, credit, hv, body⟩ then 5 else 0 : Int) = z by rw [HZ.out, if_neg hs])
    have s1 : decide (stream < 0) = false := by simp; omega
    have s2 : decide (255 < stream) = false := by simp; omega
    clear HZ hs
    have HSh := Lib.hid (rshard_any 2 stream block index k n len credit hv body hb0)
    generalize shE ⟨2, stream, block, index, k, n, len, credit, hv, body⟩ = E at *
    go_enter Try.func20, Try.ntmps20
    go_wp2_with fail
    refine (HSh.out _).mono ?_
    rintro e W1 ⟨rfl, hb⟩
    have k1 := (Blk.new w #[.int .i64 2, .int .i64 stream, .int .u32 block, .int .i64 index, .int .i64 k, .int .i64 n, .int .i64 len, .int .i64 credit, Str hv, Str body] 24).below hb (by simp)
    have hB := Below.chain hb (Below.chainAlloc (Below.refl _ _) _)
    clear hb HSh
    obtain ⟨c1, f1, l1⟩ := k1.facts
    by_cases hE : E = 0
    · subst hE
      have HZ3 : Hid ((if o ≠ ⟨2, stream, block, index, k, n, len, credit, hv, body⟩ then 5 else 0 : Int) = z) := Lib.hid (by rw [← HZ2.out]; exact (if_neg (fun h => h rfl)).symm)
      clear HZ2 c1 f1 l1
      go_upto_region 12 with fail
      generalize hq : w.heap.size = B0 at *
      have HQ := Lib.hid hq
      clear hq
      have hmk : ∀ w', Below W1.heap.size W1 w' → ((∀ o, w'.cell? ⟨B0, o, none⟩ = #[.int .i64 2, .int .i64 stream, .int .u32 block, .int .i64 index, .int .i64 k, .int .i64 n, .int .i64 len, .int .i64 credit, Str hv, Str body][o]?) ∧ Below W1.heap.size W1 w') := fun w' h => ⟨fun o => (h.cell (p := ⟨B0, o, none⟩) k1.lt).trans (k1.facts.1 o), h⟩
      have HMK := Lib.hid hmk
      have HW := Lib.hid hB
      clear hmk k1 hB
      obtain ⟨bb, hbb⟩ : ∃ bb, (!decide (o = ⟨2, stream, block, index, k, n, len, credit, hv, body⟩)) = bb := ⟨_, rfl⟩
      have hn := HN.out
      have hg := HG.out
      rw [hbb] at hn
      have HBB := Lib.hid hbb
      clear hbb HN HG
      go_region_held3 (fun w' => (∀ o, w'.cell? ⟨B0, o, none⟩ = #[.int .i64 2, .int .i64 stream, .int .u32 block, .int .i64 index, .int .i64 k, .int .i64 n, .int .i64 len, .int .i64 credit, Str hv, Str body][o]?) ∧ Below W1.heap.size W1 w')
        (first
          | exact HMK.out _ (Below.refl _ _).drew
          | exact HMK.out _ (Below.refl _ _)
          | (go_split_ands; exact HMK.out _ (Below.chain hb (by assumption))))
        ((go_at_call 62; refine (HOW.out _).mono ?_; rintro x w3 ⟨rfl, hb⟩))
      rename_i hHeld
      have hw := HW.out
      rw [← HQ.out] at hw
      have hW := Below.chain hHeld.2 hw
      clear hw hb hn hg
      cases bb with
      | true =>
        have HR := Lib.hid (show (5 : Int) = z by rw [← HZ3.out]; exact (if_pos (by simpa using HBB.out)).symm)
        go_wp2_with fail
        go_ret
        exact ⟨ret_int HR.out, hW⟩
      | false =>
        have HR := Lib.hid (show (0 : Int) = z by rw [← HZ3.out]; exact (if_neg (by simpa using HBB.out)).symm)
        go_wp2_with fail
        go_ret
        exact ⟨ret_int HR.out, hW⟩
    · have HR := Lib.hid (show E = z by rw [← HZ2.out, if_pos hE])
      have hE' : (E == 0) = false := by simpa using hE
      clear hE HZ2
      go_upto_region 12 with fail
      go_quiet (fail)
      go_wp2_with fail
      go_ret
      exact ⟨ret_int HR.out, below_drewN hB _⟩
theorem rchk3 (stream block index k n len credit : Int) (hv body : List UInt8) (hh : hv.length ≤ 9223372036854775807) (hb0 : body.length ≤ 9223372036854775807) (w : World) :
    Calls Try.prog 20 #[.agg #[.int .i64 3, .int .i64 stream, .int .u32 block, .int .i64 index, .int .i64 k, .int .i64 n, .int .i64 len, .int .i64 credit, Str hv, Str body]] w (RetB (.int .i64 (dgE ⟨3, stream, block, index, k, n, len, credit, hv, body⟩)) w) := by
  have hz : dgE ⟨3, stream, block, index, k, n, len, credit, hv, body⟩ = (if stream < 0 ∨ 255 < stream then 2 else if kdE ⟨3, stream, block, index, k, n, len, credit, hv, body⟩ ≠ 0 then kdE ⟨3, stream, block, index, k, n, len, credit, hv, body⟩ else if ownD ⟨3, stream, block, index, k, n, len, credit, hv, body⟩ ≠ ⟨3, stream, block, index, k, n, len, credit, hv, body⟩ then 5 else 0) := dgE_k (show (1 : Int) ≤ 3 ∧ (3 : Int) ≤ 6 by decide)
  have hke : kdE ⟨3, stream, block, index, k, n, len, credit, hv, body⟩ = (if hv.length = 32 then (0 : Int) else 5) := by unfold kdE; rw [if_neg (show ¬ ((3 : Int) = 1 ∨ (3 : Int) = 2) by decide), if_pos rfl]
  rw [hke] at hz
  have HOW := Lib.hid (rown_dg 3 stream block index k n len credit hv body)
  obtain ⟨o, ho⟩ : ∃ o, ownD ⟨3, stream, block, index, k, n, len, credit, hv, body⟩ = o := ⟨_, rfl⟩
  obtain ⟨V, hV⟩ : ∃ V, o.val = V := ⟨_, rfl⟩
  rw [ho] at hz HOW
  rw [hV] at HOW
  have hn := run_neq_dg o ⟨3, stream, block, index, k, n, len, credit, hv, body⟩
  have hg := guard_dg o ⟨3, stream, block, index, k, n, len, credit, hv, body⟩
  rw [hV] at hn hg
  have HN := Lib.hid hn
  have HG := Lib.hid hg
  generalize dgE ⟨3, stream, block, index, k, n, len, credit, hv, body⟩ = z at *
  have HZ := Lib.hid hz
  clear hn hg hV ho hz hke
  by_cases hs : stream < 0 ∨ 255 < stream
  · have HR := Lib.hid (show (2 : Int) = z by rw [HZ.out, if_pos hs])
    clear HZ
    go_enter Try.func20, Try.ntmps20
    go_wp2_with fail
    all_goals first
      | (exfalso; omega)
      | (go_ret; exact ⟨ret_int HR.out, Below.chainAlloc (Below.refl _ _) _⟩)
  · have HZ2 := Lib.hid (show (if (if hv.length = 32 then (0 : Int) else 5) ≠ 0 then (if hv.length = 32 then (0 : Int) else 5) else if o ≠ ⟨3, stream, block, index, k, n, len, credit, hv, body⟩ then 5 else 0 : Int) = z by rw [HZ.out, if_neg hs])
    have s1 : decide (stream < 0) = false := by simp; omega
    have s2 : decide (255 < stream) = false := by simp; omega
    clear HZ hs
    by_cases h0 : hv.length = 32
    · rw [if_pos h0] at HZ2
      have HZ3 : Hid ((if o ≠ ⟨3, stream, block, index, k, n, len, credit, hv, body⟩ then 5 else 0 : Int) = z) := Lib.hid (by rw [← HZ2.out]; exact (if_neg (fun h => h rfl)).symm)
      have e : ((hv.length : Int) != 32) = false := by simp; omega
      clear HZ2 h0
      go_enter Try.func20, Try.ntmps20
      have k1 := Blk.new w #[.int .i64 3, .int .i64 stream, .int .u32 block, .int .i64 index, .int .i64 k, .int .i64 n, .int .i64 len, .int .i64 credit, Str hv, Str body] 24
      have hB := Below.chainAlloc (Below.refl w.heap.size w) (.cells #[.int .i64 3, .int .i64 stream, .int .u32 block, .int .i64 index, .int .i64 k, .int .i64 n, .int .i64 len, .int .i64 credit, Str hv, Str body] 24)
      go_upto_region 12 with fail
      generalize hW1 : w.alloc (.cells #[.int .i64 3, .int .i64 stream, .int .u32 block, .int .i64 index, .int .i64 k, .int .i64 n, .int .i64 len, .int .i64 credit, Str hv, Str body] 24) = W1 at *
      clear hW1
      generalize hq : w.heap.size = B0 at *
      have HQ := Lib.hid hq
      clear hq
      have hmk : ∀ w', Below W1.heap.size W1 w' → ((∀ o, w'.cell? ⟨B0, o, none⟩ = #[.int .i64 3, .int .i64 stream, .int .u32 block, .int .i64 index, .int .i64 k, .int .i64 n, .int .i64 len, .int .i64 credit, Str hv, Str body][o]?) ∧ Below W1.heap.size W1 w') := fun w' h => ⟨fun o => (h.cell (p := ⟨B0, o, none⟩) k1.lt).trans (k1.facts.1 o), h⟩
      have HMK := Lib.hid hmk
      have HW := Lib.hid hB
      clear hmk k1 hB
      obtain ⟨bb, hbb⟩ : ∃ bb, (!decide (o = ⟨3, stream, block, index, k, n, len, credit, hv, body⟩)) = bb := ⟨_, rfl⟩
      have hn := HN.out
      have hg := HG.out
      rw [hbb] at hn
      have HBB := Lib.hid hbb
      clear hbb HN HG
      go_region_held3 (fun w' => (∀ o, w'.cell? ⟨B0, o, none⟩ = #[.int .i64 3, .int .i64 stream, .int .u32 block, .int .i64 index, .int .i64 k, .int .i64 n, .int .i64 len, .int .i64 credit, Str hv, Str body][o]?) ∧ Below W1.heap.size W1 w')
        (first
          | exact HMK.out _ (Below.refl _ _).drew
          | exact HMK.out _ (Below.refl _ _)
          | (go_split_ands; exact HMK.out _ (Below.chain hb (by assumption))))
        ((go_at_call 62; refine (HOW.out _).mono ?_; rintro x w3 ⟨rfl, hb⟩))
      rename_i hHeld
      have hw := HW.out
      rw [← HQ.out] at hw
      have hW := Below.chain hHeld.2 hw
      clear hw hb hn hg
      cases bb with
      | true =>
        have HR := Lib.hid (show (5 : Int) = z by rw [← HZ3.out]; exact (if_pos (by simpa using HBB.out)).symm)
        go_wp2_with fail
        go_ret
        exact ⟨ret_int HR.out, hW⟩
      | false =>
        have HR := Lib.hid (show (0 : Int) = z by rw [← HZ3.out]; exact (if_neg (by simpa using HBB.out)).symm)
        go_wp2_with fail
        go_ret
        exact ⟨ret_int HR.out, hW⟩
    · rw [if_neg h0] at HZ2
      have HR := Lib.hid (show (5 : Int) = z by rw [← HZ2.out]; exact (if_pos (by decide)).symm)
      have e : ((hv.length : Int) != 32) = true := by simp; omega
      clear HZ2
      go_enter Try.func20, Try.ntmps20
      go_wp2_with fail
      all_goals first
        | (exfalso; omega)
        | (go_ret; exact ⟨ret_int HR.out, Below.chainAlloc (Below.refl _ _) _⟩)
end Go.Proofs.Ytphejbjbleeigaa
