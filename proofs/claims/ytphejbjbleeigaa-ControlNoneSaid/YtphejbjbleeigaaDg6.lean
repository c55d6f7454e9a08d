/-
  Datagrams: two held against each other; whether one may be: the program's contract (chapter 10).
-/
import Derived.Test.YtphejbjbleeigaaDg5
import Derived.Laws.StructEq
import Derived.Shelf.Abstract
namespace Go.Proofs.Ytphejbjbleeigaa
open Go.RowKit
set_option linter.unusedVariables false
set_option maxRecDepth 100000
set_option maxHeartbeats 2000000
theorem fieldsDg : Try.prog.underlying 24 = some (.struct (Try.prog.fieldsOf 24)) := by kernel_rfl
theorem notHeldDg : Try.prog.stoodInHeld 24 = false := by kernel_rfl
theorem guardDg : Try.prog.eqGuardType Try.prog.depth 24 = false := by kernel_rfl
theorem str_beq (a b : List UInt8) : ((⟨a.toArray⟩ : ByteArray).toList == (⟨b.toArray⟩ : ByteArray).toList) = decide (a = b) := by
  rw [ByteArray.toList_eq, ByteArray.toList_eq]
  show (a == b) = decide (a = b)
  by_cases h : a = b <;> simp [h]
theorem ite_res (p : Prop) [Decidable p] (q : Bool) (w : World) (r : Result Bool) (h : r = .ok q w) : (if p then r else Result.ok false w) = .ok (decide p && q) w := by
  subst h
  by_cases h : p <;> simp [h]
theorem run_equal_dg (a b : Dg) (w : World) : (Op.equalIn 10000 24 a.val b.val).run Try.prog w = .ok (decide (a = b)) w := by
  have uS := Try.underlying9
  have uI := Try.underlying3
  have uU := Try.underlying22
  have aS := Try.isAgg9
  have aI := Try.isAgg3
  have aU := Try.isAgg22
  have zS := Try.sizeOf9
  have zI := Try.sizeOf3
  have zU := Try.sizeOf22
  obtain ⟨a0, a1, a2, a3, a4, a5, a6, a7, a8, a9⟩ := a
  obtain ⟨b0, b1, b2, b3, b4, b5, b6, b7, b8, b9⟩ := b
  show (Op.equalIn 10000 24 (.agg #[.int .i64 a0, .int .i64 a1, .int .u32 a2, .int .i64 a3, .int .i64 a4, .int .i64 a5, .int .i64 a6, .int .i64 a7, Str a8, Str a9]) (.agg #[.int .i64 b0, .int .i64 b1, .int .u32 b2, .int .i64 b3, .int .i64 b4, .int .i64 b5, .int .i64 b6, .int .i64 b7, Str b8, Str b9])).run Try.prog w = _
  rw [show (10000 : Nat) = 9999 + 1 from rfl, run_equalIn_agg w 9999 24 _ _ fieldsDg notHeldDg]
  simp only [Program.fieldsOf, Try.underlying24]
  go_simp
  iterate 9 refine ite_res _ _ w _ ?_
  by_cases h : a9 = b9 <;> simp [h]
theorem run_neq_dg (a b : Dg) (w : World) : (binOp .neq 24 a.val b.val).run Try.prog w = .ok (.bool (!decide (a = b))) w := by
  have h := run_equal_dg a b w
  unfold Dg.val at *
  rw [run_neq_struct, h]
  rfl
theorem run_eql_dg (a b : Dg) (w : World) : (binOp .eql 24 a.val b.val).run Try.prog w = .ok (.bool (decide (a = b))) w := by
  have h := run_equal_dg a b w
  unfold Dg.val at *
  rw [run_eql_struct, h]
  rfl
theorem guard_dg (a b : Dg) (x y : Operand) (w : World) : (eqGuard .neq 24 x y a.val b.val).run Try.prog w = .ok () w := by
  unfold Dg.val
  exact run_eqGuard_agg w .neq _ x y _ _ guardDg
theorem chk_gen (f1 f2 f3 f4 : Nat) (kind stream block index k n len credit : Int) (hv body : List UInt8) (E : Int)
    (E1 : Enters Try.prog f1) (E4 : Enters Try.prog f4)
    (HOf : ∀ w, Calls Try.prog 55 #[.int .i64 kind] w (RetB (.tuple #[.agg #[fnV f1, fnV f2, fnV f3, fnV f4], .bool true]) w))
    (H1 : ∀ w, Calls Try.prog f1 #[.agg #[.int .i64 kind, .int .i64 stream, .int .u32 block, .int .i64 index, .int .i64 k, .int .i64 n, .int .i64 len, .int .i64 credit, Str hv, Str body]] w (RetB (.int .i64 E) w))
    (H4 : ∀ w, Calls Try.prog f4 #[.agg #[.int .i64 kind, .int .i64 stream, .int .u32 block, .int .i64 index, .int .i64 k, .int .i64 n, .int .i64 len, .int .i64 credit, Str hv, Str body]] w (RetB (ownD ⟨kind, stream, block, index, k, n, len, credit, hv, body⟩).val w)) (w : World) :
    Calls Try.prog 19 #[.agg #[.int .i64 kind, .int .i64 stream, .int .u32 block, .int .i64 index, .int .i64 k, .int .i64 n, .int .i64 len, .int .i64 credit, Str hv, Str body]] w
    (RetB (.int .i64 (if stream < 0 ∨ 255 < stream then 2 else if E ≠ 0 then E else if ownD ⟨kind, stream, block, index, k, n, len, credit, hv, body⟩ ≠ ⟨kind, stream, block, index, k, n, len, credit, hv, body⟩ then 5 else 0)) w) := by
  generalize ho : ownD ⟨kind, stream, block, index, k, n, len, credit, hv, body⟩ = o at *
  unfold Enters at E1 E4
  have HO := Lib.hid HOf
  have HA := Lib.hid H1
  obtain ⟨V, hV⟩ : ∃ V, o.val = V := ⟨_, rfl⟩
  rw [hV] at H4
  have hn := run_neq_dg o ⟨kind, stream, block, index, k, n, len, credit, hv, body⟩
  have hg := guard_dg o ⟨kind, stream, block, index, k, n, len, credit, hv, body⟩
  rw [hV] at hn hg
  have HN := Lib.hid hn
  have HG := Lib.hid hg
  have HD := Lib.hid H4
  clear hn hg hV HOf H1 H4 ho
  generalize hz : (if stream < 0 ∨ 255 < stream then 2 else if E ≠ 0 then E else if o ≠ ⟨kind, stream, block, index, k, n, len, credit, hv, body⟩ then 5 else 0 : Int) = z
  have HZ := Lib.hid hz
  clear hz
  go_enter Try.func19, Try.ntmps19
  go_wp2_with fail
  refine (HO.out _).mono ?_
  rintro e w1 ⟨rfl, hb⟩
  have k0 := (Blk.new w #[.int .i64 kind, .int .i64 stream, .int .u32 block, .int .i64 index, .int .i64 k, .int .i64 n, .int .i64 len, .int .i64 credit, Str hv, Str body] 24).below hb (by simp)
  have hB := Below.chain hb (Below.chainAlloc (Below.refl _ _) _)
  obtain ⟨c0, f0, l0⟩ := k0.facts
  have n0 : w.heap.size ≠ w1.heap.size := by omega
  clear hb
  by_cases hs : stream < 0 ∨ 255 < stream
  · have HR := Lib.hid (show (2 : Int) = z by rw [← HZ.out, if_pos hs])
    go_wp2_with fail
    all_goals first
      | (exfalso; omega)
      | (go_ret; exact ⟨ret_int HR.out, Below.chainAlloc hB _⟩)
  · have HZ2 : Hid ((if E ≠ 0 then E else if o ≠ ⟨kind, stream, block, index, k, n, len, credit, hv, body⟩ then 5 else 0 : Int) = z) := Lib.hid (by rw [← HZ.out, if_neg hs])
    clear HZ
    have s1 : decide (stream < 0) = false := by simp; omega
    have s2 : decide (255 < stream) = false := by simp; omega
    clear hs
    go_wp2_with fail
    refine (HA.out _).mono ?_
    rintro e w2 ⟨rfl, hb⟩
    have k2 := (k0.alloc (.cells #[fnV f1, fnV f2, fnV f3, fnV f4] 111)).below hb (by simp; omega)
    have k3 := (Blk.new w1 #[fnV f1, fnV f2, fnV f3, fnV f4] 111).below hb (by simp)
    have hB2 := Below.chain hb (Below.chainAlloc hB _)
    clear c0 f0 l0 n0 k0 hb HA HO
    by_cases he : E = 0
    · subst he
      have HZ3 : Hid ((if o ≠ ⟨kind, stream, block, index, k, n, len, credit, hv, body⟩ then 5 else 0 : Int) = z) := Lib.hid (by rw [← HZ2.out]; exact (if_neg (fun h => h rfl)).symm)
      clear HZ2
      go_upto_region 9 with fail
      generalize hq : w.heap.size = B0 at *
      generalize w1.heap.size = B1 at *
      have HQ := Lib.hid hq
      clear hq
      have hmk : ∀ w', Below w2.heap.size w2 w' → ((∀ o, w'.cell? ⟨B0, o, none⟩ = #[.int .i64 kind, .int .i64 stream, .int .u32 block, .int .i64 index, .int .i64 k, .int .i64 n, .int .i64 len, .int .i64 credit, Str hv, Str body][o]?) ∧ (∀ o, w'.cell? ⟨B1, o, none⟩ = #[fnV f1, fnV f2, fnV f3, fnV f4][o]?) ∧ Below w2.heap.size w2 w') := fun w' h =>
        ⟨fun o => (h.cell (p := ⟨B0, o, none⟩) k2.lt).trans (k2.facts.1 o), fun o => (h.cell (p := ⟨B1, o, none⟩) k3.lt).trans (k3.facts.1 o), h⟩
      have HMK := Lib.hid hmk
      have HW := Lib.hid hB2
      clear hmk k2 k3 hB2 hB
      obtain ⟨bb, hbb⟩ : ∃ bb, (!decide (o = ⟨kind, stream, block, index, k, n, len, credit, hv, body⟩)) = bb := ⟨_, rfl⟩
      have hn := HN.out
      have hg := HG.out
      rw [hbb] at hn
      have HBB := Lib.hid hbb
      clear hbb HN HG
      go_region_held3 (fun w' => (∀ o, w'.cell? ⟨B0, o, none⟩ = #[.int .i64 kind, .int .i64 stream, .int .u32 block, .int .i64 index, .int .i64 k, .int .i64 n, .int .i64 len, .int .i64 credit, Str hv, Str body][o]?) ∧ (∀ o, w'.cell? ⟨B1, o, none⟩ = #[fnV f1, fnV f2, fnV f3, fnV f4][o]?) ∧ Below w2.heap.size w2 w')
        (first
          | exact HMK.out _ (Below.refl _ _).drew
          | exact HMK.out _ (Below.refl _ _)
          | (go_split_ands; exact HMK.out _ (Below.chain hb (by assumption))))
        ((refine (HD.out _).mono ?_; rintro x w3 ⟨rfl, hb⟩))
      have hw := HW.out
      rw [← HQ.out] at hw
      have hW := Below.chain hb hw.drew
      clear hw hb hn hg
      cases bb with
      | true =>
        have HR := Lib.hid (show (5 : Int) = z by rw [← HZ3.out]; exact (if_pos (by simpa using HBB.out)).symm)
        go_wp2_with fail
        go_ret
        exact ⟨ret_int HR.out, hW⟩
      | false =>
        have HR := Lib.hid (show (0 : Int) = z by rw [← HZ3.out]; exact (if_neg (by simpa using HBB.out)).symm)
        go_wp2_with fail
        go_ret
        exact ⟨ret_int HR.out, hW⟩
    · have HR := Lib.hid (show E = z by rw [← HZ2.out, if_pos he])
      have he' : (E != 0) = true := by simpa using he
      clear he
      go_wp2_with fail
      go_ret
      exact ⟨ret_int HR.out, hB2⟩
theorem enS : Enters Try.prog 129 := enters_of Try.func129 (by kernel_rfl) rfl
theorem enS1 : Enters Try.prog 130 := enters_of Try.func130 (by kernel_rfl) rfl
theorem enS2 : Enters Try.prog 131 := enters_of Try.func131 (by kernel_rfl) rfl
theorem enS3 : Enters Try.prog 132 := enters_of Try.func132 (by kernel_rfl) rfl
theorem enN1 : Enters Try.prog 134 := enters_of Try.func134 (by kernel_rfl) rfl
theorem enN2 : Enters Try.prog 135 := enters_of Try.func135 (by kernel_rfl) rfl
theorem enN3 : Enters Try.prog 136 := enters_of Try.func136 (by kernel_rfl) rfl
theorem enN4 : Enters Try.prog 137 := enters_of Try.func137 (by kernel_rfl) rfl
theorem enA1 : Enters Try.prog 138 := enters_of Try.func138 (by kernel_rfl) rfl
theorem enA2 : Enters Try.prog 139 := enters_of Try.func139 (by kernel_rfl) rfl
theorem enA3 : Enters Try.prog 140 := enters_of Try.func140 (by kernel_rfl) rfl
theorem enA4 : Enters Try.prog 141 := enters_of Try.func141 (by kernel_rfl) rfl
theorem enP1 : Enters Try.prog 142 := enters_of Try.func142 (by kernel_rfl) rfl
theorem enP2 : Enters Try.prog 143 := enters_of Try.func143 (by kernel_rfl) rfl
theorem enP3 : Enters Try.prog 144 := enters_of Try.func144 (by kernel_rfl) rfl
theorem enHd : Enters Try.prog 133 := enters_of Try.func133 (by kernel_rfl) rfl
theorem chk_no (kind stream block index k n len credit : Int) (hv body : List UInt8) (h1 : kind ≠ 1) (h2 : kind ≠ 2) (h3 : kind ≠ 3) (h4 : kind ≠ 4) (h5 : kind ≠ 5) (h6 : kind ≠ 6) (w : World) :
    Calls Try.prog 19 #[.agg #[.int .i64 kind, .int .i64 stream, .int .u32 block, .int .i64 index, .int .i64 k, .int .i64 n, .int .i64 len, .int .i64 credit, Str hv, Str body]] w (RetB (.int .i64 1) w) := by
  have HO := Lib.hid (of_no kind h1 h2 h3 h4 h5 h6)
  clear h1 h2 h3 h4 h5 h6
  go_enter Try.func19, Try.ntmps19
  go_wp2_with fail
  refine (HO.out _).mono ?_
  rintro e w1 ⟨rfl, hb⟩
  have hB := Below.chain hb (Below.chainAlloc (Below.refl _ _) _)
  clear hb
  go_wp2_with fail
  go_ret
  exact ⟨rfl, Below.chainAlloc hB _⟩
theorem dgE_k {d : Dg} (h : 1 ≤ d.kind ∧ d.kind ≤ 6) : dgE d = (if d.stream < 0 ∨ 255 < d.stream then 2 else if kdE d ≠ 0 then kdE d else if ownD d ≠ d then 5 else 0) := by
  unfold dgE
  rw [if_neg (by omega)]
/-- Whether a datagram may be: the program's answer. -/
theorem check_dg (d : Dg) (hh : d.have'.length ≤ 9223372036854775807) (hb : d.body.length ≤ 9223372036854775807) (w : World) : Calls Try.prog 19 #[d.val] w (RetB (.int .i64 (dgE d)) w) := by
  obtain ⟨kind, stream, block, index, k, n, len, credit, hv, body⟩ := d
  show Calls Try.prog 19 #[.agg #[.int .i64 kind, .int .i64 stream, .int .u32 block, .int .i64 index, .int .i64 k, .int .i64 n, .int .i64 len, .int .i64 credit, Str hv, Str body]] w _
  simp only at hh hb
  by_cases c1 : kind = 1 ∨ kind = 2
  · have h := chk_gen 129 130 131 132 kind stream block index k n len credit hv body (kdE ⟨kind, stream, block, index, k, n, len, credit, hv, body⟩) enS enS3 (of_sh kind c1) (fun w => by
        have h := checkShard_any kind stream block index k n len credit hv body hb w
        unfold kdE
        rw [if_pos c1]
        exact h)
      (fun w => by
        have h := own_sh kind stream block index k n len credit hv body w
        unfold ownD
        rw [if_pos c1]
        exact h) w
    rw [dgE_k (show 1 ≤ kind ∧ kind ≤ 6 by omega)]
    exact h
  · by_cases c2 : kind = 3
    · have h := chk_gen 134 135 136 137 kind stream block index k n len credit hv body (kdE ⟨kind, stream, block, index, k, n, len, credit, hv, body⟩) enN1 enN4 (of_nk kind c2) (fun w => by
          have h := chk_nk kind stream block index k n len credit hv body hh w
          unfold kdE
          rw [if_neg c1, if_pos c2]
          exact h)
        (fun w => by
          have h := own_nk kind stream block index k n len credit hv body w
          unfold ownD
          rw [if_neg c1, if_pos c2]
          exact h) w
      rw [dgE_k (show 1 ≤ kind ∧ kind ≤ 6 by omega)]
      exact h
    · by_cases c3 : kind = 4
      · have h := chk_gen 138 139 140 141 kind stream block index k n len credit hv body (kdE ⟨kind, stream, block, index, k, n, len, credit, hv, body⟩) enA1 enA4 (of_ak kind c3) (fun w => by
            have h := chk_ak kind stream block index k n len credit hv body w
            unfold kdE
            rw [if_neg c1, if_neg c2, if_pos c3]
            exact h)
          (fun w => by
            have h := own_ak kind stream block index k n len credit hv body w
            unfold ownD
            rw [if_neg c1, if_neg c2, if_pos c3]
            exact h) w
        rw [dgE_k (show 1 ≤ kind ∧ kind ≤ 6 by omega)]
        exact h
      · by_cases c4 : kind = 5 ∨ kind = 6
        · have h := chk_gen 142 143 144 133 kind stream block index k n len credit hv body (kdE ⟨kind, stream, block, index, k, n, len, credit, hv, body⟩) enP1 enHd (of_pl kind c4) (fun w => by
              have h := chk_pl kind stream block index k n len credit hv body w
              unfold kdE
              rw [if_neg c1, if_neg c2, if_neg c3]
              exact h)
            (fun w => by
              have h := head_any kind stream block index k n len credit hv body w
              unfold ownD
              rw [if_neg c1, if_neg c2, if_neg c3]
              exact h) w
          rw [dgE_k (show 1 ≤ kind ∧ kind ≤ 6 by omega)]
          exact h
        · have h := chk_no kind stream block index k n len credit hv body (by omega) (by omega) c2 c3 (by omega) (by omega) w
          have e : dgE ⟨kind, stream, block, index, k, n, len, credit, hv, body⟩ = 1 := by
            unfold dgE
            simp only
            rw [if_pos (by omega)]
          rw [e]
          exact h
end Go.Proofs.Ytphejbjbleeigaa
