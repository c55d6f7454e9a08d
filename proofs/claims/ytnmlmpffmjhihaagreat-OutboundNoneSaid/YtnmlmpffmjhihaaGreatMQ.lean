/-
  Merged: Datagrams: two held against each other; whether one may be: the program's contract (chapter 10). | Datagrams: their bytes: the program's contract (chapter 10).
-/
import Derived.Test.YtnmlmpffmjhihaaGreatMP
import Derived.Laws.StructEq
import Derived.Shelf.Abstract
import Derived.Test.YtnmlmpffmjhihaaGreatMO
namespace Go.Proofs.YtnmlmpffmjhihaaGreat
open Go.RowKit
set_option linter.unusedVariables false
set_option maxRecDepth 100000
set_option maxHeartbeats 2000000
theorem fieldsDg : Tryz.prog.underlying 27 = some (.struct (Tryz.prog.fieldsOf 27)) := by kernel_rfl
theorem notHeldDg : Tryz.prog.stoodInHeld 27 = false := by kernel_rfl
theorem guardDg : Tryz.prog.eqGuardType Tryz.prog.depth 27 = false := by kernel_rfl
theorem str_beq (a b : List UInt8) : ((⟨a.toArray⟩ : ByteArray).toList == (⟨b.toArray⟩ : ByteArray).toList) = decide (a = b) := by
  rw [ByteArray.toList_eq, ByteArray.toList_eq]
  show (a == b) = decide (a = b)
  by_cases h : a = b <;> simp [h]
theorem ite_res (p : Prop) [Decidable p] (q : Bool) (w : World) (r : Result Bool) (h : r = .ok q w) : (if p then r else Result.ok false w) = .ok (decide p && q) w := by
  subst h
  by_cases h : p <;> simp [h]
theorem run_equal_dg (a b : Dg) (w : World) : (Op.equalIn 10000 27 a.val b.val).run Tryz.prog w = .ok (decide (a = b)) w := by
  have uS := Tryz.underlying9
  have uI := Tryz.underlying3
  have uU := Tryz.underlying22
  have aS := Tryz.isAgg9
  have aI := Tryz.isAgg3
  have aU := Tryz.isAgg22
  have zS := Tryz.sizeOf9
  have zI := Tryz.sizeOf3
  have zU := Tryz.sizeOf22
  obtain ⟨a0, a1, a2, a3, a4, a5, a6, a7, a8, a9⟩ := a
  obtain ⟨b0, b1, b2, b3, b4, b5, b6, b7, b8, b9⟩ := b
  show (Op.equalIn 10000 27 (.agg #[.int .i64 a0, .int .i64 a1, .int .u32 a2, .int .i64 a3, .int .i64 a4, .int .i64 a5, .int .i64 a6, .int .i64 a7, Str a8, Str a9]) (.agg #[.int .i64 b0, .int .i64 b1, .int .u32 b2, .int .i64 b3, .int .i64 b4, .int .i64 b5, .int .i64 b6, .int .i64 b7, Str b8, Str b9])).run Tryz.prog w = _
  rw [show (10000 : Nat) = 9999 + 1 from rfl, run_equalIn_agg w 9999 27 _ _ fieldsDg notHeldDg]
  simp only [Program.fieldsOf, Tryz.underlying27]
  go_simp
  iterate 9 refine ite_res _ _ w _ ?_
  by_cases h : a9 = b9 <;> simp [h]
theorem run_neq_dg (a b : Dg) (w : World) : (binOp .neq 27 a.val b.val).run Tryz.prog w = .ok (.bool (!decide (a = b))) w := by
  have h := run_equal_dg a b w
  unfold Dg.val at *
  rw [run_neq_struct, h]
  rfl
theorem run_eql_dg (a b : Dg) (w : World) : (binOp .eql 27 a.val b.val).run Tryz.prog w = .ok (.bool (decide (a = b))) w := by
  have h := run_equal_dg a b w
  unfold Dg.val at *
  rw [run_eql_struct, h]
  rfl
theorem guard_dg (a b : Dg) (x y : Operand) (w : World) : (eqGuard .neq 27 x y a.val b.val).run Tryz.prog w = .ok () w := by
  unfold Dg.val
  exact run_eqGuard_agg w .neq _ x y _ _ guardDg
theorem chk_gen (f1 f2 f3 f4 : Nat) (kind stream block index k n len credit : Int) (hv body : List UInt8) (E : Int)
    (E1 : Enters Tryz.prog f1) (E4 : Enters Tryz.prog f4)
    (HOf : ∀ w, Calls Tryz.prog 81 #[.int .i64 kind] w (RetB (.tuple #[.agg #[fnV f1, fnV f2, fnV f3, fnV f4], .bool true]) w))
    (H1 : ∀ w, Calls Tryz.prog f1 #[.agg #[.int .i64 kind, .int .i64 stream, .int .u32 block, .int .i64 index, .int .i64 k, .int .i64 n, .int .i64 len, .int .i64 credit, Str hv, Str body]] w (RetB (.int .i64 E) w))
    (H4 : ∀ w, Calls Tryz.prog f4 #[.agg #[.int .i64 kind, .int .i64 stream, .int .u32 block, .int .i64 index, .int .i64 k, .int .i64 n, .int .i64 len, .int .i64 credit, Str hv, Str body]] w (RetB (ownD ⟨kind, stream, block, index, k, n, len, credit, hv, body⟩).val w)) (w : World) :
    Calls Tryz.prog 80 #[.agg #[.int .i64 kind, .int .i64 stream, .int .u32 block, .int .i64 index, .int .i64 k, .int .i64 n, .int .i64 len, .int .i64 credit, Str hv, Str body]] w
    (RetB (.int .i64 (if stream < 0 ∨ 255 < stream then 2 else if E ≠ 0 then E else if ownD ⟨kind, stream, block, index, k, n, len, credit, hv, body⟩ ≠ ⟨kind, stream, block, index, k, n, len, credit, hv, body⟩ then 5 else 0)) w) := by
  generalize ho : ownD ⟨kind, stream, block, index, k, n, len, credit, hv, body⟩ = o at *
  unfold Enters at E1 E4
  have HO := Lib.hid HOf
  have HA := Lib.hid H1
  obtain ⟨V, hV⟩ : ∃ V, o.val = V := ⟨_, rfl⟩
  rw [hV] at H4
  have hn := run_neq_dg o ⟨kind, stream, block, index, k, n, len, credit, hv, body⟩
  have hg := guard_dg o ⟨kind, stream, block, index, k, n, len, credit, hv, body⟩
  rw [hV] at hn hg
  have HN := Lib.hid hn
  have HG := Lib.hid hg
  have HD := Lib.hid H4
  clear hn hg hV HOf H1 H4 ho
  generalize hz : (if stream < 0 ∨ 255 < stream then 2 else if E ≠ 0 then E else if o ≠ ⟨kind, stream, block, index, k, n, len, credit, hv, body⟩ then 5 else 0 : Int) = z
  have HZ := Lib.hid hz
  clear hz
  go_enter Tryz.func80, Tryz.ntmps80
  go_wp2_with fail
  refine (HO.out _).mono ?_
  rintro e w1 ⟨rfl, hb⟩
  have k0 := (Blk.new w #[.int .i64 kind, .int .i64 stream, .int .u32 block, .int .i64 index, .int .i64 k, .int .i64 n, .int .i64 len, .int .i64 credit, Str hv, Str body] 27).below hb (by simp)
  have hB := Below.chain hb (Below.chainAlloc (Below.refl _ _) _)
  obtain ⟨c0, f0, l0⟩ := k0.facts
  have n0 : w.heap.size ≠ w1.heap.size := by omega
  clear hb
  by_cases hs : stream < 0 ∨ 255 < stream
  · have HR := Lib.hid (show (2 : Int) = z by rw [← HZ.out, if_pos hs])
    go_wp2_with fail
    all_goals first
      | (exfalso; omega)
      | (go_ret; exact ⟨ret_int HR.out, Below.chainAlloc hB _⟩)
  · have HZ2 : Hid ((if E ≠ 0 then E else if o ≠ ⟨kind, stream, block, index, k, n, len, credit, hv, body⟩ then 5 else 0 : Int) = z) := Lib.hid (by rw [← HZ.out, if_neg hs])
    clear HZ
    have s1 : decide (stream < 0) = false := by simp; omega
    have s2 : decide (255 < stream) = false := by simp; omega
    clear hs
    go_wp2_with fail
    refine (HA.out _).mono ?_
    rintro e w2 ⟨rfl, hb⟩
    have k2 := (k0.alloc (.cells #[fnV f1, fnV f2, fnV f3, fnV f4] 153)).below hb (by simp; omega)
    have k3 := (Blk.new w1 #[fnV f1, fnV f2, fnV f3, fnV f4] 153).below hb (by simp)
    have hB2 := Below.chain hb (Below.chainAlloc hB _)
    clear c0 f0 l0 n0 k0 hb HA HO
    by_cases he : E = 0
    · subst he
      have HZ3 : Hid ((if o ≠ ⟨kind, stream, block, index, k, n, len, credit, hv, body⟩ then 5 else 0 : Int) = z) := Lib.hid (by rw [← HZ2.out]; exact (if_neg (fun h => h rfl)).symm)
      clear HZ2
      go_upto_region 9 with fail
      generalize hq : w.heap.size = B0 at *
      generalize w1.heap.size = B1 at *
      have HQ := Lib.hid hq
      clear hq
      have hmk : ∀ w', Below w2.heap.size w2 w' → ((∀ o, w'.cell? ⟨B0, o, none⟩ = #[.int .i64 kind, .int .i64 stream, .int .u32 block, .int .i64 index, .int .i64 k, .int .i64 n, .int .i64 len, .int .i64 credit, Str hv, Str body][o]?) ∧ (∀ o, w'.cell? ⟨B1, o, none⟩ = #[fnV f1, fnV f2, fnV f3, fnV f4][o]?) ∧ Below w2.heap.size w2 w') := fun w' h =>
        ⟨fun o => (h.cell (p := ⟨B0, o, none⟩) k2.lt).trans (k2.facts.1 o), fun o => (h.cell (p := ⟨B1, o, none⟩) k3.lt).trans (k3.facts.1 o), h⟩
      have HMK := Lib.hid hmk
      have HW := Lib.hid hB2
      clear hmk k2 k3 hB2 hB
      obtain ⟨bb, hbb⟩ : ∃ bb, (!decide (o = ⟨kind, stream, block, index, k, n, len, credit, hv, body⟩)) = bb := ⟨_, rfl⟩
      have hn := HN.out
      have hg := HG.out
      rw [hbb] at hn
      have HBB := Lib.hid hbb
      clear hbb HN HG
      go_region_held3 (fun w' => (∀ o, w'.cell? ⟨B0, o, none⟩ = #[.int .i64 kind, .int .i64 stream, .int .u32 block, .int .i64 index, .int .i64 k, .int .i64 n, .int .i64 len, .int .i64 credit, Str hv, Str body][o]?) ∧ (∀ o, w'.cell? ⟨B1, o, none⟩ = #[fnV f1, fnV f2, fnV f3, fnV f4][o]?) ∧ Below w2.heap.size w2 w')
        (first
          | exact HMK.out _ (Below.refl _ _).drew
          | exact HMK.out _ (Below.refl _ _)
          | (go_split_ands; exact HMK.out _ (Below.chain hb (by assumption))))
        ((refine (HD.out _).mono ?_; rintro x w3 ⟨rfl, hb⟩))
      have hw := HW.out
      rw [← HQ.out] at hw
      have hW := Below.chain hb hw.drew
      clear hw hb hn hg
      cases bb with
      | true =>
        have HR := Lib.hid (show (5 : Int) = z by rw [← HZ3.out]; exact (if_pos (by simpa using HBB.out)).symm)
        go_wp2_with fail
        go_ret
        exact ⟨ret_int HR.out, hW⟩
      | false =>
        have HR := Lib.hid (show (0 : Int) = z by rw [← HZ3.out]; exact (if_neg (by simpa using HBB.out)).symm)
        go_wp2_with fail
        go_ret
        exact ⟨ret_int HR.out, hW⟩
    · have HR := Lib.hid (show E = z by rw [← HZ2.out, if_pos he])
      have he' : (E != 0) = true := by simpa using he
      clear he
      go_wp2_with fail
      go_ret
      exact ⟨ret_int HR.out, hB2⟩
theorem enS : Enters Tryz.prog 106 := enters_of Tryz.func106 (by kernel_rfl) rfl
theorem enS1 : Enters Tryz.prog 107 := enters_of Tryz.func107 (by kernel_rfl) rfl
theorem enS2 : Enters Tryz.prog 108 := enters_of Tryz.func108 (by kernel_rfl) rfl
theorem enS3 : Enters Tryz.prog 112 := enters_of Tryz.func112 (by kernel_rfl) rfl
theorem enN1 : Enters Tryz.prog 114 := enters_of Tryz.func114 (by kernel_rfl) rfl
theorem enN2 : Enters Tryz.prog 115 := enters_of Tryz.func115 (by kernel_rfl) rfl
theorem enN3 : Enters Tryz.prog 116 := enters_of Tryz.func116 (by kernel_rfl) rfl
theorem enN4 : Enters Tryz.prog 117 := enters_of Tryz.func117 (by kernel_rfl) rfl
theorem enA1 : Enters Tryz.prog 118 := enters_of Tryz.func118 (by kernel_rfl) rfl
theorem enA2 : Enters Tryz.prog 119 := enters_of Tryz.func119 (by kernel_rfl) rfl
theorem enA3 : Enters Tryz.prog 120 := enters_of Tryz.func120 (by kernel_rfl) rfl
theorem enA4 : Enters Tryz.prog 121 := enters_of Tryz.func121 (by kernel_rfl) rfl
theorem enP1 : Enters Tryz.prog 122 := enters_of Tryz.func122 (by kernel_rfl) rfl
theorem enP2 : Enters Tryz.prog 123 := enters_of Tryz.func123 (by kernel_rfl) rfl
theorem enP3 : Enters Tryz.prog 124 := enters_of Tryz.func124 (by kernel_rfl) rfl
theorem enHd : Enters Tryz.prog 113 := enters_of Tryz.func113 (by kernel_rfl) rfl
theorem chk_no (kind stream block index k n len credit : Int) (hv body : List UInt8) (h1 : kind ≠ 1) (h2 : kind ≠ 2) (h3 : kind ≠ 3) (h4 : kind ≠ 4) (h5 : kind ≠ 5) (h6 : kind ≠ 6) (w : World) :
    Calls Tryz.prog 80 #[.agg #[.int .i64 kind, .int .i64 stream, .int .u32 block, .int .i64 index, .int .i64 k, .int .i64 n, .int .i64 len, .int .i64 credit, Str hv, Str body]] w (RetB (.int .i64 1) w) := by
  have HO := Lib.hid (of_no kind h1 h2 h3 h4 h5 h6)
  clear h1 h2 h3 h4 h5 h6
  go_enter Tryz.func80, Tryz.ntmps80
  go_wp2_with fail
  refine (HO.out _).mono ?_
  rintro e w1 ⟨rfl, hb⟩
  have hB := Below.chain hb (Below.chainAlloc (Below.refl _ _) _)
  clear hb
  go_wp2_with fail
  go_ret
  exact ⟨rfl, Below.chainAlloc hB _⟩
theorem dgE_k {d : Dg} (h : 1 ≤ d.kind ∧ d.kind ≤ 6) : dgE d = (if d.stream < 0 ∨ 255 < d.stream then 2 else if kdE d ≠ 0 then kdE d else if ownD d ≠ d then 5 else 0) := by
  unfold dgE
  rw [if_neg (by omega)]
/-- Whether a datagram may be: the program's answer. -/
theorem check_dg (d : Dg) (hh : d.have'.length ≤ 9223372036854775807) (hb : d.body.length ≤ 9223372036854775807) (w : World) : Calls Tryz.prog 80 #[d.val] w (RetB (.int .i64 (dgE d)) w) := by
  obtain ⟨kind, stream, block, index, k, n, len, credit, hv, body⟩ := d
  show Calls Tryz.prog 80 #[.agg #[.int .i64 kind, .int .i64 stream, .int .u32 block, .int .i64 index, .int .i64 k, .int .i64 n, .int .i64 len, .int .i64 credit, Str hv, Str body]] w _
  simp only at hh hb
  by_cases c1 : kind = 1 ∨ kind = 2
  · have h := chk_gen 106 107 108 112 kind stream block index k n len credit hv body (kdE ⟨kind, stream, block, index, k, n, len, credit, hv, body⟩) enS enS3 (of_sh kind c1) (fun w => by
        have h := checkShard_any kind stream block index k n len credit hv body hb w
        unfold kdE
        rw [if_pos c1]
        exact h)
      (fun w => by
        have h := own_sh kind stream block index k n len credit hv body w
        unfold ownD
        rw [if_pos c1]
        exact h) w
    rw [dgE_k (show 1 ≤ kind ∧ kind ≤ 6 by omega)]
    exact h
  · by_cases c2 : kind = 3
    · have h := chk_gen 114 115 116 117 kind stream block index k n len credit hv body (kdE ⟨kind, stream, block, index, k, n, len, credit, hv, body⟩) enN1 enN4 (of_nk kind c2) (fun w => by
          have h := chk_nk kind stream block index k n len credit hv body hh w
          unfold kdE
          rw [if_neg c1, if_pos c2]
          exact h)
        (fun w => by
          have h := own_nk kind stream block index k n len credit hv body w
          unfold ownD
          rw [if_neg c1, if_pos c2]
          exact h) w
      rw [dgE_k (show 1 ≤ kind ∧ kind ≤ 6 by omega)]
      exact h
    · by_cases c3 : kind = 4
      · have h := chk_gen 118 119 120 121 kind stream block index k n len credit hv body (kdE ⟨kind, stream, block, index, k, n, len, credit, hv, body⟩) enA1 enA4 (of_ak kind c3) (fun w => by
            have h := chk_ak kind stream block index k n len credit hv body w
            unfold kdE
            rw [if_neg c1, if_neg c2, if_pos c3]
            exact h)
          (fun w => by
            have h := own_ak kind stream block index k n len credit hv body w
            unfold ownD
            rw [if_neg c1, if_neg c2, if_pos c3]
            exact h) w
        rw [dgE_k (show 1 ≤ kind ∧ kind ≤ 6 by omega)]
        exact h
      · by_cases c4 : kind = 5 ∨ kind = 6
        · have h := chk_gen 122 123 124 113 kind stream block index k n len credit hv body (kdE ⟨kind, stream, block, index, k, n, len, credit, hv, body⟩) enP1 enHd (of_pl kind c4) (fun w => by
              have h := chk_pl kind stream block index k n len credit hv body w
              unfold kdE
              rw [if_neg c1, if_neg c2, if_neg c3]
              exact h)
            (fun w => by
              have h := head_any kind stream block index k n len credit hv body w
              unfold ownD
              rw [if_neg c1, if_neg c2, if_neg c3]
              exact h) w
          rw [dgE_k (show 1 ≤ kind ∧ kind ≤ 6 by omega)]
          exact h
        · have h := chk_no kind stream block index k n len credit hv body (by omega) (by omega) c2 c3 (by omega) (by omega) w
          have e : dgE ⟨kind, stream, block, index, k, n, len, credit, hv, body⟩ = 1 := by
            unfold dgE
            simp only
            rw [if_pos (by omega)]
          rw [e]
          exact h
end Go.Proofs.YtnmlmpffmjhihaaGreat
namespace Go.Proofs.YtnmlmpffmjhihaaGreat
open Go.RowKit
set_option linter.unusedVariables false
set_option maxRecDepth 100000
set_option maxHeartbeats 2000000
attribute [local go_sem ↓] Go.wp_at_zero Go.wp_at_succ
theorem put_gen (f1 f2 f3 f4 : Nat) (kind stream block index k n len credit : Int) (hv body R : List UInt8) (hR : R.length ≤ 2000) (k0 : 0 ≤ kind) (k1 : kind < 256) (s0 : 0 ≤ stream) (s1 : stream < 256) (b0 : 0 ≤ block) (b1 : block < 4294967296)
    (T : List UInt8) (hT : [76, 83] ++ be kind 1 ++ be stream 1 ++ be block 4 ++ R = T)
    (E2 : Enters Tryz.prog f2)
    (HOf : ∀ w, Calls Tryz.prog 81 #[.int .i64 kind] w (RetB (.tuple #[.agg #[fnV f1, fnV f2, fnV f3, fnV f4], .bool true]) w))
    (HC : ∀ w, Calls Tryz.prog 80 #[.agg #[.int .i64 kind, .int .i64 stream, .int .u32 block, .int .i64 index, .int .i64 k, .int .i64 n, .int .i64 len, .int .i64 credit, Str hv, Str body]] w (RetB (.int .i64 0) w))
    (H2 : ∀ w, Calls Tryz.prog f2 #[.agg #[.int .i64 kind, .int .i64 stream, .int .u32 block, .int .i64 index, .int .i64 k, .int .i64 n, .int .i64 len, .int .i64 credit, Str hv, Str body]] w (RetB (Str R) w)) (w : World) :
    Calls Tryz.prog 64 #[.agg #[.int .i64 kind, .int .i64 stream, .int .u32 block, .int .i64 index, .int .i64 k, .int .i64 n, .int .i64 len, .int .i64 credit, Str hv, Str body]] w
    (RetB (.tuple #[Str (T ++ be (crcS T : Nat) 4), .int .i64 0]) w) := by
  unfold Enters at E2
  have HO := Lib.hid HOf
  have HCk := Lib.hid HC
  have HD := Lib.hid H2
  have P1 : putS kind 1 = be kind 1 := putS_ok kind 1 (by omega) k0 (by omega)
  have P2 : putS stream 1 = be stream 1 := putS_ok stream 1 (by omega) s0 (by omega)
  have P3 : putS block 4 = be block 4 := putS_ok block 4 (by omega) b0 (by omega)
  have P3e : putE block 4 = 0 := by unfold putE; rw [if_neg (by decide), if_neg (by omega)]
  have L1 : (be kind 1).length = 1 := be_length _ _
  have L2 : (be stream 1).length = 1 := be_length _ _
  have L3 : (be block 4).length = 4 := be_length _ _
  have hs8 : ¬ 9223372036854775807 < 8 + R.length := by omega
  have k2 : kind < 4294967296 := by omega
  have s2 : stream < 4294967296 := by omega
  have HT : Hid ((0 ≤ block ∧ block < 4294967296) ∧ R.length ≤ 2000) := Lib.hid ⟨⟨b0, b1⟩, hR⟩
  have HP := Lib.hid (fun wx => put_any block 4 b0 b1 wx)
  have eT : (({ data := #[76, 83] } : ByteArray) ++ ⟨(be kind 1).toArray⟩ ++ ⟨(be stream 1).toArray⟩ ++ ⟨(be block 4).toArray⟩ ++ ⟨R.toArray⟩) = ⟨T.toArray⟩ := by
    rw [← hT]; simp only [app_lists]
  have hTl : T.length = 8 + R.length := by
    rw [← hT]; simp [L1, L2, L3]; omega
  have ET := Lib.hid eT
  clear HOf HC H2 eT hT
  go_enter Tryz.func64, Tryz.ntmps64
  go_wp2_with fail
  refine (HCk.out _).mono ?_
  rintro e w1 ⟨rfl, hb⟩
  have q0 := (Blk.new w #[.int .i64 kind, .int .i64 stream, .int .u32 block, .int .i64 index, .int .i64 k, .int .i64 n, .int .i64 len, .int .i64 credit, Str hv, Str body] 27).below hb (by simp)
  have hB := Below.chain hb (Below.chainAlloc (Below.refl _ _) _)
  obtain ⟨c0, f0, l0⟩ := q0.facts
  clear hb HCk
  go_wp2_with fail
  refine (HO.out _).mono ?_
  rintro e w2 ⟨rfl, hb⟩
  have q1 := q0.below hb l0
  have hB2 := Below.chain hb hB
  clear hb HO c0 f0 l0 q0 hB
  obtain ⟨c0, f0, l0⟩ := q1.facts
  have n0 : w.heap.size ≠ w2.heap.size := by omega
  go_wp2_with fail
  refine (HP.out _).mono ?_
  rintro e w3 ⟨rfl, hb⟩
  rw [P3, P3e]
  have q2 := (q1.alloc (.cells #[fnV f1, fnV f2, fnV f3, fnV f4] 153)).below hb (by simp; omega)
  have q3 := (Blk.new w2 #[fnV f1, fnV f2, fnV f3, fnV f4] 153).below hb (by simp)
  have hB3 := Below.chain hb (Below.chainAlloc hB2 _)
  clear hb HP c0 f0 l0 q1 hB2 P3 P3e n0
  go_upto_region 6 with fail
  generalize hq : w.heap.size = B0 at *
  generalize w2.heap.size = B1 at *
  have HQ := Lib.hid hq
  clear hq
  have hmk : ∀ w', Below w3.heap.size w3 w' → ((∀ o, w'.cell? ⟨B0, o, none⟩ = #[.int .i64 kind, .int .i64 stream, .int .u32 block, .int .i64 index, .int .i64 k, .int .i64 n, .int .i64 len, .int .i64 credit, Str hv, Str body][o]?) ∧ (∀ o, w'.cell? ⟨B1, o, none⟩ = #[fnV f1, fnV f2, fnV f3, fnV f4][o]?) ∧ Below w3.heap.size w3 w') := fun w' h =>
    ⟨fun o => (h.cell (p := ⟨B0, o, none⟩) q2.lt).trans (q2.facts.1 o), fun o => (h.cell (p := ⟨B1, o, none⟩) q3.lt).trans (q3.facts.1 o), h⟩
  have HMK := Lib.hid hmk
  have HW := Lib.hid hB3
  clear hmk q2 q3 hB3
  go_region_held3 (fun w' => (∀ o, w'.cell? ⟨B0, o, none⟩ = #[.int .i64 kind, .int .i64 stream, .int .u32 block, .int .i64 index, .int .i64 k, .int .i64 n, .int .i64 len, .int .i64 credit, Str hv, Str body][o]?) ∧ (∀ o, w'.cell? ⟨B1, o, none⟩ = #[fnV f1, fnV f2, fnV f3, fnV f4][o]?) ∧ Below w3.heap.size w3 w')
    (first
      | exact HMK.out _ (Below.refl _ _).drew
      | exact HMK.out _ (Below.refl _ _)
      | (go_split_ands; exact HMK.out _ (Below.chain hb (by assumption))))
    (first
      | (go_at_call 83; refine (num_dg _ _ ?_ ?_ _).mono ?_; (first | omega | assumption); (first | omega | assumption); rintro x w4 ⟨rfl, hb⟩)
      | (refine (HD.out _).mono ?_; rintro x w4 ⟨rfl, hb⟩))
  rename_i hHeld
  obtain ⟨_, _, hbb⟩ := hHeld
  have hw := HW.out
  rw [← HQ.out] at hw
  have hW := Below.chain hbb hw
  rw [ET.out]
  clear hb hbb hw L1 L2 L3 hs8 E2
  have hT2 : T.length ≤ 9223372036854775807 := by omega
  go_wp2_with fail
  refine (sum_crc T hT2 _).mono ?_
  rintro x w5 ⟨rfl, rfl⟩
  have hc := crcS_lt T
  have P4 : putS (crcS T : Nat) 4 = be (crcS T : Nat) 4 := putS_ok (crcS T : Nat) 4 (by omega) (by omega) (by omega)
  have P4e : putE (crcS T : Nat) 4 = 0 := by unfold putE; rw [if_neg (by decide), if_neg (by omega)]
  have L4 : (be (crcS T : Nat) 4).length = 4 := be_length _ _
  have HPc := Lib.hid (fun wx => put_any (crcS T : Nat) 4 (by omega) (by omega) wx)
  rw [P4, P4e] at HPc
  clear P4 P4e
  generalize (crcS T : Nat) = c at *
  generalize be (c : Int) 4 = bc at *
  go_wp2_with fail
  refine (HPc.out _).mono ?_
  rintro x w6 ⟨rfl, hb⟩
  have hW2 := Below.chain hb hW
  clear hb hW HPc
  have hsum : ¬ 9223372036854775807 < T.length + bc.length := by omega
  go_wp2_with fail
  go_ret2
  exact ⟨by simp only [app_lists]; rfl, hW2⟩
theorem putS_le : ∀ {d : Dg}, dgE d = 0 → (restS d).length ≤ 1029 := by
  intro d h
  obtain ⟨h1, h2, h3, h4⟩ := dgE_zero h
  unfold kdE at h3
  unfold restS
  by_cases c1 : d.kind = 1 ∨ d.kind = 2
  · rw [if_pos c1] at h3 ⊢
    have := shE_zero h3
    simp [be_length]
    omega
  · rw [if_neg c1] at h3 ⊢
    by_cases c2 : d.kind = 3
    · rw [if_pos c2] at h3 ⊢
      split at h3
      · omega
      · cases h3
    · rw [if_neg c2]
      by_cases c3 : d.kind = 4
      · rw [if_pos c3, be_length]; omega
      · rw [if_neg c3]; simp
theorem put_bad_dg (kind stream block index k n len credit : Int) (hv body : List UInt8) (E : Int) (hE : E ≠ 0)
    (HC : ∀ w, Calls Tryz.prog 80 #[.agg #[.int .i64 kind, .int .i64 stream, .int .u32 block, .int .i64 index, .int .i64 k, .int .i64 n, .int .i64 len, .int .i64 credit, Str hv, Str body]] w (RetB (.int .i64 E) w)) (w : World) :
    Calls Tryz.prog 64 #[.agg #[.int .i64 kind, .int .i64 stream, .int .u32 block, .int .i64 index, .int .i64 k, .int .i64 n, .int .i64 len, .int .i64 credit, Str hv, Str body]] w
    (RetB (.tuple #[Str [], .int .i64 E]) w) := by
  have HCk := Lib.hid HC
  have he : (E != 0) = true := by simpa using hE
  clear HC hE
  go_enter Tryz.func64, Tryz.ntmps64
  go_wp2_with fail
  refine (HCk.out _).mono ?_
  rintro e w1 ⟨rfl, hb⟩
  have hB := Below.chain hb (Below.chainAlloc (Below.refl _ _) _)
  clear hb
  go_wp2_with fail
  go_ret2
  exact ⟨rfl, hB⟩
/-- A datagram's bytes, or the error: the program's answer. -/
theorem put_dg (d : Dg) (hd : d.ok) (hh : d.have'.length ≤ 9223372036854775807) (hb : d.body.length ≤ 9223372036854775807) (w : World) : Calls Tryz.prog 64 #[d.val] w (RetB (.tuple #[Str (dgS d), .int .i64 (dgE d)]) w) := by
  have HC := check_dg d hh hb
  by_cases h0 : dgE d = 0
  · obtain ⟨h1, h2, h3, h4⟩ := dgE_zero h0
    have hR := putS_le h0
    have e : dgS d = rawS d ++ be (crcS (rawS d) : Nat) 4 := dgS_ok h0
    rw [e]
    rw [h0] at HC ⊢
    have hraw : [76, 83] ++ be d.kind 1 ++ be d.stream 1 ++ be d.block 4 ++ restS d = rawS d := rfl
    generalize rawS d = T at *
    have hb0 := hd.b0
    have hb1 := hd.b1
    obtain ⟨kind, stream, block, index, k, n, len, credit, hv, body⟩ := d
    simp only at h1 h2 hh hb hb0 hb1
    have hk := h3
    unfold kdE at hk
    by_cases c1 : kind = 1 ∨ kind = 2
    · simp only [if_pos c1] at hk
      have hs := shE_zero hk
      simp only at hs
      exact put_gen 106 107 108 112 kind stream block index k n len credit hv body _ (by omega) (by omega) (by omega) (by omega) (by omega) hb0 hb1 T hraw enS1 (of_sh kind c1) HC
        (fun w => by
          have h := put_sh kind stream block index k n len credit hv body (by omega) (by omega) (by omega) (by omega) (by omega) (by omega) (by omega) (by omega) (by omega) w
          unfold restS
          rw [if_pos c1]
          exact h) w
    · simp only [if_neg c1] at hk
      by_cases c2 : kind = 3
      · exact put_gen 114 115 116 117 kind stream block index k n len credit hv body _ (by omega) (by omega) (by omega) (by omega) (by omega) hb0 hb1 T hraw enN2 (of_nk kind c2) HC
          (fun w => by
            have h := put_nk kind stream block index k n len credit hv body w
            unfold restS
            rw [if_neg c1, if_pos c2]
            exact h) w
      · by_cases c3 : kind = 4
        · simp only [if_neg c2, if_pos c3] at hk
          have hcr : 0 ≤ credit ∧ credit ≤ 65535 := by
            split at hk
            · cases hk
            · omega
          exact put_gen 118 119 120 121 kind stream block index k n len credit hv body _ (by omega) (by omega) (by omega) (by omega) (by omega) hb0 hb1 T hraw enA2 (of_ak kind c3) HC
            (fun w => by
              have h := put_ak kind stream block index k n len credit hv body hcr.1 hcr.2 w
              unfold restS
              rw [if_neg c1, if_neg c2, if_pos c3]
              exact h) w
        · exact put_gen 122 123 124 113 kind stream block index k n len credit hv body _ (by omega) (by omega) (by omega) (by omega) (by omega) hb0 hb1 T hraw enP2 (of_pl kind (by omega)) HC
            (fun w => by
              have h := put_pl kind stream block index k n len credit hv body w
              unfold restS
              rw [if_neg c1, if_neg c2, if_neg c3]
              exact h) w
  · have e : dgS d = [] := by unfold dgS; rw [if_neg h0]
    rw [e]
    obtain ⟨kind, stream, block, index, k, n, len, credit, hv, body⟩ := d
    exact put_bad_dg kind stream block index k n len credit hv body _ h0 HC w
theorem size_dg (d : Dg) (hd : d.ok) (hh : d.have'.length ≤ 9223372036854775807) (hb : d.body.length ≤ 9223372036854775807) (w : World) : Calls Tryz.prog 40 #[d.val] w (RetB (.int .i64 (dgS d).length) w) := by
  have HP := Lib.hid (put_dg d hd hh hb)
  generalize dgS d = s at *
  generalize dgE d = z at *
  obtain ⟨kind, stream, block, index, k, n, len, credit, hv, body⟩ := d
  show Calls Tryz.prog 40 #[.agg #[.int .i64 kind, .int .i64 stream, .int .u32 block, .int .i64 index, .int .i64 k, .int .i64 n, .int .i64 len, .int .i64 credit, Str hv, Str body]] w _
  clear hd hh hb
  go_enter Tryz.func40, Tryz.ntmps40
  go_wp2_with fail
  refine (HP.out _).mono ?_
  rintro e w1 ⟨rfl, hb⟩
  have hB := Below.chain hb (Below.chainAlloc (Below.refl _ _) _)
  clear hb
  go_wp2_with fail
  go_ret
  exact ⟨rfl, hB⟩
end Go.Proofs.YtnmlmpffmjhihaaGreat
