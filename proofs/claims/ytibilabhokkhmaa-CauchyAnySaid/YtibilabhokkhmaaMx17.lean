/-
  Tables of bytes: products by the document: contract (chapter 3).
-/
import Derived.Test.YtibilabhokkhmaaMx16
namespace Go.Proofs.Ytibilabhokkhmaa
open Go.RowKit
set_option linter.unusedVariables false
set_option maxRecDepth 100000
set_option maxHeartbeats 4000000
theorem rmul_tab (B : Nat) (va vb : Value) (A Q : Tab) (w : World) (ha : MatAt B w va A) (hb : MatAt B w vb Q) : Calls Try.prog 24 #[va, vb] w (MulPost A Q w) := by
  have ha0 := ha
  have hb0 := hb
  obtain ⟨aa, ca, rfl, hma, -⟩ := ha.at
  obtain ⟨ab, cb, rfl, hmb, -⟩ := hb.at
  clear ha hb
  by_cases hca : chkM A = 0
  · by_cases hcq : chkM Q = 0
    · obtain ⟨⟨n1, n2⟩, ⟨a1, a2⟩, hwA⟩ := chkM_zero hca
      obtain ⟨⟨q1, q2⟩, ⟨b1, b2⟩, hwQ⟩ := chkM_zero hcq
      have HCA := Lib.hid hca
      have HCQ := Lib.hid hcq
      have HWA := Lib.hid (wide_of hwA)
      have HWQ := Lib.hid (wide_of hwQ)
      obtain ⟨_, _, e, -, hcA⟩ := ha0.at
      cases e
      obtain ⟨ga, oa, u0, rfl, hga, hck, hr0⟩ := hcA 0 (by omega)
      obtain ⟨ar, cr, rfl, -⟩ := hr0.at
      rw [HWA.out 0 (by omega), Nat.add_zero] at hck
      have hck2 := fun w' (hb : Below w.heap.size w w') => (hb.cell (p := ⟨ga, oa, none⟩) hga).trans hck
      have HCK := Lib.hid hck2
      by_cases hl : wid A = Q.length
      · have hne : ((wid A : Int) != (Q.length : Int)) = false := by simp; omega
        have HP : Hid (∀ wx v, MatAt 0 wx v (mulT A Q) → Below w.heap.size w wx → MulPost A Q w (.returned (.tuple #[v, .int .i64 0])) wx) := fun wx v hm hx => MulPost.yes (mulE_ok hca hcq hl) hm hx
        have HTL := Lib.hid (mulT_length A Q)
        have HL := Lib.hid hl
        obtain ⟨i0, hi, hz0, hz1, hz2⟩ := info_parts infoU8
        obtain ⟨j0, hj, hy0, hy1, hy2⟩ := info_parts infoRow
        clear hca hcq hwA hwQ hcA hr0 hl hck hck2
        go_enter Try.func24, Try.ntmps24
        go_wp2_with fail
        refine (rcheck_any B _ A _ ha0).mono ?_
        rw [HCA.out]
        rintro e wa ⟨rfl, hd⟩
        have hB := hd.below
        clear hd
        go_wp2_with fail
        refine (rcheck_any B _ Q _ (hb0.chain hB)).mono ?_
        rw [HCQ.out]
        rintro e wb ⟨rfl, hd⟩
        replace hB := Below.chain hd.below hB
        have hck := HCK.out _ hB
        clear hd
        go_wp2_with fail
        clear hck
        go_loopg [8, 9, 10, 11, 12, 13] A.length (fun gk ov i _ _ _ _ wr => ∃ m : Nat, m ≤ A.length ∧ A.length ≤ m + gk ∧ i = .int .i64 m ∧ SegM wr w.heap.size ov ((mulT A Q).take m) ∧ Below w.heap.size w wr)
        case atStart => exact ⟨0, by omega, by omega, rfl, SegM.nil _ _, hB⟩
        case round =>
          clear hB
          obtain ⟨m, hm', hgm, rfl, hs, hB⟩ := hrel
          have htl : ((mulT A Q).take m).length = m := by rw [List.length_take, HTL.out]; omega
          obtain ⟨ao, co, rfl⟩ := hs.form htl
          by_cases hlt : m < A.length
          · have hsn : (mulT A Q).take (m + 1) = (mulT A Q).take m ++ [mulSo A[m] Q Q.length] := by
              rw [List.take_succ_eq_append_getElem (by rw [HTL.out]; exact hlt)]
              simp [mulT]
            have HSN := Lib.hid hsn
            have HTK := Lib.hid htl
            obtain ⟨_, _, e, -, hc⟩ := (ha0.chain hB).at
            cases e
            obtain ⟨_, _, u, e, hg, hck, hru⟩ := hc m hlt
            cases e
            obtain ⟨au, cu, rfl, -⟩ := hru.at
            rw [HWA.out m hlt] at hck hru
            have HWM := Lib.hid (HWA.out m hlt)
            have HQ := Lib.hid (hb0.chain hB)
            have HCKM := Lib.hid hck
            clear hc hsn htl hck
            generalize (mulT A Q).take m = T at *
            generalize A[m] = rm at *
            go_wp2_with fail
            obtain ⟨gb, hgb⟩ : ∃ gb, wr.heap.size = gb := ⟨_, rfl⟩
            have HGB := Lib.hid hgb
            clear hgb
            go_loopg [10, 11, 12, 13] (wid Q) (fun g9 rv i _ _ wx => ∃ j : Nat, j ≤ wid Q ∧ wid Q ≤ j + g9 ∧ i = .int .i64 j ∧ Seg wx gb 5 1 rv j (u8s ((mulSo rm Q Q.length).take j)) ∧ Below wr.heap.size wr wx)
            case atStart => exact ⟨0, by omega, by omega, rfl, Seg.nil _ _ _ _, Below.refl _ _⟩
            case round =>
              obtain ⟨j, hj', hgj, rfl, hseg, hbi⟩ := hrel
              obtain ⟨ar2, cr2, rfl⟩ := hseg.form
              have hgz : gb ≤ wr.heap.size := by have := hbi.size; rw [HGB.out] at this; exact this
              obtain ⟨_, _, e, -, hcq⟩ := (HQ.out.chain hbi).at
              cases e
              obtain ⟨gq, oq, uq, rfl, hgq, hckq, hruq⟩ := hcq 0 (by omega)
              obtain ⟨aq, cq, rfl, -⟩ := hruq.at
              rw [HWQ.out 0 (by omega), Nat.add_zero] at hckq
              clear hcq hruq
              by_cases hjw : j < wid Q
              · have hsn2 := u8s_take_snoc (mulSo rm Q Q.length) j (by rw [mulSo_length]; exact hjw)
                rw [show (mulSo rm Q Q.length)[j]'(by rw [mulSo_length]; exact hjw) = dotS rm Q j Q.length by simp [mulSo]] at hsn2
                have HS2 := Lib.hid hsn2
                have HWB := Lib.hid hbi
                have HRU := Lib.hid hru
                clear hsn2
                generalize u8s ((mulSo rm Q Q.length).take j) = us at *
                go_wp2_with fail
                clear hckq
                go_loopg [12, 13] Q.length (fun g3 xv i wx => ∃ k : Nat, k ≤ Q.length ∧ Q.length ≤ k + g3 ∧ i = .int .i64 k ∧ xv = .int .u8 (dotS rm Q j k : Nat) ∧ Drawn wr wx)
                case atStart => exact ⟨0, by omega, by omega, rfl, rfl, Drawn.refl _⟩
                case round =>
                  obtain ⟨k, hk, hgk, rfl, rfl, hd⟩ := hrel
                  have hbd := hd.below
                  by_cases hkq : k < Q.length
                  · have hb2 := Below.chain hbd HWB.out
                    have hkA : k < wid A := by rw [HL.out]; exact hkq
                    obtain ⟨_, _, e, -, hc⟩ := (ha0.chain hB).at
                    cases e
                    have hcA := (hb2.cell (p := ⟨ga, oa + m, none⟩) hg).trans HCKM.out
                    obtain ⟨_, _, e, hc1⟩ := (HRU.out.chain hb2).at
                    rw [HWM.out] at e
                    cases e
                    obtain ⟨gr, ofr, rfl, hgr, hc2⟩ := hc1 k (by rw [HWM.out, HL.out]; exact hkq)
                    obtain ⟨_, _, e, -, hc3⟩ := (HQ.out.chain hb2).at
                    cases e
                    obtain ⟨_, _, uq, e, hgq2, hc4, hrq⟩ := hc3 k hkq
                    cases e
                    obtain ⟨aq2, cq2, rfl, hc5⟩ := hrq.at
                    obtain ⟨gr2, ofr2, rfl, hgr2, hc6⟩ := hc5 j (by rw [HWQ.out k hkq]; exact hjw)
                    rw [HWQ.out k hkq] at hc4
                    have hy : rm[k]'(by rw [HWM.out, HL.out]; exact hkq) < 256 := HRU.out.2 _ (by simp)
                    have hz : Q[k][j]'(by rw [HWQ.out k hkq]; exact hjw) < 256 := hrq.2 _ (by simp)
                    have hds := dotS_succ rm Q j k
                    rw [getD_get rm k 0 (by rw [HWM.out, HL.out]; exact hkq), entM_get Q k j hkq (by rw [HWQ.out k hkq]; exact hjw)] at hds
                    have HDS := Lib.hid hds
                    have hxx := u8_xor_nat (dotS rm Q j k) (gm (rm[k]'(by rw [HWM.out, HL.out]; exact hkq)) (Q[k][j]'(by rw [HWQ.out k hkq]; exact hjw))) (dotS_lt _ _ _ _) (gm_lt _ _)
                    clear hc hc1 hc3 hc5 hrq hds
                    generalize dotS rm Q j k = d at *
                    generalize rm[k]'(by rw [HWM.out, HL.out]; exact hkq) = y at *
                    generalize Q[k][j]'(by rw [HWQ.out k hkq]; exact hjw) = z at *
                    go_upto_region 21 with fail
                    go_quiet ((go_at_call 48; refine Calls.quiet_of_same ((rmul_any y z hy hz _).mono fun _ _ h => ⟨h.1, h.2.symm⟩)))
                    go_wp2_with fail
                    go_roundg (Q.length - (k + 1))
                    case measure => omega
                    case rel => exact ⟨k + 1, by omega, by omega, by go_num, by rw [HDS.out], hd.trans (Drawn.of_drewN _ _)⟩
                  · obtain rfl : k = Q.length := by omega
                    replace hseg := hseg.chain hbd
                    have hbb0 := Below.chain hbd HWB.out
                    have hgz2 : gb ≤ wr.heap.size := by have := hbb0.size; rw [HGB.out] at this; exact this
                    have hkd : ¬ Q.length < Q.length := by omega
                    clear hbd hd
                    generalize dotS rm Q j Q.length = d at *
                    go_wp2_with (at_builtin; refine wpList_append_seg _ rfl (.tmp 68) (.tmp 70) 24 rfl gb 5 i0 _ 1 1 Try.underlying24 hi hz0 hz1 hz2 rfl (by decide) (.slice ar2 j cr2) j us rfl (hseg.alloc _) ⟨wr.heap.size, 0, none⟩ 1 1 [.int .u8 (d : Nat)] rfl rfl (cells_new _ _ _) (by simp [Value.oneCell']) (by decide) (by unfold maxLen; omega) (by omega) (by simp; omega) (wr.heap.size + 1) (size_alloc _ _) ?_; intro g' off' cap' w4 hown hgrow hat)
                    have hbb := Below.only (Below.chainAlloc hbb0 _) (Only.of_grown hgrow) (fun x hm => by rw [HGB.out]; exact (hseg.blk x (by simpa using hm)).1)
                    clear hgrow hat hseg hbb0
                    go_wp2_with fail
                    go_roundg (wid Q - (j + 1))
                    case measure => omega
                    case rel => exact ⟨j + 1, by omega, by omega, by go_num, by rw [HS2.out]; exact hown, hbb⟩
              · obtain rfl : j = wid Q := by omega
                rw [List.take_of_length_le (by rw [mulSo_length]; exact Nat.le_refl _)] at hseg
                have hrow := RowAt.of_seg hseg (mulSo_lt _ _ _)
                replace hs := hs.chain hbi
                replace hB := Below.chain hbi hB
                have hbz : w.heap.size ≤ wr.heap.size := hB.size
                obtain ⟨vs, hv1, hv2, hv3⟩ := hs
                have hv2' := hv2
                rw [HTK.out] at hv2
                have hdj : ¬ wid Q < wid Q := by omega
                clear hbi hseg
                go_wp2_with (at_builtin; refine wpList_append_seg _ rfl (.tmp 72) (.tmp 74) 30 rfl w.heap.size 24 j0 _ 1 24 Try.underlying30 hj hy0 hy1 hy2 rfl (by decide) (.slice ao m co) m vs rfl (hv2.alloc _) ⟨wr.heap.size, 0, none⟩ 1 1 [.slice ar2 (wid Q) cr2] rfl rfl (cells_new _ _ _) (by simp [Value.oneCell']) (by decide) (by unfold maxLen; omega) (by omega) (by simp; omega) (wr.heap.size + 1) (size_alloc _ _) ?_; intro g' off' cap' w4 hown2 hgrow2 hat2)
                have hbb := Below.only (Below.chainAlloc hB _) (Only.of_grown hgrow2) (fun x hm => (hv2.blk x (by simpa using hm)).1)
                have hsm := SegM.snoc hv1 hv2' hv3 hrow (by rw [HTK.out]; exact hown2) hgrow2
                rw [← HSN.out] at hsm
                clear hgrow2 hat2 hv2 hv2' hv3 hB hown2 hrow
                go_wp2_with fail
                go_roundg (A.length - (m + 1))
                case measure => omega
                case rel => exact ⟨m + 1, by omega, by omega, by go_num, hsm, hbb⟩
          · obtain rfl : m = A.length := by omega
            rw [List.take_of_length_le (by rw [HTL.out]; exact Nat.le_refl _)] at hs
            have HF := Lib.hid (HP.out wr _ hs.mat hB)
            clear hs htl
            go_wp2_with fail
            go_ret2
            exact HF.out
      · have hne : ((wid A : Int) != (Q.length : Int)) = true := by simp; omega
        have HP : Hid (∀ wx, Below w.heap.size w wx → MulPost A Q w (.returned (.tuple #[.slice none 0 0, .int .i64 16])) wx) := fun wx hx => MulPost.no (mulE_l hca hcq hl) (by decide) hx
        clear hca hcq hwA hwQ hcA hr0 hl hck hck2
        generalize wid A = x at *
        go_enter Try.func24, Try.ntmps24
        go_wp2_with fail
        refine (rcheck_any B _ A _ ha0).mono ?_
        rw [HCA.out]
        rintro e wa ⟨rfl, hd⟩
        have hB := hd.below
        clear hd
        go_wp2_with fail
        refine (rcheck_any B _ Q _ (hb0.chain hB)).mono ?_
        rw [HCQ.out]
        rintro e wb ⟨rfl, hd⟩
        replace hB := Below.chain hd.below hB
        have hck := HCK.out _ hB
        clear hd
        go_wp2_with fail
        go_ret2
        exact HP.out _ hB
    · have hce : (chkM Q != 0) = true := by simpa using hcq
      have HP : Hid (∀ wx, Below w.heap.size w wx → MulPost A Q w (.returned (.tuple #[.slice none 0 0, .int .i64 (chkM Q)])) wx) := fun wx hx => MulPost.no (mulE_q hca hcq) hcq hx
      have HCA := Lib.hid hca
      clear hca hcq
      go_enter Try.func24, Try.ntmps24
      go_wp2_with fail
      refine (rcheck_any B _ A _ ha0).mono ?_
      rw [HCA.out]
      rintro e wa ⟨rfl, hd⟩
      have hB := hd.below
      clear hd
      go_wp2_with fail
      refine (rcheck_any B _ Q _ (hb0.chain hB)).mono ?_
      rintro e wb ⟨rfl, hd⟩
      have HF := Lib.hid (HP.out _ (Below.chain hd.below hB))
      clear hd hB
      generalize chkM Q = z at *
      go_wp2_with fail
      go_ret2
      exact HF.out
  · have hce : (chkM A != 0) = true := by simpa using hca
    have HP : Hid (∀ wx, Below w.heap.size w wx → MulPost A Q w (.returned (.tuple #[.slice none 0 0, .int .i64 (chkM A)])) wx) := fun wx hx => MulPost.no (mulE_a hca) hca hx
    clear hca
    go_enter Try.func24, Try.ntmps24
    go_wp2_with fail
    refine (rcheck_any B _ A _ ha0).mono ?_
    rintro e wa ⟨rfl, hd⟩
    have HF := Lib.hid (HP.out _ hd.below)
    clear hd
    generalize chkM A = z at *
    go_wp2_with fail
    go_ret2
    exact HF.out
end Go.Proofs.Ytibilabhokkhmaa
