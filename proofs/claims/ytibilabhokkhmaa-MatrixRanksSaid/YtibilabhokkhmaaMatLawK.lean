/-
  The law MatrixRanks returns true for every two tables of bytes. No condition.
-/
import Derived.Test.YtibilabhokkhmaaMatLawI
namespace Go.Proofs.Ytibilabhokkhmaa
open Go.ChangeShapes Go.WideShapes Go.ChangeAt Go.RowKit
set_option linter.unusedVariables false
set_option maxRecDepth 100000
set_option maxHeartbeats 4000000
theorem rkl_far (B : Nat) (va vb : Value) (M N : Tab) (w : World) (ha : MatAt B w va M) (hb : MatAt B w vb N) (h : fewL M 10 = false ∨ fewL M 10 = true ∧ fewL N 10 = false) :
    Calls Try.prog 8 #[va, vb] w (Yes w) := by
  have HA := Lib.hid ha
  have HB := Lib.hid hb
  clear ha hb
  rcases h with h | ⟨h, h2⟩
  · have H := Lib.hid h
    clear h
    go_enter Try.func8, Try.ntmps8
    go_wp2_with fail
    refine (few_any B va M 10 _ HA.out).mono ?_
    rw [H.out]
    rintro x w1 ⟨rfl, rfl⟩
    go_wp2_with fail
    refine (awake03 _).mono ?_
    rintro x w7 ⟨rfl, hb⟩
    go_wp2_with fail
    go_ret
    exact ⟨rfl, hb⟩
  · have H := Lib.hid h
    have H2 := Lib.hid h2
    clear h h2
    go_enter Try.func8, Try.ntmps8
    go_wp2_with fail
    refine (few_any B va M 10 _ HA.out).mono ?_
    rw [H.out]
    rintro x w1 ⟨rfl, rfl⟩
    go_wp2_with fail
    refine (few_any B vb N 10 _ HB.out).mono ?_
    rw [H2.out]
    rintro x w1 ⟨rfl, rfl⟩
    go_wp2_with fail
    refine (awake03 _).mono ?_
    rintro x w7 ⟨rfl, hb⟩
    go_wp2_with fail
    go_ret
    exact ⟨rfl, hb⟩
theorem rkl_bad (B : Nat) (va vb : Value) (M N : Tab) (w : World) (ha : MatAt B w va M) (hb : MatAt B w vb N) (h : fewL M 10 = true) (h2 : fewL N 10 = true) (hc : chkM M ≠ 0) :
    Calls Try.prog 8 #[va, vb] w (Yes w) := by
  have HA := Lib.hid ha
  have HB := Lib.hid hb
  have H := Lib.hid h
  have H2 := Lib.hid h2
  have hce : (chkM M != 0) = true := by simpa using hc
  have HV : Hid (rankV M = 0) := by
    show rankV M = 0
    unfold rankV
    rw [if_neg hc]
  clear ha hb h h2 hc
  go_enter Try.func8, Try.ntmps8
  go_wp2_with fail
  refine (few_any B va M 10 _ HA.out).mono ?_
  rw [H.out]
  rintro x w1 ⟨rfl, rfl⟩
  go_wp2_with fail
  refine (few_any B vb N 10 _ HB.out).mono ?_
  rw [H2.out]
  rintro x w1 ⟨rfl, rfl⟩
  go_wp2_with fail
  refine (rank_any B va M _ HA.out).mono ?_
  rintro x w1 ⟨rfl, hB⟩
  rw [HV.out]
  go_wp2_with fail
  refine (awake03 _).mono ?_
  rintro x w7 ⟨rfl, hb⟩
  replace hB := Below.chain hb hB
  clear hb
  go_wp2_with fail
  go_ret
  exact ⟨rfl, hB⟩
def turnRow (M : Tab) (j m : Nat) : List Nat := (List.range m).map fun i => entM M i j
def turnTo (M : Tab) (m : Nat) : Tab := (List.range m).map fun j => turnRow M j M.length
theorem turnRow_length (M : Tab) (j m : Nat) : (turnRow M j m).length = m := by simp [turnRow]
theorem turnTo_length (M : Tab) (m : Nat) : (turnTo M m).length = m := by simp [turnTo]
theorem turnTo_all (M : Tab) : turnTo M (wid M) = turnL M := rfl
theorem u8s_turn (M : Tab) (j m : Nat) : u8s (turnRow M j (m + 1)) = u8s (turnRow M j m) ++ [.int .u8 (entM M m j : Nat)] := by
  unfold turnRow u8s
  rw [List.range_succ]
  simp
theorem turnTo_succ (M : Tab) (m : Nat) : turnTo M (m + 1) = turnTo M m ++ [turnRow M m M.length] := by
  unfold turnTo
  rw [List.range_succ]
  simp
theorem turnRow_lt {M : Tab} (h : AllB M) (j m : Nat) : ∀ x ∈ turnRow M j m, x < 256 := fun x hx => by
  obtain ⟨i, _, rfl⟩ := List.mem_map.1 hx
  exact entM_lt h i j
theorem mulV_none {A Q : Tab} (h : mulE A Q ≠ 0) : mulV A Q = [] := by unfold mulV; rw [if_neg h]
theorem rkl_main (B : Nat) (va vb : Value) (A Q : Tab) (w : World) (ha : MatAt B w va A) (hb : MatAt B w vb Q) (h1 : fewL A 10 = true) (h2 : fewL Q 10 = true) (hc : chkM A = 0) :
    Calls Try.prog 8 #[va, vb] w (Yes w) := by
  have HA := Lib.hid ha
  have HQ := Lib.hid hb
  have H1 := Lib.hid h1
  have H2 := Lib.hid h2
  have HC := Lib.hid hc
  have hall := ha.all
  have hallQ := hb.all
  obtain ⟨k1, k2, k3, k4, k5, k6⟩ := ranks_law hc hall
  obtain ⟨⟨n1, n2⟩, ⟨a1, a2⟩, hwA⟩ := chkM_zero hc
  have K3 := Lib.hid k3
  have K4 := Lib.hid k4
  have K5 := Lib.hid k5
  have HALL := Lib.hid hall
  have HALLQ := Lib.hid hallQ
  have HWA := Lib.hid (wide_of hwA)
  have HMUL := Lib.hid (fun he : mulE A Q = 0 => ranks_mul hall hallQ he)
  have HNO := Lib.hid (fun he : mulE A Q ≠ 0 => mulV_none he)
  obtain ⟨aa, ca, rfl, hma, hcA⟩ := ha.at
  obtain ⟨ab, cb, rfl, hmb, -⟩ := hb.at
  obtain ⟨ga, oa, u0, rfl, hga, hck, hr0⟩ := hcA 0 (by omega)
  obtain ⟨ar, cr, rfl, -⟩ := hr0.at
  rw [HWA.out 0 (by omega), Nat.add_zero] at hck
  have HCK := Lib.hid hck
  obtain ⟨i0, hi, hz0, hz1, hz2⟩ := info_parts infoU8
  obtain ⟨j0, hj, hy0, hy1, hy2⟩ := info_parts infoRow
  clear ha hb h1 h2 hc hall hallQ k3 k4 k5 k6 hwA hcA hr0 hck
  go_enter Try.func8, Try.ntmps8
  go_wp2_with fail
  refine (few_any B _ A 10 _ HA.out).mono ?_
  rw [H1.out]
  rintro x w1 ⟨rfl, rfl⟩
  go_wp2_with fail
  refine (few_any B _ Q 10 _ HQ.out).mono ?_
  rw [H2.out]
  rintro x w1 ⟨rfl, rfl⟩
  go_wp2_with fail
  refine (rank_any B _ A _ HA.out).mono ?_
  rintro x w1 ⟨rfl, hB⟩
  rw [HC.out, K5.out]
  go_wp2_with fail
  go_loopg [7, 8, 9, 10] (wid A) (fun gk ov i _ _ wr => ∃ m : Nat, m ≤ wid A ∧ wid A ≤ m + gk ∧ i = .int .i64 m ∧ SegM wr w.heap.size ov (turnTo A m) ∧ Below w.heap.size w wr)
  case atStart => exact ⟨0, by omega, by omega, rfl, SegM.nil _ _, hB⟩
  case round =>
    clear hB
    obtain ⟨m, hm', hgm, rfl, hs, hB⟩ := hrel
    have htl : (turnTo A m).length = m := turnTo_length A m
    obtain ⟨ao, co, rfl⟩ := hs.form htl
    have hck := (hB.cell (p := ⟨ga, oa, none⟩) hga).trans HCK.out
    by_cases hlt : m < wid A
    · have HSN := Lib.hid (turnTo_succ A m)
      have HTK := Lib.hid htl
      clear htl
      generalize turnTo A m = T at *
      go_wp2_with fail
      obtain ⟨gb, hgb⟩ : ∃ gb, wr.heap.size = gb := ⟨_, rfl⟩
      have HGB := Lib.hid hgb
      clear hgb hck
      go_loopg [9, 10] A.length (fun g9 rv i wx => ∃ j : Nat, j ≤ A.length ∧ A.length ≤ j + g9 ∧ i = .int .i64 j ∧ Seg wx gb 5 1 rv j (u8s (turnRow A m j)) ∧ Below wr.heap.size wr wx)
      case atStart => exact ⟨0, by omega, by omega, rfl, Seg.nil _ _ _ _, Below.refl _ _⟩
      case round =>
        obtain ⟨j, hj', hgj, rfl, hseg, hbi⟩ := hrel
        obtain ⟨ar2, cr2, rfl⟩ := hseg.form
        have hgz : gb ≤ wr.heap.size := by have := hbi.size; rw [HGB.out] at this; exact this
        by_cases hjl : j < A.length
        · obtain ⟨_, _, e, -, hcq⟩ := ((HA.out.chain hB).chain hbi).at
          cases e
          obtain ⟨_, _, uq, e, hgq, hckq, hruq⟩ := hcq j hjl
          cases e
          obtain ⟨aq, cq, rfl, hc5⟩ := hruq.at
          have hwj := HWA.out j hjl
          rw [hwj] at hckq
          obtain ⟨gr, ofr, rfl, hgr, hc6⟩ := hc5 m (by rw [hwj]; exact hlt)
          rw [← entM_get A j m hjl (by rw [hwj]; exact hlt)] at hc6
          have HS2 := Lib.hid (u8s_turn A m j)
          have hd256 := entM_lt HALL.out j m
          clear hcq hruq hc5 hwj
          generalize u8s (turnRow A m j) = us at *
          generalize entM A j m = d at *
          go_wp2_with (at_builtin; refine wpList_append_seg _ rfl (.tmp 54) (.tmp 62) 24 rfl gb 5 i0 _ 1 1 Try.underlying24 hi hz0 hz1 hz2 rfl (by decide) (.slice ar2 j cr2) j us rfl (hseg.alloc _) ⟨wr.heap.size, 0, none⟩ 1 1 [.int .u8 (d : Nat)] rfl rfl (cells_new _ _ _) (by simp [Value.oneCell']) (by decide) (by unfold maxLen; omega) (by omega) (by simp; omega) (wr.heap.size + 1) (size_alloc _ _) ?_; intro g' off' cap' w4 hown hgrow hat)
          have hbb := Below.only (Below.chainAlloc hbi _) (Only.of_grown hgrow) (fun x hm => by rw [HGB.out]; exact (hseg.blk x (by simpa using hm)).1)
          clear hgrow hat hseg hbi hckq hc6
          go_wp2_with fail
          go_roundg (A.length - (j + 1))
          case measure => omega
          case rel => exact ⟨j + 1, by omega, by omega, by go_num, by rw [HS2.out]; exact hown, hbb⟩
        · obtain rfl : j = A.length := by omega
          have hrow := RowAt.of_seg hseg (turnRow_lt HALL.out _ _)
          replace hs := hs.chain hbi
          replace hB := Below.chain hbi hB
          have hbz : w.heap.size ≤ wr.heap.size := hB.size
          obtain ⟨vs, hv1, hv2, hv3⟩ := hs
          have hv2' := hv2
          rw [HTK.out] at hv2
          have hdj : ¬ A.length < A.length := by omega
          clear hbi hseg
          go_wp2_with (at_builtin; refine wpList_append_seg _ rfl (.tmp 64) (.tmp 66) 30 rfl w.heap.size 24 j0 _ 1 24 Try.underlying30 hj hy0 hy1 hy2 rfl (by decide) (.slice ao m co) m vs rfl (hv2.alloc _) ⟨wr.heap.size, 0, none⟩ 1 1 [.slice ar2 A.length cr2] rfl rfl (cells_new _ _ _) (by simp [Value.oneCell']) (by decide) (by unfold maxLen; omega) (by omega) (by simp; omega) (wr.heap.size + 1) (size_alloc _ _) ?_; intro g' off' cap' w4 hown2 hgrow2 hat2)
          have hbb := Below.only (Below.chainAlloc hB _) (Only.of_grown hgrow2) (fun x hm => (hv2.blk x (by simpa using hm)).1)
          have hsm := SegM.snoc hv1 hv2' hv3 hrow (by rw [HTK.out]; exact hown2) hgrow2
          rw [← HSN.out] at hsm
          clear hgrow2 hat2 hv2 hv2' hv3 hB hown2 hrow
          go_wp2_with fail
          go_roundg (wid A - (m + 1))
          case measure => omega
          case rel => exact ⟨m + 1, by omega, by omega, by go_num, hsm, hbb⟩
    · obtain rfl : m = wid A := by omega
      have hmt : MatAt 0 wr _ (turnL A) := hs.mat
      replace hmt := hmt.le (Nat.zero_le B)
      clear hs htl
      go_wp2_with fail
      refine (rank_any B _ (turnL A) _ hmt).mono ?_
      rintro x w2 ⟨rfl, hb⟩
      rw [K3.out, K4.out]
      replace hB := Below.chain hb hB
      clear hb hmt hck
      have hck := (hB.cell (p := ⟨ga, oa, none⟩) hga).trans HCK.out
      by_cases hme : mulE A Q = 0
      · obtain ⟨y1, y2, y3, y4, y5, y6⟩ := HMUL.out hme
        have hv5 := (rank_is y2 HALLQ.out).2
        have hv6 := (rank_is y3 y6).2
        have Y2 := Lib.hid y2
        have Y3 := Lib.hid y3
        have V5 := Lib.hid hv5
        have V6 := Lib.hid hv6
        have HME := Lib.hid hme
        have y4' : (rankM (mulV A Q) : Int) ≤ (rankM A : Int) := by exact_mod_cast y4
        have y5' : (rankM (mulV A Q) : Int) ≤ (rankM Q : Int) := by exact_mod_cast y5
        clear y1 y2 y3 y6 hv5 hv6 hme
        go_wp2_with fail
        refine (mul_tab B _ _ A Q _ (HA.out.chain hB) (HQ.out.chain hB)).mono ?_
        rintro x w3 ⟨p, rfl, mp, hb⟩
        rw [HME.out]
        replace hB := Below.chain hb hB
        clear hb hck
        go_wp2_with fail
        refine (rank_any B _ Q _ (HQ.out.chain hB)).mono ?_
        rintro x w4 ⟨rfl, hb⟩
        rw [Y2.out, V5.out]
        replace hB := Below.chain hb hB
        replace mp := (mp.chain hb).le (Nat.zero_le B)
        clear hb
        go_wp2_with fail
        refine (rank_any B _ (mulV A Q) _ mp).mono ?_
        rintro x w5 ⟨rfl, hb⟩
        rw [Y3.out, V6.out]
        replace hB := Below.chain hb hB
        clear hb mp
        go_wp2_with fail
        refine (awake03 _).mono ?_
        rintro x w7 ⟨rfl, hb⟩
        replace hB := Below.chain hb hB
        clear hb
        go_wp2_with fail
        go_ret
        exact ⟨rfl, hB⟩
      · have hce : (mulE A Q != 0) = true := by simpa using hme
        have HN := Lib.hid (HNO.out hme)
        clear hme
        go_wp2_with fail
        refine (mul_tab B _ _ A Q _ (HA.out.chain hB) (HQ.out.chain hB)).mono ?_
        rintro x w3 ⟨p, rfl, mp, hb⟩
        rw [HN.out] at mp
        obtain ⟨ap, cp, rfl, -, -⟩ := mp.at
        replace hB := Below.chain hb hB
        clear hb hck mp
        go_wp2_with fail
        refine (awake03 _).mono ?_
        rintro x w7 ⟨rfl, hb⟩
        replace hB := Below.chain hb hB
        clear hb
        go_wp2_with fail
        go_ret
        exact ⟨rfl, hB⟩
theorem walkRkl (B : Nat) (va vb : Value) (M N : Tab) (w : World) (ha : MatAt B w va M) (hb : MatAt B w vb N) :
    Calls Try.prog 8 #[va, vb] w (Yes w) := by
  cases h : fewL M 10 with
  | false => exact rkl_far B va vb M N w ha hb (.inl h)
  | true =>
    cases h2 : fewL N 10 with
    | false => exact rkl_far B va vb M N w ha hb (.inr ⟨h, h2⟩)
    | true =>
      by_cases hc : chkM M = 0
      · exact rkl_main B va vb M N w ha hb h h2 hc
      · exact rkl_bad B va vb M N w ha hb h h2 hc
namespace matrixRanks
theorem own : ownKnob Try.prog.godebug = none := by kernel_rfl
theorem laidOut : laidOutB Try.prog = true := by kernel_rfl
set_option maxRecDepth 100000 in
theorem lifted (os : Os) (started : os.Started) (H : Type) (enc : TypeId × Value → H) :
    ReturnsInHanded {} Try.checked os 8 .any (Rows.matrixRanksSpec.pre6 enc Try.prog Try.f8 Rows.matrixRanksRow.domain false) (Rows.matrixRanksSpec.post enc Try.prog Try.f8 false true false false) := by
  refine law_lift (C := Try.checked) (tb := 4) own started (by kernel_rfl) Try.func8 laidOut rfl Try.underlying4 rfl (by kernel_rfl) (fun ds h => by match ds, h with | [d1, d2], _ => rfl)
    (ChangeSpec.witness6 (enc := enc) (C := Try.checked) false ⟨#[], #[.slice none 0 0, .slice none 0 0], []⟩ 8 (by kernel_rfl) (by kernel_rfl) (by kernel_rfl) (by kernel_rfl)) ?_
  intro W base args ds ps hval hA
  rw [Try.params8] at hA hval
  obtain ⟨v0, v1, d0, d1, p0, p1, rfl, rfl, rfl, h0, h1⟩ := trodAll_two hA
  obtain ⟨aM, nM, cM, rfl⟩ := okWide_slice Try.underlying30 (hval 0 30 v0 rfl rfl)
  obtain ⟨M, rfl, wM⟩ := open_mat h0
  obtain ⟨aN, nN, cN, rfl⟩ := okWide_slice Try.underlying30 (hval 1 30 v1 rfl rfl)
  obtain ⟨N, rfl, wN⟩ := open_mat h1
  exact walkRkl _ _ _ M N W wM wN
theorem proved : Rows.MatrixRanksSaid :=
  OpenClaim.holds_of_wide 8 Try.f8 rfl rfl rfl rfl rfl rfl rfl ⟨rfl, rfl, rfl, rfl, rfl⟩ rfl rfl rfl rfl rfl (by kernel_rfl) Try.func8 (by kernel_rfl)
    (of_decide_eq_true (by kernel_rfl)) (by unfold Func.isWrapper; first | (rw [if_pos (by decide +kernel)]; kernel_rfl) | (rw [if_neg (by decide +kernel)]; exact ⟨rfl, rfl⟩))
    (fun os started H enc _ => lifted os started H enc)
end matrixRanks
#print axioms matrixRanks.proved
end Go.Proofs.Ytibilabhokkhmaa
