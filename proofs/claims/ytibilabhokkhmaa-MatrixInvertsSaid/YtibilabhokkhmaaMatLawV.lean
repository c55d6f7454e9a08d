/-
  The law MatrixInverts returns true for every table of bytes. No condition.
-/
import Derived.Test.YtibilabhokkhmaaMatLawI
namespace Go.Proofs.Ytibilabhokkhmaa
open Go.ChangeShapes Go.WideShapes Go.ChangeAt Go.RowKit
set_option linter.unusedVariables false
set_option maxRecDepth 100000
set_option maxHeartbeats 2000000
theorem ivl_far (B : Nat) (v : Value) (M : Tab) (w : World) (ha : MatAt B w v M) (h : fewL M 10 = false) :
    Calls Try.prog 6 #[v] w (Yes w) := by
  have HA := Lib.hid ha
  have H := Lib.hid h
  clear ha h
  go_enter Try.func6, Try.ntmps6
  go_wp2_with fail
  refine (few_any B v M 10 _ HA.out).mono ?_
  rw [H.out]
  rintro x w1 ⟨rfl, rfl⟩
  go_wp2_with fail
  refine (awake03 _).mono ?_
  rintro x w7 ⟨rfl, hb⟩
  go_wp2_with fail
  go_ret
  exact ⟨rfl, hb⟩
theorem invV_none {M : Tab} (h : invE M ≠ 0) : invV M = [] := by unfold invV; rw [if_neg h]
theorem ivl_other (B : Nat) (v : Value) (M : Tab) (w : World) (ha : MatAt B w v M) (h : fewL M 10 = true) (h0 : invE M ≠ 0) (h14 : invE M ≠ 14) :
    Calls Try.prog 6 #[v] w (Yes w) := by
  have HA := Lib.hid ha
  have H := Lib.hid h
  have HN := Lib.hid (invV_none h0)
  have e0 : (invE M != 0) = true := by simpa using h0
  have e1 : (invE M != 14) = true := by simpa using h14
  clear ha h h0 h14
  go_enter Try.func6, Try.ntmps6
  go_wp2_with fail
  refine (few_any B v M 10 _ HA.out).mono ?_
  rw [H.out]
  rintro x w1 ⟨rfl, rfl⟩
  go_wp2_with fail
  refine (invert_any B v M _ HA.out).mono ?_
  rintro x w1 ⟨x1, rfl, m1, hB⟩
  rw [HN.out] at m1
  obtain ⟨ax, cx, rfl, -, -⟩ := m1.at
  clear m1
  go_wp2_with fail
  refine (rank_any B v M _ (HA.out.chain hB)).mono ?_
  rintro x w2 ⟨rfl, hb⟩
  replace hB := Below.chain hb hB
  clear hb
  go_wp2_with fail
  refine (awake03 _).mono ?_
  rintro x w7 ⟨rfl, hb⟩
  replace hB := Below.chain hb hB
  clear hb
  go_wp2_with fail
  go_ret
  exact ⟨rfl, hB⟩
theorem ivl_sing (B : Nat) (v : Value) (M : Tab) (w : World) (ha : MatAt B w v M) (h : fewL M 10 = true) (h14 : invE M = 14) :
    Calls Try.prog 6 #[v] w (Yes w) := by
  have HA := Lib.hid ha
  have H := Lib.hid h
  have HN := Lib.hid (invV_none (M := M) (by omega))
  obtain ⟨s1, s2, s3⟩ := invert_sing ha.all h14
  have HC := Lib.hid s1
  have HV := Lib.hid s3
  have hlt : (rankM M : Int) < (M.length : Int) := by omega
  have H14 := Lib.hid h14
  obtain ⟨a, cap, rfl, hmx, -⟩ := ha.at
  clear ha h h14 s1 s2 s3
  go_enter Try.func6, Try.ntmps6
  go_wp2_with fail
  refine (few_any B _ M 10 _ HA.out).mono ?_
  rw [H.out]
  rintro x w1 ⟨rfl, rfl⟩
  go_wp2_with fail
  refine (invert_any B _ M _ HA.out).mono ?_
  rintro x w1 ⟨x1, rfl, m1, hB⟩
  rw [HN.out] at m1
  rw [H14.out]
  obtain ⟨ax, cx, rfl, -, -⟩ := m1.at
  clear m1
  go_wp2_with fail
  refine (rank_any B _ M _ (HA.out.chain hB)).mono ?_
  rintro x w2 ⟨rfl, hb⟩
  rw [HC.out, HV.out]
  replace hB := Below.chain hb hB
  clear hb
  go_wp2_with fail
  refine (awake03 _).mono ?_
  rintro x w7 ⟨rfl, hb⟩
  replace hB := Below.chain hb hB
  clear hb
  go_wp2_with fail
  go_ret
  exact ⟨rfl, hB⟩
theorem ivl_yes (B : Nat) (v : Value) (M : Tab) (w : World) (ha : MatAt B w v M) (h : fewL M 10 = true) (h0 : invE M = 0) :
    Calls Try.prog 6 #[v] w (Yes w) := by
  have HA := Lib.hid ha
  have H := Lib.hid h
  obtain ⟨l1, l2, l3, l4, l5⟩ := invert_law ha.all h0
  have L1 := Lib.hid l1
  have L2 := Lib.hid l2
  have L3 := Lib.hid l3
  have L4 := Lib.hid l4
  have L5 := Lib.hid (idE_ok l5)
  have H0 := Lib.hid h0
  obtain ⟨a, cap, rfl, hmx, -⟩ := ha.at
  clear ha h h0 l1 l2 l3 l4 l5
  go_enter Try.func6, Try.ntmps6
  go_wp2_with fail
  refine (few_any B _ M 10 _ HA.out).mono ?_
  rw [H.out]
  rintro x w1 ⟨rfl, rfl⟩
  go_wp2_with fail
  refine (invert_any B _ M _ HA.out).mono ?_
  rintro x w1 ⟨x1, rfl, m1, hB⟩
  rw [H0.out]
  replace m1 := m1.le (Nat.zero_le B)
  go_wp2_with fail
  refine (mul_tab B _ _ M (invV M) _ (HA.out.chain hB) m1).mono ?_
  rintro x w2 ⟨x2, rfl, m2, hb⟩
  rw [L1.out] at m2
  replace m1 := m1.chain hb
  replace hB := Below.chain hb hB
  clear hb
  go_wp2_with fail
  refine (mul_tab B _ _ (invV M) M _ m1 (HA.out.chain hB)).mono ?_
  rintro x w3 ⟨x3, rfl, m3, hb⟩
  rw [L2.out] at m3
  replace m1 := m1.chain hb
  replace m2 := m2.chain hb
  replace hB := Below.chain hb hB
  clear hb
  go_wp2_with fail
  refine (rident_at (M.length : Nat) _).mono ?_
  rintro x w4 ⟨x4, rfl, m4, hb⟩
  rw [L5.out.2] at m4
  replace m1 := m1.chain hb
  replace m2 := m2.chain hb
  replace m3 := m3.chain hb
  replace hB := Below.chain hb hB
  clear hb
  go_wp2_with fail
  refine (invert_any B _ (invV M) _ m1).mono ?_
  rintro x w5 ⟨x5, rfl, m5, hb⟩
  rw [L3.out]
  rw [L4.out] at m5
  replace m2 := m2.chain hb
  replace m3 := m3.chain hb
  replace m4 := m4.chain hb
  replace hB := Below.chain hb hB
  clear hb m1
  go_wp2_with fail
  refine (sameM_any _ m2 m4).mono ?_
  rw [sameM_self]
  rintro x w6 ⟨rfl, hd⟩
  replace m3 := m3.chain hd.below
  replace m4 := m4.chain hd.below
  replace m5 := m5.chain hd.below
  replace hB := Below.chain hd.below hB
  clear hd m2
  go_wp2_with fail
  refine (sameM_any _ m3 m4).mono ?_
  rw [sameM_self]
  rintro x w7 ⟨rfl, hd⟩
  replace m5 := m5.chain hd.below
  replace hB := Below.chain hd.below hB
  clear hd m3 m4
  go_wp2_with fail
  refine (sameM_any _ m5 (HA.out.chain hB)).mono ?_
  rw [sameM_self]
  rintro x w8 ⟨rfl, hd⟩
  replace hB := Below.chain hd.below hB
  clear hd m5
  go_wp2_with fail
  refine (awake03 _).mono ?_
  rintro x w9 ⟨rfl, hb⟩
  replace hB := Below.chain hb hB
  clear hb
  go_wp2_with fail
  go_ret
  exact ⟨rfl, hB⟩
theorem walkIvl (B : Nat) (v : Value) (M : Tab) (w : World) (ha : MatAt B w v M) : Calls Try.prog 6 #[v] w (Yes w) := by
  cases h : fewL M 10 with
  | false => exact ivl_far B v M w ha h
  | true =>
    by_cases h0 : invE M = 0
    · exact ivl_yes B v M w ha h h0
    · by_cases h14 : invE M = 14
      · exact ivl_sing B v M w ha h h14
      · exact ivl_other B v M w ha h h0 h14
namespace matrixInverts
theorem own : ownKnob Try.prog.godebug = none := by kernel_rfl
theorem laidOut : laidOutB Try.prog = true := by kernel_rfl
set_option maxRecDepth 100000 in
theorem lifted (os : Os) (started : os.Started) (H : Type) (enc : TypeId × Value → H) :
    ReturnsInHanded {} Try.checked os 6 .any (Rows.matrixInvertsSpec.pre6 enc Try.prog Try.f6 Rows.matrixInvertsRow.domain false) (Rows.matrixInvertsSpec.post enc Try.prog Try.f6 false true false false) := by
  refine law_lift (C := Try.checked) (tb := 4) own started (by kernel_rfl) Try.func6 laidOut rfl Try.underlying4 rfl (by kernel_rfl) (fun ds h => by match ds, h with | [d1], _ => rfl)
    (ChangeSpec.witness6 (enc := enc) (C := Try.checked) false ⟨#[], #[.slice none 0 0], []⟩ 8 (by kernel_rfl) (by kernel_rfl) (by kernel_rfl) (by kernel_rfl)) ?_
  intro W base args ds ps hval hA
  rw [Try.params6] at hA hval
  obtain ⟨v0, d0, rfl, rfl, h0⟩ := trodAll_one hA
  obtain ⟨aM, nM, cM, rfl⟩ := okWide_slice Try.underlying30 (hval 0 30 v0 rfl rfl)
  obtain ⟨M, rfl, wM⟩ := open_mat h0
  exact walkIvl _ _ M W wM
theorem proved : Rows.MatrixInvertsSaid :=
  OpenClaim.holds_of_wide 6 Try.f6 rfl rfl rfl rfl rfl rfl rfl ⟨rfl, rfl, rfl, rfl, rfl⟩ rfl rfl rfl rfl rfl (by kernel_rfl) Try.func6 (by kernel_rfl)
    (of_decide_eq_true (by kernel_rfl)) (by unfold Func.isWrapper; first | (rw [if_pos (by decide +kernel)]; kernel_rfl) | (rw [if_neg (by decide +kernel)]; exact ⟨rfl, rfl⟩))
    (fun os started H enc _ => lifted os started H enc)
end matrixInverts
#print axioms matrixInverts.proved
end Go.Proofs.Ytibilabhokkhmaa
