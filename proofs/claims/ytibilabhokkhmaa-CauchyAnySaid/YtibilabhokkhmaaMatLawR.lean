/-
  The law MatrixReckons returns true for every two tables of bytes. No condition.
-/
import Derived.Test.YtibilabhokkhmaaMatOpen
import Derived.Test.YtibilabhokkhmaaChecked
namespace Go.Proofs.Ytibilabhokkhmaa
open Go.ChangeShapes Go.WideShapes Go.ChangeAt Go.RowKit
set_option linter.unusedVariables false
set_option maxRecDepth 100000
set_option maxHeartbeats 2000000
theorem sameM_self (l : Tab) : sameMB l l = true := decide_eq_true rfl
theorem reck_far (B : Nat) (va vb : Value) (M N : Tab) (w : World) (ha : MatAt B w va M) (hb : MatAt B w vb N) (h : fewL M 12 = false ∨ fewL M 12 = true ∧ fewL N 12 = false) :
    Calls Try.prog 5 #[va, vb] w (Yes w) := by
  have HA := Lib.hid ha
  have HB := Lib.hid hb
  clear ha hb
  rcases h with h | ⟨h, h2⟩
  · have H := Lib.hid h
    clear h
    go_enter Try.func5, Try.ntmps5
    go_wp2_with fail
    refine (few_any B va M 12 _ HA.out).mono ?_
    rw [H.out]
    rintro x w1 ⟨rfl, rfl⟩
    go_wp2_with fail
    refine (awake03 _).mono ?_
    rintro x w7 ⟨rfl, hb⟩
    go_wp2_with fail
    go_ret
    exact ⟨rfl, hb⟩
  · have H := Lib.hid h
    have H2 := Lib.hid h2
    clear h h2
    go_enter Try.func5, Try.ntmps5
    go_wp2_with fail
    refine (few_any B va M 12 _ HA.out).mono ?_
    rw [H.out]
    rintro x w1 ⟨rfl, rfl⟩
    go_wp2_with fail
    refine (few_any B vb N 12 _ HB.out).mono ?_
    rw [H2.out]
    rintro x w1 ⟨rfl, rfl⟩
    go_wp2_with fail
    refine (awake03 _).mono ?_
    rintro x w7 ⟨rfl, hb⟩
    go_wp2_with fail
    go_ret
    exact ⟨rfl, hb⟩
theorem reck_near (B : Nat) (va vb : Value) (M N : Tab) (w : World) (ha : MatAt B w va M) (hb : MatAt B w vb N) (h : fewL M 12 = true) (h2 : fewL N 12 = true) :
    Calls Try.prog 5 #[va, vb] w (Yes w) := by
  have H := Lib.hid h
  have H2 := Lib.hid h2
  have HA := Lib.hid ha
  have HB := Lib.hid hb
  clear h h2 ha hb
  go_enter Try.func5, Try.ntmps5
  go_wp2_with fail
  refine (few_any B va M 12 _ HA.out).mono ?_
  rw [H.out]
  rintro x w1 ⟨rfl, rfl⟩
  go_wp2_with fail
  refine (few_any B vb N 12 _ HB.out).mono ?_
  rw [H2.out]
  rintro x w1 ⟨rfl, rfl⟩
  go_wp2_with fail
  refine (mul_tab B va vb M N _ HA.out HB.out).mono ?_
  rintro x w1 ⟨x1, rfl, m1, hB⟩
  go_wp2_with fail
  refine (rmul_tab B va vb M N _ (HA.out.chain hB) (HB.out.chain hB)).mono ?_
  rintro x w2 ⟨x2, rfl, m2, hb⟩
  replace m1 := m1.chain hb
  replace hB := Below.chain hb hB
  clear hb
  go_wp2_with fail
  refine (rank_any B va M _ (HA.out.chain hB)).mono ?_
  rintro x w3 ⟨rfl, hb⟩
  replace m1 := m1.chain hb
  replace m2 := m2.chain hb
  replace hB := Below.chain hb hB
  clear hb
  go_wp2_with fail
  refine (rrank_any B va M _ (HA.out.chain hB)).mono ?_
  rintro x w4 ⟨rfl, hb⟩
  replace m1 := m1.chain hb
  replace m2 := m2.chain hb
  replace hB := Below.chain hb hB
  clear hb
  go_wp2_with fail
  refine (invert_any B va M _ (HA.out.chain hB)).mono ?_
  rintro x w5 ⟨x3, rfl, m3, hb⟩
  replace m1 := m1.chain hb
  replace m2 := m2.chain hb
  replace hB := Below.chain hb hB
  clear hb
  go_wp2_with fail
  refine (rinvert_any B va M _ (HA.out.chain hB)).mono ?_
  rintro x w6 ⟨x4, rfl, m4, hb⟩
  replace m1 := m1.chain hb
  replace m2 := m2.chain hb
  replace m3 := m3.chain hb
  replace hB := Below.chain hb hB
  clear hb
  go_wp2_with fail
  refine (check_any B va M _ (HA.out.chain hB)).mono ?_
  rintro x w7 ⟨rfl, rfl⟩
  go_wp2_with fail
  refine (rcheck_any B va M _ (HA.out.chain hB)).mono ?_
  rintro x w7 ⟨rfl, hd⟩
  replace m1 := m1.chain hd.below
  replace m2 := m2.chain hd.below
  replace m3 := m3.chain hd.below
  replace m4 := m4.chain hd.below
  replace hB := Below.chain hd.below hB
  clear hd
  go_wp2_with fail
  refine (sameM_any _ m1 m2).mono ?_
  rw [sameM_self]
  rintro x w8 ⟨rfl, hd⟩
  replace m3 := m3.chain hd.below
  replace m4 := m4.chain hd.below
  replace hB := Below.chain hd.below hB
  clear hd m1 m2
  go_wp2_with fail
  refine (sameM_any _ m3 m4).mono ?_
  rw [sameM_self]
  rintro x w9 ⟨rfl, hd⟩
  replace hB := Below.chain hd.below hB
  clear hd m3 m4
  go_wp2_with fail
  refine (awake03 _).mono ?_
  rintro x w10 ⟨rfl, hb⟩
  replace hB := Below.chain hb hB
  clear hb
  go_wp2_with fail
  go_ret
  exact ⟨rfl, hB⟩
theorem walkReck (B : Nat) (va vb : Value) (M N : Tab) (w : World) (ha : MatAt B w va M) (hb : MatAt B w vb N) :
    Calls Try.prog 5 #[va, vb] w (Yes w) := by
  cases h : fewL M 12 with
  | false => exact reck_far B va vb M N w ha hb (.inl h)
  | true =>
    cases h2 : fewL N 12 with
    | false => exact reck_far B va vb M N w ha hb (.inr ⟨h, h2⟩)
    | true => exact reck_near B va vb M N w ha hb h h2
namespace matrixReckons
theorem own : ownKnob Try.prog.godebug = none := by kernel_rfl
theorem laidOut : laidOutB Try.prog = true := by kernel_rfl
set_option maxRecDepth 100000 in
theorem lifted (os : Os) (started : os.Started) (H : Type) (enc : TypeId × Value → H) :
    ReturnsInHanded {} Try.checked os 5 .any (Rows.matrixReckonsSpec.pre6 enc Try.prog Try.f5 Rows.matrixReckonsRow.domain false) (Rows.matrixReckonsSpec.post enc Try.prog Try.f5 false true false false) := by
  refine law_lift (C := Try.checked) (tb := 4) own started (by kernel_rfl) Try.func5 laidOut rfl Try.underlying4 rfl (by kernel_rfl) (fun ds h => by match ds, h with | [d1, d2], _ => rfl)
    (ChangeSpec.witness6 (enc := enc) (C := Try.checked) false ⟨#[], #[.slice none 0 0, .slice none 0 0], []⟩ 8 (by kernel_rfl) (by kernel_rfl) (by kernel_rfl) (by kernel_rfl)) ?_
  intro W base args ds ps hval hA
  rw [Try.params5] at hA hval
  obtain ⟨v0, v1, d0, d1, p0, p1, rfl, rfl, rfl, h0, h1⟩ := trodAll_two hA
  obtain ⟨aM, nM, cM, rfl⟩ := okWide_slice Try.underlying30 (hval 0 30 v0 rfl rfl)
  obtain ⟨M, rfl, wM⟩ := open_mat h0
  obtain ⟨aN, nN, cN, rfl⟩ := okWide_slice Try.underlying30 (hval 1 30 v1 rfl rfl)
  obtain ⟨N, rfl, wN⟩ := open_mat h1
  exact walkReck _ _ _ M N W wM wN
theorem proved : Rows.MatrixReckonsSaid :=
  OpenClaim.holds_of_wide 5 Try.f5 rfl rfl rfl rfl rfl rfl rfl ⟨rfl, rfl, rfl, rfl, rfl⟩ rfl rfl rfl rfl rfl (by kernel_rfl) Try.func5 (by kernel_rfl)
    (of_decide_eq_true (by kernel_rfl)) (by unfold Func.isWrapper; first | (rw [if_pos (by decide +kernel)]; kernel_rfl) | (rw [if_neg (by decide +kernel)]; exact ⟨rfl, rfl⟩))
    (fun os started H enc _ => lifted os started H enc)
end matrixReckons
#print axioms matrixReckons.proved
end Go.Proofs.Ytibilabhokkhmaa
