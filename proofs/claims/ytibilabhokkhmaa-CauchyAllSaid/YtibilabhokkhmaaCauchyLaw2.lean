/-
  The law CauchyAll returns true for every k and n. No condition.
-/
import Derived.Test.YtibilabhokkhmaaCauchyLaw
namespace Go.Proofs.Ytibilabhokkhmaa
open Go.ChangeShapes Go.WideShapes Go.ChangeAt Go.RowKit
set_option linter.unusedVariables false
set_option maxRecDepth 100000
set_option maxHeartbeats 2000000
theorem walkAll (k n : Int) (w : World) : Calls Try.prog 4 #[.int .i64 k, .int .i64 n] w fun e w' => e = .returned (.bool true) ∧ Below w.heap.size w w' := by
  go_enter Try.func4, Try.ntmps4
  go_wp2_with fail
  refine (crows_any k n _).mono ?_
  rintro x w1 ⟨p1, rfl, m1, hB⟩
  go_wp2_with fail
  refine (rrows_any k n _).mono ?_
  rintro x w2 ⟨p2, rfl, m2, hb2⟩
  replace m1 := m1.chain hb2
  replace hB := Below.chain hb2 hB
  clear hb2
  go_wp2_with fail
  refine (sameM_any _ m1 m2).mono ?_
  rw [sameMB_self]
  rintro x w6 ⟨rfl, hd⟩
  replace hB := Below.chain hd.below hB
  clear hd m1 m2
  go_wp2_with fail
  refine (awake04 _).mono ?_
  rintro x w7 ⟨rfl, hb⟩
  replace hB := Below.chain hb hB
  clear hb
  go_wp2_with fail
  go_ret
  exact ⟨rfl, hB⟩
namespace cauchyAll
theorem own : ownKnob Try.prog.godebug = none := by kernel_rfl
theorem laidOut : laidOutB Try.prog = true := by kernel_rfl
set_option maxRecDepth 100000 in
theorem lifted (os : Os) (started : os.Started) (H : Type) (enc : TypeId × Value → H) :
    ReturnsInHanded {} Try.checked os 4 .any (Rows.cauchyAllSpec.pre6 enc Try.prog Try.f4 Rows.cauchyAllRow.domain false) (Rows.cauchyAllSpec.post enc Try.prog Try.f4 false true false false) := by
  refine law_lift (C := Try.checked) (tb := 4) own started (by kernel_rfl) Try.func4 laidOut rfl Try.underlying4 rfl (by kernel_rfl) (fun ds h => by match ds, h with | [d1, d2], _ => rfl)
    (ChangeSpec.witness6 (enc := enc) (C := Try.checked) false ⟨#[], #[.int .i64 0, .int .i64 0], []⟩ 8 (by kernel_rfl) (by kernel_rfl) (by kernel_rfl) (by kernel_rfl)) ?_
  intro W base args ds ps hval hA
  rw [Try.params4] at hA hval
  obtain ⟨v0, v1, d0, d1, p0, p1, rfl, rfl, rfl, h0, h1⟩ := trodAll_two hA
  obtain ⟨k, rfl, rfl, rfl, wk⟩ := open_int Try.underlying3 (hval 0 3 v0 rfl rfl) h0
  replace wk := by simpa [Lit.wf, IntKind.min, IntKind.max, IntKind.signed, IntKind.bits] using wk
  obtain ⟨n, rfl, rfl, rfl, wn⟩ := open_int Try.underlying3 (hval 1 3 v1 rfl rfl) h1
  replace wn := by simpa [Lit.wf, IntKind.min, IntKind.max, IntKind.signed, IntKind.bits] using wn
  exact walkAll k n W
theorem proved : Rows.CauchyAllSaid :=
  OpenClaim.holds_of_wide 4 Try.f4 rfl rfl rfl rfl rfl rfl rfl ⟨rfl, rfl, rfl, rfl, rfl⟩ rfl rfl rfl rfl rfl (by kernel_rfl) Try.func4 (by kernel_rfl)
    (of_decide_eq_true (by kernel_rfl)) (by unfold Func.isWrapper; first | (rw [if_pos (by decide +kernel)]; kernel_rfl) | (rw [if_neg (by decide +kernel)]; exact ⟨rfl, rfl⟩))
    (fun os started H enc _ => lifted os started H enc)
end cauchyAll
#print axioms cauchyAll.proved
end Go.Proofs.Ytibilabhokkhmaa
