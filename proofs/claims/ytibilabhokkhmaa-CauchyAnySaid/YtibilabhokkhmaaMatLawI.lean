/-
  The law MatrixIdentity returns true for every size and every table of bytes. No condition.
-/
import Derived.Test.YtibilabhokkhmaaMatLawR
import Derived.Test.YtibilabhokkhmaaLinC
namespace Go.Proofs.Ytibilabhokkhmaa
open Go.ChangeShapes Go.WideShapes Go.ChangeAt Go.RowKit
set_option linter.unusedVariables false
set_option maxRecDepth 100000
set_option maxHeartbeats 2000000
def idE (n : Int) : Int := if badZ n then 1 else 0
def idV (n : Int) : Tab := if badZ n then [] else idM n.toNat
def IdAt (n : Int) (w : World) (e : Ending) (w' : World) : Prop := ∃ v, e = .returned (.tuple #[v, .int .i64 (idE n)]) ∧ MatAt 0 w' v (idV n) ∧ Below w.heap.size w w'
theorem ident_at (n : Int) (w : World) : Calls Try.prog 32 #[.int .i64 n] w (IdAt n w) := (ident_any n w).mono fun e w' h => h
theorem rident_at (n : Int) (w : World) : Calls Try.prog 31 #[.int .i64 n] w (IdAt n w) := (rident_any n w).mono fun e w' h => h
theorem idE_ok {n : Nat} (h : badZ n = false) : idE n = 0 ∧ idV n = idM n := by unfold idE idV; rw [h]; exact ⟨rfl, rfl⟩
theorem MatAt.all {B : Nat} {w : World} {v : Value} {M : Tab} (h : MatAt B w v M) : AllB M := by
  obtain ⟨vs, h1, h2, h3⟩ := h
  exact fun i hi => (h3 i (by omega) hi).2
theorem idl_far (B : Nat) (n : Int) (v : Value) (M : Tab) (w : World) (ha : MatAt B w v M) (h : fewL M 10 = false) :
    Calls Try.prog 7 #[.int .i64 n, v] w (Yes w) := by
  have HA := Lib.hid ha
  have H := Lib.hid h
  clear ha h
  go_enter Try.func7, Try.ntmps7
  go_wp2_with fail
  refine (few_any B v M 10 _ HA.out).mono ?_
  rw [H.out]
  rintro x w1 ⟨rfl, rfl⟩
  go_wp2_with fail
  refine (awake03 _).mono ?_
  rintro x w7 ⟨rfl, hb⟩
  go_wp2_with fail
  go_ret
  exact ⟨rfl, hb⟩
theorem idl_bad (B : Nat) (n : Int) (v : Value) (M : Tab) (w : World) (ha : MatAt B w v M) (h : fewL M 10 = true) (hc : chkM M ≠ 0) :
    Calls Try.prog 7 #[.int .i64 n, v] w (Yes w) := by
  have HA := Lib.hid ha
  have H := Lib.hid h
  have hce : (chkM M != 0) = true := by simpa using hc
  clear ha h hc
  go_enter Try.func7, Try.ntmps7
  go_wp2_with fail
  refine (few_any B v M 10 _ HA.out).mono ?_
  rw [H.out]
  rintro x w1 ⟨rfl, rfl⟩
  go_wp2_with fail
  refine (ident_at n _).mono ?_
  rintro x w1 ⟨x1, rfl, m1, hB⟩
  go_wp2_with fail
  refine (rident_at n _).mono ?_
  rintro x w2 ⟨x2, rfl, m2, hb⟩
  replace m1 := m1.chain hb
  replace hB := Below.chain hb hB
  clear hb
  go_wp2_with fail
  refine (sameM_any _ m1 m2).mono ?_
  rw [sameM_self]
  rintro x w3 ⟨rfl, hd⟩
  replace hB := Below.chain hd.below hB
  clear hd m1 m2
  go_wp2_with fail
  refine (check_any B v M _ (HA.out.chain hB)).mono ?_
  rintro x w4 ⟨rfl, rfl⟩
  go_wp2_with fail
  refine (awake03 _).mono ?_
  rintro x w7 ⟨rfl, hb⟩
  replace hB := Below.chain hb hB
  clear hb
  go_wp2_with fail
  go_ret
  exact ⟨rfl, hB⟩
theorem idl_near (B : Nat) (n : Int) (v : Value) (M : Tab) (w : World) (ha : MatAt B w v M) (h : fewL M 10 = true) (hc : chkM M = 0) :
    Calls Try.prog 7 #[.int .i64 n, v] w (Yes w) := by
  have HA := Lib.hid ha
  have H := Lib.hid h
  have HC := Lib.hid hc
  obtain ⟨⟨n1, n2⟩, -, -⟩ := chkM_zero hc
  have hmi := mul_id hc ha.all
  have HI := Lib.hid (idE_ok hmi.2.2)
  have HM := Lib.hid hmi
  obtain ⟨a, cap, rfl, -, hcc⟩ := ha.at
  obtain ⟨g, off, u0, rfl, hg, hck, hr0⟩ := hcc 0 (by omega)
  obtain ⟨a0, c0, rfl, -⟩ := hr0.at
  rw [wid_eq (by omega), Nat.add_zero] at hck
  have HCK := Lib.hid hck
  clear ha h hc hmi hcc hr0 hck
  go_enter Try.func7, Try.ntmps7
  go_wp2_with fail
  refine (few_any B _ M 10 _ HA.out).mono ?_
  rw [H.out]
  rintro x w1 ⟨rfl, rfl⟩
  go_wp2_with fail
  refine (ident_at n _).mono ?_
  rintro x w1 ⟨x1, rfl, m1, hB⟩
  go_wp2_with fail
  refine (rident_at n _).mono ?_
  rintro x w2 ⟨x2, rfl, m2, hb⟩
  replace m1 := m1.chain hb
  replace hB := Below.chain hb hB
  clear hb
  go_wp2_with fail
  refine (sameM_any _ m1 m2).mono ?_
  rw [sameM_self]
  rintro x w3 ⟨rfl, hd⟩
  replace hB := Below.chain hd.below hB
  clear hd m1 m2
  go_wp2_with fail
  refine (check_any B _ M _ (HA.out.chain hB)).mono ?_
  rw [HC.out]
  rintro x w4 ⟨rfl, rfl⟩
  have hck := (hB.cell (p := ⟨g, off, none⟩) hg).trans HCK.out
  go_wp2_with fail
  refine (ident_at (wid M : Nat) _).mono ?_
  rintro x w5 ⟨x5, rfl, m5, hb⟩
  rw [HI.out.1]
  rw [HI.out.2] at m5
  replace hB := Below.chain hb hB
  clear hb hck
  go_wp2_with fail
  refine (mul_tab B _ _ M (idM (wid M)) _ (HA.out.chain hB) (m5.le (Nat.zero_le _))).mono ?_
  rintro x w6 ⟨x6, rfl, m6, hb⟩
  rw [HM.out.1]
  rw [HM.out.2.1] at m6
  replace hB := Below.chain hb hB
  clear hb m5
  go_wp2_with fail
  refine (sameM_any _ m6 (HA.out.chain hB)).mono ?_
  rw [sameM_self]
  rintro x w7 ⟨rfl, hd⟩
  replace hB := Below.chain hd.below hB
  clear hd m6
  go_wp2_with fail
  refine (awake03 _).mono ?_
  rintro x w8 ⟨rfl, hb⟩
  replace hB := Below.chain hb hB
  clear hb
  go_wp2_with fail
  go_ret
  exact ⟨rfl, hB⟩
theorem walkIdl (B : Nat) (n : Int) (v : Value) (M : Tab) (w : World) (ha : MatAt B w v M) : Calls Try.prog 7 #[.int .i64 n, v] w (Yes w) := by
  cases h : fewL M 10 with
  | false => exact idl_far B n v M w ha h
  | true =>
    by_cases hc : chkM M = 0
    · exact idl_near B n v M w ha h hc
    · exact idl_bad B n v M w ha h hc
namespace matrixIdentity
theorem own : ownKnob Try.prog.godebug = none := by kernel_rfl
theorem laidOut : laidOutB Try.prog = true := by kernel_rfl
set_option maxRecDepth 100000 in
theorem lifted (os : Os) (started : os.Started) (H : Type) (enc : TypeId × Value → H) :
    ReturnsInHanded {} Try.checked os 7 .any (Rows.matrixIdentitySpec.pre6 enc Try.prog Try.f7 Rows.matrixIdentityRow.domain false) (Rows.matrixIdentitySpec.post enc Try.prog Try.f7 false true false false) := by
  refine law_lift (C := Try.checked) (tb := 4) own started (by kernel_rfl) Try.func7 laidOut rfl Try.underlying4 rfl (by kernel_rfl) (fun ds h => by match ds, h with | [d1, d2], _ => rfl)
    (ChangeSpec.witness6 (enc := enc) (C := Try.checked) false ⟨#[], #[.int .i64 0, .slice none 0 0], []⟩ 8 (by kernel_rfl) (by kernel_rfl) (by kernel_rfl) (by kernel_rfl)) ?_
  intro W base args ds ps hval hA
  rw [Try.params7] at hA hval
  obtain ⟨v0, v1, d0, d1, p0, p1, rfl, rfl, rfl, h0, h1⟩ := trodAll_two hA
  obtain ⟨n, rfl, rfl, rfl, wn⟩ := open_int Try.underlying3 (hval 0 3 v0 rfl rfl) h0
  replace wn := by simpa [Lit.wf, IntKind.min, IntKind.max, IntKind.signed, IntKind.bits] using wn
  obtain ⟨aM, nM, cM, rfl⟩ := okWide_slice Try.underlying30 (hval 1 30 v1 rfl rfl)
  obtain ⟨M, rfl, wM⟩ := open_mat h1
  exact walkIdl _ n _ M W wM
theorem proved : Rows.MatrixIdentitySaid :=
  OpenClaim.holds_of_wide 7 Try.f7 rfl rfl rfl rfl rfl rfl rfl ⟨rfl, rfl, rfl, rfl, rfl⟩ rfl rfl rfl rfl rfl (by kernel_rfl) Try.func7 (by kernel_rfl)
    (of_decide_eq_true (by kernel_rfl)) (by unfold Func.isWrapper; first | (rw [if_pos (by decide +kernel)]; kernel_rfl) | (rw [if_neg (by decide +kernel)]; exact ⟨rfl, rfl⟩))
    (fun os started H enc _ => lifted os started H enc)
end matrixIdentity
#print axioms matrixIdentity.proved
end Go.Proofs.Ytibilabhokkhmaa
