/-
  The law OutboundNone returns true for every deed. No condition.
-/
import Derived.Test.YtnmlmpffmjhihaaGreatOr26
import Derived.Test.YtnmlmpffmjhihaaGreatMA
import Derived.Test.YtnmlmpffmjhihaaGreatChecked
namespace Go.Proofs.YtnmlmpffmjhihaaGreat
open Go Go.ChangeShapes Go.WideShapes Go.ChangeAt Go.RowKit
set_option linter.unusedVariables false
set_option maxRecDepth 100000
set_option maxHeartbeats 4000000
theorem open_fd27 {H : Type} {enc : TypeId × Value → H} {W : World} {r : Reach} {b0 b : Nat} {sp : Nat → Bool} {hd : Bool} {v : Value} {d : DataW H} {p : List MemPlace}
    (hv : Value.okWide Tryz.prog W r b0 24 v) (h : DataW.Trod enc Tryz.prog W b sp hd 24 v d p) : ∃ (k : Int) (bd : List UInt8) (n x : Int) (hvv : List UInt8), v = .agg (fd27 k bd n x hvv) := by
  obtain ⟨cs, rfl, hsz⟩ := okWide_struct Tryz.underlying24 hv
  obtain ⟨l⟩ := cs
  obtain ⟨fuel, hf⟩ := h
  have := flat_fits 9 fuel 24 [.int .i64, .str, .int .i64, .int .u32, .str] l _ (by kernel_rfl) hf
  obtain ⟨_, _, rfl, ⟨z0, rfl, w0⟩, _, _, rfl, ⟨z1, rfl, w1⟩, _, _, rfl, ⟨z2, rfl, w2⟩, _, _, rfl, ⟨z3, rfl, w3⟩, _, _, rfl, ⟨z4, rfl, w4⟩, rfl⟩ := this
  exact ⟨z0, z1, z2, z3, z4, rfl⟩
namespace outboundNone
theorem own : ownKnob Tryz.prog.godebug = none := by kernel_rfl
theorem laidOut : laidOutB Tryz.prog = true := by kernel_rfl
set_option maxRecDepth 100000 in
theorem lifted (os : Os) (started : os.Started) (H : Type) (enc : TypeId × Value → H) :
    ReturnsInHanded {} Tryz.checked os 3 .any (Rows.outboundNoneSpec.pre6 enc Tryz.prog Tryz.f3 Rows.outboundNoneRow.domain false) (Rows.outboundNoneSpec.post enc Tryz.prog Tryz.f3 false true false false) := by
  refine law_lift (C := Tryz.checked) (tb := 4) own started (by kernel_rfl) Tryz.func3 laidOut rfl Tryz.underlying4 rfl (by kernel_rfl) (fun ds h => by match ds, h with | [d1], _ => rfl)
    (ChangeSpec.witness6 (enc := enc) (C := Tryz.checked) false ⟨#[], #[.agg #[.int .i64 0, .string ⟨#[]⟩, .int .i64 0, .int .u32 0, .string ⟨#[]⟩]], []⟩ 8 (by kernel_rfl) (by kernel_rfl) (by kernel_rfl) (by kernel_rfl)) ?_
  intro W base args ds ps hval hA
  rw [Tryz.params3] at hA hval
  obtain ⟨v0, d0, rfl, rfl, h0⟩ := trodAll_one hA
  obtain ⟨k, bd, n, x, hvv, rfl⟩ := open_fd27 (hval 0 24 v0 rfl rfl) h0
  exact onone_walk k bd n x hvv W
theorem proved : Rows.OutboundNoneSaid :=
  OpenClaim.holds_of_wide 3 Tryz.f3 rfl rfl rfl rfl rfl rfl rfl ⟨rfl, rfl, rfl, rfl, rfl⟩ rfl rfl rfl rfl rfl (by kernel_rfl) Tryz.func3 (by kernel_rfl)
    (of_decide_eq_true (by kernel_rfl)) (by unfold Func.isWrapper; first | (rw [if_pos (by decide +kernel)]; kernel_rfl) | (rw [if_neg (by decide +kernel)]; exact ⟨rfl, rfl⟩))
    (fun os started H enc _ => lifted os started H enc)
end outboundNone
#print axioms outboundNone.proved
end Go.Proofs.YtnmlmpffmjhihaaGreat
