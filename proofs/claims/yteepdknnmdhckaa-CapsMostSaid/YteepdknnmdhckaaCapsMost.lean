/-
  The law CapsMost returns true for every api.Config and every load. No condition.
-/
import Derived.Test.YteepdknnmdhckaaCapsW
import Derived.Test.YteepdknnmdhckaaChecked
import Derived.Test.YteepdknnmdhckaaFlat
namespace Go.Proofs.Yteepdknnmdhckaa
open Go Go.ChangeShapes Go.WideShapes Go.ChangeAt Go.RowKit
set_option linter.unusedVariables false
set_option maxRecDepth 100000
set_option maxHeartbeats 4000000
def sixF (l0 l1 l2 l3 l4 l5 : Int) : Nat → Int := fun i => match i with | 0 => l0 | 1 => l1 | 2 => l2 | 3 => l3 | 4 => l4 | 5 => l5 | _ => 0
theorem list11c {α : Type} {l : List α} (h : l.length = 11) : ∃ k r s wi bu q qu t wo ws ti, l = [k, r, s, wi, bu, q, qu, t, wo, ws, ti] := by
  match l, h with
  | [k, r, s, wi, bu, q, qu, t, wo, ws, ti], _ => exact ⟨k, r, s, wi, bu, q, qu, t, wo, ws, ti, rfl⟩
theorem open_six {H : Type} {enc : TypeId × Value → H} {W : World} {r : Reach} {b0 b : Nat} {sp : Nat → Bool} {hd : Bool} {v : Value} {d : DataW H} {p : List MemPlace}
    (hv : Value.okWide Try.prog W r b0 24 v) (h : DataW.Trod enc Try.prog W b sp hd 24 v d p) : ∃ l0 l1 l2 l3 l4 l5 : Int, v = .agg #[.int .i64 l0, .int .i64 l1, .int .i64 l2, .int .i64 l3, .int .i64 l4, .int .i64 l5] := by
  have hu := Try.underlying24
  simp only [Value.okWide, hu] at hv
  obtain ⟨cs, rfl, hsz, _⟩ := hv
  obtain ⟨l⟩ := cs
  obtain ⟨fuel, hf⟩ := h
  have := flat_fits 9 fuel 24 [.int .i64, .int .i64, .int .i64, .int .i64, .int .i64, .int .i64] l _ (by kernel_rfl) hf
  obtain ⟨_, _, rfl, ⟨z0, rfl, w0⟩, _, _, rfl, ⟨z1, rfl, w1⟩, _, _, rfl, ⟨z2, rfl, w2⟩, _, _, rfl, ⟨z3, rfl, w3⟩, _, _, rfl, ⟨z4, rfl, w4⟩, _, _, rfl, ⟨z5, rfl, w5⟩, rfl⟩ := this
  exact ⟨z0, z1, z2, z3, z4, z5, rfl⟩
namespace capsMost
theorem own : ownKnob Try.prog.godebug = none := by kernel_rfl
theorem laidOut : laidOutB Try.prog = true := by kernel_rfl
set_option maxRecDepth 100000 in
theorem lifted (os : Os) (started : os.Started) (H : Type) (enc : TypeId × Value → H) :
    ReturnsInHanded {} Try.checked os 3 .any (Rows.capsMostSpec.pre6 enc Try.prog Try.f3 Rows.capsMostRow.domain false) (Rows.capsMostSpec.post enc Try.prog Try.f3 false true false false) := by
  refine law_lift (C := Try.checked) (tb := 4) own started (by kernel_rfl) Try.func3 laidOut rfl Try.underlying4 rfl (by kernel_rfl) (fun ds h => by match ds, h with | [d1, d2], _ => rfl)
    (ChangeSpec.witness6 (enc := enc) (C := Try.checked) false ⟨#[], #[.agg #[.int .i64 0, .int .i64 0, .int .i64 0, .int .i64 0, .int .i64 0, .int .i64 0, .int .i64 0, .int .i64 0, .int .i64 0, .int .i64 0, .int .i64 0], .agg #[.int .i64 0, .int .i64 0, .int .i64 0, .int .i64 0, .int .i64 0, .int .i64 0]], []⟩ 8 (by kernel_rfl) (by kernel_rfl) (by kernel_rfl) (by kernel_rfl)) ?_
  intro W base args ds ps hval hA
  rw [Try.params3] at hA hval
  obtain ⟨v0, v1, d0, d1, p0, p1, rfl, rfl, rfl, h0, h1⟩ := trodAll_two hA
  obtain ⟨zs, rfl, hlen, _⟩ := open_agg_ints (k := .i64) Try.underlying23 (by kernel_rfl) (by kernel_rfl) (by simp [Try.underlying3]) (hval 0 23 v0 rfl rfl) h0
  obtain ⟨k, r, s, wi, bu, q, qu, t, wo, ws, ti, rfl⟩ := list11c hlen
  obtain ⟨l0, l1, l2, l3, l4, l5, rfl⟩ := open_six (hval 1 24 v1 rfl rfl) h1
  exact caps_walk k r s wi bu q qu t wo ws ti (sixF l0 l1 l2 l3 l4 l5) W
theorem proved : Rows.CapsMostSaid :=
  OpenClaim.holds_of_wide 3 Try.f3 rfl rfl rfl rfl rfl rfl rfl ⟨rfl, rfl, rfl, rfl, rfl⟩ rfl rfl rfl rfl rfl (by kernel_rfl) Try.func3 (by kernel_rfl)
    (of_decide_eq_true (by kernel_rfl)) (by unfold Func.isWrapper; first | (rw [if_pos (by decide +kernel)]; kernel_rfl) | (rw [if_neg (by decide +kernel)]; exact ⟨rfl, rfl⟩))
    (fun os started H enc _ => lifted os started H enc)
end capsMost
#print axioms capsMost.proved
end Go.Proofs.Yteepdknnmdhckaa
