/-
  Datagrams: arguments that are datagrams; a datagram of which one bit was turned is refused (chapter 10).
-/
import Derived.Test.YtphejbjbleeigaaDg13
import Derived.Test.YtphejbjbleeigaaFlat
namespace Go.Proofs.Ytphejbjbleeigaa
open Go.RowKit
set_option linter.unusedVariables false
set_option maxRecDepth 100000
set_option maxHeartbeats 1000000
open Go.ChangeShapes Go.WideShapes Go.ChangeAt
theorem open_dg {H : Type} {enc : TypeId × Value → H} {W : World} {r : Reach} {b0 b : Nat} {sp : Nat → Bool} {hd : Bool} {v : Value} {d : DataW H} {p : List MemPlace}
    (hv : Value.okWide Try.prog W r b0 24 v) (h : DataW.Trod enc Try.prog W b sp hd 24 v d p) :
    ∃ d : Dg, v = d.val ∧ d.ok ∧ d.have'.length ≤ 9223372036854775807 ∧ d.body.length ≤ 9223372036854775807 := by
  obtain ⟨cs, rfl, hsz⟩ := okWide_struct Try.underlying24 hv
  obtain ⟨l⟩ := cs
  obtain ⟨fuel, hf⟩ := h
  have := flat_fits 9 fuel 24 [.int .i64, .int .i64, .int .u32, .int .i64, .int .i64, .int .i64, .int .i64, .int .i64, .str, .str] l _ (by kernel_rfl) hf
  obtain ⟨_, _, rfl, ⟨z0, rfl, w0⟩, _, _, rfl, ⟨z1, rfl, w1⟩, _, _, rfl, ⟨z2, rfl, w2⟩, _, _, rfl, ⟨z3, rfl, w3⟩, _, _, rfl, ⟨z4, rfl, w4⟩, _, _, rfl, ⟨z5, rfl, w5⟩, _, _, rfl, ⟨z6, rfl, w6⟩, _, _, rfl, ⟨z7, rfl, w7⟩, _, _, rfl, ⟨z8, rfl, w8⟩, _, _, rfl, ⟨z9, rfl, w9⟩, rfl⟩ := this
  have := wf_u32 w2
  exact ⟨⟨z0, z1, z2, z3, z4, z5, z6, z7, z8, z9⟩, rfl, ⟨this.1, by have := this.2; show z2 < 4294967296; omega⟩, w8, w9⟩
theorem dgS_le (d : Dg) : (dgS d).length ≤ 1041 := by
  by_cases h : dgE d = 0
  · have h1 := dgS_len h
    have h2 := putS_le h
    have h3 := raw_len d
    omega
  · unfold dgS; rw [if_neg h]; simp
end Go.Proofs.Ytphejbjbleeigaa
