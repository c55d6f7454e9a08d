/-
  The law TimersNone returns true for every deed. No condition.
-/
import Derived.Test.YtphejbjbleeigaaTm12
namespace Go.Proofs.Ytphejbjbleeigaa
open Go Go.RowKit
set_option linter.unusedVariables false
set_option maxRecDepth 100000
set_option maxHeartbeats 2000000
open Go.ChangeShapes Go.WideShapes Go.ChangeAt
theorem open_td1 {H : Type} {enc : TypeId × Value → H} {W : World} {r : Reach} {b0 b : Nat} {sp : Nat → Bool} {hd : Bool} {v : Value} {d : DataW H} {p : List MemPlace}
    (hv : Value.okWide Try.prog W r b0 90 v) (h : DataW.Trod enc Try.prog W b sp hd 90 v d p) : ∃ k a b z : Int, v = .agg #[.int .i64 k, .int .i64 a, .int .u32 b, .int .i64 z] := by
  obtain ⟨cs, rfl, hsz⟩ := okWide_struct Try.underlying90 hv
  obtain ⟨l⟩ := cs
  obtain ⟨fuel, hf⟩ := h
  have := flat_fits 9 fuel 90 [.int .i64, .int .i64, .int .u32, .int .i64] l _ (by kernel_rfl) hf
  obtain ⟨_, _, rfl, ⟨z0, rfl, w0⟩, _, _, rfl, ⟨z1, rfl, w1⟩, _, _, rfl, ⟨z2, rfl, w2⟩, _, _, rfl, ⟨z3, rfl, w3⟩, rfl⟩ := this
  exact ⟨z0, z1, z2, z3, rfl⟩
theorem tnone_walk (k a b z : Int) (w : World) : Calls Try.prog 14 #[.agg #[.int .i64 k, .int .i64 a, .int .u32 b, .int .i64 z]] w fun e w' => e = .returned (.bool true) ∧ Below w.heap.size w w' := by
  have HAT := Lib.hid (fun w' => tat_nil (a, b) w')
  have HSE := Lib.hid (fun w' => tset_nil (a, b) z w')
  have HDR := Lib.hid (fun w' => tdrop_nil (a, b) w')
  unfold encK at HAT HSE HDR
  dsimp only at HAT HSE HDR
  have hkb := Blk.new w #[.int .i64 k, .int .i64 a, .int .u32 b, .int .i64 z] 90
  have HB := Lib.hid (Below.chainAlloc (Below.refl _ w) (.cells #[.int .i64 k, .int .i64 a, .int .u32 b, .int .i64 z] 90))
  obtain ⟨W, hW⟩ : ∃ W, w.alloc (.cells #[.int .i64 k, .int .i64 a, .int .u32 b, .int .i64 z] 90) = W := ⟨_, rfl⟩
  rw [hW] at hkb HB
  obtain ⟨bx, hbx⟩ : ∃ bx, w.heap.size = bx := ⟨_, rfl⟩
  rw [hbx] at hkb
  have HW := Lib.hid hW
  have HBX := Lib.hid hbx
  have HK := Lib.hid hkb
  clear hW hbx hkb
  go_enter Try.func14, Try.ntmps14
  go_wp2_with fail
  rw [HW.out, HBX.out]
  refine (tnext_nil _).mono ?_
  rintro e w1 ⟨rfl, rfl⟩
  have c1 := HK.out.facts.1 1
  have c2 := HK.out.facts.1 2
  have c3 := HK.out.facts.1 3
  go_wp2_with fail
  refine (HAT.out _).mono ?_
  rintro e w1 ⟨rfl, hb⟩
  have HB1 := Lib.hid (Below.chain hb HB.out)
  have HK1 := Lib.hid (HK.out.below hb HK.out.lt)
  clear hb HB HK c1 c2 c3
  have c1 := HK1.out.facts.1 1
  have c2 := HK1.out.facts.1 2
  have c3 := HK1.out.facts.1 3
  go_wp2_with fail
  refine (HSE.out _).mono ?_
  rintro e w2 ⟨rfl, hb⟩
  have HB2 := Lib.hid (Below.chain hb HB1.out)
  have HK2 := Lib.hid (HK1.out.below hb HK1.out.lt)
  clear hb HB1 HK1 c1 c2 c3
  have c1 := HK2.out.facts.1 1
  have c2 := HK2.out.facts.1 2
  have c3 := HK2.out.facts.1 3
  go_wp2_with fail
  refine (HDR.out _).mono ?_
  rintro e w3 ⟨rfl, hb⟩
  have HB3 := Lib.hid (Below.chain hb HB2.out)
  have HK3 := Lib.hid (HK2.out.below hb HK2.out.lt)
  clear hb HB2 HK2 c1 c2 c3
  have c1 := HK3.out.facts.1 1
  have c2 := HK3.out.facts.1 2
  have c3 := HK3.out.facts.1 3
  go_wp2_with fail
  refine (tdue_nil _ _).mono ?_
  rintro e w4 ⟨rfl, rfl⟩
  go_wp2_with fail
  refine (tlen_nil _).mono ?_
  rintro e w4 ⟨rfl, rfl⟩
  go_wp2_with fail
  refine (awake13_ok _).mono ?_
  rintro e w4 ⟨rfl, hb⟩
  have HB4 := Lib.hid (Below.chain hb HB3.out)
  clear hb
  go_wp2_with fail
  go_ret
  exact ⟨rfl, HB4.out⟩
namespace timersNone
theorem own : ownKnob Try.prog.godebug = none := by kernel_rfl
theorem laidOut : laidOutB Try.prog = true := by kernel_rfl
set_option maxRecDepth 100000 in
theorem lifted (os : Os) (started : os.Started) (H : Type) (enc : TypeId × Value → H) :
    ReturnsInHanded {} Try.checked os 14 .any (Rows.timersNoneSpec.pre6 enc Try.prog Try.f14 Rows.timersNoneRow.domain false) (Rows.timersNoneSpec.post enc Try.prog Try.f14 false true false false) := by
  refine law_lift (C := Try.checked) (tb := 4) own started (by kernel_rfl) Try.func14 laidOut rfl Try.underlying4 rfl (by kernel_rfl) (fun ds h => by match ds, h with | [d1], _ => rfl)
    (ChangeSpec.witness6 (enc := enc) (C := Try.checked) false ⟨#[], #[.agg #[.int .i64 0, .int .i64 0, .int .u32 0, .int .i64 0]], []⟩ 8 (by kernel_rfl) (by kernel_rfl) (by kernel_rfl) (by kernel_rfl)) ?_
  intro W base args ds ps hval hA
  rw [Try.params14] at hA hval
  obtain ⟨v0, d0, rfl, rfl, h0⟩ := trodAll_one hA

  obtain ⟨k, a, b, z, rfl⟩ := open_td1 (hval 0 90 v0 rfl rfl) h0
  exact tnone_walk k a b z W
theorem proved : Rows.TimersNoneSaid :=
  OpenClaim.holds_of_wide 14 Try.f14 rfl rfl rfl rfl rfl rfl rfl ⟨rfl, rfl, rfl, rfl, rfl⟩ rfl rfl rfl rfl rfl (by kernel_rfl) Try.func14 (by kernel_rfl)
    (of_decide_eq_true (by kernel_rfl)) (by unfold Func.isWrapper; first | (rw [if_pos (by decide +kernel)]; kernel_rfl) | (rw [if_neg (by decide +kernel)]; exact ⟨rfl, rfl⟩))
    (fun os started H enc _ => lifted os started H enc)
end timersNone
#print axioms timersNone.proved
end Go.Proofs.Ytphejbjbleeigaa
