/-
  The law CallsNone returns true for every wait. No condition.
-/
import Derived.Test.YtjfmjehacaemcaaCl10
namespace Go.Proofs.Ytjfmjehacaemcaa
open Go Go.RowKit
set_option linter.unusedVariables false
set_option maxRecDepth 100000
set_option maxHeartbeats 2000000
open Go.ChangeShapes Go.WideShapes Go.ChangeAt
theorem open_wt1 {H : Type} {enc : TypeId × Value → H} {W : World} {r : Reach} {b0 b : Nat} {sp : Nat → Bool} {hd : Bool} {v : Value} {d : DataW H} {p : List MemPlace}
    (hv : Value.okWide Try.prog W r b0 30 v) (h : DataW.Trod enc Try.prog W b sp hd 30 v d p) : ∃ (i kd s n : Int) (bs : List UInt8), v = .agg #[.int .i64 i, .int .i64 kd, .int .i64 s, .int .i64 n, Str bs] := by
  obtain ⟨cs, rfl, hsz⟩ := okWide_struct Try.underlying30 hv
  obtain ⟨l⟩ := cs
  obtain ⟨fuel, hf⟩ := h
  have := flat_fits 9 fuel 30 [.int .i64, .int .i64, .int .i64, .int .i64, .str] l _ (by kernel_rfl) hf
  obtain ⟨_, _, rfl, ⟨z0, rfl, w0⟩, _, _, rfl, ⟨z1, rfl, w1⟩, _, _, rfl, ⟨z2, rfl, w2⟩, _, _, rfl, ⟨z3, rfl, w3⟩, _, _, rfl, ⟨z4, rfl, w4⟩, rfl⟩ := this
  exact ⟨z0, z1, z2, z3, z4, rfl⟩
theorem cnone_walk (i kd s n : Int) (b : List UInt8) (w : World) : Calls Try.prog 4 #[.agg #[.int .i64 i, .int .i64 kd, .int .i64 s, .int .i64 n, Str b]] w fun e w' => e = .returned (.bool true) ∧ Below w.heap.size w w' := by
  have HASK := Lib.hid (fun w' => cask_nil ⟨i, kd, s, n, b⟩ w')
  have HGET := Lib.hid (fun w' => cget_nil s kd w')
  have HTAKE := Lib.hid (fun w' => ctake_nil s kd w')
  unfold wt0 Wt.val at HGET HTAKE
  unfold Wt.val at HASK
  dsimp only at HASK HGET HTAKE
  have hkb := Blk.new w #[.int .i64 i, .int .i64 kd, .int .i64 s, .int .i64 n, Str b] 30
  have HB := Lib.hid (Below.chainAlloc (Below.refl _ w) (.cells #[.int .i64 i, .int .i64 kd, .int .i64 s, .int .i64 n, Str b] 30))
  obtain ⟨W, hW⟩ : ∃ W, w.alloc (.cells #[.int .i64 i, .int .i64 kd, .int .i64 s, .int .i64 n, Str b] 30) = W := ⟨_, rfl⟩
  rw [hW] at hkb HB
  obtain ⟨bx, hbx⟩ : ∃ bx, w.heap.size = bx := ⟨_, rfl⟩
  rw [hbx] at hkb
  have HW := Lib.hid hW
  have HBX := Lib.hid hbx
  have HK := Lib.hid hkb
  clear hW hbx hkb
  go_enter Try.func4, Try.ntmps4
  go_wp2_with fail
  rw [HW.out, HBX.out]
  have x0 := HK.out.facts.1 0
  have x1 := HK.out.facts.1 1
  have x2 := HK.out.facts.1 2
  have x3 := HK.out.facts.1 3
  have x4 := HK.out.facts.1 4
  go_wp2_with fail
  refine (HGET.out _).mono ?_
  rintro e w1 ⟨rfl, hb⟩
  have hb7 := Below.chainAlloc hb (.cells #[.int .i64 0, .int .i64 0, .int .i64 0, .int .i64 0, .string ⟨#[]⟩] 30)
  have HB1 := Lib.hid (Below.chain hb7 HB.out)
  have HK1 := Lib.hid (HK.out.below hb7 HK.out.lt)
  clear hb hb7 HB HK x0 x1 x2 x3 x4
  have x0 := HK1.out.facts.1 0
  have x1 := HK1.out.facts.1 1
  have x2 := HK1.out.facts.1 2
  have x3 := HK1.out.facts.1 3
  have x4 := HK1.out.facts.1 4
  go_wp2_with fail
  refine (HTAKE.out _).mono ?_
  rintro e w2 ⟨rfl, hb⟩
  have hb7 := Below.chainAlloc hb (.cells #[.int .i64 0, .int .i64 0, .int .i64 0, .int .i64 0, .string ⟨#[]⟩] 30)
  have HB2 := Lib.hid (Below.chain hb7 HB1.out)
  have HK2 := Lib.hid (HK1.out.below hb7 HK1.out.lt)
  clear hb hb7 HB1 HK1 x0 x1 x2 x3 x4
  have x0 := HK2.out.facts.1 0
  have x1 := HK2.out.facts.1 1
  have x2 := HK2.out.facts.1 2
  have x3 := HK2.out.facts.1 3
  have x4 := HK2.out.facts.1 4
  go_wp2_with fail
  refine (HASK.out _).mono ?_
  rintro e w3 ⟨rfl, hb⟩
  have HB3 := Lib.hid (Below.chain hb HB2.out)
  have HK3 := Lib.hid (HK2.out.below hb HK2.out.lt)
  clear hb HB2 HK2 x0 x1 x2 x3 x4
  have x0 := HK3.out.facts.1 0
  have x1 := HK3.out.facts.1 1
  have x2 := HK3.out.facts.1 2
  have x3 := HK3.out.facts.1 3
  have x4 := HK3.out.facts.1 4
  go_wp2_with fail
  refine (cdrop_nil s _).mono ?_
  rintro e w4 ⟨rfl, hb⟩
  have HB4 := Lib.hid (Below.chain hb HB3.out)
  clear hb HB3 HK3 x0 x1 x2 x3 x4
  go_wp2_with fail
  refine (call_nil _).mono ?_
  rintro e w5 ⟨rfl, rfl⟩
  go_wp2_with fail
  refine (cllen_nil _).mono ?_
  rintro e w5 ⟨rfl, rfl⟩
  go_wp2_with fail
  refine (awake29_ok _).mono ?_
  rintro e w5 ⟨rfl, hb⟩
  have HB5 := Lib.hid (Below.chain hb HB4.out)
  clear hb
  go_wp2_with fail
  go_ret
  exact ⟨rfl, HB5.out⟩
namespace callsNone
theorem own : ownKnob Try.prog.godebug = none := by kernel_rfl
theorem laidOut : laidOutB Try.prog = true := by kernel_rfl
set_option maxRecDepth 100000 in
theorem lifted (os : Os) (started : os.Started) (H : Type) (enc : TypeId × Value → H) :
    ReturnsInHanded {} Try.checked os 4 .any (Rows.callsNoneSpec.pre6 enc Try.prog Try.f4 Rows.callsNoneRow.domain false) (Rows.callsNoneSpec.post enc Try.prog Try.f4 false true false false) := by
  refine law_lift (C := Try.checked) (tb := 4) own started (by kernel_rfl) Try.func4 laidOut rfl Try.underlying4 rfl (by kernel_rfl) (fun ds h => by match ds, h with | [d1], _ => rfl)
    (ChangeSpec.witness6 (enc := enc) (C := Try.checked) false ⟨#[], #[.agg #[.int .i64 0, .int .i64 0, .int .i64 0, .int .i64 0, .string ⟨#[]⟩]], []⟩ 8 (by kernel_rfl) (by kernel_rfl) (by kernel_rfl) (by kernel_rfl)) ?_
  intro W base args ds ps hval hA
  rw [Try.params4] at hA hval
  obtain ⟨v0, d0, rfl, rfl, h0⟩ := trodAll_one hA

  obtain ⟨i, kd, s, n, b, rfl⟩ := open_wt1 (hval 0 30 v0 rfl rfl) h0
  exact cnone_walk i kd s n b W
theorem proved : Rows.CallsNoneSaid :=
  OpenClaim.holds_of_wide 4 Try.f4 rfl rfl rfl rfl rfl rfl rfl ⟨rfl, rfl, rfl, rfl, rfl⟩ rfl rfl rfl rfl rfl (by kernel_rfl) Try.func4 (by kernel_rfl)
    (of_decide_eq_true (by kernel_rfl)) (by unfold Func.isWrapper; first | (rw [if_pos (by decide +kernel)]; kernel_rfl) | (rw [if_neg (by decide +kernel)]; exact ⟨rfl, rfl⟩))
    (fun os started H enc _ => lifted os started H enc)
end callsNone
#print axioms callsNone.proved
end Go.Proofs.Ytjfmjehacaemcaa
