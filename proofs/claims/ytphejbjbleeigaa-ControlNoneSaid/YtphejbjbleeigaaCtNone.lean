/-
  What is to be said of none (chapter 25).
-/
import Derived.Test.YtphejbjbleeigaaCt12
import Derived.Test.YtphejbjbleeigaaFlat
namespace Go.Proofs.Ytphejbjbleeigaa
open Go Go.RowKit
set_option linter.unusedVariables false
set_option maxRecDepth 100000
set_option maxHeartbeats 2000000
open Go.ChangeShapes Go.WideShapes Go.ChangeAt
theorem open_dg25 {H : Type} {enc : TypeId × Value → H} {W : World} {r : Reach} {b0 b : Nat} {sp : Nat → Bool} {hd : Bool} {v : Value} {d : DataW H} {p : List MemPlace}
    (hv : Value.okWide Try.prog W r b0 24 v) (h : DataW.Trod enc Try.prog W b sp hd 24 v d p) : ∃ d : Dg, v = d.val := by
  obtain ⟨cs, rfl, hsz⟩ := okWide_struct Try.underlying24 hv
  obtain ⟨l⟩ := cs
  obtain ⟨fuel, hf⟩ := h
  have := flat_fits 9 fuel 24 [.int .i64, .int .i64, .int .u32, .int .i64, .int .i64, .int .i64, .int .i64, .int .i64, .str, .str] l _ (by kernel_rfl) hf
  obtain ⟨_, _, rfl, ⟨z0, rfl, w0⟩, _, _, rfl, ⟨z1, rfl, w1⟩, _, _, rfl, ⟨z2, rfl, w2⟩, _, _, rfl, ⟨z3, rfl, w3⟩, _, _, rfl, ⟨z4, rfl, w4⟩, _, _, rfl, ⟨z5, rfl, w5⟩, _, _, rfl, ⟨z6, rfl, w6⟩, _, _, rfl, ⟨z7, rfl, w7⟩, _, _, rfl, ⟨z8, rfl, w8⟩, _, _, rfl, ⟨z9, rfl, w9⟩, rfl⟩ := this
  exact ⟨⟨z0, z1, z2, z3, z4, z5, z6, z7, z8, z9⟩, rfl⟩
theorem cnone_walk (d : Dg) (w : World) : Calls Try.prog 8 #[d.val] w (RetB (.bool true) w) := by
  have HA := Lib.hid (fun w' => ask_nil d w')
  have HN : Hid (∀ w', Calls Try.prog 28 #[.pointer none] w' (RetB (.tuple #[.agg #[.int .i64 0, .int .i64 0, .int .u32 0, .int .i64 0, .int .i64 0, .int .i64 0, .int .i64 0, .int .i64 0, .string ⟨#[]⟩, .string ⟨#[]⟩], .bool false]) w')) := Lib.hid fun w' => next_nil w'
  obtain ⟨d0, d1, d2, d3, d4, d5, d6, d7, d8, d9⟩ := d
  have HK := Lib.hid (Blk.new w (Dg.vals ⟨d0, d1, d2, d3, d4, d5, d6, d7, d8, d9⟩).toArray 24)
  have hg1 := fun x y w => run_eqGuard_agg (P := Try.prog) w .eql 24 x y #[.int .i64 0, .int .i64 0, .int .u32 0, .int .i64 0, .int .i64 0, .int .i64 0, .int .i64 0, .int .i64 0, .string ⟨#[]⟩, .string ⟨#[]⟩] #[.int .i64 0, .int .i64 0, .int .u32 0, .int .i64 0, .int .i64 0, .int .i64 0, .int .i64 0, .int .i64 0, .string ⟨#[]⟩, .string ⟨#[]⟩] guardDg
  have he1 : ∀ w, (binOp .eql 24 (.agg #[.int .i64 0, .int .i64 0, .int .u32 0, .int .i64 0, .int .i64 0, .int .i64 0, .int .i64 0, .int .i64 0, .string ⟨#[]⟩, .string ⟨#[]⟩]) (.agg #[.int .i64 0, .int .i64 0, .int .u32 0, .int .i64 0, .int .i64 0, .int .i64 0, .int .i64 0, .int .i64 0, .string ⟨#[]⟩, .string ⟨#[]⟩])).run Try.prog w = .ok (.bool true) w := fun w => run_eql_dg dg0 dg0 w
  go_enter Try.func8, Try.ntmps8
  go_wp2_with fail
  refine (HN.out _).mono ?_
  rintro e w1 ⟨rfl, hb⟩
  have k1 := HK.out.below hb HK.out.lt
  have hB1 := Below.chain hb (Below.chainAlloc (Below.refl _ w) _)
  have k2 := k1.alloc (.cells #[.int .i64 0, .int .i64 0, .int .u32 0, .int .i64 0, .int .i64 0, .int .i64 0, .int .i64 0, .int .i64 0, .string ⟨#[]⟩, .string ⟨#[]⟩] 24)
  have hB2 := Below.chainAlloc hB1 (.cells #[.int .i64 0, .int .i64 0, .int .u32 0, .int .i64 0, .int .i64 0, .int .i64 0, .int .i64 0, .int .i64 0, .string ⟨#[]⟩, .string ⟨#[]⟩] 24)
  have kx := Blk.new w1 #[.int .i64 0, .int .i64 0, .int .u32 0, .int .i64 0, .int .i64 0, .int .i64 0, .int .i64 0, .int .i64 0, .string ⟨#[]⟩, .string ⟨#[]⟩] 24
  have y0 := (kx.facts.1 0)
  obtain ⟨W, hW⟩ : ∃ W, w1.alloc (.cells #[.int .i64 0, .int .i64 0, .int .u32 0, .int .i64 0, .int .i64 0, .int .i64 0, .int .i64 0, .int .i64 0, .string ⟨#[]⟩, .string ⟨#[]⟩] 24) = W := ⟨_, rfl⟩
  obtain ⟨bx, hbx⟩ : ∃ bx, w1.heap.size = bx := ⟨_, rfl⟩
  have HKS := Lib.hid (And.intro k2 (And.intro hB2 kx))
  rw [hW, hbx] at HKS
  have HW := Lib.hid hW
  have HBX := Lib.hid hbx
  clear hb k1 hB1 k2 hB2 kx y0 HN hW hbx
  go_upto_region 3 with fail
  rw [HW.out, HBX.out]
  clear HW HBX
  have c0 : W.cell? ⟨w.heap.size, 0, none⟩ = some (.int .i64 d0) := HKS.out.1.facts.1 0
  have c1 : W.cell? ⟨w.heap.size, 1, none⟩ = some (.int .i64 d1) := HKS.out.1.facts.1 1
  have c2 : W.cell? ⟨w.heap.size, 2, none⟩ = some (.int .u32 d2) := HKS.out.1.facts.1 2
  have c3 : W.cell? ⟨w.heap.size, 3, none⟩ = some (.int .i64 d3) := HKS.out.1.facts.1 3
  have c4 : W.cell? ⟨w.heap.size, 4, none⟩ = some (.int .i64 d4) := HKS.out.1.facts.1 4
  have c5 : W.cell? ⟨w.heap.size, 5, none⟩ = some (.int .i64 d5) := HKS.out.1.facts.1 5
  have c6 : W.cell? ⟨w.heap.size, 6, none⟩ = some (.int .i64 d6) := HKS.out.1.facts.1 6
  have c7 : W.cell? ⟨w.heap.size, 7, none⟩ = some (.int .i64 d7) := HKS.out.1.facts.1 7
  have c8 : W.cell? ⟨w.heap.size, 8, none⟩ = some (Str d8) := HKS.out.1.facts.1 8
  have c9 : W.cell? ⟨w.heap.size, 9, none⟩ = some (Str d9) := HKS.out.1.facts.1 9
  go_wp2_with fail
  refine (HA.out _).mono ?_
  rintro e w2 ⟨rfl, hb2⟩
  have k2 := HKS.out.1.below hb2 HKS.out.1.lt
  have kx2 := HKS.out.2.2.below hb2 HKS.out.2.2.lt
  have HB2 := Lib.hid (And.intro (Below.chain hb2 HKS.out.2.1) k2)
  have x0 : w2.cell? ⟨bx, 0, none⟩ = some (.int .i64 0) := kx2.facts.1 0
  have x1 : w2.cell? ⟨bx, 1, none⟩ = some (.int .i64 0) := kx2.facts.1 1
  have x2 : w2.cell? ⟨bx, 2, none⟩ = some (.int .u32 0) := kx2.facts.1 2
  have x3 : w2.cell? ⟨bx, 3, none⟩ = some (.int .i64 0) := kx2.facts.1 3
  have x4 : w2.cell? ⟨bx, 4, none⟩ = some (.int .i64 0) := kx2.facts.1 4
  have x5 : w2.cell? ⟨bx, 5, none⟩ = some (.int .i64 0) := kx2.facts.1 5
  have x6 : w2.cell? ⟨bx, 6, none⟩ = some (.int .i64 0) := kx2.facts.1 6
  have x7 : w2.cell? ⟨bx, 7, none⟩ = some (.int .i64 0) := kx2.facts.1 7
  have x8 : w2.cell? ⟨bx, 8, none⟩ = some (.string ⟨#[]⟩) := kx2.facts.1 8
  have x9 : w2.cell? ⟨bx, 9, none⟩ = some (.string ⟨#[]⟩) := kx2.facts.1 9
  have c1 : w2.cell? ⟨w.heap.size, 1, none⟩ = some (.int .i64 d1) := k2.facts.1 1
  clear hb2 k2 kx2 HA
  go_wp2_with fail
  refine (drop_nil _ _).mono ?_
  rintro e w3 ⟨rfl, hb3⟩
  have k3 := HB2.out.2.below hb3 HB2.out.2.lt
  have HB3 := Lib.hid (Below.chain hb3 HB2.out.1)
  have c1 : w3.cell? ⟨w.heap.size, 1, none⟩ = some (.int .i64 d1) := k3.facts.1 1
  have c2 : w3.cell? ⟨w.heap.size, 2, none⟩ = some (.int .u32 d2) := k3.facts.1 2
  clear hb3 k3
  go_wp2_with fail
  refine (clean_nil _ _ _).mono ?_
  rintro e w4 ⟨rfl, hb4⟩
  have HB4 := Lib.hid (Below.chain hb4 HB3.out)
  clear hb4
  go_wp2_with fail
  refine (clen_nil _).mono ?_
  rintro e w5 ⟨rfl, hb5⟩
  have HB5 := Lib.hid (Below.chain hb5 HB4.out)
  clear hb5
  go_wp2_with fail
  refine (awake25_ok _).mono ?_
  rintro e w6 ⟨rfl, hb6⟩
  have HB6 := Lib.hid (Below.chain hb6 HB5.out)
  clear hb6
  go_wp2_with fail
  go_ret
  exact ⟨rfl, HB6.out⟩
namespace controlNone
theorem own : ownKnob Try.prog.godebug = none := by kernel_rfl
theorem laidOut : laidOutB Try.prog = true := by kernel_rfl
set_option maxRecDepth 100000 in
theorem lifted (os : Os) (started : os.Started) (H : Type) (enc : TypeId × Value → H) :
    ReturnsInHanded {} Try.checked os 8 .any (Rows.controlNoneSpec.pre6 enc Try.prog Try.f8 Rows.controlNoneRow.domain false) (Rows.controlNoneSpec.post enc Try.prog Try.f8 false true false false) := by
  refine law_lift (C := Try.checked) (tb := 4) own started (by kernel_rfl) Try.func8 laidOut rfl Try.underlying4 rfl (by kernel_rfl) (fun ds h => by match ds, h with | [d1], _ => rfl)
    (ChangeSpec.witness6 (enc := enc) (C := Try.checked) false ⟨#[], #[.agg #[.int .i64 0, .int .i64 0, .int .u32 0, .int .i64 0, .int .i64 0, .int .i64 0, .int .i64 0, .int .i64 0, .string ⟨#[]⟩, .string ⟨#[]⟩]], []⟩ 8 (by kernel_rfl) (by kernel_rfl) (by kernel_rfl) (by kernel_rfl)) ?_
  intro W base args ds ps hval hA
  rw [Try.params8] at hA hval
  obtain ⟨v0, d0, rfl, rfl, h0⟩ := trodAll_one hA
  obtain ⟨d, rfl⟩ := open_dg25 (hval 0 24 v0 rfl rfl) h0
  exact cnone_walk d W
theorem proved : Rows.ControlNoneSaid :=
  OpenClaim.holds_of_wide 8 Try.f8 rfl rfl rfl rfl rfl rfl rfl ⟨rfl, rfl, rfl, rfl, rfl⟩ rfl rfl rfl rfl rfl (by kernel_rfl) Try.func8 (by kernel_rfl)
    (of_decide_eq_true (by kernel_rfl)) (by unfold Func.isWrapper; first | (rw [if_pos (by decide +kernel)]; kernel_rfl) | (rw [if_neg (by decide +kernel)]; exact ⟨rfl, rfl⟩))
    (fun os started H enc _ => lifted os started H enc)
end controlNone
#print axioms controlNone.proved
end Go.Proofs.Ytphejbjbleeigaa
