/-
  Datagrams: whether a datagram may be, and its bytes (chapter 10).
-/
import Derived.Test.YtphejbjbleeigaaDg14
import Derived.Test.YtphejbjbleeigaaRg5
namespace Go.Proofs.Ytphejbjbleeigaa
open Go.RowKit
set_option linter.unusedVariables false
set_option maxRecDepth 100000
set_option maxHeartbeats 1000000
open Go.ChangeShapes Go.WideShapes Go.ChangeAt
theorem puts_walk (d : Dg) (hd : d.ok) (hh : d.have'.length ≤ 9223372036854775807) (hb : d.body.length ≤ 9223372036854775807) (w : World) :
    Calls Try.prog 3 #[d.val] w fun e w' => e = .returned (.bool true) ∧ Below w.heap.size w w' := by
  have HP := Lib.hid (put_dg d hd hh hb)
  have HRP := Lib.hid (rput_dg d hd hh hb)
  have HCk := Lib.hid (check_dg d hh hb)
  have HRC := Lib.hid (rchk_dg d hh hb)
  have HSz := Lib.hid (size_dg d hd hh hb)
  obtain ⟨F, hF⟩ : ∃ F, fewB d = F := ⟨_, rfl⟩
  have HF : Hid (∀ w, Calls Try.prog 15 #[d.val] w (RetB (.bool F) w)) := Lib.hid (fun w => by
    rw [← hF]; exact few_dg d.kind d.stream d.block d.index d.k d.n d.len d.credit d.have' d.body w)
  generalize dgS d = T at *
  generalize dgE d = E at *
  obtain ⟨kind, stream, block, index, k, n, len, credit, hv, body⟩ := d
  show Calls Try.prog 3 #[.agg #[.int .i64 kind, .int .i64 stream, .int .u32 block, .int .i64 index, .int .i64 k, .int .i64 n, .int .i64 len, .int .i64 credit, Str hv, Str body]] w _
  clear hh hb hd hF
  go_enter Try.func3, Try.ntmps3
  go_wp2_with fail
  refine (HF.out _).mono ?_
  rintro e w1 ⟨rfl, hb⟩
  have k1 := (Blk.new w #[.int .i64 kind, .int .i64 stream, .int .u32 block, .int .i64 index, .int .i64 k, .int .i64 n, .int .i64 len, .int .i64 credit, Str hv, Str body] 24).below hb (by simp)
  have hB := Below.chain hb (Below.chainAlloc (Below.refl _ _) _)
  clear hb HF
  cases F with
  | false =>
    go_wp2_with fail
    refine (awake10 _).mono ?_
    rintro e w2 ⟨rfl, hb⟩
    have hB := Below.chain hb hB
    clear hb
    go_wp2_with fail
    go_ret
    exact ⟨rfl, hB⟩
  | true =>
    obtain ⟨c1, f1, l1⟩ := k1.facts
    go_wp2_with fail
    refine (HP.out _).mono ?_
    rintro e w2 ⟨rfl, hb⟩
    have k2 := k1.below hb k1.lt
    have hB := Below.chain hb hB
    clear hb k1 c1 f1 l1 HP
    obtain ⟨c2, f2, l2⟩ := k2.facts
    go_wp2_with fail
    refine (HRP.out _).mono ?_
    rintro e w3 ⟨rfl, hb⟩
    have kb := k2.below hb k2.lt
    have hB := Below.chain hb hB
    clear hb k2 c2 f2 l2 HRP
    go_upto_region 5 with fail
    generalize hq : w.heap.size = B0 at *
    have HQ := Lib.hid hq
    clear hq
    have hmk : ∀ w', Below w3.heap.size w3 w' → ((∀ o, w'.cell? ⟨B0, o, none⟩ = #[.int .i64 kind, .int .i64 stream, .int .u32 block, .int .i64 index, .int .i64 k, .int .i64 n, .int .i64 len, .int .i64 credit, Str hv, Str body][o]?) ∧ Below w3.heap.size w3 w') := fun w' h => ⟨fun o => (h.cell (p := ⟨B0, o, none⟩) kb.lt).trans (kb.facts.1 o), h⟩
    have HMK := Lib.hid hmk
    have HWB := Lib.hid hB
    clear hmk kb hB
    go_region_held3 (fun w' => (∀ o, w'.cell? ⟨B0, o, none⟩ = #[.int .i64 kind, .int .i64 stream, .int .u32 block, .int .i64 index, .int .i64 k, .int .i64 n, .int .i64 len, .int .i64 credit, Str hv, Str body][o]?) ∧ Below w3.heap.size w3 w')
      (first
        | exact HMK.out _ (Below.refl _ _).drew
        | exact HMK.out _ (Below.refl _ _)
        | (go_split_ands; exact HMK.out _ (Below.chain hb (by assumption))))
      (first
        | (go_at_call 19; refine (HCk.out _).mono ?_; rintro x w4 ⟨rfl, hb⟩)
        | (go_at_call 20; refine (HRC.out _).mono ?_; rintro x w4 ⟨rfl, hb⟩)
        | (go_at_call 21; refine (HSz.out _).mono ?_; rintro x w4 ⟨rfl, hb⟩)
        | (go_at_call 16; refine (awake10 _).mono ?_; rintro x w4 ⟨rfl, hb⟩))
    rename_i hHeld
    have hw := HWB.out
    rw [← HQ.out] at hw
    have hW := Below.chain hHeld.2 hw
    clear hb hw
    go_wp2_with fail
    go_ret
    exact ⟨rfl, hW⟩
namespace datagramPuts
theorem own : ownKnob Try.prog.godebug = none := by kernel_rfl
theorem laidOut : laidOutB Try.prog = true := by kernel_rfl
set_option maxRecDepth 100000 in
theorem lifted (os : Os) (started : os.Started) (H : Type) (enc : TypeId × Value → H) :
    ReturnsInHanded {} Try.checked os 3 .any (Rows.datagramPutsSpec.pre6 enc Try.prog Try.f3 Rows.datagramPutsRow.domain false) (Rows.datagramPutsSpec.post enc Try.prog Try.f3 false true false false) := by
  refine law_lift (C := Try.checked) (tb := 4) own started (by kernel_rfl) Try.func3 laidOut rfl Try.underlying4 rfl (by kernel_rfl) (fun ds h => by match ds, h with | [d1], _ => rfl)
    (ChangeSpec.witness6 (enc := enc) (C := Try.checked) false ⟨#[], #[.agg #[.int .i64 0, .int .i64 0, .int .u32 0, .int .i64 0, .int .i64 0, .int .i64 0, .int .i64 0, .int .i64 0, .string ⟨#[]⟩, .string ⟨#[]⟩]], []⟩ 8 (by kernel_rfl) (by kernel_rfl) (by kernel_rfl) (by kernel_rfl)) ?_
  intro W base args ds ps hval hA
  rw [Try.params3] at hA hval
  obtain ⟨v0, d0, rfl, rfl, h0⟩ := trodAll_one hA
  obtain ⟨d, rfl, dok, dh, db⟩ := open_dg (hval 0 24 v0 rfl rfl) h0
  exact puts_walk d dok dh db _
theorem proved : Rows.DatagramPutsSaid :=
  OpenClaim.holds_of_wide 3 Try.f3 rfl rfl rfl rfl rfl rfl rfl ⟨rfl, rfl, rfl, rfl, rfl⟩ rfl rfl rfl rfl rfl (by kernel_rfl) Try.func3 (by kernel_rfl)
    (of_decide_eq_true (by kernel_rfl)) (by unfold Func.isWrapper; first | (rw [if_pos (by decide +kernel)]; kernel_rfl) | (rw [if_neg (by decide +kernel)]; exact ⟨rfl, rfl⟩))
    (fun os started H enc _ => lifted os started H enc)
end datagramPuts
#print axioms datagramPuts.proved
end Go.Proofs.Ytphejbjbleeigaa
