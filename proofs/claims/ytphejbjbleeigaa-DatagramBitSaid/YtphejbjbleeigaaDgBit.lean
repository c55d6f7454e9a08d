/-
  Datagrams: a datagram of which one bit was turned is refused (chapter 10).
-/
import Derived.Test.YtphejbjbleeigaaDg14
namespace Go.Proofs.Ytphejbjbleeigaa
open Go.RowKit
set_option linter.unusedVariables false
set_option maxRecDepth 100000
set_option maxHeartbeats 1000000
open Go.ChangeShapes Go.WideShapes Go.ChangeAt
theorem bit_walk (d : Dg) (hd : d.ok) (hh : d.have'.length ≤ 9223372036854775807) (hb : d.body.length ≤ 9223372036854775807) (at' : Int) (w : World) :
    Calls Try.prog 6 #[d.val, .int .i64 at'] w fun e w' => e = .returned (.bool true) ∧ Below w.heap.size w w' := by
  have HP := Lib.hid (put_dg d hd hh hb)
  have hS := dgS_le d
  have hBit := fun (h : dgE d = 0) (i : Nat) (hi : i < (dgS d).length) (c : UInt8) (hc : c ≠ (dgS d)[i]) => bit_seen h i hi c hc
  generalize dgS d = T at *
  generalize dgE d = E at *
  obtain ⟨kind, stream, block, index, k, n, len, credit, hv, body⟩ := d
  show Calls Try.prog 6 #[.agg #[.int .i64 kind, .int .i64 stream, .int .u32 block, .int .i64 index, .int .i64 k, .int .i64 n, .int .i64 len, .int .i64 credit, Str hv, Str body], .int .i64 at'] w _
  have HF := Lib.hid (few_dg kind stream block index k n len credit hv body)
  generalize fewB ⟨kind, stream, block, index, k, n, len, credit, hv, body⟩ = few at *
  have HBit := Lib.hid hBit
  clear hBit hh hb hd
  go_enter Try.func6, Try.ntmps6
  go_wp2_with fail
  refine (HF.out _).mono ?_
  rintro e w1 ⟨rfl, hb⟩
  have k1 := (Blk.new w #[.int .i64 kind, .int .i64 stream, .int .u32 block, .int .i64 index, .int .i64 k, .int .i64 n, .int .i64 len, .int .i64 credit, Str hv, Str body] 24).below hb (by simp)
  have hB := Below.chain hb (Below.chainAlloc (Below.refl _ _) _)
  clear hb
  obtain ⟨c1, f1, l1⟩ := k1.facts
  cases few with
  | false =>
    go_wp2_with fail
    refine (awake10 _).mono ?_
    rintro e w2 ⟨rfl, hb⟩
    have hB := Below.chain hb hB
    clear hb
    go_wp2_with fail
    go_ret
    exact ⟨rfl, hB⟩
  | true =>
    go_wp2_with fail
    refine (HP.out _).mono ?_
    rintro e w2 ⟨rfl, hb⟩
    have hB := Below.chain hb hB
    clear hb k1 c1 f1 l1 HP HF
    have hw8 : IntKind.i64.wrap (8 * (T.length : Int)) = 8 * (T.length : Int) := by rw [IntWalk.i64_in _ (by omega)]
    by_cases hbad : E ≠ 0 ∨ at' < 0 ∨ 8 * (T.length : Int) ≤ at'
    · by_cases h0 : E = 0
      · subst h0
        by_cases h1 : at' < 0
        · go_wp2_with fail
          refine (awake10 _).mono ?_
          rintro e w3 ⟨rfl, hb⟩
          have hB := Below.chain hb hB
          clear hb
          go_wp2_with fail
          go_ret
          exact ⟨rfl, hB⟩
        · have h2 : 8 * (T.length : Int) ≤ at' := by omega
          have h1' : decide (at' < 0) = false := by simpa using h1
          clear hbad
          go_wp2_with fail
          refine (awake10 _).mono ?_
          rintro e w3 ⟨rfl, hb⟩
          have hB := Below.chain hb hB
          clear hb
          go_wp2_with fail
          go_ret
          exact ⟨rfl, hB⟩
      · have h0' : (E != 0) = true := by simpa using h0
        clear hbad h0
        go_wp2_with fail
        refine (awake10 _).mono ?_
        rintro e w3 ⟨rfl, hb⟩
        have hB := Below.chain hb hB
        clear hb
        go_wp2_with fail
        go_ret
        exact ⟨rfl, hB⟩
    · obtain ⟨rfl, h0, h1⟩ : E = 0 ∧ 0 ≤ at' ∧ at' < 8 * (T.length : Int) := by omega
      obtain ⟨i, r, hr, rfl, hi⟩ : ∃ i r : Nat, r < 8 ∧ at' = ((8 * i + r : Nat) : Int) ∧ i < T.length := ⟨at'.toNat / 8, at'.toNat % 8, by omega, by omega, by omega⟩
      have hq : ((8 * i + r : Nat) : Int).tdiv 8 = (i : Int) := by rw [Int.tdiv_eq_ediv_of_nonneg (by omega)]; omega
      have hm : ((8 * i + r : Nat) : Int).tmod 8 = (r : Int) := by rw [Int.tmod_eq_emod_of_nonneg (by omega)]; omega
      have hd0 : decide (((8 * i + r : Nat) : Int) < 0) = false := by simp; omega
      have hd1 : decide (8 * (T.length : Int) ≤ ((8 * i + r : Nat) : Int)) = false := by simp; omega
      clear hbad h0 h1
      generalize ((8 * i + r : Nat) : Int) = at' at *
      obtain ⟨cap, w6, hcv, hby, hb6, hcap, hcap2⟩ := conv_bytes w2 T (by omega)
      have hB6 := Below.chain hb6 hB
      have hg0 : w.heap.size ≤ w2.heap.size := hB.size
      clear hB hb6
      generalize w2.heap.size = g at *
      obtain ⟨ci, fi⟩ := hby.2 i hi
      have ht := u8_lt T[i]
      have hx : bits .xor .u8 (T[i].toNat : Int) ((2 ^ r : Nat) : Int) = ((T[i].toNat ^^^ 2 ^ r : Nat) : Int) := u8_xor_nat _ _ ht (by
        have : 2 ^ r ≤ 2 ^ 7 := Nat.pow_le_pow_right (by decide) (by omega)
        omega)
      have hpr : 2 ^ r < 256 := by
        have : 2 ^ r ≤ 2 ^ 7 := Nat.pow_le_pow_right (by decide) (by omega)
        omega
      have hxl : T[i].toNat ^^^ 2 ^ r < 256 := Nat.xor_lt_two_pow (n := 8) ht hpr
      have hfin := hby.setAt i ((T[i].toNat ^^^ 2 ^ r : Nat) : Int) (by omega) (by omega)
      have hne : U8 ((T[i].toNat ^^^ 2 ^ r : Nat) : Int) ≠ T[i] := by
        intro e
        have e2 := congrArg UInt8.toNat e
        have e3 := U8_toNat ((T[i].toNat ^^^ 2 ^ r : Nat) : Int) (by omega)
        have e4 : T[i].toNat ^^^ (T[i].toNat ^^^ 2 ^ r) = 2 ^ r := by rw [← Nat.xor_assoc, Nat.xor_self, Nat.zero_xor]
        have e5 : T[i].toNat ^^^ 2 ^ r = T[i].toNat := by omega
        rw [e5, Nat.xor_self] at e4
        have := Nat.two_pow_pos r
        omega
      have hE6 := HBit.out rfl i hi _ hne
      have hR := read_dg (T.set i (U8 ((T[i].toNat ^^^ 2 ^ r : Nat) : Int))) (by rw [List.length_set]; omega)
      rw [hE6, readD_no (by rw [hE6]; decide)] at hR
      have HR := Lib.hid hR
      have hcv2 := fun c => conv_string hfin (n := T.length) (by rw [List.length_set]) c
      have hB7 := hB6.setCell (p := ⟨g, i, none⟩) hg0 (.int .u8 ((T[i].toNat ^^^ 2 ^ r : Nat) : Int))
      have hii : (i : Int) < (T.length : Int) := by omega
      clear hne HBit hfin hby hB6 hR hE6 hcap hxl hpr
      generalize T[i].toNat = t at *
      generalize t ^^^ 2 ^ r = t' at *
      generalize hpw : ((2 ^ r : Nat) : Int) = pr at *
      generalize T.set i (U8 (t' : Int)) = T' at *
      generalize hW7 : w6.setCell ⟨g, i, none⟩ (.int .u8 (t' : Int)) = w7 at *
      obtain rfl | rfl | rfl | rfl | rfl | rfl | rfl | rfl : r = 0 ∨ r = 1 ∨ r = 2 ∨ r = 3 ∨ r = 4 ∨ r = 5 ∨ r = 6 ∨ r = 7 := by omega
      all_goals
        simp at hpw
        subst hpw
        push_cast at hm
        go_wp2_with fail
        refine (HR.out _).mono ?_
        rintro e w8 ⟨rfl, hb⟩
        have hB8 := Below.chainAlloc (Below.chain hb hB7) (.cells #[.int .i64 0, .int .i64 0, .int .u32 0, .int .i64 0, .int .i64 0, .int .i64 0, .int .i64 0, .int .i64 0, .string ⟨#[]⟩, .string ⟨#[]⟩] 24)
        clear hb hW7 hcv hcv2 ci fi hx hB7 HR
        go_wp2_with fail
        refine (awake10 _).mono ?_
        rintro e w9 ⟨rfl, hb⟩
        have hB := Below.chain hb hB8
        clear hb hB8
        go_wp2_with fail
        go_ret
        exact ⟨rfl, hB⟩
namespace datagramBit
theorem own : ownKnob Try.prog.godebug = none := by kernel_rfl
theorem laidOut : laidOutB Try.prog = true := by kernel_rfl
set_option maxRecDepth 100000 in
theorem lifted (os : Os) (started : os.Started) (H : Type) (enc : TypeId × Value → H) :
    ReturnsInHanded {} Try.checked os 6 .any (Rows.datagramBitSpec.pre6 enc Try.prog Try.f6 Rows.datagramBitRow.domain false) (Rows.datagramBitSpec.post enc Try.prog Try.f6 false true false false) := by
  refine law_lift (C := Try.checked) (tb := 4) own started (by kernel_rfl) Try.func6 laidOut rfl Try.underlying4 rfl (by kernel_rfl) (fun ds h => by match ds, h with | [d1, d2], _ => rfl)
    (ChangeSpec.witness6 (enc := enc) (C := Try.checked) false ⟨#[], #[.agg #[.int .i64 0, .int .i64 0, .int .u32 0, .int .i64 0, .int .i64 0, .int .i64 0, .int .i64 0, .int .i64 0, .string ⟨#[]⟩, .string ⟨#[]⟩], .int .i64 0], []⟩ 8 (by kernel_rfl) (by kernel_rfl) (by kernel_rfl) (by kernel_rfl)) ?_
  intro W base args ds ps hval hA
  rw [Try.params6] at hA hval
  obtain ⟨v0, v1, d0, d1, p0, p1, rfl, rfl, rfl, h0, h1⟩ := trodAll_two hA
  obtain ⟨d, rfl, dok, dh, db⟩ := open_dg (hval 0 24 v0 rfl rfl) h0
  obtain ⟨at1, rfl, rfl, rfl, wat1⟩ := open_int Try.underlying3 (hval 1 3 v1 rfl rfl) h1
  replace wat1 := by simpa [Lit.wf, IntKind.min, IntKind.max, IntKind.signed, IntKind.bits] using wat1
  exact bit_walk d dok dh db at1 _
theorem proved : Rows.DatagramBitSaid :=
  OpenClaim.holds_of_wide 6 Try.f6 rfl rfl rfl rfl rfl rfl rfl ⟨rfl, rfl, rfl, rfl, rfl⟩ rfl rfl rfl rfl rfl (by kernel_rfl) Try.func6 (by kernel_rfl)
    (of_decide_eq_true (by kernel_rfl)) (by unfold Func.isWrapper; first | (rw [if_pos (by decide +kernel)]; kernel_rfl) | (rw [if_neg (by decide +kernel)]; exact ⟨rfl, rfl⟩))
    (fun os started H enc _ => lifted os started H enc)
end datagramBit
#print axioms datagramBit.proved
end Go.Proofs.Ytphejbjbleeigaa
