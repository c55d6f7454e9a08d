/-
  The law BitsOf returns true for every list and every mark. No condition.
-/
import Derived.Test.YtonafnhgpngfpaaBitsLaw
namespace Go.Proofs.Ytonafnhgpngfpaa
open Go.RowKit Go.ChangeShapes Go.WideShapes
set_option linter.unusedVariables false
set_option maxRecDepth 100000
set_option maxHeartbeats 2000000
/-- The marks of a list are just those of it that may be. -/
def isB (zs : List Int) (i : Int) : Bool := zs.foldl (fun b z => b || (z == i && (decide (0 ≤ i) && decide (i < 256)))) false
theorem isB_snoc (zs : List Int) (z i : Int) : isB (zs ++ [z]) i = (isB zs i || (z == i && (decide (0 ≤ i) && decide (i < 256)))) := by simp [isB]
theorem has_set (l : List UInt8) (h : l.length = 32) (z i : Int) : hasB (setB l z) i = (hasB l i || (z == i && (decide (0 ≤ i) && decide (i < 256)))) := by
  by_cases hi : 0 ≤ i ∧ i < 256
  · obtain ⟨hi0, hi1⟩ := hi
    unfold hasB
    rw [setB_length, h, decide_eq_true hi0, decide_eq_true hi1]
    simp only [beq_self_eq_true, Bool.true_and, Bool.and_true]
    by_cases hz : 0 ≤ z ∧ z < 256
    · obtain ⟨hz0, hz1⟩ := hz
      rw [setB_yes l z hz0 hz1]
      unfold bitOf
      by_cases hq : (z / 8).toNat = (i / 8).toNat
      · have hlt : (i / 8).toNat < l.length := by omega
        rw [hq]
        have e1 : (l.set (i / 8).toNat (U8 (bits .or .u8 ((l.getD (i / 8).toNat 0).toNat : Int) (pw z)))).getD (i / 8).toNat 0 = U8 (bits .or .u8 ((l.getD (i / 8).toNat 0).toNat : Int) (pw z)) := by
          rw [List.getD_eq_getElem?_getD]
          simp [hlt]
        rw [e1]
        generalize l.getD (i / 8).toNat 0 = c
        have hp := pw_bd z
        have hc := UInt8.toNat_lt c
        rw [pw_nat] at hp ⊢
        rw [u8_or_nat _ _ hc (by omega)]
        have hor : c.toNat ||| 2 ^ (z % 8).toNat < 2 ^ 8 := Nat.or_lt_two_pow (by omega) (by omega)
        have e2 : (U8 ((c.toNat ||| 2 ^ (z % 8).toNat : Nat) : Int)).toNat = c.toNat ||| 2 ^ (z % 8).toNat := by
          unfold U8
          rw [Int.toNat_natCast, UInt8.toNat_ofNat']
          exact Nat.mod_eq_of_lt hor
        rw [e2, Nat.testBit_or, Nat.testBit_two_pow]
        congr 1
        rw [Bool.eq_iff_iff]
        simp
        omega
      · have hne : ¬ z = i := fun e => hq (by rw [e])
        have e1 : (l.set (z / 8).toNat (U8 (bits .or .u8 ((l.getD (z / 8).toNat 0).toNat : Int) (pw z)))).getD (i / 8).toNat 0 = l.getD (i / 8).toNat 0 := by
          simp only [List.getD_eq_getElem?_getD, List.getElem?_set_ne hq]
        rw [e1]
        simp [hne]
    · rw [setB_no l z hz]
      have hne : ¬ z = i := fun e => hz (by omega)
      simp [hne]
  · have h1 : (decide (0 ≤ i) && decide (i < 256)) = false := by
      rw [Bool.and_eq_false_iff]; simp; omega
    have h2 : ∀ m, hasB m i = false := fun m => by
      unfold hasB
      rw [← Bool.and_assoc (decide (0 ≤ i)), h1]
      simp
    rw [h2, h2, h1]
    simp
theorem has_with (zs : List Int) (k : Nat) (hk : k ≤ zs.length) (i : Int) : hasB (withB zero32 (zs.take k)) i = isB (zs.take k) i := by
  induction k with
  | zero =>
    show hasB zero32 i = false
    unfold hasB bitOf
    have : ∀ j, (zero32.getD j 0).toNat.testBit (i % 8).toNat = false := fun j => by
      have : zero32.getD j 0 = 0 := by
        unfold zero32
        rw [List.getD_eq_getElem?_getD, List.getElem?_replicate]
        split <;> rfl
      rw [this]
      simp
    rw [this]
    simp
  | succ k ih =>
    have hk' : k < zs.length := by omega
    rw [with_snoc zero32 zs k hk', has_set _ (by rw [withB_length]; rfl), ih (by omega), List.take_succ_eq_append_getElem hk', isB_snoc]
theorem walkOf (a : Option Addr) (len cap : Nat) (zs : List Int) (i : Int) (hi0 : -9223372036854775808 ≤ i) (hi1 : i ≤ 9223372036854775807) (w : World) (hz : IsInts .i64 w a len cap zs) :
    Calls Try.prog 8 #[.slice a len cap, .int .i64 i] w fun e w' => e = .returned (.bool true) ∧ Below w.heap.size w w' := by
  by_cases hbig : 300 < len
  · have hb' : (300 : Int) < (len : Int) := by omega
    have hlen : len ≤ 9223372036854775807 := by have := hz.2.1; have := hz.2.2.1; unfold maxLen at this; omega
    clear hbig hz
    go_enter Try.func8, Try.ntmps8
    go_wp2_with fail
    refine (awake11 _).mono ?_
    rintro x w1 ⟨rfl, hb⟩
    go_wp2_with fail
    go_ret
    exact ⟨rfl, hb⟩
  · have hb' : ¬ (300 : Int) < (len : Int) := by omega
    clear hbig
    obtain ⟨hzl, hlc, hcm, hwf, hcells⟩ := id hz
    have hr := hz.i64
    have hw := has_with zs len (by omega) i
    rw [List.take_of_length_le (by omega)] at hw
    have hwl : (withB zero32 zs).length = 32 := by rw [withB_length]; rfl
    have HZ := Lib.hid hzl
    have HW := Lib.hid hw
    have HWL := Lib.hid hwl
    have HH := Lib.hid hz
    clear hzl hw hwl hwf hz
    go_enter Try.func8, Try.ntmps8
    go_wp2_with fail
    refine (of_any a len cap zs w HH.out).mono ?_
    rintro x w1 ⟨rfl, hb⟩
    go_wp2_with fail
    go_loopw [6, 7] (fun b j wr => ∃ k : Nat, k ≤ len ∧ b = .bool (isB (zs.take k) i) ∧ j = .int .i64 k ∧ Below w.heap.size w wr) (fun _ j _ => len - (intOf j).toNat)
    case atStart => exact ⟨0, by omega, rfl, rfl, hb⟩
    case round =>
      obtain ⟨k, hk, rfl, rfl, hB⟩ := hrel
      by_cases hlt : k < len
      · obtain ⟨sb, so, rfl, hsb, hcell⟩ := hcells.resolve_left (by omega)
        have hck := hcell k (by rw [HZ.out]; exact hlt)
        have hzk := hr (zs[k]'(by rw [HZ.out]; exact hlt)) (by simp)
        have hsn : Hid (isB (zs.take (k + 1)) i = (isB (zs.take k) i || ((zs[k]'(by rw [HZ.out]; exact hlt)) == i && (decide (0 ≤ i) && decide (i < 256))))) := by
          rw [Hid, List.take_succ_eq_append_getElem (by rw [HZ.out]; exact hlt), isB_snoc]
        generalize isB (zs.take k) i = b at *
        generalize zs[k]'(by rw [HZ.out]; exact hlt) = z at *
        obtain ⟨hz0, hz1⟩ := hzk
        replace hck : wr.cell? ⟨sb, so + k, none⟩ = some (.int .i64 z) := (hB.cell (p := ⟨sb, so + k, none⟩) hsb).trans hck
        have fin : ∀ b' : Bool, b' = (b || (z == i && (decide (0 ≤ i) && decide (i < 256)))) → b' = isB (zs.take (k + 1)) i := fun b' h => h.trans hsn.out.symm
        have FIN := Lib.hid fin
        clear fin
        cases b
        · by_cases hzi : z = i
          · by_cases h0 : 0 ≤ i
            · by_cases h2 : i < 256
              · have e1 : (z == i) = true := by simpa using hzi
                have HE := Lib.hid hzi
                clear hzi
                go_wp2_with fail
                go_roundw
                case rel => exact ⟨k + 1, by omega, by rw [← FIN.out true (by rw [HE.out]; simp; omega)], by go_num, hB⟩
                case measure => simp [intOf]; omega
              · have e1 : (z == i) = true := by simpa using hzi
                have HE := Lib.hid hzi
                clear hzi
                go_wp2_with fail
                go_roundw
                case rel => exact ⟨k + 1, by omega, by rw [← FIN.out false (by rw [HE.out]; simp; omega)], by go_num, hB⟩
                case measure => simp [intOf]; omega
            · have e1 : (z == i) = true := by simpa using hzi
              have HE := Lib.hid hzi
              clear hzi
              go_wp2_with fail
              go_roundw
              case rel => exact ⟨k + 1, by omega, by rw [← FIN.out false (by rw [HE.out]; simp; omega)], by go_num, hB⟩
              case measure => simp [intOf]; omega
          · have e1 : (z == i) = false := by simpa using hzi
            go_wp2_with fail
            go_roundw
            case rel => exact ⟨k + 1, by omega, by rw [← FIN.out false (by rw [e1]; simp)], by go_num, hB⟩
            case measure => simp [intOf]; omega
        · go_wp2_with fail
          go_roundw
          case rel => exact ⟨k + 1, by omega, by rw [← FIN.out true (by simp)], by go_num, hB⟩
          case measure => simp [intOf]; omega
      · have hke : zs.take k = zs := List.take_of_length_le (by rw [HZ.out]; omega)
        rw [hke]
        clear hke
        go_wp2_with fail
        refine (rof_any a len cap zs wr (IsInts.below HH.out hB)).mono ?_
        rintro x w2 ⟨rfl, hb2⟩
        have hB2 := Below.chain hb2 hB
        clear hb2 hB
        generalize withB zero32 zs = m at *
        generalize isB zs i = b at *
        go_wp2_with fail
        refine (has_any m (by rw [HWL.out]; decide) i _).mono ?_
        rw [HW.out]
        rintro x w3 ⟨rfl, hb⟩
        replace hB2 := Below.chain hb hB2
        clear hb
        go_wp2_with fail
        refine (empty_any _).mono ?_
        rintro x w4 ⟨rfl, hb⟩
        replace hB2 := Below.chain hb hB2
        clear hb
        go_wp2_with fail
        refine (rempty_any _).mono ?_
        rintro x w5 ⟨rfl, hb⟩
        replace hB2 := Below.chain hb hB2
        clear hb
        generalize zero32 = zz at *
        go_wp2_with fail
        refine (awake11 _).mono ?_
        rintro x w6 ⟨rfl, hb⟩
        replace hB2 := Below.chain hb hB2
        clear hb
        go_wp2_with fail
        go_ret
        exact ⟨rfl, hB2⟩
namespace bitsOf
theorem own : ownKnob Try.prog.godebug = none := by kernel_rfl
theorem laidOut : laidOutB Try.prog = true := by kernel_rfl
set_option maxRecDepth 100000 in
theorem lifted (os : Os) (started : os.Started) (H : Type) (enc : TypeId × Value → H) :
    ReturnsInHanded {} Try.checked os 8 .any (Rows.bitsOfSpec.pre6 enc Try.prog Try.f8 Rows.bitsOfRow.domain false) (Rows.bitsOfSpec.post enc Try.prog Try.f8 false true false false) := by
  refine law_lift (C := Try.checked) (tb := 4) own started (by kernel_rfl) Try.func8 laidOut rfl Try.underlying4 rfl (by kernel_rfl) (fun ds h => by match ds, h with | [d1, d2], _ => rfl)
    (ChangeSpec.witness6 (enc := enc) (C := Try.checked) false ⟨#[], #[.slice none 0 0, .int .i64 0], []⟩ 8 (by kernel_rfl) (by kernel_rfl) (by kernel_rfl) (by kernel_rfl)) ?_
  intro W base args ds ps hval hA
  rw [Try.params8] at hA hval
  obtain ⟨v0, v1, d0, d1, p0, p1, rfl, rfl, rfl, h0, h1⟩ := trodAll_two hA
  obtain ⟨al, nl, cl, rfl⟩ := okWide_slice Try.underlying41 (hval 0 41 v0 rfl rfl)
  obtain ⟨l, wl⟩ := open_intsl (k := .i64) Try.underlying41 Try.underlying3 (by kernel_rfl) h0
  obtain ⟨i, rfl, rfl, rfl, wi⟩ := open_int Try.underlying3 (hval 1 3 v1 rfl rfl) h1
  replace wi := by simpa [Lit.wf, IntKind.min, IntKind.max, IntKind.signed, IntKind.bits] using wi
  exact walkOf al nl cl l i wi.1 wi.2 W wl
theorem proved : Rows.BitsOfSaid :=
  OpenClaim.holds_of_wide 8 Try.f8 rfl rfl rfl rfl rfl rfl rfl ⟨rfl, rfl, rfl, rfl, rfl⟩ rfl rfl rfl rfl rfl (by kernel_rfl) Try.func8 (by kernel_rfl)
    (of_decide_eq_true (by kernel_rfl)) (by unfold Func.isWrapper; first | (rw [if_pos (by decide +kernel)]; kernel_rfl) | (rw [if_neg (by decide +kernel)]; exact ⟨rfl, rfl⟩))
    (fun os started H enc _ => lifted os started H enc)
end bitsOf
#print axioms bitsOf.proved
end Go.Proofs.Ytonafnhgpngfpaa
