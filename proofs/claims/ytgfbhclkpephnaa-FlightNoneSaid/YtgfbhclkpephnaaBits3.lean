/-
  Bits: counted, listed; two lists held against each other: contracts (chapter 11).
-/
import Derived.Test.YtgfbhclkpephnaaBits2
namespace Go.Proofs.Ytgfbhclkpephnaa
open Go.RowKit
set_option linter.unusedVariables false
set_option maxRecDepth 100000
set_option maxHeartbeats 1000000
def cntTo (l : List UInt8) : Nat → Int
  | 0 => 0
  | k + 1 => cntTo l k + if hasB l k then 1 else 0
def sumC (l : List UInt8) : Int := l.foldl (fun a c => a + Lib.onesCount c.toNat) 0
theorem sumC_snoc (l : List UInt8) (c : UInt8) : sumC (l ++ [c]) = sumC l + Lib.onesCount c.toNat := by simp [sumC]
def b1 (c : Nat) (j : Nat) : Int := if c.testBit j then 1 else 0
theorem ones_fin : ∀ c : Fin 256, (Lib.onesCount c.val : Int) = b1 c.val 0 + b1 c.val 1 + b1 c.val 2 + b1 c.val 3 + b1 c.val 4 + b1 c.val 5 + b1 c.val 6 + b1 c.val 7 := by decide +kernel
theorem ones_byte (c : UInt8) : (Lib.onesCount c.toNat : Int) = b1 c.toNat 0 + b1 c.toNat 1 + b1 c.toNat 2 + b1 c.toNat 3 + b1 c.toNat 4 + b1 c.toNat 5 + b1 c.toNat 6 + b1 c.toNat 7 := ones_fin ⟨c.toNat, UInt8.toNat_lt c⟩
theorem ones_le (c : UInt8) : (Lib.onesCount c.toNat : Int) ≤ 8 := by
  rw [ones_byte]
  have : ∀ j, b1 c.toNat j ≤ 1 := fun j => by unfold b1; split <;> omega
  have h0 := this 0; have h1 := this 1; have h2 := this 2; have h3 := this 3; have h4 := this 4; have h5 := this 5; have h6 := this 6; have h7 := this 7
  omega
theorem sumC_bd (l : List UInt8) : 0 ≤ sumC l ∧ sumC l ≤ 8 * l.length := by
  induction hn : l.length generalizing l with
  | zero => simp at hn; subst hn; simp [sumC]
  | succ n ih =>
    have hne : l ≠ [] := by intro h; subst h; simp at hn
    rw [← List.dropLast_concat_getLast hne, sumC_snoc]
    have := ih l.dropLast (by simp [hn])
    have hc := ones_le (l.getLast hne)
    omega
theorem has_bit (l : List UInt8) (hl : l.length = 32) (k j : Nat) (hk : k < 32) (hj : j < 8) : hasB l ((8 * k + j : Nat) : Int) = (l.getD k 0).toNat.testBit j := by
  unfold hasB bitOf
  have e1 : (((8 * k + j : Nat) : Int) / 8).toNat = k := by omega
  have e2 : (((8 * k + j : Nat) : Int) % 8).toNat = j := by omega
  rw [e1, e2]
  have e3 : (0 : Int) ≤ ((8 * k + j : Nat) : Int) := by omega
  have e4 : ((8 * k + j : Nat) : Int) < 256 := by omega
  rw [decide_eq_true e3, decide_eq_true e4, hl]
  simp
theorem cnt_bytes (l : List UInt8) (hl : l.length = 32) (k : Nat) (hk : k ≤ 32) : cntTo l (8 * k) = sumC (l.take k) := by
  induction k with
  | zero => simp [cntTo, sumC]
  | succ k ih =>
    have hk' : k < l.length := by omega
    rw [List.take_succ_eq_append_getElem hk', sumC_snoc, ← ih (by omega), ones_byte]
    have e : l[k] = l.getD k 0 := by rw [List.getD_eq_getElem?_getD, List.getElem?_eq_getElem hk']; rfl
    rw [e, show 8 * (k + 1) = 8 * k + 7 + 1 by omega]
    simp only [cntTo]
    have h0 := has_bit l hl k 0 (by omega) (by omega)
    have h1 := has_bit l hl k 1 (by omega) (by omega)
    have h2 := has_bit l hl k 2 (by omega) (by omega)
    have h3 := has_bit l hl k 3 (by omega) (by omega)
    have h4 := has_bit l hl k 4 (by omega) (by omega)
    have h5 := has_bit l hl k 5 (by omega) (by omega)
    have h6 := has_bit l hl k 6 (by omega) (by omega)
    have h7 := has_bit l hl k 7 (by omega) (by omega)
    simp only [Nat.add_zero] at h0
    rw [h0, h1, h2, h3, h4, h5, h6, h7]
    unfold b1
    omega
theorem cnt_none (l : List UInt8) (hl : l.length ≠ 32) (k : Nat) : cntTo l k = 0 := by
  induction k with
  | zero => rfl
  | succ k ih => simp [cntTo, ih, hasB, hl]
theorem cnt_bd (l : List UInt8) (k : Nat) : 0 ≤ cntTo l k ∧ cntTo l k ≤ k := by
  induction k with
  | zero => simp [cntTo]
  | succ k ih => simp only [cntTo]; split <;> omega
theorem count_any (l : List UInt8) (hl : l.length ≤ 9223372036854775807) (w : World) : Calls Try.prog 59 #[Str l] w fun e w' => e = .returned (.int .i64 (cntTo l 256)) ∧ Below w.heap.size w w' := by
  by_cases h32 : l.length = 32
  · have hc := cnt_bytes l h32 32 (by omega)
    rw [show 8 * 32 = 256 by rfl, List.take_of_length_le (by omega)] at hc
    rw [hc]
    clear hc
    have hl' : ((l.length : Int) != 32) = false := by simp; omega
    have HL := Lib.hid h32
    clear h32
    have hbg := byte_get
    go_enter Try.func59, Try.ntmps59
    go_wp2_with fail
    go_loopw [3, 10] (fun n i wr => ∃ k : Nat, k ≤ l.length ∧ n = .int .i64 (sumC (l.take k)) ∧ i = .int .i64 k ∧ Below w.heap.size w wr) (fun _ i _ => l.length - (intOf i).toNat)
    case atStart => exact ⟨0, by omega, rfl, rfl, Below.refl _ _⟩
    case round =>
      obtain ⟨k, hk, rfl, rfl, hB⟩ := hrel
      by_cases hlt : k < l.length
      · have hs := sumC_bd (l.take k)
        have hle : (l.take k).length ≤ 32 := by simp; rw [HL.out]; omega
        have hsn : Hid (sumC (l.take (k + 1)) = sumC (l.take k) + Lib.onesCount l[k].toNat) := by
          rw [Hid, List.take_succ_eq_append_getElem hlt, sumC_snoc]
        have ho := ones_le l[k]
        have hcall := fun w => Try.bits_OnesCount8 (l[k].toNat : Int) w (by omega) (by have := UInt8.toNat_lt l[k]; omega)
        simp only [Int.toNat_natCast] at hcall
        generalize sumC (l.take k) = s at *
        generalize Lib.onesCount l[k].toNat = o at *
        obtain ⟨hs0, hs1⟩ := hs
        have HC := Lib.hid hcall
        clear hcall
        go_wp2_with fail
        refine (HC.out _).mono ?_
        rintro x w2 ⟨rfl, rfl⟩
        go_wp2_with fail
        go_roundw
        case rel => exact ⟨k + 1, by omega, by rw [hsn.out], by go_num, hB⟩
        case measure => simp [intOf]; omega
      · have hke : l.take k = l := List.take_of_length_le (by omega)
        have HK := Lib.hid hke
        clear hke
        go_wp2_with fail
        go_ret
        refine ⟨?_, hB⟩
        rw [HK.out]
        rfl
  · rw [cnt_none l h32]
    have hl' : ((l.length : Int) != 32) = true := by simp; omega
    clear h32
    go_enter Try.func59, Try.ntmps59
    go_wp2_with fail
    go_ret
    exact ⟨rfl, Below.refl _ _⟩
end Go.Proofs.Ytgfbhclkpephnaa
