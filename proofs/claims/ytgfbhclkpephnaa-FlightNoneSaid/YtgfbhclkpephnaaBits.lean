/-
  Bits: contracts of package bits and of the reference's (chapter 11): marks.
-/
import Derived.Test.YtgfbhclkpephnaaBase2
import Derived.Test.YtgfbhclkpephnaaLift2
import Derived.Test.YtgfbhclkpephnaaShelf
namespace Go.Proofs.Ytgfbhclkpephnaa
open Go.RowKit
set_option linter.unusedVariables false
set_option maxRecDepth 100000
set_option maxHeartbeats 1000000
def pw (i : Int) : Int := 2 ^ (i % 8).toNat
theorem pw_bd (i : Int) : 1 ≤ pw i ∧ pw i ≤ 128 := by
  unfold pw
  have h : (i % 8).toNat = 0 ∨ (i % 8).toNat = 1 ∨ (i % 8).toNat = 2 ∨ (i % 8).toNat = 3 ∨ (i % 8).toNat = 4 ∨ (i % 8).toNat = 5 ∨ (i % 8).toNat = 6 ∨ (i % 8).toNat = 7 := by omega
  rcases h with h | h | h | h | h | h | h | h <;> rw [h] <;> decide
theorem pw_nat (i : Int) : pw i = ((2 ^ (i % 8).toNat : Nat) : Int) := by unfold pw; simp
theorem ret2 {a b : Value} {a' b' : Value} (h : a = a') (h2 : b = b') : Ending.returned (.tuple #[a, b]) = .returned (.tuple #[a', b']) := by rw [h, h2]
theorem place_any (i : Int) (h0 : 0 ≤ i) (h1 : i < 256) (w : World) : Calls Try.prog 100 #[.int .i64 i] w fun e w' => e = .returned (.tuple #[.int .i64 (i / 8), .int .u8 (pw i)]) ∧ Below w.heap.size w w' := by
  have hm : 0 ≤ i % 8 := by omega
  have hm2 : i % 8 < 8 := by omega
  have hp := Lib.hid (pw_bd i)
  go_enter Try.func100, Try.ntmps100
  go_wp2_with fail
  go_region
  all_goals go_wp2
  all_goals go_ret2
  refine ⟨ret2 rfl ?_, (Below.refl _ _).drew⟩
  have hp := hp.out
  show Value.int .u8 (pw i % 256) = _
  rw [Int.emod_eq_of_lt (by omega) (by omega)]
def bitOf (l : List UInt8) (i : Int) : Bool := (l.getD (i / 8).toNat 0).toNat.testBit (i % 8).toNat
def hasB (l : List UInt8) (i : Int) : Bool := l.length == 32 && (decide (0 ≤ i) && (decide (i < 256) && bitOf l i))
theorem and_pw (c : UInt8) (i : Int) : (bits .and .u8 (c.toNat : Int) (pw i) != 0) = c.toNat.testBit (i % 8).toNat := by
  have h := pw_bd i
  rw [pw_nat] at h ⊢
  rw [u8_and_nat _ _ (UInt8.toNat_lt _) (by omega), nat_bit, Nat.testBit_eq_decide_div_mod_eq]
  generalize 2 ^ (i % 8).toNat = p at *
  rcases Nat.mod_two_eq_zero_or_one (c.toNat / p) with h2 | h2
  · simp [h2]
  · simp [h2]; omega
theorem shr_pw (c : UInt8) (i : Int) : (((c.toNat : Int) / pw i).tmod 2 == 1) = c.toNat.testBit (i % 8).toNat := by
  rw [pw_nat, Nat.testBit_eq_decide_div_mod_eq]
  generalize 2 ^ (i % 8).toNat = p at *
  rw [← Int.natCast_ediv]
  generalize c.toNat / p = q
  rw [Int.tmod_eq_emod_of_nonneg (by omega), Bool.eq_iff_iff]
  simp
  omega
theorem bitOf_eq (l : List UInt8) (i : Int) (h : (i / 8).toNat < l.length) : bitOf l i = (l[(i / 8).toNat]).toNat.testBit (i % 8).toNat := by
  unfold bitOf
  rw [List.getD_eq_getElem?_getD, List.getElem?_eq_getElem h]
  rfl
theorem byte_get (m : List UInt8) (k : Nat) (h : k < (⟨m.toArray⟩ : ByteArray).size) : (⟨m.toArray⟩ : ByteArray)[k]'h = m[k]'(show k < m.length from by simpa using (show k < m.toArray.size from h)) := rfl
theorem ret_bool {a b : Bool} (h : a = b) : Ending.returned (.bool a) = .returned (.bool b) := by rw [h]
theorem has_any (l : List UInt8) (hl : l.length ≤ 9223372036854775807) (i : Int) (w : World) : Calls Try.prog 86 #[Str l, .int .i64 i] w fun e w' => e = .returned (.bool (hasB l i)) ∧ Below w.heap.size w w' := by
  by_cases h32 : l.length = 32
  · have hl' : ((l.length : Int) != 32) = false := by simp; omega
    have HL := Lib.hid h32
    by_cases hi : 0 ≤ i ∧ i < 256
    · obtain ⟨h0, h1⟩ := hi
      have hq0 : 0 ≤ i / 8 := by omega
      have hq2 : i / 8 < (l.length : Int) := by omega
      have hB : Hid (hasB l i = bitOf l i) := by simp [Hid, hasB, h32, h0, h1]
      have hbg := byte_get
      clear h32
      go_enter Try.func86, Try.ntmps86
      go_wp2_with fail
      refine (place_any i h0 h1 _).mono ?_
      rintro x w1 ⟨rfl, hb⟩
      go_wp2_with fail
      go_ret
      refine ⟨ret_bool ?_, hb⟩
      rw [hB.out, bitOf_eq l i (by omega)]
      exact and_pw _ i
    · have hB : Hid (hasB l i = false) := by
        simp only [Hid, hasB]
        by_cases h0 : 0 ≤ i
        · have : ¬ i < 256 := by omega
          simp [this]
        · simp [h0]
      clear h32
      by_cases h0 : i < 0
      · clear hi
        go_enter Try.func86, Try.ntmps86
        go_wp2_with fail
        go_ret
        exact ⟨ret_bool hB.out.symm, Below.refl _ _⟩
      · have h2 : 0 ≤ i := by omega
        have h3 : 256 ≤ i := by omega
        clear hi h0
        go_enter Try.func86, Try.ntmps86
        go_wp2_with fail
        go_ret
        exact ⟨ret_bool hB.out.symm, Below.refl _ _⟩
  · have hl' : ((l.length : Int) != 32) = true := by simp; omega
    have hB : Hid (hasB l i = false) := by simp [Hid, hasB, h32]
    clear h32
    go_enter Try.func86, Try.ntmps86
    go_wp2_with fail
    go_ret
    exact ⟨ret_bool hB.out.symm, Below.refl _ _⟩
end Go.Proofs.Ytgfbhclkpephnaa
