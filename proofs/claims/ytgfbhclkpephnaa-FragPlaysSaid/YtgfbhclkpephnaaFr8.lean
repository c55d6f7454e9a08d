/-
  Frag: the text of an entry's parts (chapter 49).
-/
import Derived.Test.YtgfbhclkpephnaaFr7
import Derived.Test.YtgfbhclkpephnaaBld
namespace Go.Proofs.Ytgfbhclkpephnaa
open Go Go.RowKit
set_option linter.unusedVariables false
set_option maxRecDepth 100000
set_option maxHeartbeats 1000000
def textF (ps : List (Int × List UInt8)) : Nat → List UInt8
  | 0 => []
  | k + 1 => textF ps k ++ (getP (k : Int) ps).getD []
theorem textF_len {ps : List (Int × List UInt8)} {L : Nat} (h : ∀ k, ((getP k ps).getD []).length ≤ L) : ∀ k, (textF ps k).length ≤ k * L
  | 0 => by simp [textF]
  | k + 1 => by
    have := textF_len h k
    have h2 := h (k : Int)
    rw [textF, List.length_append, Nat.succ_mul]
    omega
theorem ftext_ok (e : FE) (n : Nat) (w : World) (he : EntW w e) (hn : e.n = (n : Int)) (hn2 : n ≤ 255) (hl : ∀ k, ((getP k e.ps).getD []).length ≤ 100000) :
    Calls Try.prog 72 #[.pointer (some ⟨e.be, 0, none⟩)] w fun x w' => x = .returned (Str (textF e.ps n)) ∧ Below w.heap.size w w' := by
  have HL := Lib.hid hl
  have HT := Lib.hid (textF_len hl)
  have HE := Lib.hid he
  have HB1 := Lib.hid (Below.chainAlloc (Below.refl _ w) (.cells #[.pointer none, .slice none 0 0] 189))
  have HN := Lib.hid (Bl.new w)
  have y0 := (he.chain HB1.out).b.facts.1 0
  rw [hn] at y0
  clear hl he hn
  go_enter Try.func72, Try.ntmps72
  go_wp2_with fail
  clear y0
  go_loopw [9] (fun iv wr => ∃ k : Nat, k ≤ n ∧ iv = .int .i64 (k : Nat) ∧ Hid (Bl w.heap.size w.heap.size (textF e.ps k) wr) ∧ Hid (Below w.heap.size w wr)) (fun iv _ => n - (intOf iv).toNat)
  case atStart => exact ⟨0, Nat.zero_le _, rfl, HN, HB1⟩
  case round =>
    obtain ⟨k, hk, rfl, HS, HB⟩ := hrel
    by_cases hlt : k < n
    · have hlt' : (k : Int) < (n : Int) := by omega
      have he : EntW wr e := ⟨HE.out.b.below HB.out HE.out.b.lt, HE.out.m.below HB.out HE.out.m.lt⟩
      have y1 := he.b.facts.1 1
      have hlk := he.m.look keyI undP (k : Int) (zeroFS _) false
      have hgv : (getM (k : Int) (psM e.ps)).getD (.string ⟨#[]⟩) = Str ((getP (k : Int) e.ps).getD []) := by
        rw [getP_mp]
        cases getP (k : Int) e.ps <;> rfl
      rw [hgv] at hlk
      simp only [Bool.false_eq_true, if_false] at hlk
      have h1 := HL.out (k : Int)
      have HTX : Hid (textF e.ps k ++ (getP (k : Int) e.ps).getD [] = textF e.ps (k + 1)) := Lib.hid rfl
      have h2 := HT.out k
      generalize (getP (k : Int) e.ps).getD [] = X at *
      clear he hgv
      go_wp2_with fail
      refine (write_bl _ _ _ _ _ HS.out (by have := Nat.mul_le_mul_right 100000 (show k ≤ 255 by omega); omega) HB.out.size).mono ?_
      rintro x w2 ⟨rfl, hbl, hb, hkp⟩
      have HS2 := Lib.hid (HTX.out ▸ hbl)
      have HB2 := Lib.hid (HB.out.trans hb)
      clear y1 hlk hbl hb hkp h1 h2 HS HB
      go_wp2_with fail
      go_roundw
      case measure => simp [intOf]; omega
      case rel => exact ⟨k + 1, hlt, by go_num, HS2, HB2⟩
    · obtain rfl : k = n := by omega
      have hlt' : ¬ (k : Int) < (k : Int) := by omega
      go_wp2_with fail
      refine (string_bl _ _ _ _ HS.out HB.out.size).mono ?_
      rintro x w2 ⟨rfl, hb⟩
      have HB2 := Lib.hid (HB.out.trans hb)
      clear hb HS HB
      go_wp2_with fail
      go_ret
      exact ⟨rfl, HB2.out⟩
end Go.Proofs.Ytgfbhclkpephnaa
