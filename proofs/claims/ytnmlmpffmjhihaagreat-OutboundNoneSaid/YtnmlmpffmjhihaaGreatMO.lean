/-
  Merged: Bits: contracts of package bits and of the reference's (chapter 11): marks. | Bits: marks set, counted, listed: contracts (chapter 11). | Bits: counted, listed; two lists held against each other: contracts (chapter 11). | Bits: which are missing; two lists held against each other: contracts (chapter 11). | The sum of a row of bytes (chapter 7): plain: what it is; a row in which one byte was changed has another. | The sum of a row of bytes: the program's and the document's: contracts (chapter 7). | Wire: contracts of package wire and of the reference's (chapter 9). | Wire: the reader: contracts (chapter 9). | Wire: the reference's functions (chapter 9).
-/
import Derived.Test.YtnmlmpffmjhihaaGreatMA
import Derived.Test.YtnmlmpffmjhihaaGreatShelf
import Derived.Laws.BitsAllLaws
import Derived.LoopN
import Derived.WalkMore
import Derived.ScopeJumps
namespace Go.Proofs.YtnmlmpffmjhihaaGreat
open Go.RowKit
set_option linter.unusedVariables false
set_option maxRecDepth 100000
set_option maxHeartbeats 1000000
def pw (i : Int) : Int := 2 ^ (i % 8).toNat
theorem pw_bd (i : Int) : 1 ≤ pw i ∧ pw i ≤ 128 := by
  unfold pw
  have h : (i % 8).toNat = 0 ∨ (i % 8).toNat = 1 ∨ (i % 8).toNat = 2 ∨ (i % 8).toNat = 3 ∨ (i % 8).toNat = 4 ∨ (i % 8).toNat = 5 ∨ (i % 8).toNat = 6 ∨ (i % 8).toNat = 7 := by omega
  rcases h with h | h | h | h | h | h | h | h <;> rw [h] <;> decide
theorem pw_nat (i : Int) : pw i = ((2 ^ (i % 8).toNat : Nat) : Int) := by unfold pw; simp
theorem ret2 {a b : Value} {a' b' : Value} (h : a = a') (h2 : b = b') : Ending.returned (.tuple #[a, b]) = .returned (.tuple #[a', b']) := by rw [h, h2]
theorem place_any (i : Int) (h0 : 0 ≤ i) (h1 : i < 256) (w : World) : Calls Tryz.prog 85 #[.int .i64 i] w fun e w' => e = .returned (.tuple #[.int .i64 (i / 8), .int .u8 (pw i)]) ∧ Below w.heap.size w w' := by
  have hm : 0 ≤ i % 8 := by omega
  have hm2 : i % 8 < 8 := by omega
  have hp := Lib.hid (pw_bd i)
  go_enter Tryz.func85, Tryz.ntmps85
  go_wp2_with fail
  go_region
  all_goals go_wp2
  all_goals go_ret2
  refine ⟨ret2 rfl ?_, (Below.refl _ _).drew⟩
  have hp := hp.out
  show Value.int .u8 (pw i % 256) = _
  rw [Int.emod_eq_of_lt (by omega) (by omega)]
def bitOf (l : List UInt8) (i : Int) : Bool := (l.getD (i / 8).toNat 0).toNat.testBit (i % 8).toNat
def hasB (l : List UInt8) (i : Int) : Bool := l.length == 32 && (decide (0 ≤ i) && (decide (i < 256) && bitOf l i))
theorem and_pw (c : UInt8) (i : Int) : (bits .and .u8 (c.toNat : Int) (pw i) != 0) = c.toNat.testBit (i % 8).toNat := by
  have h := pw_bd i
  rw [pw_nat] at h ⊢
  rw [u8_and_nat _ _ (UInt8.toNat_lt _) (by omega), nat_bit, Nat.testBit_eq_decide_div_mod_eq]
  generalize 2 ^ (i % 8).toNat = p at *
  rcases Nat.mod_two_eq_zero_or_one (c.toNat / p) with h2 | h2
  · simp [h2]
  · simp [h2]; omega
theorem shr_pw (c : UInt8) (i : Int) : (((c.toNat : Int) / pw i).tmod 2 == 1) = c.toNat.testBit (i % 8).toNat := by
  rw [pw_nat, Nat.testBit_eq_decide_div_mod_eq]
  generalize 2 ^ (i % 8).toNat = p at *
  rw [← Int.natCast_ediv]
  generalize c.toNat / p = q
  rw [Int.tmod_eq_emod_of_nonneg (by omega), Bool.eq_iff_iff]
  simp
  omega
theorem bitOf_eq (l : List UInt8) (i : Int) (h : (i / 8).toNat < l.length) : bitOf l i = (l[(i / 8).toNat]).toNat.testBit (i % 8).toNat := by
  unfold bitOf
  rw [List.getD_eq_getElem?_getD, List.getElem?_eq_getElem h]
  rfl
theorem byte_get (m : List UInt8) (k : Nat) (h : k < (⟨m.toArray⟩ : ByteArray).size) : (⟨m.toArray⟩ : ByteArray)[k]'h = m[k]'(show k < m.length from by simpa using (show k < m.toArray.size from h)) := rfl
theorem bret_bool {a b : Bool} (h : a = b) : Ending.returned (.bool a) = .returned (.bool b) := by rw [h]
theorem has_any (l : List UInt8) (hl : l.length ≤ 9223372036854775807) (i : Int) (w : World) : Calls Tryz.prog 66 #[Str l, .int .i64 i] w fun e w' => e = .returned (.bool (hasB l i)) ∧ Below w.heap.size w w' := by
  by_cases h32 : l.length = 32
  · have hl' : ((l.length : Int) != 32) = false := by simp; omega
    have HL := Lib.hid h32
    by_cases hi : 0 ≤ i ∧ i < 256
    · obtain ⟨h0, h1⟩ := hi
      have hq0 : 0 ≤ i / 8 := by omega
      have hq2 : i / 8 < (l.length : Int) := by omega
      have hB : Hid (hasB l i = bitOf l i) := by simp [Hid, hasB, h32, h0, h1]
      have hbg := byte_get
      clear h32
      go_enter Tryz.func66, Tryz.ntmps66
      go_wp2_with fail
      refine (place_any i h0 h1 _).mono ?_
      rintro x w1 ⟨rfl, hb⟩
      go_wp2_with fail
      go_ret
      refine ⟨bret_bool ?_, hb⟩
      rw [hB.out, bitOf_eq l i (by omega)]
      exact and_pw _ i
    · have hB : Hid (hasB l i = false) := by
        simp only [Hid, hasB]
        by_cases h0 : 0 ≤ i
        · have : ¬ i < 256 := by omega
          simp [this]
        · simp [h0]
      clear h32
      by_cases h0 : i < 0
      · clear hi
        go_enter Tryz.func66, Tryz.ntmps66
        go_wp2_with fail
        go_ret
        exact ⟨bret_bool hB.out.symm, Below.refl _ _⟩
      · have h2 : 0 ≤ i := by omega
        have h3 : 256 ≤ i := by omega
        clear hi h0
        go_enter Tryz.func66, Tryz.ntmps66
        go_wp2_with fail
        go_ret
        exact ⟨bret_bool hB.out.symm, Below.refl _ _⟩
  · have hl' : ((l.length : Int) != 32) = true := by simp; omega
    have hB : Hid (hasB l i = false) := by simp [Hid, hasB, h32]
    clear h32
    go_enter Tryz.func66, Tryz.ntmps66
    go_wp2_with fail
    go_ret
    exact ⟨bret_bool hB.out.symm, Below.refl _ _⟩
end Go.Proofs.YtnmlmpffmjhihaaGreat
namespace Go.Proofs.YtnmlmpffmjhihaaGreat
open Go.RowKit
set_option linter.unusedVariables false
set_option maxRecDepth 100000
set_option maxHeartbeats 1000000
def zero32 : List UInt8 := List.replicate 32 0
theorem rempty_any (w : World) : Calls Tryz.prog 58 #[] w fun e w' => e = .returned (Str zero32) ∧ Below w.heap.size w w' := by
  have hmk : ∀ w, (Instr.makeSlice 120 (.int .i64 32) (.int .i64 32)).run Tryz.prog w = .ok (.slice (some ⟨w.heap.size, 0, none⟩) 32 32) (w.alloc (.cells #[.int .u8 0, .int .u8 0, .int .u8 0, .int .u8 0, .int .u8 0, .int .u8 0, .int .u8 0, .int .u8 0, .int .u8 0, .int .u8 0, .int .u8 0, .int .u8 0, .int .u8 0, .int .u8 0, .int .u8 0, .int .u8 0, .int .u8 0, .int .u8 0, .int .u8 0, .int .u8 0, .int .u8 0, .int .u8 0, .int .u8 0, .int .u8 0, .int .u8 0, .int .u8 0, .int .u8 0, .int .u8 0, .int .u8 0, .int .u8 0, .int .u8 0, .int .u8 0] 5)) := fun _ => by kernel_rfl
  have hcv : (convert 120 9 (.slice (some ⟨w.heap.size, 0, none⟩) 32 32)).run Tryz.prog (w.alloc (.cells #[.int .u8 0, .int .u8 0, .int .u8 0, .int .u8 0, .int .u8 0, .int .u8 0, .int .u8 0, .int .u8 0, .int .u8 0, .int .u8 0, .int .u8 0, .int .u8 0, .int .u8 0, .int .u8 0, .int .u8 0, .int .u8 0, .int .u8 0, .int .u8 0, .int .u8 0, .int .u8 0, .int .u8 0, .int .u8 0, .int .u8 0, .int .u8 0, .int .u8 0, .int .u8 0, .int .u8 0, .int .u8 0, .int .u8 0, .int .u8 0, .int .u8 0, .int .u8 0] 5)) = .ok (Str zero32) (w.alloc (.cells #[.int .u8 0, .int .u8 0, .int .u8 0, .int .u8 0, .int .u8 0, .int .u8 0, .int .u8 0, .int .u8 0, .int .u8 0, .int .u8 0, .int .u8 0, .int .u8 0, .int .u8 0, .int .u8 0, .int .u8 0, .int .u8 0, .int .u8 0, .int .u8 0, .int .u8 0, .int .u8 0, .int .u8 0, .int .u8 0, .int .u8 0, .int .u8 0, .int .u8 0, .int .u8 0, .int .u8 0, .int .u8 0, .int .u8 0, .int .u8 0, .int .u8 0, .int .u8 0] 5)) :=
    run_str_new (P := Tryz.prog) w 120 9 5 5 32 (List.replicate 32 0) [] Tryz.underlying120 Tryz.underlying5 Tryz.underlying9 (0, 0)
  go_enter Tryz.func58, Tryz.ntmps58
  go_wp2_with fail
  go_ret
  exact ⟨rfl, (Below.refl _ _).alloc (Nat.le_refl _) _⟩
/-- One mark more; one that may not be is passed over. -/
def setB (l : List UInt8) (i : Int) : List UInt8 := if 0 ≤ i ∧ i < 256 then l.set (i / 8).toNat (U8 (bits .or .u8 ((l.getD (i / 8).toNat 0).toNat : Int) (pw i))) else l
theorem setB_length (l : List UInt8) (i : Int) : (setB l i).length = l.length := by unfold setB; split <;> simp
def withB (l : List UInt8) (zs : List Int) : List UInt8 := zs.foldl setB l
theorem withB_length (l : List UInt8) (zs : List Int) : (withB l zs).length = l.length := by
  induction zs generalizing l with
  | nil => rfl
  | cons z zs ih => exact (ih (setB l z)).trans (setB_length l z)
theorem or_bd (c p : Int) (h0 : 0 ≤ c) (h1 : c < 256) (h2 : 0 ≤ p) (h3 : p < 256) : 0 ≤ bits .or .u8 c p ∧ bits .or .u8 c p < 256 := by
  obtain ⟨a, rfl⟩ := Int.eq_ofNat_of_zero_le h0
  obtain ⟨b, rfl⟩ := Int.eq_ofNat_of_zero_le h2
  rw [u8_or_nat _ _ (by omega) (by omega)]
  have : a ||| b < 2 ^ 8 := Nat.or_lt_two_pow (by omega) (by omega)
  omega
theorem with_snoc (l : List UInt8) (zs : List Int) (k : Nat) (h : k < zs.length) : withB l (zs.take (k + 1)) = setB (withB l (zs.take k)) zs[k] := by
  rw [List.take_succ_eq_append_getElem h]
  unfold withB
  rw [List.foldl_append]
  rfl
theorem Byt.at {w : World} {g : Nat} {m : List UInt8} (h : Byt w g m) (i : Nat) (hi : i < m.length) : w.cell? ⟨g, i, none⟩ = some (.int .u8 ((m.getD i 0).toNat : Int)) ∧ w.frozen? ⟨g, i, none⟩ = false := by
  have := h.2 i hi
  rw [List.getD_eq_getElem?_getD, List.getElem?_eq_getElem hi]
  exact this
theorem setB_yes (l : List UInt8) (i : Int) (h0 : 0 ≤ i) (h1 : i < 256) : setB l i = l.set (i / 8).toNat (U8 (bits .or .u8 ((l.getD (i / 8).toNat 0).toNat : Int) (pw i))) := by
  unfold setB; rw [if_pos ⟨h0, h1⟩]
theorem setB_no (l : List UInt8) (i : Int) (h : ¬ (0 ≤ i ∧ i < 256)) : setB l i = l := by
  unfold setB; rw [if_neg h]
theorem IsInts.below {w w' : World} {k : IntKind} {a : Option Addr} {len cap : Nat} {zs : List Int} (h : IsInts k w a len cap zs) (hb : Below w.heap.size w w') : IsInts k w' a len cap zs := by
  obtain ⟨h1, h2, h3, h4, h5⟩ := h
  refine ⟨h1, h2, h3, h4, h5.imp id ?_⟩
  rintro ⟨b, off, ha, hlt, hc⟩
  exact ⟨b, off, ha, Nat.lt_of_lt_of_le hlt hb.size, fun i hi => (hb.cell (p := ⟨b, off + i, none⟩) hlt).trans (hc i hi)⟩
def setE (l : List UInt8) (i : Int) : Int := if l.length ≠ 32 then 5 else if i < 0 ∨ 256 ≤ i then 2 else 0
def setS (l : List UInt8) (i : Int) : List UInt8 := if setE l i = 0 then setB l i else []
theorem rset_any (l : List UInt8) (hl : l.length ≤ 9223372036854775807) (i : Int) (h0 : -9223372036854775808 ≤ i) (h1 : i ≤ 9223372036854775807) (w : World) :
    Calls Tryz.prog 59 #[Str l, .int .i64 i] w fun e w' => e = .returned (.tuple #[Str (setS l i), .int .i64 (setE l i)]) ∧ Below w.heap.size w w' := by
  by_cases h32 : l.length = 32
  · have hl' : ((l.length : Int) != 32) = false := by simp; omega
    by_cases hi : 0 ≤ i ∧ i < 256
    · obtain ⟨hi0, hi1⟩ := hi
      have hE : setE l i = 0 := by unfold setE; rw [if_neg (by omega), if_neg (by omega)]
      have hS : setS l i = setB l i := by unfold setS; rw [if_pos hE]
      rw [hE, hS]
      clear hE hS
      have hset := setB_yes l i hi0 hi1
      obtain ⟨c, W, hcv, hby, hbW, hcl, hcm2⟩ := conv_bytes w l (by omega)
      rw [h32] at hcv
      have hq0 : 0 ≤ i / 8 := by omega
      have hq2 : i / 8 < 32 := by omega
      have hm : 0 ≤ i % 8 := by omega
      have hm2 : i % 8 < 8 := by omega
      obtain ⟨hc1, hf1⟩ := hby.at (i / 8).toNat (by omega)
      have hp := pw_bd i
      have hbd := or_bd ((l.getD (i / 8).toNat 0).toNat : Int) (pw i) (by omega) (by have := UInt8.toNat_lt (l.getD (i / 8).toNat 0); omega) (by omega) (by omega)
      have hfin := hby.setAt (i / 8).toNat _ hbd.1 hbd.2
      have hcv2 := conv_string hfin (n := 32) (by simp [h32]) c
      rw [← hset] at hcv2
      have hpe : (2 : Int) ^ (i % 8).toNat % 256 = pw i := Int.emod_eq_of_lt (by unfold pw at hp; omega) (by unfold pw at hp; omega)
      clear hfin hby h32 hset hp
      generalize (l.getD (i / 8).toNat 0).toNat = c0 at *
      go_enter Tryz.func59, Tryz.ntmps59
      go_wp2_with fail
      go_ret2
      exact ⟨rfl, hbW.setCell (Nat.le_refl _) _⟩
    · have hE : setE l i = 2 := by unfold setE; rw [if_neg (by omega), if_pos (by omega)]
      have hS : setS l i = [] := by unfold setS; rw [hE]; rfl
      rw [hE, hS]
      clear hE hS h32
      by_cases h0 : 0 ≤ i
      · have h1 : 256 ≤ i := by omega
        clear hi
        go_enter Tryz.func59, Tryz.ntmps59
        go_wp2_with fail
        go_ret2
        exact ⟨rfl, Below.refl _ _⟩
      · have h1 : i < 0 := by omega
        clear hi h0
        go_enter Tryz.func59, Tryz.ntmps59
        go_wp2_with fail
        go_ret2
        exact ⟨rfl, Below.refl _ _⟩
  · have hl' : ((l.length : Int) != 32) = true := by simp; omega
    have hE : setE l i = 5 := by unfold setE; rw [if_pos h32]
    have hS : setS l i = [] := by unfold setS; rw [hE]; rfl
    rw [hE, hS]
    clear hE hS h32
    go_enter Tryz.func59, Tryz.ntmps59
    go_wp2_with fail
    go_ret2
    exact ⟨rfl, Below.refl _ _⟩
theorem setE_vals (l : List UInt8) (i : Int) (h : l.length = 32) : setE l i = 0 ∧ setS l i = setB l i ∨ setE l i = 2 ∧ setB l i = l := by
  by_cases hi : 0 ≤ i ∧ i < 256
  · have hE : setE l i = 0 := by unfold setE; rw [if_neg (by omega), if_neg (by omega)]
    exact .inl ⟨hE, by unfold setS; rw [if_pos hE]⟩
  · have hE : setE l i = 2 := by unfold setE; rw [if_neg (by omega), if_pos (by omega)]
    exact .inr ⟨hE, setB_no l i hi⟩
theorem rof_any (a : Option Addr) (len cap : Nat) (zs : List Int) (w : World) (hz : IsInts .i64 w a len cap zs) :
    Calls Tryz.prog 31 #[.slice a len cap] w fun e w' => e = .returned (Str (withB zero32 zs)) ∧ Below w.heap.size w w' := by
  obtain ⟨hzl, hlc, hcm, hwf, hcells⟩ := id hz
  have hr := hz.i64
  have hlen : len ≤ 9223372036854775807 := by unfold maxLen at hcm; omega
  have HZ := Lib.hid hzl
  clear hzl hwf hz
  go_enter Tryz.func31, Tryz.ntmps31
  go_wp2_with fail
  refine (rempty_any _).mono ?_
  rintro x w1 ⟨rfl, hb⟩
  go_wp2_with fail
  go_loopg [3, 4] len (fun gk s i wr => ∃ k : Nat, k ≤ len ∧ len ≤ k + gk ∧ s = .string ⟨(withB zero32 (zs.take k)).toArray⟩ ∧ i = .int .i64 k ∧ Below w.heap.size w wr)
  case atStart => exact ⟨0, by omega, by omega, rfl, rfl, hb⟩
  case round =>
    obtain ⟨k, hk, hgk, rfl, rfl, hB⟩ := hrel
    by_cases hlt : k < len
    · obtain ⟨sb, so, rfl, hsb, hcell⟩ := hcells.resolve_left (by omega)
      have hck := hcell k (by rw [HZ.out]; exact hlt)
      have hzk := hr (zs[k]'(by rw [HZ.out]; exact hlt)) (by simp)
      have htk := Lib.hid (with_snoc zero32 zs k (by rw [HZ.out]; exact hlt))
      have hwl := withB_length zero32 (zs.take k)
      have hz32 : zero32.length = 32 := rfl
      rw [hz32] at hwl
      have hv := setE_vals _ (zs[k]'(by rw [HZ.out]; exact hlt)) hwl
      generalize withB zero32 (zs.take k) = m at *
      generalize zs[k]'(by rw [HZ.out]; exact hlt) = z at *
      obtain ⟨hz0, hz1⟩ := hzk
      replace hck : wr.cell? ⟨sb, so + k, none⟩ = some (.int .i64 z) := (hB.cell (p := ⟨sb, so + k, none⟩) hsb).trans hck
      have HV := Lib.hid hv
      have HWL := Lib.hid hwl
      clear hv hwl hz32
      go_wp2_with fail
      refine (rset_any m (by rw [HWL.out]; omega) z hz0 hz1 _).mono ?_
      rintro x w2 ⟨rfl, hb2⟩
      rcases HV.out with ⟨h1, h2⟩ | ⟨h1, h2⟩
      · rw [h1, h2]
        have H2 := Lib.hid h2
        clear h1 h2
        go_wp2_with fail
        go_roundg (gk - 1)
        case measure => omega
        case rel => exact ⟨k + 1, by omega, by omega, by rw [htk.out], by go_num, Below.chain hb2 hB⟩
      · rw [h1]
        have H2 := Lib.hid h2
        clear h1 h2
        go_wp2_with fail
        go_roundg (gk - 1)
        case measure => omega
        case rel => exact ⟨k + 1, by omega, by omega, by rw [htk.out, H2.out], by go_num, Below.chain hb2 hB⟩
    · have hke : zs.take k = zs := List.take_of_length_le (by rw [HZ.out]; omega)
      have HK := Lib.hid hke
      clear hke
      go_wp2_with fail
      go_ret
      refine ⟨?_, hB⟩
      rw [HK.out]
      rfl
end Go.Proofs.YtnmlmpffmjhihaaGreat
namespace Go.Proofs.YtnmlmpffmjhihaaGreat
open Go.RowKit
set_option linter.unusedVariables false
set_option maxRecDepth 100000
set_option maxHeartbeats 1000000
def cntTo (l : List UInt8) : Nat → Int
  | 0 => 0
  | k + 1 => cntTo l k + if hasB l k then 1 else 0
def sumC (l : List UInt8) : Int := l.foldl (fun a c => a + Lib.onesCount c.toNat) 0
theorem sumC_snoc (l : List UInt8) (c : UInt8) : sumC (l ++ [c]) = sumC l + Lib.onesCount c.toNat := by simp [sumC]
def b1 (c : Nat) (j : Nat) : Int := if c.testBit j then 1 else 0
theorem ones_fin : ∀ c : Fin 256, (Lib.onesCount c.val : Int) = b1 c.val 0 + b1 c.val 1 + b1 c.val 2 + b1 c.val 3 + b1 c.val 4 + b1 c.val 5 + b1 c.val 6 + b1 c.val 7 := by decide +kernel
theorem ones_byte (c : UInt8) : (Lib.onesCount c.toNat : Int) = b1 c.toNat 0 + b1 c.toNat 1 + b1 c.toNat 2 + b1 c.toNat 3 + b1 c.toNat 4 + b1 c.toNat 5 + b1 c.toNat 6 + b1 c.toNat 7 := ones_fin ⟨c.toNat, UInt8.toNat_lt c⟩
theorem ones_le (c : UInt8) : (Lib.onesCount c.toNat : Int) ≤ 8 := by
  rw [ones_byte]
  have : ∀ j, b1 c.toNat j ≤ 1 := fun j => by unfold b1; split <;> omega
  have h0 := this 0; have h1 := this 1; have h2 := this 2; have h3 := this 3; have h4 := this 4; have h5 := this 5; have h6 := this 6; have h7 := this 7
  omega
theorem sumC_bd (l : List UInt8) : 0 ≤ sumC l ∧ sumC l ≤ 8 * l.length := by
  induction hn : l.length generalizing l with
  | zero => simp at hn; subst hn; simp [sumC]
  | succ n ih =>
    have hne : l ≠ [] := by intro h; subst h; simp at hn
    rw [← List.dropLast_concat_getLast hne, sumC_snoc]
    have := ih l.dropLast (by simp [hn])
    have hc := ones_le (l.getLast hne)
    omega
theorem has_bit (l : List UInt8) (hl : l.length = 32) (k j : Nat) (hk : k < 32) (hj : j < 8) : hasB l ((8 * k + j : Nat) : Int) = (l.getD k 0).toNat.testBit j := by
  unfold hasB bitOf
  have e1 : (((8 * k + j : Nat) : Int) / 8).toNat = k := by omega
  have e2 : (((8 * k + j : Nat) : Int) % 8).toNat = j := by omega
  rw [e1, e2]
  have e3 : (0 : Int) ≤ ((8 * k + j : Nat) : Int) := by omega
  have e4 : ((8 * k + j : Nat) : Int) < 256 := by omega
  rw [decide_eq_true e3, decide_eq_true e4, hl]
  simp
theorem cnt_bytes (l : List UInt8) (hl : l.length = 32) (k : Nat) (hk : k ≤ 32) : cntTo l (8 * k) = sumC (l.take k) := by
  induction k with
  | zero => simp [cntTo, sumC]
  | succ k ih =>
    have hk' : k < l.length := by omega
    rw [List.take_succ_eq_append_getElem hk', sumC_snoc, ← ih (by omega), ones_byte]
    have e : l[k] = l.getD k 0 := by rw [List.getD_eq_getElem?_getD, List.getElem?_eq_getElem hk']; rfl
    rw [e, show 8 * (k + 1) = 8 * k + 7 + 1 by omega]
    simp only [cntTo]
    have h0 := has_bit l hl k 0 (by omega) (by omega)
    have h1 := has_bit l hl k 1 (by omega) (by omega)
    have h2 := has_bit l hl k 2 (by omega) (by omega)
    have h3 := has_bit l hl k 3 (by omega) (by omega)
    have h4 := has_bit l hl k 4 (by omega) (by omega)
    have h5 := has_bit l hl k 5 (by omega) (by omega)
    have h6 := has_bit l hl k 6 (by omega) (by omega)
    have h7 := has_bit l hl k 7 (by omega) (by omega)
    simp only [Nat.add_zero] at h0
    rw [h0, h1, h2, h3, h4, h5, h6, h7]
    unfold b1
    omega
theorem cnt_none (l : List UInt8) (hl : l.length ≠ 32) (k : Nat) : cntTo l k = 0 := by
  induction k with
  | zero => rfl
  | succ k ih => simp [cntTo, ih, hasB, hl]
theorem cnt_bd (l : List UInt8) (k : Nat) : 0 ≤ cntTo l k ∧ cntTo l k ≤ k := by
  induction k with
  | zero => simp [cntTo]
  | succ k ih => simp only [cntTo]; split <;> omega
theorem count_any (l : List UInt8) (hl : l.length ≤ 9223372036854775807) (w : World) : Calls Tryz.prog 43 #[Str l] w fun e w' => e = .returned (.int .i64 (cntTo l 256)) ∧ Below w.heap.size w w' := by
  by_cases h32 : l.length = 32
  · have hc := cnt_bytes l h32 32 (by omega)
    rw [show 8 * 32 = 256 by rfl, List.take_of_length_le (by omega)] at hc
    rw [hc]
    clear hc
    have hl' : ((l.length : Int) != 32) = false := by simp; omega
    have HL := Lib.hid h32
    clear h32
    have hbg := byte_get
    go_enter Tryz.func43, Tryz.ntmps43
    go_wp2_with fail
    go_loopw [3, 10] (fun n i wr => ∃ k : Nat, k ≤ l.length ∧ n = .int .i64 (sumC (l.take k)) ∧ i = .int .i64 k ∧ Below w.heap.size w wr) (fun _ i _ => l.length - (intOf i).toNat)
    case atStart => exact ⟨0, by omega, rfl, rfl, Below.refl _ _⟩
    case round =>
      obtain ⟨k, hk, rfl, rfl, hB⟩ := hrel
      by_cases hlt : k < l.length
      · have hs := sumC_bd (l.take k)
        have hle : (l.take k).length ≤ 32 := by simp; rw [HL.out]; omega
        have hsn : Hid (sumC (l.take (k + 1)) = sumC (l.take k) + Lib.onesCount l[k].toNat) := by
          rw [Hid, List.take_succ_eq_append_getElem hlt, sumC_snoc]
        have ho := ones_le l[k]
        have hcall := fun w => Tryz.bits_OnesCount8 (l[k].toNat : Int) w (by omega) (by have := UInt8.toNat_lt l[k]; omega)
        simp only [Int.toNat_natCast] at hcall
        generalize sumC (l.take k) = s at *
        generalize Lib.onesCount l[k].toNat = o at *
        obtain ⟨hs0, hs1⟩ := hs
        have HC := Lib.hid hcall
        clear hcall
        go_wp2_with fail
        refine (HC.out _).mono ?_
        rintro x w2 ⟨rfl, rfl⟩
        go_wp2_with fail
        go_roundw
        case rel => exact ⟨k + 1, by omega, by rw [hsn.out], by go_num, hB⟩
        case measure => simp [intOf]; omega
      · have hke : l.take k = l := List.take_of_length_le (by omega)
        have HK := Lib.hid hke
        clear hke
        go_wp2_with fail
        go_ret
        refine ⟨?_, hB⟩
        rw [HK.out]
        rfl
  · rw [cnt_none l h32]
    have hl' : ((l.length : Int) != 32) = true := by simp; omega
    clear h32
    go_enter Tryz.func43, Tryz.ntmps43
    go_wp2_with fail
    go_ret
    exact ⟨rfl, Below.refl _ _⟩
end Go.Proofs.YtnmlmpffmjhihaaGreat
namespace Go.Proofs.YtnmlmpffmjhihaaGreat
open Go.RowKit
set_option linter.unusedVariables false
set_option maxRecDepth 100000
set_option maxHeartbeats 1000000
theorem bInfoInt : (Tryz.prog.info? 3).map (fun i => (i.zero, i.size, i.bytes)) = some (some (.int .i64 0), 1, 8) := by kernel_rfl
theorem ownsRow_slice {w : World} {base size n : Nat} {e : TypeId} {v : Value} {xs : List Value} (h : w.ownsRow base e size v n xs) : ∃ a cap, v = .slice a n cap := by
  rcases h.2 with ⟨h0, h1⟩ | ⟨g, cap, _, hv, _⟩
  · exact ⟨none, 0, by rw [h0, h1]⟩
  · exact ⟨_, cap, hv⟩
theorem IsInts.of_own {w : World} {B : Nat} {e : TypeId} {a : Option Addr} {n cap : Nat} {zs : List Int} {k : IntKind} (h : w.ownsRow B e 1 (.slice a n cap) n (zs.map (Value.int k))) (hwf : ∀ z ∈ zs, (Lit.int k z).wf = true) : IsInts k w a n cap zs := by
  obtain ⟨hl, h⟩ := h
  have hl' : zs.length = n := by simpa using hl
  rcases h with ⟨h0, h1⟩ | ⟨g, cap', cur, hv, hg, hh, hn, hc, hs, ht⟩
  · cases h0
    exact ⟨hl', by omega, by omega, hwf, .inl h1⟩
  · cases hv
    refine ⟨hl', hn, hc, hwf, .inr ⟨g, 0, rfl, (Array.getElem?_eq_some_iff.1 hh).1, fun i hi => ?_⟩⟩
    have e1 : (cur.toList.take (n * 1))[i]? = some (.int k zs[i]) := by
      rw [ht]
      simp [hi]
    unfold World.cell?
    rw [hh]
    simp only [Nat.mul_one, Nat.zero_add] at e1 ⊢
    rw [List.getElem?_take] at e1
    split at e1
    · simpa using e1
    · cases e1
theorem own_chain {w w' : World} {B size n : Nat} {e : TypeId} {v : Value} {xs : List Value} (h : w.ownsRow B e size v n xs) (hb : Below w.heap.size w w') : w'.ownsRow B e size v n xs := by
  obtain ⟨h1, h2⟩ := h
  refine ⟨h1, h2.imp id ?_⟩
  rintro ⟨g, cap, cur, hv, hg, hh, r⟩
  exact ⟨g, cap, cur, hv, hg, by rw [hb.block g (Array.getElem?_eq_some_iff.1 hh).1]; exact hh, r⟩
def misF (l : List UInt8) (n most : Int) : Nat → Nat → List Int → List Int
  | 0, _, out => out
  | f + 1, i, out => if (i : Int) < n ∧ (out.length : Int) < most then misF l n most f (i + 1) (if hasB l i then out else out ++ [(i : Int)]) else out
def mis (l : List UInt8) (n most : Int) : List Int := if l.length = 32 then misF l n most 255 0 [] else []
theorem misF_stop (l : List UInt8) (n most : Int) (f i : Nat) (out : List Int) (h : ¬ ((i : Int) < n ∧ (out.length : Int) < most)) : misF l n most f i out = out := by
  cases f with
  | zero => rfl
  | succ f => unfold misF; rw [if_neg h]
theorem misF_go (l : List UInt8) (n most : Int) (f i : Nat) (out : List Int) (h1 : (i : Int) < n) (h2 : (out.length : Int) < most) : misF l n most (f + 1) i out = misF l n most f (i + 1) (if hasB l i then out else out ++ [(i : Int)]) := by
  conv => lhs; unfold misF
  rw [if_pos ⟨h1, h2⟩]
theorem misF_mem (l : List UInt8) (n most : Int) (f i : Nat) (out : List Int) (hfi : f + i ≤ 255) (h : ∀ z ∈ out, 0 ≤ z ∧ z ≤ 255) : ∀ z ∈ misF l n most f i out, 0 ≤ z ∧ z ≤ 255 := by
  induction f generalizing i out with
  | zero => exact h
  | succ f ih =>
    unfold misF
    split
    · refine ih (i + 1) _ (by omega) ?_
      split
      · exact h
      · intro z hz
        rcases List.mem_append.1 hz with hz | hz
        · exact h z hz
        · simp at hz; omega
    · exact h
theorem mis_mem (l : List UInt8) (n most : Int) : ∀ z ∈ mis l n most, 0 ≤ z ∧ z ≤ 255 := by
  unfold mis
  split
  · exact misF_mem l n most 255 0 [] (by omega) (by simp)
  · simp
def MisPost (l : List UInt8) (n most : Int) (w : World) (x : Ending) (w' : World) : Prop :=
  ∃ a cap, x = .returned (.slice a (mis l n most).length cap) ∧ IsInts .i64 w' a (mis l n most).length cap (mis l n most) ∧ Below w.heap.size w w'
theorem missing_any (l : List UInt8) (hl : l.length ≤ 9223372036854775807) (n most : Int) (hn0 : -9223372036854775808 ≤ n) (hn1 : n ≤ 9223372036854775807) (hm0 : -9223372036854775808 ≤ most) (hm1 : most ≤ 9223372036854775807) (w : World) :
    Calls Tryz.prog 42 #[Str l, .int .i64 n, .int .i64 most] w (MisPost l n most w) := by
  have hmem := mis_mem l n most
  by_cases h32 : l.length = 32
  · have hR : misF l n most 255 0 [] = mis l n most := by unfold mis; rw [if_pos h32]
    have hl' : ((l.length : Int) != 32) = false := by simp; omega
    have HL := Lib.hid h32
    have HR := Lib.hid hR
    have HM := Lib.hid hmem
    clear h32 hR hmem
    obtain ⟨i0, hi, hz0, hz1, hz2⟩ := info_parts bInfoInt
    go_enter Tryz.func42, Tryz.ntmps42
    go_wp2_with fail
    go_loopw [7, 8] (fun v i wr => ∃ (k : Nat) (out : List Int), k ≤ 255 ∧ i = .int .i64 k ∧ out.length ≤ k ∧ misF l n most (255 - k) k out = mis l n most ∧ wr.ownsRow w.heap.size 3 1 v out.length (out.map (Value.int .i64)) ∧ Below w.heap.size w wr) (fun _ i _ => 255 - (intOf i).toNat)
    case atStart => exact ⟨0, [], by omega, rfl, by simp, HR.out, ⟨by simp, .inl ⟨rfl, rfl⟩⟩, Below.refl _ _⟩
    case round =>
      obtain ⟨k, out, hk, rfl, hol, hrem, hown, hB⟩ := hrel
      obtain ⟨a, cap, rfl⟩ := ownsRow_slice hown
      by_cases hgo : k < 255 ∧ (k : Int) < n ∧ (out.length : Int) < most
      · obtain ⟨hg1, hg2, hg3⟩ := hgo
        rw [show 255 - k = (255 - (k + 1)) + 1 by omega, misF_go l n most _ k out hg2 hg3] at hrem
        have HREM := Lib.hid hrem
        clear hrem
        have hmin : (k : Int) < min n 255 := by omega
        go_wp2_with fail
        refine (has_any l hl k _).mono ?_
        rintro x w1 ⟨rfl, hb⟩
        have hown1 := own_chain hown hb
        have hB1 := Below.chain hb hB
        have hsz : w.heap.size ≤ w1.heap.size := hB1.size
        clear hown
        cases hh : hasB l k
        · have HH := Lib.hid hh
          clear hh
          go_wp2_with (at_builtin; refine wpList_append_own _ rfl _ _ 73 rfl w.heap.size 3 i0 (.int .i64 0) 1 8 Tryz.underlying73 hi hz0 hz1 hz2 rfl (by decide) _ _ _ rfl (hown1.alloc _) ⟨w1.heap.size, 0, none⟩ 1 1 [.int .i64 k] rfl rfl ?c1 ?c2 ?c3 ?c4 ?c5 ?_)
          case c1 => exact (cell_one_new _ _ _)
          case c2 => simp [Value.oneCell']
          case c3 => unfold maxLen; omega
          case c4 => omega
          case c5 => simp; omega
          intro v' w2 hown2 hgrow _
          have hB2 := Below.grow (Below.chainAlloc hB1 _) (hown1.alloc _) hgrow (by simp; omega)
          clear hgrow hown1 hB1 hb
          go_wp2_with fail
          go_roundw
          case rel => exact ⟨k + 1, out ++ [(k : Int)], by omega, by go_num, by simp; omega, by have := HREM.out; rw [HH.out] at this; exact this, by simpa using hown2, hB2⟩
          case measure => simp [intOf]; omega
        · have HH := Lib.hid hh
          clear hh
          go_wp2_with fail
          go_roundw
          case rel => exact ⟨k + 1, out, by omega, by go_num, by omega, by have := HREM.out; rw [HH.out] at this; exact this, hown1, hB1⟩
          case measure => simp [intOf]; omega
      · have hst : misF l n most (255 - k) k out = out := by
          by_cases hk2 : k < 255
          · exact misF_stop l n most _ k out (fun h => hgo ⟨hk2, h⟩)
          · rw [show 255 - k = 0 by omega]; rfl
        rw [hst] at hrem
        have HF : Hid (MisPost l n most w (.returned (.slice a out.length cap)) wr) := by
          refine ⟨a, cap, by rw [hrem], ?_, hB⟩
          rw [← hrem]
          exact IsInts.of_own hown (fun z hz => by
            have := HM.out z (by rw [← hrem]; exact hz)
            simp [Lit.wf, IntKind.min, IntKind.max, IntKind.signed, IntKind.bits]
            omega)
        clear hrem hst
        by_cases hg1 : (k : Int) < min n 255
        · have hg2 : ¬ (out.length : Int) < most := by omega
          go_wp2_with fail
          go_ret
          exact HF.out
        · go_wp2_with fail
          go_ret
          exact HF.out
  · have hR : mis l n most = [] := by unfold mis; rw [if_neg h32]
    have hl' : ((l.length : Int) != 32) = true := by simp; omega
    have HR := Lib.hid hR
    clear h32 hR hmem
    go_enter Tryz.func42, Tryz.ntmps42
    go_wp2_with fail
    go_ret
    refine ⟨none, 0, ?_, ?_, Below.refl _ _⟩
    · rw [HR.out]; rfl
    · rw [HR.out]
      exact ⟨rfl, by simp, by simp, by simp, .inl rfl⟩
end Go.Proofs.YtnmlmpffmjhihaaGreat
namespace Go.Proofs.YtnmlmpffmjhihaaGreat
set_option linter.unusedVariables false
/-- A bit goes out. -/
def cb (c : Nat) : Nat := (c / 2) ^^^ (3988292384 * (c % 2))
def cbN : Nat → Nat → Nat
  | 0, c => c
  | n + 1, c => cbN n (cb c)
def cst (c x : Nat) : Nat := cbN 8 (c ^^^ x)
def crcF (c : Nat) (l : List UInt8) : Nat := l.foldl (fun c x => cst c x.toNat) c
/-- The sum. -/
def crcA (s : Nat) (l : List UInt8) : Nat := 4294967295 ^^^ crcF (4294967295 ^^^ s) l
def crcS (l : List UInt8) : Nat := crcA 0 l
theorem cb_even {c : Nat} (h : c % 2 = 0) : cb c = c / 2 := by unfold cb; rw [h, Nat.mul_zero, Nat.xor_zero]
theorem cb_odd {c : Nat} (h : c % 2 = 1) : cb c = (c / 2) ^^^ 3988292384 := by unfold cb; rw [h]
theorem cb_lt {c : Nat} (h : c < 4294967296) : cb c < 4294967296 := by
  rcases Nat.mod_two_eq_zero_or_one c with e | e
  · rw [cb_even e]; omega
  · rw [cb_odd e]; exact Nat.xor_lt_two_pow (n := 32) (by omega) (by decide)
theorem cb_high {c : Nat} (h : c < 4294967296) (e : c % 2 = 1) : 2147483648 ≤ cb c := by
  rw [cb_odd e]
  rcases Nat.lt_or_ge ((c / 2) ^^^ 3988292384) 2147483648 with hl | hl
  · exfalso
    have h1 : c / 2 < 2147483648 := by omega
    have h2 : (c / 2) ^^^ ((c / 2) ^^^ 3988292384) < 2147483648 := Nat.xor_lt_two_pow (n := 31) h1 hl
    rw [← Nat.xor_assoc, Nat.xor_self, Nat.zero_xor] at h2
    omega
  · exact hl
theorem xor_cancel {a b c : Nat} (h : a ^^^ c = b ^^^ c) : a = b := by
  have : a ^^^ c ^^^ c = b ^^^ c ^^^ c := by rw [h]
  rwa [Nat.xor_assoc, Nat.xor_self, Nat.xor_zero, Nat.xor_assoc, Nat.xor_self, Nat.xor_zero] at this
theorem cb_inj {a b : Nat} (ha : a < 4294967296) (hb : b < 4294967296) (h : cb a = cb b) : a = b := by
  rcases Nat.mod_two_eq_zero_or_one a with e | e <;> rcases Nat.mod_two_eq_zero_or_one b with f | f
  · rw [cb_even e, cb_even f] at h; omega
  · have := cb_high hb f
    rw [← h, cb_even e] at this; omega
  · have := cb_high ha e
    rw [h, cb_even f] at this; omega
  · rw [cb_odd e, cb_odd f] at h
    have := xor_cancel h
    omega
theorem cbN_lt : ∀ {n c : Nat}, c < 4294967296 → cbN n c < 4294967296
  | 0, _, h => h
  | n + 1, c, h => cbN_lt (n := n) (cb_lt h)
theorem cbN_inj : ∀ {n a b : Nat}, a < 4294967296 → b < 4294967296 → cbN n a = cbN n b → a = b
  | 0, _, _, _, _, h => h
  | n + 1, a, b, ha, hb, h => cb_inj ha hb (cbN_inj (n := n) (cb_lt ha) (cb_lt hb) h)
theorem xor32 {a b : Nat} (ha : a < 4294967296) (hb : b < 4294967296) : a ^^^ b < 4294967296 := Nat.xor_lt_two_pow (n := 32) ha hb
theorem cst_lt {c x : Nat} (h : c < 4294967296) (hx : x < 256) : cst c x < 4294967296 := cbN_lt (xor32 h (by omega))
theorem cst_inj {a b x : Nat} (ha : a < 4294967296) (hb : b < 4294967296) (hx : x < 256) (h : cst a x = cst b x) : a = b :=
  xor_cancel (cbN_inj (xor32 ha (by omega)) (xor32 hb (by omega)) h)
theorem cst_inj2 {a x y : Nat} (ha : a < 4294967296) (hx : x < 256) (hy : y < 256) (h : cst a x = cst a y) : x = y := by
  have := cbN_inj (xor32 ha (by omega)) (xor32 ha (by omega)) h
  rw [Nat.xor_comm a x, Nat.xor_comm a y] at this
  exact xor_cancel this
theorem u8_lt (x : UInt8) : x.toNat < 256 := x.toNat_lt
theorem crcF_lt : ∀ {l : List UInt8} {c : Nat}, c < 4294967296 → crcF c l < 4294967296
  | [], _, h => h
  | x :: l, c, h => crcF_lt (l := l) (cst_lt h (u8_lt x))
theorem crcF_append (c : Nat) (l m : List UInt8) : crcF c (l ++ m) = crcF (crcF c l) m := by unfold crcF; rw [List.foldl_append]
theorem crcF_inj : ∀ {l : List UInt8} {a b : Nat}, a < 4294967296 → b < 4294967296 → crcF a l = crcF b l → a = b
  | [], _, _, _, _, h => h
  | x :: l, a, b, ha, hb, h => cst_inj ha hb (u8_lt x) (crcF_inj (l := l) (cst_lt ha (u8_lt x)) (cst_lt hb (u8_lt x)) h)
theorem crcF_snoc (c : Nat) (l : List UInt8) (k : Nat) (h : k < l.length) : crcF c (l.take (k + 1)) = cst (crcF c (l.take k)) l[k].toNat := by
  rw [List.take_succ_eq_append_getElem h, crcF_append]
  rfl
theorem crcA_lt (s : Nat) (hs : s < 4294967296) (l : List UInt8) : crcA s l < 4294967296 := xor32 (by decide) (crcF_lt (xor32 (by decide) hs))
theorem crcS_lt (l : List UInt8) : crcS l < 4294967296 := crcA_lt 0 (by decide) l
/-- One byte is another: so is the sum. -/
theorem crcS_ne (l m : List UInt8) (x y : UInt8) (h : x ≠ y) : crcS (l ++ x :: m) ≠ crcS (l ++ y :: m) := by
  intro e
  have hc : (4294967295 ^^^ 0 : Nat) < 4294967296 := by decide
  unfold crcS crcA at e
  rw [Nat.xor_comm 4294967295 (crcF _ _), Nat.xor_comm 4294967295 (crcF _ (l ++ y :: m))] at e
  have e2 : crcF (4294967295 ^^^ 0) (l ++ x :: m) = crcF (4294967295 ^^^ 0) (l ++ y :: m) := xor_cancel e
  rw [crcF_append, crcF_append] at e2
  have hl := crcF_lt (l := l) hc
  have e3 := crcF_inj (l := m) (cst_lt hl (u8_lt x)) (cst_lt hl (u8_lt y)) e2
  exact h (UInt8.toNat.inj (cst_inj2 hl (u8_lt x) (u8_lt y) e3))
end Go.Proofs.YtnmlmpffmjhihaaGreat
namespace Go.Proofs.YtnmlmpffmjhihaaGreat
open Go.RowKit
set_option linter.unusedVariables false
set_option maxRecDepth 100000
set_option maxHeartbeats 1000000
theorem byte_getK (m : List UInt8) (k : Nat) (h : k < (⟨m.toArray⟩ : ByteArray).size) : (⟨m.toArray⟩ : ByteArray)[k]'h = m[k]'(show k < m.length from by simpa using (show k < m.toArray.size from h)) := rfl
theorem ret_u32 {a b : Nat} (h : a = b) : Ending.returned (.int .u32 (a : Int)) = .returned (.int .u32 (b : Int)) := by rw [h]
theorem cbN_back (n c : Nat) : cbN (n + 1) c = cbN n (cb c) := rfl
theorem step_any (c x : Nat) (hc : c < 4294967296) (hx : x < 256) (w : World) : Calls Tryz.prog 125 #[.int .u32 (c : Int), .int .u8 (x : Int)] w fun e w' => e = .returned (.int .u32 (cst c x : Nat)) ∧ w = w' := by
  have hX : bits .xor .u32 (c : Int) (x : Int) = ((c ^^^ x : Nat) : Int) := u32_xor_nat c x hc (by omega)
  have hl := xor32 hc (show x < 4294967296 by omega)
  have HF : Hid (cst c x = cbN 8 (c ^^^ x)) := rfl
  go_enter Tryz.func125, Tryz.ntmps125
  go_wp2_with fail
  clear hX
  generalize c ^^^ x = y at *
  go_loopg [0, 5, 10] 8 (fun gk v _ i wr => ∃ (k z : Nat), k ≤ 8 ∧ k + gk = 8 ∧ i = .int .i64 k ∧ z < 4294967296 ∧ v = .int .u32 (z : Int) ∧ cbN gk z = cbN 8 y ∧ w = wr)
  case atStart => exact ⟨0, y, by omega, by omega, rfl, hl, rfl, rfl, rfl⟩
  case round =>
    obtain ⟨k, z, hk, hkg, rfl, hz, rfl, hm, rfl⟩ := hrel
    have HM := Lib.hid hm
    clear hm
    by_cases hlt : k < 8
    · obtain ⟨n, rfl⟩ : ∃ n, gk = n + 1 := ⟨gk - 1, by omega⟩
      have hA : bits .and .u32 (z : Int) 1 = ((z % 2 : Nat) : Int) := by
        rw [← Nat.and_one_is_mod]
        exact u32_and_nat z 1 hz (by decide)
      have hcl := cb_lt hz
      rcases Nat.mod_two_eq_zero_or_one z with e | e
      · rw [e] at hA
        have hE := Lib.hid (cb_even e)
        have hA2 : bits .and .u32 3988292384 0 = 0 := by decide
        have hX2 : bits .xor .u32 ((z : Int) / 2) 0 = ((z / 2 : Nat) : Int) := by
          have := u32_xor_nat (z / 2) 0 (by omega) (by decide)
          rw [Nat.xor_zero] at this
          exact this
        clear e
        go_wp2_with fail
        go_roundg n
        case measure => omega
        case rel => exact ⟨k + 1, z / 2, by omega, by omega, by go_num, by omega, rfl, by rw [← HM.out, cbN_back, hE.out], rfl⟩
      · rw [e] at hA
        have hE := Lib.hid (cb_odd e)
        have hA2 : bits .and .u32 3988292384 4294967295 = 3988292384 := by decide
        have hX2 : bits .xor .u32 ((z : Int) / 2) 3988292384 = (((z / 2) ^^^ 3988292384 : Nat) : Int) := u32_xor_nat (z / 2) 3988292384 (by omega) (by decide)
        have hx2 : (z / 2) ^^^ 3988292384 < 4294967296 := xor32 (by omega) (by decide)
        clear e
        generalize (z / 2) ^^^ 3988292384 = zz at *
        go_wp2_with fail
        go_roundg n
        case measure => omega
        case rel => exact ⟨k + 1, zz, by omega, by omega, by go_num, hx2, rfl, by rw [← HM.out, cbN_back, hE.out], rfl⟩
    · obtain rfl : gk = 0 := by omega
      have hz2 : z = cbN 8 y := HM.out
      have HZ := Lib.hid hz2
      clear hz2
      go_wp2_with fail
      go_ret
      exact ⟨ret_u32 (by rw [HF.out, HZ.out]), rfl⟩
theorem not32 (c : Nat) (h : c < 4294967296) : bits .xor .u32 IntKind.u32.max (c : Int) = ((4294967295 ^^^ c : Nat) : Int) := u32_xor_nat 4294967295 c (by decide) h
theorem add_crc (s : Nat) (l : List UInt8) (hs : s < 4294967296) (hl : l.length ≤ 9223372036854775807) (w : World) : Calls Tryz.prog 97 #[.int .u32 (s : Int), Str l] w fun e w' => e = .returned (.int .u32 (crcA s l : Nat)) ∧ w = w' := by
  have hbg := byte_getK
  have HF : Hid (crcA s l = 4294967295 ^^^ crcF (4294967295 ^^^ s) l) := rfl
  have hn := not32 s hs
  have hv := xor32 (show 4294967295 < 4294967296 by decide) hs
  generalize 4294967295 ^^^ s = v at *
  go_enter Tryz.func97, Tryz.ntmps97
  go_wp2_with fail
  clear hn
  go_loopg [5, 6, 11] l.length (fun gk c _ i wr => ∃ k : Nat, k ≤ l.length ∧ l.length ≤ k + gk ∧ i = .int .i64 k ∧ c = .int .u32 (crcF v (l.take k) : Nat) ∧ w = wr)
  case atStart => exact ⟨0, by omega, by omega, rfl, rfl, rfl⟩
  case round =>
    obtain ⟨k, hk, hgk, rfl, rfl, rfl⟩ := hrel
    have hc := crcF_lt (l := l.take k) hv
    by_cases hlt : k < l.length
    · have HS := Lib.hid (crcF_snoc v l k hlt)
      have hb := u8_lt l[k]
      generalize crcF v (l.take k) = c at *
      go_wp2_with fail
      refine (step_any c l[k].toNat hc hb _).mono ?_
      rintro e w1 ⟨rfl, rfl⟩
      generalize cst c l[k].toNat = z at *
      go_wp2_with fail
      go_roundg (l.length - (k + 1))
      case measure => omega
      case rel => exact ⟨k + 1, by omega, by omega, by go_num, by rw [HS.out], rfl⟩
    · obtain rfl : k = l.length := by omega
      have HT := Lib.hid (show l.take l.length = l from List.take_of_length_le (Nat.le_refl _))
      have hn2 := not32 _ hc
      have HN : Hid (crcF v (l.take l.length) = crcF v l) := by rw [HT.out]; rfl
      generalize crcF v (l.take l.length) = c at *
      have hlt' : ¬ (l.length : Int) < (l.length : Int) := by omega
      go_wp2_with fail
      go_ret
      exact ⟨ret_u32 (by rw [HF.out, HN.out]), rfl⟩
theorem sum_crc (l : List UInt8) (hl : l.length ≤ 9223372036854775807) (w : World) : Calls Tryz.prog 84 #[Str l] w fun e w' => e = .returned (.int .u32 (crcS l : Nat)) ∧ w = w' := by
  go_enter Tryz.func84, Tryz.ntmps84
  go_wp2_with fail
  refine (add_crc 0 l (by decide) hl _).mono ?_
  rintro e w1 ⟨rfl, rfl⟩
  go_wp2_with fail
  go_ret
  exact ⟨rfl, rfl⟩
end Go.Proofs.YtnmlmpffmjhihaaGreat
namespace Go.Proofs.YtnmlmpffmjhihaaGreat
open Go.RowKit
def badB (n : Int) : Bool := n != 1 && n != 2 && n != 4
theorem bad_any (n : Int) (w : World) : Calls Tryz.prog 96 #[.int .i64 n] w fun e w' => e = .returned (.bool (badB n)) ∧ w = w' := by
  by_cases h1 : n = 1
  · subst h1
    go_enter Tryz.func96, Tryz.ntmps96
    go_wp2
    all_goals (go_ret; exact ⟨rfl, rfl⟩)
  · by_cases h2 : n = 2
    · subst h2
      go_enter Tryz.func96, Tryz.ntmps96
      go_wp2
      all_goals (go_ret; exact ⟨rfl, rfl⟩)
    · go_enter Tryz.func96, Tryz.ntmps96
      go_wp2
      all_goals (go_ret; refine ⟨?_, rfl⟩; simp [badB, *])
theorem ret_str_int {l l' : List UInt8} {k : IntKind} {n n' : Int} (h : l = l') (h2 : n = n') : Ending.returned (.tuple #[.string ⟨l.toArray⟩, .int k n]) = .returned (.tuple #[Str l', .int k n']) := by rw [h, h2]
/-- n's bytes, the greatest first. -/
def be (n : Int) : Nat → List UInt8
  | 0 => []
  | k + 1 => be (n / 256) k ++ [U8 n]
/-- What bytes say. -/
def unbe (l : List UInt8) : Int := l.foldl (fun a c => a * 256 + c.toNat) 0
theorem unbe_snoc (l : List UInt8) (c : UInt8) : unbe (l ++ [c]) = unbe l * 256 + c.toNat := by simp [unbe]
theorem U8_toNat (n : Int) (h : 0 ≤ n) : ((U8 n).toNat : Int) = n % 256 := by
  unfold U8
  simp
  omega
theorem U8_mod (n : Int) (h : 0 ≤ n) : U8 (n % 256) = U8 n := by
  apply UInt8.toNat.inj
  have h1 := U8_toNat n h
  have h2 := U8_toNat (n % 256) (by omega)
  omega
theorem be_length (n : Int) (k : Nat) : (be n k).length = k := by
  induction k generalizing n with
  | zero => rfl
  | succ k ih => simp [be, ih]
theorem unbe_be (n : Int) (h : 0 ≤ n) (k : Nat) : unbe (be n k) = n % 256 ^ k := by
  induction k generalizing n with
  | zero => simp [be, unbe, Int.emod_one]
  | succ k ih =>
    rw [be, unbe_snoc, ih _ (by omega), U8_toNat n h]
    have e : (256 : Int) ^ (k + 1) = 256 * 256 ^ k := by rw [Int.pow_succ, Int.mul_comm]
    rw [e, Int.emod_def n (256 * 256 ^ k), ← Int.ediv_ediv_of_nonneg (by omega), Int.emod_def, Int.emod_def, Int.mul_assoc]
    omega
theorem be1 (n : Int) : be n 1 = [U8 n] := rfl
theorem be2 (n : Int) : be n 2 = [U8 (n / 256), U8 n] := rfl
theorem be4 (n : Int) : be n 4 = [U8 (n / 16777216), U8 (n / 65536), U8 (n / 256), U8 n] := by
  simp only [be, List.nil_append, List.cons_append]
  simp [Int.ediv_ediv_of_nonneg]
def putE (n size : Int) : Int := if badB size then 1 else if size < 4 ∧ 256 ^ size.toNat ≤ n then 2 else 0
def putS (n size : Int) : List UInt8 := if putE n size = 0 then be n size.toNat else []
set_option maxRecDepth 100000
theorem put_bad (n size : Int) (hb : badB size = true) (w : World) : Calls Tryz.prog 82 #[.int .u32 n, .int .i64 size] w fun e w' => e = .returned (.tuple #[Str (putS n size), .int .i64 (putE n size)]) ∧ Below w.heap.size w w' := by
  have hE : putE n size = 1 := by simp [putE, hb]
  have hS : putS n size = [] := by simp [putS, hE]
  rw [hE, hS]
  clear hE hS
  go_enter Tryz.func82, Tryz.ntmps82
  go_wp2_with (go_at_call 96; refine (bad_any _ _).mono ?_; rintro e w' ⟨rfl, rfl⟩)
  go_ret2
  exact ⟨rfl, Below.refl _ _⟩
theorem put1_ok (n : Int) (h0 : 0 ≤ n) (h1 : n < 256) (w : World) : Calls Tryz.prog 82 #[.int .u32 n, .int .i64 1] w fun e w' => e = .returned (.tuple #[Str (putS n 1), .int .i64 (putE n 1)]) ∧ Below w.heap.size w w' := by
  have hb : badB 1 = false := by decide
  have hE : putE n 1 = 0 := by simp [putE, hb]; omega
  have hS : putS n 1 = be n 1 := by simp [putS, hE]
  rw [hE, hS]
  have HS := Lib.hid (be1 n)
  clear hE hS
  have hd : (n / 256 != 0) = false := by simp; omega
  have hmk : ∀ w, (Instr.makeSlice 120 (.int .i64 1) (.int .i64 1)).run Tryz.prog w = .ok (.slice (some ⟨w.heap.size, 0, none⟩) 1 1) (w.alloc (.cells #[.int .u8 0] 5)) := fun _ => by kernel_rfl
  have hcv : ∀ (c0 : Int), (convert 120 9 (.slice (some ⟨w.heap.size, 0, none⟩) 1 1)).run Tryz.prog (w.alloc (.cells #[.int .u8 c0] 5)) = .ok (.string ⟨#[U8 c0]⟩) (w.alloc (.cells #[.int .u8 c0] 5)) :=
    fun c0 => run_str_new (P := Tryz.prog) w 120 9 5 5 1 [c0] [] Tryz.underlying120 Tryz.underlying5 Tryz.underlying9 (0, 0)
  go_enter Tryz.func82, Tryz.ntmps82
  go_wp2_with (go_at_call 96; refine (bad_any _ _).mono ?_; rintro e w' ⟨rfl, rfl⟩)
  refine wp_loop_rounds 2 ?_
  iterate 2 (rw [rounds_succ]; go_wp2)
  go_ret2
  refine ⟨ret_str_int ?_ rfl, (Below.refl _ _).alloc (Nat.le_refl _) _⟩
  rw [HS.out]
  try simp (disch := omega) only [U8_mod]
theorem put1_no (n : Int) (h1 : 256 ≤ n) (h2 : n < 4294967296) (w : World) : Calls Tryz.prog 82 #[.int .u32 n, .int .i64 1] w fun e w' => e = .returned (.tuple #[Str (putS n 1), .int .i64 (putE n 1)]) ∧ Below w.heap.size w w' := by
  have hb : badB 1 = false := by decide
  have hE : putE n 1 = 2 := by simp [putE, hb]; omega
  have hS : putS n 1 = [] := by simp [putS, hE]
  rw [hE, hS]
  clear hE hS
  have hd : (n / 256 != 0) = true := by simp; omega
  go_enter Tryz.func82, Tryz.ntmps82
  go_wp2_with (go_at_call 96; refine (bad_any _ _).mono ?_; rintro e w' ⟨rfl, rfl⟩)
  go_ret2
  exact ⟨rfl, Below.refl _ _⟩
theorem put2_ok (n : Int) (h0 : 0 ≤ n) (h1 : n < 65536) (w : World) : Calls Tryz.prog 82 #[.int .u32 n, .int .i64 2] w fun e w' => e = .returned (.tuple #[Str (putS n 2), .int .i64 (putE n 2)]) ∧ Below w.heap.size w w' := by
  have hb : badB 2 = false := by decide
  have hE : putE n 2 = 0 := by simp [putE, hb]; omega
  have hS : putS n 2 = be n 2 := by simp [putS, hE]
  rw [hE, hS]
  have HS := Lib.hid (be2 n)
  clear hE hS
  have hd : (n / 65536 != 0) = false := by simp; omega
  have hmk : ∀ w, (Instr.makeSlice 120 (.int .i64 2) (.int .i64 2)).run Tryz.prog w = .ok (.slice (some ⟨w.heap.size, 0, none⟩) 2 2) (w.alloc (.cells #[.int .u8 0, .int .u8 0] 5)) := fun _ => by kernel_rfl
  have hcv : ∀ (c0 c1 : Int), (convert 120 9 (.slice (some ⟨w.heap.size, 0, none⟩) 2 2)).run Tryz.prog (w.alloc (.cells #[.int .u8 c0, .int .u8 c1] 5)) = .ok (.string ⟨#[U8 c0, U8 c1]⟩) (w.alloc (.cells #[.int .u8 c0, .int .u8 c1] 5)) :=
    fun c0 c1 => run_str_new (P := Tryz.prog) w 120 9 5 5 2 [c0, c1] [] Tryz.underlying120 Tryz.underlying5 Tryz.underlying9 (0, 0)
  go_enter Tryz.func82, Tryz.ntmps82
  go_wp2_with (go_at_call 96; refine (bad_any _ _).mono ?_; rintro e w' ⟨rfl, rfl⟩)
  refine wp_loop_rounds 3 ?_
  iterate 3 (rw [rounds_succ]; go_wp2)
  go_ret2
  refine ⟨ret_str_int ?_ rfl, (Below.refl _ _).alloc (Nat.le_refl _) _⟩
  rw [HS.out]
  try simp (disch := omega) only [U8_mod]
theorem put2_no (n : Int) (h1 : 65536 ≤ n) (h2 : n < 4294967296) (w : World) : Calls Tryz.prog 82 #[.int .u32 n, .int .i64 2] w fun e w' => e = .returned (.tuple #[Str (putS n 2), .int .i64 (putE n 2)]) ∧ Below w.heap.size w w' := by
  have hb : badB 2 = false := by decide
  have hE : putE n 2 = 2 := by simp [putE, hb]; omega
  have hS : putS n 2 = [] := by simp [putS, hE]
  rw [hE, hS]
  clear hE hS
  have hd : (n / 65536 != 0) = true := by simp; omega
  go_enter Tryz.func82, Tryz.ntmps82
  go_wp2_with (go_at_call 96; refine (bad_any _ _).mono ?_; rintro e w' ⟨rfl, rfl⟩)
  go_ret2
  exact ⟨rfl, Below.refl _ _⟩
theorem put4_ok (n : Int) (h0 : 0 ≤ n) (h1 : n < 4294967296) (w : World) : Calls Tryz.prog 82 #[.int .u32 n, .int .i64 4] w fun e w' => e = .returned (.tuple #[Str (putS n 4), .int .i64 (putE n 4)]) ∧ Below w.heap.size w w' := by
  have hb : badB 4 = false := by decide
  have hE : putE n 4 = 0 := by simp [putE, hb]
  have hS : putS n 4 = be n 4 := by simp [putS, hE]
  rw [hE, hS]
  have HS := Lib.hid (be4 n)
  clear hE hS
  have hd : (n / 4294967296 != 0) = false := by simp; omega
  have hmk : ∀ w, (Instr.makeSlice 120 (.int .i64 4) (.int .i64 4)).run Tryz.prog w = .ok (.slice (some ⟨w.heap.size, 0, none⟩) 4 4) (w.alloc (.cells #[.int .u8 0, .int .u8 0, .int .u8 0, .int .u8 0] 5)) := fun _ => by kernel_rfl
  have hcv : ∀ (c0 c1 c2 c3 : Int), (convert 120 9 (.slice (some ⟨w.heap.size, 0, none⟩) 4 4)).run Tryz.prog (w.alloc (.cells #[.int .u8 c0, .int .u8 c1, .int .u8 c2, .int .u8 c3] 5)) = .ok (.string ⟨#[U8 c0, U8 c1, U8 c2, U8 c3]⟩) (w.alloc (.cells #[.int .u8 c0, .int .u8 c1, .int .u8 c2, .int .u8 c3] 5)) :=
    fun c0 c1 c2 c3 => run_str_new (P := Tryz.prog) w 120 9 5 5 4 [c0, c1, c2, c3] [] Tryz.underlying120 Tryz.underlying5 Tryz.underlying9 (0, 0)
  go_enter Tryz.func82, Tryz.ntmps82
  go_wp2_with (go_at_call 96; refine (bad_any _ _).mono ?_; rintro e w' ⟨rfl, rfl⟩)
  refine wp_loop_rounds 5 ?_
  iterate 5 (rw [rounds_succ]; go_wp2)
  go_ret2
  refine ⟨ret_str_int ?_ rfl, (Below.refl _ _).alloc (Nat.le_refl _) _⟩
  rw [HS.out]
  try simp (disch := omega) only [U8_mod]
theorem badB_no {n : Int} (h : badB n = false) : n = 1 ∨ n = 2 ∨ n = 4 := by
  unfold badB at h
  by_cases h1 : n = 1
  · exact .inl h1
  · by_cases h2 : n = 2
    · exact .inr (.inl h2)
    · simp [h1, h2] at h
      exact .inr (.inr h)
theorem put_any (n size : Int) (h0 : 0 ≤ n) (h1 : n < 4294967296) (w : World) : Calls Tryz.prog 82 #[.int .u32 n, .int .i64 size] w fun e w' => e = .returned (.tuple #[Str (putS n size), .int .i64 (putE n size)]) ∧ Below w.heap.size w w' := by
  cases hb : badB size
  · rcases badB_no hb with rfl | rfl | rfl
    · by_cases h : n < 256
      · exact put1_ok n h0 h w
      · exact put1_no n (by omega) h1 w
    · by_cases h : n < 65536
      · exact put2_ok n h0 h w
      · exact put2_no n (by omega) h1 w
    · exact put4_ok n h0 h1 w
  · exact put_bad n size hb w
end Go.Proofs.YtnmlmpffmjhihaaGreat
namespace Go.Proofs.YtnmlmpffmjhihaaGreat
open Go.RowKit
set_option maxRecDepth 100000
/-- What a reader takes: the bytes, what is left, the error. -/
def tk (l : List UInt8) (e n : Int) (bad : Bool) : List UInt8 × List UInt8 × Int :=
  if e ≠ 0 then ([], l, e) else if bad then ([], l, 1) else if (l.length : Int) < n then ([], l, 4) else (l.take n.toNat, l.drop n.toNat, 0)
def Rd (w : World) (b : Nat) (l : List UInt8) (e : Int) : Prop := Blk w b #[.string ⟨l.toArray⟩, .int .i64 e] 195 ∧ l.length ≤ 9223372036854775807
theorem ret_Str {l l' : List UInt8} (h : l = l') : Ending.returned (.string ⟨l.toArray⟩) = .returned (Str l') := by rw [h]
theorem take_any (b : Nat) (l : List UInt8) (e n : Int) (bad : Bool) (hn : bad = false → 0 ≤ n) (w : World) (hb : Rd w b l e) :
    Calls Tryz.prog 132 #[.pointer (some ⟨b, 0, none⟩), .int .i64 n, .bool bad] w fun x w' => x = .returned (Str (tk l e n bad).1) ∧ Rd w' b (tk l e n bad).2.1 (tk l e n bad).2.2 ∧ Only [b] w w' := by
  obtain ⟨hb, hl⟩ := hb
  obtain ⟨hc, hf, hlt⟩ := hb.facts
  by_cases he : e = 0
  · subst he
    cases bad
    · have hn := hn rfl
      by_cases hlen : (l.length : Int) < n
      · have ht : tk l 0 n false = ([], l, 4) := by simp [tk, hlen]
        rw [ht]
        clear ht
        go_enter Tryz.func132, Tryz.ntmps132
        go_wp2_with fail
        go_ret
        exact ⟨rfl, ⟨hb.setAt 1 _ (by simp), hl⟩, (Only.refl _ _).setCell _ _ (.inl (by simp))⟩
      · have ht : tk l 0 n false = (l.take n.toNat, l.drop n.toNat, 0) := by simp [tk, hlen]
        rw [ht]
        clear ht
        have hlen' : n ≤ (l.length : Int) := by omega
        go_enter Tryz.func132, Tryz.ntmps132
        go_wp2_with fail
        go_ret
        refine ⟨?_, ⟨?_, by simp; omega⟩, (Only.refl _ _).setCell _ _ (.inl (by simp))⟩
        · simp [ext_list, Str]
        · rw [ext_list]
          refine hb.setAt 0 _ ?_
          simp
    · have ht : tk l 0 n true = ([], l, 1) := by simp [tk]
      rw [ht]
      clear ht
      go_enter Tryz.func132, Tryz.ntmps132
      go_wp2_with fail
      go_ret
      exact ⟨rfl, ⟨hb.setAt 1 _ (by simp), hl⟩, (Only.refl _ _).setCell _ _ (.inl (by simp))⟩
  · have ht : tk l e n bad = ([], l, e) := by simp [tk, he]
    have he' : (e != 0) = true := by simpa using he
    rw [ht]
    clear ht
    go_enter Tryz.func132, Tryz.ntmps132
    go_wp2_with fail
    go_ret
    exact ⟨rfl, ⟨hb, hl⟩, Only.refl _ _⟩
theorem take_nil (n : Int) (bad : Bool) (w : World) : Calls Tryz.prog 132 #[.pointer none, .int .i64 n, .bool bad] w fun x w' => x = .returned (Str []) ∧ w = w' := by
  go_enter Tryz.func132, Tryz.ntmps132
  go_wp2_with fail
  go_ret
  exact ⟨rfl, rfl⟩
theorem left_any (b : Nat) (l : List UInt8) (e : Int) (w : World) (hb : Rd w b l e) : Calls Tryz.prog 111 #[.pointer (some ⟨b, 0, none⟩)] w fun x w' => x = .returned (.int .i64 l.length) ∧ w = w' := by
  obtain ⟨hb, hl⟩ := hb
  obtain ⟨hc, hf, hlt⟩ := hb.facts
  go_enter Tryz.func111, Tryz.ntmps111
  go_wp2_with fail
  go_ret
  exact ⟨rfl, rfl⟩
theorem left_nil (w : World) : Calls Tryz.prog 111 #[.pointer none] w fun x w' => x = .returned (.int .i64 0) ∧ w = w' := by
  go_enter Tryz.func111, Tryz.ntmps111
  go_wp2_with fail
  go_ret
  exact ⟨rfl, rfl⟩
theorem bytes_any (b : Nat) (l : List UInt8) (e n : Int) (w : World) (hb : Rd w b l e) :
    Calls Tryz.prog 110 #[.pointer (some ⟨b, 0, none⟩), .int .i64 n] w fun x w' => x = .returned (Str (tk l e n (decide (n < 0))).1) ∧ Rd w' b (tk l e n (decide (n < 0))).2.1 (tk l e n (decide (n < 0))).2.2 ∧ Only [b] w w' := by
  go_enter Tryz.func110, Tryz.ntmps110
  go_wp2_with fail
  refine (take_any b l e n _ (by simp) w hb).mono ?_
  rintro x w1 ⟨rfl, h1, h2⟩
  have H1 := Lib.hid h1
  clear h1
  go_wp2_with fail
  go_ret
  exact ⟨rfl, H1.out, h2⟩
theorem bytes_nil (n : Int) (w : World) : Calls Tryz.prog 110 #[.pointer none, .int .i64 n] w fun x w' => x = .returned (Str []) ∧ w = w' := by
  go_enter Tryz.func110, Tryz.ntmps110
  go_wp2_with fail
  refine (take_nil n _ w).mono ?_
  rintro x w1 ⟨rfl, rfl⟩
  go_wp2_with fail
  go_ret
  exact ⟨rfl, rfl⟩
theorem tk_short (l : List UInt8) (e n : Int) : (tk l e n (badB n)).1.length ≤ 4 := by
  unfold tk
  split
  · simp
  · split
    · simp
    · split
      · simp
      · rename_i h _
        rcases badB_no (by simpa using h) with rfl | rfl | rfl <;> simp <;> omega
theorem bad_pos (n : Int) (h : badB n = false) : 0 ≤ n := by rcases badB_no h with rfl | rfl | rfl <;> omega
theorem unbe_lt (l : List UInt8) : 0 ≤ unbe l ∧ unbe l < 256 ^ l.length := by
  induction hn : l.length generalizing l with
  | zero => simp at hn; subst hn; simp [unbe]
  | succ n ih =>
    have hne : l ≠ [] := by intro h; subst h; simp at hn
    rw [← List.dropLast_concat_getLast hne, unbe_snoc]
    have := ih l.dropLast (by simp [hn])
    have hc : (l.getLast hne).toNat < 256 := UInt8.toNat_lt _
    rw [Int.pow_succ]
    omega
theorem or_byte (x : Int) (c : Nat) (h0 : 0 ≤ x) (h1 : x < 16777216) (hc : c < 256) : bits .or .u32 (x * 256) ((c : Int) % 4294967296) = x * 256 + c := by
  obtain ⟨y, rfl⟩ := Int.eq_ofNat_of_zero_le h0
  have e1 : (y : Int) * 256 = ((y * 256 : Nat) : Int) := by omega
  have e2 : (c : Int) % 4294967296 = (c : Int) := by omega
  rw [e1, e2, u32_or_nat _ _ (by omega) (by omega), nat_join 8 _ _ (by omega) hc]
  omega
theorem byte_at (m : List UInt8) (k : Nat) (h : k < m.length) : (⟨m.toArray⟩ : ByteArray)[k]'(show k < m.toArray.size by simpa using h) = m[k] := rfl
theorem take_snoc' (m : List UInt8) (k : Nat) (h : k < m.length) : unbe (m.take (k + 1)) = unbe (m.take k) * 256 + (m[k].toNat : Int) := by
  rw [List.take_succ_eq_append_getElem h, unbe_snoc]
theorem num_any (b : Nat) (l : List UInt8) (e n : Int) (w : World) (hb : Rd w b l e) :
    Calls Tryz.prog 109 #[.pointer (some ⟨b, 0, none⟩), .int .i64 n] w fun x w' => x = .returned (.int .u32 (unbe (tk l e n (badB n)).1)) ∧ Rd w' b (tk l e n (badB n)).2.1 (tk l e n (badB n)).2.2 ∧ Only [b] w w' := by
  have hs := tk_short l e n
  have ht := take_any b l e n (badB n) (bad_pos n) w hb
  generalize (tk l e n (badB n)).1 = m at *
  generalize (tk l e n (badB n)).2.1 = l' at *
  generalize (tk l e n (badB n)).2.2 = e' at *
  have HT := Lib.hid ht
  clear ht hb
  go_enter Tryz.func109, Tryz.ntmps109
  go_wp2_with fail
  refine wp_scope_jumps 0 (fun a w' => Rd w' b l' e' ∧ Only [b] w w' ∧ ∃ (k : Nat) (x z : Int) (u8 u9 u10 u11 u12 u13 u14 u15 u16 u17 u18 u19 u20 u21 u22 u23 u24 u25 u26 : Value), x = unbe (m.take k) ∧ z = k ∧ k ≤ m.length ∧ a = { tmps := #[.pointer (some ⟨b, 0, none⟩), .int .i64 n, undef, undef, .int .u32 0, .string ⟨m.toArray⟩, .int .u32 x, .int .i64 z, u8, u9, u10, u11, u12, u13, u14, u15, u16, u17, u18, u19, u20, u21, u22, u23, u24, u25, u26], defers := [] }) (fun a _ => m.length - (intOf (a.tmps.getD 7 undef)).toNat) rfl ?_ ?_
  · go_wp2_with fail
    refine (bad_any _ _).mono ?_
    rintro x w1 ⟨rfl, rfl⟩
    go_wp2_with fail
    refine HT.out.mono ?_
    rintro x w1 ⟨rfl, h1, h2⟩
    have H1 := Lib.hid h1
    clear h1
    unfold Str
    go_wp2_with fail
    go_step3
    by_cases hm : 0 < m.length
    · have hv := take_snoc' m 0 hm
      have ho := or_byte 0 m[0].toNat (by omega) (by omega) (UInt8.toNat_lt _)
      have he : unbe (m.take 0) = 0 := rfl
      rw [he] at hv
      simp only [Int.zero_mul, Int.zero_add, Nat.zero_add] at hv ho
      have HV := Lib.hid hv
      have HO := Lib.hid ho
      clear hv he ho
      go_wp2_with fail
      go_step3
      exact ⟨rfl, H1.out, h2, 1, _, _, _, _, _, _, _, _, _, _, _, _, _, _, _, _, _, _, _, _, _, (by rw [byte_at m 0 hm, HO.out, HV.out]), rfl, by omega, rfl⟩
    · have hm0 : m = [] := List.eq_nil_of_length_eq_zero (by omega)
      subst hm0
      go_wp2_with fail
      simp only [Exit.jump]
      go_ret
      exact ⟨rfl, H1.out, h2⟩
  · rintro a w1 ⟨h1, h2, k, x, z, u8, u9, u10, u11, u12, u13, u14, u15, u16, u17, u18, u19, u20, u21, u22, u23, u24, u25, u26, hx, hz, hk, rfl⟩
    have H1 := Lib.hid h1
    subst hz
    by_cases hm : k < m.length
    · have hv := take_snoc' m k hm
      have hlt := unbe_lt (m.take k)
      have hp : (256 : Int) ^ (m.take k).length ≤ 16777216 := by
        have h3 : (m.take k).length ≤ 3 := by simp; omega
        have h4 : (m.take k).length = 0 ∨ (m.take k).length = 1 ∨ (m.take k).length = 2 ∨ (m.take k).length = 3 := by omega
        rcases h4 with h | h | h | h <;> rw [h] <;> decide
      have ho := or_byte x m[k].toNat (by omega) (by omega) (UInt8.toNat_lt _)
      rw [← hx] at hv hlt
      have HV := Lib.hid hv
      have HO := Lib.hid ho
      have HX := Lib.hid hx
      obtain ⟨x0, x1⟩ := hlt
      clear hv ho h1 hx
      go_wp2_with fail
      go_step3
      refine ⟨rfl, ⟨H1.out, h2, k + 1, _, _, _, _, _, _, _, _, _, _, _, _, _, _, _, _, _, _, _, _, _, (by rw [byte_at m k hm, HO.out, HV.out]), by omega, by omega, rfl⟩, ?_⟩
      simp [intOf]
      omega
    · subst hx
      clear h1
      go_wp2_with fail
      simp only [Exit.jump]
      go_ret
      refine ⟨?_, H1.out, h2⟩
      rw [List.take_of_length_le (by omega)]
      rfl
theorem num_nil (n : Int) (w : World) : Calls Tryz.prog 109 #[.pointer none, .int .i64 n] w fun x w' => x = .returned (.int .u32 0) ∧ w = w' := by
  go_enter Tryz.func109, Tryz.ntmps109
  go_wp2_with fail
  go_step3
  go_wp2_with fail
  refine (bad_any _ _).mono ?_
  rintro x w1 ⟨rfl, rfl⟩
  go_wp2_with fail
  refine (take_nil n _ w).mono ?_
  rintro x w1 ⟨rfl, rfl⟩
  unfold Str
  go_wp2_with fail
  go_step3
  go_wp2_with fail
  rw [Exit.noGoto_ret]
  go_ret
  exact ⟨rfl, rfl⟩
end Go.Proofs.YtnmlmpffmjhihaaGreat
namespace Go.Proofs.YtnmlmpffmjhihaaGreat
open Go.RowKit
set_option maxRecDepth 100000
def rNumPost (l : List UInt8) (e n : Int) (w : World) (x : Ending) (w' : World) : Prop :=
  x = .returned (.tuple #[.agg #[.string ⟨(tk l e n (badB n)).2.1.toArray⟩, .int .i64 (tk l e n (badB n)).2.2], .int .u32 (unbe (tk l e n (badB n)).1)]) ∧ Below w.heap.size w w'
theorem below2 (w : World) (o o' : Obj) : Below w.heap.size w ((w.alloc o).alloc o') := ((Below.refl _ _).alloc (Nat.le_refl _) _).alloc (by simp) _
def rBytesPost (l : List UInt8) (e n : Int) (w : World) (x : Ending) (w' : World) : Prop :=
  x = .returned (.tuple #[.agg #[.string ⟨(tk l e n (decide (n < 0))).2.1.toArray⟩, .int .i64 (tk l e n (decide (n < 0))).2.2], .string ⟨(tk l e n (decide (n < 0))).1.toArray⟩]) ∧ Below w.heap.size w w'
theorem run_str_one (w : World) (g : Nat) (hg : g = w.heap.size) (c : Int) : (convert 120 9 (.slice (some ⟨g, 0, none⟩) 1 1)).run Tryz.prog (w.alloc (.cells #[.int .u8 c] 5)) = .ok (.string ⟨#[U8 c]⟩) (w.alloc (.cells #[.int .u8 c] 5)) := by
  subst hg
  exact run_str_new (P := Tryz.prog) w 120 9 5 5 1 [c] [] Tryz.underlying120 Tryz.underlying5 Tryz.underlying9 (0, 0)
theorem be4' (n : Int) : be n 4 = [U8 (n / 256 / 256 / 256), U8 (n / 256 / 256), U8 (n / 256), U8 n] := rfl
theorem app_lists (x y : List UInt8) : (⟨x.toArray⟩ ++ ⟨y.toArray⟩ : ByteArray) = ⟨(x ++ y).toArray⟩ := ByteArray.mk_append_mk x y
end Go.Proofs.YtnmlmpffmjhihaaGreat
