/-
  Bits: marks set, counted, listed: contracts (chapter 11).
-/
import Derived.Test.YtgfbhclkpephnaaBits
namespace Go.Proofs.Ytgfbhclkpephnaa
open Go.RowKit
set_option linter.unusedVariables false
set_option maxRecDepth 100000
set_option maxHeartbeats 1000000
def zero32 : List UInt8 := List.replicate 32 0
theorem rempty_any (w : World) : Calls Try.prog 89 #[] w fun e w' => e = .returned (Str zero32) ∧ Below w.heap.size w w' := by
  have hmk : ∀ w, (Instr.makeSlice 44 (.int .i64 32) (.int .i64 32)).run Try.prog w = .ok (.slice (some ⟨w.heap.size, 0, none⟩) 32 32) (w.alloc (.cells #[.int .u8 0, .int .u8 0, .int .u8 0, .int .u8 0, .int .u8 0, .int .u8 0, .int .u8 0, .int .u8 0, .int .u8 0, .int .u8 0, .int .u8 0, .int .u8 0, .int .u8 0, .int .u8 0, .int .u8 0, .int .u8 0, .int .u8 0, .int .u8 0, .int .u8 0, .int .u8 0, .int .u8 0, .int .u8 0, .int .u8 0, .int .u8 0, .int .u8 0, .int .u8 0, .int .u8 0, .int .u8 0, .int .u8 0, .int .u8 0, .int .u8 0, .int .u8 0] 5)) := fun _ => by kernel_rfl
  have hcv : (convert 44 9 (.slice (some ⟨w.heap.size, 0, none⟩) 32 32)).run Try.prog (w.alloc (.cells #[.int .u8 0, .int .u8 0, .int .u8 0, .int .u8 0, .int .u8 0, .int .u8 0, .int .u8 0, .int .u8 0, .int .u8 0, .int .u8 0, .int .u8 0, .int .u8 0, .int .u8 0, .int .u8 0, .int .u8 0, .int .u8 0, .int .u8 0, .int .u8 0, .int .u8 0, .int .u8 0, .int .u8 0, .int .u8 0, .int .u8 0, .int .u8 0, .int .u8 0, .int .u8 0, .int .u8 0, .int .u8 0, .int .u8 0, .int .u8 0, .int .u8 0, .int .u8 0] 5)) = .ok (Str zero32) (w.alloc (.cells #[.int .u8 0, .int .u8 0, .int .u8 0, .int .u8 0, .int .u8 0, .int .u8 0, .int .u8 0, .int .u8 0, .int .u8 0, .int .u8 0, .int .u8 0, .int .u8 0, .int .u8 0, .int .u8 0, .int .u8 0, .int .u8 0, .int .u8 0, .int .u8 0, .int .u8 0, .int .u8 0, .int .u8 0, .int .u8 0, .int .u8 0, .int .u8 0, .int .u8 0, .int .u8 0, .int .u8 0, .int .u8 0, .int .u8 0, .int .u8 0, .int .u8 0, .int .u8 0] 5)) :=
    run_str_new (P := Try.prog) w 44 9 5 5 32 (List.replicate 32 0) [] Try.underlying44 Try.underlying5 Try.underlying9 (0, 0)
  go_enter Try.func89, Try.ntmps89
  go_wp2_with fail
  go_ret
  exact ⟨rfl, (Below.refl _ _).alloc (Nat.le_refl _) _⟩
/-- One mark more; one that may not be is passed over. -/
def setB (l : List UInt8) (i : Int) : List UInt8 := if 0 ≤ i ∧ i < 256 then l.set (i / 8).toNat (U8 (bits .or .u8 ((l.getD (i / 8).toNat 0).toNat : Int) (pw i))) else l
theorem setB_length (l : List UInt8) (i : Int) : (setB l i).length = l.length := by unfold setB; split <;> simp
def withB (l : List UInt8) (zs : List Int) : List UInt8 := zs.foldl setB l
theorem withB_length (l : List UInt8) (zs : List Int) : (withB l zs).length = l.length := by
  induction zs generalizing l with
  | nil => rfl
  | cons z zs ih => exact (ih (setB l z)).trans (setB_length l z)
theorem or_bd (c p : Int) (h0 : 0 ≤ c) (h1 : c < 256) (h2 : 0 ≤ p) (h3 : p < 256) : 0 ≤ bits .or .u8 c p ∧ bits .or .u8 c p < 256 := by
  obtain ⟨a, rfl⟩ := Int.eq_ofNat_of_zero_le h0
  obtain ⟨b, rfl⟩ := Int.eq_ofNat_of_zero_le h2
  rw [u8_or_nat _ _ (by omega) (by omega)]
  have : a ||| b < 2 ^ 8 := Nat.or_lt_two_pow (by omega) (by omega)
  omega
theorem with_snoc (l : List UInt8) (zs : List Int) (k : Nat) (h : k < zs.length) : withB l (zs.take (k + 1)) = setB (withB l (zs.take k)) zs[k] := by
  rw [List.take_succ_eq_append_getElem h]
  unfold withB
  rw [List.foldl_append]
  rfl
theorem Byt.at {w : World} {g : Nat} {m : List UInt8} (h : Byt w g m) (i : Nat) (hi : i < m.length) : w.cell? ⟨g, i, none⟩ = some (.int .u8 ((m.getD i 0).toNat : Int)) ∧ w.frozen? ⟨g, i, none⟩ = false := by
  have := h.2 i hi
  rw [List.getD_eq_getElem?_getD, List.getElem?_eq_getElem hi]
  exact this
theorem setB_yes (l : List UInt8) (i : Int) (h0 : 0 ≤ i) (h1 : i < 256) : setB l i = l.set (i / 8).toNat (U8 (bits .or .u8 ((l.getD (i / 8).toNat 0).toNat : Int) (pw i))) := by
  unfold setB; rw [if_pos ⟨h0, h1⟩]
theorem setB_no (l : List UInt8) (i : Int) (h : ¬ (0 ≤ i ∧ i < 256)) : setB l i = l := by
  unfold setB; rw [if_neg h]
theorem IsInts.below {w w' : World} {k : IntKind} {a : Option Addr} {len cap : Nat} {zs : List Int} (h : IsInts k w a len cap zs) (hb : Below w.heap.size w w') : IsInts k w' a len cap zs := by
  obtain ⟨h1, h2, h3, h4, h5⟩ := h
  refine ⟨h1, h2, h3, h4, h5.imp id ?_⟩
  rintro ⟨b, off, ha, hlt, hc⟩
  exact ⟨b, off, ha, Nat.lt_of_lt_of_le hlt hb.size, fun i hi => (hb.cell (p := ⟨b, off + i, none⟩) hlt).trans (hc i hi)⟩
def setE (l : List UInt8) (i : Int) : Int := if l.length ≠ 32 then 5 else if i < 0 ∨ 256 ≤ i then 2 else 0
def setS (l : List UInt8) (i : Int) : List UInt8 := if setE l i = 0 then setB l i else []
theorem rset_any (l : List UInt8) (hl : l.length ≤ 9223372036854775807) (i : Int) (h0 : -9223372036854775808 ≤ i) (h1 : i ≤ 9223372036854775807) (w : World) :
    Calls Try.prog 90 #[Str l, .int .i64 i] w fun e w' => e = .returned (.tuple #[Str (setS l i), .int .i64 (setE l i)]) ∧ Below w.heap.size w w' := by
  by_cases h32 : l.length = 32
  · have hl' : ((l.length : Int) != 32) = false := by simp; omega
    by_cases hi : 0 ≤ i ∧ i < 256
    · obtain ⟨hi0, hi1⟩ := hi
      have hE : setE l i = 0 := by unfold setE; rw [if_neg (by omega), if_neg (by omega)]
      have hS : setS l i = setB l i := by unfold setS; rw [if_pos hE]
      rw [hE, hS]
      clear hE hS
      have hset := setB_yes l i hi0 hi1
      obtain ⟨c, W, hcv, hby, hbW, hcl, hcm2⟩ := conv_bytes w l (by omega)
      rw [h32] at hcv
      have hq0 : 0 ≤ i / 8 := by omega
      have hq2 : i / 8 < 32 := by omega
      have hm : 0 ≤ i % 8 := by omega
      have hm2 : i % 8 < 8 := by omega
      obtain ⟨hc1, hf1⟩ := hby.at (i / 8).toNat (by omega)
      have hp := pw_bd i
      have hbd := or_bd ((l.getD (i / 8).toNat 0).toNat : Int) (pw i) (by omega) (by have := UInt8.toNat_lt (l.getD (i / 8).toNat 0); omega) (by omega) (by omega)
      have hfin := hby.setAt (i / 8).toNat _ hbd.1 hbd.2
      have hcv2 := conv_string hfin (n := 32) (by simp [h32]) c
      rw [← hset] at hcv2
      have hpe : (2 : Int) ^ (i % 8).toNat % 256 = pw i := Int.emod_eq_of_lt (by unfold pw at hp; omega) (by unfold pw at hp; omega)
      clear hfin hby h32 hset hp
      generalize (l.getD (i / 8).toNat 0).toNat = c0 at *
      go_enter Try.func90, Try.ntmps90
      go_wp2_with fail
      go_ret2
      exact ⟨rfl, hbW.setCell (Nat.le_refl _) _⟩
    · have hE : setE l i = 2 := by unfold setE; rw [if_neg (by omega), if_pos (by omega)]
      have hS : setS l i = [] := by unfold setS; rw [hE]; rfl
      rw [hE, hS]
      clear hE hS h32
      by_cases h0 : 0 ≤ i
      · have h1 : 256 ≤ i := by omega
        clear hi
        go_enter Try.func90, Try.ntmps90
        go_wp2_with fail
        go_ret2
        exact ⟨rfl, Below.refl _ _⟩
      · have h1 : i < 0 := by omega
        clear hi h0
        go_enter Try.func90, Try.ntmps90
        go_wp2_with fail
        go_ret2
        exact ⟨rfl, Below.refl _ _⟩
  · have hl' : ((l.length : Int) != 32) = true := by simp; omega
    have hE : setE l i = 5 := by unfold setE; rw [if_pos h32]
    have hS : setS l i = [] := by unfold setS; rw [hE]; rfl
    rw [hE, hS]
    clear hE hS h32
    go_enter Try.func90, Try.ntmps90
    go_wp2_with fail
    go_ret2
    exact ⟨rfl, Below.refl _ _⟩
theorem setE_vals (l : List UInt8) (i : Int) (h : l.length = 32) : setE l i = 0 ∧ setS l i = setB l i ∨ setE l i = 2 ∧ setB l i = l := by
  by_cases hi : 0 ≤ i ∧ i < 256
  · have hE : setE l i = 0 := by unfold setE; rw [if_neg (by omega), if_neg (by omega)]
    exact .inl ⟨hE, by unfold setS; rw [if_pos hE]⟩
  · have hE : setE l i = 2 := by unfold setE; rw [if_neg (by omega), if_pos (by omega)]
    exact .inr ⟨hE, setB_no l i hi⟩
theorem rof_any (a : Option Addr) (len cap : Nat) (zs : List Int) (w : World) (hz : IsInts .i64 w a len cap zs) :
    Calls Try.prog 62 #[.slice a len cap] w fun e w' => e = .returned (Str (withB zero32 zs)) ∧ Below w.heap.size w w' := by
  obtain ⟨hzl, hlc, hcm, hwf, hcells⟩ := id hz
  have hr := hz.i64
  have hlen : len ≤ 9223372036854775807 := by unfold maxLen at hcm; omega
  have HZ := Lib.hid hzl
  clear hzl hwf hz
  go_enter Try.func62, Try.ntmps62
  go_wp2_with fail
  refine (rempty_any _).mono ?_
  rintro x w1 ⟨rfl, hb⟩
  go_wp2_with fail
  go_loopg [3, 4] len (fun gk s i wr => ∃ k : Nat, k ≤ len ∧ len ≤ k + gk ∧ s = .string ⟨(withB zero32 (zs.take k)).toArray⟩ ∧ i = .int .i64 k ∧ Below w.heap.size w wr)
  case atStart => exact ⟨0, by omega, by omega, rfl, rfl, hb⟩
  case round =>
    obtain ⟨k, hk, hgk, rfl, rfl, hB⟩ := hrel
    by_cases hlt : k < len
    · obtain ⟨sb, so, rfl, hsb, hcell⟩ := hcells.resolve_left (by omega)
      have hck := hcell k (by rw [HZ.out]; exact hlt)
      have hzk := hr (zs[k]'(by rw [HZ.out]; exact hlt)) (by simp)
      have htk := Lib.hid (with_snoc zero32 zs k (by rw [HZ.out]; exact hlt))
      have hwl := withB_length zero32 (zs.take k)
      have hz32 : zero32.length = 32 := rfl
      rw [hz32] at hwl
      have hv := setE_vals _ (zs[k]'(by rw [HZ.out]; exact hlt)) hwl
      generalize withB zero32 (zs.take k) = m at *
      generalize zs[k]'(by rw [HZ.out]; exact hlt) = z at *
      obtain ⟨hz0, hz1⟩ := hzk
      replace hck : wr.cell? ⟨sb, so + k, none⟩ = some (.int .i64 z) := (hB.cell (p := ⟨sb, so + k, none⟩) hsb).trans hck
      have HV := Lib.hid hv
      have HWL := Lib.hid hwl
      clear hv hwl hz32
      go_wp2_with fail
      refine (rset_any m (by rw [HWL.out]; omega) z hz0 hz1 _).mono ?_
      rintro x w2 ⟨rfl, hb2⟩
      rcases HV.out with ⟨h1, h2⟩ | ⟨h1, h2⟩
      · rw [h1, h2]
        have H2 := Lib.hid h2
        clear h1 h2
        go_wp2_with fail
        go_roundg (gk - 1)
        case measure => omega
        case rel => exact ⟨k + 1, by omega, by omega, by rw [htk.out], by go_num, Below.chain hb2 hB⟩
      · rw [h1]
        have H2 := Lib.hid h2
        clear h1 h2
        go_wp2_with fail
        go_roundg (gk - 1)
        case measure => omega
        case rel => exact ⟨k + 1, by omega, by omega, by rw [htk.out, H2.out], by go_num, Below.chain hb2 hB⟩
    · have hke : zs.take k = zs := List.take_of_length_le (by rw [HZ.out]; omega)
      have HK := Lib.hid hke
      clear hke
      go_wp2_with fail
      go_ret
      refine ⟨?_, hB⟩
      rw [HK.out]
      rfl
end Go.Proofs.Ytgfbhclkpephnaa
