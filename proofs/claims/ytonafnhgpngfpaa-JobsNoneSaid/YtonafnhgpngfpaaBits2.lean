/-
  Bits: marks set, counted, listed: contracts (chapter 11).
-/
import Derived.Test.YtonafnhgpngfpaaBits
namespace Go.Proofs.Ytonafnhgpngfpaa
open Go.RowKit
set_option linter.unusedVariables false
set_option maxRecDepth 100000
set_option maxHeartbeats 1000000
def zero32 : List UInt8 := List.replicate 32 0
theorem empty_any (w : World) : Calls Try.prog 42 #[] w fun e w' => e = .returned (Str zero32) ∧ Below w.heap.size w w' := by
  have hmk : ∀ w, (Instr.makeSlice 70 (.int .i64 32) (.int .i64 32)).run Try.prog w = .ok (.slice (some ⟨w.heap.size, 0, none⟩) 32 32) (w.alloc (.cells #[.int .u8 0, .int .u8 0, .int .u8 0, .int .u8 0, .int .u8 0, .int .u8 0, .int .u8 0, .int .u8 0, .int .u8 0, .int .u8 0, .int .u8 0, .int .u8 0, .int .u8 0, .int .u8 0, .int .u8 0, .int .u8 0, .int .u8 0, .int .u8 0, .int .u8 0, .int .u8 0, .int .u8 0, .int .u8 0, .int .u8 0, .int .u8 0, .int .u8 0, .int .u8 0, .int .u8 0, .int .u8 0, .int .u8 0, .int .u8 0, .int .u8 0, .int .u8 0] 5)) := fun _ => by kernel_rfl
  have hcv : (convert 70 9 (.slice (some ⟨w.heap.size, 0, none⟩) 32 32)).run Try.prog (w.alloc (.cells #[.int .u8 0, .int .u8 0, .int .u8 0, .int .u8 0, .int .u8 0, .int .u8 0, .int .u8 0, .int .u8 0, .int .u8 0, .int .u8 0, .int .u8 0, .int .u8 0, .int .u8 0, .int .u8 0, .int .u8 0, .int .u8 0, .int .u8 0, .int .u8 0, .int .u8 0, .int .u8 0, .int .u8 0, .int .u8 0, .int .u8 0, .int .u8 0, .int .u8 0, .int .u8 0, .int .u8 0, .int .u8 0, .int .u8 0, .int .u8 0, .int .u8 0, .int .u8 0] 5)) = .ok (Str zero32) (w.alloc (.cells #[.int .u8 0, .int .u8 0, .int .u8 0, .int .u8 0, .int .u8 0, .int .u8 0, .int .u8 0, .int .u8 0, .int .u8 0, .int .u8 0, .int .u8 0, .int .u8 0, .int .u8 0, .int .u8 0, .int .u8 0, .int .u8 0, .int .u8 0, .int .u8 0, .int .u8 0, .int .u8 0, .int .u8 0, .int .u8 0, .int .u8 0, .int .u8 0, .int .u8 0, .int .u8 0, .int .u8 0, .int .u8 0, .int .u8 0, .int .u8 0, .int .u8 0, .int .u8 0] 5)) :=
    run_str_new (P := Try.prog) w 70 9 5 5 32 (List.replicate 32 0) [] Try.underlying70 Try.underlying5 Try.underlying9 (0, 0)
  go_enter Try.func42, Try.ntmps42
  go_wp2_with fail
  go_ret
  exact ⟨rfl, (Below.refl _ _).alloc (Nat.le_refl _) _⟩
theorem rempty_any (w : World) : Calls Try.prog 43 #[] w fun e w' => e = .returned (Str zero32) ∧ Below w.heap.size w w' := by
  have hmk : ∀ w, (Instr.makeSlice 70 (.int .i64 32) (.int .i64 32)).run Try.prog w = .ok (.slice (some ⟨w.heap.size, 0, none⟩) 32 32) (w.alloc (.cells #[.int .u8 0, .int .u8 0, .int .u8 0, .int .u8 0, .int .u8 0, .int .u8 0, .int .u8 0, .int .u8 0, .int .u8 0, .int .u8 0, .int .u8 0, .int .u8 0, .int .u8 0, .int .u8 0, .int .u8 0, .int .u8 0, .int .u8 0, .int .u8 0, .int .u8 0, .int .u8 0, .int .u8 0, .int .u8 0, .int .u8 0, .int .u8 0, .int .u8 0, .int .u8 0, .int .u8 0, .int .u8 0, .int .u8 0, .int .u8 0, .int .u8 0, .int .u8 0] 5)) := fun _ => by kernel_rfl
  have hcv : (convert 70 9 (.slice (some ⟨w.heap.size, 0, none⟩) 32 32)).run Try.prog (w.alloc (.cells #[.int .u8 0, .int .u8 0, .int .u8 0, .int .u8 0, .int .u8 0, .int .u8 0, .int .u8 0, .int .u8 0, .int .u8 0, .int .u8 0, .int .u8 0, .int .u8 0, .int .u8 0, .int .u8 0, .int .u8 0, .int .u8 0, .int .u8 0, .int .u8 0, .int .u8 0, .int .u8 0, .int .u8 0, .int .u8 0, .int .u8 0, .int .u8 0, .int .u8 0, .int .u8 0, .int .u8 0, .int .u8 0, .int .u8 0, .int .u8 0, .int .u8 0, .int .u8 0] 5)) = .ok (Str zero32) (w.alloc (.cells #[.int .u8 0, .int .u8 0, .int .u8 0, .int .u8 0, .int .u8 0, .int .u8 0, .int .u8 0, .int .u8 0, .int .u8 0, .int .u8 0, .int .u8 0, .int .u8 0, .int .u8 0, .int .u8 0, .int .u8 0, .int .u8 0, .int .u8 0, .int .u8 0, .int .u8 0, .int .u8 0, .int .u8 0, .int .u8 0, .int .u8 0, .int .u8 0, .int .u8 0, .int .u8 0, .int .u8 0, .int .u8 0, .int .u8 0, .int .u8 0, .int .u8 0, .int .u8 0] 5)) :=
    run_str_new (P := Try.prog) w 70 9 5 5 32 (List.replicate 32 0) [] Try.underlying70 Try.underlying5 Try.underlying9 (0, 0)
  go_enter Try.func43, Try.ntmps43
  go_wp2_with fail
  go_ret
  exact ⟨rfl, (Below.refl _ _).alloc (Nat.le_refl _) _⟩
/-- One mark more; one that may not be is passed over. -/
def setB (l : List UInt8) (i : Int) : List UInt8 := if 0 ≤ i ∧ i < 256 then l.set (i / 8).toNat (U8 (bits .or .u8 ((l.getD (i / 8).toNat 0).toNat : Int) (pw i))) else l
theorem setB_length (l : List UInt8) (i : Int) : (setB l i).length = l.length := by unfold setB; split <;> simp
def withB (l : List UInt8) (zs : List Int) : List UInt8 := zs.foldl setB l
theorem withB_length (l : List UInt8) (zs : List Int) : (withB l zs).length = l.length := by
  induction zs generalizing l with
  | nil => rfl
  | cons z zs ih => exact (ih (setB l z)).trans (setB_length l z)
theorem or_bd (c p : Int) (h0 : 0 ≤ c) (h1 : c < 256) (h2 : 0 ≤ p) (h3 : p < 256) : 0 ≤ bits .or .u8 c p ∧ bits .or .u8 c p < 256 := by
  obtain ⟨a, rfl⟩ := Int.eq_ofNat_of_zero_le h0
  obtain ⟨b, rfl⟩ := Int.eq_ofNat_of_zero_le h2
  rw [u8_or_nat _ _ (by omega) (by omega)]
  have : a ||| b < 2 ^ 8 := Nat.or_lt_two_pow (by omega) (by omega)
  omega
theorem with_snoc (l : List UInt8) (zs : List Int) (k : Nat) (h : k < zs.length) : withB l (zs.take (k + 1)) = setB (withB l (zs.take k)) zs[k] := by
  rw [List.take_succ_eq_append_getElem h]
  unfold withB
  rw [List.foldl_append]
  rfl
theorem Byt.at {w : World} {g : Nat} {m : List UInt8} (h : Byt w g m) (i : Nat) (hi : i < m.length) : w.cell? ⟨g, i, none⟩ = some (.int .u8 ((m.getD i 0).toNat : Int)) ∧ w.frozen? ⟨g, i, none⟩ = false := by
  have := h.2 i hi
  rw [List.getD_eq_getElem?_getD, List.getElem?_eq_getElem hi]
  exact this
theorem setB_yes (l : List UInt8) (i : Int) (h0 : 0 ≤ i) (h1 : i < 256) : setB l i = l.set (i / 8).toNat (U8 (bits .or .u8 ((l.getD (i / 8).toNat 0).toNat : Int) (pw i))) := by
  unfold setB; rw [if_pos ⟨h0, h1⟩]
theorem setB_no (l : List UInt8) (i : Int) (h : ¬ (0 ≤ i ∧ i < 256)) : setB l i = l := by
  unfold setB; rw [if_neg h]
theorem IsInts.below {w w' : World} {k : IntKind} {a : Option Addr} {len cap : Nat} {zs : List Int} (h : IsInts k w a len cap zs) (hb : Below w.heap.size w w') : IsInts k w' a len cap zs := by
  obtain ⟨h1, h2, h3, h4, h5⟩ := h
  refine ⟨h1, h2, h3, h4, h5.imp id ?_⟩
  rintro ⟨b, off, ha, hlt, hc⟩
  exact ⟨b, off, ha, Nat.lt_of_lt_of_le hlt hb.size, fun i hi => (hb.cell (p := ⟨b, off + i, none⟩) hlt).trans (hc i hi)⟩
theorem with_any (l : List UInt8) (hl : l.length = 32) (a : Option Addr) (len cap : Nat) (zs : List Int) (w : World) (hz : IsInts .i64 w a len cap zs) :
    Calls Try.prog 60 #[Str l, .slice a len cap] w fun e w' => e = .returned (Str (withB l zs)) ∧ Below w.heap.size w w' := by
  obtain ⟨hzl, hlc, hcm, hwf, hcells⟩ := id hz
  have hr := hz.i64
  have hlen : len ≤ 9223372036854775807 := by unfold maxLen at hcm; omega
  obtain ⟨c, W, hcv, hby, hbW, hcl, hcm2⟩ := conv_bytes w l (by omega)
  have HZ := Lib.hid hzl
  have HL := Lib.hid hl
  clear hzl hwf hz
  go_enter Try.func60, Try.ntmps60
  rw [hl] at hcv
  clear hl
  go_wp2_with fail
  have hlow : w.heap.size ≤ W.heap.size := hbW.size
  clear hcv
  go_loopg [14] len (fun gk i wr => ∃ k : Nat, k ≤ len ∧ len ≤ k + gk ∧ i = .int .i64 k ∧ Byt wr w.heap.size (withB l (zs.take k)) ∧ Below w.heap.size w wr)
  case atStart => exact ⟨0, by omega, by omega, rfl, hby, hbW⟩
  case round =>
    obtain ⟨k, hk, hgk, rfl, hb, hB⟩ := hrel
    by_cases hlt : k < len
    · obtain ⟨sb, so, rfl, hsb, hcell⟩ := hcells.resolve_left (by omega)
      have hck := hcell k (by rw [HZ.out]; exact hlt)
      have hzk := hr (zs[k]'(by rw [HZ.out]; exact hlt)) (by simp)
      have htk := Lib.hid (with_snoc l zs k (by rw [HZ.out]; exact hlt))
      have hwl := withB_length l (zs.take k)
      rw [HL.out] at hwl
      generalize withB l (zs.take k) = m at *
      generalize zs[k]'(by rw [HZ.out]; exact hlt) = z at *
      obtain ⟨hz0, hz1⟩ := hzk
      replace hck : wr.cell? ⟨sb, so + k, none⟩ = some (.int .i64 z) := (hB.cell (p := ⟨sb, so + k, none⟩) hsb).trans hck
      by_cases hi : 0 ≤ z ∧ z < 256
      · obtain ⟨hi0, hi1⟩ := hi
        have hq0 : 0 ≤ z / 8 := by omega
        have hq2 : z / 8 < 32 := by omega
        go_wp2_with fail
        refine (place_any z hi0 hi1 _).mono ?_
        rintro x w1 ⟨rfl, hb1⟩
        have hbm := hb.chain hb1
        obtain ⟨hc1, hf1⟩ := hbm.at (z / 8).toNat (by omega)
        have hset := setB_yes m z hi0 hi1
        have hbd := or_bd ((m.getD (z / 8).toNat 0).toNat : Int) (pw z) (by omega) (by have := UInt8.toNat_lt (m.getD (z / 8).toNat 0); omega) (by have := pw_bd z; omega) (by have := pw_bd z; omega)
        have hfin := hbm.setAt (z / 8).toNat _ hbd.1 hbd.2
        rw [← hset] at hfin
        have HFIN := Lib.hid hfin
        clear hbm hb hwl hfin hset
        generalize (m.getD (z / 8).toNat 0).toNat = c0 at *
        go_wp2_with fail
        go_roundg (gk - 1)
        case measure => omega
        case rel =>
          refine ⟨k + 1, by omega, by omega, by go_num, ?_, ?_⟩
          · rw [← htk.out] at HFIN
            exact HFIN.out
          · exact (Below.chain hb1 hB).setCell (Nat.le_refl _) _
      · have hset := Lib.hid (setB_no m z hi)
        have HB := Lib.hid hb
        clear hb
        by_cases h0 : 0 ≤ z
        · have h1 : 256 ≤ z := by omega
          clear hi
          go_wp2_with fail
          go_roundg (gk - 1)
          case measure => omega
          case rel => exact ⟨k + 1, by omega, by omega, by go_num, by rw [htk.out, hset.out]; exact HB.out, hB⟩
        · have h1 : z < 0 := by omega
          clear hi h0
          go_wp2_with fail
          go_roundg (gk - 1)
          case measure => omega
          case rel => exact ⟨k + 1, by omega, by omega, by go_num, by rw [htk.out, hset.out]; exact HB.out, hB⟩
    · have hke : zs.take k = zs := List.take_of_length_le (by rw [HZ.out]; omega)
      rw [hke] at hb
      have hcv := conv_string hb (n := 32) (by rw [withB_length, HL.out]) c
      clear hb hke
      go_wp2_with fail
      go_ret
      exact ⟨rfl, hB⟩
theorem with_one (l : List UInt8) (hl : l.length = 32) (g : Nat) (i : Int) (w : World) (h0 : -9223372036854775808 ≤ i) (h1 : i ≤ 9223372036854775807) (hc : w.cell? ⟨g, 0, none⟩ = some (.int .i64 i)) :
    Calls Try.prog 60 #[Str l, .slice (some ⟨g, 0, none⟩) 1 1] w fun e w' => e = .returned (Str (withB l [i])) ∧ Below w.heap.size w w' :=
  with_any l hl _ 1 1 [i] w ⟨rfl, by omega, by unfold maxLen; omega, by
    intro z hz
    simp at hz
    subst hz
    simpa [Lit.wf, IntKind.min, IntKind.max, IntKind.signed, IntKind.bits] using ⟨h0, h1⟩, .inr ⟨g, 0, rfl, World.block_lt_of_cell? w _ hc, fun j hj => by
      have : j = 0 := by simpa using hj
      subst this
      exact hc⟩⟩
def setE (l : List UInt8) (i : Int) : Int := if l.length ≠ 32 then 5 else if i < 0 ∨ 256 ≤ i then 2 else 0
def setS (l : List UInt8) (i : Int) : List UInt8 := if setE l i = 0 then setB l i else []
theorem set_any (l : List UInt8) (hl : l.length ≤ 9223372036854775807) (i : Int) (h0 : -9223372036854775808 ≤ i) (h1 : i ≤ 9223372036854775807) (w : World) :
    Calls Try.prog 31 #[Str l, .int .i64 i] w fun e w' => e = .returned (.tuple #[Str (setS l i), .int .i64 (setE l i)]) ∧ Below w.heap.size w w' := by
  by_cases h32 : l.length = 32
  · have hl' : ((l.length : Int) != 32) = false := by simp; omega
    by_cases hi : 0 ≤ i ∧ i < 256
    · obtain ⟨hi0, hi1⟩ := hi
      have hE : setE l i = 0 := by unfold setE; rw [if_neg (by omega), if_neg (by omega)]
      have hS : setS l i = setB l i := by unfold setS; rw [if_pos hE]
      rw [hE, hS]
      clear hE hS
      have HL := Lib.hid h32
      clear h32
      go_enter Try.func31, Try.ntmps31
      go_wp2_with fail
      refine (with_one l HL.out w.heap.size i _ h0 h1 (by simp)).mono ?_
      rintro x w1 ⟨rfl, hb⟩
      go_wp2_with fail
      go_ret2
      exact ⟨rfl, Below.chain hb (Below.chainAlloc (Below.refl _ _) _)⟩
    · have hE : setE l i = 2 := by unfold setE; rw [if_neg (by omega), if_pos (by omega)]
      have hS : setS l i = [] := by unfold setS; rw [hE]; rfl
      rw [hE, hS]
      clear hE hS h32
      by_cases h0 : 0 ≤ i
      · have h1 : 256 ≤ i := by omega
        clear hi
        go_enter Try.func31, Try.ntmps31
        go_wp2_with fail
        go_ret2
        exact ⟨rfl, Below.refl _ _⟩
      · have h1 : i < 0 := by omega
        clear hi h0
        go_enter Try.func31, Try.ntmps31
        go_wp2_with fail
        go_ret2
        exact ⟨rfl, Below.refl _ _⟩
  · have hl' : ((l.length : Int) != 32) = true := by simp; omega
    have hE : setE l i = 5 := by unfold setE; rw [if_pos h32]
    have hS : setS l i = [] := by unfold setS; rw [hE]; rfl
    rw [hE, hS]
    clear hE hS h32
    go_enter Try.func31, Try.ntmps31
    go_wp2_with fail
    go_ret2
    exact ⟨rfl, Below.refl _ _⟩
theorem rset_any (l : List UInt8) (hl : l.length ≤ 9223372036854775807) (i : Int) (h0 : -9223372036854775808 ≤ i) (h1 : i ≤ 9223372036854775807) (w : World) :
    Calls Try.prog 32 #[Str l, .int .i64 i] w fun e w' => e = .returned (.tuple #[Str (setS l i), .int .i64 (setE l i)]) ∧ Below w.heap.size w w' := by
  by_cases h32 : l.length = 32
  · have hl' : ((l.length : Int) != 32) = false := by simp; omega
    by_cases hi : 0 ≤ i ∧ i < 256
    · obtain ⟨hi0, hi1⟩ := hi
      have hE : setE l i = 0 := by unfold setE; rw [if_neg (by omega), if_neg (by omega)]
      have hS : setS l i = setB l i := by unfold setS; rw [if_pos hE]
      rw [hE, hS]
      clear hE hS
      have hset := setB_yes l i hi0 hi1
      obtain ⟨c, W, hcv, hby, hbW, hcl, hcm2⟩ := conv_bytes w l (by omega)
      rw [h32] at hcv
      have hq0 : 0 ≤ i / 8 := by omega
      have hq2 : i / 8 < 32 := by omega
      have hm : 0 ≤ i % 8 := by omega
      have hm2 : i % 8 < 8 := by omega
      obtain ⟨hc1, hf1⟩ := hby.at (i / 8).toNat (by omega)
      have hp := pw_bd i
      have hbd := or_bd ((l.getD (i / 8).toNat 0).toNat : Int) (pw i) (by omega) (by have := UInt8.toNat_lt (l.getD (i / 8).toNat 0); omega) (by omega) (by omega)
      have hfin := hby.setAt (i / 8).toNat _ hbd.1 hbd.2
      have hcv2 := conv_string hfin (n := 32) (by simp [h32]) c
      rw [← hset] at hcv2
      have hpe : (2 : Int) ^ (i % 8).toNat % 256 = pw i := Int.emod_eq_of_lt (by unfold pw at hp; omega) (by unfold pw at hp; omega)
      clear hfin hby h32 hset hp
      generalize (l.getD (i / 8).toNat 0).toNat = c0 at *
      go_enter Try.func32, Try.ntmps32
      go_wp2_with fail
      go_ret2
      exact ⟨rfl, hbW.setCell (Nat.le_refl _) _⟩
    · have hE : setE l i = 2 := by unfold setE; rw [if_neg (by omega), if_pos (by omega)]
      have hS : setS l i = [] := by unfold setS; rw [hE]; rfl
      rw [hE, hS]
      clear hE hS h32
      by_cases h0 : 0 ≤ i
      · have h1 : 256 ≤ i := by omega
        clear hi
        go_enter Try.func32, Try.ntmps32
        go_wp2_with fail
        go_ret2
        exact ⟨rfl, Below.refl _ _⟩
      · have h1 : i < 0 := by omega
        clear hi h0
        go_enter Try.func32, Try.ntmps32
        go_wp2_with fail
        go_ret2
        exact ⟨rfl, Below.refl _ _⟩
  · have hl' : ((l.length : Int) != 32) = true := by simp; omega
    have hE : setE l i = 5 := by unfold setE; rw [if_pos h32]
    have hS : setS l i = [] := by unfold setS; rw [hE]; rfl
    rw [hE, hS]
    clear hE hS h32
    go_enter Try.func32, Try.ntmps32
    go_wp2_with fail
    go_ret2
    exact ⟨rfl, Below.refl _ _⟩
theorem setE_vals (l : List UInt8) (i : Int) (h : l.length = 32) : setE l i = 0 ∧ setS l i = setB l i ∨ setE l i = 2 ∧ setB l i = l := by
  by_cases hi : 0 ≤ i ∧ i < 256
  · have hE : setE l i = 0 := by unfold setE; rw [if_neg (by omega), if_neg (by omega)]
    exact .inl ⟨hE, by unfold setS; rw [if_pos hE]⟩
  · have hE : setE l i = 2 := by unfold setE; rw [if_neg (by omega), if_pos (by omega)]
    exact .inr ⟨hE, setB_no l i hi⟩
theorem of_any (a : Option Addr) (len cap : Nat) (zs : List Int) (w : World) (hz : IsInts .i64 w a len cap zs) :
    Calls Try.prog 40 #[.slice a len cap] w fun e w' => e = .returned (Str (withB zero32 zs)) ∧ Below w.heap.size w w' := by
  have HZ := Lib.hid hz
  clear hz
  go_enter Try.func40, Try.ntmps40
  go_wp2_with fail
  refine (empty_any _).mono ?_
  rintro x w1 ⟨rfl, hb⟩
  go_wp2_with fail
  refine (with_any zero32 rfl a len cap zs w1 (HZ.out.below hb)).mono ?_
  rintro x w2 ⟨rfl, hb2⟩
  go_wp2_with fail
  go_ret
  exact ⟨rfl, Below.chain hb2 hb⟩
theorem rof_any (a : Option Addr) (len cap : Nat) (zs : List Int) (w : World) (hz : IsInts .i64 w a len cap zs) :
    Calls Try.prog 41 #[.slice a len cap] w fun e w' => e = .returned (Str (withB zero32 zs)) ∧ Below w.heap.size w w' := by
  obtain ⟨hzl, hlc, hcm, hwf, hcells⟩ := id hz
  have hr := hz.i64
  have hlen : len ≤ 9223372036854775807 := by unfold maxLen at hcm; omega
  have HZ := Lib.hid hzl
  clear hzl hwf hz
  go_enter Try.func41, Try.ntmps41
  go_wp2_with fail
  refine (rempty_any _).mono ?_
  rintro x w1 ⟨rfl, hb⟩
  go_wp2_with fail
  go_loopg [3, 4] len (fun gk s i wr => ∃ k : Nat, k ≤ len ∧ len ≤ k + gk ∧ s = .string ⟨(withB zero32 (zs.take k)).toArray⟩ ∧ i = .int .i64 k ∧ Below w.heap.size w wr)
  case atStart => exact ⟨0, by omega, by omega, rfl, rfl, hb⟩
  case round =>
    obtain ⟨k, hk, hgk, rfl, rfl, hB⟩ := hrel
    by_cases hlt : k < len
    · obtain ⟨sb, so, rfl, hsb, hcell⟩ := hcells.resolve_left (by omega)
      have hck := hcell k (by rw [HZ.out]; exact hlt)
      have hzk := hr (zs[k]'(by rw [HZ.out]; exact hlt)) (by simp)
      have htk := Lib.hid (with_snoc zero32 zs k (by rw [HZ.out]; exact hlt))
      have hwl := withB_length zero32 (zs.take k)
      have hz32 : zero32.length = 32 := rfl
      rw [hz32] at hwl
      have hv := setE_vals _ (zs[k]'(by rw [HZ.out]; exact hlt)) hwl
      generalize withB zero32 (zs.take k) = m at *
      generalize zs[k]'(by rw [HZ.out]; exact hlt) = z at *
      obtain ⟨hz0, hz1⟩ := hzk
      replace hck : wr.cell? ⟨sb, so + k, none⟩ = some (.int .i64 z) := (hB.cell (p := ⟨sb, so + k, none⟩) hsb).trans hck
      have HV := Lib.hid hv
      have HWL := Lib.hid hwl
      clear hv hwl hz32
      go_wp2_with fail
      refine (rset_any m (by rw [HWL.out]; omega) z hz0 hz1 _).mono ?_
      rintro x w2 ⟨rfl, hb2⟩
      rcases HV.out with ⟨h1, h2⟩ | ⟨h1, h2⟩
      · rw [h1, h2]
        have H2 := Lib.hid h2
        clear h1 h2
        go_wp2_with fail
        go_roundg (gk - 1)
        case measure => omega
        case rel => exact ⟨k + 1, by omega, by omega, by rw [htk.out], by go_num, Below.chain hb2 hB⟩
      · rw [h1]
        have H2 := Lib.hid h2
        clear h1 h2
        go_wp2_with fail
        go_roundg (gk - 1)
        case measure => omega
        case rel => exact ⟨k + 1, by omega, by omega, by rw [htk.out, H2.out], by go_num, Below.chain hb2 hB⟩
    · have hke : zs.take k = zs := List.take_of_length_le (by rw [HZ.out]; omega)
      have HK := Lib.hid hke
      clear hke
      go_wp2_with fail
      go_ret
      refine ⟨?_, hB⟩
      rw [HK.out]
      rfl
end Go.Proofs.Ytonafnhgpngfpaa
