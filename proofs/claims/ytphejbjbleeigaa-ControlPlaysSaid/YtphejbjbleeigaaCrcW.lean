/-
  The sum of a row of bytes: the program's and the document's: contracts (chapter 7).
-/
import Derived.Test.YtphejbjbleeigaaCrcP
import Derived.Test.YtphejbjbleeigaaBase2
import Derived.Laws.BitsAllLaws
namespace Go.Proofs.Ytphejbjbleeigaa
open Go.RowKit
set_option linter.unusedVariables false
set_option maxRecDepth 100000
set_option maxHeartbeats 1000000
theorem byte_getK (m : List UInt8) (k : Nat) (h : k < (⟨m.toArray⟩ : ByteArray).size) : (⟨m.toArray⟩ : ByteArray)[k]'h = m[k]'(show k < m.length from by simpa using (show k < m.toArray.size from h)) := rfl
theorem ret_u32 {a b : Nat} (h : a = b) : Ending.returned (.int .u32 (a : Int)) = .returned (.int .u32 (b : Int)) := by rw [h]
theorem cbN_back (n c : Nat) : cbN (n + 1) c = cbN n (cb c) := rfl
theorem step_any (c x : Nat) (hc : c < 4294967296) (hx : x < 256) (w : World) : Calls Try.prog 145 #[.int .u32 (c : Int), .int .u8 (x : Int)] w fun e w' => e = .returned (.int .u32 (cst c x : Nat)) ∧ w = w' := by
  have hX : bits .xor .u32 (c : Int) (x : Int) = ((c ^^^ x : Nat) : Int) := u32_xor_nat c x hc (by omega)
  have hl := xor32 hc (show x < 4294967296 by omega)
  have HF : Hid (cst c x = cbN 8 (c ^^^ x)) := rfl
  go_enter Try.func145, Try.ntmps145
  go_wp2_with fail
  clear hX
  generalize c ^^^ x = y at *
  go_loopg [0, 5, 10] 8 (fun gk v _ i wr => ∃ (k z : Nat), k ≤ 8 ∧ k + gk = 8 ∧ i = .int .i64 k ∧ z < 4294967296 ∧ v = .int .u32 (z : Int) ∧ cbN gk z = cbN 8 y ∧ w = wr)
  case atStart => exact ⟨0, y, by omega, by omega, rfl, hl, rfl, rfl, rfl⟩
  case round =>
    obtain ⟨k, z, hk, hkg, rfl, hz, rfl, hm, rfl⟩ := hrel
    have HM := Lib.hid hm
    clear hm
    by_cases hlt : k < 8
    · obtain ⟨n, rfl⟩ : ∃ n, gk = n + 1 := ⟨gk - 1, by omega⟩
      have hA : bits .and .u32 (z : Int) 1 = ((z % 2 : Nat) : Int) := by
        rw [← Nat.and_one_is_mod]
        exact u32_and_nat z 1 hz (by decide)
      have hcl := cb_lt hz
      rcases Nat.mod_two_eq_zero_or_one z with e | e
      · rw [e] at hA
        have hE := Lib.hid (cb_even e)
        have hA2 : bits .and .u32 3988292384 0 = 0 := by decide
        have hX2 : bits .xor .u32 ((z : Int) / 2) 0 = ((z / 2 : Nat) : Int) := by
          have := u32_xor_nat (z / 2) 0 (by omega) (by decide)
          rw [Nat.xor_zero] at this
          exact this
        clear e
        go_wp2_with fail
        go_roundg n
        case measure => omega
        case rel => exact ⟨k + 1, z / 2, by omega, by omega, by go_num, by omega, rfl, by rw [← HM.out, cbN_back, hE.out], rfl⟩
      · rw [e] at hA
        have hE := Lib.hid (cb_odd e)
        have hA2 : bits .and .u32 3988292384 4294967295 = 3988292384 := by decide
        have hX2 : bits .xor .u32 ((z : Int) / 2) 3988292384 = (((z / 2) ^^^ 3988292384 : Nat) : Int) := u32_xor_nat (z / 2) 3988292384 (by omega) (by decide)
        have hx2 : (z / 2) ^^^ 3988292384 < 4294967296 := xor32 (by omega) (by decide)
        clear e
        generalize (z / 2) ^^^ 3988292384 = zz at *
        go_wp2_with fail
        go_roundg n
        case measure => omega
        case rel => exact ⟨k + 1, zz, by omega, by omega, by go_num, hx2, rfl, by rw [← HM.out, cbN_back, hE.out], rfl⟩
    · obtain rfl : gk = 0 := by omega
      have hz2 : z = cbN 8 y := HM.out
      have HZ := Lib.hid hz2
      clear hz2
      go_wp2_with fail
      go_ret
      exact ⟨ret_u32 (by rw [HF.out, HZ.out]), rfl⟩
theorem not32 (c : Nat) (h : c < 4294967296) : bits .xor .u32 IntKind.u32.max (c : Int) = ((4294967295 ^^^ c : Nat) : Int) := u32_xor_nat 4294967295 c (by decide) h
theorem add_crc (s : Nat) (l : List UInt8) (hs : s < 4294967296) (hl : l.length ≤ 9223372036854775807) (w : World) : Calls Try.prog 104 #[.int .u32 (s : Int), Str l] w fun e w' => e = .returned (.int .u32 (crcA s l : Nat)) ∧ w = w' := by
  have hbg := byte_getK
  have HF : Hid (crcA s l = 4294967295 ^^^ crcF (4294967295 ^^^ s) l) := rfl
  have hn := not32 s hs
  have hv := xor32 (show 4294967295 < 4294967296 by decide) hs
  generalize 4294967295 ^^^ s = v at *
  go_enter Try.func104, Try.ntmps104
  go_wp2_with fail
  clear hn
  go_loopg [5, 6, 11] l.length (fun gk c _ i wr => ∃ k : Nat, k ≤ l.length ∧ l.length ≤ k + gk ∧ i = .int .i64 k ∧ c = .int .u32 (crcF v (l.take k) : Nat) ∧ w = wr)
  case atStart => exact ⟨0, by omega, by omega, rfl, rfl, rfl⟩
  case round =>
    obtain ⟨k, hk, hgk, rfl, rfl, rfl⟩ := hrel
    have hc := crcF_lt (l := l.take k) hv
    by_cases hlt : k < l.length
    · have HS := Lib.hid (crcF_snoc v l k hlt)
      have hb := u8_lt l[k]
      generalize crcF v (l.take k) = c at *
      go_wp2_with fail
      refine (step_any c l[k].toNat hc hb _).mono ?_
      rintro e w1 ⟨rfl, rfl⟩
      generalize cst c l[k].toNat = z at *
      go_wp2_with fail
      go_roundg (l.length - (k + 1))
      case measure => omega
      case rel => exact ⟨k + 1, by omega, by omega, by go_num, by rw [HS.out], rfl⟩
    · obtain rfl : k = l.length := by omega
      have HT := Lib.hid (show l.take l.length = l from List.take_of_length_le (Nat.le_refl _))
      have hn2 := not32 _ hc
      have HN : Hid (crcF v (l.take l.length) = crcF v l) := by rw [HT.out]; rfl
      generalize crcF v (l.take l.length) = c at *
      have hlt' : ¬ (l.length : Int) < (l.length : Int) := by omega
      go_wp2_with fail
      go_ret
      exact ⟨ret_u32 (by rw [HF.out, HN.out]), rfl⟩
theorem sum_crc (l : List UInt8) (hl : l.length ≤ 9223372036854775807) (w : World) : Calls Try.prog 58 #[Str l] w fun e w' => e = .returned (.int .u32 (crcS l : Nat)) ∧ w = w' := by
  go_enter Try.func58, Try.ntmps58
  go_wp2_with fail
  refine (add_crc 0 l (by decide) hl _).mono ?_
  rintro e w1 ⟨rfl, rfl⟩
  go_wp2_with fail
  go_ret
  exact ⟨rfl, rfl⟩
theorem radd_crc (s : Nat) (l : List UInt8) (hs : s < 4294967296) (hl : l.length ≤ 9223372036854775807) (w : World) : Calls Try.prog 106 #[.int .u32 (s : Int), Str l] w fun e w' => e = .returned (.int .u32 (crcA s l : Nat)) ∧ w = w' := by
  have hbg := byte_getK
  have HF : Hid (crcA s l = 4294967295 ^^^ crcF (4294967295 ^^^ s) l) := rfl
  have hn := not32 s hs
  have hv := xor32 (show 4294967295 < 4294967296 by decide) hs
  generalize 4294967295 ^^^ s = v at *
  go_enter Try.func106, Try.ntmps106
  go_wp2_with fail
  clear hn
  go_loopg [5, 6, 7, 8] l.length (fun gk c i _ _ wr => ∃ k : Nat, k ≤ l.length ∧ l.length ≤ k + gk ∧ i = .int .i64 k ∧ c = .int .u32 (crcF v (l.take k) : Nat) ∧ w = wr)
  case atStart => exact ⟨0, by omega, by omega, rfl, rfl, rfl⟩
  case round =>
    obtain ⟨k, hk, hgk, rfl, rfl, rfl⟩ := hrel
    have hc := crcF_lt (l := l.take k) hv
    by_cases hlt : k < l.length
    · have HS := Lib.hid (crcF_snoc v l k hlt)
      have hb := u8_lt l[k]
      generalize crcF v (l.take k) = c at *
      have hX : bits .xor .u32 (c : Int) (l[k].toNat : Int) = ((c ^^^ l[k].toNat : Nat) : Int) := u32_xor_nat c _ hc (by omega)
      have hy := xor32 hc (show l[k].toNat < 4294967296 by omega)
      have HC : Hid (cst c l[k].toNat = cbN 8 (c ^^^ l[k].toNat)) := rfl
      generalize cst c l[k].toNat = cc at *
      generalize hyy : c ^^^ l[k].toNat = y at *
      clear hyy
      go_wp2_with fail
      clear hX
      go_loopg [5, 7, 8] 8 (fun g3 vz i _ wr => ∃ (m z : Nat), m ≤ 8 ∧ m + g3 = 8 ∧ i = .int .i64 m ∧ z < 4294967296 ∧ vz = .int .u32 (z : Int) ∧ cbN g3 z = cbN 8 y ∧ w = wr)
      case atStart => exact ⟨0, y, by omega, by omega, rfl, hy, rfl, rfl, rfl⟩
      case round =>
        obtain ⟨m, z, hm, hmg, rfl, hz, rfl, hmm, rfl⟩ := hrel
        have HM := Lib.hid hmm
        clear hmm
        by_cases hl8 : m < 8
        · obtain ⟨n, rfl⟩ : ∃ n, gk = n + 1 := ⟨gk - 1, by omega⟩
          rcases Nat.mod_two_eq_zero_or_one z with e | e
          · have hE := Lib.hid (cb_even e)
            have d1 : ((z : Int) % 2 == 1) = false := by simp; omega
            clear e
            go_wp2_with fail
            go_roundg n
            case measure => omega
            case rel => exact ⟨m + 1, z / 2, by omega, by omega, by go_num, by omega, rfl, by rw [← HM.out, cbN_back, hE.out], rfl⟩
          · have hE := Lib.hid (cb_odd e)
            have d1 : ((z : Int) % 2 == 1) = true := by simp; omega
            have hX2 : bits .xor .u32 ((z : Int) / 2) 3988292384 = (((z / 2) ^^^ 3988292384 : Nat) : Int) := u32_xor_nat (z / 2) 3988292384 (by omega) (by decide)
            have hx2 : (z / 2) ^^^ 3988292384 < 4294967296 := xor32 (by omega) (by decide)
            clear e
            generalize (z / 2) ^^^ 3988292384 = zz at *
            go_wp2_with fail
            go_roundg n
            case measure => omega
            case rel => exact ⟨m + 1, zz, by omega, by omega, by go_num, hx2, rfl, by rw [← HM.out, cbN_back, hE.out], rfl⟩
        · obtain rfl : gk = 0 := by omega
          obtain rfl : m = 8 := by omega
          have hz2 : z = cc := HM.out.trans HC.out.symm
          have HZ := Lib.hid hz2
          clear hz2
          go_wp2_with fail
          go_roundg (l.length - (k + 1))
          case measure => omega
          case rel => exact ⟨k + 1, by omega, by omega, by go_num, by rw [HZ.out, HS.out], rfl⟩
    · obtain rfl : k = l.length := by omega
      have HT := Lib.hid (show l.take l.length = l from List.take_of_length_le (Nat.le_refl _))
      have hn2 := not32 _ hc
      have HN : Hid (crcF v (l.take l.length) = crcF v l) := by rw [HT.out]; rfl
      generalize crcF v (l.take l.length) = c at *
      have hlt' : ¬ (l.length : Int) < (l.length : Int) := by omega
      go_wp2_with fail
      go_ret
      exact ⟨ret_u32 (by rw [HF.out, HN.out]), rfl⟩
theorem rsum_crc (l : List UInt8) (hl : l.length ≤ 9223372036854775807) (w : World) : Calls Try.prog 60 #[Str l] w fun e w' => e = .returned (.int .u32 (crcS l : Nat)) ∧ w = w' := by
  go_enter Try.func60, Try.ntmps60
  go_wp2_with fail
  refine (radd_crc 0 l (by decide) hl _).mono ?_
  rintro e w1 ⟨rfl, rfl⟩
  go_wp2_with fail
  go_ret
  exact ⟨rfl, rfl⟩
end Go.Proofs.Ytphejbjbleeigaa
