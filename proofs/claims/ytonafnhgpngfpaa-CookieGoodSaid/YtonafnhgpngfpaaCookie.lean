/-
  Cookie: the sum; cookies made and held against what came: contracts (chapter 50).
-/
import Derived.Test.YtonafnhgpngfpaaWireR
import Derived.Test.YtonafnhgpngfpaaBase2
namespace Go.Proofs.Ytonafnhgpngfpaa
open Go.RowKit
set_option linter.unusedVariables false
set_option maxRecDepth 100000
set_option maxHeartbeats 1000000
theorem byte_getC (m : List UInt8) (k : Nat) (h : k < (⟨m.toArray⟩ : ByteArray).size) : (⟨m.toArray⟩ : ByteArray)[k]'h = m[k]'(show k < m.length from by simpa using (show k < m.toArray.size from h)) := rfl
def fs (y : Int) (c : UInt8) : Int := IntKind.u64.wrap (bits .xor .u64 y (IntKind.u64.wrap (c.toNat : Int)) * 1099511628211)
def sumF (x : Int) (l : List UInt8) : Int := l.foldl fs x
theorem sumF_snoc (x : Int) (l : List UInt8) (k : Nat) (h : k < l.length) : sumF x (l.take (k + 1)) = fs (sumF x (l.take k)) l[k] := by
  unfold sumF
  rw [List.take_succ_eq_append_getElem h, List.foldl_append]
  rfl
theorem rsum_any (x : Int) (l : List UInt8) (hl : l.length ≤ 9223372036854775807) (w : World) : Calls Try.prog 46 #[.int .u64 x, Str l] w fun e w' => e = .returned (.int .u64 (sumF x l)) ∧ w = w' := by
  have hbg := byte_getC
  go_enter Try.func46, Try.ntmps46
  go_wp2_with fail
  go_loop [0, 5] (fun v i => ∃ k : Nat, k ≤ l.length ∧ i = .int .i64 k ∧ v = .int .u64 (sumF x (l.take k))) (fun _ i => l.length - (intOf i).toNat)
  case atStart => exact ⟨0, by omega, rfl, rfl⟩
  case round =>
    obtain ⟨k, hk, rfl, rfl⟩ := hrel
    by_cases hlt : k < l.length
    · have hs := Lib.hid (sumF_snoc x l k hlt)
      generalize sumF x (l.take k) = y at *
      go_wp2_with fail
      go_round
      case rel => exact ⟨k + 1, by omega, by go_num, by rw [hs.out]; rfl⟩
      case measure => simp [intOf]; omega
    · have hke : l.take k = l := List.take_of_length_le (by omega)
      have HK := Lib.hid hke
      clear hke
      go_wp2_with fail
      go_ret
      refine ⟨?_, rfl⟩
      rw [HK.out]
      rfl
def seed : Int := 14695981039346656037
def sumK (key s : List UInt8) : Int := sumF (sumF (sumF seed key) [0]) s
theorem sum_any (key s : List UInt8) (hk : key.length ≤ 9223372036854775807) (hl : s.length ≤ 9223372036854775807) (w : World) : Calls Try.prog 45 #[Str key, Str s] w fun e w' => e = .returned (.int .u64 (sumK key s)) ∧ w = w' := by
  have hbg := byte_getC
  have i0 : ∀ w, (Instr.index 98 (.agg #[.string ⟨key.toArray⟩, .string ⟨#[0]⟩, .string ⟨s.toArray⟩]) (.int .i64 0)).run Try.prog w = .ok (.string ⟨key.toArray⟩) w := fun _ => by kernel_rfl
  have i1 : ∀ w, (Instr.index 98 (.agg #[.string ⟨key.toArray⟩, .string ⟨#[0]⟩, .string ⟨s.toArray⟩]) (.int .i64 1)).run Try.prog w = .ok (.string ⟨#[0]⟩) w := fun _ => by kernel_rfl
  have i2 : ∀ w, (Instr.index 98 (.agg #[.string ⟨key.toArray⟩, .string ⟨#[0]⟩, .string ⟨s.toArray⟩]) (.int .i64 2)).run Try.prog w = .ok (.string ⟨s.toArray⟩) w := fun _ => by kernel_rfl
  go_enter Try.func45, Try.ntmps45
  go_wp2_with fail
  refine wp_loop_rounds 4 ?_
  rw [rounds_succ]
  go_wp2_with fail
  go_loop [5, 17] (fun v i => ∃ k : Nat, k ≤ key.length ∧ i = .int .i64 k ∧ v = .int .u64 (sumF seed (key.take k))) (fun _ i => key.length - (intOf i).toNat)
  case atStart => exact ⟨0, by omega, rfl, rfl⟩
  case round =>
    obtain ⟨k, hk, rfl, rfl⟩ := hrel
    by_cases hlt : k < key.length
    · have hs := Lib.hid (sumF_snoc seed key k hlt)
      generalize sumF seed (key.take k) = y at *
      go_wp2_with fail
      go_round
      case rel => exact ⟨k + 1, by omega, by go_num, by rw [hs.out]; rfl⟩
      case measure => simp [intOf]; omega
    · have hke : sumF seed (key.take k) = sumF seed key := by rw [List.take_of_length_le (by omega)]
      rw [hke]
      clear hke
      have hx0 : Hid (sumK key s = sumF (sumF (sumF seed key) [0]) s) := rfl
      generalize sumF seed key = x0 at *
      go_wp2_with fail
      rw [rounds_succ]
      go_wp2_with fail
      refine wp_loop_rounds 2 ?_
      iterate 2 (rw [rounds_succ]; go_wp2_with fail)
      rw [rounds_succ]
      go_wp2_with fail
      go_loop [5, 17] (fun v i => ∃ k : Nat, k ≤ s.length ∧ i = .int .i64 k ∧ v = .int .u64 (sumF (fs x0 0) (s.take k))) (fun _ i => s.length - (intOf i).toNat)
      case atStart => exact ⟨0, by omega, rfl, rfl⟩
      case round =>
        obtain ⟨k, hk, rfl, rfl⟩ := hrel
        by_cases hlt : k < s.length
        · have hs := Lib.hid (sumF_snoc (fs x0 0) s k hlt)
          generalize sumF (fs x0 0) (s.take k) = y at *
          go_wp2_with fail
          go_round
          case rel => exact ⟨k + 1, by omega, by go_num, by rw [hs.out]; rfl⟩
          case measure => simp [intOf]; omega
        · have hke : sumF (fs x0 0) (s.take k) = sumF (fs x0 0) s := by rw [List.take_of_length_le (by omega)]
          rw [hke]
          clear hke
          go_wp2_with fail
          rw [rounds_succ]
          go_wp2_with fail
          go_ret
          refine ⟨?_, rfl⟩
          rw [hx0.out]
          rfl
theorem put4be (n : Int) (h0 : 0 ≤ n) (h1 : n < 4294967296) (w : World) : Calls Try.prog 20 #[.int .u32 n, .int .i64 4] w fun e w' => e = .returned (.tuple #[Str (be n 4), .int .i64 0]) ∧ Below w.heap.size w w' := by
  have h := put4_ok n h0 h1 w
  have hb : badB 4 = false := by decide
  have hE : putE n 4 = 0 := by simp [putE, hb]
  have hS : putS n 4 = be n 4 := by simp [putS, hE]
  rw [hE, hS] at h
  exact h
theorem fs_bd (y : Int) (c : UInt8) : 0 ≤ fs y c ∧ fs y c < 18446744073709551616 := by
  unfold fs
  simp only [IntKind.wrap, IntKind.bits, IntKind.signed]
  simp
  omega
theorem sumK_bd (key s : List UInt8) : 0 ≤ sumK key s ∧ sumK key s < 18446744073709551616 := by
  unfold sumK
  have h1 : 0 ≤ sumF (sumF seed key) [0] ∧ sumF (sumF seed key) [0] < 18446744073709551616 := fs_bd _ _
  generalize sumF (sumF seed key) [0] = x at *
  by_cases hne : s = []
  · subst hne; exact h1
  · rw [← List.dropLast_concat_getLast hne]
    unfold sumF
    rw [List.foldl_append]
    exact fs_bd _ _
def mkC (key who : List UInt8) (now : Int) : List UInt8 := be now 4 ++ be (sumK key (be now 4 ++ who) / 4294967296 % 4294967296) 4 ++ be (sumK key (be now 4 ++ who) % 4294967296) 4
theorem mkC_length (key who : List UInt8) (now : Int) : (mkC key who now).length = 12 := by simp [mkC, be_length]
theorem app_listsC (x y : List UInt8) : (⟨x.toArray⟩ ++ ⟨y.toArray⟩ : ByteArray) = ⟨(x ++ y).toArray⟩ := ByteArray.mk_append_mk x y
theorem make_no (key who : List UInt8) (now : Int) (h : now < 0 ∨ 4294967295 < now) (w : World) : Calls Try.prog 47 #[Str key, Str who, .int .i64 now] w fun e w' => e = .returned (.tuple #[Str [], .int .i64 2]) ∧ w = w' := by
  by_cases h0 : now < 0
  · clear h
    go_enter Try.func47, Try.ntmps47
    go_wp2_with fail
    go_ret2
    exact ⟨rfl, rfl⟩
  · have h1 : 4294967295 < now := by omega
    have h2 : 0 ≤ now := by omega
    clear h h0
    go_enter Try.func47, Try.ntmps47
    go_wp2_with fail
    go_ret2
    exact ⟨rfl, rfl⟩
theorem make_ok (key who : List UInt8) (hk : key.length ≤ 9223372036854775807) (hw : who.length ≤ 1000000) (now : Int) (h0 : 0 ≤ now) (h1 : now < 4294967296) (w : World) :
    Calls Try.prog 47 #[Str key, Str who, .int .i64 now] w fun e w' => e = .returned (.tuple #[Str (mkC key who now), .int .i64 0]) ∧ Below w.heap.size w w' := by
  have hap := app_listsC
  have hl := be_length now 4
  have hlen : (be now 4 ++ who).length ≤ 9223372036854775807 := by simp [hl]; omega
  have hbd := sumK_bd key (be now 4 ++ who)
  have hM : Hid (mkC key who now = be now 4 ++ be (sumK key (be now 4 ++ who) / 4294967296 % 4294967296) 4 ++ be (sumK key (be now 4 ++ who) % 4294967296) 4) := rfl
  have hl1 := be_length (sumK key (be now 4 ++ who) / 4294967296 % 4294967296) 4
  have hl2 := be_length (sumK key (be now 4 ++ who) % 4294967296) 4
  have hsum := sum_any key (be now 4 ++ who) hk hlen
  have hput1 := put4be now h0 h1
  generalize sumK key (be now 4 ++ who) = x at *
  have hput2 := put4be (x / 4294967296 % 4294967296) (by omega) (by omega)
  have hput3 := put4be (x % 4294967296) (by omega) (by omega)
  generalize be (x / 4294967296 % 4294967296) 4 = y1 at *
  generalize be (x % 4294967296) 4 = y2 at *
  generalize be now 4 = y0 at *
  generalize mkC key who now = m at *
  have HS := Lib.hid hsum
  have HP1 := Lib.hid hput1
  have HP2 := Lib.hid hput2
  have HP3 := Lib.hid hput3
  have HL := Lib.hid hl
  have hl' : y0.length ≤ 4 := by omega
  have hl1' : y1.length ≤ 4 := by omega
  have hl2' : y2.length ≤ 4 := by omega
  obtain ⟨x0, x1⟩ := hbd
  have X1 := Lib.hid x1
  clear hsum hput1 hput2 hput3 hl hl1 hl2 hlen x1
  go_enter Try.func47, Try.ntmps47
  go_wp2_with fail
  refine (HP1.out _).mono ?_
  rintro z w1 ⟨rfl, hb⟩
  have hB := hb
  clear hb
  go_wp2_with fail
  refine (HS.out _).mono ?_
  rintro z w2 ⟨rfl, rfl⟩
  go_wp2_with fail
  refine (HP2.out _).mono ?_
  rintro z w2 ⟨rfl, hb⟩
  replace hB := Below.chain hb hB
  clear hb
  go_wp2_with fail
  refine (HP3.out _).mono ?_
  rintro z w3 ⟨rfl, hb⟩
  replace hB := Below.chain hb hB
  clear hb
  go_wp2_with fail
  go_ret2
  refine ⟨?_, hB⟩
  rw [hM.out, List.append_assoc]
  rfl
/-- What a cookie is held against. -/
def goodB (key who : List UInt8) (now life : Int) (c : List UInt8) : Bool :=
  c.length == 12 && (c == mkC key who (unbe (c.take 4)) && (decide (unbe (c.take 4) ≤ now) && decide (now - unbe (c.take 4) ≤ life)))
theorem good_len (key who : List UInt8) (now life : Int) (c : List UInt8) (hc : c.length ≤ 9223372036854775807) (h : c.length ≠ 12) (w : World) :
    Calls Try.prog 48 #[Str key, Str who, .int .i64 now, .int .i64 life, Str c] w fun e w' => e = .returned (.bool (goodB key who now life c)) ∧ Below w.heap.size w w' := by
  have hg : Hid (goodB key who now life c = false) := by simp [Hid, goodB, h]
  have h' : ((c.length : Int) != 12) = true := by simp; omega
  clear h
  go_enter Try.func48, Try.ntmps48
  go_wp2_with fail
  go_ret
  refine ⟨?_, Below.refl _ _⟩
  rw [hg.out]
  rfl
theorem ret_boolC {a b : Bool} (h : a = b) : Ending.returned (.bool a) = .returned (.bool b) := by rw [h]
theorem good_any (key who : List UInt8) (hk : key.length ≤ 9223372036854775807) (hw : who.length ≤ 1000000) (now life : Int) (hn0 : 0 ≤ now) (hn1 : now ≤ 4611686018427387904) (hl0 : 0 ≤ life) (hl1 : life ≤ 4611686018427387904) (c : List UInt8) (hc : c.length = 12) (w : World) :
    Calls Try.prog 48 #[Str key, Str who, .int .i64 now, .int .i64 life, Str c] w fun e w' => e = .returned (.bool (goodB key who now life c)) ∧ Below w.heap.size w w' := by
  have hub := unbe_lt (c.take 4)
  have hl4 : (c.take 4).length = 4 := by simp [hc]
  rw [hl4] at hub
  have htk : tk c 0 4 (badB 4) = (c.take 4, c.drop 4, 0) := by
    have : badB 4 = false := by decide
    simp [tk, this, hc]
  have hG : Hid (goodB key who now life c = (c == mkC key who (unbe (c.take 4)) && (decide (unbe (c.take 4) ≤ now) && decide (now - unbe (c.take 4) ≤ life)))) := by
    unfold goodB Hid
    rw [hc]
    simp
  have hT := Lib.hid htk
  generalize hx : unbe (c.take 4) = x at *
  have HX := Lib.hid hx
  have hub' : x < 4294967296 := by have := hub.2; simpa using this
  have hub0 := hub.1
  have hmk := make_ok key who hk hw x hub0 hub'
  generalize mkC key who x = m at *
  have HM := Lib.hid hmk
  have hc' : ((c.length : Int) != 12) = false := by simp; omega
  have HC := Lib.hid hc
  clear hmk hub hx htk hc hl4
  go_enter Try.func48, Try.ntmps48
  go_wp2_with fail
  refine (new_any c (by rw [HC.out]; decide) _).mono ?_
  rintro z w1 ⟨rfl, hr, hb⟩
  have hB := hb
  clear hb
  go_wp2_with fail
  refine (num_any w.heap.size _ _ _ _ hr).mono ?_
  rw [hT.out]
  dsimp only
  rw [HX.out]
  rintro z w2 ⟨rfl, _, ho⟩
  replace hB := Below.only hB ho (by simp)
  clear ho hr
  go_wp2_with fail
  refine (HM.out _).mono ?_
  rintro z w3 ⟨rfl, hb⟩
  replace hB := Below.chain hb hB
  clear hb
  by_cases hcm : c = m
  · subst hcm
    have hG2 : Hid (goodB key who now life c = (decide (x ≤ now) && decide (now - x ≤ life))) := by rw [Hid, hG.out]; simp
    by_cases h1 : x ≤ now
    · by_cases h2 : now - x ≤ life
      · go_wp2_with fail
        go_ret
        refine ⟨ret_boolC ?_, hB⟩
        rw [hG2.out]
        simp [h1, h2]
      · go_wp2_with fail
        go_ret
        refine ⟨ret_boolC ?_, hB⟩
        rw [hG2.out]
        simp [h1] <;> omega
    · go_wp2_with fail
      go_ret
      refine ⟨ret_boolC ?_, hB⟩
      rw [hG2.out]
      simp <;> omega
  · have hG2 : Hid (goodB key who now life c = false) := by rw [Hid, hG.out]; simp [hcm]
    clear hub0 hub'
    go_wp2_with fail
    go_ret
    exact ⟨ret_boolC hG2.out.symm, hB⟩
end Go.Proofs.Ytonafnhgpngfpaa
