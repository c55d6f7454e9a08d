/-
  The law FragBack returns true for every id, text and order. No condition.
-/
import Derived.Test.YtgfbhclkpephnaaFrB1
import Derived.Test.YtgfbhclkpephnaaLift3
import Derived.Test.YtgfbhclkpephnaaChecked
namespace Go.Proofs.Ytgfbhclkpephnaa
open Go Go.ChangeShapes Go.WideShapes Go.ChangeAt Go.RowKit
set_option linter.unusedVariables false
set_option linter.unusedSimpArgs false
set_option maxRecDepth 100000
set_option maxHeartbeats 4000000
theorem back_big (id : Int) (s : List UInt8) (a : Option Addr) (len cap : Nat) (h : 60 < s.length ∨ 100 < len) (w : World) : Calls Try.prog 9 #[.int .u32 id, Str s, .slice a len cap] w fun e w' => e = .returned (.bool true) ∧ Below w.heap.size w w' := by
  have HAW := Lib.hid fun w => awake49_ok w
  by_cases h1 : 60 < s.length
  · have h1' : (60 : Int) < (s.length : Int) := by omega
    clear h
    go_enter Try.func9, Try.ntmps9
    go_wp2_with fail
    refine (HAW.out _).mono ?_
    rintro e w1 ⟨rfl, hb⟩
    go_wp2_with fail
    go_ret
    exact ⟨rfl, hb⟩
  · have h1' : ¬ (60 : Int) < (s.length : Int) := by omega
    have h2' : (100 : Int) < (len : Int) := by omega
    clear h
    go_enter Try.func9, Try.ntmps9
    go_wp2_with fail
    refine (HAW.out _).mono ?_
    rintro e w1 ⟨rfl, hb⟩
    go_wp2_with fail
    go_ret
    exact ⟨rfl, hb⟩
theorem back_none (id : Int) (i0 : 0 ≤ id) (i1 : id < 4294967296) (a : Option Addr) (len cap : Nat) (h : ¬ 100 < len) (w : World) : Calls Try.prog 9 #[.int .u32 id, Str [], .slice a len cap] w fun e w' => e = .returned (.bool true) ∧ Below w.heap.size w w' := by
  have HAW := Lib.hid fun w => awake49_ok w
  have HA : Hid (∀ w', Calls Try.prog 33 #[.int .u32 id, Str [], .int .i64 7] w' fun e w'' => e = .returned (.tuple #[.slice none 0 0, .int .i64 3]) ∧ w' = w'') := Lib.hid fun w' => fcut_bad id [] 7 (by decide) (by decide) w'
  have h2' : ¬ (100 : Int) < (len : Int) := by omega
  clear h
  go_enter Try.func9, Try.ntmps9
  go_wp2_with fail
  refine (HA.out w).mono ?_
  rintro e w1 ⟨rfl, rfl⟩
  go_wp2_with fail
  refine (fnew_ok 1 (by decide) (by decide) w).mono ?_
  rintro e w2 ⟨rfl, _, hb⟩
  have HB := Lib.hid hb
  clear hb
  go_wp2_with fail
  refine (HAW.out _).mono ?_
  rintro e w3 ⟨rfl, hb⟩
  have HB3 := Lib.hid (Below.chain hb HB.out)
  clear hb
  go_wp2_with fail
  go_ret
  exact ⟨rfl, HB3.out⟩
theorem parts_at {B : Nat} {w : World} {v : Value} {id : Int} {s : List UInt8} {N : Nat} (h : SlAt B w 9 v ((partsF id s 7 N N).map Str)) (h1 : 0 < N) : ∃ g off cap, v = .slice (some ⟨g, off, none⟩) N cap ∧ N ≤ 9223372036854775807 := by
  obtain ⟨a, cap, hv, hm, hat⟩ := strs_at h
  rw [partsF_len] at hv hm
  obtain ⟨g, off, rfl, _⟩ := hat 0 (by rw [partsF_len]; exact h1)
  exact ⟨g, off, cap, hv, hm⟩
theorem parts_get {B : Nat} {w : World} {g off cap : Nat} {id : Int} {s : List UInt8} {N : Nat} (h : SlAt B w 9 (.slice (some ⟨g, off, none⟩) N cap) ((partsF id s 7 N N).map Str)) (k : Nat) (hk : k < N) : w.cell? ⟨g, off + k, none⟩ = some (Str (partF id s 7 N k)) := by
  obtain ⟨a, cap', hv, hm, hat⟩ := strs_at h
  rw [partsF_len] at hv
  cases hv
  obtain ⟨_, _, e, _, hc⟩ := hat k (by rw [partsF_len]; exact hk)
  cases e
  rw [hc]
  simp [partsF]
theorem back_walk (id : Int) (i0 : 0 ≤ id) (i1 : id < 4294967296) (s : List UInt8) (a : Option Addr) (len cap : Nat) (zs : List Int) (W : World) (hz : IsInts .u8 W a len cap zs) : Calls Try.prog 9 #[.int .u32 id, Str s, .slice a len cap] W fun e w' => e = .returned (.bool true) ∧ Below W.heap.size W w' := by
  by_cases hbig : 60 < s.length ∨ 100 < len
  · exact back_big id s a len cap hbig W
  by_cases hs0 : s = []
  · subst hs0
    exact back_none id i0 i1 a len cap (by omega) W
  have hsl : 0 < s.length := List.length_pos_iff.2 hs0
  have hE : fragE s 7 = 0 := by
    unfold fragE
    rw [if_neg (by decide), if_neg (by simp only [hs0, false_or]; omega)]
  obtain ⟨N, hN⟩ : ∃ N, (s.length + 6) / 7 = N := ⟨_, rfl⟩
  have hT : fragT id s 7 = partsF id s 7 N N := by
    unfold fragT
    rw [if_pos hE]
    show partsF id s 7 ((s.length + 7 - 1) / 7) ((s.length + 7 - 1) / 7) = _
    rw [show s.length + 7 - 1 = s.length + 6 by omega, hN]
  have hN1 : 0 < N := by omega
  have hN2 : N ≤ 9 := by omega
  have hN3 : (N - 1) * 7 < s.length := by omega
  have hN4 : s.length ≤ N * 7 := by omega
  have HA : Hid (∀ w', Calls Try.prog 33 #[.int .u32 id, Str s, .int .i64 7] w' fun e w'' => ∃ v, e = .returned (.tuple #[v, .int .i64 0]) ∧ SlAt 0 w'' 9 v ((partsF id s 7 N N).map Str) ∧ Below w'.heap.size w' w'') := Lib.hid fun w' => by
    have := fcut_any id i0 i1 s 7 (by omega) w'
    rwa [hE, hT] at this
  have HNN : Hid (0 < N ∧ N ≤ 9 ∧ (N - 1) * 7 < s.length ∧ s.length ≤ N * 7 ∧ len ≤ 100) := Lib.hid ⟨hN1, hN2, hN3, hN4, by omega⟩
  have HAW := Lib.hid fun w => awake49_ok w
  have hn1 : ((N : Int) == 0) = false := beq_eq_false_iff_ne.2 (by omega)
  have h1' : ¬ (60 : Int) < (s.length : Int) := by omega
  have h2' : ¬ (100 : Int) < (len : Int) := by omega
  have hL : wrap64 ((len : Int) + (N : Int)) = (len : Int) + (N : Int) := IntWalk.wrap64_in _ (by omega)
  have HI := Lib.hid (And.intro i0 i1)
  have HZ := Lib.hid hz
  clear hbig hs0 hsl hE hT hN hN1 hN2 hN3 hN4 i0 i1 hz
  go_enter Try.func9, Try.ntmps9
  go_wp2_with fail
  refine (HA.out W).mono ?_
  rintro e w1 ⟨v, rfl, hs1, hb1⟩
  have HS1 := Lib.hid hs1
  have HB1 := Lib.hid hb1
  clear hs1 hb1 HA
  go_wp2_with fail
  refine (fnew_ok 1 (by decide) (by decide) w1).mono ?_
  rintro e w2 ⟨rfl, hj, hb⟩
  have HB2 := Lib.hid (Below.chain hb HB1.out)
  have HS2 := Lib.hid (HS1.out.chain hb)
  have hja : JnA W.heap.size w2 (w1.heap.size + 1) w1.heap.size 1 (stB id s N []) := ⟨[], hj, by unfold stB; split <;> rfl, HB1.out.size, by simp, by unfold stB; split <;> simp [stK]⟩
  obtain ⟨g, off, cp, rfl, hmx⟩ := parts_at HS2.out HNN.out.1
  have hC : BkS W (w1.heap.size + 1) w1.heap.size w2.heap.size id s N (.slice (some ⟨g, off, none⟩) N cp) len 0 (List.replicate N false) [] (w2.alloc (.cells (haveB (List.replicate N false) N) 86)) :=
    ⟨Below.chainAlloc HB2.out _, hja.chain (Below.chainAlloc (Below.refl _ _) _), HS2.out.chain (Below.chainAlloc (Below.refl _ _) _), Blk.new _ _ _, Came.nil N, fun j _ h => by omega, HB2.out.size⟩
  rw [haveB_new (by have := HNN.out; omega)] at hC
  have HC := Lib.hid hC
  generalize w1.heap.size + 1 = bj at *
  generalize w1.heap.size = bm at *
  clear hja hj hb hC HS1 HB1 HS2 HB2 hmx
  go_wp2_with fail
  obtain ⟨w3, hw3⟩ : ∃ w3, w2.alloc (.cells #[.bool false, .bool false, .bool false, .bool false, .bool false, .bool false, .bool false, .bool false, .bool false, .bool false, .bool false, .bool false, .bool false, .bool false, .bool false, .bool false, .bool false, .bool false, .bool false, .bool false, .bool false, .bool false, .bool false, .bool false, .bool false, .bool false, .bool false, .bool false, .bool false, .bool false, .bool false, .bool false, .bool false, .bool false, .bool false, .bool false, .bool false, .bool false, .bool false, .bool false, .bool false, .bool false, .bool false, .bool false, .bool false, .bool false, .bool false, .bool false, .bool false, .bool false, .bool false, .bool false, .bool false, .bool false, .bool false, .bool false, .bool false, .bool false, .bool false, .bool false, .bool false, .bool false, .bool false, .bool false] 86) = w3 := ⟨_, rfl⟩
  rw [hw3] at HC ⊢
  clear hw3
  generalize w2.heap.size = bh at *
  go_loopw [12, 13] (fun n i wr => ∃ (k : Nat) (H : List Bool) (ks : List Nat), k ≤ len + N ∧ n = .int .i64 (ks.length : Nat) ∧ i = .int .i64 (k : Nat) ∧ Hid (BkS W bj bm bh id s N (.slice (some ⟨g, off, none⟩) N cp) len k H ks wr)) (fun _ i _ => len + N - (intOf i).toNat)
  case atStart => exact ⟨0, _, [], by omega, rfl, rfl, HC⟩
  case round =>
    obtain ⟨k, H, ks, hk, rfl, rfl, HR⟩ := hrel
    by_cases hlt : k < len + N
    · have hlt' : (k : Int) < (len : Int) + (N : Int) := by omega
      have hkw : wrap64 ((k : Int) + 1) = (k : Int) + 1 := IntWalk.wrap64_in _ (by have := HNN.out; omega)
      have hkl : wrap64 ((k : Int) - (len : Int)) = (k : Int) - (len : Int) := IntWalk.wrap64_in _ (by have := HNN.out; omega)
      by_cases hn : ks.length < N
      · have hn' : (ks.length : Int) < (N : Int) := by omega
        have hnw : wrap64 ((ks.length : Int) + 1) = (ks.length : Int) + 1 := IntWalk.wrap64_in _ (by have := HNN.out; omega)
        have HN := Lib.hid hn
        by_cases hin : k < len
        · have hneg : (k : Int) - (len : Int) < 0 := by omega
          obtain ⟨z1, z2, z3, z4, z5⟩ := HZ.out
          obtain ⟨zb, zo, rfl, hzb, hzc⟩ := z5.resolve_left (by omega)
          have hck := hzc k (by omega)
          have hzr := z4 (zs[k]'(by omega)) (by simp)
          generalize zs[k]'(by omega) = z at hck hzr
          replace hzr : 0 ≤ z ∧ z ≤ 255 := by simpa [Lit.wf, IntKind.min, IntKind.max, IntKind.signed, IntKind.bits] using hzr
          replace hck : wr.cell? ⟨zb, zo + k, none⟩ = some (.int .u8 z) := (HR.out.b.cell (p := ⟨zb, zo + k, none⟩) hzb).trans hck
          obtain ⟨kk, hkk⟩ : ∃ kk : Nat, z.tmod (N : Int) = (kk : Int) := ⟨(z.tmod (N : Int)).toNat, by rw [Int.tmod_eq_emod_of_nonneg hzr.1]; have := Int.emod_nonneg z (show (N : Int) ≠ 0 by omega); omega⟩
          have HKK : Hid (kk < N ∧ (len ≤ k → kk = k - len)) := Lib.hid ⟨by rw [Int.tmod_eq_emod_of_nonneg hzr.1] at hkk; have := Int.emod_lt_of_pos z (show (0 : Int) < (N : Int) by omega); omega, fun h => by omega⟩
          have hzi : IntKind.i64.wrap z = z := IntWalk.i64_in _ (by omega)
          clear z1 z2 z3 z4 z5 hzb hzc hzr hin hlt hn
          have hk0 : (0 : Int) ≤ (kk : Int) := by omega
          have hk1 : (kk : Int) < (N : Int) := by have := HKK.out.1; omega
          have hk64 : (kk : Int) < 64 := by have := HNN.out; omega
          have hkH : kk < H.length := by rw [HR.out.c.l]; exact HKK.out.1
          have hpart := parts_get HR.out.l kk HKK.out.1
          have hcell : wr.cell? ⟨bh, kk, none⟩ = some (.bool H[kk]) := (HR.out.h.facts.1 kk).trans (haveB_at HR.out.c.l HKK.out.1)
          have hfree := HR.out.h.facts.2.1 kk
          have hbl := HR.out.h.lt
          by_cases hm : kk ∈ ks
          · have hH : H[kk] = true := (HR.out.c.m kk hkH).2 hm
            rw [hH] at hcell
            have hnk : nextK ks kk = ks := if_pos hm
            have hw : ¬ ks.length = N := by have := HN.out; omega
            have hwi : decide ((ks.length : Int) = (N : Int)) = false := decide_eq_false (by omega)
            have hwb : ((ks.length : Int) == (N : Int)) = false := beq_eq_false_iff_ne.2 (by omega)
            have HP := Lib.hid (back_put HR.out HI.out.1 HI.out.2 (by have := HNN.out; omega) HKK.out.1 HNN.out.2.2.1 HNN.out.2.2.2.1 HN.out HR.out.j HR.out.b HR.out.l HR.out.h (by rw [hnk]; exact HR.out.c) HKK.out.2)
            rw [hnk, if_neg hw, decide_eq_false hw] at HP
            clear hnk hw hkH hm hH
            go_wp2_with fail
            refine HP.out.mono ?_
            rintro x w4 ⟨rfl, hB⟩
            have HB4 := Lib.hid hB
            clear hB HP hcell hfree hpart
            go_wp2_with fail
            go_roundw
            case measure => simp [intOf]; omega
            case rel => exact ⟨k + 1, H, ks, by omega, by go_num, by go_num, HB4⟩
          · have hH : H[kk] = false := by
              cases hb : H[kk] with
              | false => rfl
              | true => exact absurd ((HR.out.c.m kk hkH).1 hb) hm
            rw [hH] at hcell
            have hnk : nextK ks kk = ks ++ [kk] := if_neg hm
            have hnl : (ks ++ [kk]).length = ks.length + 1 := by simp
            obtain ⟨m1, m2, m3, m4⟩ := HR.out.mark HKK.out.1
            have HP := Lib.hid (back_put HR.out HI.out.1 HI.out.2 (by have := HNN.out; omega) HKK.out.1 HNN.out.2.2.1 HNN.out.2.2.2.1 HN.out m1 m2 m3 m4 (by rw [hnk]; exact HR.out.c.add HKK.out.1 hm) HKK.out.2)
            have hpart2 := parts_get m3 kk HKK.out.1
            clear m1 m2 m3 m4 hkH hm hH
            by_cases hw : ks.length + 1 = N
            · have hwi : decide ((ks.length : Int) + 1 = (N : Int)) = true := decide_eq_true (by omega)
              have hwb : ((ks.length : Int) + 1 == (N : Int)) = true := beq_iff_eq.2 (by omega)
              rw [hnk, if_pos (by omega), decide_eq_true (by omega)] at HP
              clear hw
              go_wp2_with fail
              refine HP.out.mono ?_
              rintro x w4 ⟨rfl, hB⟩
              have HB4 := Lib.hid hB
              clear hB HP hcell hfree hpart hpart2
              go_wp2_with fail
              go_roundw
              case measure => simp [intOf]; omega
              case rel => exact ⟨k + 1, H.set kk true, ks ++ [kk], by omega, by rw [hnl]; go_num, by go_num, HB4⟩
            · have hwi : decide ((ks.length : Int) + 1 = (N : Int)) = false := decide_eq_false (by omega)
              have hwb : ((ks.length : Int) + 1 == (N : Int)) = false := beq_eq_false_iff_ne.2 (by omega)
              rw [hnk, if_neg (by omega), decide_eq_false (by omega)] at HP
              clear hw
              go_wp2_with fail
              refine HP.out.mono ?_
              rintro x w4 ⟨rfl, hB⟩
              have HB4 := Lib.hid hB
              clear hB HP hcell hfree hpart hpart2
              go_wp2_with fail
              go_roundw
              case measure => simp [intOf]; omega
              case rel => exact ⟨k + 1, H.set kk true, ks ++ [kk], by omega, by rw [hnl]; go_num, by go_num, HB4⟩
        · have hneg : ¬ (k : Int) - (len : Int) < 0 := by omega
          obtain ⟨kk, hkk0⟩ : ∃ kk : Nat, k - len = kk := ⟨_, rfl⟩
          have hkk : (k : Int) - (len : Int) = (kk : Int) := by omega
          have HKK : Hid (kk < N ∧ (len ≤ k → kk = k - len)) := Lib.hid ⟨by omega, fun h => by omega⟩
          clear hin hlt hn hkk0
          have hk0 : (0 : Int) ≤ (kk : Int) := by omega
          have hk1 : (kk : Int) < (N : Int) := by have := HKK.out.1; omega
          have hk64 : (kk : Int) < 64 := by have := HNN.out; omega
          have hkH : kk < H.length := by rw [HR.out.c.l]; exact HKK.out.1
          have hpart := parts_get HR.out.l kk HKK.out.1
          have hcell : wr.cell? ⟨bh, kk, none⟩ = some (.bool H[kk]) := (HR.out.h.facts.1 kk).trans (haveB_at HR.out.c.l HKK.out.1)
          have hfree := HR.out.h.facts.2.1 kk
          have hbl := HR.out.h.lt
          by_cases hm : kk ∈ ks
          · have hH : H[kk] = true := (HR.out.c.m kk hkH).2 hm
            rw [hH] at hcell
            have hnk : nextK ks kk = ks := if_pos hm
            have hw : ¬ ks.length = N := by have := HN.out; omega
            have hwi : decide ((ks.length : Int) = (N : Int)) = false := decide_eq_false (by omega)
            have hwb : ((ks.length : Int) == (N : Int)) = false := beq_eq_false_iff_ne.2 (by omega)
            have HP := Lib.hid (back_put HR.out HI.out.1 HI.out.2 (by have := HNN.out; omega) HKK.out.1 HNN.out.2.2.1 HNN.out.2.2.2.1 HN.out HR.out.j HR.out.b HR.out.l HR.out.h (by rw [hnk]; exact HR.out.c) HKK.out.2)
            rw [hnk, if_neg hw, decide_eq_false hw] at HP
            clear hnk hw hkH hm hH
            go_wp2_with fail
            refine HP.out.mono ?_
            rintro x w4 ⟨rfl, hB⟩
            have HB4 := Lib.hid hB
            clear hB HP hcell hfree hpart
            go_wp2_with fail
            go_roundw
            case measure => simp [intOf]; omega
            case rel => exact ⟨k + 1, H, ks, by omega, by go_num, by go_num, HB4⟩
          · have hH : H[kk] = false := by
              cases hb : H[kk] with
              | false => rfl
              | true => exact absurd ((HR.out.c.m kk hkH).1 hb) hm
            rw [hH] at hcell
            have hnk : nextK ks kk = ks ++ [kk] := if_neg hm
            have hnl : (ks ++ [kk]).length = ks.length + 1 := by simp
            obtain ⟨m1, m2, m3, m4⟩ := HR.out.mark HKK.out.1
            have HP := Lib.hid (back_put HR.out HI.out.1 HI.out.2 (by have := HNN.out; omega) HKK.out.1 HNN.out.2.2.1 HNN.out.2.2.2.1 HN.out m1 m2 m3 m4 (by rw [hnk]; exact HR.out.c.add HKK.out.1 hm) HKK.out.2)
            have hpart2 := parts_get m3 kk HKK.out.1
            clear m1 m2 m3 m4 hkH hm hH
            by_cases hw : ks.length + 1 = N
            · have hwi : decide ((ks.length : Int) + 1 = (N : Int)) = true := decide_eq_true (by omega)
              have hwb : ((ks.length : Int) + 1 == (N : Int)) = true := beq_iff_eq.2 (by omega)
              rw [hnk, if_pos (by omega), decide_eq_true (by omega)] at HP
              clear hw
              go_wp2_with fail
              refine HP.out.mono ?_
              rintro x w4 ⟨rfl, hB⟩
              have HB4 := Lib.hid hB
              clear hB HP hcell hfree hpart hpart2
              go_wp2_with fail
              go_roundw
              case measure => simp [intOf]; omega
              case rel => exact ⟨k + 1, H.set kk true, ks ++ [kk], by omega, by rw [hnl]; go_num, by go_num, HB4⟩
            · have hwi : decide ((ks.length : Int) + 1 = (N : Int)) = false := decide_eq_false (by omega)
              have hwb : ((ks.length : Int) + 1 == (N : Int)) = false := beq_eq_false_iff_ne.2 (by omega)
              rw [hnk, if_neg (by omega), decide_eq_false (by omega)] at HP
              clear hw
              go_wp2_with fail
              refine HP.out.mono ?_
              rintro x w4 ⟨rfl, hB⟩
              have HB4 := Lib.hid hB
              clear hB HP hcell hfree hpart hpart2
              go_wp2_with fail
              go_roundw
              case measure => simp [intOf]; omega
              case rel => exact ⟨k + 1, H.set kk true, ks ++ [kk], by omega, by rw [hnl]; go_num, by go_num, HB4⟩
      · have hfull : ks.length = N := by have := HR.out.c.most; omega
        have HL : Hid (Calls Try.prog 39 #[.pointer (some ⟨bj, 0, none⟩)] wr fun e w' => e = .returned (.int .i64 0) ∧ wr = w') := Lib.hid (by
          obtain ⟨es, hj, he, _⟩ := HR.out.j
          have hes : es = [] := by
            unfold stB at he
            rw [if_pos hfull] at he
            exact List.map_eq_nil_iff.1 he
          have := flen_any bj bm 1 es wr hj
          rw [hes] at this
          exact this)
        have HB := Lib.hid HR.out.b
        have hni : (ks.length : Int) = (N : Int) := by omega
        have hn2 : ¬ (N : Int) < (N : Int) := by omega
        rw [hni]
        clear hn hlt
        go_wp2_with fail
        refine HL.out.mono ?_
        rintro x w4 ⟨rfl, rfl⟩
        go_wp2_with fail
        refine (HAW.out _).mono ?_
        rintro x w5 ⟨rfl, hb⟩
        have HB5 := Lib.hid (Below.chain hb HB.out)
        clear hb
        go_wp2_with fail
        go_ret
        exact ⟨rfl, HB5.out⟩
    · have hfull : ks.length = N := HR.out.c.full (fun j hj => HR.out.a j hj (by omega))
      have hlt' : ¬ (k : Int) < (len : Int) + (N : Int) := by omega
      have HL : Hid (Calls Try.prog 39 #[.pointer (some ⟨bj, 0, none⟩)] wr fun e w' => e = .returned (.int .i64 0) ∧ wr = w') := Lib.hid (by
        obtain ⟨es, hj, he, _⟩ := HR.out.j
        have hes : es = [] := by
          unfold stB at he
          rw [if_pos hfull] at he
          exact List.map_eq_nil_iff.1 he
        have := flen_any bj bm 1 es wr hj
        rw [hes] at this
        exact this)
      have HB := Lib.hid HR.out.b
      have hni : (ks.length : Int) = (N : Int) := by omega
      have hn2 : ¬ (N : Int) < (N : Int) := by omega
      rw [hni]
      clear hlt
      go_wp2_with fail
      refine HL.out.mono ?_
      rintro x w4 ⟨rfl, rfl⟩
      go_wp2_with fail
      refine (HAW.out _).mono ?_
      rintro x w5 ⟨rfl, hb⟩
      have HB5 := Lib.hid (Below.chain hb HB.out)
      clear hb
      go_wp2_with fail
      go_ret
      exact ⟨rfl, HB5.out⟩
namespace fragBack
theorem own : ownKnob Try.prog.godebug = none := by kernel_rfl
theorem laidOut : laidOutB Try.prog = true := by kernel_rfl
set_option maxRecDepth 100000 in
theorem lifted (os : Os) (started : os.Started) (H : Type) (enc : TypeId × Value → H) :
    ReturnsInHanded {} Try.checked os 9 .any (Rows.fragBackSpec.pre6 enc Try.prog Try.f9 Rows.fragBackRow.domain false) (Rows.fragBackSpec.post enc Try.prog Try.f9 false true false false) := by
  refine law_lift (C := Try.checked) (tb := 4) own started (by kernel_rfl) Try.func9 laidOut rfl Try.underlying4 rfl (by kernel_rfl) (fun ds h => by match ds, h with | [d1, d2, d3], _ => rfl)
    (ChangeSpec.witness6 (enc := enc) (C := Try.checked) false ⟨#[], #[.int .u32 0, .string ⟨#[]⟩, .slice none 0 0], []⟩ 8 (by kernel_rfl) (by kernel_rfl) (by kernel_rfl) (by kernel_rfl)) ?_
  intro W base args ds ps hval hA
  rw [Try.params9] at hA hval
  obtain ⟨v0, v1, v2, d0, d1, d2, p0, p1, p2, rfl, rfl, rfl, h0, h1, h2⟩ := trodAll_three hA
  obtain ⟨n, rfl, rfl, rfl, wn⟩ := open_int Try.underlying53 (hval 0 53 v0 rfl rfl) h0
  replace wn := by simpa [Lit.wf, IntKind.min, IntKind.max, IntKind.signed, IntKind.bits] using wn
  obtain ⟨s, rfl, rfl, rfl, ws⟩ := Go.ChangeMaps.open_string Try.underlying9 (hval 1 9 v1 rfl rfl) h1
  obtain ⟨s, rfl⟩ := str_list s
  replace ws := str_len ws
  obtain ⟨al, nl, cl, rfl⟩ := okWide_slice Try.underlying44 (hval 2 44 v2 rfl rfl)
  obtain ⟨l, wl⟩ := open_intsl (k := .u8) Try.underlying44 Try.underlying5 (by kernel_rfl) h2
  exact back_walk n (by omega) (by omega) s al nl cl l W wl
theorem proved : Rows.FragBackSaid :=
  OpenClaim.holds_of_wide 9 Try.f9 rfl rfl rfl rfl rfl rfl rfl ⟨rfl, rfl, rfl, rfl, rfl⟩ rfl rfl rfl rfl rfl (by kernel_rfl) Try.func9 (by kernel_rfl)
    (of_decide_eq_true (by kernel_rfl)) (by unfold Func.isWrapper; first | (rw [if_pos (by decide +kernel)]; kernel_rfl) | (rw [if_neg (by decide +kernel)]; exact ⟨rfl, rfl⟩))
    (fun os started H enc _ => lifted os started H enc)
end fragBack
#print axioms fragBack.proved
end Go.Proofs.Ytgfbhclkpephnaa
