/-
  Frag: the example (chapter 49).
-/
import Derived.Test.YtgfbhclkpephnaaFr13
import Derived.Test.YtgfbhclkpephnaaFr3
namespace Go.Proofs.Ytgfbhclkpephnaa
open Go Go.RowKit
set_option linter.unusedVariables false
set_option linter.unusedSimpArgs false
set_option maxRecDepth 100000
set_option maxHeartbeats 2000000
theorem awake49_lists : ∃ P0 P1 A1, fragT 1 [97, 98, 99] 2 = [P0, P1] ∧ P0.length ≤ 1000 ∧ P1.length ≤ 1000 ∧ putA 1 [] P1 = ⟨A1, [], false, 0⟩ ∧ putA 1 A1 P1 = ⟨A1, [], false, 0⟩ ∧ putA 1 A1 [0, 0, 0, 2, 0, 1, 120] = ⟨A1, [], false, 9⟩ ∧ putA 1 A1 P0 = ⟨[], [97, 98, 99], true, 0⟩ ∧ putA 1 [] [97, 98, 99] = ⟨[], [], false, 4⟩ :=
  ⟨[0, 0, 0, 1, 0, 2, 97, 98], [0, 0, 0, 1, 1, 2, 99], [⟨1, 2, [(1, [99])]⟩], by kernel_rfl, by decide, by decide, by kernel_rfl, by kernel_rfl, by kernel_rfl, by kernel_rfl, by kernel_rfl⟩
theorem two_at {B : Nat} {w : World} {g off cap : Nat} {P0 P1 : List UInt8} (h : SlAt B w 9 (.slice (some ⟨g, off, none⟩) 2 cap) ([P0, P1].map Str)) : w.cell? ⟨g, off, none⟩ = some (Str P0) ∧ w.cell? ⟨g, off + 1, none⟩ = some (Str P1) := by
  obtain ⟨a, cap', e, _, hat⟩ := strs_at h
  cases e
  obtain ⟨_, _, e0, _, c0⟩ := hat 0 (by simp)
  cases e0
  obtain ⟨_, _, e1, _, c1⟩ := hat 1 (by simp)
  cases e1
  exact ⟨c0, c1⟩
theorem awake49_ok (w : World) : Calls Try.prog 32 #[] w fun e w' => e = .returned (.bool true) ∧ Below w.heap.size w w' := by
  obtain ⟨P0, P1, A1, hc, l0, l1, h1, h2, h3, h4, h5⟩ := awake49_lists
  have HP : Hid (∀ (s : List UInt8) (R : PutR) (bj bm : Nat) (A : List AE) (w' : World), putA 1 A s = R → s.length ≤ 1000 → JnA w.heap.size w' bj bm 1 A → w.heap.size ≤ w'.heap.size → Calls Try.prog 38 #[.pointer (some ⟨bj, 0, none⟩), Str s] w' (PutPost R w.heap.size w' bj bm 1)) :=
    Lib.hid fun s R bj bm A w' he hs hj hb => he ▸ fput_any s w.heap.size bj bm 1 A w' hj hb hs
  have H1 := Lib.hid h1
  have H2 := Lib.hid h2
  have H3 := Lib.hid h3
  have H4 := Lib.hid h4
  have H5 := Lib.hid h5
  have L0 := Lib.hid l0
  have L1 := Lib.hid l1
  have HC : Hid (∀ w', Calls Try.prog 33 #[.int .u32 1, Str [97, 98, 99], .int .i64 2] w' fun e w'' => ∃ v, e = .returned (.tuple #[v, .int .i64 0]) ∧ SlAt 0 w'' 9 v ([P0, P1].map Str) ∧ Below w'.heap.size w' w'') := Lib.hid fun w' => by
    have := fcut_any 1 (by decide) (by decide) [97, 98, 99] 2 (by decide) w'
    rw [hc] at this
    exact this
  have HC2 : Hid (∀ w', Calls Try.prog 33 #[.int .u32 1, Str [], .int .i64 2] w' fun e w'' => e = .returned (.tuple #[.slice none 0 0, .int .i64 3]) ∧ w' = w'') := Lib.hid fun w' => fcut_bad 1 [] 2 (by decide) (by decide) w'
  clear h1 h2 h3 h4 h5 hc l0 l1
  go_enter Try.func32, Try.ntmps32
  go_wp2_with fail
  refine (HC.out w).mono ?_
  rintro e w1 ⟨v, rfl, hs, hb1⟩
  have HS := Lib.hid hs
  have HB1 := Lib.hid hb1
  clear hs hb1
  go_wp2_with fail
  refine (HC2.out w1).mono ?_
  rintro e w2 ⟨rfl, rfl⟩
  go_wp2_with fail
  refine (fnew_ok 1 (by decide) (by decide) w1).mono ?_
  rintro e w2 ⟨rfl, hj, hb⟩
  have HB2 := Lib.hid (Below.chain hb HB1.out)
  have HS2 := Lib.hid (HS.out.chain hb)
  have hja : JnA w.heap.size w2 (w1.heap.size + 1) w1.heap.size 1 [] := ⟨[], hj, rfl, HB1.out.size, by simp, by simp⟩
  have HJ := Lib.hid hja
  obtain ⟨a, cap, rfl, hmax, hat⟩ := strs_at HS2.out
  obtain ⟨g, off, rfl, hg0, c0⟩ := hat 0 (by simp)
  have HSX : Hid (SlAt 0 w2 9 (.slice (some ⟨g, off, none⟩) 2 cap) ([P0, P1].map Str)) := HS2
  obtain ⟨c0, c1⟩ := two_at HSX.out
  have hl2 : ([P0, P1] : List (List UInt8)).length = 2 := rfl
  rw [hl2]
  generalize w1.heap.size + 1 = bj at *
  generalize w1.heap.size = bm at *
  clear hmax hat hb hj hja HS HB1 HC HC2 hg0 hl2 HS2
  go_wp2_with fail
  refine (HP.out P1 _ bj bm [] w2 H1.out L1.out HJ.out HB2.out.size).mono ?_
  rintro e w3 ⟨rfl, hj, hm⟩
  have HX := Lib.hid (And.intro hj (And.intro (HB2.out.trans (hm.below HB2.out.size)) (hm.sl (Nat.zero_le _) HSX.out)))
  clear hj hm HJ HB2 HSX c0 c1
  have HJ := Lib.hid HX.out.1
  have HB2 := Lib.hid HX.out.2.1
  have HSX := Lib.hid HX.out.2.2
  clear HX
  obtain ⟨c0, c1⟩ := two_at HSX.out
  go_wp2_with fail
  refine (HP.out P1 _ bj bm A1 w3 H2.out L1.out HJ.out HB2.out.size).mono ?_
  rintro e w4 ⟨rfl, hj, hm⟩
  have HX := Lib.hid (And.intro hj (And.intro (HB2.out.trans (hm.below HB2.out.size)) (hm.sl (Nat.zero_le _) HSX.out)))
  clear hj hm HJ HB2 HSX c0 c1
  have HJ := Lib.hid HX.out.1
  have HB2 := Lib.hid HX.out.2.1
  have HSX := Lib.hid HX.out.2.2
  clear HX
  obtain ⟨c0, c1⟩ := two_at HSX.out
  go_wp2_with fail
  refine (HP.out [0, 0, 0, 2, 0, 1, 120] _ bj bm A1 w4 H3.out (by decide) HJ.out HB2.out.size).mono ?_
  rintro e w5 ⟨rfl, hj, hm⟩
  have HX := Lib.hid (And.intro hj (And.intro (HB2.out.trans (hm.below HB2.out.size)) (hm.sl (Nat.zero_le _) HSX.out)))
  clear hj hm HJ HB2 HSX c0 c1
  have HJ := Lib.hid HX.out.1
  have HB2 := Lib.hid HX.out.2.1
  have HSX := Lib.hid HX.out.2.2
  clear HX
  obtain ⟨c0, c1⟩ := two_at HSX.out
  go_wp2_with fail
  refine (HP.out P0 _ bj bm A1 w5 H4.out L0.out HJ.out HB2.out.size).mono ?_
  rintro e w6 ⟨rfl, hj, hm⟩
  have HX := Lib.hid (And.intro hj (And.intro (HB2.out.trans (hm.below HB2.out.size)) (hm.sl (Nat.zero_le _) HSX.out)))
  clear hj hm HJ HB2 HSX c0 c1
  have HJ := Lib.hid HX.out.1
  have HB2 := Lib.hid HX.out.2.1
  have HSX := Lib.hid HX.out.2.2
  clear HX
  obtain ⟨c0, c1⟩ := two_at HSX.out
  go_wp2_with fail
  refine (HP.out [97, 98, 99] _ bj bm [] w6 H5.out (by decide) HJ.out HB2.out.size).mono ?_
  rintro e w7 ⟨rfl, hj, hm⟩
  have HX := Lib.hid (And.intro hj (And.intro (HB2.out.trans (hm.below HB2.out.size)) (hm.sl (Nat.zero_le _) HSX.out)))
  clear hj hm HJ HB2 HSX c0 c1
  have HJ := Lib.hid HX.out.1
  have HB2 := Lib.hid HX.out.2.1
  have HSX := Lib.hid HX.out.2.2
  clear HX
  obtain ⟨c0, c1⟩ := two_at HSX.out
  have HL : Hid (Calls Try.prog 39 #[.pointer (some ⟨bj, 0, none⟩)] w7 fun e w' => e = .returned (.int .i64 0) ∧ w7 = w') := Lib.hid (by
    obtain ⟨es, hj, he, _⟩ := HJ.out
    have hes : es = [] := List.map_eq_nil_iff.1 he
    have := flen_any bj bm 1 es w7 hj
    rw [hes] at this
    exact this)
  clear c0 c1 HSX HJ
  go_wp2_with fail
  refine HL.out.mono ?_
  rintro e w8 ⟨rfl, rfl⟩
  go_wp2_with fail
  go_ret
  exact ⟨rfl, HB2.out⟩
end Go.Proofs.Ytgfbhclkpephnaa
