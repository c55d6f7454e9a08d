/-
  The laws CookieSums and CookieGood return true for every input. No condition.
-/
import Derived.Test.YtonafnhgpngfpaaCookie
import Derived.Test.YtonafnhgpngfpaaLift3
namespace Go.Proofs.Ytonafnhgpngfpaa
open Go.RowKit Go.ChangeShapes Go.WideShapes
set_option linter.unusedVariables false
set_option maxRecDepth 100000
set_option maxHeartbeats 2000000
theorem awake50 (w : World) : Calls Try.prog 44 #[] w fun e w' => e = .returned (.bool true) ∧ Below w.heap.size w w' := by
  have hm : (mkC [107] [97, 108] 5).length = 12 := mkC_length _ _ _
  have hmk := make_ok [107] [97, 108] (by decide) (by decide) 5 (by decide) (by decide)
  have hs := sum_any [] [] (by decide) (by decide)
  have hr := rsum_any seed [0] (by decide)
  have he : sumK [] [] = sumF seed [0] := rfl
  have h4 : (mkC [107] [97, 108] 5).take 4 = be 5 4 := by unfold mkC; simp [be_length]
  have h5 : unbe (be 5 4) = 5 := by decide
  have hg1 : goodB [107] [97, 108] 9 4 (mkC [107] [97, 108] 5) = true := by
    unfold goodB
    rw [hm, h4, h5]
    simp
  have hg2 : goodB [107] [97, 108] 10 4 (mkC [107] [97, 108] 5) = false := by
    unfold goodB
    rw [hm, h4, h5]
    simp
  have hg4 : goodB [107] [97, 108] 4 4 (mkC [107] [97, 108] 5) = false := by
    unfold goodB
    rw [hm, h4, h5]
    simp
  have hg3 : goodB [107] [98, 111] 9 4 (mkC [107] [97, 108] 5) = false := by
    unfold goodB
    rw [h4, h5]
    have : (mkC [107] [97, 108] 5 == mkC [107] [98, 111] 5) = false := by decide +kernel
    rw [this]
    simp
  have HG1 := Lib.hid hg1
  have HG2 := Lib.hid hg2
  have HG3 := Lib.hid hg3
  have HG4 := Lib.hid hg4
  have HS := Lib.hid hs
  have HR := Lib.hid hr
  rw [he] at HS
  generalize sumF seed [0] = y at *
  have HMK := Lib.hid hmk
  clear hmk hs hr he h4 h5 hg1 hg2 hg3 hg4
  generalize mkC [107] [97, 108] 5 = m at *
  have HM := Lib.hid hm
  clear hm
  have hm : m.length = 12 := HM.out
  go_enter Try.func44, Try.ntmps44
  go_wp2_with fail
  refine (HMK.out _).mono ?_
  rintro z w1 ⟨rfl, hb⟩
  have hB := hb
  clear hb
  go_wp2_with fail
  refine (make_no [107] [97, 108] (-1) (by decide) _).mono ?_
  rintro z w2 ⟨rfl, rfl⟩
  go_wp2_with fail
  refine (HS.out _).mono ?_
  rintro z w2 ⟨rfl, rfl⟩
  go_wp2_with fail
  refine (HR.out _).mono ?_
  rintro z w2 ⟨rfl, rfl⟩
  go_wp2_with fail
  refine (good_any [107] [97, 108] (by decide) (by decide) 9 4 (by decide) (by decide) (by decide) (by decide) m HM.out _).mono ?_
  rw [HG1.out]
  rintro z w2 ⟨rfl, hb⟩
  replace hB := Below.chain hb hB
  clear hb
  go_wp2_with fail
  refine (good_any [107] [97, 108] (by decide) (by decide) 10 4 (by decide) (by decide) (by decide) (by decide) m HM.out _).mono ?_
  rw [HG2.out]
  rintro z w3 ⟨rfl, hb⟩
  replace hB := Below.chain hb hB
  clear hb
  go_wp2_with fail
  refine (good_any [107] [98, 111] (by decide) (by decide) 9 4 (by decide) (by decide) (by decide) (by decide) m HM.out _).mono ?_
  rw [HG3.out]
  rintro z w4 ⟨rfl, hb⟩
  replace hB := Below.chain hb hB
  clear hb
  go_wp2_with fail
  refine (good_any [107] [97, 108] (by decide) (by decide) 4 4 (by decide) (by decide) (by decide) (by decide) m HM.out _).mono ?_
  rw [HG4.out]
  rintro z w5 ⟨rfl, hb⟩
  replace hB := Below.chain hb hB
  clear hb
  go_wp2_with fail
  go_ret
  exact ⟨rfl, hB⟩
theorem walkSums (key s : List UInt8) (hk : key.length ≤ 9223372036854775807) (hs : s.length ≤ 9223372036854775807) (w : World) :
    Calls Try.prog 9 #[Str key, Str s] w fun e w' => e = .returned (.bool true) ∧ Below w.heap.size w w' := by
  by_cases h : 300 < key.length ∨ 300 < s.length
  · by_cases h1 : 300 < key.length
    · have h2 : (300 : Int) < (key.length : Int) := by omega
      clear h
      go_enter Try.func9, Try.ntmps9
      go_wp2_with fail
      refine (awake50 _).mono ?_
      rintro z w5 ⟨rfl, hb⟩
      go_wp2_with fail
      go_ret
      exact ⟨rfl, hb⟩
    · have h2 : ¬ (300 : Int) < (key.length : Int) := by omega
      have h3 : (300 : Int) < (s.length : Int) := by omega
      clear h
      go_enter Try.func9, Try.ntmps9
      go_wp2_with fail
      refine (awake50 _).mono ?_
      rintro z w5 ⟨rfl, hb⟩
      go_wp2_with fail
      go_ret
      exact ⟨rfl, hb⟩
  · have h2 : ¬ (300 : Int) < (key.length : Int) := by omega
    have h3 : ¬ (300 : Int) < (s.length : Int) := by omega
    clear h
    have hr1 := rsum_any seed key hk
    have hsum := sum_any key s hk hs
    unfold sumK at hsum
    generalize sumF seed key = x1 at *
    have hr2 := rsum_any x1 [0] (by decide)
    generalize sumF x1 [0] = x2 at *
    have hr3 := rsum_any x2 s hs
    generalize sumF x2 s = x3 at *
    have HR1 := Lib.hid hr1
    have HR2 := Lib.hid hr2
    have HR3 := Lib.hid hr3
    have HS := Lib.hid hsum
    clear hr1 hr2 hr3 hsum
    go_enter Try.func9, Try.ntmps9
    go_wp2_with fail
    refine (HS.out _).mono ?_
    rintro z w2 ⟨rfl, rfl⟩
    go_wp2_with fail
    refine (HR1.out _).mono ?_
    rintro z w2 ⟨rfl, rfl⟩
    go_wp2_with fail
    refine (HR2.out _).mono ?_
    rintro z w2 ⟨rfl, rfl⟩
    go_wp2_with fail
    refine (HR3.out _).mono ?_
    rintro z w2 ⟨rfl, rfl⟩
    go_wp2_with fail
    refine (awake50 _).mono ?_
    rintro z w5 ⟨rfl, hb⟩
    go_wp2_with fail
    go_ret
    exact ⟨rfl, hb⟩
namespace cookieSums
theorem own : ownKnob Try.prog.godebug = none := by kernel_rfl
theorem laidOut : laidOutB Try.prog = true := by kernel_rfl
set_option maxRecDepth 100000 in
theorem lifted (os : Os) (started : os.Started) (H : Type) (enc : TypeId × Value → H) :
    ReturnsInHanded {} Try.checked os 9 .any (Rows.cookieSumsSpec.pre6 enc Try.prog Try.f9 Rows.cookieSumsRow.domain false) (Rows.cookieSumsSpec.post enc Try.prog Try.f9 false true false false) := by
  refine law_lift (C := Try.checked) (tb := 4) own started (by kernel_rfl) Try.func9 laidOut rfl Try.underlying4 rfl (by kernel_rfl) (fun ds h => by match ds, h with | [d1, d2], _ => rfl)
    (ChangeSpec.witness6 (enc := enc) (C := Try.checked) false ⟨#[], #[.string ⟨#[]⟩, .string ⟨#[]⟩], []⟩ 8 (by kernel_rfl) (by kernel_rfl) (by kernel_rfl) (by kernel_rfl)) ?_
  intro W base args ds ps hval hA
  rw [Try.params9] at hA hval
  obtain ⟨v0, v1, d0, d1, p0, p1, rfl, rfl, rfl, h0, h1⟩ := trodAll_two hA
  obtain ⟨key, rfl, rfl, rfl, wkey⟩ := Go.ChangeMaps.open_string Try.underlying9 (hval 0 9 v0 rfl rfl) h0
  obtain ⟨key, rfl⟩ := str_list key
  replace wkey := str_len wkey
  obtain ⟨s, rfl, rfl, rfl, ws⟩ := Go.ChangeMaps.open_string Try.underlying9 (hval 1 9 v1 rfl rfl) h1
  obtain ⟨s, rfl⟩ := str_list s
  replace ws := str_len ws
  exact walkSums key s wkey ws W
theorem proved : Rows.CookieSumsSaid :=
  OpenClaim.holds_of_wide 9 Try.f9 rfl rfl rfl rfl rfl rfl rfl ⟨rfl, rfl, rfl, rfl, rfl⟩ rfl rfl rfl rfl rfl (by kernel_rfl) Try.func9 (by kernel_rfl)
    (of_decide_eq_true (by kernel_rfl)) (by unfold Func.isWrapper; first | (rw [if_pos (by decide +kernel)]; kernel_rfl) | (rw [if_neg (by decide +kernel)]; exact ⟨rfl, rfl⟩))
    (fun os started H enc _ => lifted os started H enc)
end cookieSums
#print axioms cookieSums.proved
end Go.Proofs.Ytonafnhgpngfpaa
