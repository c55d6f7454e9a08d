/-
  Scripts: steps come back from their bytes, and bytes from their steps (chapter 33).
-/
import Derived.Test.YtdjjienklfbalaaScr9
namespace Go.Proofs.Ytdjjienklfbalaa
open Go.RowKit
set_option linter.unusedVariables false
set_option maxRecDepth 100000
set_option maxHeartbeats 1000000
open Go.ChangeShapes Go.WideShapes Go.ChangeAt
theorem back_walk (a : Option Addr) (len cap : Nat) (ds : List Ac) (s : List UInt8) (hs : s.length ≤ 9223372036854775807) (w : World) (hz : IsRows 8 Ac.vals w a len cap ds) :
    Calls Try.prog 8 #[.slice a len cap, Str s] w fun e w' => e = .returned (.bool true) ∧ Below w.heap.size w w' := by
  have HF := Lib.hid (few_s a len cap ds w hz)
  have HL := Lib.hid (And.intro (putAS_le ds) (rows_len hz).1)
  go_enter Try.func8, Try.ntmps8
  go_wp2_with fail
  refine HF.out.mono ?_
  rintro e w1 ⟨⟨z, rfl⟩, hb⟩
  have hB := hb
  have hz1 := hz.below hb
  clear hb hz HF
  by_cases hfar : z = false ∨ 5000 < s.length
  · rcases hfar with rfl | hfar
    · go_wp2_with fail
      refine (awake33 _).mono ?_
      rintro e wz ⟨rfl, hb⟩
      have hB := Below.chain hb hB
      clear hb
      go_wp2_with fail
      go_ret
      exact ⟨rfl, hB⟩
    · have hd : decide (5000 < (s.length : Int)) = true := by simp; omega
      clear hfar
      cases z
      all_goals
        go_wp2_with fail
        refine (awake33 _).mono ?_
        rintro e wz ⟨rfl, hb⟩
        have hB := Below.chain hb hB
        clear hb
        go_wp2_with fail
        go_ret
        exact ⟨rfl, hB⟩
  · obtain ⟨rfl, hs5⟩ : z = true ∧ s.length ≤ 5000 := by
      cases z
      · exact absurd (.inl rfl) hfar
      · exact ⟨rfl, by omega⟩
    have hd : decide (5000 < (s.length : Int)) = false := by simp; omega
    clear hfar
    have HP := Lib.hid (put_s a len cap ds w1 hz1)
    have HR := Lib.hid (fun w => read_2 (putAS ds) (by have := HL.out.1; omega) w)
    have HRs := Lib.hid (fun w => read_2 s hs w)
    have HPc := Lib.hid (fun a cap w h => put_s a (readS s).length cap (readS s) w h)
    have HB1 := Lib.hid (fun (h : putAE ds = 0) => readA_put h)
    have HB2 := Lib.hid (fun (h : readR s = 0) => put_readA (readR_some h))
    have HSd : Hid (putAE ds = 0 → readR (putAS ds) = 0 ∧ readS (putAS ds) = ds) := Lib.hid (fun h => by
      have e := readA_put h
      unfold readR readS
      rw [e]
      exact ⟨rfl, rfl⟩)
    clear HB1
    generalize readS s = c at *
    generalize readR s = g at *
    generalize readR (putAS ds) = f at *
    generalize readS (putAS ds) = bs at *
    generalize putAS ds = T at *
    generalize putAE ds = E at *
    generalize putAS c = T2 at *
    generalize putAE c = E2 at *
    go_wp2_with fail
    refine HP.out.mono ?_
    rintro e w2 ⟨rfl, hb⟩
    have hz2 := hz1.below hb
    have hB := Below.chain hb hB
    clear hb hz1 HP
    go_wp2_with fail
    refine (HR.out _).mono ?_
    rintro e w3 ⟨ab, cb, rfl, hb, hrb⟩
    have hz3 := hz2.below hb
    have hB := Below.chain hb hB
    clear hb hz2 HR
    go_wp2_with fail
    refine (HRs.out _).mono ?_
    rintro e w4 ⟨ac, cc, rfl, hb, hrc⟩
    have hz4 := hz3.below hb
    have hrb4 := hrb.below hb
    have hB := Below.chain hb hB
    clear hb hz3 HRs hrb
    go_wp2_with fail
    refine (HPc.out _ _ _ hrc).mono ?_
    rintro e w5 ⟨rfl, hb⟩
    have hz5 := hz4.below hb
    have hrb5 := hrb4.below hb
    have hB := Below.chain hb hB
    clear hb hz4 hrb4 HPc hrc
    by_cases hE : E = 0
    · subst hE
      obtain ⟨rfl, rfl⟩ := HSd.out rfl
      have HSm := Lib.hid (same_s ab a bs.length cb len cap bs bs w5 hrb5 hz5)
      rw [show decide (bs = bs) = true from decide_eq_true rfl] at HSm
      clear HSd hrb5 hz5
      by_cases hG : g = 0
      · subst hG
        obtain ⟨rfl, rfl⟩ := HB2.out rfl
        clear HB2
        go_wp2_with fail
        refine HSm.out.mono ?_
        rintro e w6 ⟨rfl, hb⟩
        have hB := Below.chain hb hB
        clear hb
        go_wp2_with fail
        refine (awake33 _).mono ?_
        rintro e wz ⟨rfl, hb⟩
        have hB := Below.chain hb hB
        clear hb
        go_wp2_with fail
        go_ret
        exact ⟨rfl, hB⟩
      · have hG' : (g != 0) = true := by simpa using hG
        clear HB2 hG
        go_wp2_with fail
        refine HSm.out.mono ?_
        rintro e w6 ⟨rfl, hb⟩
        have hB := Below.chain hb hB
        clear hb
        go_wp2_with fail
        refine (awake33 _).mono ?_
        rintro e wz ⟨rfl, hb⟩
        have hB := Below.chain hb hB
        clear hb
        go_wp2_with fail
        go_ret
        exact ⟨rfl, hB⟩
    · have hE' : (E != 0) = true := by simpa using hE
      clear HSd hE hrb5 hz5
      by_cases hG : g = 0
      · subst hG
        obtain ⟨rfl, rfl⟩ := HB2.out rfl
        clear HB2
        go_wp2_with fail
        refine (awake33 _).mono ?_
        rintro e wz ⟨rfl, hb⟩
        have hB := Below.chain hb hB
        clear hb
        go_wp2_with fail
        go_ret
        exact ⟨rfl, hB⟩
      · have hG' : (g != 0) = true := by simpa using hG
        clear HB2 hG
        go_wp2_with fail
        refine (awake33 _).mono ?_
        rintro e wz ⟨rfl, hb⟩
        have hB := Below.chain hb hB
        clear hb
        go_wp2_with fail
        go_ret
        exact ⟨rfl, hB⟩
namespace scriptBack
theorem own : ownKnob Try.prog.godebug = none := by kernel_rfl
theorem laidOut : laidOutB Try.prog = true := by kernel_rfl
set_option maxRecDepth 100000 in
theorem lifted (os : Os) (started : os.Started) (H : Type) (enc : TypeId × Value → H) :
    ReturnsInHanded {} Try.checked os 8 .any (Rows.scriptBackSpec.pre6 enc Try.prog Try.f8 Rows.scriptBackRow.domain false) (Rows.scriptBackSpec.post enc Try.prog Try.f8 false true false false) := by
  refine law_lift (C := Try.checked) (tb := 4) own started (by kernel_rfl) Try.func8 laidOut rfl Try.underlying4 rfl (by kernel_rfl) (fun ds h => by match ds, h with | [d1, d2], _ => rfl)
    (ChangeSpec.witness6 (enc := enc) (C := Try.checked) false ⟨#[], #[.slice none 0 0, .string ⟨#[]⟩], []⟩ 8 (by kernel_rfl) (by kernel_rfl) (by kernel_rfl) (by kernel_rfl)) ?_
  intro W base args ds ps hval hA
  rw [Try.params8] at hA hval
  obtain ⟨v0, v1, d0, d1, p0, p1, rfl, rfl, rfl, h0, h1⟩ := trodAll_two hA
  obtain ⟨al, nl, cl, rfl⟩ := okWide_slice Try.underlying68 (hval 0 68 v0 rfl rfl)
  obtain ⟨ds, hds⟩ := open_acts h0
  obtain ⟨s, rfl, rfl, rfl, ws⟩ := Go.ChangeMaps.open_string Try.underlying9 (hval 1 9 v1 rfl rfl) h1
  obtain ⟨s, rfl⟩ := str_list s
  replace ws := str_len ws
  exact back_walk al nl cl ds s ws _ hds
theorem proved : Rows.ScriptBackSaid :=
  OpenClaim.holds_of_wide 8 Try.f8 rfl rfl rfl rfl rfl rfl rfl ⟨rfl, rfl, rfl, rfl, rfl⟩ rfl rfl rfl rfl rfl (by kernel_rfl) Try.func8 (by kernel_rfl)
    (of_decide_eq_true (by kernel_rfl)) (by unfold Func.isWrapper; first | (rw [if_pos (by decide +kernel)]; kernel_rfl) | (rw [if_neg (by decide +kernel)]; exact ⟨rfl, rfl⟩))
    (fun os started H enc _ => lifted os started H enc)
end scriptBack
#print axioms scriptBack.proved
end Go.Proofs.Ytdjjienklfbalaa
