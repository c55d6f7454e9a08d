/-
  Scripts: any steps as bytes, the steps of any bytes: as the document says (chapter 33).
-/
import Derived.Test.YtdjjienklfbalaaScs4
namespace Go.Proofs.Ytdjjienklfbalaa
open Go.RowKit
set_option linter.unusedVariables false
set_option maxRecDepth 100000
set_option maxHeartbeats 1000000
open Go.ChangeShapes Go.WideShapes Go.ChangeAt
theorem bytes_walk (a : Option Addr) (len cap : Nat) (ds : List Ac) (s : List UInt8) (hs : s.length ≤ 9223372036854775807) (w : World) (hz : IsRows 8 Ac.vals w a len cap ds) :
    Calls Try.prog 7 #[.slice a len cap, Str s] w fun e w' => e = .returned (.bool true) ∧ Below w.heap.size w w' := by
  have HF := Lib.hid (few_s a len cap ds w hz)
  have HL := Lib.hid (And.intro (putAS_le ds) (rows_len hz).1)
  go_enter Try.func7, Try.ntmps7
  go_wp2_with fail
  refine HF.out.mono ?_
  rintro e w1 ⟨⟨z, rfl⟩, hb⟩
  have hB := hb
  have hz1 := hz.below hb
  clear hb hz HF
  by_cases hfar : z = false ∨ 5000 < s.length
  · rcases hfar with rfl | hfar
    · go_wp2_with fail
      refine (awake33 _).mono ?_
      rintro e wz ⟨rfl, hb⟩
      have hB := Below.chain hb hB
      clear hb
      go_wp2_with fail
      go_ret
      exact ⟨rfl, hB⟩
    · have hd : decide (5000 < (s.length : Int)) = true := by simp; omega
      clear hfar
      cases z
      all_goals
        go_wp2_with fail
        refine (awake33 _).mono ?_
        rintro e wz ⟨rfl, hb⟩
        have hB := Below.chain hb hB
        clear hb
        go_wp2_with fail
        go_ret
        exact ⟨rfl, hB⟩
  · obtain ⟨rfl, hs5⟩ : z = true ∧ s.length ≤ 5000 := by
      cases z
      · exact absurd (.inl rfl) hfar
      · exact ⟨rfl, by omega⟩
    have hd : decide (5000 < (s.length : Int)) = false := by simp; omega
    clear hfar
    have HP := Lib.hid (put_s a len cap ds w1 hz1)
    have HQ := Lib.hid (fun w h => rput_s a len cap ds w h)
    have HR := Lib.hid (fun w => read_2 s hs w)
    have HRs := Lib.hid (fun w => rread_2 s hs w)
    generalize readS s = c at *
    generalize readR s = g at *
    generalize putAS ds = T at *
    generalize putAE ds = E at *
    go_wp2_with fail
    refine HP.out.mono ?_
    rintro e w2 ⟨rfl, hb⟩
    have hz2 := hz1.below hb
    have hB := Below.chain hb hB
    clear hb hz1 HP
    go_wp2_with fail
    refine (HQ.out _ hz2).mono ?_
    rintro e w3 ⟨rfl, hb⟩
    have hB := Below.chain hb hB
    clear hb hz2 HQ
    go_wp2_with fail
    refine (HR.out _).mono ?_
    rintro e w4 ⟨ab, cb, rfl, hb, hrb⟩
    have hB := Below.chain hb hB
    clear hb HR
    go_wp2_with fail
    refine (HRs.out _).mono ?_
    rintro e w5 ⟨ac, cc, rfl, hb, hrc⟩
    have hrb5 := hrb.below hb
    have hB := Below.chain hb hB
    clear hb HRs hrb
    have HSm := Lib.hid (same_s ab ac c.length cb c.length cc c c w5 hrb5 hrc)
    rw [show decide (c = c) = true from decide_eq_true rfl] at HSm
    clear hrb5 hrc
    generalize c.length = nc at *
    go_wp2_with fail
    refine HSm.out.mono ?_
    rintro e w6 ⟨rfl, hb⟩
    have hB := Below.chain hb hB
    clear hb
    go_wp2_with fail
    refine (awake33 _).mono ?_
    rintro e wz ⟨rfl, hb⟩
    have hB := Below.chain hb hB
    clear hb
    go_wp2_with fail
    go_ret
    exact ⟨rfl, hB⟩
namespace scriptBytes
theorem own : ownKnob Try.prog.godebug = none := by kernel_rfl
theorem laidOut : laidOutB Try.prog = true := by kernel_rfl
set_option maxRecDepth 100000 in
theorem lifted (os : Os) (started : os.Started) (H : Type) (enc : TypeId × Value → H) :
    ReturnsInHanded {} Try.checked os 7 .any (Rows.scriptBytesSpec.pre6 enc Try.prog Try.f7 Rows.scriptBytesRow.domain false) (Rows.scriptBytesSpec.post enc Try.prog Try.f7 false true false false) := by
  refine law_lift (C := Try.checked) (tb := 4) own started (by kernel_rfl) Try.func7 laidOut rfl Try.underlying4 rfl (by kernel_rfl) (fun ds h => by match ds, h with | [d1, d2], _ => rfl)
    (ChangeSpec.witness6 (enc := enc) (C := Try.checked) false ⟨#[], #[.slice none 0 0, .string ⟨#[]⟩], []⟩ 8 (by kernel_rfl) (by kernel_rfl) (by kernel_rfl) (by kernel_rfl)) ?_
  intro W base args ds ps hval hA
  rw [Try.params7] at hA hval
  obtain ⟨v0, v1, d0, d1, p0, p1, rfl, rfl, rfl, h0, h1⟩ := trodAll_two hA
  obtain ⟨al, nl, cl, rfl⟩ := okWide_slice Try.underlying68 (hval 0 68 v0 rfl rfl)
  obtain ⟨ds, hds⟩ := open_acts h0
  obtain ⟨s, rfl, rfl, rfl, ws⟩ := Go.ChangeMaps.open_string Try.underlying9 (hval 1 9 v1 rfl rfl) h1
  obtain ⟨s, rfl⟩ := str_list s
  replace ws := str_len ws
  exact bytes_walk al nl cl ds s ws _ hds
theorem proved : Rows.ScriptBytesSaid :=
  OpenClaim.holds_of_wide 7 Try.f7 rfl rfl rfl rfl rfl rfl rfl ⟨rfl, rfl, rfl, rfl, rfl⟩ rfl rfl rfl rfl rfl (by kernel_rfl) Try.func7 (by kernel_rfl)
    (of_decide_eq_true (by kernel_rfl)) (by unfold Func.isWrapper; first | (rw [if_pos (by decide +kernel)]; kernel_rfl) | (rw [if_neg (by decide +kernel)]; exact ⟨rfl, rfl⟩))
    (fun os started H enc _ => lifted os started H enc)
end scriptBytes
#print axioms scriptBytes.proved
end Go.Proofs.Ytdjjienklfbalaa
