/-
  Blocks out of shards: the law of a text's shards: its walk (chapter 20).
-/
import Derived.Test.YtelpkddgcmikfaaDoorDec8
import Derived.Test.YtelpkddgcmikfaaDoorDec9
namespace Go.Proofs.YtelpkddgcmikfaaDoor
open Go.RowKit
set_option linter.unusedVariables false
set_option maxRecDepth 100000
set_option maxHeartbeats 1000000
theorem decsh_walk (s : List UInt8) (k rep : Int) (hs : s.length ≤ 9223372036854775807) (hk : -9223372036854775808 ≤ k ∧ k ≤ 9223372036854775807) (hr : -9223372036854775808 ≤ rep ∧ rep ≤ 9223372036854775807) (w : World) :
    Calls Tryd.prog 4 #[Str s, .int .i64 k, .int .i64 rep] w fun e w' => e = .returned (.bool true) ∧ Below w.heap.size w w' := by
  by_cases hm : (400 : Int) < (s.length : Int) ∧ (s.length : Int) ≤ 32768
  · obtain ⟨h1, h2⟩ := hm
    go_enter Tryd.func4, Tryd.ntmps4
    go_wp2_with fail
    refine (awake20 _).mono ?_
    rintro e w1 ⟨rfl, hb1⟩
    go_wp2_with fail
    go_ret
    exact ⟨rfl, hb1⟩
  · have H1 := Lib.hid (shards_any s k rep hs hk hr w)
    have H2 := Lib.hid (fun w' => rshards_any s k rep hs hk hr w')
    unfold ShPost at H1 H2
    have HT : Hid (textsB (shT s k rep) (shT s k rep) = true) := Lib.hid (decide_eq_true rfl)
    generalize shT s k rep = T at *
    generalize shE s k rep = E at *
    generalize (if E = 0 then shM s k else 0) = M at *
    have main : ((400 : Int) < (s.length : Int) → ¬ (s.length : Int) ≤ 32768) := fun h1 h2 => hm ⟨h1, h2⟩
    clear hm
    by_cases h1 : (400 : Int) < (s.length : Int)
    all_goals
      first
        | (have h2 := main h1
           clear main)
        | clear main
      go_enter Tryd.func4, Tryd.ntmps4
      go_wp2_with fail
      refine H1.out.mono ?_
      rintro e w1 ⟨v1, rfl, hv1, hb1⟩
      have HV1 := Lib.hid hv1
      obtain ⟨a1, c1, rfl, _⟩ := strs_at hv1
      have HB1 := Lib.hid hb1
      clear hv1 hb1
      go_wp2_with fail
      refine (H2.out _).mono ?_
      rintro e w2 ⟨v2, rfl, hv2, hb2⟩
      have HTX := Lib.hid (texts_c w2 (HV1.out.chain hb2) hv2)
      obtain ⟨a2, c2, rfl, _⟩ := strs_at hv2
      have HB2 := Lib.hid (Below.chain hb2 HB1.out)
      rw [HT.out] at HTX
      clear hv2 hb2
      go_wp2_with fail
      refine HTX.out.mono ?_
      rintro e w3 ⟨rfl, hd3⟩
      have HB3 := Lib.hid (Below.chain hd3.below HB2.out)
      clear hd3
      go_wp2_with fail
      refine (awake20 _).mono ?_
      rintro e w4 ⟨rfl, hb4⟩
      have hB := Below.chain hb4 HB3.out
      clear hb4
      go_wp2_with fail
      go_ret
      exact ⟨rfl, hB⟩
end Go.Proofs.YtelpkddgcmikfaaDoor
