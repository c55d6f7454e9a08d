/-
  Blocks out of shards: a text's shards: the program's (chapter 20).
-/
import Derived.Test.YtelpkddgcmikfaaDoorDecP
namespace Go.Proofs.YtelpkddgcmikfaaDoor
open Go.RowKit
set_option linter.unusedVariables false
set_option maxRecDepth 100000
set_option maxHeartbeats 1000000
def ShPost (s : List UInt8) (k rep : Int) (w : World) (e : Ending) (w' : World) : Prop := ∃ v, e = .returned (.tuple #[v, .int .i64 ((if shE s k rep = 0 then shM s k else 0 : Nat) : Int), .int .i64 (shE s k rep)]) ∧ SlAt 0 w' 9 v ((shT s k rep).map Str) ∧ Below w.heap.size w w'
theorem ShPost.no {s : List UInt8} {k rep z : Int} {w w' : World} {e : Ending} (h : shE s k rep = z) (hz : z ≠ 0) (he : e = .returned (.tuple #[.slice none 0 0, .int .i64 0, .int .i64 z])) (hw : w' = w) : ShPost s k rep w e w' := by
  subst he hw
  refine ⟨_, by rw [if_neg (by omega), h]; rfl, ?_, Below.refl _ _⟩
  unfold shT
  rw [if_neg (by omega)]
  exact SlAt.nil _ _ _
theorem ShPost.ok {s : List UInt8} {k rep : Int} {w w' : World} {v : Value} (h : shE s k rep = 0) (hv : SlAt 0 w' 9 v ((encS (cutT s (shM s k : Nat)) ((shM s k : Nat) + rep)).map Str)) (hb : Below w.heap.size w w') : ShPost s k rep w (.returned (.tuple #[v, .int .i64 ((shM s k : Nat) : Int), .int .i64 0])) w' := by
  refine ⟨v, by rw [if_pos h, h], ?_, hb⟩
  unfold shT
  rw [if_pos h]
  exact hv
theorem shards_any (s : List UInt8) (k rep : Int) (hs : s.length ≤ 9223372036854775807) (hk : -9223372036854775808 ≤ k ∧ k ≤ 9223372036854775807) (hr : -9223372036854775808 ≤ rep ∧ rep ≤ 9223372036854775807) (w : World) :
    Calls Tryd.prog 11 #[Str s, .int .i64 k, .int .i64 rep] w (ShPost s k rep w) := by
  by_cases h1 : k < 1 ∨ 32 < k ∨ rep < 0 ∨ 255 - k < rep
  · have e1 : shE s k rep = 1 := by unfold shE; rw [if_pos h1]
    refine Calls.mono (R := fun e w' => e = .returned (.tuple #[.slice none 0 0, .int .i64 0, .int .i64 1]) ∧ w' = w) ?_ (fun e w' h => ShPost.no e1 (by decide) h.1 h.2)
    clear e1
    by_cases c1 : k < 1
    · clear h1
      go_enter Tryd.func11, Tryd.ntmps11
      go_wp2_with fail
      go_ret3
      exact ⟨rfl, rfl⟩
    · by_cases c2 : 32 < k
      · clear h1
        go_enter Tryd.func11, Tryd.ntmps11
        go_wp2_with fail
        go_ret3
        exact ⟨rfl, rfl⟩
      · by_cases c3 : rep < 0
        · clear h1
          go_enter Tryd.func11, Tryd.ntmps11
          go_wp2_with fail
          go_ret3
          exact ⟨rfl, rfl⟩
        · have c4 : 255 - k < rep := by omega
          have c5 : wrap64 (255 - k) = 255 - k := IntWalk.wrap64_in _ (by omega)
          clear h1
          go_enter Tryd.func11, Tryd.ntmps11
          go_wp2_with fail
          go_ret3
          exact ⟨rfl, rfl⟩
  · obtain ⟨K, rfl⟩ : ∃ K : Nat, k = K := ⟨k.toNat, by omega⟩
    obtain ⟨P, rfl⟩ : ∃ P : Nat, rep = P := ⟨rep.toNat, by omega⟩
    have c1 : ¬ (K : Int) < 1 := by omega
    have c2 : ¬ (32 : Int) < (K : Int) := by omega
    have c3 : ¬ (P : Int) < 0 := by omega
    have c4 : ¬ 255 - (K : Int) < (P : Int) := by omega
    have c5 : wrap64 (255 - (K : Int)) = 255 - (K : Int) := IntWalk.wrap64_in _ (by omega)
    have c6 : wrap64 ((K : Int) * 1024) = (K : Int) * 1024 := IntWalk.wrap64_in _ (by omega)
    have c7 : wrap64 (1024 * (K : Int)) = 1024 * (K : Int) := IntWalk.wrap64_in _ (by omega)
    by_cases h2 : s = [] ∨ (K : Int) * 1024 < (s.length : Int)
    · have e1 : shE s K P = 3 := by unfold shE; rw [if_neg h1, if_pos h2]
      refine Calls.mono (R := fun e w' => e = .returned (.tuple #[.slice none 0 0, .int .i64 0, .int .i64 3]) ∧ w' = w) ?_ (fun e w' h => ShPost.no e1 (by decide) h.1 h.2)
      clear e1
      by_cases h3 : s = []
      · subst h3
        clear h1 h2
        go_enter Tryd.func11, Tryd.ntmps11
        go_wp2_with fail
        go_ret3
        exact ⟨rfl, rfl⟩
      · have h4 : s.isEmpty = false := by simpa using h3
        have h6 : 0 < s.length := List.length_pos_iff.2 h3
        have h7 : ¬ (s.length : Int) < 1 := by omega
        have h5 : (K : Int) * 1024 < (s.length : Int) := h2.resolve_left h3
        have h8 : 1024 * (K : Int) < (s.length : Int) := by omega
        clear h1 h2 h3
        go_enter Tryd.func11, Tryd.ntmps11
        go_wp2_with fail
        go_ret3
        exact ⟨rfl, rfl⟩
    · have e1 : shE s K P = 0 := by unfold shE; rw [if_neg h1, if_neg h2]
      have h3 : s ≠ [] := fun e => h2 (.inl e)
      have h4 : s.isEmpty = false := by simpa using h3
      have h6 : 0 < s.length := List.length_pos_iff.2 h3
      have h5 : ¬ (K : Int) * 1024 < (s.length : Int) := fun e => h2 (.inr e)
      have h7 : ¬ (s.length : Int) < 1 := by omega
      have h8 : ¬ 1024 * (K : Int) < (s.length : Int) := by omega
      obtain ⟨q1, q2, q3, q4, q5⟩ := sh_cut e1
      obtain ⟨n, q6, q7, q8, q9, q10⟩ := sh_may e1
      have HOK := Lib.hid (fun (w' : World) (v : Value) (h : SlAt 0 w' 9 v ((encS (cutT s (shM s K : Nat)) ((shM s K : Nat) + P)).map Str)) (hb : Below w.heap.size w w') => ShPost.ok (w := w) e1 h hb)
      have HCUT := Lib.hid (cut_c s (shM s K : Nat) (by omega) w)
      rw [q5] at HCUT
      have HENC := Lib.hid (fun (v : Value) (w' : World) (h : SlAt 0 w' 9 v ((cutT s (shM s K : Nat)).map Str)) => encode_any 0 v _ ((shM s K : Nat) + P) w' h)
      rw [q10] at HENC
      have hmn : shM s K = min K s.length := by unfold shM; simp
      have hsum : ((shM s K : Nat) : Int) + (P : Int) ≤ 1000 := by omega
      have HL6 := Lib.hid (And.intro h6 h3)
      clear h1 h2 e1 h3 q1 q2 q3 q4 q5 q6 q7 q8 q9 q10
      go_enter Tryd.func11, Tryd.ntmps11
      go_upto_region 5 with fail
      go_cut [9] (fun v9 wx => v9 = .int .i64 ((shM s K : Nat) : Int) ∧ wx = w)
      case first =>
        go_wp2_with fail
        all_goals
          go_meet
          refine ⟨?_, rfl⟩
          rw [hmn]
          congr 1
          omega
      case rest =>
        obtain ⟨rfl, rfl⟩ := hcut
        clear hmn
        generalize shM s K = M at *
        generalize cutT s (M : Nat) = CT at *
        go_wp2_with fail
        refine HCUT.out.mono ?_
        rintro e w1 ⟨v1, rfl, hv1, hb1⟩
        have HE1 := Lib.hid (HENC.out _ _ hv1)
        obtain ⟨a1, p1, rfl, _⟩ := strs_at hv1
        have HB1 := Lib.hid hb1
        clear hv1 hb1
        go_wp2_with fail
        refine HE1.out.mono ?_
        rintro e w2 ⟨v2, rfl, hv2, hb2⟩
        have HF := Lib.hid (HOK.out _ _ hv2 (Below.chain hb2 HB1.out))
        obtain ⟨a2, p2, rfl, _⟩ := strs_at hv2
        clear hv2 hb2
        go_wp2_with fail
        go_ret3
        exact HF.out
end Go.Proofs.YtelpkddgcmikfaaDoor
