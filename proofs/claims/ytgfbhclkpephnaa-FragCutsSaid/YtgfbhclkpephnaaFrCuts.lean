/-
  The law FragCuts returns true for every id, text and size. No condition.
-/
import Derived.Test.YtgfbhclkpephnaaFr14
import Derived.Test.YtgfbhclkpephnaaLift2
import Derived.Test.YtgfbhclkpephnaaChecked
namespace Go.Proofs.Ytgfbhclkpephnaa
open Go.ChangeShapes Go.WideShapes Go.ChangeAt Go.RowKit
set_option linter.unusedVariables false
set_option maxRecDepth 100000
set_option maxHeartbeats 2000000
theorem textsB_self (l : List (List UInt8)) : textsB l l = true := decide_eq_true rfl
theorem cuts_walk (id : Int) (i0 : 0 ≤ id) (i1 : id < 4294967296) (s : List UInt8) (size : Int) (w : World) : Calls Try.prog 7 #[.int .u32 id, Str s, .int .i64 size] w fun e w' => e = .returned (.bool true) ∧ Below w.heap.size w w' := by
  by_cases hl : 3000 < s.length
  · have h1 : (3000 : Int) < (s.length : Int) := by omega
    go_enter Try.func7, Try.ntmps7
    go_wp2_with fail
    refine (awake49_ok w).mono ?_
    rintro e w1 ⟨rfl, hb⟩
    go_wp2_with fail
    go_ret
    exact ⟨rfl, hb⟩
  · have h1 : ¬ (3000 : Int) < (s.length : Int) := by omega
    have HA : Hid (∀ w', Calls Try.prog 33 #[.int .u32 id, Str s, .int .i64 size] w' fun e w'' => ∃ v, e = .returned (.tuple #[v, .int .i64 (fragE s size)]) ∧ SlAt 0 w'' 9 v ((fragT id s size).map Str) ∧ Below w'.heap.size w' w'') := Lib.hid fun w' => fcut_any id i0 i1 s size (by omega) w'
    have HB : Hid (∀ w', Calls Try.prog 34 #[.int .u32 id, Str s, .int .i64 size] w' fun e w'' => ∃ v, e = .returned (.tuple #[v, .int .i64 (fragE s size)]) ∧ SlAt 0 w'' 9 v ((fragT id s size).map Str) ∧ Below w'.heap.size w' w'') := Lib.hid fun w' => gcut_any id i0 i1 s size (by omega) w'
    generalize fragE s size = E at *
    generalize fragT id s size = T at *
    go_enter Try.func7, Try.ntmps7
    go_wp2_with fail
    refine (HA.out w).mono ?_
    rintro e w1 ⟨v1, rfl, hs1, hb1⟩
    have HS1 := Lib.hid hs1
    have H1 := Lib.hid hb1
    clear hs1 hb1
    go_wp2_with fail
    refine (HB.out w1).mono ?_
    rintro e w2 ⟨v2, rfl, hs2, hb2⟩
    have HS2 := Lib.hid hs2
    have HS1' := Lib.hid (HS1.out.chain hb2)
    have H2 := Lib.hid (Below.chain hb2 H1.out)
    clear hs2 hb2 HA HB HS1
    go_wp2_with fail
    refine (texts_c w2 HS1'.out HS2.out).mono ?_
    rw [textsB_self]
    rintro e w3 ⟨rfl, hd⟩
    have H3 := Lib.hid (Below.chain hd.below H2.out)
    clear hd
    go_wp2_with fail
    refine (awake49_ok w3).mono ?_
    rintro e w4 ⟨rfl, hb⟩
    have H4 := Lib.hid (Below.chain hb H3.out)
    clear hb
    go_wp2_with fail
    go_ret
    exact ⟨rfl, H4.out⟩
namespace fragCuts
theorem own : ownKnob Try.prog.godebug = none := by kernel_rfl
theorem laidOut : laidOutB Try.prog = true := by kernel_rfl
set_option maxRecDepth 100000 in
theorem lifted (os : Os) (started : os.Started) (H : Type) (enc : TypeId × Value → H) :
    ReturnsInHanded {} Try.checked os 7 .any (Rows.fragCutsSpec.pre6 enc Try.prog Try.f7 Rows.fragCutsRow.domain false) (Rows.fragCutsSpec.post enc Try.prog Try.f7 false true false false) := by
  refine law_lift (C := Try.checked) (tb := 4) own started (by kernel_rfl) Try.func7 laidOut rfl Try.underlying4 rfl (by kernel_rfl) (fun ds h => by match ds, h with | [d1, d2, d3], _ => rfl)
    (ChangeSpec.witness6 (enc := enc) (C := Try.checked) false ⟨#[], #[.int .u32 0, .string ⟨#[]⟩, .int .i64 0], []⟩ 8 (by kernel_rfl) (by kernel_rfl) (by kernel_rfl) (by kernel_rfl)) ?_
  intro W base args ds ps hval hA
  rw [Try.params7] at hA hval
  obtain ⟨v0, v1, v2, d0, d1, d2, p0, p1, p2, rfl, rfl, rfl, h0, h1, h2⟩ := trodAll_three hA
  obtain ⟨n, rfl, rfl, rfl, wn⟩ := open_int Try.underlying53 (hval 0 53 v0 rfl rfl) h0
  replace wn := by simpa [Lit.wf, IntKind.min, IntKind.max, IntKind.signed, IntKind.bits] using wn
  obtain ⟨s, rfl, rfl, rfl, ws⟩ := Go.ChangeMaps.open_string Try.underlying9 (hval 1 9 v1 rfl rfl) h1
  obtain ⟨s, rfl⟩ := str_list s
  replace ws := str_len ws
  obtain ⟨size, rfl, rfl, rfl, wsize⟩ := open_int Try.underlying3 (hval 2 3 v2 rfl rfl) h2
  replace wsize := by simpa [Lit.wf, IntKind.min, IntKind.max, IntKind.signed, IntKind.bits] using wsize
  exact cuts_walk n (by omega) (by omega) s size W
theorem proved : Rows.FragCutsSaid :=
  OpenClaim.holds_of_wide 7 Try.f7 rfl rfl rfl rfl rfl rfl rfl ⟨rfl, rfl, rfl, rfl, rfl⟩ rfl rfl rfl rfl rfl (by kernel_rfl) Try.func7 (by kernel_rfl)
    (of_decide_eq_true (by kernel_rfl)) (by unfold Func.isWrapper; first | (rw [if_pos (by decide +kernel)]; kernel_rfl) | (rw [if_neg (by decide +kernel)]; exact ⟨rfl, rfl⟩))
    (fun os started H enc _ => lifted os started H enc)
end fragCuts
#print axioms fragCuts.proved
end Go.Proofs.Ytgfbhclkpephnaa
