/-
  A flight that is none (chapter 22).
-/
import Derived.Test.YtgfbhclkpephnaaFl9
namespace Go.Proofs.Ytgfbhclkpephnaa
open Go Go.RowKit Go.Shelf
set_option linter.unusedVariables false
set_option linter.unusedSimpArgs false
set_option maxRecDepth 100000
set_option maxHeartbeats 4000000
theorem fladd_nil (s : List UInt8) (n t : Int) (w : World) : Calls Try.prog 23 #[.pointer none, Str s, .int .i64 n, .int .i64 t] w fun e w' => e = .returned (.tuple #[.int .u32 0, .int .i64 17]) ∧ w' = w := by
  go_enter Try.func23, Try.ntmps23
  go_wp2_with fail
  go_ret2
  exact ⟨rfl, rfl⟩
theorem flfind_nil (x : Int) (w : World) : Calls Try.prog 55 #[.pointer none, .int .u32 x] w fun e w' => e = .returned (.pointer none) ∧ Below w.heap.size w w' := by
  go_enter Try.func55, Try.ntmps55
  go_upto_region 1 with fail
  refine wp_region_quiet_lit (by kernel_rfl) (by kernel_rfl) ?_
  repeat (first | go_big_quiet_step (fail) | quiet_step (fail))
  refine wpQuiet_nil ?_
  intro _ hw'
  obtain ⟨nq, hw''⟩ := hw'
  subst hw''
  have HB := Lib.hid (below_drewN (Below.refl w.heap.size w) nq)
  generalize w.drewN nq = w1 at *
  go_wp2_with fail
  go_ret
  exact ⟨rfl, HB.out⟩
theorem flbody_nil (x : Int) (w : World) : Calls Try.prog 24 #[.pointer none, .int .u32 x] w fun e w' => e = .returned (.tuple #[Str [], .int .i64 0, .bool false]) ∧ Below w.heap.size w w' := by
  have HF := Lib.hid (flfind_nil x w)
  go_enter Try.func24, Try.ntmps24
  go_wp2_with fail
  refine HF.out.mono ?_
  rintro e w1 ⟨rfl, hb⟩
  have HB := Lib.hid hb
  clear hb
  go_wp2_with fail
  exact bodyPost_ret (v := .tuple #[Str [], .int .i64 0, .bool false]) (by simp [results, Try.results24, go_sem]) rfl ⟨rfl, HB.out⟩
theorem flack_nil (x : Int) (w : World) : Calls Try.prog 25 #[.pointer none, .int .u32 x] w fun e w' => e = .returned (.int .i64 0) ∧ w' = w := by
  go_enter Try.func25, Try.ntmps25
  go_wp2_with fail
  go_ret
  exact ⟨rfl, rfl⟩
theorem flwants_nil (x : Int) (s : List UInt8) (n : Int) (w : World) : Calls Try.prog 26 #[.pointer none, .int .u32 x, Str s, .int .i64 n] w fun e w' => e = .returned (.slice none 0 0) ∧ Below w.heap.size w w' := by
  have HF := Lib.hid (flfind_nil x w)
  go_enter Try.func26, Try.ntmps26
  go_wp2_with fail
  refine HF.out.mono ?_
  rintro e w1 ⟨rfl, hb⟩
  have HB := Lib.hid hb
  clear hb
  go_wp2_with fail
  go_ret
  exact ⟨rfl, HB.out⟩
theorem flnext_nil (w : World) : Calls Try.prog 28 #[.pointer none] w fun e w' => e = .returned (.int .u32 0) ∧ w' = w := by
  go_enter Try.func28, Try.ntmps28
  go_wp2_with fail
  go_ret
  exact ⟨rfl, rfl⟩
theorem flbase_nil (w : World) : Calls Try.prog 29 #[.pointer none] w fun e w' => e = .returned (.int .u32 0) ∧ w' = w := by
  go_enter Try.func29, Try.ntmps29
  go_wp2_with fail
  go_ret
  exact ⟨rfl, rfl⟩
theorem fllen_nil (w : World) : Calls Try.prog 30 #[.pointer none] w fun e w' => e = .returned (.int .i64 0) ∧ w' = w := by
  go_enter Try.func30, Try.ntmps30
  go_wp2_with fail
  go_ret
  exact ⟨rfl, rfl⟩
theorem fldue_nil (a b : Int) (w : World) : Calls Try.prog 27 #[.pointer none, .int .i64 a, .int .i64 b] w fun e w' => e = .returned (.slice none 0 0) ∧ Below w.heap.size w w' := by
  have HB := Lib.hid (Below.chainAlloc (Below.chainAlloc (Below.refl _ w) (.cells #[.int .i64 a] 3)) (.cells #[.int .i64 b] 3))
  refine (callsIn_wide (n := 3)).1 ?_
  refine callsIn_of_wp_marks Try.func27 rfl trivial ?_ rfl
  simp only [Try.ntmps27, List.size_toArray, List.length_cons, List.length_nil, Nat.reduceAdd, Nat.reduceSub, Array.replicate_succ, Array.replicate_zero, List.push_toArray, List.append_toArray, List.nil_append, List.cons_append]
  gi_wp2_with fail
  refine ⟨trivial, ?_⟩
  gi_wp2_with fail
  refine ⟨trivial, ?_⟩
  gi_wp2_with fail
  first
    | exact ⟨by simp, _, results_tmp rfl _ _ _, rfl, HB.out⟩
    | exact ⟨_, results_tmp rfl _ _ _, rfl, HB.out⟩
    | exact ⟨_, by simp, results_tmp rfl _ _ _, rfl, HB.out⟩
/-- The deed's cells. -/
def fd22 (k : Int) (bd : List UInt8) (n t x : Int) (hv : List UInt8) : Array Value := #[.int .i64 k, Str bd, .int .i64 n, .int .i64 t, .int .u32 x, Str hv]
theorem flnone_walk (k : Int) (bd : List UInt8) (n t x : Int) (hv : List UInt8) (w : World) : Calls Try.prog 6 #[.agg (fd22 k bd n t x hv)] w fun e w' => e = .returned (.bool true) ∧ Below w.heap.size w w' := by
  have hB := Below.chainAlloc (Below.refl _ w) (.cells #[.int .i64 k, Str bd, .int .i64 n, .int .i64 t, .int .u32 x, Str hv] 55)
  have k0 := Blk.new w #[.int .i64 k, Str bd, .int .i64 n, .int .i64 t, .int .u32 x, Str hv] 55
  have HB := Lib.hid hB
  have HK := Lib.hid k0
  unfold fd22
  clear hB
  have HA := Lib.hid (fun w => fladd_nil bd n t w)
  have HBO := Lib.hid (fun w => flbody_nil x w)
  have HAC := Lib.hid (fun w => flack_nil x w)
  have HWA := Lib.hid (fun w => flwants_nil x hv n w)
  have HDU := Lib.hid (fun w => fldue_nil t n w)
  obtain ⟨x0, _, x2⟩ := k0.facts
  have c1 := x0 1
  have c2 := x0 2
  have c3 := x0 3
  have c4 := x0 4
  have c5 := x0 5
  clear x0 k0
  go_enter Try.func6, Try.ntmps6
  go_wp2_with fail
  refine (HA.out _).mono ?_
  rintro e w1 ⟨rfl, rfl⟩
  go_wp2_with fail
  refine (HBO.out _).mono ?_
  rintro e w2 ⟨rfl, hb⟩
  have HB2 := Lib.hid (Below.chain hb HB.out)
  have HK2 := Lib.hid (HK.out.below hb HK.out.lt)
  clear hb c1 c2 c3 c4 c5 HB HK
  have d2 := HK2.out.facts.1 2
  have d3 := HK2.out.facts.1 3
  have d4 := HK2.out.facts.1 4
  have d5 := HK2.out.facts.1 5
  go_wp2_with fail
  refine (HAC.out _).mono ?_
  rintro e w3 ⟨rfl, rfl⟩
  go_wp2_with fail
  refine (HWA.out _).mono ?_
  rintro e w4 ⟨rfl, hb⟩
  have HB4 := Lib.hid (Below.chain hb HB2.out)
  have HK4 := Lib.hid (HK2.out.below hb HK2.out.lt)
  clear hb d2 d3 d4 d5 HB2 HK2
  have e2 := HK4.out.facts.1 2
  have e3 := HK4.out.facts.1 3
  go_wp2_with fail
  refine (HDU.out _).mono ?_
  rintro e w5 ⟨rfl, hb⟩
  have HB5 := Lib.hid (Below.chain hb HB4.out)
  clear hb e2 e3 HB4 HK4
  go_wp2_with fail
  refine (flnext_nil _).mono ?_
  rintro e w6 ⟨rfl, rfl⟩
  go_wp2_with fail
  refine (flbase_nil _).mono ?_
  rintro e w7 ⟨rfl, rfl⟩
  go_wp2_with fail
  refine (fllen_nil _).mono ?_
  rintro e w8 ⟨rfl, rfl⟩
  go_wp2_with fail
  refine (awake22_ok _).mono ?_
  rintro e w9 ⟨rfl, hb⟩
  have HB9 := Lib.hid (Below.chain hb HB5.out)
  clear hb HB5
  go_wp2_with fail
  go_ret
  exact ⟨rfl, HB9.out⟩
end Go.Proofs.Ytgfbhclkpephnaa
