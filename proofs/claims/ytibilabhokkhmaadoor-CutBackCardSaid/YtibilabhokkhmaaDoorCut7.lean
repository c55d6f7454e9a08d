/-
  Cut: the law's examples (chapter 6).
-/
import Derived.Test.YtibilabhokkhmaaDoorCut5
import Derived.Test.YtibilabhokkhmaaDoorCut6
namespace Go.Proofs.YtibilabhokkhmaaDoor
open Go.RowKit
set_option linter.unusedVariables false
set_option maxRecDepth 100000
set_option maxHeartbeats 1000000
theorem awake06 (w : World) : Calls Tryd.prog 6 #[] w fun e w' => e = .returned (.bool true) ∧ Below w.heap.size w w' := by
  have c1 := fun w => Lib.hid (cut_c [97, 98, 99, 100, 101] 2 (by decide) w)
  have c2 := fun w => Lib.hid (cut_c [] 2 (by decide) w)
  have v1 : cutE [97, 98, 99, 100, 101] 2 = 0 ∧ cutT [97, 98, 99, 100, 101] 2 = [[97, 98, 99], [100, 101, 0]] := by decide +kernel
  have v2 : cutE [] 2 = 3 ∧ cutT [] 2 = [] := by decide +kernel
  simp only [v1.1, v1.2] at c1
  simp only [v2.1, v2.2] at c2
  have C1 := Lib.hid c1
  have C2 := Lib.hid c2
  have j1 : joinC [[97, 98, 99], [100, 101, 0]] 5 = ([97, 98, 99, 100, 101], 0) := by decide +kernel
  have j2 : joinC [[97, 98, 99], [100, 101, 0]] 4 = ([], 5) := by decide +kernel
  have j3 : joinC [[97], [98, 99]] 1 = ([], 16) := by decide +kernel
  have J1 := Lib.hid (And.intro j1 (And.intro j2 j3))
  have s1 : sizeC 5 2 = 3 := by decide +kernel
  have s2 : sizeC (-1) 2 = 0 := by decide +kernel
  have S1 := Lib.hid (fun w => by have := (sizes_c 5 2 (by decide) (by decide) w).1; rw [s1] at this; exact this)
  have S2 := Lib.hid (fun w => by have := (sizes_c (-1) 2 (by decide) (by decide) w).1; rw [s2] at this; exact this)
  clear c1 c2 v1 v2 j1 j2 j3 s1 s2
  go_enter Tryd.func6, Tryd.ntmps6
  go_wp2_with fail
  refine (C1.out _).out.mono ?_
  rintro e w1 ⟨v1, rfl, hv1, hb1⟩
  obtain ⟨a1, p1, rfl, _⟩ := strs_at hv1
  have HV1 := Lib.hid hv1
  clear hv1
  go_wp2_with fail
  refine (join_c 0 _ _ 5 _ HV1.out (by decide) (by decide)).mono ?_
  rw [J1.out.1]
  rintro e w2 ⟨rfl, hb2⟩
  have hv2 := HV1.out.chain hb2
  have HV2 := Lib.hid hv2
  have hB2 := Below.chain hb2 hb1
  clear HV1 hb1 hb2 hv2
  go_wp2_with fail
  refine (join_c 0 _ _ 4 _ HV2.out (by decide) (by decide)).mono ?_
  rw [J1.out.2.1]
  rintro e w3 ⟨rfl, hb3⟩
  have HV3 := Lib.hid (HV2.out.chain hb3)
  have hB3 := Below.chain hb3 hB2
  clear HV2 hb3 hB2
  go_wp2_with fail
  refine (C2.out _).out.mono ?_
  rintro e w4 ⟨v4, rfl, hv4, hb4⟩
  obtain ⟨a4, p4, rfl, _⟩ := strs_at hv4
  have HV4 := Lib.hid (HV3.out.chain hb4)
  have hB4 := Below.chain hb4 hB3
  clear HV3 hb4 hB3 hv4
  go_wp2_with fail
  have hl1 : SlAt 0 (w4.alloc (.cells #[.string ⟨#[97]⟩, .string ⟨#[98, 99]⟩] 9)) 9 (.slice (some ⟨w4.heap.size, 0, none⟩) 2 2) ([[97], [98, 99]].map Str) :=
    SlAt.of_blk (vs := [Str [97], Str [98, 99]]) (Blk.new w4 _ _) (Nat.le_refl 2) (by unfold maxLen; omega)
  refine (join_c 0 _ _ 1 _ hl1 (by decide) (by decide)).mono ?_
  rw [J1.out.2.2]
  rintro e w5 ⟨rfl, hb5⟩
  have HV5 := Lib.hid ((HV4.out.alloc _).chain hb5)
  have hB5 := Below.chain hb5 (Below.chainAlloc hB4 _)
  clear HV4 hb5 hB4 hl1
  go_wp2_with fail
  have hl2 : SlAt 0 (w5.alloc (.cells #[.string ⟨#[97, 98, 99]⟩, .string ⟨#[100, 101, 0]⟩] 9)) 9 (.slice (some ⟨w5.heap.size, 0, none⟩) 2 2) ([[97, 98, 99], [100, 101, 0]].map Str) :=
    SlAt.of_blk (vs := [Str [97, 98, 99], Str [100, 101, 0]]) (Blk.new w5 _ _) (Nat.le_refl 2) (by unfold maxLen; omega)
  refine (texts_c _ (HV5.out.alloc _) hl2).mono ?_
  rw [show textsB [[97, 98, 99], [100, 101, 0]] [[97, 98, 99], [100, 101, 0]] = true from by decide +kernel]
  rintro e w6 ⟨rfl, hd6⟩
  have hB6 := Below.chain hd6.below (Below.chainAlloc hB5 _)
  clear HV5 hd6 hB5 hl2
  go_wp2_with fail
  refine (S1.out _).mono ?_
  rintro e w7 ⟨rfl, rfl⟩
  go_wp2_with fail
  refine (S2.out _).mono ?_
  rintro e w8 ⟨rfl, rfl⟩
  go_wp2_with fail
  go_ret
  exact ⟨rfl, hB6⟩
end Go.Proofs.YtibilabhokkhmaaDoor
