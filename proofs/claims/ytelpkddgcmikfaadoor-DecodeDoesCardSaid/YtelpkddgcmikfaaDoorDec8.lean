/-
  Blocks out of shards: the law's examples (chapter 20).
-/
import Derived.Test.YtelpkddgcmikfaaDoorDec7
import Derived.Test.YtelpkddgcmikfaaDoorDec5
import Derived.Deep.DeepCutAuto
namespace Go.Proofs.YtelpkddgcmikfaaDoor
open Go Go.RowKit
set_option linter.unusedVariables false
set_option maxRecDepth 100000
set_option maxHeartbeats 4000000
theorem awake20 (w : World) : Calls Tryd.prog 6 #[] w fun e w' => e = .returned (.bool true) ∧ Below w.heap.size w w' := by
  obtain ⟨x2, hx2⟩ : ∃ x2, shT [97, 98] 4 1 = [[97], [98], x2] ∧ doD 2 3 2 [(2, x2), (1, [98])] = ([97, 98], 0) := ⟨(shT [97, 98] 4 1).getD 2 [], by decide +kernel⟩
  have S1 : Hid (shE [97, 98] 4 1 = 0 ∧ shM [97, 98] 4 = 2 ∧ shT [97, 98] 4 1 = [[97], [98], x2]) := Lib.hid ⟨by decide +kernel, by decide +kernel, hx2.1⟩
  have S2 : Hid (shE [] 4 1 = 3 ∧ shT [] 4 1 = []) := Lib.hid (by decide +kernel)
  have D1 : Hid (doD 2 3 2 [(2, x2), (1, [98])] = ([97, 98], 0)) := Lib.hid hx2.2
  have D2 : Hid (doD 2 3 2 [] = ([], 15)) := Lib.hid (by decide +kernel)
  have H1 := Lib.hid (shards_any [97, 98] 4 1 (by decide) (by decide) (by decide) w)
  unfold ShPost at H1
  rw [S1.out.1, S1.out.2.1, S1.out.2.2, if_pos rfl] at H1
  have H2 := Lib.hid (fun w' => shards_any [] 4 1 (by decide) (by decide) (by decide) w')
  unfold ShPost at H2
  rw [S2.out.1, S2.out.2, if_neg (by decide)] at H2
  clear hx2
  go_enter Tryd.func6, Tryd.ntmps6
  go_wp2_with fail
  refine H1.out.mono ?_
  rintro e w1 ⟨v1, rfl, hv1, hb1⟩
  obtain ⟨a1, p1, rfl, _⟩ := strs_at hv1
  have HV1 := Lib.hid hv1
  have HB1 := Lib.hid hb1
  clear hv1 hb1
  go_wp2_with fail
  refine (H2.out _).mono ?_
  rintro e w2 ⟨v2, rfl, hv2, hb2⟩
  obtain ⟨a2, p2, rfl, _⟩ := strs_at hv2
  have HV2 := Lib.hid (HV1.out.chain hb2)
  have HB2 := Lib.hid (Below.chain hb2 HB1.out)
  clear hv2 hb2
  go_upto_region 5 with fail
  obtain ⟨_, _, e, _, hc⟩ := strs_at HV2.out
  cases e
  obtain ⟨g, off, e, hg, c2⟩ := hc 2 (by simp)
  cases e
  obtain ⟨_, _, e, _, c1⟩ := hc 1 (by simp)
  cases e
  obtain ⟨_, _, e, _, c0⟩ := hc 0 (by simp)
  cases e
  simp only [List.getElem_cons_succ, List.getElem_cons_zero, Nat.add_zero] at c0 c1 c2
  have HC := Lib.hid (And.intro c0 (And.intro c1 c2))
  clear hc
  obtain ⟨L, hL⟩ : ∃ L : List Sh5, [(2, x2), (1, [98])] = L := ⟨_, rfl⟩
  have hLl : L.length = 2 := by rw [← hL]; rfl
  have hLc : (cells5 L).toArray = #[.int .i64 2, Str x2, .int .i64 1, Str [98]] := by rw [← hL]; rfl
  have hLn : L ≠ [] := by rw [← hL]; simp
  have hA := ShAt.new w2 L (by omega) hLn
  rw [hLl, hLc] at hA
  have hB := hA.chain (Below.chainAlloc (Below.refl _ _) (.cells #[.int .i64 0, .int .u32 0, Str [], .int .i64 0] 35))
  have hC := ShAt.new (w2.alloc (.cells #[.int .i64 0, .int .u32 0, Str [], .int .i64 0] 35)) L (by omega) hLn
  rw [hLl, hLc, show (w2.alloc (.cells #[.int .i64 0, .int .u32 0, Str [], .int .i64 0] 35)).heap.size = w2.heap.size + 1 from by simp] at hC
  have D1' : doD 2 3 2 L = ([97, 98], 0) := by rw [← hL]; exact D1.out
  have HA := Lib.hid (do_any 0 2 5 2 3 2 _ L (by omega) (w2.alloc (.cells #[.int .i64 2, Str x2, .int .i64 1, Str [98]] 50)).drew hA)
  have HB := Lib.hid (do_any 0 2 5 2 3 2 _ L (by omega) ((w2.alloc (.cells #[.int .i64 2, Str x2, .int .i64 1, Str [98]] 50)).alloc (.cells #[.int .i64 0, .int .u32 0, Str [], .int .i64 0] 35)).drew hB)
  have HC3 := Lib.hid (do_any 0 2 5 2 3 2 _ L (by omega) ((w2.alloc (.cells #[.int .i64 0, .int .u32 0, Str [], .int .i64 0] 35)).alloc (.cells #[.int .i64 2, Str x2, .int .i64 1, Str [98]] 50)).drew hC)
  rw [D1'] at HA HB HC3
  unfold jobV resV at HA HB HC3
  have kB := (Blk.newAt (w := w2.alloc (.cells #[.int .i64 2, Str x2, .int .i64 1, Str [98]] 50)) (n := w2.heap.size + 1) (cs := #[.int .i64 0, .int .u32 0, Str [], .int .i64 0]) (t := 35) (by simp)).drew
  have kC := ((Blk.new w2 #[.int .i64 0, .int .u32 0, Str [], .int .i64 0] 35).alloc (.cells #[.int .i64 2, Str x2, .int .i64 1, Str [98]] 50)).drew
  have bA : Below w2.heap.size w2 (w2.alloc (.cells #[.int .i64 2, Str x2, .int .i64 1, Str [98]] 50)).drew := (Below.chainAlloc (Below.refl _ _) _).drew
  have bB : Below w2.heap.size w2 ((w2.alloc (.cells #[.int .i64 2, Str x2, .int .i64 1, Str [98]] 50)).alloc (.cells #[.int .i64 0, .int .u32 0, Str [], .int .i64 0] 35)).drew := (Below.chainAlloc (Below.chainAlloc (Below.refl _ _) _) _).drew
  have bC : Below w2.heap.size w2 ((w2.alloc (.cells #[.int .i64 0, .int .u32 0, Str [], .int .i64 0] 35)).alloc (.cells #[.int .i64 2, Str x2, .int .i64 1, Str [98]] 50)).drew := (Below.chainAlloc (Below.chainAlloc (Below.refl _ _) _) _).drew
  have KB := Lib.hid (And.intro kB bB)
  have KC := Lib.hid (And.intro kC bC)
  have KA := Lib.hid bA
  have HL3 := Lib.hid hL
  clear hA hB hC kB kC bA bB bC D1' hLl hLc hLn hL
  go_cut [7] (fun v7 wx => ∃ g7, v7 = .pointer (some ⟨g7, 0, none⟩) ∧ Blk wx g7 #[.int .i64 2, .int .u32 5, Str [97, 98], .int .i64 0] 35 ∧ Below w2.heap.size w2 wx)
  case first =>
    go_region_law (first
      | (go_simp; go_at_call 10; with_reducible refine HA.out.mono ?_; rintro e w9 ⟨rfl, hb9⟩; have KK := Lib.hid (Below.chain hb9 KA.out))
      | (go_simp; go_at_call 10; with_reducible refine HB.out.mono ?_; rintro e w9 ⟨rfl, hb9⟩; have KK := Lib.hid (And.intro (KB.out.1.below hb9 KB.out.1.lt) (Below.chain hb9 KB.out.2)); have q0 := KK.out.1.facts.1 0; have q1 := KK.out.1.facts.1 1; have q2 := KK.out.1.facts.1 2; have q3 := KK.out.1.facts.1 3; have f0 := KK.out.1.facts.2.1 0; have f1 := KK.out.1.facts.2.1 1; have f2 := KK.out.1.facts.2.1 2; have f3 := KK.out.1.facts.2.1 3)
      | (go_simp; go_at_call 10; with_reducible refine HC3.out.mono ?_; rintro e w9 ⟨rfl, hb9⟩; have KK := Lib.hid (And.intro (KC.out.1.below hb9 KC.out.1.lt) (Below.chain hb9 KC.out.2)); have q0 := KK.out.1.facts.1 0; have q1 := KK.out.1.facts.1 1; have q2 := KK.out.1.facts.1 2; have q3 := KK.out.1.facts.1 3; have f0 := KK.out.1.facts.2.1 0; have f1 := KK.out.1.facts.2.1 1; have f2 := KK.out.1.facts.2.1 2; have f3 := KK.out.1.facts.2.1 3))
    all_goals
      go_wp2_with fail
      go_meet
      first
        | exact ⟨_, rfl, Blk.setAt (Blk.setAt (Blk.setAt (Blk.setAt KK.out.1 0 _ rfl) 1 _ rfl) 2 _ rfl) 3 _ rfl, (((KK.out.2.setCell (p := ⟨_, 0, none⟩) (by simp) _).setCell (p := ⟨_, 1, none⟩) (by simp) _).setCell (p := ⟨_, 2, none⟩) (by simp) _).setCell (p := ⟨_, 3, none⟩) (by simp) _⟩
        | exact ⟨_, rfl, Blk.new w9 _ _, Below.chainAlloc KK.out _⟩
  case rest =>
    obtain ⟨g7, rfl, k7, hb7⟩ := hcut
    have HD2 := Lib.hid (do_any 0 0 0 2 3 2 (.slice none 0 0) [] (by simp) wc ⟨none, 0, rfl, Nat.le_refl _, by simp, .inl rfl⟩)
    rw [D2.out] at HD2
    unfold jobV resV at HD2
    have HK7 := Lib.hid k7
    have HB7 := Lib.hid (Below.chain hb7 HB2.out)
    have c0' := (hb7.cell (p := ⟨g, off, none⟩) hg).trans HC.out.1
    have c1' := (hb7.cell (p := ⟨g, off + 1, none⟩) hg).trans HC.out.2.1
    have hg7 : g < wc.heap.size := Nat.lt_of_lt_of_le hg hb7.size
    clear k7 hb7 c0 c1 c2 HA HB HC3 KA KB KC HV2 H1 H2
    go_wp2_with fail
    refine HD2.out.mono ?_
    rintro e w10 ⟨rfl, hb10⟩
    go_upto_region 7 with fail
    have k10 := (HK7.out.below hb10 HK7.out.lt).alloc (.cells #[.int .i64 0, .int .u32 0, Str [], .int .i64 15] 35)
    have kn := Blk.new w10 #[.int .i64 0, .int .u32 0, Str [], .int .i64 15] 35
    have hbz : Below wc.heap.size wc (w10.alloc (.cells #[.int .i64 0, .int .u32 0, Str [], .int .i64 15] 35)) := Below.chainAlloc hb10 _
    have c0'' := (hbz.cell (p := ⟨g, off, none⟩) hg7).trans c0'
    have c1'' := (hbz.cell (p := ⟨g, off + 1, none⟩) hg7).trans c1'
    have HB10 := Lib.hid (Below.chain hbz HB7.out)
    obtain ⟨y1, y2, y3⟩ := k10.facts
    obtain ⟨z1, z2, z3⟩ := kn.facts
    have HN := Lib.hid (fun w' => all_any (.slice none 0 0) [] (by simp) (by simp) w' ⟨none, 0, rfl, Nat.le_refl _, by simp, .inl rfl, by simp⟩)
    clear c0' c1' hb10 k10 kn hbz
    generalize w10.alloc (.cells #[.int .i64 0, .int .u32 0, Str [], .int .i64 15] 35) = w11 at *
    go_wp2_with fail
    refine (HN.out _).mono ?_
    rintro e w12 ⟨gn, rfl, _, hb12, _⟩
    have hB := Below.chain hb12 HB10.out
    clear hb12
    go_wp2_with fail
    go_ret
    exact ⟨rfl, hB⟩
end Go.Proofs.YtelpkddgcmikfaaDoor
