/-
  The document's joiner (lightshipref49): Put of a new id.
-/
import Derived.Test.YtgfbhclkpephnaaFpH
import Derived.Test.YtgfbhclkpephnaaWireRef
namespace Go.Proofs.Ytgfbhclkpephnaa
open Go Go.RowKit
set_option linter.unusedVariables false
set_option linter.unusedSimpArgs false
set_option maxRecDepth 100000
set_option maxHeartbeats 1000000
theorem wpList_build2 {P : Program} {ops : Array Oper} {rest : List Oper} {o : Oper} {a : Act} {w : World} {Q : Exit → Act → World → Prop} (hgd : o.guard = none) (ty : TypeId) (i j : Nat) (x y : Operand) (ho : o.op = .build ty #[(i, x), (j, y)])
    (u v : Value) (hx : a.eval x = u) (hy : a.eval y = v) (r : Value) (hr : ∀ w : World, (Instr.build ty #[(i, u), (j, v)]).run P w = .ok r w)
    (h : wpList P ops Q rest (a.put o.dst r) w) : wpList P ops Q (o :: rest) a w :=
  wpList_plain hgd fun _ hK => by
    unfold Oper.wp execOp
    simp only [ho, List.map_toArray, List.map_cons, List.map_nil, hx, hy, Sem.run_bind, Sem.run_pure, Result.andThen_ok, hr]
    exact hK _ _ h
theorem wpList_buildSlice1 {P : Program} {ops : Array Oper} {rest : List Oper} {o : Oper} {a : Act} {w : World} {Q : Exit → Act → World → Prop} (hgd : o.guard = none) (ty : TypeId) (n i : Nat) (x : Operand) (ho : o.op = .buildSlice ty n #[(i, x)])
    (u : Value) (hx : a.eval x = u) (v : Value) (w' : World) (hr : (Instr.buildSlice ty n #[(i, u)]).run P w = .ok v w')
    (h : wpList P ops Q rest (a.put o.dst v) w') : wpList P ops Q (o :: rest) a w :=
  wpList_plain hgd fun _ hK => by
    unfold Oper.wp execOp
    simp only [ho, List.map_toArray, List.map_cons, List.map_nil, hx, Sem.run_bind, Sem.run_pure, Result.andThen_ok, hr]
    exact hK _ _ h
theorem n_nat (s : List UInt8) (hs : s.length ≤ 1000) : ∃ n : Nat, (ptS s).n = (n : Int) ∧ n ≤ 255 := (ptS_ok s hs).1
theorem rput_new (s : List UInt8) (room : Int) {v : Value} {A : List AE} (w : World) (h : SegA w v A) (hs7 : ¬ s.length ≤ 6) (hs1 : s.length ≤ 1000) (hga : GA room A) (hf : ¬ (ptS s).n ≤ (ptS s).place) (hg : getA (ptS s).id A = none) (hr : ¬ room ≤ (A.length : Nat)) :
    Calls Try.prog 37 #[docJ room v, Str s] w (PutOk w v room (A ++ [(⟨(ptS s).id, (ptS s).n, []⟩ : AE)]) A.length (ptS s)) := by
  obtain ⟨a, cp, rfl⟩ := Seg.form h
  unfold docJ
  have k0 := (Blk.new w #[.int .i64 room, .slice a A.length cp] 80).alloc (.cells #[.int .i64 0, .slice none 0 0] 80)
  have k1 := Blk.new (w.alloc (.cells #[.int .i64 room, .slice a A.length cp] 80)) #[.int .i64 0, .slice none 0 0] 80
  simp only [size_alloc] at k1
  have hB := Below.chainAlloc (Below.chainAlloc (Below.refl _ w) (.cells #[.int .i64 room, .slice a A.length cp] 80)) (.cells #[.int .i64 0, .slice none 0 0] 80)
  have HB := Lib.hid hB
  have HR0 := Lib.hid h
  clear h hB
  have HX3 : Hid (HX49 (((w.alloc (.cells #[.int .i64 room, .slice a A.length cp] 80)).alloc (.cells #[.int .i64 0, .slice none 0 0] 80)).alloc (.cells #[Str s, .int .i64 0] 144)) w.heap.size #[.int .i64 room, .slice a A.length cp] #[.int .i64 0, .slice none 0 0] s ∧ Below w.heap.size w (((w.alloc (.cells #[.int .i64 room, .slice a A.length cp] 80)).alloc (.cells #[.int .i64 0, .slice none 0 0] 80)).alloc (.cells #[Str s, .int .i64 0] 144))) := Lib.hid ⟨⟨k0.alloc _, k1.alloc _, Blk.newAt (by simp only [size_alloc])⟩, Below.chainAlloc HB.out _⟩
  obtain ⟨i0, hif, hz0, hz1, hz2⟩ := info_parts infoE
  have HGA := Lib.hid hga
  have hpn : ¬ (ptS s).n ≤ (ptS s).place := hf
  obtain ⟨p, hpl, hp255⟩ := place_nat s hs7 hf
  rw [hpl] at hpn
  have HPL := Lib.hid hpl
  have hroom : ¬ room ≤ (A.length : Int) := hr
  have HG := Lib.hid hg
  clear hga hf hg hr
  have h7 : ¬ (s.length : Int) < 7 := by omega
  have HNUM : Hid (∀ w', Num49 s w') := Lib.hid (num49 s hs7 hs1)
  obtain ⟨h4, h5, hp4, hp5⟩ := at_ptS s hs7
  have hw4 : wrap64 ((s[4].toNat : Nat) : Int) = (ptS s).place := by rw [← hp4]; exact IntWalk.wrap64_in _ (by have := UInt8.toNat_lt s[4]; omega)
  have hw5 : wrap64 ((s[5].toNat : Nat) : Int) = (ptS s).n := by rw [← hp5]; exact IntWalk.wrap64_in _ (by have := UInt8.toNat_lt s[5]; omega)
  have HW := Lib.hid (And.intro hw4 hw5)
  have h4i : (4 : Int) < (s.length : Int) := by omega
  have h5i : (5 : Int) < (s.length : Int) := by omega
  clear hp4 hp5 hw4 hw5
  have hbg := byte_get
  obtain ⟨Xj, Yj, Zj⟩ := k0.facts
  have j0 := Xj 0
  have j1 := Xj 1
  have fj0 := Yj 0
  have fj1 := Yj 1
  obtain ⟨Xr, Yr, Zr⟩ := k1.facts
  have r0 := Xr 0
  have r1 := Xr 1
  have fr0 := Yr 0
  have fr1 := Yr 1
  clear k0 Xj Yj k1 Xr Yr
  go_enter Try.func37, Try.ntmps37
  go_upto_region 4 with fail
  generalize (((w.alloc (.cells #[.int .i64 room, .slice a A.length cp] 80)).alloc (.cells #[.int .i64 0, .slice none 0 0] 80)).alloc (.cells #[Str s, .int .i64 0] 144)) = W at *
  have k0 := HX3.out.1.1
  have k1 := HX3.out.1.2.1
  have k2 := HX3.out.1.2.2
  clear Zj j0 fj0 j1 fj1 Zr r0 fr0 r1 fr1
  obtain ⟨Xj, Yj, Zj⟩ := k0.facts
  have j0 := Xj 0
  have j1 := Xj 1
  have fj0 := Yj 0
  have fj1 := Yj 1
  obtain ⟨Xr, Yr, Zr⟩ := k1.facts
  have r0 := Xr 0
  have r1 := Xr 1
  have fr0 := Yr 0
  have fr1 := Yr 1
  obtain ⟨Xq, Yq, Zq⟩ := k2.facts
  have q0 := Xq 0
  have q1 := Xq 1
  have fq0 := Yq 0
  have fq1 := Yq 1
  clear k0 Xj Yj k1 Xr Yr k2 Xq Yq
  go_wp2_with fail
  refine (HNUM.out W).mono ?_
  rintro x w1 ⟨rfl, hb⟩
  have HX4 : Hid (HX49 w1 w.heap.size #[.int .i64 room, .slice a A.length cp] #[.int .i64 0, .slice none 0 0] s ∧ Below w.heap.size w w1) := Lib.hid ⟨HX3.out.1.below hb, Below.chain hb HX3.out.2⟩
  have k0 := HX4.out.1.1
  have k1 := HX4.out.1.2.1
  have k2 := HX4.out.1.2.2
  clear hb HX3 Zj j0 fj0 j1 fj1 Zr r0 fr0 r1 fr1 Zq q0 fq0 q1 fq1
  obtain ⟨Xj, Yj, Zj⟩ := k0.facts
  have j0 := Xj 0
  have j1 := Xj 1
  have fj0 := Yj 0
  have fj1 := Yj 1
  obtain ⟨Xr, Yr, Zr⟩ := k1.facts
  have r0 := Xr 0
  have r1 := Xr 1
  have fr0 := Yr 0
  have fr1 := Yr 1
  obtain ⟨Xq, Yq, Zq⟩ := k2.facts
  have q0 := Xq 0
  have q1 := Xq 1
  have fq0 := Yq 0
  have fq1 := Yq 1
  clear k0 Xj Yj k1 Xr Yr k2 Xq Yq
  go_upto_region 5 with fail
  change Code.wp _ _ _ _ ((w1.setCell ⟨w.heap.size + 1 + 1, 0, none⟩ (Str (s.drop 4))).setCell ⟨w.heap.size + 1 + 1, 1, none⟩ (.int .i64 0))
  have HX5 : Hid (HX49 ((w1.setCell ⟨w.heap.size + 1 + 1, 0, none⟩ (Str (s.drop 4))).setCell ⟨w.heap.size + 1 + 1, 1, none⟩ (.int .i64 0)) w.heap.size #[.int .i64 room, .slice a A.length cp] #[.int .i64 0, .slice none 0 0] (s.drop 4) ∧ Below w.heap.size w ((w1.setCell ⟨w.heap.size + 1 + 1, 0, none⟩ (Str (s.drop 4))).setCell ⟨w.heap.size + 1 + 1, 1, none⟩ (.int .i64 0))) := Lib.hid ⟨HX4.out.1.num _, Below.only HX4.out.2 (only_ret2 _ _ _ _) (by simp; omega)⟩
  clear HX4 Zj j0 fj0 j1 fj1 Zr r0 fr0 r1 fr1 Zq q0 fq0 q1 fq1
  generalize (w1.setCell ⟨w.heap.size + 1 + 1, 0, none⟩ (Str (s.drop 4))).setCell ⟨w.heap.size + 1 + 1, 1, none⟩ (.int .i64 0) = w2 at *
  go_quiet (fail)
  rw [HW.out.1, HW.out.2]
  have HX6 : Hid (HX49 (w2.drewN nq) w.heap.size #[.int .i64 room, .slice a A.length cp] #[.int .i64 0, .slice none 0 0] (s.drop 4) ∧ Below w.heap.size w (w2.drewN nq)) := Lib.hid ⟨HX5.out.1, below_drewN HX5.out.2 _⟩
  clear HX5
  generalize w2.drewN nq = w3 at *
  have k0 := HX6.out.1.1
  have k1 := HX6.out.1.2.1
  have k2 := HX6.out.1.2.2
  obtain ⟨Xj, Yj, Zj⟩ := k0.facts
  have j0 := Xj 0
  have j1 := Xj 1
  have fj0 := Yj 0
  have fj1 := Yj 1
  obtain ⟨Xr, Yr, Zr⟩ := k1.facts
  have r0 := Xr 0
  have r1 := Xr 1
  have fr0 := Yr 0
  have fr1 := Yr 1
  obtain ⟨Xq, Yq, Zq⟩ := k2.facts
  have q0 := Xq 0
  have q1 := Xq 1
  have fq0 := Yq 0
  have fq1 := Yq 1
  clear k0 Xj Yj k1 Xr Yr k2 Xq Yq
  have HXW3 := HX6
  rw [HPL.out]
  have HQ1 : Hid (0 + A.length ≤ maxLen ∧ (0 + A.length) * 4096 ≤ 140737488355328) := Lib.hid (by have := HGA.out.le; unfold maxLen; omega)
  have HRD : Hid (RdS w3 257 (.slice a A.length cp) A.length (rowsA A)) := Lib.hid (Seg.rds (HR0.out.chain HX6.out.2))
  have HON : Hid (∀ u ∈ rowsA A, u.oneCell' = true) := Lib.hid (one_rowsA A)
  go_upto_region 10 with (at_builtin; refine wpList_append_rds rfl (.tmp 38) (.tmp 40) 78 rfl w3.heap.size tE i0 _ 257 4096 undSE hif hz0 hz1 hz2 zeroE_size (by decide) (.slice none 0 0) 0 [] rfl (Seg.nil _ _ _ _) (.slice a A.length cp) A.length (rowsA A) rfl HRD.out HON.out HQ1.out.1 HQ1.out.2 (Nat.le_refl _) ?_; intro v4 w4 hown4 hgrow4 hat4; rw [List.nil_append, Nat.zero_add] at hown4)
  have hb4 : Below w3.heap.size w3 w4 := (Only.grown (S := []) (Only.refl _ _) hgrow4 (fun x hx => by cases hx)).nil
  obtain ⟨a4, c4, rfl⟩ := hown4.form
  have HO4 := Lib.hid hown4
  have HS4 : Hid (w.heap.size + 1 + 1 < w3.heap.size) := Lib.hid HX6.out.1.2.2.lt
  have HB34 := Lib.hid hb4
  have HX7 : Hid (HX49 w4 w.heap.size #[.int .i64 room, .slice a A.length cp] #[.int .i64 0, .slice none 0 0] (s.drop 4) ∧ Below w.heap.size w w4) := Lib.hid ⟨HX6.out.1.below hb4, Below.chain hb4 HX6.out.2⟩
  have k0 := HX7.out.1.1
  have k1 := HX7.out.1.2.1
  have k2 := HX7.out.1.2.2
  clear hown4 hgrow4 hat4 hb4 HX6 HRD HON Zj j0 fj0 j1 fj1 Zr r0 fr0 r1 fr1 Zq q0 fq0 q1 fq1
  obtain ⟨Xj, Yj, Zj⟩ := k0.facts
  have j0 := Xj 0
  have j1 := Xj 1
  have fj0 := Yj 0
  have fj1 := Yj 1
  obtain ⟨Xr, Yr, Zr⟩ := k1.facts
  have r0 := Xr 0
  have r1 := Xr 1
  have fr0 := Yr 0
  have fr1 := Yr 1
  obtain ⟨Xq, Yq, Zq⟩ := k2.facts
  have q0 := Xq 0
  have q1 := Xq 1
  have fq0 := Yq 0
  have fq1 := Yq 1
  clear k0 Xj Yj k1 Xr Yr k2 Xq Yq
  have HAT := Lib.hid (rat49 (ptS s).id room w4 (HR0.out.chain HX7.out.2) (Nat.le_trans HGA.out.le (by decide)))
  go_wp2_with fail
  refine HAT.out.mono ?_
  rintro x w5 ⟨r, rfl, hr, hb⟩
  have HX8 : Hid (HX49 w5 w.heap.size #[.int .i64 room, .slice a A.length cp] #[.int .i64 0, .slice none 0 0] (s.drop 4) ∧ Below w.heap.size w w5) := Lib.hid ⟨HX7.out.1.below hb, Below.chain hb HX7.out.2⟩
  have HO5 := Lib.hid (HO4.out.chain hb)
  have HB35 := Lib.hid (Below.chain hb HB34.out)
  have k0 := HX8.out.1.1
  have k1 := HX8.out.1.2.1
  have k2 := HX8.out.1.2.2
  clear hb HX7 HAT HO4 HB34 Zj j0 fj0 j1 fj1 Zr r0 fr0 r1 fr1 Zq q0 fq0 q1 fq1
  obtain ⟨Xj, Yj, Zj⟩ := k0.facts
  have j0 := Xj 0
  have j1 := Xj 1
  have fj0 := Yj 0
  have fj1 := Yj 1
  obtain ⟨Xr, Yr, Zr⟩ := k1.facts
  have r0 := Xr 0
  have r1 := Xr 1
  have fr0 := Yr 0
  have fr1 := Yr 1
  obtain ⟨Xq, Yq, Zq⟩ := k2.facts
  have q0 := Xq 0
  have q1 := Xq 1
  have fq0 := Yq 0
  have fq1 := Yq 1
  clear k0 Xj Yj k1 Xr Yr k2 Xq Yq
  rcases hr.get HGA.out.nd with ⟨i, hi, rfl, hg, _⟩ | ⟨rfl, hg⟩
  · rw [HG.out] at hg
    cases hg
  · clear hg
    go_upto_region 15 with fail
    obtain ⟨cs, hcs⟩ : ∃ cs, cs = (rowA (⟨(ptS s).id, (ptS s).n, []⟩ : AE)).toArray := ⟨_, rfl⟩
    have HBU : Hid (∀ w : World, (Instr.build tE #[(0, .int .u32 (ptS s).id), (1, .int .i64 (ptS s).n)]).run Try.prog w = .ok (.agg cs) w) := Lib.hid fun w => hcs ▸ build_E _ _ w
    have HBS : Hid (∀ w : World, (Instr.buildSlice 78 1 #[(0, .agg cs)]).run Try.prog w = .ok (.slice (some ⟨w.heap.size, 0, none⟩) 1 1) (w.alloc (.cells cs tE))) := Lib.hid fun w => hcs ▸ bslice_E _ _ w
    have HRN : Hid (RdS (w5.alloc (.cells cs tE)) 257 (.slice (some ⟨w5.heap.size, 0, none⟩) 1 1) 1 (rowA (⟨(ptS s).id, (ptS s).n, []⟩ : AE))) := Lib.hid ⟨by rw [rowA_len], .inr ⟨_, 1, rfl, by subst hcs; exact cells_new w5 (rowA (⟨(ptS s).id, (ptS s).n, []⟩ : AE)) tE⟩⟩
    have HONn : Hid (∀ u ∈ rowA (⟨(ptS s).id, (ptS s).n, []⟩ : AE), u.oneCell' = true) := Lib.hid (one_rowA _)
    have HQ6 : Hid (A.length + 1 ≤ maxLen ∧ (A.length + 1) * 4096 ≤ 140737488355328) := Lib.hid (by have := HGA.out.le; unfold maxLen; omega)
    have HSB : Hid (w3.heap.size ≤ (w5.alloc (.cells cs tE)).heap.size) := Lib.hid (by rw [size_alloc]; have := HB35.out.size; omega)
    clear hcs
    refine wp_region_lit ?_
    iterate 3
      refine wpList_plain rfl fun K hK => ?_
      go_simp
      refine hK _ _ ?_
      clear hK K
    refine wpList_build2 rfl tE 0 1 (.tmp 56) (.tmp 57) rfl _ _ rfl rfl (.agg cs) HBU.out ?_
    refine wpList_buildSlice1 rfl 78 1 0 (.tmp 58) rfl (.agg cs) rfl _ _ (HBS.out _) ?_
    refine wpList_append_rds rfl (.tmp 55) (.tmp 59) 78 rfl w3.heap.size tE i0 _ 257 4096 undSE hif hz0 hz1 hz2 zeroE_size (by decide) (.slice a4 A.length c4) A.length (rowsA A) rfl (HO5.out.alloc _) (.slice (some ⟨w5.heap.size, 0, none⟩) 1 1) 1 (rowA (⟨(ptS s).id, (ptS s).n, []⟩ : AE)) rfl HRN.out HONn.out HQ6.out.1 HQ6.out.2 HSB.out ?_
    intro v6 w6 hown6 hgrow6 hat6
    have hb6 : Below w3.heap.size w3 w6 := (Only.grown (S := []) ((Only.of_below HB35.out).alloc _) hgrow6 (fun x hx => .inr (HO5.out.blk x hx).1)).nil
    have HX16 : Hid (HX49 w6 w.heap.size #[.int .i64 room, .slice a A.length cp] #[.int .i64 0, .slice none 0 0] (s.drop 4) ∧ Below w.heap.size w w6) := Lib.hid ⟨HXW3.out.1.below hb6, Below.chain hb6 HXW3.out.2⟩
    obtain ⟨g4, o4, c4, rfl, hg4, _, _⟩ := hown6.shape (Nat.succ_pos _)
    have hml : (A.length : Nat) + 1 = (A ++ [(⟨(ptS s).id, (ptS s).n, []⟩ : AE)]).length := by rw [List.length_append]; rfl
    have hown7 : Seg w6 w3.heap.size tE 257 (.slice (some ⟨g4, o4, none⟩) (A.length + 1) c4) (A.length + 1) (rowsA (A ++ [(⟨(ptS s).id, (ptS s).n, []⟩ : AE)])) := by
      rw [rowsA_app]
      have e : rowsA [(⟨(ptS s).id, (ptS s).n, []⟩ : AE)] = rowA (⟨(ptS s).id, (ptS s).n, []⟩ : AE) := by unfold rowsA; rw [List.flatMap_cons, List.flatMap_nil, List.append_nil]
      rw [e]
      exact hown6
    have hg4' : w3.heap.size ≤ g4 := hg4
    have hiL : A.length < (A ++ [(⟨(ptS s).id, (ptS s).n, []⟩ : AE)]).length := by rw [← hml]; exact Nat.lt_succ_self _
    have hel : ((A ++ [(⟨(ptS s).id, (ptS s).n, []⟩ : AE)])[A.length]'hiL) = (⟨(ptS s).id, (ptS s).n, []⟩ : AE) := by simp
    clear hown6 hgrow6 hat6 HBU HBS HRN HONn HSB HB35 HX8 HXW3 Zj j0 fj0 j1 fj1 Zr r0 fr0 r1 fr1 Zq q0 fq0 q1 fq1
    clear HO5
    have HO5 := Lib.hid hown7
    have HB35 := Lib.hid hb6
    have HX8 := HX16
    clear hown7 hb6 HX16
    have k0 := HX8.out.1.1
    have k1 := HX8.out.1.2.1
    have k2 := HX8.out.1.2.2
    obtain ⟨Xj, Yj, Zj⟩ := k0.facts
    have j0 := Xj 0
    have j1 := Xj 1
    have fj0 := Yj 0
    have fj1 := Yj 1
    obtain ⟨Xr, Yr, Zr⟩ := k1.facts
    have r0 := Xr 0
    have r1 := Xr 1
    have fr0 := Yr 0
    have fr1 := Yr 1
    obtain ⟨Xq, Yq, Zq⟩ := k2.facts
    have q0 := Xq 0
    have q1 := Xq 1
    have fq0 := Yq 0
    have fq1 := Yq 1
    clear k0 Xj Yj k1 Xr Yr k2 Xq Yq
    obtain ⟨n0, hn0, hn255⟩ := n_nat s hs1
    have NNX : ∃ n : Nat, ((A ++ [(⟨(ptS s).id, (ptS s).n, []⟩ : AE)])[A.length]'hiL).n = (n : Int) ∧ n ≤ 255 := ⟨n0, by rw [hel]; exact hn0, hn255⟩
    have PLX : ∀ k, ((getP k (setP (p : Int) (ptS s).body ((A ++ [(⟨(ptS s).id, (ptS s).n, []⟩ : AE)])[A.length]'hiL).ps)).getD []).length ≤ 100000 := by
      rw [hel]
      exact part_len (e := ⟨(ptS s).id, n0, []⟩) ⟨⟨n0, rfl, hn255⟩, by simp⟩ hs1 _
    have d1 : w6.cell? ⟨g4, o4 + A.length * 257 + 1, none⟩ = some (.int .i64 (ptS s).n) := by
      rw [seg_cell HO5.out A.length hiL 1 (by decide), hel]
      rfl
    have d2 : w6.cell? ⟨g4, o4 + A.length * 257 + 2 + p, none⟩ = some (Str []) := by
      have h := seg_cell HO5.out A.length hiL (2 + p) (by omega)
      rw [← Nat.add_assoc] at h
      rw [h, hel, rowA_at _ p (by omega)]
      rfl
    have hi0 : (0 : Int) ≤ (A.length : Int) := by omega
    have hp0 : (0 : Int) ≤ (p : Int) := by omega
    have hp1 : (p : Int) < 255 := by omega
    have HEL := Lib.hid hel
    have hxt := ext6 s
    clear hel hn0 hn255
    obtain ⟨m, hm⟩ : ∃ m, A.length + 1 = m := ⟨_, rfl⟩
    rw [hm] at HO5 hml
    have hii : (A.length : Int) < (m : Int) := by omega
    have HM0 := Lib.hid hm
    have HML := Lib.hid hml
    rw [hm]
    clear hm hml
    go_wp2_with fail
    go_quiet (fail)
    have HX9 : Hid (HX49 (w6.drewN nq) w.heap.size #[.int .i64 room, .slice a A.length cp] #[.int .i64 0, .slice none 0 0] (s.drop 4) ∧ Below w.heap.size w (w6.drewN nq)) := Lib.hid ⟨HX8.out.1, below_drewN HX8.out.2 _⟩
    have HO6 : Hid (Seg (w6.drewN nq) w3.heap.size tE 257 (.slice (some ⟨g4, o4, none⟩) m c4) m (rowsA (A ++ [(⟨(ptS s).id, (ptS s).n, []⟩ : AE)]))) := HO5
    have HB36 : Hid (Below w3.heap.size w3 (w6.drewN nq)) := Lib.hid (below_drewN HB35.out _)
    clear HX8 HO5 HB35 d1 d2 Zj j0 fj0 j1 fj1 Zr r0 fr0 r1 fr1 Zq q0 fq0 q1 fq1
    generalize w6.drewN nq = w6 at *
    have k0 := HX9.out.1.1
    have k1 := HX9.out.1.2.1
    have k2 := HX9.out.1.2.2
    have HI6 := Lib.hid hiL
    obtain ⟨Xj, Yj, Zj⟩ := k0.facts
    have j0 := Xj 0
    have j1 := Xj 1
    have fj0 := Yj 0
    have fj1 := Yj 1
    obtain ⟨Xr, Yr, Zr⟩ := k1.facts
    have r0 := Xr 0
    have r1 := Xr 1
    have fr0 := Yr 0
    have fr1 := Yr 1
    obtain ⟨Xq, Yq, Zq⟩ := k2.facts
    have q0 := Xq 0
    have q1 := Xq 1
    have fq0 := Yq 0
    have fq1 := Yq 1
    clear k0 Xj Yj k1 Xr Yr k2 Xq Yq
    go_upto_region 18 with fail
    have d3 : w6.cell? ⟨g4, o4 + A.length * 257 + 2 + p, none⟩ = some (Str ((getP (p : Int) ((A ++ [(⟨(ptS s).id, (ptS s).n, []⟩ : AE)])[A.length]'HI6.out).ps).getD [])) := by
      have h := seg_cell HO6.out A.length HI6.out (2 + p) (by omega)
      rw [← Nat.add_assoc] at h
      rw [h]
      exact rowA_at _ p (by omega)
    have d4 := HO6.out.free (o4 + A.length * 257 + 2 + p)
    go_region
    go_upto_region 19 with fail
    have HX10 : Hid (HX49 ((w6.setCell ⟨g4, o4 + A.length * 257 + 2 + p, none⟩ (Str (s.drop 6))).drew) w.heap.size #[.int .i64 room, .slice a A.length cp] #[.int .i64 0, .slice none 0 0] (s.drop 4) ∧ Below w.heap.size w ((w6.setCell ⟨g4, o4 + A.length * 257 + 2 + p, none⟩ (Str (s.drop 6))).drew)) := Lib.hid ⟨HX9.out.1.far (Nat.lt_of_lt_of_le HS4.out hg4) _ _, (HX9.out.2.setCell (p := ⟨g4, o4 + A.length * 257 + 2 + p, none⟩) (by have := HS4.out; show w.heap.size ≤ g4; omega) _).drew⟩
    obtain ⟨n, hnn, hn255⟩ := NNX
    obtain ⟨e', he'⟩ : ∃ e' : AE, e' = ⟨((A ++ [(⟨(ptS s).id, (ptS s).n, []⟩ : AE)])[A.length]'HI6.out).id, (n : Nat), setP (p : Int) (ptS s).body ((A ++ [(⟨(ptS s).id, (ptS s).n, []⟩ : AE)])[A.length]'HI6.out).ps⟩ := ⟨_, rfl⟩
    have HO7 : Hid (Seg ((w6.setCell ⟨g4, o4 + A.length * 257 + 2 + p, none⟩ (Str (s.drop 6))).drew) w3.heap.size tE 257 (.slice (some ⟨g4, o4, none⟩) m c4) m (rowsA ((A ++ [(⟨(ptS s).id, (ptS s).n, []⟩ : AE)]).set A.length e'))) := Lib.hid (by
      have h := seg_part HO6.out A.length HI6.out p (by omega) (s.drop 6)
      rw [hnn] at h
      rw [he']
      exact h)
    have HB37 : Hid (Below w3.heap.size w3 ((w6.setCell ⟨g4, o4 + A.length * 257 + 2 + p, none⟩ (Str (s.drop 6))).drew)) := Lib.hid (HB36.out.setCell (p := ⟨g4, o4 + A.length * 257 + 2 + p, none⟩) hg4 _).drew
    have HC : Hid (∀ j u, (rowA e')[j]? = some u → ((w6.setCell ⟨g4, o4 + A.length * 257 + 2 + p, none⟩ (Str (s.drop 6))).drew).cell? ⟨g4, o4 + A.length * 257 + j, none⟩ = some u) := Lib.hid (seg_row HO7.out HI6.out)
    have HWH : Hid (∀ w', Calls Try.prog 69 #[.agg (rowA e').toArray] w' fun x w'' => WholeR e'.ps n x ∧ Below w'.heap.size w' w'') := Lib.hid fun w' => by
      subst he'
      exact rwhole49 _ n _ w' hn255 PLX
    have HE := Lib.hid (And.intro he' hnn)
    have hrl : (rowA e').length = 257 := rowA_len e'
    clear d3 d4 HX9 HO6 HB36 he' hnn hn255 Zj j0 fj0 j1 fj1 Zr r0 fr0 r1 fr1 Zq q0 fq0 q1 fq1
    generalize (w6.setCell ⟨g4, o4 + A.length * 257 + 2 + p, none⟩ (Str (s.drop 6))).drew = w7 at *
    refine wp_region_lit ?_
    iterate 3
      refine wpList_plain rfl fun K hK => ?_
      go_simp
      refine hK _ _ ?_
      clear hK K
    refine wpList_load_cells rfl tE (.tmp 102) rfl g4 (o4 + A.length * 257) (rowA e') rfl aggE (by rw [hrl]; exact sizeE) HC.out ?_
    clear HC hrl
    generalize (rowA e').toArray = cs at *
    go_wp2_with fail
    refine (HWH.out _).mono ?_
    rintro x w8 ⟨hw, hb⟩
    have HX11 : Hid (HX49 w8 w.heap.size #[.int .i64 room, .slice a A.length cp] #[.int .i64 0, .slice none 0 0] (s.drop 4) ∧ Below w.heap.size w w8) := Lib.hid ⟨HX10.out.1.below hb, Below.chain hb HX10.out.2⟩
    have HO8 := Lib.hid (HO7.out.chain hb)
    have HB38 := Lib.hid (Below.chain hb HB37.out)
    have k0 := HX11.out.1.1
    have k1 := HX11.out.1.2.1
    have k2 := HX11.out.1.2.2
    clear hb HX10 HO7 HB37 HWH
    obtain ⟨Xj, Yj, Zj⟩ := k0.facts
    have j0 := Xj 0
    have j1 := Xj 1
    have fj0 := Yj 0
    have fj1 := Yj 1
    obtain ⟨Xr, Yr, Zr⟩ := k1.facts
    have r0 := Xr 0
    have r1 := Xr 1
    have fr0 := Yr 0
    have fr1 := Yr 1
    obtain ⟨Xq, Yq, Zq⟩ := k2.facts
    have q0 := Xq 0
    have q1 := Xq 1
    have fq0 := Yq 0
    have fq1 := Yq 1
    clear k0 Xj Yj k1 Xr Yr k2 Xq Yq
    rcases hw with ⟨hall, rfl⟩ | ⟨hall, rfl⟩
    · have hcp : m ≤ c4 := seg_cap HO8.out
      have hIM : A.length < m := (by rw [← HM0.out]; exact Nat.lt_succ_self _)
      have hj0 : (0 : Int) ≤ (A.length : Int) := by omega
      have hji : (A.length : Int) ≤ (c4 : Int) := by omega
      have hic : A.length < c4 := by omega
      have h5 : (A.length : Int) + 1 ≤ (m : Int) := by omega
      have h6 : (0 : Int) ≤ (A.length : Int) + 1 := by omega
      have h7c : (m : Int) ≤ (c4 : Int) := by omega
      have hl4 : 0 < s.length - 4 := by omega
      have HM3 : Hid (m ≤ 300) := Lib.hid (by have := HGA.out.le; have := HM0.out; omega)
      have HQ3 : Hid (0 + A.length ≤ maxLen ∧ (0 + A.length) * 4096 ≤ 140737488355328) := Lib.hid (by have := HM3.out; unfold maxLen; omega)
      have HQ4 : Hid (A.length + (m - (A.length + 1)) ≤ maxLen ∧ (A.length + (m - (A.length + 1))) * 4096 ≤ 140737488355328) := Lib.hid (by have := HM3.out; unfold maxLen; omega)
      have HR1 : Hid (RdS w8 257 (.slice (some ⟨g4, o4, none⟩) A.length c4) A.length (rowsA ((A ++ [(⟨(ptS s).id, (ptS s).n, []⟩ : AE)]).take A.length))) := Lib.hid (seg_take HO8.out (Nat.le_of_lt hIM))
      have HON1 : Hid (∀ u ∈ rowsA ((A ++ [(⟨(ptS s).id, (ptS s).n, []⟩ : AE)]).take A.length), u.oneCell' = true) := Lib.hid (one_rowsA _)
      have HON2 : Hid (∀ u ∈ rowsA ((A ++ [(⟨(ptS s).id, (ptS s).n, []⟩ : AE)]).drop (A.length + 1)), u.oneCell' = true) := Lib.hid (one_rowsA _)
      have hkw := kw49 A.length m hIM HM3.out
      have HKW := Lib.hid hkw
      have HIMH := Lib.hid hIM
      clear hkw hcp hIM
      go_upto_region 23 with (at_builtin; refine wpList_append_rds rfl (.tmp 108) (.tmp 111) 78 rfl w8.heap.size tE i0 _ 257 4096 undSE hif hz0 hz1 hz2 zeroE_size (by decide) (.slice none 0 0) 0 [] rfl (Seg.nil _ _ _ _) (.slice (some ⟨g4, o4, none⟩) A.length c4) A.length (rowsA ((A ++ [(⟨(ptS s).id, (ptS s).n, []⟩ : AE)]).take A.length)) rfl HR1.out HON1.out HQ3.out.1 HQ3.out.2 (Nat.le_refl _) ?_; intro v9 w9 hown9 hgrow9 hat9; rw [List.nil_append, Nat.zero_add] at hown9)
      have hb9 : Below w8.heap.size w8 w9 := (Only.grown (S := []) (Only.refl _ _) hgrow9 (fun x hx => by cases hx)).nil
      obtain ⟨a9, c9, rfl⟩ := hown9.form
      have HO9 := Lib.hid hown9
      have HB9 := Lib.hid hb9
      have HS9 := Lib.hid (HO8.out.chain hb9)
      have HSL : Hid (w8.heap.size ≤ w9.heap.size) := Lib.hid hb9.size
      have HX12 : Hid (HX49 w9 w.heap.size #[.int .i64 room, .slice a A.length cp] #[.int .i64 0, .slice none 0 0] (s.drop 4)) := Lib.hid (HX11.out.1.below hb9)
      clear hown9 hgrow9 hat9 hb9 HR1 HON1 Zj j0 fj0 j1 fj1 Zr r0 fr0 r1 fr1 Zq q0 fq0 q1 fq1
      have k0 := HX12.out.1
      have k1 := HX12.out.2.1
      have k2 := HX12.out.2.2
      obtain ⟨Xj, Yj, Zj⟩ := k0.facts
      have j0 := Xj 0
      have j1 := Xj 1
      have fj0 := Yj 0
      have fj1 := Yj 1
      obtain ⟨Xr, Yr, Zr⟩ := k1.facts
      have r0 := Xr 0
      have r1 := Xr 1
      have fr0 := Yr 0
      have fr1 := Yr 1
      obtain ⟨Xq, Yq, Zq⟩ := k2.facts
      have q0 := Xq 0
      have q1 := Xq 1
      have fq0 := Yq 0
      have fq1 := Yq 1
      clear k0 Xj Yj k1 Xr Yr k2 Xq Yq
      have hkw := HKW.out
      by_cases hc : A.length + 1 = c4
      · subst hc
        have HMM : Hid (m = A.length + 1) := Lib.hid (by have := HIMH.out; clear hkw; omega)
        have hmz : m - (A.length + 1) = 0 := by rw [HMM.out, Nat.sub_self]
        have HQ5 : Hid (A.length + 0 ≤ maxLen ∧ (A.length + 0) * 4096 ≤ 140737488355328) := Lib.hid (by have h := HQ3.out; rw [Nat.zero_add] at h; exact h)
        have HR2 : Hid (RdS w9 257 (.slice (some ⟨g4, o4, none⟩) 0 0) 0 (rowsA ((A ++ [(⟨(ptS s).id, (ptS s).n, []⟩ : AE)]).drop (A.length + 1)))) := Lib.hid (by have h := seg_drop HS9.out HIMH.out o4 (.inr ⟨rfl, rfl⟩); rw [Nat.sub_self, show m - (A.length + 1) = 0 by rw [HMM.out, Nat.sub_self]] at h; exact h)
        go_upto_region 24 with (at_builtin; refine wpList_append_rds rfl (.tmp 113) (.tmp 117) 78 rfl w8.heap.size tE i0 _ 257 4096 undSE hif hz0 hz1 hz2 zeroE_size (by decide) (.slice a9 A.length c9) A.length (rowsA ((A ++ [(⟨(ptS s).id, (ptS s).n, []⟩ : AE)]).take A.length)) rfl HO9.out (.slice (some ⟨g4, o4, none⟩) 0 0) 0 (rowsA ((A ++ [(⟨(ptS s).id, (ptS s).n, []⟩ : AE)]).drop (A.length + 1))) rfl HR2.out HON2.out HQ5.out.1 HQ5.out.2 HSL.out ?_; intro v10 w10 hown10 hgrow10 hat10; have HO10 := Lib.hid hown10; have hb10 := (Only.grown (S := []) (Only.of_below HB9.out) hgrow10 (fun x hx => .inr (HO9.out.blk x hx).1)).nil; obtain ⟨a10, c10, rfl⟩ := hown10.form; have HX13 : Hid (HX49 w10 w.heap.size #[.int .i64 room, .slice a A.length cp] #[.int .i64 0, .slice none 0 0] (s.drop 4) ∧ Below w.heap.size w w10) := Lib.hid ⟨HX11.out.1.below hb10, Below.chain hb10 HX11.out.2⟩; clear hown10 hgrow10 hat10 hb10 Zj j0 fj0 j1 fj1 Zr r0 fr0 r1 fr1 Zq q0 fq0 q1 fq1; have k0 := HX13.out.1.1; have k1 := HX13.out.1.2.1; have k2 := HX13.out.1.2.2; obtain ⟨Xj, Yj, Zj⟩ := k0.facts; have j0 := Xj 0; have j1 := Xj 1; have fj0 := Yj 0; have fj1 := Yj 1; obtain ⟨Xr, Yr, Zr⟩ := k1.facts; have r0 := Xr 0; have r1 := Xr 1; have fr0 := Yr 0; have fr1 := Yr 1; obtain ⟨Xq, Yq, Zq⟩ := k2.facts; have q0 := Xq 0; have q1 := Xq 1; have fq0 := Yq 0; have fq1 := Yq 1; clear k0 Xj Yj k1 Xr Yr k2 Xq Yq)
        go_region
        go_wp2_with fail
        refine bodyPost_ret (v := .tuple #[.agg #[.int .i64 room, .slice a10 A.length c10], Str (textF e'.ps n), .bool true, .int .i64 0]) (by simp [results, Try.results37, go_sem, r0, r1, Str]) rfl (PutOk.whole HI6.out HE.out.2 HPL.out HE.out.1 hall HO10.out HML.out (by rw [HMM.out, Nat.sub_self]; rfl) (Nat.lt_of_lt_of_le HX11.out.1.2.2.lt (Nat.le_refl _)) HX13.out.2)
      · have hc2 : ¬ (A.length : Int) + 1 = (c4 : Int) := by clear hkw; omega
        have hc3 : ¬ (c4 : Int) = (A.length : Int) + 1 := by clear hkw; omega
        have hc4 : ¬ c4 = A.length + 1 := by clear hkw; omega
        have HR2 : Hid (RdS w9 257 (.slice (some ⟨g4, o4 + (A.length + 1) * 257, none⟩) (m - (A.length + 1)) (c4 - (A.length + 1))) (m - (A.length + 1)) (rowsA ((A ++ [(⟨(ptS s).id, (ptS s).n, []⟩ : AE)]).drop (A.length + 1)))) := Lib.hid (seg_drop HS9.out HIMH.out _ (.inl rfl))
        go_upto_region 24 with (at_builtin; refine wpList_append_rds rfl (.tmp 113) (.tmp 117) 78 rfl w8.heap.size tE i0 _ 257 4096 undSE hif hz0 hz1 hz2 zeroE_size (by decide) (.slice a9 A.length c9) A.length (rowsA ((A ++ [(⟨(ptS s).id, (ptS s).n, []⟩ : AE)]).take A.length)) rfl HO9.out (.slice (some ⟨g4, o4 + (A.length + 1) * 257, none⟩) (m - (A.length + 1)) (c4 - (A.length + 1))) (m - (A.length + 1)) (rowsA ((A ++ [(⟨(ptS s).id, (ptS s).n, []⟩ : AE)]).drop (A.length + 1))) rfl HR2.out HON2.out HQ4.out.1 HQ4.out.2 HSL.out ?_; intro v10 w10 hown10 hgrow10 hat10; have HO10 := Lib.hid hown10; have hb10 := (Only.grown (S := []) (Only.of_below HB9.out) hgrow10 (fun x hx => .inr (HO9.out.blk x hx).1)).nil; obtain ⟨a10, c10, rfl⟩ := hown10.form; have HX13 : Hid (HX49 w10 w.heap.size #[.int .i64 room, .slice a A.length cp] #[.int .i64 0, .slice none 0 0] (s.drop 4) ∧ Below w.heap.size w w10) := Lib.hid ⟨HX11.out.1.below hb10, Below.chain hb10 HX11.out.2⟩; clear hown10 hgrow10 hat10 hb10 Zj j0 fj0 j1 fj1 Zr r0 fr0 r1 fr1 Zq q0 fq0 q1 fq1; have k0 := HX13.out.1.1; have k1 := HX13.out.1.2.1; have k2 := HX13.out.1.2.2; obtain ⟨Xj, Yj, Zj⟩ := k0.facts; have j0 := Xj 0; have j1 := Xj 1; have fj0 := Yj 0; have fj1 := Yj 1; obtain ⟨Xr, Yr, Zr⟩ := k1.facts; have r0 := Xr 0; have r1 := Xr 1; have fr0 := Yr 0; have fr1 := Yr 1; obtain ⟨Xq, Yq, Zq⟩ := k2.facts; have q0 := Xq 0; have q1 := Xq 1; have fq0 := Yq 0; have fq1 := Yq 1; clear k0 Xj Yj k1 Xr Yr k2 Xq Yq)
        go_region
        go_wp2_with fail
        refine bodyPost_ret (v := .tuple #[.agg #[.int .i64 room, .slice a10 (A.length + (m - (A.length + 1))) c10], Str (textF e'.ps n), .bool true, .int .i64 0]) (by simp [results, Try.results37, go_sem, r0, r1, Str]) rfl (PutOk.whole HI6.out HE.out.2 HPL.out HE.out.1 hall HO10.out HML.out rfl (Nat.lt_of_lt_of_le HX11.out.1.2.2.lt (Nat.le_refl _)) HX13.out.2)
    · go_upto_region 24 with fail
      go_region
      go_wp2_with fail
      refine bodyPost_ret (v := .tuple #[.agg #[.int .i64 room, .slice (some ⟨g4, o4, none⟩) m c4], Str [], .bool false, .int .i64 0]) (by simp [results, Try.results37, go_sem, r0, r1, Str]) rfl (PutOk.more HI6.out HE.out.2 HPL.out HE.out.1 hall HO8.out HML.out (Nat.lt_of_lt_of_le HS4.out (Nat.le_refl _)) HX11.out.2)
end Go.Proofs.Ytgfbhclkpephnaa
