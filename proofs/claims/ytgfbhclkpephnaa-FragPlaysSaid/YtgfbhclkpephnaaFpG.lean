/-
  The document's joiner (lightshipref49): Put of an id that is there: unlike.
-/
import Derived.Test.YtgfbhclkpephnaaFpF
import Derived.Test.YtgfbhclkpephnaaWireRef
namespace Go.Proofs.Ytgfbhclkpephnaa
open Go Go.RowKit
set_option linter.unusedVariables false
set_option linter.unusedSimpArgs false
set_option maxRecDepth 100000
set_option maxHeartbeats 1000000
theorem ext6 (s : List UInt8) : (⟨s.toArray⟩ : ByteArray).extract 6 s.length = ⟨(s.drop 6).toArray⟩ := by
  rw [ext_list, List.take_length]
theorem place_nat (s : List UInt8) (h7 : ¬ s.length ≤ 6) (hf : ¬ (ptS s).n ≤ (ptS s).place) : ∃ p : Nat, (ptS s).place = (p : Int) ∧ p < 255 := by
  obtain ⟨h4, h5, e4, e5⟩ := at_ptS s h7
  have := UInt8.toNat_lt s[5]
  exact ⟨s[4].toNat, e4.symm, by omega⟩
theorem rput_unlike (s : List UInt8) (room : Int) {v : Value} {A : List AE} (w : World) (h : SegA w v A) (hs7 : ¬ s.length ≤ 6) (hs1 : s.length ≤ 1000) (hga : GA room A) (hf : ¬ (ptS s).n ≤ (ptS s).place) (hg : ∃ e, getA (ptS s).id A = some e ∧ (e.n ≠ (ptS s).n ∨ ∃ v, getP (ptS s).place e.ps = some v ∧ v ≠ (ptS s).body)) :
    Calls Try.prog 37 #[docJ room v, Str s] w (PutD w v room ⟨A, [], false, 16⟩) := by
  obtain ⟨a, cp, rfl⟩ := Seg.form h
  unfold docJ
  have k0 := (Blk.new w #[.int .i64 room, .slice a A.length cp] 80).alloc (.cells #[.int .i64 0, .slice none 0 0] 80)
  have k1 := Blk.new (w.alloc (.cells #[.int .i64 room, .slice a A.length cp] 80)) #[.int .i64 0, .slice none 0 0] 80
  simp only [size_alloc] at k1
  have hB := Below.chainAlloc (Below.chainAlloc (Below.refl _ w) (.cells #[.int .i64 room, .slice a A.length cp] 80)) (.cells #[.int .i64 0, .slice none 0 0] 80)
  have HB := Lib.hid hB
  have HR0 := Lib.hid h
  clear h hB
  have HX3 : Hid (HX49 (((w.alloc (.cells #[.int .i64 room, .slice a A.length cp] 80)).alloc (.cells #[.int .i64 0, .slice none 0 0] 80)).alloc (.cells #[Str s, .int .i64 0] 144)) w.heap.size #[.int .i64 room, .slice a A.length cp] #[.int .i64 0, .slice none 0 0] s ∧ Below w.heap.size w (((w.alloc (.cells #[.int .i64 room, .slice a A.length cp] 80)).alloc (.cells #[.int .i64 0, .slice none 0 0] 80)).alloc (.cells #[Str s, .int .i64 0] 144))) := Lib.hid ⟨⟨k0.alloc _, k1.alloc _, Blk.newAt (by simp only [size_alloc])⟩, Below.chainAlloc HB.out _⟩
  obtain ⟨i0, hif, hz0, hz1, hz2⟩ := info_parts infoE
  have HGA := Lib.hid hga
  have hpn : ¬ (ptS s).n ≤ (ptS s).place := hf
  obtain ⟨p, hpl, hp255⟩ := place_nat s hs7 hf
  rw [hpl] at hpn
  have HPL := Lib.hid hpl
  rw [hpl] at hg
  have HG := Lib.hid hg
  clear hga hf hg
  have h7 : ¬ (s.length : Int) < 7 := by omega
  have HNUM : Hid (∀ w', Num49 s w') := Lib.hid (num49 s hs7 hs1)
  obtain ⟨h4, h5, hp4, hp5⟩ := at_ptS s hs7
  have hw4 : wrap64 ((s[4].toNat : Nat) : Int) = (ptS s).place := by rw [← hp4]; exact IntWalk.wrap64_in _ (by have := UInt8.toNat_lt s[4]; omega)
  have hw5 : wrap64 ((s[5].toNat : Nat) : Int) = (ptS s).n := by rw [← hp5]; exact IntWalk.wrap64_in _ (by have := UInt8.toNat_lt s[5]; omega)
  have HW := Lib.hid (And.intro hw4 hw5)
  have h4i : (4 : Int) < (s.length : Int) := by omega
  have h5i : (5 : Int) < (s.length : Int) := by omega
  clear hp4 hp5 hw4 hw5
  have hbg := byte_get
  obtain ⟨Xj, Yj, Zj⟩ := k0.facts
  have j0 := Xj 0
  have j1 := Xj 1
  have fj0 := Yj 0
  have fj1 := Yj 1
  obtain ⟨Xr, Yr, Zr⟩ := k1.facts
  have r0 := Xr 0
  have r1 := Xr 1
  have fr0 := Yr 0
  have fr1 := Yr 1
  clear k0 Xj Yj k1 Xr Yr
  go_enter Try.func37, Try.ntmps37
  go_upto_region 4 with fail
  generalize (((w.alloc (.cells #[.int .i64 room, .slice a A.length cp] 80)).alloc (.cells #[.int .i64 0, .slice none 0 0] 80)).alloc (.cells #[Str s, .int .i64 0] 144)) = W at *
  have k0 := HX3.out.1.1
  have k1 := HX3.out.1.2.1
  have k2 := HX3.out.1.2.2
  clear Zj j0 fj0 j1 fj1 Zr r0 fr0 r1 fr1
  obtain ⟨Xj, Yj, Zj⟩ := k0.facts
  have j0 := Xj 0
  have j1 := Xj 1
  have fj0 := Yj 0
  have fj1 := Yj 1
  obtain ⟨Xr, Yr, Zr⟩ := k1.facts
  have r0 := Xr 0
  have r1 := Xr 1
  have fr0 := Yr 0
  have fr1 := Yr 1
  obtain ⟨Xq, Yq, Zq⟩ := k2.facts
  have q0 := Xq 0
  have q1 := Xq 1
  have fq0 := Yq 0
  have fq1 := Yq 1
  clear k0 Xj Yj k1 Xr Yr k2 Xq Yq
  go_wp2_with fail
  refine (HNUM.out W).mono ?_
  rintro x w1 ⟨rfl, hb⟩
  have HX4 : Hid (HX49 w1 w.heap.size #[.int .i64 room, .slice a A.length cp] #[.int .i64 0, .slice none 0 0] s ∧ Below w.heap.size w w1) := Lib.hid ⟨HX3.out.1.below hb, Below.chain hb HX3.out.2⟩
  have k0 := HX4.out.1.1
  have k1 := HX4.out.1.2.1
  have k2 := HX4.out.1.2.2
  clear hb HX3 Zj j0 fj0 j1 fj1 Zr r0 fr0 r1 fr1 Zq q0 fq0 q1 fq1
  obtain ⟨Xj, Yj, Zj⟩ := k0.facts
  have j0 := Xj 0
  have j1 := Xj 1
  have fj0 := Yj 0
  have fj1 := Yj 1
  obtain ⟨Xr, Yr, Zr⟩ := k1.facts
  have r0 := Xr 0
  have r1 := Xr 1
  have fr0 := Yr 0
  have fr1 := Yr 1
  obtain ⟨Xq, Yq, Zq⟩ := k2.facts
  have q0 := Xq 0
  have q1 := Xq 1
  have fq0 := Yq 0
  have fq1 := Yq 1
  clear k0 Xj Yj k1 Xr Yr k2 Xq Yq
  go_upto_region 5 with fail
  change Code.wp _ _ _ _ ((w1.setCell ⟨w.heap.size + 1 + 1, 0, none⟩ (Str (s.drop 4))).setCell ⟨w.heap.size + 1 + 1, 1, none⟩ (.int .i64 0))
  have HX5 : Hid (HX49 ((w1.setCell ⟨w.heap.size + 1 + 1, 0, none⟩ (Str (s.drop 4))).setCell ⟨w.heap.size + 1 + 1, 1, none⟩ (.int .i64 0)) w.heap.size #[.int .i64 room, .slice a A.length cp] #[.int .i64 0, .slice none 0 0] (s.drop 4) ∧ Below w.heap.size w ((w1.setCell ⟨w.heap.size + 1 + 1, 0, none⟩ (Str (s.drop 4))).setCell ⟨w.heap.size + 1 + 1, 1, none⟩ (.int .i64 0))) := Lib.hid ⟨HX4.out.1.num _, Below.only HX4.out.2 (only_ret2 _ _ _ _) (by simp; omega)⟩
  clear HX4 Zj j0 fj0 j1 fj1 Zr r0 fr0 r1 fr1 Zq q0 fq0 q1 fq1
  generalize (w1.setCell ⟨w.heap.size + 1 + 1, 0, none⟩ (Str (s.drop 4))).setCell ⟨w.heap.size + 1 + 1, 1, none⟩ (.int .i64 0) = w2 at *
  go_quiet (fail)
  rw [HW.out.1, HW.out.2]
  have HX6 : Hid (HX49 (w2.drewN nq) w.heap.size #[.int .i64 room, .slice a A.length cp] #[.int .i64 0, .slice none 0 0] (s.drop 4) ∧ Below w.heap.size w (w2.drewN nq)) := Lib.hid ⟨HX5.out.1, below_drewN HX5.out.2 _⟩
  clear HX5
  generalize w2.drewN nq = w3 at *
  have k0 := HX6.out.1.1
  have k1 := HX6.out.1.2.1
  have k2 := HX6.out.1.2.2
  obtain ⟨Xj, Yj, Zj⟩ := k0.facts
  have j0 := Xj 0
  have j1 := Xj 1
  have fj0 := Yj 0
  have fj1 := Yj 1
  obtain ⟨Xr, Yr, Zr⟩ := k1.facts
  have r0 := Xr 0
  have r1 := Xr 1
  have fr0 := Yr 0
  have fr1 := Yr 1
  obtain ⟨Xq, Yq, Zq⟩ := k2.facts
  have q0 := Xq 0
  have q1 := Xq 1
  have fq0 := Yq 0
  have fq1 := Yq 1
  clear k0 Xj Yj k1 Xr Yr k2 Xq Yq
  rw [HPL.out]
  have HQ1 : Hid (0 + A.length ≤ maxLen ∧ (0 + A.length) * 4096 ≤ 140737488355328) := Lib.hid (by have := HGA.out.le; unfold maxLen; omega)
  have HRD : Hid (RdS w3 257 (.slice a A.length cp) A.length (rowsA A)) := Lib.hid (Seg.rds (HR0.out.chain HX6.out.2))
  have HON : Hid (∀ u ∈ rowsA A, u.oneCell' = true) := Lib.hid (one_rowsA A)
  go_upto_region 10 with (at_builtin; refine wpList_append_rds rfl (.tmp 38) (.tmp 40) 78 rfl w3.heap.size tE i0 _ 257 4096 undSE hif hz0 hz1 hz2 zeroE_size (by decide) (.slice none 0 0) 0 [] rfl (Seg.nil _ _ _ _) (.slice a A.length cp) A.length (rowsA A) rfl HRD.out HON.out HQ1.out.1 HQ1.out.2 (Nat.le_refl _) ?_; intro v4 w4 hown4 hgrow4 hat4; rw [List.nil_append, Nat.zero_add] at hown4)
  have hb4 : Below w3.heap.size w3 w4 := (Only.grown (S := []) (Only.refl _ _) hgrow4 (fun x hx => by cases hx)).nil
  obtain ⟨a4, c4, rfl⟩ := hown4.form
  have HO4 := Lib.hid hown4
  have HS4 : Hid (w.heap.size + 1 + 1 < w3.heap.size) := Lib.hid HX6.out.1.2.2.lt
  have HB34 := Lib.hid hb4
  have HX7 : Hid (HX49 w4 w.heap.size #[.int .i64 room, .slice a A.length cp] #[.int .i64 0, .slice none 0 0] (s.drop 4) ∧ Below w.heap.size w w4) := Lib.hid ⟨HX6.out.1.below hb4, Below.chain hb4 HX6.out.2⟩
  have k0 := HX7.out.1.1
  have k1 := HX7.out.1.2.1
  have k2 := HX7.out.1.2.2
  clear hown4 hgrow4 hat4 hb4 HX6 HRD HON Zj j0 fj0 j1 fj1 Zr r0 fr0 r1 fr1 Zq q0 fq0 q1 fq1
  obtain ⟨Xj, Yj, Zj⟩ := k0.facts
  have j0 := Xj 0
  have j1 := Xj 1
  have fj0 := Yj 0
  have fj1 := Yj 1
  obtain ⟨Xr, Yr, Zr⟩ := k1.facts
  have r0 := Xr 0
  have r1 := Xr 1
  have fr0 := Yr 0
  have fr1 := Yr 1
  obtain ⟨Xq, Yq, Zq⟩ := k2.facts
  have q0 := Xq 0
  have q1 := Xq 1
  have fq0 := Yq 0
  have fq1 := Yq 1
  clear k0 Xj Yj k1 Xr Yr k2 Xq Yq
  have HAT := Lib.hid (rat49 (ptS s).id room w4 (HR0.out.chain HX7.out.2) (Nat.le_trans HGA.out.le (by decide)))
  go_wp2_with fail
  refine HAT.out.mono ?_
  rintro x w5 ⟨r, rfl, hr, hb⟩
  have HX8 : Hid (HX49 w5 w.heap.size #[.int .i64 room, .slice a A.length cp] #[.int .i64 0, .slice none 0 0] (s.drop 4) ∧ Below w.heap.size w w5) := Lib.hid ⟨HX7.out.1.below hb, Below.chain hb HX7.out.2⟩
  have HO5 := Lib.hid (HO4.out.chain hb)
  have HB35 := Lib.hid (Below.chain hb HB34.out)
  have k0 := HX8.out.1.1
  have k1 := HX8.out.1.2.1
  have k2 := HX8.out.1.2.2
  clear hb HX7 HAT HO4 HB34 Zj j0 fj0 j1 fj1 Zr r0 fr0 r1 fr1 Zq q0 fq0 q1 fq1
  obtain ⟨Xj, Yj, Zj⟩ := k0.facts
  have j0 := Xj 0
  have j1 := Xj 1
  have fj0 := Yj 0
  have fj1 := Yj 1
  obtain ⟨Xr, Yr, Zr⟩ := k1.facts
  have r0 := Xr 0
  have r1 := Xr 1
  have fr0 := Yr 0
  have fr1 := Yr 1
  obtain ⟨Xq, Yq, Zq⟩ := k2.facts
  have q0 := Xq 0
  have q1 := Xq 1
  have fq0 := Yq 0
  have fq1 := Yq 1
  clear k0 Xj Yj k1 Xr Yr k2 Xq Yq
  rcases hr.get HGA.out.nd with ⟨i, hi, rfl, hg, hidx⟩ | ⟨rfl, hg⟩
  · have hi0 : (0 : Int) ≤ (i : Int) := by omega
    have hi0' : ¬ (i : Int) < 0 := by omega
    have hii : (i : Int) < (A.length : Int) := by omega
    have hp0 : (0 : Int) ≤ (p : Int) := by omega
    have hp1 : (p : Int) < 255 := by omega
    obtain ⟨g4, o4, _, ea, hg4, hg4', _⟩ := HO5.out.shape (Nat.lt_of_le_of_lt (Nat.zero_le _) hi)
    cases ea
    have d1 : w5.cell? ⟨g4, o4 + i * 257 + 1, none⟩ = some (.int .i64 A[i].n) := (SegA.cell (HO5.out.le (Nat.zero_le _)) rfl i hi 1 (by decide)).trans rfl
    have d2 : w5.cell? ⟨g4, o4 + i * 257 + 2 + p, none⟩ = some (Str ((getP (p : Int) A[i].ps).getD [])) := by
      have h := SegA.cell (HO5.out.le (Nat.zero_le _)) rfl i hi (2 + p) (by omega)
      rw [← Nat.add_assoc] at h
      rw [h]
      exact rowA_at _ p (by omega)
    have HI := Lib.hid hi
    have HF := Lib.hid (Below.only HX8.out.2 (only_ret2 (w.heap.size + 1) w5 (.int .i64 room) (.slice a A.length cp)) (by simp))
    obtain ⟨e, he, hu⟩ := HG.out
    rw [hg] at he
    have hee := Option.some.inj he
    subst hee
    clear hidx
    have HGE := Lib.hid (HGA.out.g _ (List.getElem_mem hi))
    generalize hN : A[i].n = N at *
    by_cases hn : N = (ptS s).n
    · have hn' : (N != (ptS s).n) = false := by simp [hn]
      rcases hu with hu | ⟨X, hX, hb⟩
      · exact absurd hn hu
      · rw [hX] at d2
        have hxe : X.isEmpty = false := by
          have := HGE.out.b _ (getP_mem hX)
          cases X <;> simp_all
        change _ = some (Str X) at d2
        have hxt := ext6 s
        have hcmp : (X == s.drop 6) = false := by
          have h : X ≠ s.drop 6 := hb
          simp [h]
        clear he hg hX hb HGE hi hn
        go_wp2_with fail
        go_quiet (fail)
        go_wp2_with fail
        refine bodyPost_ret (v := .tuple #[.agg #[.int .i64 room, .slice a A.length cp], Str [], .bool false, .int .i64 16]) (by simp [results, Try.results37, go_sem, r0, r1, Str]) rfl (PutD.same HR0.out ?_)
        first | exact HF.out | exact Below.chainAlloc (Below.chainAlloc (Below.refl _ _) _) _ | exact Below.only (below_drewN HX8.out.2 _) (only_ret2 _ _ _ _) (by simp)
    · have hn' : (N != (ptS s).n) = true := by simp [hn]
      clear he hg hu HGE d2 hi hn
      go_wp2_with fail
      go_quiet (fail)
      go_wp2_with fail
      refine bodyPost_ret (v := .tuple #[.agg #[.int .i64 room, .slice a A.length cp], Str [], .bool false, .int .i64 16]) (by simp [results, Try.results37, go_sem, r0, r1, Str]) rfl (PutD.same HR0.out ?_)
      first | exact HF.out | exact Below.chainAlloc (Below.chainAlloc (Below.refl _ _) _) _ | exact Below.only (below_drewN HX8.out.2 _) (only_ret2 _ _ _ _) (by simp)
  · obtain ⟨e, he, _⟩ := HG.out
    rw [hg] at he
    cases he
end Go.Proofs.Ytgfbhclkpephnaa
