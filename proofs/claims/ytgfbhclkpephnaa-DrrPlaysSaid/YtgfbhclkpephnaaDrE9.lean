/-
  The law's deed: the next item.
-/
import Derived.Test.YtgfbhclkpephnaaDrE8
import Derived.Test.YtgfbhclkpephnaaDr11
namespace Go.Proofs.Ytgfbhclkpephnaa
open Go Go.RowKit
set_option linter.unusedVariables false
set_option linter.unusedSimpArgs false
set_option maxRecDepth 100000
set_option maxHeartbeats 1000000
theorem NextIs.tot {S S' : PS} {x : Int × Int} (h : NextIs S S' x) (ok : S.Ok) : totQ S'.qs ≤ totQ S.qs := by
  obtain ⟨f, hf⟩ := h
  induction f generalizing S with
  | zero => cases hf
  | succ f ih =>
    by_cases hr : S.round = []
    · unfold nextF frontQ at hf
      rw [hr] at hf
      cases hf
    · obtain ⟨q, rest, y, ys, hfr⟩ := ok.front hr
      unfold nextF at hf
      rw [hfr.eq] at hf
      simp only at hf
      by_cases hd : (servP S.quantum q).deficit < y.2
      · rw [if_pos hd] at hf
        have := ih (turnP_ok ok hfr hd) hf
        rw [turnP_tot ok hfr] at this
        exact this
      · rw [if_neg hd] at hf
        cases hf
        have := takeP_tot ok hfr
        omega
theorem NextIs.ne {S S' : PS} {x : Int × Int} (h : NextIs S S' x) : S.round ≠ [] := fun hr => by
  obtain ⟨f, hf⟩ := h
  cases f with
  | zero => cases hf
  | succ f =>
    unfold nextF frontQ at hf
    rw [hr] at hf
    cases hf
/-- Both answers. -/
theorem next_facts {W w w1 : World} {bs : Nat} {S : PS} {F : List Nat} {ls : List Value} {e : Ending} (h : RNextPost w ls S e w1) (hok : S.Ok) (ht : totQ S.qs ≤ 60000) :
    ∃ S1 x1 x2 okb qv1 rv1 ls1, e = .returned (.tuple #[docV S1 qv1 rv1, .agg #[.int .i64 x1, .int .i64 x2], .bool okb]) ∧ DocR w1 qv1 rv1 ls1 S1 ∧ SubL w.heap.size ls ls1 ∧ Below w.heap.size w w1 ∧
      (∀ F w', Al W bs S F w' → Calls Try.prog 20 #[.pointer (some ⟨bs, 0, none⟩)] w' fun e w5 => e = .returned (.tuple #[.agg #[.int .i64 x1, .int .i64 x2], .bool okb]) ∧ Al W bs S1 F w5 ∧ Keep F w' w5) ∧ totQ S1.qs ≤ totQ S.qs + 1 := by
  obtain ⟨qv, rv, ls1, h, hsub, hb⟩ := h
  rcases h with ⟨hr, he, hd⟩ | ⟨S1, x, hn, he, hd⟩
  · exact ⟨S, 0, 0, false, qv, rv, ls1, he, hd, hsub, hb, fun F w' ha => al_next0 ha hr, Nat.le_succ _⟩
  · refine ⟨S1, x.1, x.2, true, qv, rv, ls1, he, hd, hsub, hb, fun F w' ha => ?_, Nat.le_succ_of_le (hn.tot hok)⟩
    exact al_next_is ha ht hn.ne hn
theorem do_next {W : World} {bs : Nat} {S : PS} {F : List Nat} {qv rv : Value} {ls : List Value} (kd id wt : Int) (w : World) (h : Joint W bs S F qv rv ls w) (ht : totQ S.qs ≤ 60000) (hk : kd ≠ 0 ∧ kd ≠ 1 ∧ kd ≠ 2) :
    Calls Try.prog 13 #[.pointer (some ⟨bs, 0, none⟩), docV S qv rv, .agg #[.int .i64 kd, .int .i64 id, .int .i64 wt]] w (DoPost W bs F w (totQ S.qs + 1)) := by
  obtain ⟨aq, cq, rfl⟩ := h.d.2.1.form
  obtain ⟨ar, cr, rfl⟩ := h.d.2.2.2.form
  unfold docV
  have n0 : (kd == 0) = false := beq_eq_false_iff_ne.2 hk.1
  have n1 : (kd == 1) = false := beq_eq_false_iff_ne.2 hk.2.1
  have n2 : (kd == 2) = false := beq_eq_false_iff_ne.2 hk.2.2
  have hS := h.al.ok
  have h0 := h.new (.cells #[.int .i64 S.quantum, .slice aq S.qs.length cq, .slice ar S.round.length cr] 31)
  have h1 := h0.new (.cells #[.int .i64 kd, .int .i64 id, .int .i64 wt] 37)
  have h2 := h1.new (.cells #[.int .i64 0, .slice none 0 0, .slice none 0 0] 31)
  have k0 := ((Blk.new w #[.int .i64 S.quantum, .slice aq S.qs.length cq, .slice ar S.round.length cr] 31).alloc (.cells #[.int .i64 kd, .int .i64 id, .int .i64 wt] 37)).alloc (.cells #[.int .i64 0, .slice none 0 0, .slice none 0 0] 31)
  have k1 := (Blk.new (w.alloc (.cells #[.int .i64 S.quantum, .slice aq S.qs.length cq, .slice ar S.round.length cr] 31)) #[.int .i64 kd, .int .i64 id, .int .i64 wt] 37).alloc (.cells #[.int .i64 0, .slice none 0 0, .slice none 0 0] 31)
  have k2 := Blk.new ((w.alloc (.cells #[.int .i64 S.quantum, .slice aq S.qs.length cq, .slice ar S.round.length cr] 31)).alloc (.cells #[.int .i64 kd, .int .i64 id, .int .i64 wt] 37)) #[.int .i64 0, .slice none 0 0, .slice none 0 0] 31
  simp only [size_alloc] at h1 h2 k1 k2
  have hB := Below.chainAlloc (Below.chainAlloc (Below.chainAlloc (Below.refl _ w) (.cells #[.int .i64 S.quantum, .slice aq S.qs.length cq, .slice ar S.round.length cr] 31)) (.cells #[.int .i64 kd, .int .i64 id, .int .i64 wt] 37)) (.cells #[.int .i64 0, .slice none 0 0, .slice none 0 0] 31)
  have HH := Lib.hid h2
  have HB := Lib.hid hB
  have HX := Lib.hid (And.intro k0 (And.intro k1 k2))
  have HFW : Hid (∀ y ∈ F, y < w.heap.size) := Lib.hid h.al.f
  have HWW : Hid (W.heap.size ≤ w.heap.size) := Lib.hid h.al.b.size
  have HOK := Lib.hid hS
  have HT := Lib.hid ht
  have HD := Lib.hid (rnext_any _ h2.d hS)
  unfold docV at HD
  obtain ⟨Xs, Ys, Zs⟩ := k0.facts
  have s0 := Xs 0
  have s1 := Xs 1
  have s2 := Xs 2
  have fs0 := Ys 0
  have fs1 := Ys 1
  have fs2 := Ys 2
  obtain ⟨Xd, Yd, Zd⟩ := k1.facts
  have d0 := Xd 0
  have d1 := Xd 1
  have d2 := Xd 2
  have fd0 := Yd 0
  have fd1 := Yd 1
  have fd2 := Yd 2
  obtain ⟨Xr, Yr, Zr⟩ := k2.facts
  have r0 := Xr 0
  have r1 := Xr 1
  have r2 := Xr 2
  have fr0 := Yr 0
  have fr1 := Yr 1
  have fr2 := Yr 2
  clear k0 Xs Ys k1 Xd Yd k2 Xr Yr
  clear h h0 h1 h2 hB ht hk
  go_enter Try.func13, Try.ntmps13
  go_wp2_with fail
  generalize hW0 : ((w.alloc (.cells #[.int .i64 S.quantum, .slice aq S.qs.length cq, .slice ar S.round.length cr] 31)).alloc (.cells #[.int .i64 kd, .int .i64 id, .int .i64 wt] 37)).alloc (.cells #[.int .i64 0, .slice none 0 0, .slice none 0 0] 31) = W0 at *
  clear hW0
  refine HD.out.mono ?_
  intro e w1 hpost
  obtain ⟨S1, x1, x2, okb, qv1, rv1, ls1, rfl, hd1, hsub, hb, hcall, htt⟩ := next_facts (W := W) (bs := bs) (F := F) hpost HOK.out HT.out
  have HTT := Lib.hid htt
  have HAL := Lib.hid hcall
  obtain ⟨F1, hF1, hal1, hi1⟩ := HH.out.al.doc hd1 hb hsub HH.out.i
  obtain ⟨a1, c1, rfl⟩ := hd1.2.1.form
  obtain ⟨a2, c2, rfl⟩ := hd1.2.2.2.form
  unfold docV
  have hal2 := (hal1.new (.cells #[.int .i64 S1.quantum, .slice a1 S1.qs.length c1, .slice a2 S1.round.length c2] 31)).new (.cells #[.int .i64 x1, .int .i64 x2] 35)
  rw [size_alloc] at hal2
  have hb2 := Below.chainAlloc (Below.chainAlloc (Below.refl _ w1) (.cells #[.int .i64 S1.quantum, .slice a1 S1.qs.length c1, .slice a2 S1.round.length c2] 31)) (.cells #[.int .i64 x1, .int .i64 x2] 35)
  have HX1 := Lib.hid (HX.out.2.2.below hb HX.out.2.2.lt)
  have k4 := Blk.new (w1.alloc (.cells #[.int .i64 S1.quantum, .slice a1 S1.qs.length c1, .slice a2 S1.round.length c2] 31)) #[.int .i64 x1, .int .i64 x2] 35
  rw [size_alloc] at k4
  have HX2 := Lib.hid (And.intro (HX1.out.below hb2 HX1.out.lt) (And.intro ((Blk.new w1 #[.int .i64 S1.quantum, .slice a1 S1.qs.length c1, .slice a2 S1.round.length c2] 31).alloc (.cells #[.int .i64 x1, .int .i64 x2] 35)) k4))
  have HB2 := Lib.hid (Below.chain hb2 (Below.chain hb HB.out))
  have HD2 := Lib.hid (hd1.chain hb2)
  have HI2 : Hid (∀ v ∈ (Value.slice a1 S1.qs.length c1) :: (.slice a2 S1.round.length c2) :: ls1, ∀ g, v.ownBlock = some g → g ∈ (w1.heap.size + 1) :: w1.heap.size :: F1) := Lib.hid fun v hv g hg => List.mem_cons_of_mem _ (List.mem_cons_of_mem _ (hi1 v hv g hg))
  have HAL2 := Lib.hid hal2
  have HF2 : Hid ((∀ y ∈ F, y ∈ (w1.heap.size + 1) :: w1.heap.size :: F1) ∧ w.heap.size + 1 + 1 ∈ (w1.heap.size + 1) :: w1.heap.size :: F1 ∧ w1.heap.size ∈ (w1.heap.size + 1) :: w1.heap.size :: F1 ∧ w1.heap.size + 1 ∈ (w1.heap.size + 1) :: w1.heap.size :: F1) := Lib.hid ⟨fun y hy => List.mem_cons_of_mem _ (List.mem_cons_of_mem _ (hF1 y (List.mem_cons_of_mem _ (List.mem_cons_of_mem _ (List.mem_cons_of_mem _ hy))))), List.mem_cons_of_mem _ (List.mem_cons_of_mem _ (hF1 _ List.mem_cons_self)), List.mem_cons_of_mem _ List.mem_cons_self, List.mem_cons_self⟩
  clear hd1 hsub hb hF1 hal1 hi1 hal2 hb2 HD HH HX k4 hcall htt hpost Zs s0 fs0 s1 fs1 s2 fs2 Zd d0 fd0 d1 fd1 d2 fd2 Zr r0 fr0 r1 fr1 r2 fr2
  go_wp2_with fail
  generalize (w1.alloc (.cells #[.int .i64 S1.quantum, .slice a1 S1.qs.length c1, .slice a2 S1.round.length c2] 31)).alloc (.cells #[.int .i64 x1, .int .i64 x2] 35) = W2 at *
  generalize w1.heap.size = b3 at *
  refine (HAL.out _ W2 HAL2.out).mono ?_
  rintro e w5 ⟨rfl, hal5, hk5⟩
  have m2 := hk5.blk HX2.out.1 HF2.out.2.1
  have m3 := hk5.blk HX2.out.2.1 HF2.out.2.2.1
  have m4 := hk5.blk HX2.out.2.2 HF2.out.2.2.2
  have hb6 := Below.chainAlloc (Below.refl _ w5) (.cells #[.int .i64 x1, .int .i64 x2] 35)
  have HE6 := Lib.hid (And.intro (hal5.chain hb6) (And.intro (hk5.trans (Keep.of_below hb6 hal5.f)) (And.intro (m2.below hb6 m2.lt) (And.intro (m3.below hb6 m3.lt) (And.intro (m4.below hb6 m4.lt) (Blk.new w5 #[.int .i64 x1, .int .i64 x2] 35))))))
  clear hal5 hk5 m2 m3 m4 hb6
  go_upto_region 13 with fail
  generalize w5.alloc (.cells #[.int .i64 x1, .int .i64 x2] 35) = W6 at *
  generalize w5.heap.size = b5 at *
  have k2 := HE6.out.2.2.1
  have k3 := HE6.out.2.2.2.1
  have k4 := HE6.out.2.2.2.2.1
  have k5 := HE6.out.2.2.2.2.2
  obtain ⟨Xr, Yr, Zr⟩ := k2.facts
  have r0 := Xr 0
  have r1 := Xr 1
  have r2 := Xr 2
  have fr0 := Yr 0
  have fr1 := Yr 1
  have fr2 := Yr 2
  obtain ⟨Xy, Yy, Zy⟩ := k3.facts
  have y0 := Xy 0
  have y1 := Xy 1
  have y2 := Xy 2
  have fy0 := Yy 0
  have fy1 := Yy 1
  have fy2 := Yy 2
  obtain ⟨Xp, Yp, Zp⟩ := k4.facts
  have p0 := Xp 0
  have p1 := Xp 1
  have fp0 := Yp 0
  have fp1 := Yp 1
  obtain ⟨Xu, Yu, Zu⟩ := k5.facts
  have u0 := Xu 0
  have u1 := Xu 1
  have fu0 := Yu 0
  have fu1 := Yu 1
  clear k2 Xr Yr k3 Xy Yy k4 Xp Yp k5 Xu Yu
  go_region
  go_wp2_with fail
  refine bodyPost_ret (v := .tuple #[.agg #[.int .i64 S1.quantum, .slice a1 S1.qs.length c1, .slice a2 S1.round.length c2], .bool true]) (by simp [results, Try.results13, go_sem, r0, r1, r2]) rfl (do_fin (w3 := W2) (w5 := W6) (Keep.of_below HB2.out HFW.out) HF2.out.1 HE6.out.1 HE6.out.2.1 HD2.out HI2.out HF2.out.2.1 (fun hm => ?_) ?_ HE6.out.2.2.1 ?_ HTT.out)
  · have := HFW.out _ hm
    omega
  · have := HWW.out
    omega
  · exact (only_ret1 _ _ _ _ _).drew
theorem do_any {W : World} {bs : Nat} {S : PS} {F : List Nat} {qv rv : Value} {ls : List Value} (kd id wt : Int) (w : World) (h : Joint W bs S F qv rv ls w) (ht : totQ S.qs ≤ 60000) :
    Calls Try.prog 13 #[.pointer (some ⟨bs, 0, none⟩), docV S qv rv, .agg #[.int .i64 kd, .int .i64 id, .int .i64 wt]] w (DoPost W bs F w (totQ S.qs + 1)) := by
  by_cases h0 : kd = 0
  · subst h0; exact do_add id wt w h ht
  · by_cases h1 : kd = 1
    · subst h1; exact do_rem id wt w h ht
    · by_cases h2 : kd = 2
      · subst h2; exact do_push id wt w h ht
      · exact do_next kd id wt w h ht ⟨h0, h1, h2⟩
end Go.Proofs.Ytgfbhclkpephnaa
