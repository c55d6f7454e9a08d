/-
  The law's deed, for each kind.
-/
import Derived.Test.YtgfbhclkpephnaaDrE7
namespace Go.Proofs.Ytgfbhclkpephnaa
open Go Go.RowKit
set_option linter.unusedVariables false
set_option linter.unusedSimpArgs false
set_option maxRecDepth 100000
set_option maxHeartbeats 1000000
theorem rrem_any (id : Int) {qv rv : Value} {ls : List Value} {S : PS} (w : World) (h : DocR w qv rv ls S) (hS : S.Ok) :
    Calls Try.prog 46 #[docV S qv rv, .int .i64 id] w (DAns w ls (remA S id) (remE S id)) := by
  unfold remA remE
  cases hg : getQ id S.qs with
  | none => exact rrem_none id w h hS hg
  | some q => exact rrem_ok id w h hS (by rw [hg]; simp)
theorem tot_add (S : PS) (id wt : Int) : totQ (if addE S id wt = 0 then addP S id wt else S).qs ≤ totQ S.qs + 1 := by
  split
  · show totQ (S.qs ++ [_]) ≤ _
    unfold totQ
    rw [sumQ_app]
    simp [sumQ]
  · omega
theorem tot_rem {S : PS} (h : S.Ok) (id : Int) : totQ (remA S id).qs ≤ totQ S.qs + 1 := by
  unfold remA
  cases hg : getQ id S.qs with
  | none => exact Nat.le_succ _
  | some q =>
    obtain ⟨hq, rfl⟩ := getQ_mem hg
    have := sumQ_filter (fun q => q.items.length) h.nd hg
    show totQ (remP S q.id).qs ≤ _
    unfold totQ remP
    simp only at this ⊢
    omega
theorem tot_push {S : PS} (h : S.Ok) (x : Int × Int) : totQ (pushA S x).qs ≤ totQ S.qs + 1 := by
  unfold pushA
  cases hg : getQ x.1 S.qs with
  | none => exact Nat.le_succ _
  | some q =>
    simp only
    split
    · exact Nat.le_succ _
    · obtain ⟨hq, hid⟩ := getQ_mem hg
      rw [pushP_tot h (by rw [hid]; exact hg)]
      exact Nat.le_refl _
theorem do_add {W : World} {bs : Nat} {S : PS} {F : List Nat} {qv rv : Value} {ls : List Value} (id wt : Int) (w : World) (h : Joint W bs S F qv rv ls w) (ht : totQ S.qs ≤ 60000) :
    Calls Try.prog 13 #[.pointer (some ⟨bs, 0, none⟩), docV S qv rv, .agg #[.int .i64 0, .int .i64 id, .int .i64 wt]] w (DoPost W bs F w (totQ S.qs + 1)) := by
  obtain ⟨aq, cq, rfl⟩ := h.d.2.1.form
  obtain ⟨ar, cr, rfl⟩ := h.d.2.2.2.form
  unfold docV
  have hS := h.al.ok
  have h0 := h.new (.cells #[.int .i64 S.quantum, .slice aq S.qs.length cq, .slice ar S.round.length cr] 31)
  have h1 := h0.new (.cells #[.int .i64 0, .int .i64 id, .int .i64 wt] 37)
  have h2 := h1.new (.cells #[.int .i64 0, .slice none 0 0, .slice none 0 0] 31)
  have k0 := ((Blk.new w #[.int .i64 S.quantum, .slice aq S.qs.length cq, .slice ar S.round.length cr] 31).alloc (.cells #[.int .i64 0, .int .i64 id, .int .i64 wt] 37)).alloc (.cells #[.int .i64 0, .slice none 0 0, .slice none 0 0] 31)
  have k1 := (Blk.new (w.alloc (.cells #[.int .i64 S.quantum, .slice aq S.qs.length cq, .slice ar S.round.length cr] 31)) #[.int .i64 0, .int .i64 id, .int .i64 wt] 37).alloc (.cells #[.int .i64 0, .slice none 0 0, .slice none 0 0] 31)
  have k2 := Blk.new ((w.alloc (.cells #[.int .i64 S.quantum, .slice aq S.qs.length cq, .slice ar S.round.length cr] 31)).alloc (.cells #[.int .i64 0, .int .i64 id, .int .i64 wt] 37)) #[.int .i64 0, .slice none 0 0, .slice none 0 0] 31
  simp only [size_alloc] at h1 h2 k1 k2
  have hB := Below.chainAlloc (Below.chainAlloc (Below.chainAlloc (Below.refl _ w) (.cells #[.int .i64 S.quantum, .slice aq S.qs.length cq, .slice ar S.round.length cr] 31)) (.cells #[.int .i64 0, .int .i64 id, .int .i64 wt] 37)) (.cells #[.int .i64 0, .slice none 0 0, .slice none 0 0] 31)
  have HH := Lib.hid h2
  have HB := Lib.hid hB
  have HX := Lib.hid (And.intro k0 (And.intro k1 k2))
  have HFW : Hid (∀ y ∈ F, y < w.heap.size) := Lib.hid h.al.f
  have HWW : Hid (W.heap.size ≤ w.heap.size) := Lib.hid h.al.b.size
  have HOK := Lib.hid hS
  have HT := Lib.hid ht
  have HD := Lib.hid (radd_any id wt _ h2.d hS (Nat.le_trans hS.qlen (by decide)))
  unfold docV at HD
  obtain ⟨Xs, Ys, Zs⟩ := k0.facts
  have s0 := Xs 0
  have s1 := Xs 1
  have s2 := Xs 2
  have fs0 := Ys 0
  have fs1 := Ys 1
  have fs2 := Ys 2
  obtain ⟨Xd, Yd, Zd⟩ := k1.facts
  have d0 := Xd 0
  have d1 := Xd 1
  have d2 := Xd 2
  have fd0 := Yd 0
  have fd1 := Yd 1
  have fd2 := Yd 2
  obtain ⟨Xr, Yr, Zr⟩ := k2.facts
  have r0 := Xr 0
  have r1 := Xr 1
  have r2 := Xr 2
  have fr0 := Yr 0
  have fr1 := Yr 1
  have fr2 := Yr 2
  clear k0 Xs Ys k1 Xd Yd k2 Xr Yr
  clear h h0 h1 h2 hB ht
  go_enter Try.func13, Try.ntmps13
  go_wp2_with fail
  generalize hW0 : ((w.alloc (.cells #[.int .i64 S.quantum, .slice aq S.qs.length cq, .slice ar S.round.length cr] 31)).alloc (.cells #[.int .i64 0, .int .i64 id, .int .i64 wt] 37)).alloc (.cells #[.int .i64 0, .slice none 0 0, .slice none 0 0] 31) = W0 at *
  clear hW0
  refine HD.out.mono ?_
  rintro e w1 ⟨qv1, rv1, ls1, rfl, hd1, hsub, hb⟩
  have HTT : Hid (totQ (if addE S id wt = 0 then addP S id wt else S).qs ≤ totQ S.qs + 1) := Lib.hid (tot_add S id wt)
  have HAL : Hid (∀ F w', Al W bs S F w' → Calls Try.prog 18 #[.pointer (some ⟨bs, 0, none⟩), .int .i64 id, .int .i64 wt] w' fun e w5 => e = .returned (.int .i64 (addE S id wt)) ∧ Al W bs (if addE S id wt = 0 then addP S id wt else S) F w5 ∧ Keep F w' w5) := Lib.hid fun F w' ha => al_add id wt ha
  generalize (if addE S id wt = 0 then addP S id wt else S) = S1 at *
  generalize (addE S id wt) = E1 at *
  obtain ⟨F1, hF1, hal1, hi1⟩ := HH.out.al.doc hd1 hb hsub HH.out.i
  obtain ⟨a1, c1, rfl⟩ := hd1.2.1.form
  obtain ⟨a2, c2, rfl⟩ := hd1.2.2.2.form
  unfold docV
  have hal2 := hal1.new (.cells #[.int .i64 S1.quantum, .slice a1 S1.qs.length c1, .slice a2 S1.round.length c2] 31)
  have hb2 := Below.chainAlloc (Below.refl _ w1) (.cells #[.int .i64 S1.quantum, .slice a1 S1.qs.length c1, .slice a2 S1.round.length c2] 31)
  have HX1 := Lib.hid (And.intro (HX.out.2.1.below hb HX.out.2.1.lt) (HX.out.2.2.below hb HX.out.2.2.lt))
  have HX2 := Lib.hid (And.intro ((HX1.out.1).below hb2 HX1.out.1.lt) (And.intro ((HX1.out.2).below hb2 HX1.out.2.lt) (Blk.new w1 #[.int .i64 S1.quantum, .slice a1 S1.qs.length c1, .slice a2 S1.round.length c2] 31)))
  have HB2 := Lib.hid (Below.chain hb2 (Below.chain hb HB.out))
  have HD2 := Lib.hid (hd1.chain hb2)
  have HI2 : Hid (∀ v ∈ (Value.slice a1 S1.qs.length c1) :: (.slice a2 S1.round.length c2) :: ls1, ∀ g, v.ownBlock = some g → g ∈ w1.heap.size :: F1) := Lib.hid fun v hv g hg => List.mem_cons_of_mem _ (hi1 v hv g hg)
  have HAL2 := Lib.hid hal2
  have HF2 : Hid ((∀ y ∈ F, y ∈ w1.heap.size :: F1) ∧ w.heap.size + 1 ∈ w1.heap.size :: F1 ∧ w.heap.size + 1 + 1 ∈ w1.heap.size :: F1 ∧ w1.heap.size ∈ w1.heap.size :: F1) := Lib.hid ⟨fun y hy => List.mem_cons_of_mem _ (hF1 y (List.mem_cons_of_mem _ (List.mem_cons_of_mem _ (List.mem_cons_of_mem _ hy)))), List.mem_cons_of_mem _ (hF1 _ (List.mem_cons_of_mem _ List.mem_cons_self)), List.mem_cons_of_mem _ (hF1 _ List.mem_cons_self), List.mem_cons_self⟩
  clear hd1 hsub hb hF1 hal1 hi1 hal2 hb2 HD HH HX Zs s0 fs0 s1 fs1 s2 fs2 Zd d0 fd0 d1 fd1 d2 fd2 Zr r0 fr0 r1 fr1 r2 fr2
  go_upto_region 4 with fail
  generalize w1.alloc (.cells #[.int .i64 S1.quantum, .slice a1 S1.qs.length c1, .slice a2 S1.round.length c2] 31) = W2 at *
  generalize w1.heap.size = b3 at *
  have HCA := Lib.hid (HAL.out _ W2.drew (HAL2.out.chain (Below.refl _ W2).drew))
  have k1 := HX2.out.1
  have k2 := HX2.out.2.1
  have k3 := HX2.out.2.2
  obtain ⟨Xd, Yd, Zd⟩ := k1.facts
  have d0 := Xd 0
  have d1 := Xd 1
  have d2 := Xd 2
  have fd0 := Yd 0
  have fd1 := Yd 1
  have fd2 := Yd 2
  obtain ⟨Xr, Yr, Zr⟩ := k2.facts
  have r0 := Xr 0
  have r1 := Xr 1
  have r2 := Xr 2
  have fr0 := Yr 0
  have fr1 := Yr 1
  have fr2 := Yr 2
  obtain ⟨Xy, Yy, Zy⟩ := k3.facts
  have y0 := Xy 0
  have y1 := Xy 1
  have y2 := Xy 2
  have fy0 := Yy 0
  have fy1 := Yy 1
  have fy2 := Yy 2
  clear k1 Xd Yd k2 Xr Yr k3 Xy Yy
  go_region_law ((go_simp; go_at_call 18; with_reducible refine HCA.out.mono ?_; rintro e w5 ⟨rfl, hal5, hk5⟩; have hk52 : Keep _ W2 w5 := hk5; have m2 := hk52.blk HX2.out.2.1 HF2.out.2.2.1; have m3 := hk52.blk HX2.out.2.2 HF2.out.2.2.2; have HE5 := Lib.hid (And.intro hal5 (And.intro hk52 m2)); have r0 := m2.facts.1 0; have r1 := m2.facts.1 1; have r2 := m2.facts.1 2; have fr0 := m2.facts.2.1 0; have fr1 := m2.facts.2.1 1; have fr2 := m2.facts.2.1 2; have y0 := m3.facts.1 0; have y1 := m3.facts.1 1; have y2 := m3.facts.1 2; clear hal5 hk5 hk52 m2 m3))
  all_goals
    go_wp2_with fail
    refine bodyPost_ret (v := .tuple #[.agg #[.int .i64 S1.quantum, .slice a1 S1.qs.length c1, .slice a2 S1.round.length c2], .bool true]) (by simp [results, Try.results13, go_sem, r0, r1, r2]) rfl (do_fin (w3 := W2) (Keep.of_below HB2.out HFW.out) HF2.out.1 HE5.out.1 HE5.out.2.1 HD2.out HI2.out HF2.out.2.2.1 (fun hm => ?_) ?_ HE5.out.2.2 ?_ HTT.out)
    · have := HFW.out _ hm
      omega
    · have := HWW.out
      omega
    · exact only_ret1 _ _ _ _ _
theorem do_rem {W : World} {bs : Nat} {S : PS} {F : List Nat} {qv rv : Value} {ls : List Value} (id wt : Int) (w : World) (h : Joint W bs S F qv rv ls w) (ht : totQ S.qs ≤ 60000) :
    Calls Try.prog 13 #[.pointer (some ⟨bs, 0, none⟩), docV S qv rv, .agg #[.int .i64 1, .int .i64 id, .int .i64 wt]] w (DoPost W bs F w (totQ S.qs + 1)) := by
  obtain ⟨aq, cq, rfl⟩ := h.d.2.1.form
  obtain ⟨ar, cr, rfl⟩ := h.d.2.2.2.form
  unfold docV
  have hS := h.al.ok
  have h0 := h.new (.cells #[.int .i64 S.quantum, .slice aq S.qs.length cq, .slice ar S.round.length cr] 31)
  have h1 := h0.new (.cells #[.int .i64 1, .int .i64 id, .int .i64 wt] 37)
  have h2 := h1.new (.cells #[.int .i64 0, .slice none 0 0, .slice none 0 0] 31)
  have k0 := ((Blk.new w #[.int .i64 S.quantum, .slice aq S.qs.length cq, .slice ar S.round.length cr] 31).alloc (.cells #[.int .i64 1, .int .i64 id, .int .i64 wt] 37)).alloc (.cells #[.int .i64 0, .slice none 0 0, .slice none 0 0] 31)
  have k1 := (Blk.new (w.alloc (.cells #[.int .i64 S.quantum, .slice aq S.qs.length cq, .slice ar S.round.length cr] 31)) #[.int .i64 1, .int .i64 id, .int .i64 wt] 37).alloc (.cells #[.int .i64 0, .slice none 0 0, .slice none 0 0] 31)
  have k2 := Blk.new ((w.alloc (.cells #[.int .i64 S.quantum, .slice aq S.qs.length cq, .slice ar S.round.length cr] 31)).alloc (.cells #[.int .i64 1, .int .i64 id, .int .i64 wt] 37)) #[.int .i64 0, .slice none 0 0, .slice none 0 0] 31
  simp only [size_alloc] at h1 h2 k1 k2
  have hB := Below.chainAlloc (Below.chainAlloc (Below.chainAlloc (Below.refl _ w) (.cells #[.int .i64 S.quantum, .slice aq S.qs.length cq, .slice ar S.round.length cr] 31)) (.cells #[.int .i64 1, .int .i64 id, .int .i64 wt] 37)) (.cells #[.int .i64 0, .slice none 0 0, .slice none 0 0] 31)
  have HH := Lib.hid h2
  have HB := Lib.hid hB
  have HX := Lib.hid (And.intro k0 (And.intro k1 k2))
  have HFW : Hid (∀ y ∈ F, y < w.heap.size) := Lib.hid h.al.f
  have HWW : Hid (W.heap.size ≤ w.heap.size) := Lib.hid h.al.b.size
  have HOK := Lib.hid hS
  have HT := Lib.hid ht
  have HD := Lib.hid (rrem_any id _ h2.d hS)
  unfold docV at HD
  obtain ⟨Xs, Ys, Zs⟩ := k0.facts
  have s0 := Xs 0
  have s1 := Xs 1
  have s2 := Xs 2
  have fs0 := Ys 0
  have fs1 := Ys 1
  have fs2 := Ys 2
  obtain ⟨Xd, Yd, Zd⟩ := k1.facts
  have d0 := Xd 0
  have d1 := Xd 1
  have d2 := Xd 2
  have fd0 := Yd 0
  have fd1 := Yd 1
  have fd2 := Yd 2
  obtain ⟨Xr, Yr, Zr⟩ := k2.facts
  have r0 := Xr 0
  have r1 := Xr 1
  have r2 := Xr 2
  have fr0 := Yr 0
  have fr1 := Yr 1
  have fr2 := Yr 2
  clear k0 Xs Ys k1 Xd Yd k2 Xr Yr
  clear h h0 h1 h2 hB ht
  go_enter Try.func13, Try.ntmps13
  go_wp2_with fail
  generalize hW0 : ((w.alloc (.cells #[.int .i64 S.quantum, .slice aq S.qs.length cq, .slice ar S.round.length cr] 31)).alloc (.cells #[.int .i64 1, .int .i64 id, .int .i64 wt] 37)).alloc (.cells #[.int .i64 0, .slice none 0 0, .slice none 0 0] 31) = W0 at *
  clear hW0
  refine HD.out.mono ?_
  rintro e w1 ⟨qv1, rv1, ls1, rfl, hd1, hsub, hb⟩
  have HTT : Hid (totQ (remA S id).qs ≤ totQ S.qs + 1) := Lib.hid (tot_rem HOK.out id)
  have HAL : Hid (∀ F w', Al W bs S F w' → Calls Try.prog 22 #[.pointer (some ⟨bs, 0, none⟩), .int .i64 id] w' fun e w5 => e = .returned (.int .i64 (remE S id)) ∧ Al W bs (remA S id) F w5 ∧ Keep F w' w5) := Lib.hid fun F w' ha => al_rem id ha HT.out
  generalize (remA S id) = S1 at *
  generalize (remE S id) = E1 at *
  obtain ⟨F1, hF1, hal1, hi1⟩ := HH.out.al.doc hd1 hb hsub HH.out.i
  obtain ⟨a1, c1, rfl⟩ := hd1.2.1.form
  obtain ⟨a2, c2, rfl⟩ := hd1.2.2.2.form
  unfold docV
  have hal2 := hal1.new (.cells #[.int .i64 S1.quantum, .slice a1 S1.qs.length c1, .slice a2 S1.round.length c2] 31)
  have hb2 := Below.chainAlloc (Below.refl _ w1) (.cells #[.int .i64 S1.quantum, .slice a1 S1.qs.length c1, .slice a2 S1.round.length c2] 31)
  have HX1 := Lib.hid (And.intro (HX.out.2.1.below hb HX.out.2.1.lt) (HX.out.2.2.below hb HX.out.2.2.lt))
  have HX2 := Lib.hid (And.intro ((HX1.out.1).below hb2 HX1.out.1.lt) (And.intro ((HX1.out.2).below hb2 HX1.out.2.lt) (Blk.new w1 #[.int .i64 S1.quantum, .slice a1 S1.qs.length c1, .slice a2 S1.round.length c2] 31)))
  have HB2 := Lib.hid (Below.chain hb2 (Below.chain hb HB.out))
  have HD2 := Lib.hid (hd1.chain hb2)
  have HI2 : Hid (∀ v ∈ (Value.slice a1 S1.qs.length c1) :: (.slice a2 S1.round.length c2) :: ls1, ∀ g, v.ownBlock = some g → g ∈ w1.heap.size :: F1) := Lib.hid fun v hv g hg => List.mem_cons_of_mem _ (hi1 v hv g hg)
  have HAL2 := Lib.hid hal2
  have HF2 : Hid ((∀ y ∈ F, y ∈ w1.heap.size :: F1) ∧ w.heap.size + 1 ∈ w1.heap.size :: F1 ∧ w.heap.size + 1 + 1 ∈ w1.heap.size :: F1 ∧ w1.heap.size ∈ w1.heap.size :: F1) := Lib.hid ⟨fun y hy => List.mem_cons_of_mem _ (hF1 y (List.mem_cons_of_mem _ (List.mem_cons_of_mem _ (List.mem_cons_of_mem _ hy)))), List.mem_cons_of_mem _ (hF1 _ (List.mem_cons_of_mem _ List.mem_cons_self)), List.mem_cons_of_mem _ (hF1 _ List.mem_cons_self), List.mem_cons_self⟩
  clear hd1 hsub hb hF1 hal1 hi1 hal2 hb2 HD HH HX Zs s0 fs0 s1 fs1 s2 fs2 Zd d0 fd0 d1 fd1 d2 fd2 Zr r0 fr0 r1 fr1 r2 fr2
  go_upto_region 7 with fail
  generalize w1.alloc (.cells #[.int .i64 S1.quantum, .slice a1 S1.qs.length c1, .slice a2 S1.round.length c2] 31) = W2 at *
  generalize w1.heap.size = b3 at *
  have HCA := Lib.hid (HAL.out _ W2.drew (HAL2.out.chain (Below.refl _ W2).drew))
  have k1 := HX2.out.1
  have k2 := HX2.out.2.1
  have k3 := HX2.out.2.2
  obtain ⟨Xd, Yd, Zd⟩ := k1.facts
  have d0 := Xd 0
  have d1 := Xd 1
  have d2 := Xd 2
  have fd0 := Yd 0
  have fd1 := Yd 1
  have fd2 := Yd 2
  obtain ⟨Xr, Yr, Zr⟩ := k2.facts
  have r0 := Xr 0
  have r1 := Xr 1
  have r2 := Xr 2
  have fr0 := Yr 0
  have fr1 := Yr 1
  have fr2 := Yr 2
  obtain ⟨Xy, Yy, Zy⟩ := k3.facts
  have y0 := Xy 0
  have y1 := Xy 1
  have y2 := Xy 2
  have fy0 := Yy 0
  have fy1 := Yy 1
  have fy2 := Yy 2
  clear k1 Xd Yd k2 Xr Yr k3 Xy Yy
  go_region_law ((go_simp; go_at_call 22; with_reducible refine HCA.out.mono ?_; rintro e w5 ⟨rfl, hal5, hk5⟩; have hk52 : Keep _ W2 w5 := hk5; have m2 := hk52.blk HX2.out.2.1 HF2.out.2.2.1; have m3 := hk52.blk HX2.out.2.2 HF2.out.2.2.2; have HE5 := Lib.hid (And.intro hal5 (And.intro hk52 m2)); have r0 := m2.facts.1 0; have r1 := m2.facts.1 1; have r2 := m2.facts.1 2; have fr0 := m2.facts.2.1 0; have fr1 := m2.facts.2.1 1; have fr2 := m2.facts.2.1 2; have y0 := m3.facts.1 0; have y1 := m3.facts.1 1; have y2 := m3.facts.1 2; clear hal5 hk5 hk52 m2 m3))
  all_goals
    go_wp2_with fail
    refine bodyPost_ret (v := .tuple #[.agg #[.int .i64 S1.quantum, .slice a1 S1.qs.length c1, .slice a2 S1.round.length c2], .bool true]) (by simp [results, Try.results13, go_sem, r0, r1, r2]) rfl (do_fin (w3 := W2) (Keep.of_below HB2.out HFW.out) HF2.out.1 HE5.out.1 HE5.out.2.1 HD2.out HI2.out HF2.out.2.2.1 (fun hm => ?_) ?_ HE5.out.2.2 ?_ HTT.out)
    · have := HFW.out _ hm
      omega
    · have := HWW.out
      omega
    · exact only_ret1 _ _ _ _ _
theorem do_push {W : World} {bs : Nat} {S : PS} {F : List Nat} {qv rv : Value} {ls : List Value} (id wt : Int) (w : World) (h : Joint W bs S F qv rv ls w) (ht : totQ S.qs ≤ 60000) :
    Calls Try.prog 13 #[.pointer (some ⟨bs, 0, none⟩), docV S qv rv, .agg #[.int .i64 2, .int .i64 id, .int .i64 wt]] w (DoPost W bs F w (totQ S.qs + 1)) := by
  obtain ⟨aq, cq, rfl⟩ := h.d.2.1.form
  obtain ⟨ar, cr, rfl⟩ := h.d.2.2.2.form
  unfold docV
  have hS := h.al.ok
  have h0 := h.new (.cells #[.int .i64 S.quantum, .slice aq S.qs.length cq, .slice ar S.round.length cr] 31)
  have h1 := h0.new (.cells #[.int .i64 2, .int .i64 id, .int .i64 wt] 37)
  have h2 := h1.new (.cells #[.int .i64 0, .slice none 0 0, .slice none 0 0] 31)
  have k0 := ((Blk.new w #[.int .i64 S.quantum, .slice aq S.qs.length cq, .slice ar S.round.length cr] 31).alloc (.cells #[.int .i64 2, .int .i64 id, .int .i64 wt] 37)).alloc (.cells #[.int .i64 0, .slice none 0 0, .slice none 0 0] 31)
  have k1 := (Blk.new (w.alloc (.cells #[.int .i64 S.quantum, .slice aq S.qs.length cq, .slice ar S.round.length cr] 31)) #[.int .i64 2, .int .i64 id, .int .i64 wt] 37).alloc (.cells #[.int .i64 0, .slice none 0 0, .slice none 0 0] 31)
  have k2 := Blk.new ((w.alloc (.cells #[.int .i64 S.quantum, .slice aq S.qs.length cq, .slice ar S.round.length cr] 31)).alloc (.cells #[.int .i64 2, .int .i64 id, .int .i64 wt] 37)) #[.int .i64 0, .slice none 0 0, .slice none 0 0] 31
  simp only [size_alloc] at h1 h2 k1 k2
  have hB := Below.chainAlloc (Below.chainAlloc (Below.chainAlloc (Below.refl _ w) (.cells #[.int .i64 S.quantum, .slice aq S.qs.length cq, .slice ar S.round.length cr] 31)) (.cells #[.int .i64 2, .int .i64 id, .int .i64 wt] 37)) (.cells #[.int .i64 0, .slice none 0 0, .slice none 0 0] 31)
  have HH := Lib.hid h2
  have HB := Lib.hid hB
  have HX := Lib.hid (And.intro k0 (And.intro k1 k2))
  have HFW : Hid (∀ y ∈ F, y < w.heap.size) := Lib.hid h.al.f
  have HWW : Hid (W.heap.size ≤ w.heap.size) := Lib.hid h.al.b.size
  have HOK := Lib.hid hS
  have HT := Lib.hid ht
  have HD := Lib.hid (rpush_any (id, wt) _ h2.d hS ht)
  unfold docV at HD
  obtain ⟨Xs, Ys, Zs⟩ := k0.facts
  have s0 := Xs 0
  have s1 := Xs 1
  have s2 := Xs 2
  have fs0 := Ys 0
  have fs1 := Ys 1
  have fs2 := Ys 2
  obtain ⟨Xd, Yd, Zd⟩ := k1.facts
  have d0 := Xd 0
  have d1 := Xd 1
  have d2 := Xd 2
  have fd0 := Yd 0
  have fd1 := Yd 1
  have fd2 := Yd 2
  obtain ⟨Xr, Yr, Zr⟩ := k2.facts
  have r0 := Xr 0
  have r1 := Xr 1
  have r2 := Xr 2
  have fr0 := Yr 0
  have fr1 := Yr 1
  have fr2 := Yr 2
  clear k0 Xs Ys k1 Xd Yd k2 Xr Yr
  clear h h0 h1 h2 hB ht
  go_enter Try.func13, Try.ntmps13
  go_wp2_with fail
  generalize hW0 : ((w.alloc (.cells #[.int .i64 S.quantum, .slice aq S.qs.length cq, .slice ar S.round.length cr] 31)).alloc (.cells #[.int .i64 2, .int .i64 id, .int .i64 wt] 37)).alloc (.cells #[.int .i64 0, .slice none 0 0, .slice none 0 0] 31) = W0 at *
  clear hW0
  refine HD.out.mono ?_
  rintro e w1 ⟨qv1, rv1, ls1, rfl, hd1, hsub, hb⟩
  have HTT : Hid (totQ (pushA S (id, wt)).qs ≤ totQ S.qs + 1) := Lib.hid (tot_push HOK.out (id, wt))
  have HAL : Hid (∀ F w', Al W bs S F w' → Calls Try.prog 19 #[.pointer (some ⟨bs, 0, none⟩), .agg #[.int .i64 id, .int .i64 wt]] w' fun e w5 => e = .returned (.int .i64 (pushE S (id, wt))) ∧ Al W bs (pushA S (id, wt)) F w5 ∧ Keep F w' w5) := Lib.hid fun F w' ha => al_push (id, wt) ha HT.out
  generalize (pushA S (id, wt)) = S1 at *
  generalize (pushE S (id, wt)) = E1 at *
  obtain ⟨F1, hF1, hal1, hi1⟩ := HH.out.al.doc hd1 hb hsub HH.out.i
  obtain ⟨a1, c1, rfl⟩ := hd1.2.1.form
  obtain ⟨a2, c2, rfl⟩ := hd1.2.2.2.form
  unfold docV
  have hal2 := hal1.new (.cells #[.int .i64 S1.quantum, .slice a1 S1.qs.length c1, .slice a2 S1.round.length c2] 31)
  have hb2 := Below.chainAlloc (Below.refl _ w1) (.cells #[.int .i64 S1.quantum, .slice a1 S1.qs.length c1, .slice a2 S1.round.length c2] 31)
  have HX1 := Lib.hid (And.intro (HX.out.2.1.below hb HX.out.2.1.lt) (HX.out.2.2.below hb HX.out.2.2.lt))
  have HX2 := Lib.hid (And.intro ((HX1.out.1).below hb2 HX1.out.1.lt) (And.intro ((HX1.out.2).below hb2 HX1.out.2.lt) (Blk.new w1 #[.int .i64 S1.quantum, .slice a1 S1.qs.length c1, .slice a2 S1.round.length c2] 31)))
  have HB2 := Lib.hid (Below.chain hb2 (Below.chain hb HB.out))
  have HD2 := Lib.hid (hd1.chain hb2)
  have HI2 : Hid (∀ v ∈ (Value.slice a1 S1.qs.length c1) :: (.slice a2 S1.round.length c2) :: ls1, ∀ g, v.ownBlock = some g → g ∈ w1.heap.size :: F1) := Lib.hid fun v hv g hg => List.mem_cons_of_mem _ (hi1 v hv g hg)
  have HAL2 := Lib.hid hal2
  have HF2 : Hid ((∀ y ∈ F, y ∈ w1.heap.size :: F1) ∧ w.heap.size + 1 ∈ w1.heap.size :: F1 ∧ w.heap.size + 1 + 1 ∈ w1.heap.size :: F1 ∧ w1.heap.size ∈ w1.heap.size :: F1) := Lib.hid ⟨fun y hy => List.mem_cons_of_mem _ (hF1 y (List.mem_cons_of_mem _ (List.mem_cons_of_mem _ (List.mem_cons_of_mem _ hy)))), List.mem_cons_of_mem _ (hF1 _ (List.mem_cons_of_mem _ List.mem_cons_self)), List.mem_cons_of_mem _ (hF1 _ List.mem_cons_self), List.mem_cons_self⟩
  clear hd1 hsub hb hF1 hal1 hi1 hal2 hb2 HD HH HX Zs s0 fs0 s1 fs1 s2 fs2 Zd d0 fd0 d1 fd1 d2 fd2 Zr r0 fr0 r1 fr1 r2 fr2
  go_upto_region 10 with fail
  generalize w1.alloc (.cells #[.int .i64 S1.quantum, .slice a1 S1.qs.length c1, .slice a2 S1.round.length c2] 31) = W2 at *
  generalize w1.heap.size = b3 at *
  have HCA := Lib.hid (HAL.out _ W2.drew (HAL2.out.chain (Below.refl _ W2).drew))
  have k1 := HX2.out.1
  have k2 := HX2.out.2.1
  have k3 := HX2.out.2.2
  obtain ⟨Xd, Yd, Zd⟩ := k1.facts
  have d0 := Xd 0
  have d1 := Xd 1
  have d2 := Xd 2
  have fd0 := Yd 0
  have fd1 := Yd 1
  have fd2 := Yd 2
  obtain ⟨Xr, Yr, Zr⟩ := k2.facts
  have r0 := Xr 0
  have r1 := Xr 1
  have r2 := Xr 2
  have fr0 := Yr 0
  have fr1 := Yr 1
  have fr2 := Yr 2
  obtain ⟨Xy, Yy, Zy⟩ := k3.facts
  have y0 := Xy 0
  have y1 := Xy 1
  have y2 := Xy 2
  have fy0 := Yy 0
  have fy1 := Yy 1
  have fy2 := Yy 2
  clear k1 Xd Yd k2 Xr Yr k3 Xy Yy
  go_region_law ((go_simp; go_at_call 19; with_reducible refine HCA.out.mono ?_; rintro e w5 ⟨rfl, hal5, hk5⟩; have hk52 : Keep _ W2 w5 := hk5; have m2 := hk52.blk HX2.out.2.1 HF2.out.2.2.1; have m3 := hk52.blk HX2.out.2.2 HF2.out.2.2.2; have HE5 := Lib.hid (And.intro hal5 (And.intro hk52 m2)); have r0 := m2.facts.1 0; have r1 := m2.facts.1 1; have r2 := m2.facts.1 2; have fr0 := m2.facts.2.1 0; have fr1 := m2.facts.2.1 1; have fr2 := m2.facts.2.1 2; have y0 := m3.facts.1 0; have y1 := m3.facts.1 1; have y2 := m3.facts.1 2; clear hal5 hk5 hk52 m2 m3))
  all_goals
    go_wp2_with fail
    refine bodyPost_ret (v := .tuple #[.agg #[.int .i64 S1.quantum, .slice a1 S1.qs.length c1, .slice a2 S1.round.length c2], .bool true]) (by simp [results, Try.results13, go_sem, r0, r1, r2]) rfl (do_fin (w3 := W2) (Keep.of_below HB2.out HFW.out) HF2.out.1 HE5.out.1 HE5.out.2.1 HD2.out HI2.out HF2.out.2.2.1 (fun hm => ?_) ?_ HE5.out.2.2 ?_ HTT.out)
    · have := HFW.out _ hm
      omega
    · have := HWW.out
      omega
    · exact only_ret1 _ _ _ _ _
end Go.Proofs.Ytgfbhclkpephnaa
