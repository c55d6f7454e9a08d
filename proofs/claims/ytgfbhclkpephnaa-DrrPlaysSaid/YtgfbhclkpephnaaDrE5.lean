/-
  The document's queues (lightshipref17): Push, the first item of a queue.
-/
import Derived.Test.YtgfbhclkpephnaaDrE4
namespace Go.Proofs.Ytgfbhclkpephnaa
open Go Go.RowKit
set_option linter.unusedVariables false
set_option linter.unusedSimpArgs false
set_option maxRecDepth 100000
set_option maxHeartbeats 1000000
theorem rpush_first (x : Int × Int) (q : PQ) {qv rv : Value} {ls : List Value} {S : PS} (w : World) (h : DocR w qv rv ls S) (hS : S.Ok) (hg : getQ x.1 S.qs = some q) (hx : ¬ (x.2 < 1 ∨ 65536 < x.2)) (ht : totQ S.qs ≤ 60000) (hne : q.items = []) :
    Calls Try.prog 47 #[docV S qv rv, itV x] w (DAns w ls (pushP S q x) 0) := by
  obtain ⟨j0, ji, jz0, jz1, jz2⟩ := info_parts infoItD
  obtain ⟨n0, ni, nz0, nz1, nz2⟩ := info_parts infoIntD
  obtain ⟨aq, cq, rfl⟩ := h.2.1.form
  obtain ⟨ar, cr, rfl⟩ := h.2.2.2.form
  obtain ⟨x1, x2⟩ := x
  unfold docV itV
  have k0 := ((Blk.new w #[.int .i64 S.quantum, .slice aq S.qs.length cq, .slice ar S.round.length cr] 31).alloc (.cells #[.int .i64 x1, .int .i64 x2] 35)).alloc (.cells #[.int .i64 0, .slice none 0 0, .slice none 0 0] 31)
  have k1 := (Blk.new (w.alloc (.cells #[.int .i64 S.quantum, .slice aq S.qs.length cq, .slice ar S.round.length cr] 31)) #[.int .i64 x1, .int .i64 x2] 35).alloc (.cells #[.int .i64 0, .slice none 0 0, .slice none 0 0] 31)
  have k2 := Blk.new ((w.alloc (.cells #[.int .i64 S.quantum, .slice aq S.qs.length cq, .slice ar S.round.length cr] 31)).alloc (.cells #[.int .i64 x1, .int .i64 x2] 35)) #[.int .i64 0, .slice none 0 0, .slice none 0 0] 31
  simp only [size_alloc] at k1 k2
  have hB := Below.chainAlloc (Below.chainAlloc (Below.chainAlloc (Below.refl _ w) (.cells #[.int .i64 S.quantum, .slice aq S.qs.length cq, .slice ar S.round.length cr] 31)) (.cells #[.int .i64 x1, .int .i64 x2] 35)) (.cells #[.int .i64 0, .slice none 0 0, .slice none 0 0] 31)
  have HB := Lib.hid hB
  have HR0 := Lib.hid h
  have HAT := Lib.hid (rat_any x1 _ (h.chain hB) (Nat.le_trans hS.qlen (by decide)))
  unfold docV at HAT
  have HS := Lib.hid hS
  have HG := Lib.hid hg
  have HX := Lib.hid (And.intro k0 (And.intro k1 k2))
  have HSZ : Hid ((((w.alloc (.cells #[.int .i64 S.quantum, .slice aq S.qs.length cq, .slice ar S.round.length cr] 31)).alloc (.cells #[.int .i64 x1, .int .i64 x2] 35)).alloc (.cells #[.int .i64 0, .slice none 0 0, .slice none 0 0] 31)).heap.size = w.heap.size + 3) := Lib.hid (by simp only [size_alloc])
  clear h hB hS hg
  dsimp only at hx
  have h1 : ¬ x2 < 1 := by omega
  have h2 : ¬ 65536 < x2 := by omega
  obtain ⟨Xs, Ys, Zs⟩ := k0.facts
  have s0 := Xs 0
  have s1 := Xs 1
  have s2 := Xs 2
  have fs0 := Ys 0
  have fs1 := Ys 1
  have fs2 := Ys 2
  obtain ⟨Xi, Yi, Zi⟩ := k1.facts
  have i0 := Xi 0
  have i1 := Xi 1
  have fi0 := Yi 0
  have fi1 := Yi 1
  obtain ⟨Xr, Yr, Zr⟩ := k2.facts
  have r0 := Xr 0
  have r1 := Xr 1
  have r2 := Xr 2
  have fr0 := Yr 0
  have fr1 := Yr 1
  have fr2 := Yr 2
  clear k0 Xs Ys k1 Xi Yi k2 Xr Yr
  go_enter Try.func47, Try.ntmps47
  go_wp2_with fail
  refine HAT.out.mono ?_
  rintro e w1 ⟨r, rfl, hr, hb⟩
  have HB1 := Lib.hid (Below.chain hb HB.out)
  have k0 := HX.out.1.below hb HX.out.1.lt
  have k1 := HX.out.2.1.below hb HX.out.2.1.lt
  have k2 := HX.out.2.2.below hb HX.out.2.2.lt
  have HX1 := Lib.hid (And.intro k0 (And.intro k1 k2))
  have HS1 : Hid (w.heap.size + 3 ≤ w1.heap.size) := Lib.hid (by have := hb.size; rw [HSZ.out] at this; exact this)
  clear hb HAT HB HX HSZ Zs s0 fs0 s1 fs1 s2 fs2 Zi i0 fi0 i1 fi1 Zr r0 fr0 r1 fr1 r2 fr2
  obtain ⟨Xs, Ys, Zs⟩ := k0.facts
  have s0 := Xs 0
  have s1 := Xs 1
  have s2 := Xs 2
  have fs0 := Ys 0
  have fs1 := Ys 1
  have fs2 := Ys 2
  obtain ⟨Xi, Yi, Zi⟩ := k1.facts
  have i0 := Xi 0
  have i1 := Xi 1
  have fi0 := Yi 0
  have fi1 := Yi 1
  obtain ⟨Xr, Yr, Zr⟩ := k2.facts
  have r0 := Xr 0
  have r1 := Xr 1
  have r2 := Xr 2
  have fr0 := Yr 0
  have fr1 := Yr 1
  have fr2 := Yr 2
  clear k0 Xs Ys k1 Xi Yi k2 Xr Yr
  rcases hr.get HS.out with ⟨i, hi, rfl, hg⟩ | ⟨rfl, hg⟩
  · rw [HG.out] at hg
    have hqe : q = S.qs[i] := Option.some.inj hg
    have hi0 : (0 : Int) ≤ (i : Int) := by omega
    have hi0' : ¬ (i : Int) < 0 := by omega
    have hil : i < ls.length := by rw [HR0.out.1]; exact hi
    have hdoc := HR0.out.chain HB1.out
    obtain ⟨g, off, _, ea, _⟩ := HR0.out.shape (Nat.lt_of_le_of_lt (Nat.zero_le _) hi)
    cases ea
    have hT : q.items.length ≤ 60000 := Nat.le_trans (by unfold totQ; exact sumQ_le (fun q => q.items.length) (by rw [hqe]; exact List.getElem_mem hi)) ht
    have HT := Lib.hid hT
    have d0 := hdoc.cell rfl i 0 hi (by decide)
    have d1 := hdoc.cell rfl i 1 hi (by decide)
    have d2 := hdoc.cell rfl i 2 hi (by decide)
    have d3 := hdoc.cell rfl i 3 hi (by decide)
    have d4 := hdoc.cell rfl i 4 hi (by decide)
    have hit := HR0.out.2.2.1 i hi hil
    rw [← hqe] at d0 d1 d2 d3 d4 hit
    obtain ⟨av, lc, hv⟩ := hit.form
    rw [hv] at d4 hit
    have HIT := Lib.hid hit
    have HQE := Lib.hid hqe
    have HI := Lib.hid hi
    have HPE : Hid (PS.mk S.quantum (S.qs.set i ⟨q.id, q.weight, 0, false, q.items ++ [(x1, x2)]⟩) (S.round ++ [x1]) = pushP S q (x1, x2)) := Lib.hid (by
      have e : pushQ q (x1, x2) = ⟨q.id, q.weight, 0, false, q.items ++ [(x1, x2)]⟩ := by unfold pushQ; rw [if_pos hne, hne]; rfl
      unfold pushP
      rw [if_pos hne, e, putQ_set S.qs i hi HS.out.nd (by rw [← hqe]), (getQ_mem HG.out).2])
    have HWO : Hid (wo x1 S.round = S.round) := Lib.hid (wo_none fun hm => by
      obtain ⟨q', hq', hne'⟩ := (HS.out.rm x1).1 hm
      rw [HG.out] at hq'
      cases hq'
      exact hne' hne)
    have d0' : w1.cell? ⟨g, off + i * 5, none⟩ = some (.int .i64 q.id) := d0
    have d1' : w1.cell? ⟨g, off + i * 5 + 1, none⟩ = some (.int .i64 q.weight) := d1
    have d2' : w1.cell? ⟨g, off + i * 5 + 2, none⟩ = some (.int .i64 q.deficit) := d2
    have d3' : w1.cell? ⟨g, off + i * 5 + 3, none⟩ = some (.bool q.served) := d3
    have d4' : w1.cell? ⟨g, off + i * 5 + 4, none⟩ = some (.slice av q.items.length lc) := d4
    have hii : (i : Int) < (S.qs.length : Int) := Int.ofNat_lt.2 hi
    have hfl : decide ((65536 : Int) ≤ (q.items.length : Int)) = false := decide_eq_false (by omega)
    have hl0 : (((q.items.length : Nat) : Int) == 0) = true := by rw [hne]; rfl
    have HNE := Lib.hid hne
    clear d0 d1 d2 d3 d4 hit hdoc hv hg hqe hil hT hne ht hx
    go_upto_region 12 with fail
    have HX11 := Lib.hid (And.intro (HX1.out.1.alloc (.cells #[.int .i64 q.id, .int .i64 q.weight, .int .i64 0, .bool false, .slice av q.items.length lc] 107)) (And.intro (HX1.out.2.1.alloc (.cells #[.int .i64 q.id, .int .i64 q.weight, .int .i64 0, .bool false, .slice av q.items.length lc] 107)) (And.intro (HX1.out.2.2.alloc (.cells #[.int .i64 q.id, .int .i64 q.weight, .int .i64 0, .bool false, .slice av q.items.length lc] 107)) (Blk.new w1 #[.int .i64 q.id, .int .i64 q.weight, .int .i64 0, .bool false, .slice av q.items.length lc] 107))))
    have HB11 := Lib.hid (Below.chainAlloc HB1.out (.cells #[.int .i64 q.id, .int .i64 q.weight, .int .i64 0, .bool false, .slice av q.items.length lc] 107))
    clear d0' d1' d2' d3' d4' hfl hl0 h1 h2 Zs s0 fs0 s1 fs1 s2 fs2 Zi i0 fi0 i1 fi1 Zr r0 fr0 r1 fr1 r2 fr2
    generalize w1.alloc (.cells #[.int .i64 q.id, .int .i64 q.weight, .int .i64 0, .bool false, .slice av q.items.length lc] 107) = W at *
    generalize w1.heap.size = b3 at *
    have HRW : Hid (∀ w', Below W.heap.size W w' → Calls Try.prog 81 #[.slice ar S.round.length cr, .int .i64 x1] w' fun e w5 => ∃ a c, e = .returned (.slice a S.round.length c) ∧ Seg w5 W.heap.size 3 1 (.slice a S.round.length c) S.round.length (iv S.round) ∧ Below w'.heap.size w' w5 ∧ Below W.heap.size W w5) := Lib.hid fun w' hb' => by
      refine (rwo_any x1 w' (HR0.out.2.2.2.chain (Below.chain hb' HB11.out)) (Nat.le_trans HS.out.rlen (by decide))).mono ?_
      rintro e w5 ⟨v, rfl, hs5, hb5⟩
      rw [HWO.out] at hs5
      obtain ⟨a, c, rfl⟩ := hs5.form
      exact ⟨a, c, rfl, hs5.le hb'.size, hb5, Below.chain hb5 hb'⟩
    have HCA := Lib.hid (HRW.out W.drew (Below.refl _ _).drew)
    have HCB := Lib.hid (HRW.out (W.alloc (.cells #[.int .i64 x1] 3)).drew (Below.chainAlloc (Below.refl _ _) _).drew)
    have HKB := Lib.hid (fun (w' : World) (hb' : Below W.heap.size W w') => And.intro (HX11.out.1.below hb' HX11.out.1.lt) (HX11.out.2.1.below hb' HX11.out.2.1.lt))
    have q1 : S.round.length + 1 ≤ maxLen ∧ (S.round.length + 1) * 8 ≤ 140737488355328 := by have := HS.out.rlen; unfold maxLen; omega
    have HQ := Lib.hid q1
    clear q1
    have k0 := HX11.out.1
    have k1 := HX11.out.2.1
    obtain ⟨Xs, Ys, Zs⟩ := k0.facts
    have s0 := Xs 0
    have s1 := Xs 1
    have s2 := Xs 2
    have fs0 := Ys 0
    have fs1 := Ys 1
    have fs2 := Ys 2
    obtain ⟨Xi, Yi, Zi⟩ := k1.facts
    have i0 := Xi 0
    have i1 := Xi 1
    have fi0 := Yi 0
    have fi1 := Yi 1
    clear k0 Xs Ys k1 Xi Yi
    go_cut [5] (fun v5 wx => v5 = .int .i64 0 ∧ RndPost W w.heap.size S.quantum (.slice (some ⟨g, off, none⟩) S.qs.length cq) (S.round ++ [x1]) wx)
    case first =>
      go_region_law (first
        | (refine step_append_seg _ rfl (.tmp 52) (.tmp 55) 29 rfl W.heap.size 3 n0 _ 1 8 Try.underlying29 ni nz0 nz1 nz2 rfl (by decide) (.slice a5 S.round.length c5) S.round.length (iv S.round) rfl (by first | exact hs5 | exact hs5.alloc _) _ 1 1 [.int .i64 x1] rfl rfl (by first | exact cells_blk kn | exact cells_new _ _ _) (by simp [Value.oneCell']) (by decide) HQ.out.1 HQ.out.2 (by first | exact hbW.size | (rw [size_alloc]; exact Nat.le_succ_of_le hbW.size)) _ rfl ?_; intro g6 o6 c6 w6 hs6 hgrow6 hat6; have hb6 : Below W.heap.size W w6 := (by first | exact (Only.grown (S := []) (Only.of_below hbW) hgrow6 (fun x hx => .inr (hs5.blk x hx).1)).nil | exact (Only.grown (S := []) ((Only.of_below hbW).alloc _) hgrow6 (fun x hx => .inr (hs5.blk x hx).1)).nil); have KG := HKB.out _ hb6; have t2 := KG.1.facts.1 2; have ft2 := KG.1.facts.2.1 2; clear KG)
        | (go_simp; go_at_call 81; with_reducible refine HCA.out.mono ?_; rintro e w5 ⟨a5, c5, rfl, hs5, hb5, hbW⟩; have KF := HKB.out _ hbW; have i0 := KF.2.facts.1 0; have s2 := KF.1.facts.1 2; have fs2 := KF.1.facts.2.1 2; clear KF)
        | (go_simp; go_at_call 81; with_reducible refine HCB.out.mono ?_; rintro e w5 ⟨a5, c5, rfl, hs5, hb5, hbW⟩; have KF := HKB.out _ hbW; have kn := Blk.below (Blk.new W #[.int .i64 x1] 3).drew hb5 (by simp); have i0 := KF.2.facts.1 0; have s2 := KF.1.facts.1 2; have fs2 := KF.1.facts.2.1 2; clear KF))
      all_goals
        go_wp2_with fail
        go_meet
        exact ⟨rfl, rnd_fin' HX11.out.1 hb6 hs6⟩
    case rest =>
      obtain ⟨rfl, a6, c6, hk0, ho, hs6⟩ := hcut
      obtain ⟨wt, rfl⟩ : ∃ wt, wt = wc := ⟨_, rfl⟩
      have hb0 : w.heap.size < b3 := by have := HS1.out; omega
      have HXt := Lib.hid (And.intro hk0 (And.intro (HX11.out.2.1.only ho (by simp)) (And.intro (HX11.out.2.2.1.only ho (by simp; omega)) (HX11.out.2.2.2.only ho (by simp; omega)))))
      have HBt := Lib.hid (Below.only HB11.out ho (by simp))
      have HRt := Lib.hid (hs6.le (Nat.zero_le _))
      obtain ⟨R, hR⟩ : ∃ R, S.round ++ [x1] = R := ⟨_, rfl⟩
      rw [hR] at HXt HRt HPE
      clear hk0 ho hs6 hb0 hR HCA HCB HRW HKB HX11 HB11
      have HQ1 : Hid (0 + q.items.length ≤ maxLen ∧ (0 + q.items.length) * 16 ≤ 140737488355328) := Lib.hid (by have := HT.out; unfold maxLen; omega)
      have HQ2 : Hid (q.items.length + 1 ≤ maxLen ∧ (q.items.length + 1) * 16 ≤ 140737488355328) := Lib.hid (by have := HT.out; unfold maxLen; omega)
      have HRD : Hid (RdS wt 2 (.slice av q.items.length lc) q.items.length (itC q.items)) := Lib.hid (HIT.out.chain HBt.out).rds
      have HON : Hid (∀ u ∈ itC q.items, u.oneCell' = true) := Lib.hid (one_itC _)
      have k0 := HXt.out.1
      have k1 := HXt.out.2.1
      have k2 := HXt.out.2.2.1
      have k3 := HXt.out.2.2.2
      obtain ⟨Xs, Ys, Zs⟩ := k0.facts
      have s0 := Xs 0
      have s1 := Xs 1
      have s2 := Xs 2
      have fs0 := Ys 0
      have fs1 := Ys 1
      have fs2 := Ys 2
      obtain ⟨Xi, Yi, Zi⟩ := k1.facts
      have i0 := Xi 0
      have i1 := Xi 1
      have fi0 := Yi 0
      have fi1 := Yi 1
      obtain ⟨Xr, Yr, Zr⟩ := k2.facts
      have r0 := Xr 0
      have r1 := Xr 1
      have r2 := Xr 2
      have fr0 := Yr 0
      have fr1 := Yr 1
      have fr2 := Yr 2
      obtain ⟨Xq, Yq, Zq⟩ := k3.facts
      have q0 := Xq 0
      have q1 := Xq 1
      have q2 := Xq 2
      have q3 := Xq 3
      have q4 := Xq 4
      have fq0 := Yq 0
      have fq1 := Yq 1
      have fq2 := Yq 2
      have fq3 := Yq 3
      have fq4 := Yq 4
      clear k0 Xs Ys k1 Xi Yi k2 Xr Yr k3 Xq Yq
      go_upto_region 15 with (at_builtin; refine wpList_append_rds rfl (.tmp 58) (.tmp 60) 105 rfl wt.heap.size 35 j0 _ 2 16 Try.underlying105 ji jz0 jz1 jz2 rfl (by decide) (.slice none 0 0) 0 [] rfl (Seg.nil _ _ _ _) (.slice av q.items.length lc) q.items.length (itC q.items) rfl HRD.out HON.out HQ1.out.1 HQ1.out.2 (Nat.le_refl _) ?_; intro v3 w3 hown3 hgrow3 hat3; rw [List.nil_append, Nat.zero_add] at hown3)
      have hb3 : Below wt.heap.size wt w3 := (Only.grown (S := []) (Only.refl _ _) hgrow3 (fun x hx => by cases hx)).nil
      obtain ⟨a3, c3, rfl⟩ := hown3.form
      have HO3 := Lib.hid hown3
      have HB3 := Lib.hid hb3
      have HX3 := Lib.hid (And.intro (HXt.out.1.below hb3 HXt.out.1.lt) (And.intro (HXt.out.2.1.below hb3 HXt.out.2.1.lt) (And.intro (HXt.out.2.2.1.below hb3 HXt.out.2.2.1.lt) (HXt.out.2.2.2.below hb3 HXt.out.2.2.2.lt))))
      have HSL : Hid (wt.heap.size ≤ w3.heap.size + 1) := Lib.hid (by have := hb3.size; omega)
      clear hb3 hown3 hgrow3 hat3 Zs s0 fs0 s1 fs1 s2 fs2 Zi i0 fi0 i1 fi1 Zr r0 fr0 r1 fr1 r2 fr2 Zq q0 fq0 q1 fq1 q2 fq2 q3 fq3 q4 fq4 HRD HON
      have k0 := HX3.out.1
      have k1 := HX3.out.2.1
      have k2 := HX3.out.2.2.1
      have k3 := HX3.out.2.2.2
      obtain ⟨Xs, Ys, Zs⟩ := k0.facts
      have s0 := Xs 0
      have s1 := Xs 1
      have s2 := Xs 2
      have fs0 := Ys 0
      have fs1 := Ys 1
      have fs2 := Ys 2
      obtain ⟨Xi, Yi, Zi⟩ := k1.facts
      have i0 := Xi 0
      have i1 := Xi 1
      have fi0 := Yi 0
      have fi1 := Yi 1
      obtain ⟨Xr, Yr, Zr⟩ := k2.facts
      have r0 := Xr 0
      have r1 := Xr 1
      have r2 := Xr 2
      have fr0 := Yr 0
      have fr1 := Yr 1
      have fr2 := Yr 2
      obtain ⟨Xq, Yq, Zq⟩ := k3.facts
      have q0 := Xq 0
      have q1 := Xq 1
      have q2 := Xq 2
      have q3 := Xq 3
      have q4 := Xq 4
      have fq0 := Yq 0
      have fq1 := Yq 1
      have fq2 := Yq 2
      have fq3 := Yq 3
      have fq4 := Yq 4
      clear k0 Xs Ys k1 Xi Yi k2 Xr Yr k3 Xq Yq
      have hcn := Lib.hid (cells_new w3 [.int .i64 x1, .int .i64 x2] 35)
      have HZ : Hid (∀ u ∈ ([.int .i64 x1, .int .i64 x2] : List Value), u.oneCell' = true) := Lib.hid (by simp [Value.oneCell'])
      go_upto_region 16 with (at_builtin; refine wpList_append_seg _ rfl (.tmp 62) (.tmp 64) 105 rfl wt.heap.size 35 j0 _ 2 16 Try.underlying105 ji jz0 jz1 jz2 rfl (by decide) (.slice a3 q.items.length c3) q.items.length (itC q.items) rfl (HO3.out.alloc _) ⟨w3.heap.size, 0, none⟩ 1 1 [.int .i64 x1, .int .i64 x2] rfl rfl hcn.out HZ.out (by decide) HQ2.out.1 HQ2.out.2 (by rw [size_alloc]; exact HSL.out) (w3.heap.size + 1) (size_alloc _ _) ?_; intro g4 o4 c4 w4 hown4 hgrow4 hat4; have HO4 := Lib.hid hown4; have hb4 := (Only.grown (S := []) ((Only.of_below HB3.out).alloc _) hgrow4 (fun x hx => .inr (HO3.out.blk x hx).1)).nil; have HB4 := Lib.hid hb4; have HX4 := Lib.hid (And.intro (HXt.out.1.below hb4 HXt.out.1.lt) (And.intro (HXt.out.2.1.below hb4 HXt.out.2.1.lt) (And.intro (HXt.out.2.2.1.below hb4 HXt.out.2.2.1.lt) (HXt.out.2.2.2.below hb4 HXt.out.2.2.2.lt)))); clear hown4 hgrow4 hat4 hb4 Zs s0 fs0 s1 fs1 s2 fs2 Zi i0 fi0 i1 fi1 Zr r0 fr0 r1 fr1 r2 fr2 Zq q0 fq0 q1 fq1 q2 fq2 q3 fq3 q4 fq4; have k0 := HX4.out.1; have k1 := HX4.out.2.1; have k2 := HX4.out.2.2.1; have k3 := HX4.out.2.2.2; obtain ⟨Xs, Ys, Zs⟩ := k0.facts; have s0 := Xs 0; have s1 := Xs 1; have s2 := Xs 2; have fs0 := Ys 0; have fs1 := Ys 1; have fs2 := Ys 2; obtain ⟨Xi, Yi, Zi⟩ := k1.facts; have i0 := Xi 0; have i1 := Xi 1; have fi0 := Yi 0; have fi1 := Yi 1; obtain ⟨Xr, Yr, Zr⟩ := k2.facts; have r0 := Xr 0; have r1 := Xr 1; have r2 := Xr 2; have fr0 := Yr 0; have fr1 := Yr 1; have fr2 := Yr 2; obtain ⟨Xq, Yq, Zq⟩ := k3.facts; have q0 := Xq 0; have q1 := Xq 1; have q2 := Xq 2; have q3 := Xq 3; have q4 := Xq 4; have fq0 := Yq 0; have fq1 := Yq 1; have fq2 := Yq 2; have fq3 := Yq 3; have fq4 := Yq 4; clear k0 Xs Ys k1 Xi Yi k2 Xr Yr k3 Xq Yq)
      have HB5 : Hid (Below w.heap.size w (w4.setCell ⟨b3, 4, none⟩ (.slice (some ⟨g4, o4, none⟩) (q.items.length + 1) c4))) := Lib.hid ((Below.chain HB4.out HBt.out).setCell (by have := HS1.out; show w.heap.size ≤ b3; omega) _)
      have HX5 := Lib.hid (And.intro (HX4.out.1.setOther ⟨b3, 4, none⟩ (.slice (some ⟨g4, o4, none⟩) (q.items.length + 1) c4) (by have := HS1.out; simp; omega)) (And.intro (HX4.out.2.1.setOther ⟨b3, 4, none⟩ (.slice (some ⟨g4, o4, none⟩) (q.items.length + 1) c4) (by have := HS1.out; simp; omega)) (And.intro (HX4.out.2.2.1.setOther ⟨b3, 4, none⟩ (.slice (some ⟨g4, o4, none⟩) (q.items.length + 1) c4) (by have := HS1.out; simp; omega)) (HX4.out.2.2.2.setAt 4 (.slice (some ⟨g4, o4, none⟩) (q.items.length + 1) c4) rfl))))
      have hr5 := (HRt.out.chain HB4.out).setOther ⟨b3, 4, none⟩ (.slice (some ⟨g4, o4, none⟩) (q.items.length + 1) c4) (HRt.out.ne_blk HXt.out.2.2.2 (by decide))
      have hv5 := (HO4.out.le (Nat.zero_le _)).setOther ⟨b3, 4, none⟩ (.slice (some ⟨g4, o4, none⟩) (q.items.length + 1) c4) (HO4.out.ne_blk HX4.out.2.2.2 (by decide))
      have hbx := HB5.out
      have hdoc5 : DocR (w4.setCell ⟨b3, 4, none⟩ (.slice (some ⟨g4, o4, none⟩) (q.items.length + 1) c4)) (.slice (some ⟨g, off, none⟩) S.qs.length cq) (.slice a6 R.length c6) ls { S with round := R } := DocR.mk' (HR0.out.it.chain hbx) (HR0.out.2.1.chain hbx) hr5
      have HSET := Lib.hid (rset_any i ⟨q.id, q.weight, 0, false, q.items ++ [(x1, x2)]⟩ (.slice (some ⟨g4, o4, none⟩) (q.items.length + 1) c4) _ hdoc5 HI.out (by rw [List.length_append, itC_snoc]; exact hv5) (Nat.le_trans HS.out.qlen (by decide)))
      unfold docV at HSET
      dsimp only at HSET
      clear hr5 hv5 hbx hdoc5 Zs s0 fs0 s1 fs1 s2 fs2 Zi i0 fi0 i1 fi1 Zr r0 fr0 r1 fr1 r2 fr2 Zq q0 fq0 q1 fq1 q2 fq2 q3 fq3 q4 fq4
      generalize w4.setCell ⟨b3, 4, none⟩ (.slice (some ⟨g4, o4, none⟩) (q.items.length + 1) c4) = w5 at *
      have k0 := HX5.out.1
      have k1 := HX5.out.2.1
      have k2 := HX5.out.2.2.1
      have k3 := HX5.out.2.2.2
      obtain ⟨Xs, Ys, Zs⟩ := k0.facts
      have s0 := Xs 0
      have s1 := Xs 1
      have s2 := Xs 2
      have fs0 := Ys 0
      have fs1 := Ys 1
      have fs2 := Ys 2
      obtain ⟨Xi, Yi, Zi⟩ := k1.facts
      have i0 := Xi 0
      have i1 := Xi 1
      have fi0 := Yi 0
      have fi1 := Yi 1
      obtain ⟨Xr, Yr, Zr⟩ := k2.facts
      have r0 := Xr 0
      have r1 := Xr 1
      have r2 := Xr 2
      have fr0 := Yr 0
      have fr1 := Yr 1
      have fr2 := Yr 2
      obtain ⟨Xq, Yq, Zq⟩ := k3.facts
      have q0 := Xq 0
      have q1 := Xq 1
      have q2 := Xq 2
      have q3 := Xq 3
      have q4 := Xq 4
      have fq0 := Yq 0
      have fq1 := Yq 1
      have fq2 := Yq 2
      have fq3 := Yq 3
      have fq4 := Yq 4
      clear k0 Xs Ys k1 Xi Yi k2 Xr Yr k3 Xq Yq
      go_wp2_with fail
      refine HSET.out.mono ?_
      rintro e w6 ⟨qv6, rfl, hd6, hb6⟩
      obtain ⟨a9, c9, rfl⟩ := hd6.2.1.form
      rw [List.length_set] at hd6
      have HD6 := Lib.hid hd6
      have HB6 := Lib.hid (Below.chain hb6 HB5.out)
      have k2 := HX5.out.2.2.1.below hb6 HX5.out.2.2.1.lt
      have HK2 := Lib.hid k2
      clear hb6 hd6 HSET Zs s0 fs0 s1 fs1 s2 fs2 Zi i0 fi0 i1 fi1 Zr r0 fr0 r1 fr1 r2 fr2 Zq q0 fq0 q1 fq1 q2 fq2 q3 fq3 q4 fq4
      rw [List.length_set]
      obtain ⟨Xr, Yr, Zr⟩ := k2.facts
      have r0 := Xr 0
      have r1 := Xr 1
      have r2 := Xr 2
      have fr0 := Yr 0
      have fr1 := Yr 1
      have fr2 := Yr 2
      clear k2 Xr Yr
      go_wp2_with fail
      have hfin := only_ret1 (w.heap.size + 1 + 1) w6 (.int .i64 S.quantum) (.slice a9 S.qs.length c9) ((.slice a6 R.length c6))
      have hw := Below.only HB6.out hfin (by simp; omega)
      have hk2 := HK2.out
      have hd := HD6.out.keepS hk2 hfin
      refine bodyPost_ret (v := .tuple #[.agg #[.int .i64 S.quantum, .slice a9 S.qs.length c9, (.slice a6 R.length c6)], .int .i64 0]) (by simp [results, Try.results47, go_sem, r0, r1, r2]) rfl ⟨_, _, ls.set i (.slice (some ⟨g4, o4, none⟩) (q.items.length + 1) c4), rfl, ?_, (SubL.refl _ ls).set i (fun y hy => .inr (Nat.le_trans HBt.out.size (HO4.out.blk y hy).1)), hw⟩
      rw [← HPE.out]
      exact hd

  · rw [HG.out] at hg
    cases hg
end Go.Proofs.Ytgfbhclkpephnaa
