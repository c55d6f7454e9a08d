/-
  The document's queues (lightshipref17): Remove.
-/
import Derived.Test.YtgfbhclkpephnaaDrE2
namespace Go.Proofs.Ytgfbhclkpephnaa
open Go Go.RowKit
set_option linter.unusedVariables false
set_option linter.unusedSimpArgs false
set_option maxRecDepth 100000
set_option maxHeartbeats 1000000
theorem PS.Ok.qlen {S : PS} (h : S.Ok) : S.qs.length ≤ 256 := by
  have := len_le_nd 256 _ h.nd fun x hx => by
    obtain ⟨q, hq, rfl⟩ := List.mem_map.1 hx
    have := (h.q q hq).id
    omega
  simpa using this
theorem Seg.rdsAt {w : World} {base : Nat} {e : TypeId} {size n g off cap : Nat} {xs : List Value} (h : Seg w base e size (.slice (some ⟨g, off, none⟩) n cap) n xs) (i : Nat) (hi : i ≤ n) (off' : Nat) (ho : off' = off + i * size ∨ i = cap ∧ off' = off) : RdS w size (.slice (some ⟨g, off', none⟩) (n - i) (cap - i)) (n - i) (xs.drop (i * size)) :=
  (h.from' i hi off' ho).rds
theorem rrem_none (id : Int) {qv rv : Value} {ls : List Value} {S : PS} (w : World) (h : DocR w qv rv ls S) (hS : S.Ok) (hg0 : getQ id S.qs = none) :
    Calls Try.prog 46 #[docV S qv rv, .int .i64 id] w (DAns w ls S 7) := by
  obtain ⟨aq, cq, rfl⟩ := h.2.1.form
  obtain ⟨ar, cr, rfl⟩ := h.2.2.2.form
  unfold docV
  have k0 := (Blk.new w #[.int .i64 S.quantum, .slice aq S.qs.length cq, .slice ar S.round.length cr] 31).alloc (.cells #[.int .i64 0, .slice none 0 0, .slice none 0 0] 31)
  have k2 := Blk.new (w.alloc (.cells #[.int .i64 S.quantum, .slice aq S.qs.length cq, .slice ar S.round.length cr] 31)) #[.int .i64 0, .slice none 0 0, .slice none 0 0] 31
  simp only [size_alloc] at k2
  have hB := Below.chainAlloc (Below.chainAlloc (Below.refl _ w) (.cells #[.int .i64 S.quantum, .slice aq S.qs.length cq, .slice ar S.round.length cr] 31)) (.cells #[.int .i64 0, .slice none 0 0, .slice none 0 0] 31)
  have HB := Lib.hid hB
  have HR0 := Lib.hid h
  have HAT := Lib.hid (rat_any id _ (h.chain hB) (Nat.le_trans hS.qlen (by decide)))
  unfold docV at HAT
  have HL := Lib.hid hS.qlen
  have HRL := Lib.hid hS.rlen
  have HND := Lib.hid hS.nd
  have HS := Lib.hid hS
  have HG := Lib.hid hg0
  have HX := Lib.hid (And.intro k0 k2)
  have HSZ : Hid (((w.alloc (.cells #[.int .i64 S.quantum, .slice aq S.qs.length cq, .slice ar S.round.length cr] 31)).alloc (.cells #[.int .i64 0, .slice none 0 0, .slice none 0 0] 31)).heap.size = w.heap.size + 2) := Lib.hid (by simp only [size_alloc])
  clear h hB hS hg0
  obtain ⟨x1, x2, x3⟩ := k0.facts
  obtain ⟨z1, z2, z3⟩ := k2.facts
  have u0 := x1 0
  have u1 := x1 1
  have u2 := x1 2
  have v0 := z1 0
  have v1 := z1 1
  have v2 := z1 2
  have f1 := x2 1
  have f2 := x2 2
  have e0 := z2 0
  have e1 := z2 1
  have e2 := z2 2
  clear k0 k2 x1 x2 z1 z2
  go_enter Try.func46, Try.ntmps46
  go_wp2_with fail
  refine HAT.out.mono ?_
  rintro e w1 ⟨r, rfl, hr, hb⟩
  have HB1 := Lib.hid (Below.chain hb HB.out)
  have k0 := HX.out.1.below hb HX.out.1.lt
  have k2 := HX.out.2.below hb HX.out.2.lt
  have HX1 := Lib.hid (And.intro k0 k2)
  have HS1 : Hid (w.heap.size + 2 ≤ w1.heap.size) := Lib.hid (by have := hb.size; rw [HSZ.out] at this; exact this)
  clear hb u0 u1 u2 v0 v1 v2 f1 f2 e0 e1 e2 x3 z3 HAT HB HX HSZ
  obtain ⟨x1, x2, x3⟩ := k0.facts
  obtain ⟨z1, z2, z3⟩ := k2.facts
  have u0 := x1 0
  have u1 := x1 1
  have u2 := x1 2
  have v0 := z1 0
  have v1 := z1 1
  have v2 := z1 2
  have f1 := x2 1
  have f2 := x2 2
  have e0 := z2 0
  have e1 := z2 1
  have e2 := z2 2
  clear k0 k2 x1 x2 z1 z2
  rcases hr.get HS.out with ⟨i, hi, rfl, hg⟩ | ⟨rfl, hg⟩
  · rw [HG.out] at hg
    cases hg
  · clear hg
    have HF := Lib.hid (Below.only HB1.out (only_ret1 (w.heap.size + 1) w1 (.int .i64 S.quantum) (.slice aq S.qs.length cq) (.slice ar S.round.length cr)) (by simp))
    go_wp2_with fail
    refine bodyPost_ret (v := .tuple #[.agg #[.int .i64 S.quantum, .slice aq S.qs.length cq, .slice ar S.round.length cr], .int .i64 7]) (by simp [results, Try.results46, go_sem, v0, v1, v2]) rfl (DAns.same HR0.out ?_)
    first | exact HF.out | exact Below.chainAlloc (Below.chainAlloc (Below.refl _ _) _) _
theorem rrem_ok (id : Int) {qv rv : Value} {ls : List Value} {S : PS} (w : World) (h : DocR w qv rv ls S) (hS : S.Ok) (hg0 : getQ id S.qs ≠ none) :
    Calls Try.prog 46 #[docV S qv rv, .int .i64 id] w (DAns w ls (remP S id) 0) := by
  obtain ⟨i0, hif, hz0, hz1, hz2⟩ := info_parts infoQD
  obtain ⟨aq, cq, rfl⟩ := h.2.1.form
  obtain ⟨ar, cr, rfl⟩ := h.2.2.2.form
  unfold docV
  have k0 := (Blk.new w #[.int .i64 S.quantum, .slice aq S.qs.length cq, .slice ar S.round.length cr] 31).alloc (.cells #[.int .i64 0, .slice none 0 0, .slice none 0 0] 31)
  have k2 := Blk.new (w.alloc (.cells #[.int .i64 S.quantum, .slice aq S.qs.length cq, .slice ar S.round.length cr] 31)) #[.int .i64 0, .slice none 0 0, .slice none 0 0] 31
  simp only [size_alloc] at k2
  have hB := Below.chainAlloc (Below.chainAlloc (Below.refl _ w) (.cells #[.int .i64 S.quantum, .slice aq S.qs.length cq, .slice ar S.round.length cr] 31)) (.cells #[.int .i64 0, .slice none 0 0, .slice none 0 0] 31)
  have HB := Lib.hid hB
  have HR0 := Lib.hid h
  have HAT := Lib.hid (rat_any id _ (h.chain hB) (Nat.le_trans hS.qlen (by decide)))
  unfold docV at HAT
  have HL := Lib.hid hS.qlen
  have HRL := Lib.hid hS.rlen
  have HND := Lib.hid hS.nd
  have HS := Lib.hid hS
  have HG := Lib.hid hg0
  have HX := Lib.hid (And.intro k0 k2)
  have HSZ : Hid (((w.alloc (.cells #[.int .i64 S.quantum, .slice aq S.qs.length cq, .slice ar S.round.length cr] 31)).alloc (.cells #[.int .i64 0, .slice none 0 0, .slice none 0 0] 31)).heap.size = w.heap.size + 2) := Lib.hid (by simp only [size_alloc])
  clear h hB hS hg0
  obtain ⟨x1, x2, x3⟩ := k0.facts
  obtain ⟨z1, z2, z3⟩ := k2.facts
  have u0 := x1 0
  have u1 := x1 1
  have u2 := x1 2
  have v0 := z1 0
  have v1 := z1 1
  have v2 := z1 2
  have f1 := x2 1
  have f2 := x2 2
  have e0 := z2 0
  have e1 := z2 1
  have e2 := z2 2
  clear k0 k2 x1 x2 z1 z2
  go_enter Try.func46, Try.ntmps46
  go_wp2_with fail
  refine HAT.out.mono ?_
  rintro e w1 ⟨r, rfl, hr, hb⟩
  have HB1 := Lib.hid (Below.chain hb HB.out)
  have k0 := HX.out.1.below hb HX.out.1.lt
  have k2 := HX.out.2.below hb HX.out.2.lt
  have HX1 := Lib.hid (And.intro k0 k2)
  have HS1 : Hid (w.heap.size + 2 ≤ w1.heap.size) := Lib.hid (by have := hb.size; rw [HSZ.out] at this; exact this)
  clear hb u0 u1 u2 v0 v1 v2 f1 f2 e0 e1 e2 x3 z3 HAT HB HX HSZ
  obtain ⟨x1, x2, x3⟩ := k0.facts
  obtain ⟨z1, z2, z3⟩ := k2.facts
  have u0 := x1 0
  have u1 := x1 1
  have u2 := x1 2
  have v0 := z1 0
  have v1 := z1 1
  have v2 := z1 2
  have f1 := x2 1
  have f2 := x2 2
  have e0 := z2 0
  have e1 := z2 1
  have e2 := z2 2
  clear k0 k2 x1 x2 z1 z2
  rcases hr with ⟨i, hi, rfl, hid⟩ | ⟨rfl, hg⟩
  · have hi0 : (0 : Int) ≤ (i : Int) := by omega
    have hi0' : ¬ (i : Int) < 0 := by omega
    obtain ⟨g, off, _, ea, _⟩ := HR0.out.shape (Nat.lt_of_le_of_lt (Nat.zero_le _) hi)
    cases ea
    have HIDX : Hid (∃ h : i < S.qs.length, S.qs[i].id = id) := Lib.hid ⟨hi, hid⟩
    have HI := Lib.hid hi
    have hcp : S.qs.length ≤ cq := by
      rcases HR0.out.2.1.2 with ⟨h0, _⟩ | ⟨_, _, _, _, hv, _, _, hn, hc, _⟩
      · cases h0
      · cases hv
        exact hn
    have HCP := Lib.hid hcp
    have hQ1 : 0 + i ≤ maxLen ∧ (0 + i) * 56 ≤ 140737488355328 := by have := HL.out; unfold maxLen; omega
    have hQ2 : i + (S.qs.length - (i + 1)) ≤ maxLen ∧ (i + (S.qs.length - (i + 1))) * 56 ≤ 140737488355328 := by have := HL.out; unfold maxLen; omega
    have HQ1 := Lib.hid hQ1
    have HQ2 := Lib.hid hQ2
    have hji : (i : Int) ≤ (cq : Int) := by omega
    have hic : i < cq := by omega
    have h5 : (i : Int) + 1 ≤ (S.qs.length : Int) := by omega
    have h6 : (0 : Int) ≤ (i : Int) + 1 := by omega
    have h7 : (S.qs.length : Int) ≤ (cq : Int) := by omega
    have HR1 : Hid (RdS w1 5 (.slice (some ⟨g, off, none⟩) i cq) i (rowsQ (S.qs.take i) (ls.take i))) := Lib.hid (by rw [rowsQ_take]; exact ((HR0.out.chain HB1.out).2.1.upto i (Nat.le_of_lt hi)).rds)
    have HON1 : Hid (∀ u ∈ rowsQ (S.qs.take i) (ls.take i), u.oneCell' = true) := Lib.hid (one_rowsQ (HR0.out.it.take i))
    have HON2 : Hid (∀ u ∈ rowsQ (S.qs.drop (i + 1)) (ls.drop (i + 1)), u.oneCell' = true) := Lib.hid (one_rowsQ (HR0.out.it.drop (i + 1)))
    have HKW : Hid (wrap64 ((i : Int) + 1) = (i : Int) + 1) := Lib.hid (kw17 i S.qs.length hi (Nat.le_trans HL.out (by decide)))
    clear hi hid hcp hQ1 hQ2
    go_upto_region 6 with (at_builtin; refine wpList_append_rds rfl (.tmp 14) (.tmp 18) 28 rfl w1.heap.size 107 i0 _ 5 56 Try.underlying28 hif hz0 hz1 hz2 rfl (by decide) (.slice none 0 0) 0 [] rfl (Seg.nil _ _ _ _) (.slice (some ⟨g, off, none⟩) i cq) i (rowsQ (S.qs.take i) (ls.take i)) rfl HR1.out HON1.out HQ1.out.1 HQ1.out.2 (Nat.le_refl _) ?_; intro v3 w3 hown3 hgrow3 hat3; rw [List.nil_append, Nat.zero_add] at hown3)
    have hb3 : Below w1.heap.size w1 w3 := (Only.grown (S := []) (Only.refl _ _) hgrow3 (fun x hx => by cases hx)).nil
    obtain ⟨a3, c3, rfl⟩ := hown3.form
    have HO3 := Lib.hid hown3
    have HB3 := Lib.hid hb3
    have k0 := HX1.out.1.below hb3 HX1.out.1.lt
    have k2 := HX1.out.2.below hb3 HX1.out.2.lt
    have HSL : Hid (w1.heap.size ≤ w3.heap.size) := Lib.hid hb3.size
    have HRD := Lib.hid (HR0.out.chain (Below.chain hb3 HB1.out))
    clear hb3 hown3 hgrow3 hat3 u0 u1 u2 v0 v1 v2 f1 f2 e0 e1 e2 x3 z3 HR1 HON1
    obtain ⟨x1, x2, x3⟩ := k0.facts
    obtain ⟨z1, z2, z3⟩ := k2.facts
    have u0 := x1 0
    have u1 := x1 1
    have u2 := x1 2
    have v0 := z1 0
    have v1 := z1 1
    have v2 := z1 2
    have f1 := x2 1
    have f2 := x2 2
    have e0 := z2 0
    have e1 := z2 1
    have e2 := z2 2
    clear k0 k2 x1 x2 z1 z2
    have hkw := HKW.out
    by_cases hc : i + 1 = cq
    · subst hc
      have HR2 : Hid (RdS w3 5 (.slice (some ⟨g, off, none⟩) (S.qs.length - (i + 1)) 0) (S.qs.length - (i + 1)) (rowsQ (S.qs.drop (i + 1)) (ls.drop (i + 1)))) := Lib.hid (by rw [rowsQ_drop]; have h := HRD.out.2.1.rdsAt (i + 1) HI.out (off) (.inr ⟨rfl, rfl⟩); (try rw [Nat.sub_self] at h); exact h)
      go_upto_region 7 with (at_builtin; refine wpList_append_rds rfl (.tmp 20) (.tmp 25) 28 rfl w1.heap.size 107 i0 _ 5 56 Try.underlying28 hif hz0 hz1 hz2 rfl (by decide) (.slice a3 i c3) i (rowsQ (S.qs.take i) (ls.take i)) rfl HO3.out (.slice (some ⟨g, off, none⟩) (S.qs.length - (i + 1)) 0) (S.qs.length - (i + 1)) (rowsQ (S.qs.drop (i + 1)) (ls.drop (i + 1))) rfl HR2.out HON2.out HQ2.out.1 HQ2.out.2 HSL.out ?_; intro v4 w4 hown4 hgrow4 hat4; have HO4 := Lib.hid hown4; have hb4 := (Only.grown (S := []) (Only.of_below HB3.out) hgrow4 (fun x hx => .inr (HO3.out.blk x hx).1)).nil; obtain ⟨a4, c4, rfl⟩ := hown4.form; have HB4 := Lib.hid hb4; have k0 := HX1.out.1.below hb4 HX1.out.1.lt; have k2 := HX1.out.2.below hb4 HX1.out.2.lt; have HX4 := Lib.hid (And.intro k0 k2); clear hown4 hgrow4 hat4 hb4 u0 u1 u2 v0 v1 v2 f1 f2 e0 e1 e2 x3 z3; obtain ⟨x1, x2, x3⟩ := k0.facts; obtain ⟨z1, z2, z3⟩ := k2.facts; have u0 := x1 0; have u1 := x1 1; have u2 := x1 2; have v0 := z1 0; have v1 := z1 1; have v2 := z1 2; have f1 := x2 1; have f2 := x2 2; have e0 := z2 0; have e1 := z2 1; have e2 := z2 2; clear k0 k2 x1 x2 z1 z2)
      have HW5 : Hid (Below w.heap.size w (w4.setCell ⟨w.heap.size, 1, none⟩ (.slice a4 (i + (S.qs.length - (i + 1))) c4))) := Lib.hid ((Below.chain HB4.out HB1.out).setCell (Nat.le_refl _) _)
      have HX5 := Lib.hid (And.intro (HX4.out.1.setAt 1 (.slice a4 (i + (S.qs.length - (i + 1))) c4) rfl) (HX4.out.2.setOther ⟨w.heap.size, 1, none⟩ (.slice a4 (i + (S.qs.length - (i + 1))) c4) (by simp)))
      have HO5 := Lib.hid (HO4.out.setOther ⟨w.heap.size, 1, none⟩ (.slice a4 (i + (S.qs.length - (i + 1))) c4) (fun y hy => by
        have h1 := (HO4.out.blk y hy).1
        have h2 := HS1.out
        simp
        clear hkw
        omega))
      have HSZ5 : Hid (w4.heap.size ≤ (w4.setCell ⟨w.heap.size, 1, none⟩ (.slice a4 (i + (S.qs.length - (i + 1))) c4)).heap.size) := Lib.hid (by simp [World.setCell])
      generalize w4.setCell ⟨w.heap.size, 1, none⟩ (.slice a4 (i + (S.qs.length - (i + 1))) c4) = w5 at *
      clear u0 u1 u2 v0 v1 v2 f1 f2 e0 e1 e2 x3 z3 HX4 HB3 HO3 HSL HRD HQ1 HQ2 hkw h5 h6 h7 hji hi0 hi0'
      have k0 := HX5.out.1
      have k2 := HX5.out.2
      obtain ⟨x1, x2, x3⟩ := k0.facts
      obtain ⟨z1, z2, z3⟩ := k2.facts
      have u0 := x1 0
      have u1 := x1 1
      have u2 := x1 2
      have v0 := z1 0
      have v1 := z1 1
      have v2 := z1 2
      have f1 := x2 1
      have f2 := x2 2
      have e0 := z2 0
      have e1 := z2 1
      have e2 := z2 2
      clear k0 k2 x1 x2 z1 z2
      have HRR := Lib.hid (rwo_any id w5 (HR0.out.2.2.2.chain HW5.out) (Nat.le_trans HRL.out (by decide)))
      go_wp2_with fail
      refine HRR.out.mono ?_
      rintro e w6 ⟨v6, rfl, hs6, hb6⟩
      obtain ⟨a6, c6, rfl⟩ := hs6.form
      have k0 := HX5.out.1.below hb6 HX5.out.1.lt
      have k2 := HX5.out.2.below hb6 HX5.out.2.lt
      have HB6 := Lib.hid (Below.chain hb6 HW5.out)
      have HS6 := Lib.hid hs6
      have HO6 := Lib.hid (HO5.out.chain hb6)
      have HL6 : Hid (w.heap.size + 2 ≤ w5.heap.size) := Lib.hid (by have := HX5.out.2.lt; omega)
      clear u0 u1 u2 v0 v1 v2 f1 f2 e0 e1 e2 x3 z3 hb6 hs6 HRR
      obtain ⟨x1, x2, x3⟩ := k0.facts
      obtain ⟨z1, z2, z3⟩ := k2.facts
      have u0 := x1 0
      have u1 := x1 1
      have u2 := x1 2
      have v0 := z1 0
      have v1 := z1 1
      have v2 := z1 2
      have f1 := x2 1
      have f2 := x2 2
      have e0 := z2 0
      have e1 := z2 1
      have e2 := z2 2
      clear k0 k2 x1 x2 z1 z2
      go_wp2_with fail
      have hF : ∀ v1 v2 v3 v4, Only [w.heap.size, w.heap.size + 1] w6 ((((w6.setCell ⟨w.heap.size, 2, none⟩ v1).setCell ⟨w.heap.size + 1, 0, none⟩ v2).setCell ⟨w.heap.size + 1, 1, none⟩ v3).setCell ⟨w.heap.size + 1, 2, none⟩ v4) := fun v1 v2 v3 v4 =>
        ((((Only.refl _ _).setCell _ _ (.inl (by simp))).setCell _ _ (.inl (by simp))).setCell _ _ (.inl (by simp))).setCell _ _ (.inl (by simp))
      have hfin := hF (.slice a6 (wo id S.round).length c6) (.int .i64 S.quantum) (.slice a4 (i + (S.qs.length - (i + 1))) c4) (.slice a6 (wo id S.round).length c6)
      have hw := Below.only HB6.out hfin (by simp)
      have hs := HO6.out.only hfin (fun y hy hm => by
        have h1 := (HO5.out.blk y hy).1
        have h2 := HS1.out
        simp at hm
        omega)
      have hr6 := HS6.out.only hfin (fun y hy hm => by
        have h1 := (HS6.out.blk y hy).1
        have h2 := HL6.out
        simp at hm
        omega)
      obtain ⟨hi, hid⟩ := HIDX.out
      have hqs : (remP S id).qs = S.qs.take i ++ S.qs.drop (i + 1) := by
        subst hid
        exact filter_idx S.qs i hi HND.out
      have hrs : (remP S id).round = wo id S.round := wo_rem id S.round
      have hit : ItR w (remP S id).qs (ls.take i ++ ls.drop (i + 1)) := by rw [hqs]; exact (HR0.out.it.take i).app (HR0.out.it.drop (i + 1))
      refine bodyPost_ret (v := .tuple #[.agg #[.int .i64 S.quantum, .slice a4 (i + (S.qs.length - (i + 1))) c4, .slice a6 (wo id S.round).length c6], .int .i64 0]) (by simp [results, Try.results46, go_sem, v0, v1, v2]) rfl ⟨_, _, ls.take i ++ ls.drop (i + 1), rfl, DocR.fin (S' := remP S id) hit hw ?_ ?_, (SubL.refl _ ls).mem (fun y hy => (List.mem_append.1 hy).elim List.mem_of_mem_take List.mem_of_mem_drop), hw⟩
      · rw [hqs, rowsQ_app (HR0.out.it.take i), List.length_append, List.length_take, List.length_drop, Nat.min_eq_left (Nat.le_of_lt hi)]
        exact hs.le (Nat.zero_le _)
      · rw [hrs]
        exact hr6.le (Nat.zero_le _)
    · have hc2 : ¬ (i : Int) + 1 = (cq : Int) := by clear hkw; omega
      have hc3 : ¬ (cq : Int) = (i : Int) + 1 := by clear hkw; omega
      have hc4 : ¬ cq = i + 1 := by clear hkw; omega
      have HR2 : Hid (RdS w3 5 (.slice (some ⟨g, off + (i + 1) * 5, none⟩) (S.qs.length - (i + 1)) (cq - (i + 1))) (S.qs.length - (i + 1)) (rowsQ (S.qs.drop (i + 1)) (ls.drop (i + 1)))) := Lib.hid (by rw [rowsQ_drop]; have h := HRD.out.2.1.rdsAt (i + 1) HI.out (off + (i + 1) * 5) (.inl rfl); (try rw [Nat.sub_self] at h); exact h)
      go_upto_region 7 with (at_builtin; refine wpList_append_rds rfl (.tmp 20) (.tmp 25) 28 rfl w1.heap.size 107 i0 _ 5 56 Try.underlying28 hif hz0 hz1 hz2 rfl (by decide) (.slice a3 i c3) i (rowsQ (S.qs.take i) (ls.take i)) rfl HO3.out (.slice (some ⟨g, off + (i + 1) * 5, none⟩) (S.qs.length - (i + 1)) (cq - (i + 1))) (S.qs.length - (i + 1)) (rowsQ (S.qs.drop (i + 1)) (ls.drop (i + 1))) rfl HR2.out HON2.out HQ2.out.1 HQ2.out.2 HSL.out ?_; intro v4 w4 hown4 hgrow4 hat4; have HO4 := Lib.hid hown4; have hb4 := (Only.grown (S := []) (Only.of_below HB3.out) hgrow4 (fun x hx => .inr (HO3.out.blk x hx).1)).nil; obtain ⟨a4, c4, rfl⟩ := hown4.form; have HB4 := Lib.hid hb4; have k0 := HX1.out.1.below hb4 HX1.out.1.lt; have k2 := HX1.out.2.below hb4 HX1.out.2.lt; have HX4 := Lib.hid (And.intro k0 k2); clear hown4 hgrow4 hat4 hb4 u0 u1 u2 v0 v1 v2 f1 f2 e0 e1 e2 x3 z3; obtain ⟨x1, x2, x3⟩ := k0.facts; obtain ⟨z1, z2, z3⟩ := k2.facts; have u0 := x1 0; have u1 := x1 1; have u2 := x1 2; have v0 := z1 0; have v1 := z1 1; have v2 := z1 2; have f1 := x2 1; have f2 := x2 2; have e0 := z2 0; have e1 := z2 1; have e2 := z2 2; clear k0 k2 x1 x2 z1 z2)
      have HW5 : Hid (Below w.heap.size w (w4.setCell ⟨w.heap.size, 1, none⟩ (.slice a4 (i + (S.qs.length - (i + 1))) c4))) := Lib.hid ((Below.chain HB4.out HB1.out).setCell (Nat.le_refl _) _)
      have HX5 := Lib.hid (And.intro (HX4.out.1.setAt 1 (.slice a4 (i + (S.qs.length - (i + 1))) c4) rfl) (HX4.out.2.setOther ⟨w.heap.size, 1, none⟩ (.slice a4 (i + (S.qs.length - (i + 1))) c4) (by simp)))
      have HO5 := Lib.hid (HO4.out.setOther ⟨w.heap.size, 1, none⟩ (.slice a4 (i + (S.qs.length - (i + 1))) c4) (fun y hy => by
        have h1 := (HO4.out.blk y hy).1
        have h2 := HS1.out
        simp
        clear hkw
        omega))
      have HSZ5 : Hid (w4.heap.size ≤ (w4.setCell ⟨w.heap.size, 1, none⟩ (.slice a4 (i + (S.qs.length - (i + 1))) c4)).heap.size) := Lib.hid (by simp [World.setCell])
      generalize w4.setCell ⟨w.heap.size, 1, none⟩ (.slice a4 (i + (S.qs.length - (i + 1))) c4) = w5 at *
      clear u0 u1 u2 v0 v1 v2 f1 f2 e0 e1 e2 x3 z3 HX4 HB3 HO3 HSL HRD HQ1 HQ2 hkw h5 h6 h7 hji hi0 hi0'
      have k0 := HX5.out.1
      have k2 := HX5.out.2
      obtain ⟨x1, x2, x3⟩ := k0.facts
      obtain ⟨z1, z2, z3⟩ := k2.facts
      have u0 := x1 0
      have u1 := x1 1
      have u2 := x1 2
      have v0 := z1 0
      have v1 := z1 1
      have v2 := z1 2
      have f1 := x2 1
      have f2 := x2 2
      have e0 := z2 0
      have e1 := z2 1
      have e2 := z2 2
      clear k0 k2 x1 x2 z1 z2
      have HRR := Lib.hid (rwo_any id w5 (HR0.out.2.2.2.chain HW5.out) (Nat.le_trans HRL.out (by decide)))
      go_wp2_with fail
      refine HRR.out.mono ?_
      rintro e w6 ⟨v6, rfl, hs6, hb6⟩
      obtain ⟨a6, c6, rfl⟩ := hs6.form
      have k0 := HX5.out.1.below hb6 HX5.out.1.lt
      have k2 := HX5.out.2.below hb6 HX5.out.2.lt
      have HB6 := Lib.hid (Below.chain hb6 HW5.out)
      have HS6 := Lib.hid hs6
      have HO6 := Lib.hid (HO5.out.chain hb6)
      have HL6 : Hid (w.heap.size + 2 ≤ w5.heap.size) := Lib.hid (by have := HX5.out.2.lt; omega)
      clear u0 u1 u2 v0 v1 v2 f1 f2 e0 e1 e2 x3 z3 hb6 hs6 HRR
      obtain ⟨x1, x2, x3⟩ := k0.facts
      obtain ⟨z1, z2, z3⟩ := k2.facts
      have u0 := x1 0
      have u1 := x1 1
      have u2 := x1 2
      have v0 := z1 0
      have v1 := z1 1
      have v2 := z1 2
      have f1 := x2 1
      have f2 := x2 2
      have e0 := z2 0
      have e1 := z2 1
      have e2 := z2 2
      clear k0 k2 x1 x2 z1 z2
      go_wp2_with fail
      have hF : ∀ v1 v2 v3 v4, Only [w.heap.size, w.heap.size + 1] w6 ((((w6.setCell ⟨w.heap.size, 2, none⟩ v1).setCell ⟨w.heap.size + 1, 0, none⟩ v2).setCell ⟨w.heap.size + 1, 1, none⟩ v3).setCell ⟨w.heap.size + 1, 2, none⟩ v4) := fun v1 v2 v3 v4 =>
        ((((Only.refl _ _).setCell _ _ (.inl (by simp))).setCell _ _ (.inl (by simp))).setCell _ _ (.inl (by simp))).setCell _ _ (.inl (by simp))
      have hfin := hF (.slice a6 (wo id S.round).length c6) (.int .i64 S.quantum) (.slice a4 (i + (S.qs.length - (i + 1))) c4) (.slice a6 (wo id S.round).length c6)
      have hw := Below.only HB6.out hfin (by simp)
      have hs := HO6.out.only hfin (fun y hy hm => by
        have h1 := (HO5.out.blk y hy).1
        have h2 := HS1.out
        simp at hm
        omega)
      have hr6 := HS6.out.only hfin (fun y hy hm => by
        have h1 := (HS6.out.blk y hy).1
        have h2 := HL6.out
        simp at hm
        omega)
      obtain ⟨hi, hid⟩ := HIDX.out
      have hqs : (remP S id).qs = S.qs.take i ++ S.qs.drop (i + 1) := by
        subst hid
        exact filter_idx S.qs i hi HND.out
      have hrs : (remP S id).round = wo id S.round := wo_rem id S.round
      have hit : ItR w (remP S id).qs (ls.take i ++ ls.drop (i + 1)) := by rw [hqs]; exact (HR0.out.it.take i).app (HR0.out.it.drop (i + 1))
      refine bodyPost_ret (v := .tuple #[.agg #[.int .i64 S.quantum, .slice a4 (i + (S.qs.length - (i + 1))) c4, .slice a6 (wo id S.round).length c6], .int .i64 0]) (by simp [results, Try.results46, go_sem, v0, v1, v2]) rfl ⟨_, _, ls.take i ++ ls.drop (i + 1), rfl, DocR.fin (S' := remP S id) hit hw ?_ ?_, (SubL.refl _ ls).mem (fun y hy => (List.mem_append.1 hy).elim List.mem_of_mem_take List.mem_of_mem_drop), hw⟩
      · rw [hqs, rowsQ_app (HR0.out.it.take i), List.length_append, List.length_take, List.length_drop, Nat.min_eq_left (Nat.le_of_lt hi)]
        exact hs.le (Nat.zero_le _)
      · rw [hrs]
        exact hr6.le (Nat.zero_le _)
  · exact absurd (getQ_none.2 hg) HG.out
end Go.Proofs.Ytgfbhclkpephnaa
