/-
  The document's queues (lightshipref17): Add.
-/
import Derived.Test.YtgfbhclkpephnaaDrE1
namespace Go.Proofs.Ytgfbhclkpephnaa
open Go Go.RowKit
set_option linter.unusedVariables false
set_option linter.unusedSimpArgs false
set_option maxRecDepth 100000
set_option maxHeartbeats 1000000
/-- The two blocks at the head: the parameter's box and the result's cell. -/
theorem only_ret1 (b : Nat) (w4 : World) (v2 v3 v4 : Value) : Only [b] w4 (((w4.setCell ⟨b, 0, none⟩ v2).setCell ⟨b, 1, none⟩ v3).setCell ⟨b, 2, none⟩ v4) :=
  (((Only.refl _ _).setCell _ _ (.inl (by simp))).setCell _ _ (.inl (by simp))).setCell _ _ (.inl (by simp))
theorem DAns.same {w w' : World} {qv rv : Value} {ls : List Value} {S : PS} {E : Int} (h : DocR w qv rv ls S) (hb : Below w.heap.size w w') : DAns w ls S E (.returned (.tuple #[docV S qv rv, .int .i64 E])) w' := ⟨_, _, _, rfl, h.chain hb, SubL.refl _ _, hb⟩
theorem radd_bad (id wt : Int) {qv rv : Value} {ls : List Value} {S : PS} (w : World) (h : DocR w qv rv ls S) (hb : id < 0 ∨ 255 < id ∨ wt < 1 ∨ 255 < wt) :
    Calls Try.prog 45 #[docV S qv rv, .int .i64 id, .int .i64 wt] w (DAns w ls S 2) := by
  obtain ⟨aq, cq, rfl⟩ := h.2.1.form
  obtain ⟨ar, cr, rfl⟩ := h.2.2.2.form
  unfold docV
  have k0 := (Blk.new w #[.int .i64 S.quantum, .slice aq S.qs.length cq, .slice ar S.round.length cr] 31).alloc (.cells #[.int .i64 0, .slice none 0 0, .slice none 0 0] 31)
  have k2 := Blk.new (w.alloc (.cells #[.int .i64 S.quantum, .slice aq S.qs.length cq, .slice ar S.round.length cr] 31)) #[.int .i64 0, .slice none 0 0, .slice none 0 0] 31
  simp only [size_alloc] at k2
  have hB := Below.chainAlloc (Below.chainAlloc (Below.refl _ w) (.cells #[.int .i64 S.quantum, .slice aq S.qs.length cq, .slice ar S.round.length cr] 31)) (.cells #[.int .i64 0, .slice none 0 0, .slice none 0 0] 31)
  have HB := Lib.hid hB
  have HR0 := Lib.hid h
  clear h hB
  obtain ⟨x1, x2, x3⟩ := k0.facts
  obtain ⟨z1, z2, z3⟩ := k2.facts
  have u0 := x1 0
  have u1 := x1 1
  have u2 := x1 2
  have v0 := z1 0
  have v1 := z1 1
  have v2 := z1 2
  have f1 := x2 1
  have f2 := x2 2
  have e0 := z2 0
  have e1 := z2 1
  have e2 := z2 2
  clear k0 k2 x1 x2 z1 z2
  have HF := Lib.hid (Below.only HB.out (only_ret1 (w.heap.size + 1) _ (.int .i64 S.quantum) (.slice aq S.qs.length cq) (.slice ar S.round.length cr)) (by simp))
  by_cases h1 : id < 0
  · go_enter Try.func45, Try.ntmps45
    go_wp2_with fail
    refine bodyPost_ret (v := .tuple #[.agg #[.int .i64 S.quantum, .slice aq S.qs.length cq, .slice ar S.round.length cr], .int .i64 2]) (by simp [results, Try.results45, go_sem, v0, v1, v2]) rfl (DAns.same HR0.out ?_)
    first | exact HF.out | exact Below.chainAlloc (Below.chainAlloc (Below.refl _ _) _) _
  · by_cases h2 : 255 < id
    · go_enter Try.func45, Try.ntmps45
      go_wp2_with fail
      refine bodyPost_ret (v := .tuple #[.agg #[.int .i64 S.quantum, .slice aq S.qs.length cq, .slice ar S.round.length cr], .int .i64 2]) (by simp [results, Try.results45, go_sem, v0, v1, v2]) rfl (DAns.same HR0.out ?_)
      first | exact HF.out | exact Below.chainAlloc (Below.chainAlloc (Below.refl _ _) _) _
    · by_cases h3 : wt < 1
      · go_enter Try.func45, Try.ntmps45
        go_wp2_with fail
        refine bodyPost_ret (v := .tuple #[.agg #[.int .i64 S.quantum, .slice aq S.qs.length cq, .slice ar S.round.length cr], .int .i64 2]) (by simp [results, Try.results45, go_sem, v0, v1, v2]) rfl (DAns.same HR0.out ?_)
        first | exact HF.out | exact Below.chainAlloc (Below.chainAlloc (Below.refl _ _) _) _
      · have h4 : 255 < wt := by omega
        go_enter Try.func45, Try.ntmps45
        go_wp2_with fail
        refine bodyPost_ret (v := .tuple #[.agg #[.int .i64 S.quantum, .slice aq S.qs.length cq, .slice ar S.round.length cr], .int .i64 2]) (by simp [results, Try.results45, go_sem, v0, v1, v2]) rfl (DAns.same HR0.out ?_)
        first | exact HF.out | exact Below.chainAlloc (Below.chainAlloc (Below.refl _ _) _) _
theorem radd_twice (id wt : Int) {qv rv : Value} {ls : List Value} {S : PS} (w : World) (h : DocR w qv rv ls S) (hS : S.Ok) (hl : S.qs.length ≤ 300) (hg0 : getQ id S.qs ≠ none) (hk : ¬ (id < 0 ∨ 255 < id ∨ wt < 1 ∨ 255 < wt)) :
    Calls Try.prog 45 #[docV S qv rv, .int .i64 id, .int .i64 wt] w (DAns w ls S 8) := by
  obtain ⟨aq, cq, rfl⟩ := h.2.1.form
  obtain ⟨ar, cr, rfl⟩ := h.2.2.2.form
  unfold docV
  have k0 := (Blk.new w #[.int .i64 S.quantum, .slice aq S.qs.length cq, .slice ar S.round.length cr] 31).alloc (.cells #[.int .i64 0, .slice none 0 0, .slice none 0 0] 31)
  have k2 := Blk.new (w.alloc (.cells #[.int .i64 S.quantum, .slice aq S.qs.length cq, .slice ar S.round.length cr] 31)) #[.int .i64 0, .slice none 0 0, .slice none 0 0] 31
  simp only [size_alloc] at k2
  have hB := Below.chainAlloc (Below.chainAlloc (Below.refl _ w) (.cells #[.int .i64 S.quantum, .slice aq S.qs.length cq, .slice ar S.round.length cr] 31)) (.cells #[.int .i64 0, .slice none 0 0, .slice none 0 0] 31)
  have HB := Lib.hid hB
  have HR0 := Lib.hid h
  have HAT := Lib.hid (rat_any id _ (h.chain hB) hl)
  unfold docV at HAT
  have HL := Lib.hid hl
  have HS := Lib.hid hS
  have h1 : ¬ id < 0 := by omega
  have h2 : ¬ 255 < id := by omega
  have h3 : ¬ wt < 1 := by omega
  have h4 : ¬ 255 < wt := by omega
  have HG := Lib.hid hg0
  have HX := Lib.hid (And.intro k0 k2)
  have HSZ : Hid (((w.alloc (.cells #[.int .i64 S.quantum, .slice aq S.qs.length cq, .slice ar S.round.length cr] 31)).alloc (.cells #[.int .i64 0, .slice none 0 0, .slice none 0 0] 31)).heap.size = w.heap.size + 2) := Lib.hid (by simp only [size_alloc])
  clear h hB hk hS hl hg0
  obtain ⟨x1, x2, x3⟩ := k0.facts
  obtain ⟨z1, z2, z3⟩ := k2.facts
  have u0 := x1 0
  have u1 := x1 1
  have u2 := x1 2
  have v0 := z1 0
  have v1 := z1 1
  have v2 := z1 2
  have f1 := x2 1
  have f2 := x2 2
  have e0 := z2 0
  have e1 := z2 1
  have e2 := z2 2
  clear k0 k2 x1 x2 z1 z2
  go_enter Try.func45, Try.ntmps45
  go_wp2_with fail
  refine HAT.out.mono ?_
  rintro e w1 ⟨r, rfl, hr, hb⟩
  have HB1 := Lib.hid (Below.chain hb HB.out)
  have k0 := HX.out.1.below hb HX.out.1.lt
  have k2 := HX.out.2.below hb HX.out.2.lt
  have HX1 := Lib.hid (And.intro k0 k2)
  have HS1 : Hid (w.heap.size + 2 ≤ w1.heap.size) := Lib.hid (by have := hb.size; rw [HSZ.out] at this; exact this)
  clear hb u0 u1 u2 v0 v1 v2 f1 f2 e0 e1 e2 x3 z3 HAT HB HX HSZ
  obtain ⟨x1, x2, x3⟩ := k0.facts
  obtain ⟨z1, z2, z3⟩ := k2.facts
  have u0 := x1 0
  have u1 := x1 1
  have u2 := x1 2
  have v0 := z1 0
  have v1 := z1 1
  have v2 := z1 2
  have f1 := x2 1
  have f2 := x2 2
  have e0 := z2 0
  have e1 := z2 1
  have e2 := z2 2
  clear k0 k2 x1 x2 z1 z2
  rcases hr.get HS.out with ⟨i, hi, rfl, hg⟩ | ⟨rfl, hg⟩
  · have hi0 : (0 : Int) ≤ (i : Int) := by omega
    have hi0' : ¬ (i : Int) < 0 := by omega
    have HF := Lib.hid (Below.only HB1.out (only_ret1 (w.heap.size + 1) w1 (.int .i64 S.quantum) (.slice aq S.qs.length cq) (.slice ar S.round.length cr)) (by simp))
    clear hg
    go_wp2_with fail
    refine bodyPost_ret (v := .tuple #[.agg #[.int .i64 S.quantum, .slice aq S.qs.length cq, .slice ar S.round.length cr], .int .i64 8]) (by simp [results, Try.results45, go_sem, v0, v1, v2]) rfl (DAns.same HR0.out ?_)
    first | exact HF.out | exact Below.chainAlloc (Below.chainAlloc (Below.refl _ _) _) _
  · exact absurd hg HG.out
theorem radd_new (id wt : Int) {qv rv : Value} {ls : List Value} {S : PS} (w : World) (h : DocR w qv rv ls S) (hS : S.Ok) (hl : S.qs.length ≤ 300) (hg0 : getQ id S.qs = none) (hk : ¬ (id < 0 ∨ 255 < id ∨ wt < 1 ∨ 255 < wt)) :
    Calls Try.prog 45 #[docV S qv rv, .int .i64 id, .int .i64 wt] w (DAns w ls (addP S id wt) 0) := by
  obtain ⟨i0, hif, hz0, hz1, hz2⟩ := info_parts infoQD
  obtain ⟨aq, cq, rfl⟩ := h.2.1.form
  obtain ⟨ar, cr, rfl⟩ := h.2.2.2.form
  unfold docV
  have k0 := (Blk.new w #[.int .i64 S.quantum, .slice aq S.qs.length cq, .slice ar S.round.length cr] 31).alloc (.cells #[.int .i64 0, .slice none 0 0, .slice none 0 0] 31)
  have k2 := Blk.new (w.alloc (.cells #[.int .i64 S.quantum, .slice aq S.qs.length cq, .slice ar S.round.length cr] 31)) #[.int .i64 0, .slice none 0 0, .slice none 0 0] 31
  simp only [size_alloc] at k2
  have hB := Below.chainAlloc (Below.chainAlloc (Below.refl _ w) (.cells #[.int .i64 S.quantum, .slice aq S.qs.length cq, .slice ar S.round.length cr] 31)) (.cells #[.int .i64 0, .slice none 0 0, .slice none 0 0] 31)
  have HB := Lib.hid hB
  have HR0 := Lib.hid h
  have HAT := Lib.hid (rat_any id _ (h.chain hB) hl)
  unfold docV at HAT
  have HL := Lib.hid hl
  have HS := Lib.hid hS
  have h1 : ¬ id < 0 := by omega
  have h2 : ¬ 255 < id := by omega
  have h3 : ¬ wt < 1 := by omega
  have h4 : ¬ 255 < wt := by omega
  have HG := Lib.hid hg0
  have HX := Lib.hid (And.intro k0 k2)
  have HSZ : Hid (((w.alloc (.cells #[.int .i64 S.quantum, .slice aq S.qs.length cq, .slice ar S.round.length cr] 31)).alloc (.cells #[.int .i64 0, .slice none 0 0, .slice none 0 0] 31)).heap.size = w.heap.size + 2) := Lib.hid (by simp only [size_alloc])
  clear h hB hk hS hl hg0
  obtain ⟨x1, x2, x3⟩ := k0.facts
  obtain ⟨z1, z2, z3⟩ := k2.facts
  have u0 := x1 0
  have u1 := x1 1
  have u2 := x1 2
  have v0 := z1 0
  have v1 := z1 1
  have v2 := z1 2
  have f1 := x2 1
  have f2 := x2 2
  have e0 := z2 0
  have e1 := z2 1
  have e2 := z2 2
  clear k0 k2 x1 x2 z1 z2
  go_enter Try.func45, Try.ntmps45
  go_wp2_with fail
  refine HAT.out.mono ?_
  rintro e w1 ⟨r, rfl, hr, hb⟩
  have HB1 := Lib.hid (Below.chain hb HB.out)
  have k0 := HX.out.1.below hb HX.out.1.lt
  have k2 := HX.out.2.below hb HX.out.2.lt
  have HX1 := Lib.hid (And.intro k0 k2)
  have HS1 : Hid (w.heap.size + 2 ≤ w1.heap.size) := Lib.hid (by have := hb.size; rw [HSZ.out] at this; exact this)
  clear hb u0 u1 u2 v0 v1 v2 f1 f2 e0 e1 e2 x3 z3 HAT HB HX HSZ
  obtain ⟨x1, x2, x3⟩ := k0.facts
  obtain ⟨z1, z2, z3⟩ := k2.facts
  have u0 := x1 0
  have u1 := x1 1
  have u2 := x1 2
  have v0 := z1 0
  have v1 := z1 1
  have v2 := z1 2
  have f1 := x2 1
  have f2 := x2 2
  have e0 := z2 0
  have e1 := z2 1
  have e2 := z2 2
  clear k0 k2 x1 x2 z1 z2
  rcases hr.get HS.out with ⟨i, hi, rfl, hg⟩ | ⟨rfl, hg⟩
  · rw [HG.out] at hg
    cases hg
  · clear hg
    have HQ1 : Hid (0 + S.qs.length ≤ maxLen ∧ (0 + S.qs.length) * 56 ≤ 140737488355328) := Lib.hid (by have := HL.out; unfold maxLen; omega)
    have HQ2 : Hid (S.qs.length + 1 ≤ maxLen ∧ (S.qs.length + 1) * 56 ≤ 140737488355328) := Lib.hid (by have := HL.out; unfold maxLen; omega)
    have HR1 := Lib.hid (HR0.out.chain HB1.out)
    have HRD : Hid (RdS w1 5 (.slice aq S.qs.length cq) S.qs.length (rowsQ S.qs ls)) := Lib.hid HR1.out.2.1.rds
    have HON : Hid (∀ u ∈ rowsQ S.qs ls, u.oneCell' = true) := Lib.hid (one_rowsQ HR0.out.it)
    go_upto_region 7 with (at_builtin; refine wpList_append_rds rfl (.tmp 31) (.tmp 33) 28 rfl w1.heap.size 107 i0 _ 5 56 Try.underlying28 hif hz0 hz1 hz2 rfl (by decide) (.slice none 0 0) 0 [] rfl (Seg.nil _ _ _ _) (.slice aq S.qs.length cq) S.qs.length (rowsQ S.qs ls) rfl HRD.out HON.out HQ1.out.1 HQ1.out.2 (Nat.le_refl _) ?_; intro v3 w3 hown3 hgrow3 hat3; rw [List.nil_append, Nat.zero_add] at hown3)
    have hb3 : Below w1.heap.size w1 w3 := (Only.grown (S := []) (Only.refl _ _) hgrow3 (fun x hx => by cases hx)).nil
    obtain ⟨a3, c3, rfl⟩ := hown3.form
    have HO3 := Lib.hid hown3
    have HB3 := Lib.hid hb3
    have k0 := HX1.out.1.below hb3 HX1.out.1.lt
    have k2 := HX1.out.2.below hb3 HX1.out.2.lt
    have HX3 := Lib.hid (And.intro k0 k2)
    have HSL : Hid (w1.heap.size ≤ w3.heap.size + 1) := Lib.hid (by have := hb3.size; omega)
    clear hb3 hown3 hgrow3 hat3 u0 u1 u2 v0 v1 v2 f1 f2 e0 e1 e2 x3 z3 HRD HON
    obtain ⟨x1, x2, x3⟩ := k0.facts
    obtain ⟨z1, z2, z3⟩ := k2.facts
    have u0 := x1 0
    have u1 := x1 1
    have u2 := x1 2
    have v0 := z1 0
    have v1 := z1 1
    have v2 := z1 2
    have f1 := x2 1
    have f2 := x2 2
    have e0 := z2 0
    have e1 := z2 1
    have e2 := z2 2
    clear k0 k2 x1 x2 z1 z2
    have hcn := Lib.hid (cells_new w3 [.int .i64 id, .int .i64 wt, .int .i64 0, .bool false, .slice none 0 0] 107)
    have HZ : Hid (∀ u ∈ ([.int .i64 id, .int .i64 wt, .int .i64 0, .bool false, .slice none 0 0] : List Value), u.oneCell' = true) := Lib.hid (by simp [Value.oneCell'])
    go_wp2_with (at_builtin; refine wpList_append_seg _ rfl (.tmp 35) (.tmp 39) 28 rfl w1.heap.size 107 i0 _ 5 56 Try.underlying28 hif hz0 hz1 hz2 rfl (by decide) (.slice a3 S.qs.length c3) S.qs.length (rowsQ S.qs ls) rfl (HO3.out.alloc _) ⟨w3.heap.size, 0, none⟩ 1 1 [.int .i64 id, .int .i64 wt, .int .i64 0, .bool false, .slice none 0 0] rfl rfl hcn.out HZ.out (by decide) HQ2.out.1 HQ2.out.2 (by rw [size_alloc]; exact HSL.out) (w3.heap.size + 1) (size_alloc _ _) ?_; intro g4 o4 c4 w4 hown4 hgrow4 hat4; have HO4 := Lib.hid hown4; have hb4 := (Only.grown (S := []) ((Only.of_below HB3.out).alloc _) hgrow4 (fun x hx => .inr (HO3.out.blk x hx).1)).nil; have HB4 := Lib.hid hb4; have k0 := HX1.out.1.below hb4 HX1.out.1.lt; have k2 := HX1.out.2.below hb4 HX1.out.2.lt; clear hown4 hgrow4 hat4 hb4 u0 u1 u2 v0 v1 v2 f1 f2 e0 e1 e2 x3 z3; obtain ⟨x1, x2, x3⟩ := k0.facts; obtain ⟨z1, z2, z3⟩ := k2.facts; have u0 := x1 0; have u1 := x1 1; have u2 := x1 2; have v0 := z1 0; have v1 := z1 1; have v2 := z1 2; have f1 := x2 1; have f2 := x2 2; have e0 := z2 0; have e1 := z2 1; have e2 := z2 2; clear k0 k2 x1 x2 z1 z2)
    have hF : ∀ v1 v2 v3 v4, Only [w.heap.size, w.heap.size + 1] w4 ((((w4.setCell ⟨w.heap.size, 1, none⟩ v1).setCell ⟨w.heap.size + 1, 0, none⟩ v2).setCell ⟨w.heap.size + 1, 1, none⟩ v3).setCell ⟨w.heap.size + 1, 2, none⟩ v4) := fun v1 v2 v3 v4 =>
      ((((Only.refl _ _).setCell _ _ (.inl (by simp))).setCell _ _ (.inl (by simp))).setCell _ _ (.inl (by simp))).setCell _ _ (.inl (by simp))
    have hw := Below.only (Below.chain HB4.out HB1.out) (hF (.slice (some ⟨g4, o4, none⟩) (S.qs.length + 1) c4) (.int .i64 S.quantum) (.slice (some ⟨g4, o4, none⟩) (S.qs.length + 1) c4) (.slice ar S.round.length cr)) (by simp)
    have hs := HO4.out.only (hF (.slice (some ⟨g4, o4, none⟩) (S.qs.length + 1) c4) (.int .i64 S.quantum) (.slice (some ⟨g4, o4, none⟩) (S.qs.length + 1) c4) (.slice ar S.round.length cr)) (fun y hy hm => by
      have h1 := (HO4.out.blk y hy).1
      have h2 := HS1.out
      simp at hm
      omega)
    refine bodyPost_ret (v := .tuple #[.agg #[.int .i64 S.quantum, .slice (some ⟨g4, o4, none⟩) (S.qs.length + 1) c4, .slice ar S.round.length cr], .int .i64 0]) (by simp [results, Try.results45, go_sem, v0, v1, v2]) rfl ⟨_, _, ls ++ [.slice none 0 0], rfl, DocR.fin (S' := addP S id wt) (HR0.out.it.app ⟨Seg.nil _ _ _ _, trivial⟩) hw ?_ (HR0.out.2.2.2.chain hw), fun y hy g hg => ?_, hw⟩
    · show Seg _ 0 _ 5 _ (S.qs ++ [_]).length (rowsQ (S.qs ++ [_]) (ls ++ [_]))
      rw [List.length_append, rowsQ_app HR0.out.it]
      exact hs.le (Nat.zero_le _)
    · rcases List.mem_append.1 hy with hy | hy
      · exact .inl ⟨y, hy, hg⟩
      · rw [List.mem_singleton.1 hy] at hg
        cases hg
theorem radd_any (id wt : Int) {qv rv : Value} {ls : List Value} {S : PS} (w : World) (h : DocR w qv rv ls S) (hS : S.Ok) (hl : S.qs.length ≤ 300) :
    Calls Try.prog 45 #[docV S qv rv, .int .i64 id, .int .i64 wt] w (DAns w ls (if addE S id wt = 0 then addP S id wt else S) (addE S id wt)) := by
  unfold addE
  by_cases hk : id < 0 ∨ 255 < id ∨ wt < 1 ∨ 255 < wt
  · rw [if_pos hk, if_neg (by decide)]
    exact radd_bad id wt w h hk
  · rw [if_neg hk]
    cases hg : getQ id S.qs with
    | none => exact radd_new id wt w h hS hl hg hk
    | some q => exact radd_twice id wt w h hS hl (by rw [hg]; simp) hk
end Go.Proofs.Ytgfbhclkpephnaa
