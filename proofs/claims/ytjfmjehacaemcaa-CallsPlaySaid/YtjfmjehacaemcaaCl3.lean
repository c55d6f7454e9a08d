/-
  Calls that wait: Ask (chapter 29).
-/
import Derived.Test.YtjfmjehacaemcaaCl2
namespace Go.Proofs.Ytjfmjehacaemcaa
open Go Go.RowKit
set_option linter.unusedVariables false
set_option maxRecDepth 100000
set_option maxHeartbeats 1000000
theorem cask_nil (d : Wt) (w : World) : Calls Try.prog 10 #[.pointer none, d.val] w fun e w' => e = .returned (.int .i64 17) ∧ Below w.heap.size w w' := by
  obtain ⟨i, kd, s, n, b⟩ := d
  have k1 := Blk.new w #[.int .i64 i, .int .i64 kd, .int .i64 s, .int .i64 n, Str b] 30
  have hB := Below.chainAlloc (Below.refl _ w) (.cells #[.int .i64 i, .int .i64 kd, .int .i64 s, .int .i64 n, Str b] 30)
  have x1 := k1.facts.1 1
  have x2 := k1.facts.1 2
  have x3 := k1.facts.1 3
  have x4 := k1.facts.1 4
  have HOF := Lib.hid (fun w' => of_any kd s n b w')
  have HB := Lib.hid hB
  have HK := Lib.hid k1
  unfold Wt.val
  unfold encP at HOF
  dsimp only at *
  clear k1 hB
  go_enter Try.func10, Try.ntmps10
  go_wp2_with fail
  refine (HOF.out _).mono ?_
  rintro e w1 ⟨rfl, hb⟩
  have HB1 := Lib.hid (Below.chainAlloc (Below.chain hb HB.out) (.cells #[.int .i64 s, .int .i64 kd] 52))
  have HK1 := Lib.hid ((HK.out.below hb HK.out.lt).alloc (.cells #[.int .i64 s, .int .i64 kd] 52))
  have HP := Lib.hid (Blk.new w1 #[.int .i64 s, .int .i64 kd] 52)
  clear hb x1 x2 x3 x4 HB HK
  go_wp2_with fail
  go_ret
  exact ⟨rfl, HB1.out⟩
theorem cask_bad (d : Wt) (bt : Nat) (w : World) (hbad : d.kind < 2 ∨ 4 < d.kind ∨ d.stream < 0 ∨ 255 < d.stream) : Calls Try.prog 10 #[.pointer (some ⟨bt, 0, none⟩), d.val] w fun e w' => e = .returned (.int .i64 1) ∧ Below w.heap.size w w' := by
  obtain ⟨i, kd, s, n, b⟩ := d
  have k1 := Blk.new w #[.int .i64 i, .int .i64 kd, .int .i64 s, .int .i64 n, Str b] 30
  have hB := Below.chainAlloc (Below.refl _ w) (.cells #[.int .i64 i, .int .i64 kd, .int .i64 s, .int .i64 n, Str b] 30)
  have x1 := k1.facts.1 1
  have x2 := k1.facts.1 2
  have x3 := k1.facts.1 3
  have x4 := k1.facts.1 4
  have HOF := Lib.hid (fun w' => of_any kd s n b w')
  have HB := Lib.hid hB
  have HK := Lib.hid k1
  unfold Wt.val
  unfold encP at HOF
  dsimp only at *
  clear k1 hB
  go_enter Try.func10, Try.ntmps10
  go_wp2_with fail
  refine (HOF.out _).mono ?_
  rintro e w1 ⟨rfl, hb⟩
  have HB1 := Lib.hid (Below.chainAlloc (Below.chain hb HB.out) (.cells #[.int .i64 s, .int .i64 kd] 52))
  have HK1 := Lib.hid ((HK.out.below hb HK.out.lt).alloc (.cells #[.int .i64 s, .int .i64 kd] 52))
  have HP := Lib.hid (Blk.new w1 #[.int .i64 s, .int .i64 kd] 52)
  clear hb x1 x2 x3 x4 HB HK
  have p0 := HP.out.facts.1 0
  have p1 := HP.out.facts.1 1
  by_cases h1 : kd < 2
  · go_wp2_with fail
    go_ret
    exact ⟨rfl, HB1.out⟩
  · by_cases h2 : 4 < kd
    · go_wp2_with fail
      go_ret
      exact ⟨rfl, HB1.out⟩
    · by_cases h3 : s < 0
      · go_wp2_with fail
        go_ret
        exact ⟨rfl, HB1.out⟩
      · have h4 : 255 < s := by omega
        go_wp2_with fail
        go_ret
        exact ⟨rfl, HB1.out⟩
theorem cask_busy (d d' : Wt) (bt bm : Nat) (ds : List Wt) (w : World) (h : Cls w bt bm ds) (hk : 2 ≤ d.kind ∧ d.kind ≤ 4 ∧ 0 ≤ d.stream ∧ d.stream ≤ 255) (hg : getW d.key ds = some d') : Calls Try.prog 10 #[.pointer (some ⟨bt, 0, none⟩), d.val] w fun e w' => e = .returned (.int .i64 18) ∧ Below w.heap.size w w' := by
  have HT := Lib.hid h
  have HG := Lib.hid hg
  clear h hg
  obtain ⟨i', kd', s', n', b'⟩ := d'
  obtain ⟨i, kd, s, n, b⟩ := d
  have k1 := Blk.new w #[.int .i64 i, .int .i64 kd, .int .i64 s, .int .i64 n, Str b] 30
  have hB := Below.chainAlloc (Below.refl _ w) (.cells #[.int .i64 i, .int .i64 kd, .int .i64 s, .int .i64 n, Str b] 30)
  have x1 := k1.facts.1 1
  have x2 := k1.facts.1 2
  have x3 := k1.facts.1 3
  have x4 := k1.facts.1 4
  have HOF := Lib.hid (fun w' => of_any kd s n b w')
  have HB := Lib.hid hB
  have HK := Lib.hid k1
  unfold Wt.val
  unfold encP at HOF
  dsimp only at *
  clear k1 hB
  go_enter Try.func10, Try.ntmps10
  go_wp2_with fail
  refine (HOF.out _).mono ?_
  rintro e w1 ⟨rfl, hb⟩
  have HB1 := Lib.hid (Below.chainAlloc (Below.chain hb HB.out) (.cells #[.int .i64 s, .int .i64 kd] 52))
  have HK1 := Lib.hid ((HK.out.below hb HK.out.lt).alloc (.cells #[.int .i64 s, .int .i64 kd] 52))
  have HP := Lib.hid (Blk.new w1 #[.int .i64 s, .int .i64 kd] 52)
  clear hb x1 x2 x3 x4 HB HK
  have p0 := HP.out.facts.1 0
  have p1 := HP.out.facts.1 1
  have h1 : ¬ kd < 2 := by omega
  have h2 : ¬ 4 < kd := by omega
  have h3 : ¬ s < 0 := by omega
  have h4 : ¬ 255 < s := by omega
  have hT := HT.out.chain HB1.out
  have y0 := hT.b.facts.1 0
  obtain ⟨W, hW⟩ : ∃ W, w1.alloc (.cells #[.int .i64 s, .int .i64 kd] 52) = W := ⟨_, rfl⟩
  rw [hW] at p0 p1 y0 hT
  have hgg : getW (s, kd) ds = some ⟨i', kd', s', n', b'⟩ := HG.out
  have HMK : Hid (∀ w', Below W.heap.size W w' → (w'.cell? ⟨bt, 0, none⟩ = some (.map (some bm)) ∧ w'.cell? ⟨w1.heap.size, 0, none⟩ = some (.int .i64 s) ∧ w'.cell? ⟨w1.heap.size, 1, none⟩ = some (.int .i64 kd) ∧ (Instr.lookup 48 (.map (some bm)) (.agg #[.int .i64 s, .int .i64 kd]) true).run Try.prog w' = .ok (.tuple #[.agg #[.int .i64 i', .int .i64 kd', .int .i64 s', .int .i64 n', Str b'], .bool true]) w') ∧ Below W.heap.size W w') := Lib.hid fun w' hb => by
    have hT' := hT.chain hb
    refine ⟨⟨hT'.b.facts.1 0, (hb.cell (p := ⟨w1.heap.size, 0, none⟩) (by rw [← hW]; simp)).trans p0, (hb.cell (p := ⟨w1.heap.size, 1, none⟩) (by rw [← hW]; simp)).trans p1, ?_⟩, hb⟩
    have := hT'.m.look placeLaw undM (s, kd) (zeroWait _) true
    rw [getM_wp, hgg] at this
    exact this
  have HW := Lib.hid hW
  have HTT := Lib.hid hT
  clear hgg hW hT
  go_upto_region 6 with fail
  rw [HW.out]
  go_region_held3 (fun w' => (w'.cell? ⟨bt, 0, none⟩ = some (.map (some bm)) ∧ w'.cell? ⟨w1.heap.size, 0, none⟩ = some (.int .i64 s) ∧ w'.cell? ⟨w1.heap.size, 1, none⟩ = some (.int .i64 kd) ∧ (Instr.lookup 48 (.map (some bm)) (.agg #[.int .i64 s, .int .i64 kd]) true).run Try.prog w' = .ok (.tuple #[.agg #[.int .i64 i', .int .i64 kd', .int .i64 s', .int .i64 n', Str b'], .bool true]) w') ∧ Below W.heap.size W w')
    (first
      | exact HMK.out _ (Below.refl _ _).drew
      | exact HMK.out _ (Below.refl _ _)
      | exact HMK.out _ ((Below.chainAlloc (Below.refl _ _) _).drew)
      | exact HMK.out _ (Below.chainAlloc ((Below.refl _ _).drew) _))
    (fail)
  all_goals
    go_wp2_with fail
    go_ret
    refine ⟨rfl, ?_⟩
    have := HB1.out
    rw [HW.out] at this
    exact (Below.chainAlloc this _).drew
theorem cask_ok (d : Wt) (bt bm : Nat) (ds : List Wt) (w : World) (h : Cls w bt bm ds) (hk : 2 ≤ d.kind ∧ d.kind ≤ 4 ∧ 0 ≤ d.stream ∧ d.stream ≤ 255) (hg : getW d.key ds = none) : Calls Try.prog 10 #[.pointer (some ⟨bt, 0, none⟩), d.val] w (ClPost (.int .i64 0) bt bm (ds ++ [d]) w) := by
  have HT := Lib.hid h
  have HG := Lib.hid hg
  clear h hg
  obtain ⟨i, kd, s, n, b⟩ := d
  have k1 := Blk.new w #[.int .i64 i, .int .i64 kd, .int .i64 s, .int .i64 n, Str b] 30
  have hB := Below.chainAlloc (Below.refl _ w) (.cells #[.int .i64 i, .int .i64 kd, .int .i64 s, .int .i64 n, Str b] 30)
  have x1 := k1.facts.1 1
  have x2 := k1.facts.1 2
  have x3 := k1.facts.1 3
  have x4 := k1.facts.1 4
  have HOF := Lib.hid (fun w' => of_any kd s n b w')
  have HB := Lib.hid hB
  have HK := Lib.hid k1
  unfold Wt.val
  unfold encP at HOF
  dsimp only at *
  clear k1 hB
  go_enter Try.func10, Try.ntmps10
  go_wp2_with fail
  refine (HOF.out _).mono ?_
  rintro e w1 ⟨rfl, hb⟩
  have HB1 := Lib.hid (Below.chainAlloc (Below.chain hb HB.out) (.cells #[.int .i64 s, .int .i64 kd] 52))
  have HK1 := Lib.hid ((HK.out.below hb HK.out.lt).alloc (.cells #[.int .i64 s, .int .i64 kd] 52))
  have HP := Lib.hid (Blk.new w1 #[.int .i64 s, .int .i64 kd] 52)
  clear hb x1 x2 x3 x4 HB HK
  have p0 := HP.out.facts.1 0
  have p1 := HP.out.facts.1 1
  have h1 : ¬ kd < 2 := by omega
  have h2 : ¬ 4 < kd := by omega
  have h3 : ¬ s < 0 := by omega
  have h4 : ¬ 255 < s := by omega
  have hT := HT.out.chain HB1.out
  have y0 := hT.b.facts.1 0
  obtain ⟨W, hW⟩ : ∃ W, w1.alloc (.cells #[.int .i64 s, .int .i64 kd] 52) = W := ⟨_, rfl⟩
  rw [hW] at p0 p1 y0 hT
  have hgg : getW (s, kd) ds = none := HG.out
  have HMK : Hid (∀ w', Below W.heap.size W w' → (w'.cell? ⟨bt, 0, none⟩ = some (.map (some bm)) ∧ w'.cell? ⟨w1.heap.size, 0, none⟩ = some (.int .i64 s) ∧ w'.cell? ⟨w1.heap.size, 1, none⟩ = some (.int .i64 kd) ∧ (Instr.lookup 48 (.map (some bm)) (.agg #[.int .i64 s, .int .i64 kd]) true).run Try.prog w' = .ok (.tuple #[.agg #[.int .i64 0, .int .i64 0, .int .i64 0, .int .i64 0, .string ⟨#[]⟩], .bool false]) w') ∧ Below W.heap.size W w') := Lib.hid fun w' hb => by
    have hT' := hT.chain hb
    refine ⟨⟨hT'.b.facts.1 0, (hb.cell (p := ⟨w1.heap.size, 0, none⟩) (by rw [← hW]; simp)).trans p0, (hb.cell (p := ⟨w1.heap.size, 1, none⟩) (by rw [← hW]; simp)).trans p1, ?_⟩, hb⟩
    have := hT'.m.look placeLaw undM (s, kd) (zeroWait _) true
    rw [getM_wp, hgg] at this
    exact this
  have HW := Lib.hid hW
  have HTT := Lib.hid hT
  clear hgg hW hT
  go_upto_region 6 with fail
  rw [HW.out]
  go_region_held3 (fun w' => (w'.cell? ⟨bt, 0, none⟩ = some (.map (some bm)) ∧ w'.cell? ⟨w1.heap.size, 0, none⟩ = some (.int .i64 s) ∧ w'.cell? ⟨w1.heap.size, 1, none⟩ = some (.int .i64 kd) ∧ (Instr.lookup 48 (.map (some bm)) (.agg #[.int .i64 s, .int .i64 kd]) true).run Try.prog w' = .ok (.tuple #[.agg #[.int .i64 0, .int .i64 0, .int .i64 0, .int .i64 0, .string ⟨#[]⟩], .bool false]) w') ∧ Below W.heap.size W w')
    (first
      | exact HMK.out _ (Below.refl _ _).drew
      | exact HMK.out _ (Below.refl _ _)
      | exact HMK.out _ ((Below.chainAlloc (Below.refl _ _) _).drew)
      | exact HMK.out _ (Below.chainAlloc ((Below.refl _ _).drew) _))
    (fail)
  all_goals
    have hBW : Below w.heap.size w W := by
      have := HB1.out
      rwa [HW.out] at this
    have hB2 : Below W.heap.size W (W.alloc (.cells #[.int .i64 0, .int .i64 0, .int .i64 0, .int .i64 0, .string ⟨#[]⟩] 30)).drew := (Below.chainAlloc (Below.refl _ _) _).drew
    have kx : Blk W w.heap.size #[.int .i64 i, .int .i64 kd, .int .i64 s, .int .i64 n, Str b] 30 := HW.out ▸ HK1.out
    have kp : Blk W w1.heap.size #[.int .i64 s, .int .i64 kd] 52 := HW.out ▸ HP.out
    have h1 := HTT.out.chain hB2
    have kx2 := kx.below hB2 kx.lt
    have kp2 := kp.below hB2 kp.lt
    obtain ⟨W2, hW2⟩ : ∃ W2, (W.alloc (.cells #[.int .i64 0, .int .i64 0, .int .i64 0, .int .i64 0, .string ⟨#[]⟩] 30)).drew = W2 := ⟨_, rfl⟩
    rw [hW2] at hB2 h1 kx2 kp2 ⊢
    have hm : MapW encP W2.drew bm (ds.map Wt.mp) := h1.m
    obtain ⟨W', hrun, hm', ho⟩ := hm.put placeLaw undM (s, kd) (Wt.val ⟨i, kd, s, n, b⟩)
    have hput := putM_wp (d := ⟨i, kd, s, n, b⟩) (ds := ds) HG.out
    have HF := Lib.hid (And.intro (h1.only (Only.trans (Only.refl _ _).drew ho) hm' hput) ((Only.of_below (Below.chain hB2 hBW)).trans ((Only.refl _ _).drew.trans ho)))
    have y0 := h1.b.facts.1 0
    have p0 := kp2.facts.1 0
    have p1 := kp2.facts.1 1
    have x0 := kx2.facts.1 0
    have x1 := kx2.facts.1 1
    have x2 := kx2.facts.1 2
    have x3 := kx2.facts.1 3
    have x4 := kx2.facts.1 4
    unfold encP Wt.val at hrun
    dsimp only at hrun
    clear hBW hB2 kx kp h1 kx2 kp2 hm hm' ho hput hW2
    go_upto_region 9 with fail
    go_still_tail 6, (by kernel_rfl)
    change wpList _ _ _ _ _ W2.drew
    go_wp2_with fail
    go_ret
    exact ⟨rfl, HF.out⟩
end Go.Proofs.Ytjfmjehacaemcaa
