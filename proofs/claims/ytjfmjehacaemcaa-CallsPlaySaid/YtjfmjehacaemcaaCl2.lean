/-
  Calls that wait: of, Get, Take (chapter 29).
-/
import Derived.Test.YtjfmjehacaemcaaCl1
namespace Go.Proofs.Ytjfmjehacaemcaa
open Go Go.RowKit
set_option linter.unusedVariables false
set_option maxRecDepth 100000
set_option maxHeartbeats 1000000
theorem of_any (kd s n : Int) (b : List UInt8) (w : World) : Calls Try.prog 18 #[.agg #[.int .i64 kd, .int .i64 s, .int .i64 n, Str b]] w fun e w' => e = .returned (encP (s, kd)) ∧ Below w.heap.size w w' := by
  go_enter Try.func18, Try.ntmps18
  go_wp2_with fail
  refine bodyPost_ret (v := encP (s, kd)) (by simp [results, Try.results18, go_sem, encP]) rfl ⟨rfl, ?_⟩
  exact Below.chainAlloc (Below.chainAlloc (Below.refl _ _) _) _
theorem cget_nil (s kd : Int) (w : World) : Calls Try.prog 7 #[.pointer none, .int .i64 s, .int .i64 kd] w fun e w' => e = .returned (.tuple #[wt0.val, .bool false]) ∧ Below w.heap.size w w' := by
  go_enter Try.func7, Try.ntmps7
  go_wp2
  refine bodyPost_ret (v := .tuple #[wt0.val, .bool false]) (by simp [results, Try.results7, go_sem, wt0, Wt.val]) rfl ⟨rfl, ?_⟩
  exact Below.chainAlloc (Below.refl _ _) _
theorem cget_no (s kd : Int) (bt bm : Nat) (ds : List Wt) (w : World) (h : Cls w bt bm ds) (hk : getW (s, kd) ds = none) :
    Calls Try.prog 7 #[.pointer (some ⟨bt, 0, none⟩), .int .i64 s, .int .i64 kd] w fun e w' => e = .returned (.tuple #[wt0.val, .bool false]) ∧ Below w.heap.size w w' := by
  have hB : Below w.heap.size w (w.alloc (.cells #[.int .i64 0, .int .i64 0, .int .i64 0, .int .i64 0, .string ⟨#[]⟩] 30)) := Below.chainAlloc (Below.refl _ _) _
  have h' := h.chain hB
  have y0 := h'.b.facts.1 0
  have hr := h'.m.look placeLaw undM (s, kd) (zeroWait _) true
  rw [getM_wp, hk] at hr
  unfold encP wt0 Wt.val at hr
  simp only [Option.map_none, Option.getD_none, Option.isSome_none, if_true] at hr
  have HB := Lib.hid hB
  clear hB h h' hk
  go_enter Try.func7, Try.ntmps7
  go_wp2_with fail
  refine bodyPost_ret (v := .tuple #[wt0.val, .bool false]) (by simp [results, Try.results7, go_sem, wt0, Wt.val]) rfl ⟨rfl, ?_⟩
  exact Below.chainAlloc (Below.chainAlloc (Below.refl _ _) _) _
theorem cget_yes (s kd : Int) (d : Wt) (bt bm : Nat) (ds : List Wt) (w : World) (h : Cls w bt bm ds) (hk : getW (s, kd) ds = some d) :
    Calls Try.prog 7 #[.pointer (some ⟨bt, 0, none⟩), .int .i64 s, .int .i64 kd] w fun e w' => e = .returned (.tuple #[d.val, .bool true]) ∧ Below w.heap.size w w' := by
  have hB : Below w.heap.size w (w.alloc (.cells #[.int .i64 0, .int .i64 0, .int .i64 0, .int .i64 0, .string ⟨#[]⟩] 30)) := Below.chainAlloc (Below.refl _ _) _
  have h' := h.chain hB
  have y0 := h'.b.facts.1 0
  have hr := h'.m.look placeLaw undM (s, kd) (zeroWait _) true
  rw [getM_wp, hk] at hr
  obtain ⟨i, k2, s2, n, b⟩ := d
  unfold encP Wt.val at hr
  simp only [Option.map_some, Option.getD_some, Option.isSome_some, if_true] at hr
  have HB := Lib.hid hB
  clear hB h h' hk
  go_enter Try.func7, Try.ntmps7
  go_wp2_with fail
  refine bodyPost_ret (v := .tuple #[Wt.val ⟨i, k2, s2, n, b⟩, .bool true]) (by simp [results, Try.results7, go_sem, Wt.val]) rfl ⟨rfl, ?_⟩
  exact Below.chainAlloc (Below.chainAlloc (Below.refl _ _) _) _
theorem ctake_nil (s kd : Int) (w : World) : Calls Try.prog 11 #[.pointer none, .int .i64 s, .int .i64 kd] w fun e w' => e = .returned (.tuple #[wt0.val, .bool false]) ∧ Below w.heap.size w w' := by
  go_enter Try.func11, Try.ntmps11
  go_wp2_with fail
  refine (cget_nil s kd _).mono ?_
  rintro e w1 ⟨rfl, hb⟩
  have HB := Lib.hid (Below.chain hb (Below.chainAlloc (Below.refl _ w) (.cells #[.int .i64 0, .int .i64 0, .int .i64 0, .int .i64 0, .string ⟨#[]⟩] 30)))
  unfold wt0 Wt.val
  have y := ((Blk.new w #[.int .i64 0, .int .i64 0, .int .i64 0, .int .i64 0, .string ⟨#[]⟩] 30).below hb (by rw [size_alloc]; omega)).alloc (.cells #[.int .i64 0, .int .i64 0, .int .i64 0, .int .i64 0, .string ⟨#[]⟩] 30)
  have hne : ¬ w.heap.size = w1.heap.size := by have := hb.size; rw [size_alloc] at this; omega
  have hne2 : ¬ w1.heap.size = w.heap.size := fun e => hne e.symm
  have z0 := y.facts.1 0
  have z1 := y.facts.1 1
  have z2 := y.facts.1 2
  have z3 := y.facts.1 3
  have z4 := y.facts.1 4
  have zf := y.facts.2.1
  clear hb
  go_wp2_with fail
  refine bodyPost_ret (v := .tuple #[wt0.val, .bool false]) (by simp [results, Try.results11, go_sem, wt0, Wt.val, z0, z1, z2, z3, z4]) rfl ⟨rfl, ?_⟩
  exact (((((Below.chainAlloc HB.out _).setCell (Nat.le_refl _) _).setCell (Nat.le_refl _) _).setCell (Nat.le_refl _) _).setCell (Nat.le_refl _) _).setCell (Nat.le_refl _) _
theorem ctake_no (s kd : Int) (bt bm : Nat) (ds : List Wt) (w : World) (h : Cls w bt bm ds) (hk : getW (s, kd) ds = none) :
    Calls Try.prog 11 #[.pointer (some ⟨bt, 0, none⟩), .int .i64 s, .int .i64 kd] w fun e w' => e = .returned (.tuple #[wt0.val, .bool false]) ∧ Below w.heap.size w w' := by
  have HC := Lib.hid (cget_no s kd bt bm ds _ (h.chain (Below.chainAlloc (Below.refl _ w) (.cells #[.int .i64 0, .int .i64 0, .int .i64 0, .int .i64 0, .string ⟨#[]⟩] 30))) hk)
  clear h hk
  go_enter Try.func11, Try.ntmps11
  go_wp2_with fail
  refine HC.out.mono ?_
  rintro e w1 ⟨rfl, hb⟩
  have HB := Lib.hid (Below.chain hb (Below.chainAlloc (Below.refl _ w) (.cells #[.int .i64 0, .int .i64 0, .int .i64 0, .int .i64 0, .string ⟨#[]⟩] 30)))
  unfold wt0 Wt.val
  have y := ((Blk.new w #[.int .i64 0, .int .i64 0, .int .i64 0, .int .i64 0, .string ⟨#[]⟩] 30).below hb (by rw [size_alloc]; omega)).alloc (.cells #[.int .i64 0, .int .i64 0, .int .i64 0, .int .i64 0, .string ⟨#[]⟩] 30)
  have hne : ¬ w.heap.size = w1.heap.size := by have := hb.size; rw [size_alloc] at this; omega
  have hne2 : ¬ w1.heap.size = w.heap.size := fun e => hne e.symm
  have z0 := y.facts.1 0
  have z1 := y.facts.1 1
  have z2 := y.facts.1 2
  have z3 := y.facts.1 3
  have z4 := y.facts.1 4
  have zf := y.facts.2.1
  clear hb
  go_wp2_with fail
  refine bodyPost_ret (v := .tuple #[wt0.val, .bool false]) (by simp [results, Try.results11, go_sem, wt0, Wt.val, z0, z1, z2, z3, z4]) rfl ⟨rfl, ?_⟩
  exact (((((Below.chainAlloc HB.out _).setCell (Nat.le_refl _) _).setCell (Nat.le_refl _) _).setCell (Nat.le_refl _) _).setCell (Nat.le_refl _) _).setCell (Nat.le_refl _) _
theorem ctake_yes (s kd : Int) (d : Wt) (bt bm : Nat) (ds : List Wt) (w : World) (h : Cls w bt bm ds) (hk : getW (s, kd) ds = some d) :
    Calls Try.prog 11 #[.pointer (some ⟨bt, 0, none⟩), .int .i64 s, .int .i64 kd] w (ClPost (.tuple #[d.val, .bool true]) bt bm (dropW (s, kd) ds) w) := by
  have HH := Lib.hid h
  have HC := Lib.hid (cget_yes s kd d bt bm ds _ (h.chain (Below.chainAlloc (Below.refl _ w) (.cells #[.int .i64 0, .int .i64 0, .int .i64 0, .int .i64 0, .string ⟨#[]⟩] 30))) hk)
  obtain ⟨i, k2, s2, n, b⟩ := d
  clear h hk
  go_enter Try.func11, Try.ntmps11
  go_wp2_with fail
  refine HC.out.mono ?_
  rintro e w1 ⟨rfl, hb⟩
  have hB2 := Below.chainAlloc (Below.chain hb (Below.chainAlloc (Below.refl _ w) (.cells #[.int .i64 0, .int .i64 0, .int .i64 0, .int .i64 0, .string ⟨#[]⟩] 30))) (.cells #[.int .i64 i, .int .i64 k2, .int .i64 s2, .int .i64 n, Str b] 30)
  have y := ((Blk.new w #[.int .i64 0, .int .i64 0, .int .i64 0, .int .i64 0, .string ⟨#[]⟩] 30).below hb (by rw [size_alloc]; omega)).alloc (.cells #[.int .i64 i, .int .i64 k2, .int .i64 s2, .int .i64 n, Str b] 30)
  have x := Blk.new w1 #[.int .i64 i, .int .i64 k2, .int .i64 s2, .int .i64 n, Str b] 30
  have hne : ¬ w.heap.size = w1.heap.size := by have := hb.size; rw [size_alloc] at this; omega
  obtain ⟨W, hW⟩ : ∃ W, w1.alloc (.cells #[.int .i64 i, .int .i64 k2, .int .i64 s2, .int .i64 n, Str b] 30) = W := ⟨_, rfl⟩
  rw [hW] at hB2 x y
  have h1 := HH.out.chain hB2
  obtain ⟨W', hrun, hm', ho⟩ := h1.m.del placeLaw undM (s, kd)
  have hbw : bt < w.heap.size ∧ bm < w.heap.size := ⟨HH.out.b.lt, HH.out.m.lt⟩
  have hT := h1.only ho hm' delM_wp
  have hO := (Only.of_below hB2).trans ho
  have x' := x.only ho (by simp; have := hb.size; rw [size_alloc] at this; omega)
  have y' := y.only ho (by simp; omega)
  have u0 := h1.b.facts.1 0
  have x0 := x'.facts.1 0
  have x1 := x'.facts.1 1
  have x2 := x'.facts.1 2
  have x3 := x'.facts.1 3
  have x4 := x'.facts.1 4
  have z0 := y'.facts.1 0
  have z1 := y'.facts.1 1
  have z2 := y'.facts.1 2
  have z3 := y'.facts.1 3
  have z4 := y'.facts.1 4
  have zf := y'.facts.2.1
  have HN := Lib.hid hbw
  have HT := Lib.hid hT
  have HO := Lib.hid hO
  have HW := Lib.hid hW
  unfold encP at hrun
  dsimp only at hrun
  unfold Wt.val
  clear hb hB2 x y h1 hm' ho hbw hT hO x' y' hW
  have hne2 : ¬ w1.heap.size = w.heap.size := fun e => hne e.symm
  go_upto_region 3 with fail
  rw [HW.out]
  go_wp2_with fail
  refine bodyPost_ret (v := .tuple #[Wt.val ⟨i, k2, s2, n, b⟩, .bool true]) (by simp [results, Try.results11, go_sem, Wt.val, z0, z1, z2, z3, z4]) rfl ⟨rfl, ?_, ?_⟩
  · have hs : ∀ (w2 : World) (o : Nat) (v : Value), Cls w2 bt bm (dropW (s, kd) ds) → Cls (w2.setCell ⟨w.heap.size, o, none⟩ v) bt bm (dropW (s, kd) ds) := fun w2 o v hc =>
      hc.kept (S := [w.heap.size]) ((Only.refl _ _).setCell _ _ (.inl (by simp))) (by simp; have := HN.out.1; omega) (by simp; have := HN.out.2; omega)
    exact hs _ _ _ (hs _ _ _ (hs _ _ _ (hs _ _ _ (hs _ _ _ HT.out))))
  · have hs : ∀ (w2 : World) (o : Nat) (v : Value), Only [bm] w w2 → Only [bm] w (w2.setCell ⟨w.heap.size, o, none⟩ v) := fun w2 o v hc => hc.setCell _ _ (.inr (Nat.le_refl _))
    exact hs _ _ _ (hs _ _ _ (hs _ _ _ (hs _ _ _ (hs _ _ _ HO.out))))
end Go.Proofs.Ytjfmjehacaemcaa
