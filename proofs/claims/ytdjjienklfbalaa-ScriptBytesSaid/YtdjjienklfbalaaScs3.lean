/-
  Scripts: a step is read: the document's contract (chapter 33).
-/
import Derived.Test.YtdjjienklfbalaaScs2
import Derived.RegionTactic
import Derived.BigRegion
namespace Go.Proofs.Ytdjjienklfbalaa
open Go.RowKit
set_option linter.unusedVariables false
set_option maxRecDepth 100000
set_option maxHeartbeats 1000000
theorem upd2 {w : World} {b : Nat} {t : TypeId} {c0 c1 : Value} (k : Blk w b #[c0, c1] t) (v0 v1 : Value) : Blk ((w.setCell ⟨b, 0, none⟩ v0).setCell ⟨b, 1, none⟩ v1) b #[v0, v1] t := by
  have h := (k.set 0 v0).set 1 v1
  simpa using h
theorem oth1 {w : World} {b : Nat} {t : TypeId} {cs : Array Value} (k : Blk w b cs t) (g o : Nat) (v : Value) (hn : b ≠ g) : Blk (w.setCell ⟨g, o, none⟩ v) b cs t := k.setOther ⟨g, o, none⟩ v hn
theorem bel1 {W w : World} {B : Nat} (k : Below B W w) (g o : Nat) (v : Value) (hn : B ≤ g) : Below B W (w.setCell ⟨g, o, none⟩ v) := k.setCell (p := ⟨g, o, none⟩) hn v
theorem oth2 {w : World} {b g : Nat} {t : TypeId} {cs : Array Value} (k : Blk w b cs t) (v0 v1 : Value) (hn : b ≠ g) : Blk ((w.setCell ⟨g, 0, none⟩ v0).setCell ⟨g, 1, none⟩ v1) b cs t := (k.setOther ⟨g, 0, none⟩ v0 hn).setOther ⟨g, 1, none⟩ v1 hn
theorem bel2 {W w : World} {g B : Nat} (k : Below B W w) (v0 v1 : Value) (hn : B ≤ g) : Below B W ((w.setCell ⟨g, 0, none⟩ v0).setCell ⟨g, 1, none⟩ v1) := (k.setCell (p := ⟨g, 0, none⟩) hn v0).setCell (p := ⟨g, 1, none⟩) hn v1
def StepR (z : List UInt8) (q : Int) (a : Value) (w : World) (e : Ending) (w' : World) : Prop := e = .returned (.tuple #[.agg #[Str z, .int .i64 q], a]) ∧ Below w.heap.size w w'
theorem step_fin {f : Func} {w W : World} {A : Act} {b2 b3 : Nat} {z : List UInt8} {q : Int} {c0 c1 d0 d1 d2 d3 d4 d5 d6 d7 v0 v1 v2 v3 v4 v5 v6 v7 : Value} (hr : f.results = #[ResultVar.cell 2 179, ResultVar.cell 3 160])
    (k2 : Blk W b2 #[c0, c1] 179) (k3 : Blk W b3 #[d0, d1, d2, d3, d4, d5, d6, d7] 160) (h2 : A.tmps[2]? = some (.pointer (some ⟨b2, 0, none⟩))) (h3 : A.tmps[3]? = some (.pointer (some ⟨b3, 0, none⟩))) (hd : A.defers = [])
    (hn : b2 ≠ b3) (hB : Below w.heap.size w W) (hb2 : w.heap.size ≤ b2) (hb3 : w.heap.size ≤ b3) :
    bodyPost Try.prog f (StepR z q (.agg #[v0, v1, v2, v3, v4, v5, v6, v7]) w) Exit.ret A ((((((((((W.setCell ⟨b2, 0, none⟩ (.string ⟨z.toArray⟩)).setCell ⟨b2, 1, none⟩ (.int .i64 q)).setCell ⟨b3, 0, none⟩ v0).setCell ⟨b3, 1, none⟩ v1).setCell ⟨b3, 2, none⟩ v2).setCell ⟨b3, 3, none⟩ v3).setCell ⟨b3, 4, none⟩ v4).setCell ⟨b3, 5, none⟩ v5).setCell ⟨b3, 6, none⟩ v6).setCell ⟨b3, 7, none⟩ v7).drew := by
  have j2 := upd2 k2 (.string ⟨z.toArray⟩) (.int .i64 q)
  have j3 := oth2 k3 (g := b2) (.string ⟨z.toArray⟩) (.int .i64 q) hn.symm
  have hC := bel2 hB (g := b2) (.string ⟨z.toArray⟩) (.int .i64 q) hb2
  generalize ((W.setCell ⟨b2, 0, none⟩ (.string ⟨z.toArray⟩)).setCell ⟨b2, 1, none⟩ (.int .i64 q)) = V at *
  have i3 := (cells8 v0 v1 v2 v3 v4 v5 v6 v7 j3).drew
  have i2 := (((((((j2.setOther ⟨b3, 0, none⟩ v0 hn).setOther ⟨b3, 1, none⟩ v1 hn).setOther ⟨b3, 2, none⟩ v2 hn).setOther ⟨b3, 3, none⟩ v3 hn).setOther ⟨b3, 4, none⟩ v4 hn).setOther ⟨b3, 5, none⟩ v5 hn).setOther ⟨b3, 6, none⟩ v6 hn).setOther ⟨b3, 7, none⟩ v7 hn
  have i2 := i2.drew
  have hD := (((((((hC.setCell (p := ⟨b3, 0, none⟩) hb3 v0).setCell (p := ⟨b3, 1, none⟩) hb3 v1).setCell (p := ⟨b3, 2, none⟩) hb3 v2).setCell (p := ⟨b3, 3, none⟩) hb3 v3).setCell (p := ⟨b3, 4, none⟩) hb3 v4).setCell (p := ⟨b3, 5, none⟩) hb3 v5).setCell (p := ⟨b3, 6, none⟩) hb3 v6).setCell (p := ⟨b3, 7, none⟩) hb3 v7
  have hD := hD.drew
  generalize ((((((((V.setCell ⟨b3, 0, none⟩ v0).setCell ⟨b3, 1, none⟩ v1).setCell ⟨b3, 2, none⟩ v2).setCell ⟨b3, 3, none⟩ v3).setCell ⟨b3, 4, none⟩ v4).setCell ⟨b3, 5, none⟩ v5).setCell ⟨b3, 6, none⟩ v6).setCell ⟨b3, 7, none⟩ v7).drew = U at *
  have g3 := i3.facts.1
  have g2 := i2.facts.1
  refine bodyPost_ret (v := .tuple #[.agg #[Str z, .int .i64 q], .agg #[v0, v1, v2, v3, v4, v5, v6, v7]]) ?_ hd ⟨rfl, hD⟩
  simp [results, hr, go_sem, h2, h3, g2, g3]
theorem step_o (l z1 z2 z3 : List UInt8) (q1 q2 q3 m1 m2 m3 : Int) (m1a : 0 ≤ m1) (m1b : m1 < 4294967296) (m2a : 0 ≤ m2) (m2b : m2 < 4294967296) (m3a : 0 ≤ m3) (m3b : m3 < 4294967296) (k1 : (m1 == 1) = false) (k2 : (m1 == 10) = false)
    (N1 : ∀ w, Calls Try.prog 99 #[.agg #[Str l, .int .i64 0], .int .i64 1] w (RetB (.tuple #[.agg #[Str z1, .int .i64 q1], .int .u32 m1]) w))
    (N2 : ∀ w, Calls Try.prog 99 #[.agg #[Str z1, .int .i64 q1], .int .i64 1] w (RetB (.tuple #[.agg #[Str z2, .int .i64 q2], .int .u32 m2]) w))
    (N3 : ∀ w, Calls Try.prog 99 #[.agg #[Str z2, .int .i64 q2], .int .i64 4] w (RetB (.tuple #[.agg #[Str z3, .int .i64 q3], .int .u32 m3]) w)) (w : World) :
    Calls Try.prog 96 #[.agg #[Str l, .int .i64 0]] w (StepR z3 q3 (.agg #[.int .i64 m1, .int .i64 m2, .int .i64 0, .int .i64 0, .int .i64 0, Str [], .int .i64 m3, Str []]) w) := by
  have m1w : IntKind.i64.wrap m1 = m1 := by rw [IntWalk.i64_in _ (by omega)]
  have m2w : IntKind.i64.wrap m2 = m2 := by rw [IntWalk.i64_in _ (by omega)]
  have m3w : IntKind.i64.wrap m3 = m3 := by rw [IntWalk.i64_in _ (by omega)]
  have H1 := Lib.hid N1
  have H2 := Lib.hid N2
  have H3 := Lib.hid N3
  clear N1 N2 N3
  have hB0 := Below.refl w.heap.size w
  have K1_1 := Blk.newAt (n := w.heap.size) (w := w) (cs := #[Str l, .int .i64 0]) (t := 179) (by simp)
  have hB2 := Below.chainAlloc hB0 (.cells #[Str l, .int .i64 0] 179)
  clear hB0
  have K1_3 := K1_1.alloc (.cells #[.string ⟨#[]⟩, .int .i64 0] 179)
  have K2_4 := Blk.newAt (n := w.heap.size + 1) (w := (w.alloc (.cells #[Str l, .int .i64 0] 179))) (cs := #[.string ⟨#[]⟩, .int .i64 0]) (t := 179) (by simp)
  have hB5 := Below.chainAlloc hB2 (.cells #[.string ⟨#[]⟩, .int .i64 0] 179)
  clear K1_1 hB2
  have K1_6 := K1_3.alloc (.cells #[.int .i64 0, .int .i64 0, .int .i64 0, .int .i64 0, .int .i64 0, .string ⟨#[]⟩, .int .i64 0, .string ⟨#[]⟩] 160)
  have K2_7 := K2_4.alloc (.cells #[.int .i64 0, .int .i64 0, .int .i64 0, .int .i64 0, .int .i64 0, .string ⟨#[]⟩, .int .i64 0, .string ⟨#[]⟩] 160)
  have K3_8 := Blk.newAt (n := w.heap.size + 2) (w := ((w.alloc (.cells #[Str l, .int .i64 0] 179)).alloc (.cells #[.string ⟨#[]⟩, .int .i64 0] 179))) (cs := #[.int .i64 0, .int .i64 0, .int .i64 0, .int .i64 0, .int .i64 0, .string ⟨#[]⟩, .int .i64 0, .string ⟨#[]⟩]) (t := 160) (by simp)
  have hB9 := Below.chainAlloc hB5 (.cells #[.int .i64 0, .int .i64 0, .int .i64 0, .int .i64 0, .int .i64 0, .string ⟨#[]⟩, .int .i64 0, .string ⟨#[]⟩] 160)
  clear K1_3 K2_4 hB5
  go_enter Try.func96, Try.ntmps96
  go_wp2_with fail
  refine (H1.out _).mono ?_
  rintro e w1 ⟨rfl, hb⟩
  have K1_10 := K1_6.below hb K1_6.lt
  have K2_11 := K2_7.below hb K2_7.lt
  have K3_12 := K3_8.below hb K3_8.lt
  have hB13 := Below.chain hb hB9
  clear hb H1 K1_6 K2_7 K3_8 hB9
  obtain ⟨ca0, fa0, la0⟩ := K1_10.facts
  go_wp2_with fail
  clear ca0 fa0
  have K1_14 := upd2 K1_10 (Str z1) (.int .i64 q1)
  have K2_15 := oth2 K2_11 (g := w.heap.size) (Str z1) (.int .i64 q1) (by omega)
  have K3_16 := oth2 K3_12 (g := w.heap.size) (Str z1) (.int .i64 q1) (by omega)
  have hB17 := bel2 hB13 (g := w.heap.size) (Str z1) (.int .i64 q1) (by omega)
  clear K1_10 K2_11 K3_12 hB13
  refine (H2.out _).mono ?_
  rintro e w2 ⟨rfl, hb⟩
  have K1_18 := K1_14.below hb K1_14.lt
  have K2_19 := K2_15.below hb K2_15.lt
  have K3_20 := K3_16.below hb K3_16.lt
  have hB21 := Below.chain hb hB17
  clear hb H2 K1_14 K2_15 K3_16 hB17
  obtain ⟨ca0, fa0, la0⟩ := K1_18.facts
  go_wp2_with fail
  clear ca0 fa0
  have K1_22 := upd2 K1_18 (Str z2) (.int .i64 q2)
  have K2_23 := oth2 K2_19 (g := w.heap.size) (Str z2) (.int .i64 q2) (by omega)
  have K3_24 := oth2 K3_20 (g := w.heap.size) (Str z2) (.int .i64 q2) (by omega)
  have hB25 := bel2 hB21 (g := w.heap.size) (Str z2) (.int .i64 q2) (by omega)
  clear K1_18 K2_19 K3_20 hB21
  refine (H3.out _).mono ?_
  rintro e w3 ⟨rfl, hb⟩
  have K1_26 := K1_22.below hb K1_22.lt
  have K2_27 := K2_23.below hb K2_23.lt
  have K3_28 := K3_24.below hb K3_24.lt
  have hB29 := Below.chain hb hB25
  clear hb H3 K1_22 K2_23 K3_24 hB25
  have hk3 := K3_28.lt
  obtain ⟨ca0, fa0, la0⟩ := K1_26.facts
  go_upto_region 18 with fail
  clear ca0 fa0
  have K1_30 := upd2 K1_26 (Str z3) (.int .i64 q3)
  have K2_31 := oth2 K2_27 (g := w.heap.size) (Str z3) (.int .i64 q3) (by omega)
  have K3_32 := oth2 K3_28 (g := w.heap.size) (Str z3) (.int .i64 q3) (by omega)
  have hB33 := bel2 hB29 (g := w.heap.size) (Str z3) (.int .i64 q3) (by omega)
  clear K1_26 K2_27 K3_28 hB29
  have K1_34 := K1_30.alloc (.cells #[.int .i64 m1, .int .i64 m2, .int .i64 0, .int .i64 0, .int .i64 0, .string ⟨#[]⟩, .int .i64 m3, .string ⟨#[]⟩] 160)
  have K2_35 := K2_31.alloc (.cells #[.int .i64 m1, .int .i64 m2, .int .i64 0, .int .i64 0, .int .i64 0, .string ⟨#[]⟩, .int .i64 m3, .string ⟨#[]⟩] 160)
  have K3_36 := K3_32.alloc (.cells #[.int .i64 m1, .int .i64 m2, .int .i64 0, .int .i64 0, .int .i64 0, .string ⟨#[]⟩, .int .i64 m3, .string ⟨#[]⟩] 160)
  have K7_37 := Blk.newAt (n := w3.heap.size) (w := ((w3.setCell ⟨w.heap.size, 0, none⟩ (Str z3)).setCell ⟨w.heap.size, 1, none⟩ (.int .i64 q3))) (cs := #[.int .i64 m1, .int .i64 m2, .int .i64 0, .int .i64 0, .int .i64 0, .string ⟨#[]⟩, .int .i64 m3, .string ⟨#[]⟩]) (t := 160) (by simp)
  have hB38 := Below.chainAlloc hB33 (.cells #[.int .i64 m1, .int .i64 m2, .int .i64 0, .int .i64 0, .int .i64 0, .string ⟨#[]⟩, .int .i64 m3, .string ⟨#[]⟩] 160)
  clear K1_30 K2_31 K3_32 hB33
  generalize (((w3.setCell ⟨w.heap.size, 0, none⟩ (Str z3)).setCell ⟨w.heap.size, 1, none⟩ (.int .i64 q3)).alloc (.cells #[.int .i64 m1, .int .i64 m2, .int .i64 0, .int .i64 0, .int .i64 0, .string ⟨#[]⟩, .int .i64 m3, .string ⟨#[]⟩] 160)) = WW at *
  obtain ⟨ca0, fa0, la0⟩ := K1_34.facts
  obtain ⟨ca1, fa1, la1⟩ := K7_37.facts
  obtain ⟨ca2, fa2, la2⟩ := K2_35.facts
  obtain ⟨ca3, fa3, la3⟩ := K3_36.facts
  have hx1 : ¬ w3.heap.size = w.heap.size + 1 := by omega
  have hy1 : ¬ w.heap.size + 1 = w3.heap.size := by omega
  have hx2 : ¬ w3.heap.size = w.heap.size + 2 := by omega
  have hy2 : ¬ w.heap.size + 2 = w3.heap.size := by omega
  go_region
  clear ca0 fa0 la0 ca1 fa1 la1 ca2 fa2 la2 ca3 fa3 la3
  go_wp2_with fail
  exact step_fin rfl K2_35 K3_36 rfl rfl rfl (by omega) hB38 (by omega) (by omega)
theorem step_10 (l z1 z2 z3 z4 z5 body : List UInt8) (q1 q2 q3 q4 q5 m2 m3 n4 : Int) (m2a : 0 ≤ m2) (m2b : m2 < 4294967296) (m3a : 0 ≤ m3) (m3b : m3 < 4294967296) (n4a : 0 ≤ n4) (n4b : n4 < 4294967296)
    (N1 : ∀ w, Calls Try.prog 99 #[.agg #[Str l, .int .i64 0], .int .i64 1] w (RetB (.tuple #[.agg #[Str z1, .int .i64 q1], .int .u32 10]) w))
    (N2 : ∀ w, Calls Try.prog 99 #[.agg #[Str z1, .int .i64 q1], .int .i64 1] w (RetB (.tuple #[.agg #[Str z2, .int .i64 q2], .int .u32 m2]) w))
    (N3 : ∀ w, Calls Try.prog 99 #[.agg #[Str z2, .int .i64 q2], .int .i64 4] w (RetB (.tuple #[.agg #[Str z3, .int .i64 q3], .int .u32 m3]) w))
    (N4 : ∀ w, Calls Try.prog 99 #[.agg #[Str z3, .int .i64 q3], .int .i64 2] w (RetB (.tuple #[.agg #[Str z4, .int .i64 q4], .int .u32 n4]) w))
    (N5 : ∀ w, Calls Try.prog 134 #[.agg #[Str z4, .int .i64 q4], .int .i64 n4] w (RetB (.tuple #[.agg #[Str z5, .int .i64 q5], Str body]) w)) (w : World) :
    Calls Try.prog 96 #[.agg #[Str l, .int .i64 0]] w (StepR z5 q5 (.agg #[.int .i64 10, .int .i64 m2, .int .i64 0, .int .i64 0, .int .i64 0, Str [], .int .i64 m3, Str body]) w) := by
  have m2w : IntKind.i64.wrap m2 = m2 := by rw [IntWalk.i64_in _ (by omega)]
  have m3w : IntKind.i64.wrap m3 = m3 := by rw [IntWalk.i64_in _ (by omega)]
  have n4w : IntKind.i64.wrap n4 = n4 := by rw [IntWalk.i64_in _ (by omega)]
  have H1 := Lib.hid N1
  have H2 := Lib.hid N2
  have H3 := Lib.hid N3
  have H4 := Lib.hid N4
  have H5 := Lib.hid N5
  clear N1 N2 N3 N4 N5
  have hB0 := Below.refl w.heap.size w
  have K1_1 := Blk.newAt (n := w.heap.size) (w := w) (cs := #[Str l, .int .i64 0]) (t := 179) (by simp)
  have hB2 := Below.chainAlloc hB0 (.cells #[Str l, .int .i64 0] 179)
  clear hB0
  have K1_3 := K1_1.alloc (.cells #[.string ⟨#[]⟩, .int .i64 0] 179)
  have K2_4 := Blk.newAt (n := w.heap.size + 1) (w := (w.alloc (.cells #[Str l, .int .i64 0] 179))) (cs := #[.string ⟨#[]⟩, .int .i64 0]) (t := 179) (by simp)
  have hB5 := Below.chainAlloc hB2 (.cells #[.string ⟨#[]⟩, .int .i64 0] 179)
  clear K1_1 hB2
  have K1_6 := K1_3.alloc (.cells #[.int .i64 0, .int .i64 0, .int .i64 0, .int .i64 0, .int .i64 0, .string ⟨#[]⟩, .int .i64 0, .string ⟨#[]⟩] 160)
  have K2_7 := K2_4.alloc (.cells #[.int .i64 0, .int .i64 0, .int .i64 0, .int .i64 0, .int .i64 0, .string ⟨#[]⟩, .int .i64 0, .string ⟨#[]⟩] 160)
  have K3_8 := Blk.newAt (n := w.heap.size + 2) (w := ((w.alloc (.cells #[Str l, .int .i64 0] 179)).alloc (.cells #[.string ⟨#[]⟩, .int .i64 0] 179))) (cs := #[.int .i64 0, .int .i64 0, .int .i64 0, .int .i64 0, .int .i64 0, .string ⟨#[]⟩, .int .i64 0, .string ⟨#[]⟩]) (t := 160) (by simp)
  have hB9 := Below.chainAlloc hB5 (.cells #[.int .i64 0, .int .i64 0, .int .i64 0, .int .i64 0, .int .i64 0, .string ⟨#[]⟩, .int .i64 0, .string ⟨#[]⟩] 160)
  clear K1_3 K2_4 hB5
  go_enter Try.func96, Try.ntmps96
  go_wp2_with fail
  refine (H1.out _).mono ?_
  rintro e w1 ⟨rfl, hb⟩
  have K1_10 := K1_6.below hb K1_6.lt
  have K2_11 := K2_7.below hb K2_7.lt
  have K3_12 := K3_8.below hb K3_8.lt
  have hB13 := Below.chain hb hB9
  clear hb H1 K1_6 K2_7 K3_8 hB9
  obtain ⟨ca0, fa0, la0⟩ := K1_10.facts
  go_wp2_with fail
  clear ca0 fa0
  have K1_14 := upd2 K1_10 (Str z1) (.int .i64 q1)
  have K2_15 := oth2 K2_11 (g := w.heap.size) (Str z1) (.int .i64 q1) (by omega)
  have K3_16 := oth2 K3_12 (g := w.heap.size) (Str z1) (.int .i64 q1) (by omega)
  have hB17 := bel2 hB13 (g := w.heap.size) (Str z1) (.int .i64 q1) (by omega)
  clear K1_10 K2_11 K3_12 hB13
  refine (H2.out _).mono ?_
  rintro e w2 ⟨rfl, hb⟩
  have K1_18 := K1_14.below hb K1_14.lt
  have K2_19 := K2_15.below hb K2_15.lt
  have K3_20 := K3_16.below hb K3_16.lt
  have hB21 := Below.chain hb hB17
  clear hb H2 K1_14 K2_15 K3_16 hB17
  obtain ⟨ca0, fa0, la0⟩ := K1_18.facts
  go_wp2_with fail
  clear ca0 fa0
  have K1_22 := upd2 K1_18 (Str z2) (.int .i64 q2)
  have K2_23 := oth2 K2_19 (g := w.heap.size) (Str z2) (.int .i64 q2) (by omega)
  have K3_24 := oth2 K3_20 (g := w.heap.size) (Str z2) (.int .i64 q2) (by omega)
  have hB25 := bel2 hB21 (g := w.heap.size) (Str z2) (.int .i64 q2) (by omega)
  clear K1_18 K2_19 K3_20 hB21
  refine (H3.out _).mono ?_
  rintro e w3 ⟨rfl, hb⟩
  have K1_26 := K1_22.below hb K1_22.lt
  have K2_27 := K2_23.below hb K2_23.lt
  have K3_28 := K3_24.below hb K3_24.lt
  have hB29 := Below.chain hb hB25
  clear hb H3 K1_22 K2_23 K3_24 hB25
  have hk3 := K3_28.lt
  obtain ⟨ca0, fa0, la0⟩ := K1_26.facts
  go_wp2_with fail
  clear ca0 fa0
  have K1_30 := upd2 K1_26 (Str z3) (.int .i64 q3)
  have K2_31 := oth2 K2_27 (g := w.heap.size) (Str z3) (.int .i64 q3) (by omega)
  have K3_32 := oth2 K3_28 (g := w.heap.size) (Str z3) (.int .i64 q3) (by omega)
  have hB33 := bel2 hB29 (g := w.heap.size) (Str z3) (.int .i64 q3) (by omega)
  clear K1_26 K2_27 K3_28 hB29
  have K1_34 := K1_30.alloc (.cells #[.int .i64 10, .int .i64 m2, .int .i64 0, .int .i64 0, .int .i64 0, .string ⟨#[]⟩, .int .i64 m3, .string ⟨#[]⟩] 160)
  have K2_35 := K2_31.alloc (.cells #[.int .i64 10, .int .i64 m2, .int .i64 0, .int .i64 0, .int .i64 0, .string ⟨#[]⟩, .int .i64 m3, .string ⟨#[]⟩] 160)
  have K3_36 := K3_32.alloc (.cells #[.int .i64 10, .int .i64 m2, .int .i64 0, .int .i64 0, .int .i64 0, .string ⟨#[]⟩, .int .i64 m3, .string ⟨#[]⟩] 160)
  have K7_37 := Blk.newAt (n := w3.heap.size) (w := ((w3.setCell ⟨w.heap.size, 0, none⟩ (Str z3)).setCell ⟨w.heap.size, 1, none⟩ (.int .i64 q3))) (cs := #[.int .i64 10, .int .i64 m2, .int .i64 0, .int .i64 0, .int .i64 0, .string ⟨#[]⟩, .int .i64 m3, .string ⟨#[]⟩]) (t := 160) (by simp)
  have hB38 := Below.chainAlloc hB33 (.cells #[.int .i64 10, .int .i64 m2, .int .i64 0, .int .i64 0, .int .i64 0, .string ⟨#[]⟩, .int .i64 m3, .string ⟨#[]⟩] 160)
  clear K1_30 K2_31 K3_32 hB33
  refine (H4.out _).mono ?_
  rintro e w4 ⟨rfl, hb⟩
  have K1_39 := K1_34.below hb K1_34.lt
  have K2_40 := K2_35.below hb K2_35.lt
  have K3_41 := K3_36.below hb K3_36.lt
  have K7_42 := K7_37.below hb K7_37.lt
  have hB43 := Below.chain hb hB38
  clear hb H4 K1_34 K2_35 K3_36 K7_37 hB38
  have hk4 := K7_42.lt
  go_wp2_with fail
  have K1_44 := K1_39.alloc (.cells #[Str z4, .int .i64 q4] 179)
  have K2_45 := K2_40.alloc (.cells #[Str z4, .int .i64 q4] 179)
  have K3_46 := K3_41.alloc (.cells #[Str z4, .int .i64 q4] 179)
  have K7_47 := K7_42.alloc (.cells #[Str z4, .int .i64 q4] 179)
  have K14_48 := Blk.newAt (n := w4.heap.size) (w := w4) (cs := #[Str z4, .int .i64 q4]) (t := 179) (by simp)
  have hB49 := Below.chainAlloc hB43 (.cells #[Str z4, .int .i64 q4] 179)
  clear K1_39 K2_40 K3_41 K7_42 hB43
  refine (H5.out _).mono ?_
  rintro e w5 ⟨rfl, hb⟩
  have K1_50 := K1_44.below hb K1_44.lt
  have K2_51 := K2_45.below hb K2_45.lt
  have K3_52 := K3_46.below hb K3_46.lt
  have K7_53 := K7_47.below hb K7_47.lt
  have K14_54 := K14_48.below hb K14_48.lt
  have hB55 := Below.chain hb hB49
  clear hb H5 K1_44 K2_45 K3_46 K7_47 K14_48 hB49
  obtain ⟨ca0, fa0, la0⟩ := K14_54.facts
  obtain ⟨ca1, fa1, la1⟩ := K7_53.facts
  go_upto_region 17 with fail
  clear ca0 fa0 ca1 fa1
  have K1_56 := oth2 K1_50 (g := w4.heap.size) (Str z5) (.int .i64 q5) (by omega)
  have K2_57 := oth2 K2_51 (g := w4.heap.size) (Str z5) (.int .i64 q5) (by omega)
  have K3_58 := oth2 K3_52 (g := w4.heap.size) (Str z5) (.int .i64 q5) (by omega)
  have K7_59 := oth2 K7_53 (g := w4.heap.size) (Str z5) (.int .i64 q5) (by omega)
  have K14_60 := upd2 K14_54 (Str z5) (.int .i64 q5)
  have hB61 := bel2 hB55 (g := w4.heap.size) (Str z5) (.int .i64 q5) (by omega)
  clear K1_50 K2_51 K3_52 K7_53 K14_54 hB55
  have K1_62 := (oth1 K1_56 (w3.heap.size) 7 (Str body) (by omega))
  have K2_63 := (oth1 K2_57 (w3.heap.size) 7 (Str body) (by omega))
  have K3_64 := (oth1 K3_58 (w3.heap.size) 7 (Str body) (by omega))
  have K7_65 : Blk (((w5.setCell ⟨w4.heap.size, 0, none⟩ (Str z5)).setCell ⟨w4.heap.size, 1, none⟩ (.int .i64 q5)).setCell ⟨w3.heap.size, 7, none⟩ (Str body)) w3.heap.size #[.int .i64 10, .int .i64 m2, .int .i64 0, .int .i64 0, .int .i64 0, .string ⟨#[]⟩, .int .i64 m3, Str body] 160 := by have h := (K7_59.set 7 (Str body)); simpa using h
  have K14_66 := (oth1 K14_60 (w3.heap.size) 7 (Str body) (by omega))
  have hB67 := (bel1 hB61 (w3.heap.size) 7 (Str body) (by omega))
  clear K1_56 K2_57 K3_58 K7_59 K14_60 hB61
  generalize (((w5.setCell ⟨w4.heap.size, 0, none⟩ (Str z5)).setCell ⟨w4.heap.size, 1, none⟩ (.int .i64 q5)).setCell ⟨w3.heap.size, 7, none⟩ (Str body)) = WW at *
  obtain ⟨ca0, fa0, la0⟩ := K14_66.facts
  obtain ⟨ca1, fa1, la1⟩ := K7_65.facts
  obtain ⟨ca2, fa2, la2⟩ := K2_63.facts
  obtain ⟨ca3, fa3, la3⟩ := K3_64.facts
  have hx1 : ¬ w3.heap.size = w.heap.size + 1 := by omega
  have hy1 : ¬ w.heap.size + 1 = w3.heap.size := by omega
  have hx2 : ¬ w3.heap.size = w.heap.size + 2 := by omega
  have hy2 : ¬ w.heap.size + 2 = w3.heap.size := by omega
  have hx3 : ¬ w4.heap.size = w.heap.size + 1 := by omega
  have hy3 : ¬ w.heap.size + 1 = w4.heap.size := by omega
  have hx4 : ¬ w4.heap.size = w.heap.size + 2 := by omega
  have hy4 : ¬ w.heap.size + 2 = w4.heap.size := by omega
  go_region
  clear ca0 fa0 la0 ca1 fa1 la1 ca2 fa2 la2 ca3 fa3 la3
  go_wp2_with fail
  exact step_fin rfl K2_63 K3_64 rfl rfl rfl (by omega) hB67 (by omega) (by omega)
theorem step_1 (l z1 z2 z3 z4 z5 z6 z7 z8 body : List UInt8) (q1 q2 q3 q4 q5 q6 q7 q8 m2 m3 n4 n5 n6 n7 : Int) (m2a : 0 ≤ m2) (m2b : m2 < 4294967296) (m3a : 0 ≤ m3) (m3b : m3 < 4294967296) (n4a : 0 ≤ n4) (n4b : n4 < 4294967296) (n5a : 0 ≤ n5) (n5b : n5 < 4294967296) (n6a : 0 ≤ n6) (n6b : n6 < 4294967296) (n7a : 0 ≤ n7) (n7b : n7 < 4294967296)
    (N1 : ∀ w, Calls Try.prog 99 #[.agg #[Str l, .int .i64 0], .int .i64 1] w (RetB (.tuple #[.agg #[Str z1, .int .i64 q1], .int .u32 1]) w))
    (N2 : ∀ w, Calls Try.prog 99 #[.agg #[Str z1, .int .i64 q1], .int .i64 1] w (RetB (.tuple #[.agg #[Str z2, .int .i64 q2], .int .u32 m2]) w))
    (N3 : ∀ w, Calls Try.prog 99 #[.agg #[Str z2, .int .i64 q2], .int .i64 4] w (RetB (.tuple #[.agg #[Str z3, .int .i64 q3], .int .u32 m3]) w))
    (N4 : ∀ w, Calls Try.prog 99 #[.agg #[Str z3, .int .i64 q3], .int .i64 1] w (RetB (.tuple #[.agg #[Str z4, .int .i64 q4], .int .u32 n4]) w))
    (N5 : ∀ w, Calls Try.prog 99 #[.agg #[Str z4, .int .i64 q4], .int .i64 1] w (RetB (.tuple #[.agg #[Str z5, .int .i64 q5], .int .u32 n5]) w))
    (N6 : ∀ w, Calls Try.prog 99 #[.agg #[Str z5, .int .i64 q5], .int .i64 2] w (RetB (.tuple #[.agg #[Str z6, .int .i64 q6], .int .u32 n6]) w))
    (N7 : ∀ w, Calls Try.prog 99 #[.agg #[Str z6, .int .i64 q6], .int .i64 2] w (RetB (.tuple #[.agg #[Str z7, .int .i64 q7], .int .u32 n7]) w))
    (N8 : ∀ w, Calls Try.prog 134 #[.agg #[Str z7, .int .i64 q7], .int .i64 n7] w (RetB (.tuple #[.agg #[Str z8, .int .i64 q8], Str body]) w)) (w : World) :
    Calls Try.prog 96 #[.agg #[Str l, .int .i64 0]] w (StepR z8 q8 (.agg #[.int .i64 1, .int .i64 m2, .int .i64 n4, .int .i64 n5, .int .i64 n6, Str body, .int .i64 m3, Str []]) w) := by
  have m2w : IntKind.i64.wrap m2 = m2 := by rw [IntWalk.i64_in _ (by omega)]
  have m3w : IntKind.i64.wrap m3 = m3 := by rw [IntWalk.i64_in _ (by omega)]
  have n4w : IntKind.i64.wrap n4 = n4 := by rw [IntWalk.i64_in _ (by omega)]
  have n5w : IntKind.i64.wrap n5 = n5 := by rw [IntWalk.i64_in _ (by omega)]
  have n6w : IntKind.i64.wrap n6 = n6 := by rw [IntWalk.i64_in _ (by omega)]
  have n7w : IntKind.i64.wrap n7 = n7 := by rw [IntWalk.i64_in _ (by omega)]
  have H1 := Lib.hid N1
  have H2 := Lib.hid N2
  have H3 := Lib.hid N3
  have H4 := Lib.hid N4
  have H5 := Lib.hid N5
  have H6 := Lib.hid N6
  have H7 := Lib.hid N7
  have H8 := Lib.hid N8
  clear N1 N2 N3 N4 N5 N6 N7 N8
  have hB0 := Below.refl w.heap.size w
  have K1_1 := Blk.newAt (n := w.heap.size) (w := w) (cs := #[Str l, .int .i64 0]) (t := 179) (by simp)
  have hB2 := Below.chainAlloc hB0 (.cells #[Str l, .int .i64 0] 179)
  clear hB0
  have K1_3 := K1_1.alloc (.cells #[.string ⟨#[]⟩, .int .i64 0] 179)
  have K2_4 := Blk.newAt (n := w.heap.size + 1) (w := (w.alloc (.cells #[Str l, .int .i64 0] 179))) (cs := #[.string ⟨#[]⟩, .int .i64 0]) (t := 179) (by simp)
  have hB5 := Below.chainAlloc hB2 (.cells #[.string ⟨#[]⟩, .int .i64 0] 179)
  clear K1_1 hB2
  have K1_6 := K1_3.alloc (.cells #[.int .i64 0, .int .i64 0, .int .i64 0, .int .i64 0, .int .i64 0, .string ⟨#[]⟩, .int .i64 0, .string ⟨#[]⟩] 160)
  have K2_7 := K2_4.alloc (.cells #[.int .i64 0, .int .i64 0, .int .i64 0, .int .i64 0, .int .i64 0, .string ⟨#[]⟩, .int .i64 0, .string ⟨#[]⟩] 160)
  have K3_8 := Blk.newAt (n := w.heap.size + 2) (w := ((w.alloc (.cells #[Str l, .int .i64 0] 179)).alloc (.cells #[.string ⟨#[]⟩, .int .i64 0] 179))) (cs := #[.int .i64 0, .int .i64 0, .int .i64 0, .int .i64 0, .int .i64 0, .string ⟨#[]⟩, .int .i64 0, .string ⟨#[]⟩]) (t := 160) (by simp)
  have hB9 := Below.chainAlloc hB5 (.cells #[.int .i64 0, .int .i64 0, .int .i64 0, .int .i64 0, .int .i64 0, .string ⟨#[]⟩, .int .i64 0, .string ⟨#[]⟩] 160)
  clear K1_3 K2_4 hB5
  go_enter Try.func96, Try.ntmps96
  go_wp2_with fail
  refine (H1.out _).mono ?_
  rintro e w1 ⟨rfl, hb⟩
  have K1_10 := K1_6.below hb K1_6.lt
  have K2_11 := K2_7.below hb K2_7.lt
  have K3_12 := K3_8.below hb K3_8.lt
  have hB13 := Below.chain hb hB9
  clear hb H1 K1_6 K2_7 K3_8 hB9
  obtain ⟨ca0, fa0, la0⟩ := K1_10.facts
  go_wp2_with fail
  clear ca0 fa0
  have K1_14 := upd2 K1_10 (Str z1) (.int .i64 q1)
  have K2_15 := oth2 K2_11 (g := w.heap.size) (Str z1) (.int .i64 q1) (by omega)
  have K3_16 := oth2 K3_12 (g := w.heap.size) (Str z1) (.int .i64 q1) (by omega)
  have hB17 := bel2 hB13 (g := w.heap.size) (Str z1) (.int .i64 q1) (by omega)
  clear K1_10 K2_11 K3_12 hB13
  refine (H2.out _).mono ?_
  rintro e w2 ⟨rfl, hb⟩
  have K1_18 := K1_14.below hb K1_14.lt
  have K2_19 := K2_15.below hb K2_15.lt
  have K3_20 := K3_16.below hb K3_16.lt
  have hB21 := Below.chain hb hB17
  clear hb H2 K1_14 K2_15 K3_16 hB17
  obtain ⟨ca0, fa0, la0⟩ := K1_18.facts
  go_wp2_with fail
  clear ca0 fa0
  have K1_22 := upd2 K1_18 (Str z2) (.int .i64 q2)
  have K2_23 := oth2 K2_19 (g := w.heap.size) (Str z2) (.int .i64 q2) (by omega)
  have K3_24 := oth2 K3_20 (g := w.heap.size) (Str z2) (.int .i64 q2) (by omega)
  have hB25 := bel2 hB21 (g := w.heap.size) (Str z2) (.int .i64 q2) (by omega)
  clear K1_18 K2_19 K3_20 hB21
  refine (H3.out _).mono ?_
  rintro e w3 ⟨rfl, hb⟩
  have K1_26 := K1_22.below hb K1_22.lt
  have K2_27 := K2_23.below hb K2_23.lt
  have K3_28 := K3_24.below hb K3_24.lt
  have hB29 := Below.chain hb hB25
  clear hb H3 K1_22 K2_23 K3_24 hB25
  have hk3 := K3_28.lt
  obtain ⟨ca0, fa0, la0⟩ := K1_26.facts
  go_wp2_with fail
  clear ca0 fa0
  have K1_30 := upd2 K1_26 (Str z3) (.int .i64 q3)
  have K2_31 := oth2 K2_27 (g := w.heap.size) (Str z3) (.int .i64 q3) (by omega)
  have K3_32 := oth2 K3_28 (g := w.heap.size) (Str z3) (.int .i64 q3) (by omega)
  have hB33 := bel2 hB29 (g := w.heap.size) (Str z3) (.int .i64 q3) (by omega)
  clear K1_26 K2_27 K3_28 hB29
  have K1_34 := K1_30.alloc (.cells #[.int .i64 1, .int .i64 m2, .int .i64 0, .int .i64 0, .int .i64 0, .string ⟨#[]⟩, .int .i64 m3, .string ⟨#[]⟩] 160)
  have K2_35 := K2_31.alloc (.cells #[.int .i64 1, .int .i64 m2, .int .i64 0, .int .i64 0, .int .i64 0, .string ⟨#[]⟩, .int .i64 m3, .string ⟨#[]⟩] 160)
  have K3_36 := K3_32.alloc (.cells #[.int .i64 1, .int .i64 m2, .int .i64 0, .int .i64 0, .int .i64 0, .string ⟨#[]⟩, .int .i64 m3, .string ⟨#[]⟩] 160)
  have K7_37 := Blk.newAt (n := w3.heap.size) (w := ((w3.setCell ⟨w.heap.size, 0, none⟩ (Str z3)).setCell ⟨w.heap.size, 1, none⟩ (.int .i64 q3))) (cs := #[.int .i64 1, .int .i64 m2, .int .i64 0, .int .i64 0, .int .i64 0, .string ⟨#[]⟩, .int .i64 m3, .string ⟨#[]⟩]) (t := 160) (by simp)
  have hB38 := Below.chainAlloc hB33 (.cells #[.int .i64 1, .int .i64 m2, .int .i64 0, .int .i64 0, .int .i64 0, .string ⟨#[]⟩, .int .i64 m3, .string ⟨#[]⟩] 160)
  clear K1_30 K2_31 K3_32 hB33
  refine (H4.out _).mono ?_
  rintro e w4 ⟨rfl, hb⟩
  have K1_39 := K1_34.below hb K1_34.lt
  have K2_40 := K2_35.below hb K2_35.lt
  have K3_41 := K3_36.below hb K3_36.lt
  have K7_42 := K7_37.below hb K7_37.lt
  have hB43 := Below.chain hb hB38
  clear hb H4 K1_34 K2_35 K3_36 K7_37 hB38
  have hk4 := K7_42.lt
  go_wp2_with fail
  have K1_44 := K1_39.alloc (.cells #[Str z4, .int .i64 q4] 179)
  have K2_45 := K2_40.alloc (.cells #[Str z4, .int .i64 q4] 179)
  have K3_46 := K3_41.alloc (.cells #[Str z4, .int .i64 q4] 179)
  have K7_47 := K7_42.alloc (.cells #[Str z4, .int .i64 q4] 179)
  have K14_48 := Blk.newAt (n := w4.heap.size) (w := w4) (cs := #[Str z4, .int .i64 q4]) (t := 179) (by simp)
  have hB49 := Below.chainAlloc hB43 (.cells #[Str z4, .int .i64 q4] 179)
  clear K1_39 K2_40 K3_41 K7_42 hB43
  refine (H5.out _).mono ?_
  rintro e w5 ⟨rfl, hb⟩
  have K1_50 := K1_44.below hb K1_44.lt
  have K2_51 := K2_45.below hb K2_45.lt
  have K3_52 := K3_46.below hb K3_46.lt
  have K7_53 := K7_47.below hb K7_47.lt
  have K14_54 := K14_48.below hb K14_48.lt
  have hB55 := Below.chain hb hB49
  clear hb H5 K1_44 K2_45 K3_46 K7_47 K14_48 hB49
  obtain ⟨ca0, fa0, la0⟩ := K14_54.facts
  go_wp2_with fail
  clear ca0 fa0
  have K1_56 := oth2 K1_50 (g := w4.heap.size) (Str z5) (.int .i64 q5) (by omega)
  have K2_57 := oth2 K2_51 (g := w4.heap.size) (Str z5) (.int .i64 q5) (by omega)
  have K3_58 := oth2 K3_52 (g := w4.heap.size) (Str z5) (.int .i64 q5) (by omega)
  have K7_59 := oth2 K7_53 (g := w4.heap.size) (Str z5) (.int .i64 q5) (by omega)
  have K14_60 := upd2 K14_54 (Str z5) (.int .i64 q5)
  have hB61 := bel2 hB55 (g := w4.heap.size) (Str z5) (.int .i64 q5) (by omega)
  clear K1_50 K2_51 K3_52 K7_53 K14_54 hB55
  refine (H6.out _).mono ?_
  rintro e w6 ⟨rfl, hb⟩
  have K1_62 := K1_56.below hb K1_56.lt
  have K2_63 := K2_57.below hb K2_57.lt
  have K3_64 := K3_58.below hb K3_58.lt
  have K7_65 := K7_59.below hb K7_59.lt
  have K14_66 := K14_60.below hb K14_60.lt
  have hB67 := Below.chain hb hB61
  clear hb H6 K1_56 K2_57 K3_58 K7_59 K14_60 hB61
  obtain ⟨ca0, fa0, la0⟩ := K14_66.facts
  go_wp2_with fail
  clear ca0 fa0
  have K1_68 := oth2 K1_62 (g := w4.heap.size) (Str z6) (.int .i64 q6) (by omega)
  have K2_69 := oth2 K2_63 (g := w4.heap.size) (Str z6) (.int .i64 q6) (by omega)
  have K3_70 := oth2 K3_64 (g := w4.heap.size) (Str z6) (.int .i64 q6) (by omega)
  have K7_71 := oth2 K7_65 (g := w4.heap.size) (Str z6) (.int .i64 q6) (by omega)
  have K14_72 := upd2 K14_66 (Str z6) (.int .i64 q6)
  have hB73 := bel2 hB67 (g := w4.heap.size) (Str z6) (.int .i64 q6) (by omega)
  clear K1_62 K2_63 K3_64 K7_65 K14_66 hB67
  refine (H7.out _).mono ?_
  rintro e w7 ⟨rfl, hb⟩
  have K1_74 := K1_68.below hb K1_68.lt
  have K2_75 := K2_69.below hb K2_69.lt
  have K3_76 := K3_70.below hb K3_70.lt
  have K7_77 := K7_71.below hb K7_71.lt
  have K14_78 := K14_72.below hb K14_72.lt
  have hB79 := Below.chain hb hB73
  clear hb H7 K1_68 K2_69 K3_70 K7_71 K14_72 hB73
  obtain ⟨ca0, fa0, la0⟩ := K14_78.facts
  go_wp2_with fail
  clear ca0 fa0
  have K1_80 := oth2 K1_74 (g := w4.heap.size) (Str z7) (.int .i64 q7) (by omega)
  have K2_81 := oth2 K2_75 (g := w4.heap.size) (Str z7) (.int .i64 q7) (by omega)
  have K3_82 := oth2 K3_76 (g := w4.heap.size) (Str z7) (.int .i64 q7) (by omega)
  have K7_83 := oth2 K7_77 (g := w4.heap.size) (Str z7) (.int .i64 q7) (by omega)
  have K14_84 := upd2 K14_78 (Str z7) (.int .i64 q7)
  have hB85 := bel2 hB79 (g := w4.heap.size) (Str z7) (.int .i64 q7) (by omega)
  clear K1_74 K2_75 K3_76 K7_77 K14_78 hB79
  refine (H8.out _).mono ?_
  rintro e w8 ⟨rfl, hb⟩
  have K1_86 := K1_80.below hb K1_80.lt
  have K2_87 := K2_81.below hb K2_81.lt
  have K3_88 := K3_82.below hb K3_82.lt
  have K7_89 := K7_83.below hb K7_83.lt
  have K14_90 := K14_84.below hb K14_84.lt
  have hB91 := Below.chain hb hB85
  clear hb H8 K1_80 K2_81 K3_82 K7_83 K14_84 hB85
  obtain ⟨ca0, fa0, la0⟩ := K14_90.facts
  obtain ⟨ca1, fa1, la1⟩ := K7_89.facts
  go_upto_region 12 with fail
  clear ca0 fa0 ca1 fa1
  have K1_92 := oth2 K1_86 (g := w4.heap.size) (Str z8) (.int .i64 q8) (by omega)
  have K2_93 := oth2 K2_87 (g := w4.heap.size) (Str z8) (.int .i64 q8) (by omega)
  have K3_94 := oth2 K3_88 (g := w4.heap.size) (Str z8) (.int .i64 q8) (by omega)
  have K7_95 := oth2 K7_89 (g := w4.heap.size) (Str z8) (.int .i64 q8) (by omega)
  have K14_96 := upd2 K14_90 (Str z8) (.int .i64 q8)
  have hB97 := bel2 hB91 (g := w4.heap.size) (Str z8) (.int .i64 q8) (by omega)
  clear K1_86 K2_87 K3_88 K7_89 K14_90 hB91
  have K1_98 := (oth1 (oth1 (oth1 (oth1 K1_92 (w3.heap.size) 2 (.int .i64 n4) (by omega)) (w3.heap.size) 3 (.int .i64 n5) (by omega)) (w3.heap.size) 4 (.int .i64 n6) (by omega)) (w3.heap.size) 5 (Str body) (by omega))
  have K2_99 := (oth1 (oth1 (oth1 (oth1 K2_93 (w3.heap.size) 2 (.int .i64 n4) (by omega)) (w3.heap.size) 3 (.int .i64 n5) (by omega)) (w3.heap.size) 4 (.int .i64 n6) (by omega)) (w3.heap.size) 5 (Str body) (by omega))
  have K3_100 := (oth1 (oth1 (oth1 (oth1 K3_94 (w3.heap.size) 2 (.int .i64 n4) (by omega)) (w3.heap.size) 3 (.int .i64 n5) (by omega)) (w3.heap.size) 4 (.int .i64 n6) (by omega)) (w3.heap.size) 5 (Str body) (by omega))
  have K7_101 : Blk ((((((w8.setCell ⟨w4.heap.size, 0, none⟩ (Str z8)).setCell ⟨w4.heap.size, 1, none⟩ (.int .i64 q8)).setCell ⟨w3.heap.size, 2, none⟩ (.int .i64 n4)).setCell ⟨w3.heap.size, 3, none⟩ (.int .i64 n5)).setCell ⟨w3.heap.size, 4, none⟩ (.int .i64 n6)).setCell ⟨w3.heap.size, 5, none⟩ (Str body)) w3.heap.size #[.int .i64 1, .int .i64 m2, .int .i64 n4, .int .i64 n5, .int .i64 n6, Str body, .int .i64 m3, .string ⟨#[]⟩] 160 := by have h := ((((K7_95.set 2 (.int .i64 n4)).set 3 (.int .i64 n5)).set 4 (.int .i64 n6)).set 5 (Str body)); simpa using h
  have K14_102 := (oth1 (oth1 (oth1 (oth1 K14_96 (w3.heap.size) 2 (.int .i64 n4) (by omega)) (w3.heap.size) 3 (.int .i64 n5) (by omega)) (w3.heap.size) 4 (.int .i64 n6) (by omega)) (w3.heap.size) 5 (Str body) (by omega))
  have hB103 := (bel1 (bel1 (bel1 (bel1 hB97 (w3.heap.size) 2 (.int .i64 n4) (by omega)) (w3.heap.size) 3 (.int .i64 n5) (by omega)) (w3.heap.size) 4 (.int .i64 n6) (by omega)) (w3.heap.size) 5 (Str body) (by omega))
  clear K1_92 K2_93 K3_94 K7_95 K14_96 hB97
  generalize ((((((w8.setCell ⟨w4.heap.size, 0, none⟩ (Str z8)).setCell ⟨w4.heap.size, 1, none⟩ (.int .i64 q8)).setCell ⟨w3.heap.size, 2, none⟩ (.int .i64 n4)).setCell ⟨w3.heap.size, 3, none⟩ (.int .i64 n5)).setCell ⟨w3.heap.size, 4, none⟩ (.int .i64 n6)).setCell ⟨w3.heap.size, 5, none⟩ (Str body)) = WW at *
  obtain ⟨ca0, fa0, la0⟩ := K14_102.facts
  obtain ⟨ca1, fa1, la1⟩ := K7_101.facts
  obtain ⟨ca2, fa2, la2⟩ := K2_99.facts
  obtain ⟨ca3, fa3, la3⟩ := K3_100.facts
  have hx1 : ¬ w3.heap.size = w.heap.size + 1 := by omega
  have hy1 : ¬ w.heap.size + 1 = w3.heap.size := by omega
  have hx2 : ¬ w3.heap.size = w.heap.size + 2 := by omega
  have hy2 : ¬ w.heap.size + 2 = w3.heap.size := by omega
  have hx3 : ¬ w4.heap.size = w.heap.size + 1 := by omega
  have hy3 : ¬ w.heap.size + 1 = w4.heap.size := by omega
  have hx4 : ¬ w4.heap.size = w.heap.size + 2 := by omega
  have hy4 : ¬ w.heap.size + 2 = w4.heap.size := by omega
  go_region
  clear ca0 fa0 la0 ca1 fa1 la1 ca2 fa2 la2 ca3 fa3 la3
  go_wp2_with fail
  exact step_fin rfl K2_99 K3_100 rfl rfl rfl (by omega) hB103 (by omega) (by omega)
theorem rnum_q (t : Tk) (n : Int) (hl : t.2.1.length ≤ 9223372036854775807) (w : World) : Calls Try.prog 99 #[.agg #[Str t.2.1, .int .i64 t.2.2], .int .i64 n] w (RetB (.tuple #[.agg #[Str (nx t n).2.1, .int .i64 (nx t n).2.2], .int .u32 (unbe (nx t n).1)]) w) :=
  (rnum_any t.2.1 t.2.2 n hl w).mono fun e w' h => ⟨h.1, h.2⟩
theorem rbytes_q (t : Tk) (n : Int) (hl : t.2.1.length ≤ 9223372036854775807) (w : World) : Calls Try.prog 134 #[.agg #[Str t.2.1, .int .i64 t.2.2], .int .i64 n] w (RetB (.tuple #[.agg #[Str (nb t n).2.1, .int .i64 (nb t n).2.2], Str (nb t n).1]) w) :=
  (rbytes_any t.2.1 t.2.2 n hl w).mono fun e w' h => ⟨h.1, h.2⟩
theorem nx_le {t : Tk} (n : Int) {B : Nat} (h : t.2.1.length ≤ B) : (nx t n).2.1.length ≤ B := Nat.le_trans (tk_len _ _ _ _).2 h
theorem rstep_s (l : List UInt8) (hl : l.length ≤ 9223372036854775807) (w : World) : Calls Try.prog 96 #[.agg #[Str l, .int .i64 0]] w (StepR (oneC l).2.1 (oneC l).2.2 (oneC l).1.val w) := by
  have L1 : (h1 l).2.1.length ≤ 9223372036854775807 := nx_le (t := ([], l, 0)) 1 hl
  have L2 : (h2 l).2.1.length ≤ 9223372036854775807 := nx_le 1 L1
  have L3 : (h3 l).2.1.length ≤ 9223372036854775807 := nx_le 4 L2
  have b1 := nx_lt ([], l, 0) 1
  have b2 := nx_lt (h1 l) 1
  have b3 := nx_lt (h2 l) 4
  have N1 : ∀ w, Calls Try.prog 99 #[.agg #[Str l, .int .i64 0], .int .i64 1] w (RetB (.tuple #[.agg #[Str (h1 l).2.1, .int .i64 (h1 l).2.2], .int .u32 (unbe (h1 l).1)]) w) := fun w => rnum_q ([], l, 0) 1 hl w
  have N2 : ∀ w, Calls Try.prog 99 #[.agg #[Str (h1 l).2.1, .int .i64 (h1 l).2.2], .int .i64 1] w (RetB (.tuple #[.agg #[Str (h2 l).2.1, .int .i64 (h2 l).2.2], .int .u32 (unbe (h2 l).1)]) w) := fun w => rnum_q (h1 l) 1 L1 w
  have N3 : ∀ w, Calls Try.prog 99 #[.agg #[Str (h2 l).2.1, .int .i64 (h2 l).2.2], .int .i64 4] w (RetB (.tuple #[.agg #[Str (h3 l).2.1, .int .i64 (h3 l).2.2], .int .u32 (unbe (h3 l).1)]) w) := fun w => rnum_q (h2 l) 4 L2 w
  by_cases k1 : unbe (h1 l).1 = 1
  · rw [k1] at N1
    rw [oneC_1 k1]
    have g1 := nx_lt (h3 l) 1
    have g2 := nx_lt (c1 (h3 l)) 1
    have g3 := nx_lt (c2 (h3 l)) 2
    have g4 := nx_lt (c3 (h3 l)) 2
    have M1 : (c1 (h3 l)).2.1.length ≤ 9223372036854775807 := nx_le 1 L3
    have M2 : (c2 (h3 l)).2.1.length ≤ 9223372036854775807 := nx_le 1 M1
    have M3 : (c3 (h3 l)).2.1.length ≤ 9223372036854775807 := nx_le 2 M2
    have M4 : (c4 (h3 l)).2.1.length ≤ 9223372036854775807 := nx_le 2 M3
    exact step_1 l _ _ _ _ _ _ _ _ _ _ _ _ _ _ _ _ _ _ _ _ _ _ _ b2.1 b2.2 b3.1 b3.2 g1.1 g1.2 g2.1 g2.2 g3.1 g3.2 g4.1 g4.2 N1 N2 N3 (fun w => rnum_q (h3 l) 1 L3 w) (fun w => rnum_q (c1 (h3 l)) 1 M1 w) (fun w => rnum_q (c2 (h3 l)) 2 M2 w) (fun w => rnum_q (c3 (h3 l)) 2 M3 w) (fun w => rbytes_q (c4 (h3 l)) _ M4 w) w
  · by_cases k2 : unbe (h1 l).1 = 10
    · rw [k2] at N1
      rw [oneC_10 k2]
      have g1 := nx_lt (h3 l) 2
      have M1 : (r1 (h3 l)).2.1.length ≤ 9223372036854775807 := nx_le 2 L3
      exact step_10 l _ _ _ _ _ _ _ _ _ _ _ _ _ _ b2.1 b2.2 b3.1 b3.2 g1.1 g1.2 N1 N2 N3 (fun w => rnum_q (h3 l) 2 L3 w) (fun w => rbytes_q (r1 (h3 l)) _ M1 w) w
    · rw [oneC_o k1 k2]
      exact step_o l _ _ _ _ _ _ _ _ _ b1.1 b1.2 b2.1 b2.2 b3.1 b3.2 (show (unbe (h1 l).1 == 1) = false by simpa using k1) (show (unbe (h1 l).1 == 10) = false by simpa using k2) N1 N2 N3 w
end Go.Proofs.Ytdjjienklfbalaa
