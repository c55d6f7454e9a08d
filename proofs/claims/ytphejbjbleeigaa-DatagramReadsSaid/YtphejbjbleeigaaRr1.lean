/-
  Datagrams: the document's answer: what is behind the head: contract (chapter 10).
-/
import Derived.Test.YtphejbjbleeigaaRg3
import Derived.Test.YtphejbjbleeigaaDg12
import Derived.RegionTactic
import Derived.BigRegion
namespace Go.Proofs.Ytphejbjbleeigaa
open Go.RowKit
set_option linter.unusedVariables false
set_option maxRecDepth 100000
set_option maxHeartbeats 1000000
theorem upd2 {w : World} {b : Nat} {t : TypeId} {c0 c1 : Value} (k : Blk w b #[c0, c1] t) (v0 v1 : Value) : Blk ((w.setCell ⟨b, 0, none⟩ v0).setCell ⟨b, 1, none⟩ v1) b #[v0, v1] t := by
  have h := (k.set 0 v0).set 1 v1
  simpa using h
theorem oth1 {w : World} {b : Nat} {t : TypeId} {cs : Array Value} (k : Blk w b cs t) (g o : Nat) (v : Value) (hn : b ≠ g) : Blk (w.setCell ⟨g, o, none⟩ v) b cs t := k.setOther ⟨g, o, none⟩ v hn
theorem bel1 {W w : World} {B : Nat} (k : Below B W w) (g o : Nat) (v : Value) (hn : B ≤ g) : Below B W (w.setCell ⟨g, o, none⟩ v) := k.setCell (p := ⟨g, o, none⟩) hn v
theorem oth2 {w : World} {b g : Nat} {t : TypeId} {cs : Array Value} (k : Blk w b cs t) (v0 v1 : Value) (hn : b ≠ g) : Blk ((w.setCell ⟨g, 0, none⟩ v0).setCell ⟨g, 1, none⟩ v1) b cs t := oth1 (oth1 k g 0 v0 hn) g 1 v1 hn
theorem bel2 {W w : World} {g B : Nat} (k : Below B W w) (v0 v1 : Value) (hn : B ≤ g) : Below B W ((w.setCell ⟨g, 0, none⟩ v0).setCell ⟨g, 1, none⟩ v1) := bel1 (bel1 k g 0 v0 hn) g 1 v1 hn
abbrev set10 (W : World) (b : Nat) (v0 v1 v2 v3 v4 v5 v6 v7 v8 v9 : Value) : World := (((((((((W.setCell ⟨b, 0, none⟩ v0).setCell ⟨b, 1, none⟩ v1).setCell ⟨b, 2, none⟩ v2).setCell ⟨b, 3, none⟩ v3).setCell ⟨b, 4, none⟩ v4).setCell ⟨b, 5, none⟩ v5).setCell ⟨b, 6, none⟩ v6).setCell ⟨b, 7, none⟩ v7).setCell ⟨b, 8, none⟩ v8).setCell ⟨b, 9, none⟩ v9
theorem upd10 {w : World} {b : Nat} {t : TypeId} {c0 c1 c2 c3 c4 c5 c6 c7 c8 c9 : Value} (k : Blk w b #[c0, c1, c2, c3, c4, c5, c6, c7, c8, c9] t) (v0 v1 v2 v3 v4 v5 v6 v7 v8 v9 : Value) : Blk (set10 w b v0 v1 v2 v3 v4 v5 v6 v7 v8 v9) b #[v0, v1, v2, v3, v4, v5, v6, v7, v8, v9] t := by
  have h := (((((((((k.set 0 v0).set 1 v1).set 2 v2).set 3 v3).set 4 v4).set 5 v5).set 6 v6).set 7 v7).set 8 v8).set 9 v9
  simpa using h
theorem oth10 {w : World} {b g : Nat} {t : TypeId} {cs : Array Value} (k : Blk w b cs t) (v0 v1 v2 v3 v4 v5 v6 v7 v8 v9 : Value) (hn : b ≠ g) : Blk (set10 w g v0 v1 v2 v3 v4 v5 v6 v7 v8 v9) b cs t :=
  oth1 (oth1 (oth1 (oth1 (oth1 (oth1 (oth1 (oth1 (oth1 (oth1 k g 0 v0 hn) g 1 v1 hn) g 2 v2 hn) g 3 v3 hn) g 4 v4 hn) g 5 v5 hn) g 6 v6 hn) g 7 v7 hn) g 8 v8 hn) g 9 v9 hn
theorem bel10 {W w : World} {g B : Nat} (k : Below B W w) (v0 v1 v2 v3 v4 v5 v6 v7 v8 v9 : Value) (hn : B ≤ g) : Below B W (set10 w g v0 v1 v2 v3 v4 v5 v6 v7 v8 v9) :=
  bel1 (bel1 (bel1 (bel1 (bel1 (bel1 (bel1 (bel1 (bel1 (bel1 k g 0 v0 hn) g 1 v1 hn) g 2 v2 hn) g 3 v3 hn) g 4 v4 hn) g 5 v5 hn) g 6 v6 hn) g 7 v7 hn) g 8 v8 hn) g 9 v9 hn
def FldR (z : List UInt8) (q : Int) (a : Value) (w : World) (e : Ending) (w' : World) : Prop := e = .returned (.tuple #[.agg #[Str z, .int .i64 q], a]) ∧ Below w.heap.size w w'
theorem fld_fin {f : Func} {w W : World} {A : Act} {b2 b3 : Nat} {z : List UInt8} {q : Int} {c0 c1 d0 d1 d2 d3 d4 d5 d6 d7 d8 d9 v0 v1 v2 v3 v4 v5 v6 v7 v8 v9 : Value} (hr : f.results = #[ResultVar.cell 4 124, ResultVar.cell 5 24])
    (k2 : Blk W b2 #[c0, c1] 124) (k3 : Blk W b3 #[d0, d1, d2, d3, d4, d5, d6, d7, d8, d9] 24) (h2 : A.tmps[4]? = some (.pointer (some ⟨b2, 0, none⟩))) (h3 : A.tmps[5]? = some (.pointer (some ⟨b3, 0, none⟩))) (hd : A.defers = [])
    (hn : b2 ≠ b3) (hB : Below w.heap.size w W) (hb2 : w.heap.size ≤ b2) (hb3 : w.heap.size ≤ b3) :
    bodyPost Try.prog f (FldR z q (.agg #[v0, v1, v2, v3, v4, v5, v6, v7, v8, v9]) w) Exit.ret A (set10 ((W.setCell ⟨b2, 0, none⟩ (.string ⟨z.toArray⟩)).setCell ⟨b2, 1, none⟩ (.int .i64 q)) b3 v0 v1 v2 v3 v4 v5 v6 v7 v8 v9).drew := by
  have j2 := upd2 k2 (.string ⟨z.toArray⟩) (.int .i64 q)
  have j3 := oth2 k3 (g := b2) (.string ⟨z.toArray⟩) (.int .i64 q) hn.symm
  have hC := bel2 hB (g := b2) (.string ⟨z.toArray⟩) (.int .i64 q) hb2
  generalize ((W.setCell ⟨b2, 0, none⟩ (.string ⟨z.toArray⟩)).setCell ⟨b2, 1, none⟩ (.int .i64 q)) = V at *
  have i3 := (upd10 j3 v0 v1 v2 v3 v4 v5 v6 v7 v8 v9).drew
  have i2 := (oth10 (g := b3) j2 v0 v1 v2 v3 v4 v5 v6 v7 v8 v9 hn).drew
  have hD := (bel10 (g := b3) hC v0 v1 v2 v3 v4 v5 v6 v7 v8 v9 hb3).drew
  generalize (set10 V b3 v0 v1 v2 v3 v4 v5 v6 v7 v8 v9).drew = U at *
  have g3 := i3.facts.1
  have g2 := i2.facts.1
  refine bodyPost_ret (v := .tuple #[.agg #[Str z, .int .i64 q], .agg #[v0, v1, v2, v3, v4, v5, v6, v7, v8, v9]]) ?_ hd ⟨rfl, hD⟩
  simp [results, hr, go_sem, h2, h3, g2, g3]
theorem fld_o (l : List UInt8) (kind stream block : Int) (k1 : (kind == 1) = false) (k2 : (kind == 2) = false) (k3 : (kind == 3) = false) (k4 : (kind == 4) = false) (w : World) :
    Calls Try.prog 69 #[.agg #[Str l, .int .i64 0], .agg #[.int .i64 kind, .int .i64 stream, .int .u32 block, .int .i64 0, .int .i64 0, .int .i64 0, .int .i64 0, .int .i64 0, .string ⟨#[]⟩, .string ⟨#[]⟩]] w (FldR l 0 (.agg #[.int .i64 kind, .int .i64 stream, .int .u32 block, .int .i64 0, .int .i64 0, .int .i64 0, .int .i64 0, .int .i64 0, .string ⟨#[]⟩, .string ⟨#[]⟩]) w) := by
  have hB0 := Below.refl w.heap.size w
  have K1_1 := Blk.newAt (n := w.heap.size) (w := w) (cs := #[Str l, .int .i64 0]) (t := 124) (by simp)
  have hB2 := Below.chainAlloc hB0 (.cells #[Str l, .int .i64 0] 124)
  clear hB0
  have K1_3 := K1_1.alloc (.cells #[.int .i64 kind, .int .i64 stream, .int .u32 block, .int .i64 0, .int .i64 0, .int .i64 0, .int .i64 0, .int .i64 0, .string ⟨#[]⟩, .string ⟨#[]⟩] 24)
  have K2_4 := Blk.newAt (n := w.heap.size + 1) (w := (w.alloc (.cells #[Str l, .int .i64 0] 124))) (cs := #[.int .i64 kind, .int .i64 stream, .int .u32 block, .int .i64 0, .int .i64 0, .int .i64 0, .int .i64 0, .int .i64 0, .string ⟨#[]⟩, .string ⟨#[]⟩]) (t := 24) (by simp)
  have hB5 := Below.chainAlloc hB2 (.cells #[.int .i64 kind, .int .i64 stream, .int .u32 block, .int .i64 0, .int .i64 0, .int .i64 0, .int .i64 0, .int .i64 0, .string ⟨#[]⟩, .string ⟨#[]⟩] 24)
  clear K1_1 hB2
  have K1_6 := K1_3.alloc (.cells #[.string ⟨#[]⟩, .int .i64 0] 124)
  have K2_7 := K2_4.alloc (.cells #[.string ⟨#[]⟩, .int .i64 0] 124)
  have K3_8 := Blk.newAt (n := w.heap.size + 2) (w := ((w.alloc (.cells #[Str l, .int .i64 0] 124)).alloc (.cells #[.int .i64 kind, .int .i64 stream, .int .u32 block, .int .i64 0, .int .i64 0, .int .i64 0, .int .i64 0, .int .i64 0, .string ⟨#[]⟩, .string ⟨#[]⟩] 24))) (cs := #[.string ⟨#[]⟩, .int .i64 0]) (t := 124) (by simp)
  have hB9 := Below.chainAlloc hB5 (.cells #[.string ⟨#[]⟩, .int .i64 0] 124)
  clear K1_3 K2_4 hB5
  have K1_10 := K1_6.alloc (.cells #[.int .i64 0, .int .i64 0, .int .u32 0, .int .i64 0, .int .i64 0, .int .i64 0, .int .i64 0, .int .i64 0, .string ⟨#[]⟩, .string ⟨#[]⟩] 24)
  have K2_11 := K2_7.alloc (.cells #[.int .i64 0, .int .i64 0, .int .u32 0, .int .i64 0, .int .i64 0, .int .i64 0, .int .i64 0, .int .i64 0, .string ⟨#[]⟩, .string ⟨#[]⟩] 24)
  have K3_12 := K3_8.alloc (.cells #[.int .i64 0, .int .i64 0, .int .u32 0, .int .i64 0, .int .i64 0, .int .i64 0, .int .i64 0, .int .i64 0, .string ⟨#[]⟩, .string ⟨#[]⟩] 24)
  have K4_13 := Blk.newAt (n := w.heap.size + 3) (w := (((w.alloc (.cells #[Str l, .int .i64 0] 124)).alloc (.cells #[.int .i64 kind, .int .i64 stream, .int .u32 block, .int .i64 0, .int .i64 0, .int .i64 0, .int .i64 0, .int .i64 0, .string ⟨#[]⟩, .string ⟨#[]⟩] 24)).alloc (.cells #[.string ⟨#[]⟩, .int .i64 0] 124))) (cs := #[.int .i64 0, .int .i64 0, .int .u32 0, .int .i64 0, .int .i64 0, .int .i64 0, .int .i64 0, .int .i64 0, .string ⟨#[]⟩, .string ⟨#[]⟩]) (t := 24) (by simp)
  have hB14 := Below.chainAlloc hB9 (.cells #[.int .i64 0, .int .i64 0, .int .u32 0, .int .i64 0, .int .i64 0, .int .i64 0, .int .i64 0, .int .i64 0, .string ⟨#[]⟩, .string ⟨#[]⟩] 24)
  clear K1_6 K2_7 K3_8 hB9
  go_enter Try.func69, Try.ntmps69
  go_upto_region 25 with fail
  generalize ((((w.alloc (.cells #[Str l, .int .i64 0] 124)).alloc (.cells #[.int .i64 kind, .int .i64 stream, .int .u32 block, .int .i64 0, .int .i64 0, .int .i64 0, .int .i64 0, .int .i64 0, .string ⟨#[]⟩, .string ⟨#[]⟩] 24)).alloc (.cells #[.string ⟨#[]⟩, .int .i64 0] 124)).alloc (.cells #[.int .i64 0, .int .i64 0, .int .u32 0, .int .i64 0, .int .i64 0, .int .i64 0, .int .i64 0, .int .i64 0, .string ⟨#[]⟩, .string ⟨#[]⟩] 24)) = WW at *
  obtain ⟨ca0, fa0, la0⟩ := K1_10.facts
  obtain ⟨ca1, fa1, la1⟩ := K2_11.facts
  obtain ⟨ca2, fa2, la2⟩ := K3_12.facts
  obtain ⟨ca3, fa3, la3⟩ := K4_13.facts
  go_region
  clear ca0 fa0 la0 ca1 fa1 la1 ca2 fa2 la2 ca3 fa3 la3
  go_wp2_with fail
  exact fld_fin rfl K3_12 K4_13 rfl rfl rfl (by omega) hB14 (by omega) (by omega)
theorem fld_3 (l z1 hv : List UInt8) (q1 stream block : Int)
    (N1 : ∀ w, Calls Try.prog 109 #[.agg #[Str l, .int .i64 0], .int .i64 32] w (RetB (.tuple #[.agg #[Str z1, .int .i64 q1], Str hv]) w)) (w : World) :
    Calls Try.prog 69 #[.agg #[Str l, .int .i64 0], .agg #[.int .i64 3, .int .i64 stream, .int .u32 block, .int .i64 0, .int .i64 0, .int .i64 0, .int .i64 0, .int .i64 0, .string ⟨#[]⟩, .string ⟨#[]⟩]] w (FldR z1 q1 (.agg #[.int .i64 3, .int .i64 stream, .int .u32 block, .int .i64 0, .int .i64 0, .int .i64 0, .int .i64 0, .int .i64 0, Str hv, .string ⟨#[]⟩]) w) := by
  have H1 := Lib.hid N1
  clear N1
  have hB0 := Below.refl w.heap.size w
  have K1_1 := Blk.newAt (n := w.heap.size) (w := w) (cs := #[Str l, .int .i64 0]) (t := 124) (by simp)
  have hB2 := Below.chainAlloc hB0 (.cells #[Str l, .int .i64 0] 124)
  clear hB0
  have K1_3 := K1_1.alloc (.cells #[.int .i64 3, .int .i64 stream, .int .u32 block, .int .i64 0, .int .i64 0, .int .i64 0, .int .i64 0, .int .i64 0, .string ⟨#[]⟩, .string ⟨#[]⟩] 24)
  have K2_4 := Blk.newAt (n := w.heap.size + 1) (w := (w.alloc (.cells #[Str l, .int .i64 0] 124))) (cs := #[.int .i64 3, .int .i64 stream, .int .u32 block, .int .i64 0, .int .i64 0, .int .i64 0, .int .i64 0, .int .i64 0, .string ⟨#[]⟩, .string ⟨#[]⟩]) (t := 24) (by simp)
  have hB5 := Below.chainAlloc hB2 (.cells #[.int .i64 3, .int .i64 stream, .int .u32 block, .int .i64 0, .int .i64 0, .int .i64 0, .int .i64 0, .int .i64 0, .string ⟨#[]⟩, .string ⟨#[]⟩] 24)
  clear K1_1 hB2
  have K1_6 := K1_3.alloc (.cells #[.string ⟨#[]⟩, .int .i64 0] 124)
  have K2_7 := K2_4.alloc (.cells #[.string ⟨#[]⟩, .int .i64 0] 124)
  have K3_8 := Blk.newAt (n := w.heap.size + 2) (w := ((w.alloc (.cells #[Str l, .int .i64 0] 124)).alloc (.cells #[.int .i64 3, .int .i64 stream, .int .u32 block, .int .i64 0, .int .i64 0, .int .i64 0, .int .i64 0, .int .i64 0, .string ⟨#[]⟩, .string ⟨#[]⟩] 24))) (cs := #[.string ⟨#[]⟩, .int .i64 0]) (t := 124) (by simp)
  have hB9 := Below.chainAlloc hB5 (.cells #[.string ⟨#[]⟩, .int .i64 0] 124)
  clear K1_3 K2_4 hB5
  have K1_10 := K1_6.alloc (.cells #[.int .i64 0, .int .i64 0, .int .u32 0, .int .i64 0, .int .i64 0, .int .i64 0, .int .i64 0, .int .i64 0, .string ⟨#[]⟩, .string ⟨#[]⟩] 24)
  have K2_11 := K2_7.alloc (.cells #[.int .i64 0, .int .i64 0, .int .u32 0, .int .i64 0, .int .i64 0, .int .i64 0, .int .i64 0, .int .i64 0, .string ⟨#[]⟩, .string ⟨#[]⟩] 24)
  have K3_12 := K3_8.alloc (.cells #[.int .i64 0, .int .i64 0, .int .u32 0, .int .i64 0, .int .i64 0, .int .i64 0, .int .i64 0, .int .i64 0, .string ⟨#[]⟩, .string ⟨#[]⟩] 24)
  have K4_13 := Blk.newAt (n := w.heap.size + 3) (w := (((w.alloc (.cells #[Str l, .int .i64 0] 124)).alloc (.cells #[.int .i64 3, .int .i64 stream, .int .u32 block, .int .i64 0, .int .i64 0, .int .i64 0, .int .i64 0, .int .i64 0, .string ⟨#[]⟩, .string ⟨#[]⟩] 24)).alloc (.cells #[.string ⟨#[]⟩, .int .i64 0] 124))) (cs := #[.int .i64 0, .int .i64 0, .int .u32 0, .int .i64 0, .int .i64 0, .int .i64 0, .int .i64 0, .int .i64 0, .string ⟨#[]⟩, .string ⟨#[]⟩]) (t := 24) (by simp)
  have hB14 := Below.chainAlloc hB9 (.cells #[.int .i64 0, .int .i64 0, .int .u32 0, .int .i64 0, .int .i64 0, .int .i64 0, .int .i64 0, .int .i64 0, .string ⟨#[]⟩, .string ⟨#[]⟩] 24)
  clear K1_6 K2_7 K3_8 hB9
  go_enter Try.func69, Try.ntmps69
  go_wp2_with fail
  refine (H1.out _).mono ?_
  rintro e w1 ⟨rfl, hb⟩
  have K1_15 := K1_10.below hb K1_10.lt
  have K2_16 := K2_11.below hb K2_11.lt
  have K3_17 := K3_12.below hb K3_12.lt
  have K4_18 := K4_13.below hb K4_13.lt
  have hB19 := Below.chain hb hB14
  clear hb H1 K1_10 K2_11 K3_12 K4_13 hB14
  have hk1 := K4_18.lt
  obtain ⟨ca0, fa0, la0⟩ := K2_16.facts
  go_upto_region 20 with fail
  clear ca0 fa0
  have K1_20 := (oth1 K1_15 (w.heap.size + 1) 8 (Str hv) (by omega))
  have K2_21 : Blk (w1.setCell ⟨w.heap.size + 1, 8, none⟩ (Str hv)) (w.heap.size + 1) #[.int .i64 3, .int .i64 stream, .int .u32 block, .int .i64 0, .int .i64 0, .int .i64 0, .int .i64 0, .int .i64 0, Str hv, .string ⟨#[]⟩] 24 := by have h := (K2_16.set 8 (Str hv)); simpa using h
  have K3_22 := (oth1 K3_17 (w.heap.size + 1) 8 (Str hv) (by omega))
  have K4_23 := (oth1 K4_18 (w.heap.size + 1) 8 (Str hv) (by omega))
  have hB24 := (bel1 hB19 (w.heap.size + 1) 8 (Str hv) (by omega))
  clear K1_15 K2_16 K3_17 K4_18 hB19
  have K1_25 := K1_20.alloc (.cells #[Str z1, .int .i64 q1] 124)
  have K2_26 := K2_21.alloc (.cells #[Str z1, .int .i64 q1] 124)
  have K3_27 := K3_22.alloc (.cells #[Str z1, .int .i64 q1] 124)
  have K4_28 := K4_23.alloc (.cells #[Str z1, .int .i64 q1] 124)
  have K6_29 := Blk.newAt (n := w1.heap.size) (w := (w1.setCell ⟨w.heap.size + 1, 8, none⟩ (Str hv))) (cs := #[Str z1, .int .i64 q1]) (t := 124) (by simp)
  have hB30 := Below.chainAlloc hB24 (.cells #[Str z1, .int .i64 q1] 124)
  clear K1_20 K2_21 K3_22 K4_23 hB24
  generalize ((w1.setCell ⟨w.heap.size + 1, 8, none⟩ (Str hv)).alloc (.cells #[Str z1, .int .i64 q1] 124)) = WW at *
  obtain ⟨ca0, fa0, la0⟩ := K6_29.facts
  obtain ⟨ca1, fa1, la1⟩ := K2_26.facts
  obtain ⟨ca2, fa2, la2⟩ := K3_27.facts
  obtain ⟨ca3, fa3, la3⟩ := K4_28.facts
  have hx1 : ¬ w1.heap.size = w.heap.size + 1 := by omega
  have hy1 : ¬ w.heap.size + 1 = w1.heap.size := by omega
  have hx2 : ¬ w1.heap.size = w.heap.size + 2 := by omega
  have hy2 : ¬ w.heap.size + 2 = w1.heap.size := by omega
  have hx3 : ¬ w1.heap.size = w.heap.size + 3 := by omega
  have hy3 : ¬ w.heap.size + 3 = w1.heap.size := by omega
  have hx4 : ¬ w1.heap.size = w.heap.size + 2 + 1 := by omega
  have hy4 : ¬ w.heap.size + 2 + 1 = w1.heap.size := by omega
  have hx5 : ¬ w1.heap.size = w.heap.size + 1 + 1 := by omega
  have hy5 : ¬ w.heap.size + 1 + 1 = w1.heap.size := by omega
  have hx6 : ¬ w1.heap.size = w.heap.size + 1 + 1 + 1 := by omega
  have hy6 : ¬ w.heap.size + 1 + 1 + 1 = w1.heap.size := by omega
  go_region
  clear ca0 fa0 la0 ca1 fa1 la1 ca2 fa2 la2 ca3 fa3 la3
  go_wp2_with fail
  exact fld_fin rfl K3_27 K4_28 rfl rfl rfl (by omega) hB30 (by omega) (by omega)
theorem fld_4 (l z1 : List UInt8) (q1 m1 stream block : Int) (m1a : 0 ≤ m1) (m1b : m1 < 4294967296)
    (N1 : ∀ w, Calls Try.prog 68 #[.agg #[Str l, .int .i64 0], .int .i64 2] w (RetB (.tuple #[.agg #[Str z1, .int .i64 q1], .int .u32 m1]) w)) (w : World) :
    Calls Try.prog 69 #[.agg #[Str l, .int .i64 0], .agg #[.int .i64 4, .int .i64 stream, .int .u32 block, .int .i64 0, .int .i64 0, .int .i64 0, .int .i64 0, .int .i64 0, .string ⟨#[]⟩, .string ⟨#[]⟩]] w (FldR z1 q1 (.agg #[.int .i64 4, .int .i64 stream, .int .u32 block, .int .i64 0, .int .i64 0, .int .i64 0, .int .i64 0, .int .i64 m1, .string ⟨#[]⟩, .string ⟨#[]⟩]) w) := by
  have m1w : IntKind.i64.wrap m1 = m1 := by rw [IntWalk.i64_in _ (by omega)]
  have H1 := Lib.hid N1
  clear N1
  have hB0 := Below.refl w.heap.size w
  have K1_1 := Blk.newAt (n := w.heap.size) (w := w) (cs := #[Str l, .int .i64 0]) (t := 124) (by simp)
  have hB2 := Below.chainAlloc hB0 (.cells #[Str l, .int .i64 0] 124)
  clear hB0
  have K1_3 := K1_1.alloc (.cells #[.int .i64 4, .int .i64 stream, .int .u32 block, .int .i64 0, .int .i64 0, .int .i64 0, .int .i64 0, .int .i64 0, .string ⟨#[]⟩, .string ⟨#[]⟩] 24)
  have K2_4 := Blk.newAt (n := w.heap.size + 1) (w := (w.alloc (.cells #[Str l, .int .i64 0] 124))) (cs := #[.int .i64 4, .int .i64 stream, .int .u32 block, .int .i64 0, .int .i64 0, .int .i64 0, .int .i64 0, .int .i64 0, .string ⟨#[]⟩, .string ⟨#[]⟩]) (t := 24) (by simp)
  have hB5 := Below.chainAlloc hB2 (.cells #[.int .i64 4, .int .i64 stream, .int .u32 block, .int .i64 0, .int .i64 0, .int .i64 0, .int .i64 0, .int .i64 0, .string ⟨#[]⟩, .string ⟨#[]⟩] 24)
  clear K1_1 hB2
  have K1_6 := K1_3.alloc (.cells #[.string ⟨#[]⟩, .int .i64 0] 124)
  have K2_7 := K2_4.alloc (.cells #[.string ⟨#[]⟩, .int .i64 0] 124)
  have K3_8 := Blk.newAt (n := w.heap.size + 2) (w := ((w.alloc (.cells #[Str l, .int .i64 0] 124)).alloc (.cells #[.int .i64 4, .int .i64 stream, .int .u32 block, .int .i64 0, .int .i64 0, .int .i64 0, .int .i64 0, .int .i64 0, .string ⟨#[]⟩, .string ⟨#[]⟩] 24))) (cs := #[.string ⟨#[]⟩, .int .i64 0]) (t := 124) (by simp)
  have hB9 := Below.chainAlloc hB5 (.cells #[.string ⟨#[]⟩, .int .i64 0] 124)
  clear K1_3 K2_4 hB5
  have K1_10 := K1_6.alloc (.cells #[.int .i64 0, .int .i64 0, .int .u32 0, .int .i64 0, .int .i64 0, .int .i64 0, .int .i64 0, .int .i64 0, .string ⟨#[]⟩, .string ⟨#[]⟩] 24)
  have K2_11 := K2_7.alloc (.cells #[.int .i64 0, .int .i64 0, .int .u32 0, .int .i64 0, .int .i64 0, .int .i64 0, .int .i64 0, .int .i64 0, .string ⟨#[]⟩, .string ⟨#[]⟩] 24)
  have K3_12 := K3_8.alloc (.cells #[.int .i64 0, .int .i64 0, .int .u32 0, .int .i64 0, .int .i64 0, .int .i64 0, .int .i64 0, .int .i64 0, .string ⟨#[]⟩, .string ⟨#[]⟩] 24)
  have K4_13 := Blk.newAt (n := w.heap.size + 3) (w := (((w.alloc (.cells #[Str l, .int .i64 0] 124)).alloc (.cells #[.int .i64 4, .int .i64 stream, .int .u32 block, .int .i64 0, .int .i64 0, .int .i64 0, .int .i64 0, .int .i64 0, .string ⟨#[]⟩, .string ⟨#[]⟩] 24)).alloc (.cells #[.string ⟨#[]⟩, .int .i64 0] 124))) (cs := #[.int .i64 0, .int .i64 0, .int .u32 0, .int .i64 0, .int .i64 0, .int .i64 0, .int .i64 0, .int .i64 0, .string ⟨#[]⟩, .string ⟨#[]⟩]) (t := 24) (by simp)
  have hB14 := Below.chainAlloc hB9 (.cells #[.int .i64 0, .int .i64 0, .int .u32 0, .int .i64 0, .int .i64 0, .int .i64 0, .int .i64 0, .int .i64 0, .string ⟨#[]⟩, .string ⟨#[]⟩] 24)
  clear K1_6 K2_7 K3_8 hB9
  go_enter Try.func69, Try.ntmps69
  go_wp2_with fail
  refine (H1.out _).mono ?_
  rintro e w1 ⟨rfl, hb⟩
  have K1_15 := K1_10.below hb K1_10.lt
  have K2_16 := K2_11.below hb K2_11.lt
  have K3_17 := K3_12.below hb K3_12.lt
  have K4_18 := K4_13.below hb K4_13.lt
  have hB19 := Below.chain hb hB14
  clear hb H1 K1_10 K2_11 K3_12 K4_13 hB14
  have hk1 := K4_18.lt
  obtain ⟨ca0, fa0, la0⟩ := K2_16.facts
  go_upto_region 24 with fail
  clear ca0 fa0
  have K1_20 := (oth1 K1_15 (w.heap.size + 1) 7 (.int .i64 m1) (by omega))
  have K2_21 : Blk (w1.setCell ⟨w.heap.size + 1, 7, none⟩ (.int .i64 m1)) (w.heap.size + 1) #[.int .i64 4, .int .i64 stream, .int .u32 block, .int .i64 0, .int .i64 0, .int .i64 0, .int .i64 0, .int .i64 m1, .string ⟨#[]⟩, .string ⟨#[]⟩] 24 := by have h := (K2_16.set 7 (.int .i64 m1)); simpa using h
  have K3_22 := (oth1 K3_17 (w.heap.size + 1) 7 (.int .i64 m1) (by omega))
  have K4_23 := (oth1 K4_18 (w.heap.size + 1) 7 (.int .i64 m1) (by omega))
  have hB24 := (bel1 hB19 (w.heap.size + 1) 7 (.int .i64 m1) (by omega))
  clear K1_15 K2_16 K3_17 K4_18 hB19
  have K1_25 := K1_20.alloc (.cells #[Str z1, .int .i64 q1] 124)
  have K2_26 := K2_21.alloc (.cells #[Str z1, .int .i64 q1] 124)
  have K3_27 := K3_22.alloc (.cells #[Str z1, .int .i64 q1] 124)
  have K4_28 := K4_23.alloc (.cells #[Str z1, .int .i64 q1] 124)
  have K6_29 := Blk.newAt (n := w1.heap.size) (w := (w1.setCell ⟨w.heap.size + 1, 7, none⟩ (.int .i64 m1))) (cs := #[Str z1, .int .i64 q1]) (t := 124) (by simp)
  have hB30 := Below.chainAlloc hB24 (.cells #[Str z1, .int .i64 q1] 124)
  clear K1_20 K2_21 K3_22 K4_23 hB24
  generalize ((w1.setCell ⟨w.heap.size + 1, 7, none⟩ (.int .i64 m1)).alloc (.cells #[Str z1, .int .i64 q1] 124)) = WW at *
  obtain ⟨ca0, fa0, la0⟩ := K6_29.facts
  obtain ⟨ca1, fa1, la1⟩ := K2_26.facts
  obtain ⟨ca2, fa2, la2⟩ := K3_27.facts
  obtain ⟨ca3, fa3, la3⟩ := K4_28.facts
  have hx1 : ¬ w1.heap.size = w.heap.size + 1 := by omega
  have hy1 : ¬ w.heap.size + 1 = w1.heap.size := by omega
  have hx2 : ¬ w1.heap.size = w.heap.size + 2 := by omega
  have hy2 : ¬ w.heap.size + 2 = w1.heap.size := by omega
  have hx3 : ¬ w1.heap.size = w.heap.size + 3 := by omega
  have hy3 : ¬ w.heap.size + 3 = w1.heap.size := by omega
  have hx4 : ¬ w1.heap.size = w.heap.size + 2 + 1 := by omega
  have hy4 : ¬ w.heap.size + 2 + 1 = w1.heap.size := by omega
  have hx5 : ¬ w1.heap.size = w.heap.size + 1 + 1 := by omega
  have hy5 : ¬ w.heap.size + 1 + 1 = w1.heap.size := by omega
  have hx6 : ¬ w1.heap.size = w.heap.size + 1 + 1 + 1 := by omega
  have hy6 : ¬ w.heap.size + 1 + 1 + 1 = w1.heap.size := by omega
  go_region
  clear ca0 fa0 la0 ca1 fa1 la1 ca2 fa2 la2 ca3 fa3 la3
  go_wp2_with fail
  exact fld_fin rfl K3_27 K4_28 rfl rfl rfl (by omega) hB30 (by omega) (by omega)
theorem fld_1b (l z1 z2 z3 z4 z5 body : List UInt8) (q1 q2 q3 q4 q5 m1 m2 m3 m4 stream block : Int) (m1a : 0 ≤ m1) (m1b : m1 < 4294967296) (m2a : 0 ≤ m2) (m2b : m2 < 4294967296) (m3a : 0 ≤ m3) (m3b : m3 < 4294967296) (m4a : 0 ≤ m4) (m4b : m4 < 4294967296) (hq : (q4 != 0) = true)
    (N1 : ∀ w, Calls Try.prog 68 #[.agg #[Str l, .int .i64 0], .int .i64 1] w (RetB (.tuple #[.agg #[Str z1, .int .i64 q1], .int .u32 m1]) w))
    (N2 : ∀ w, Calls Try.prog 68 #[.agg #[Str z1, .int .i64 q1], .int .i64 1] w (RetB (.tuple #[.agg #[Str z2, .int .i64 q2], .int .u32 m2]) w))
    (N3 : ∀ w, Calls Try.prog 68 #[.agg #[Str z2, .int .i64 q2], .int .i64 1] w (RetB (.tuple #[.agg #[Str z3, .int .i64 q3], .int .u32 m3]) w))
    (N4 : ∀ w, Calls Try.prog 68 #[.agg #[Str z3, .int .i64 q3], .int .i64 2] w (RetB (.tuple #[.agg #[Str z4, .int .i64 q4], .int .u32 m4]) w)) (w : World) :
    Calls Try.prog 69 #[.agg #[Str l, .int .i64 0], .agg #[.int .i64 1, .int .i64 stream, .int .u32 block, .int .i64 0, .int .i64 0, .int .i64 0, .int .i64 0, .int .i64 0, .string ⟨#[]⟩, .string ⟨#[]⟩]] w (FldR z4 q4 (.agg #[.int .i64 1, .int .i64 stream, .int .u32 block, .int .i64 0, .int .i64 0, .int .i64 0, .int .i64 0, .int .i64 0, .string ⟨#[]⟩, .string ⟨#[]⟩]) w) := by
  have m1w : IntKind.i64.wrap m1 = m1 := by rw [IntWalk.i64_in _ (by omega)]
  have m2w : IntKind.i64.wrap m2 = m2 := by rw [IntWalk.i64_in _ (by omega)]
  have m3w : IntKind.i64.wrap m3 = m3 := by rw [IntWalk.i64_in _ (by omega)]
  have m4w : IntKind.i64.wrap m4 = m4 := by rw [IntWalk.i64_in _ (by omega)]
  have hm4 : IntKind.i64.wrap (m4 + 1) = m4 + 1 := by rw [IntWalk.i64_in _ (by omega)]
  have H1 := Lib.hid N1
  have H2 := Lib.hid N2
  have H3 := Lib.hid N3
  have H4 := Lib.hid N4
  clear N1 N2 N3 N4
  have hB0 := Below.refl w.heap.size w
  have K1_1 := Blk.newAt (n := w.heap.size) (w := w) (cs := #[Str l, .int .i64 0]) (t := 124) (by simp)
  have hB2 := Below.chainAlloc hB0 (.cells #[Str l, .int .i64 0] 124)
  clear hB0
  have K1_3 := K1_1.alloc (.cells #[.int .i64 1, .int .i64 stream, .int .u32 block, .int .i64 0, .int .i64 0, .int .i64 0, .int .i64 0, .int .i64 0, .string ⟨#[]⟩, .string ⟨#[]⟩] 24)
  have K2_4 := Blk.newAt (n := w.heap.size + 1) (w := (w.alloc (.cells #[Str l, .int .i64 0] 124))) (cs := #[.int .i64 1, .int .i64 stream, .int .u32 block, .int .i64 0, .int .i64 0, .int .i64 0, .int .i64 0, .int .i64 0, .string ⟨#[]⟩, .string ⟨#[]⟩]) (t := 24) (by simp)
  have hB5 := Below.chainAlloc hB2 (.cells #[.int .i64 1, .int .i64 stream, .int .u32 block, .int .i64 0, .int .i64 0, .int .i64 0, .int .i64 0, .int .i64 0, .string ⟨#[]⟩, .string ⟨#[]⟩] 24)
  clear K1_1 hB2
  have K1_6 := K1_3.alloc (.cells #[.string ⟨#[]⟩, .int .i64 0] 124)
  have K2_7 := K2_4.alloc (.cells #[.string ⟨#[]⟩, .int .i64 0] 124)
  have K3_8 := Blk.newAt (n := w.heap.size + 2) (w := ((w.alloc (.cells #[Str l, .int .i64 0] 124)).alloc (.cells #[.int .i64 1, .int .i64 stream, .int .u32 block, .int .i64 0, .int .i64 0, .int .i64 0, .int .i64 0, .int .i64 0, .string ⟨#[]⟩, .string ⟨#[]⟩] 24))) (cs := #[.string ⟨#[]⟩, .int .i64 0]) (t := 124) (by simp)
  have hB9 := Below.chainAlloc hB5 (.cells #[.string ⟨#[]⟩, .int .i64 0] 124)
  clear K1_3 K2_4 hB5
  have K1_10 := K1_6.alloc (.cells #[.int .i64 0, .int .i64 0, .int .u32 0, .int .i64 0, .int .i64 0, .int .i64 0, .int .i64 0, .int .i64 0, .string ⟨#[]⟩, .string ⟨#[]⟩] 24)
  have K2_11 := K2_7.alloc (.cells #[.int .i64 0, .int .i64 0, .int .u32 0, .int .i64 0, .int .i64 0, .int .i64 0, .int .i64 0, .int .i64 0, .string ⟨#[]⟩, .string ⟨#[]⟩] 24)
  have K3_12 := K3_8.alloc (.cells #[.int .i64 0, .int .i64 0, .int .u32 0, .int .i64 0, .int .i64 0, .int .i64 0, .int .i64 0, .int .i64 0, .string ⟨#[]⟩, .string ⟨#[]⟩] 24)
  have K4_13 := Blk.newAt (n := w.heap.size + 3) (w := (((w.alloc (.cells #[Str l, .int .i64 0] 124)).alloc (.cells #[.int .i64 1, .int .i64 stream, .int .u32 block, .int .i64 0, .int .i64 0, .int .i64 0, .int .i64 0, .int .i64 0, .string ⟨#[]⟩, .string ⟨#[]⟩] 24)).alloc (.cells #[.string ⟨#[]⟩, .int .i64 0] 124))) (cs := #[.int .i64 0, .int .i64 0, .int .u32 0, .int .i64 0, .int .i64 0, .int .i64 0, .int .i64 0, .int .i64 0, .string ⟨#[]⟩, .string ⟨#[]⟩]) (t := 24) (by simp)
  have hB14 := Below.chainAlloc hB9 (.cells #[.int .i64 0, .int .i64 0, .int .u32 0, .int .i64 0, .int .i64 0, .int .i64 0, .int .i64 0, .int .i64 0, .string ⟨#[]⟩, .string ⟨#[]⟩] 24)
  clear K1_6 K2_7 K3_8 hB9
  go_enter Try.func69, Try.ntmps69
  go_wp2_with fail
  refine (H1.out _).mono ?_
  rintro e w1 ⟨rfl, hb⟩
  have K1_15 := K1_10.below hb K1_10.lt
  have K2_16 := K2_11.below hb K2_11.lt
  have K3_17 := K3_12.below hb K3_12.lt
  have K4_18 := K4_13.below hb K4_13.lt
  have hB19 := Below.chain hb hB14
  clear hb H1 K1_10 K2_11 K3_12 K4_13 hB14
  have hk1 := K4_18.lt
  go_wp2_with fail
  have K1_20 := K1_15.alloc (.cells #[Str z1, .int .i64 q1] 124)
  have K2_21 := K2_16.alloc (.cells #[Str z1, .int .i64 q1] 124)
  have K3_22 := K3_17.alloc (.cells #[Str z1, .int .i64 q1] 124)
  have K4_23 := K4_18.alloc (.cells #[Str z1, .int .i64 q1] 124)
  have K6_24 := Blk.newAt (n := w1.heap.size) (w := w1) (cs := #[Str z1, .int .i64 q1]) (t := 124) (by simp)
  have hB25 := Below.chainAlloc hB19 (.cells #[Str z1, .int .i64 q1] 124)
  clear K1_15 K2_16 K3_17 K4_18 hB19
  refine (H2.out _).mono ?_
  rintro e w2 ⟨rfl, hb⟩
  have K1_26 := K1_20.below hb K1_20.lt
  have K2_27 := K2_21.below hb K2_21.lt
  have K3_28 := K3_22.below hb K3_22.lt
  have K4_29 := K4_23.below hb K4_23.lt
  have K6_30 := K6_24.below hb K6_24.lt
  have hB31 := Below.chain hb hB25
  clear hb H2 K1_20 K2_21 K3_22 K4_23 K6_24 hB25
  obtain ⟨ca0, fa0, la0⟩ := K6_30.facts
  go_wp2_with fail
  clear ca0 fa0
  have K1_32 := oth2 K1_26 (g := w1.heap.size) (Str z2) (.int .i64 q2) (by omega)
  have K2_33 := oth2 K2_27 (g := w1.heap.size) (Str z2) (.int .i64 q2) (by omega)
  have K3_34 := oth2 K3_28 (g := w1.heap.size) (Str z2) (.int .i64 q2) (by omega)
  have K4_35 := oth2 K4_29 (g := w1.heap.size) (Str z2) (.int .i64 q2) (by omega)
  have K6_36 := upd2 K6_30 (Str z2) (.int .i64 q2)
  have hB37 := bel2 hB31 (g := w1.heap.size) (Str z2) (.int .i64 q2) (by omega)
  clear K1_26 K2_27 K3_28 K4_29 K6_30 hB31
  refine (H3.out _).mono ?_
  rintro e w3 ⟨rfl, hb⟩
  have K1_38 := K1_32.below hb K1_32.lt
  have K2_39 := K2_33.below hb K2_33.lt
  have K3_40 := K3_34.below hb K3_34.lt
  have K4_41 := K4_35.below hb K4_35.lt
  have K6_42 := K6_36.below hb K6_36.lt
  have hB43 := Below.chain hb hB37
  clear hb H3 K1_32 K2_33 K3_34 K4_35 K6_36 hB37
  obtain ⟨ca0, fa0, la0⟩ := K6_42.facts
  go_wp2_with fail
  clear ca0 fa0
  have K1_44 := oth2 K1_38 (g := w1.heap.size) (Str z3) (.int .i64 q3) (by omega)
  have K2_45 := oth2 K2_39 (g := w1.heap.size) (Str z3) (.int .i64 q3) (by omega)
  have K3_46 := oth2 K3_40 (g := w1.heap.size) (Str z3) (.int .i64 q3) (by omega)
  have K4_47 := oth2 K4_41 (g := w1.heap.size) (Str z3) (.int .i64 q3) (by omega)
  have K6_48 := upd2 K6_42 (Str z3) (.int .i64 q3)
  have hB49 := bel2 hB43 (g := w1.heap.size) (Str z3) (.int .i64 q3) (by omega)
  clear K1_38 K2_39 K3_40 K4_41 K6_42 hB43
  refine (H4.out _).mono ?_
  rintro e w4 ⟨rfl, hb⟩
  have K1_50 := K1_44.below hb K1_44.lt
  have K2_51 := K2_45.below hb K2_45.lt
  have K3_52 := K3_46.below hb K3_46.lt
  have K4_53 := K4_47.below hb K4_47.lt
  have K6_54 := K6_48.below hb K6_48.lt
  have hB55 := Below.chain hb hB49
  clear hb H4 K1_44 K2_45 K3_46 K4_47 K6_48 hB49
  obtain ⟨ca0, fa0, la0⟩ := K6_54.facts
  obtain ⟨ca1, fa1, la1⟩ := K2_51.facts
  go_upto_region 9 with fail
  clear ca0 fa0 ca1 fa1
  have K1_56 := oth2 K1_50 (g := w1.heap.size) (Str z4) (.int .i64 q4) (by omega)
  have K2_57 := oth2 K2_51 (g := w1.heap.size) (Str z4) (.int .i64 q4) (by omega)
  have K3_58 := oth2 K3_52 (g := w1.heap.size) (Str z4) (.int .i64 q4) (by omega)
  have K4_59 := oth2 K4_53 (g := w1.heap.size) (Str z4) (.int .i64 q4) (by omega)
  have K6_60 := upd2 K6_54 (Str z4) (.int .i64 q4)
  have hB61 := bel2 hB55 (g := w1.heap.size) (Str z4) (.int .i64 q4) (by omega)
  clear K1_50 K2_51 K3_52 K4_53 K6_54 hB55
  generalize ((w4.setCell ⟨w1.heap.size, 0, none⟩ (Str z4)).setCell ⟨w1.heap.size, 1, none⟩ (.int .i64 q4)) = WW at *
  obtain ⟨ca0, fa0, la0⟩ := K6_60.facts
  obtain ⟨ca1, fa1, la1⟩ := K2_57.facts
  obtain ⟨ca2, fa2, la2⟩ := K3_58.facts
  obtain ⟨ca3, fa3, la3⟩ := K4_59.facts
  have hx1 : ¬ w1.heap.size = w.heap.size + 1 := by omega
  have hy1 : ¬ w.heap.size + 1 = w1.heap.size := by omega
  have hx2 : ¬ w1.heap.size = w.heap.size + 2 := by omega
  have hy2 : ¬ w.heap.size + 2 = w1.heap.size := by omega
  have hx3 : ¬ w1.heap.size = w.heap.size + 3 := by omega
  have hy3 : ¬ w.heap.size + 3 = w1.heap.size := by omega
  have hx4 : ¬ w1.heap.size = w.heap.size + 2 + 1 := by omega
  have hy4 : ¬ w.heap.size + 2 + 1 = w1.heap.size := by omega
  have hx5 : ¬ w1.heap.size = w.heap.size + 1 + 1 := by omega
  have hy5 : ¬ w.heap.size + 1 + 1 = w1.heap.size := by omega
  have hx6 : ¬ w1.heap.size = w.heap.size + 1 + 1 + 1 := by omega
  have hy6 : ¬ w.heap.size + 1 + 1 + 1 = w1.heap.size := by omega
  go_region
  clear ca0 fa0 la0 ca1 fa1 la1 ca2 fa2 la2 ca3 fa3 la3
  go_wp2_with fail
  exact fld_fin rfl K3_58 K4_59 rfl rfl rfl (by omega) hB61 (by omega) (by omega)
theorem fld_1 (l z1 z2 z3 z4 z5 body : List UInt8) (q1 q2 q3 q4 q5 m1 m2 m3 m4 stream block : Int) (m1a : 0 ≤ m1) (m1b : m1 < 4294967296) (m2a : 0 ≤ m2) (m2b : m2 < 4294967296) (m3a : 0 ≤ m3) (m3b : m3 < 4294967296) (m4a : 0 ≤ m4) (m4b : m4 < 4294967296)
    (N1 : ∀ w, Calls Try.prog 68 #[.agg #[Str l, .int .i64 0], .int .i64 1] w (RetB (.tuple #[.agg #[Str z1, .int .i64 q1], .int .u32 m1]) w))
    (N2 : ∀ w, Calls Try.prog 68 #[.agg #[Str z1, .int .i64 q1], .int .i64 1] w (RetB (.tuple #[.agg #[Str z2, .int .i64 q2], .int .u32 m2]) w))
    (N3 : ∀ w, Calls Try.prog 68 #[.agg #[Str z2, .int .i64 q2], .int .i64 1] w (RetB (.tuple #[.agg #[Str z3, .int .i64 q3], .int .u32 m3]) w))
    (N4 : ∀ w, Calls Try.prog 68 #[.agg #[Str z3, .int .i64 q3], .int .i64 2] w (RetB (.tuple #[.agg #[Str z4, .int .i64 0], .int .u32 m4]) w))
    (N5 : ∀ w, Calls Try.prog 109 #[.agg #[Str z4, .int .i64 0], .int .i64 (z4.length : Int)] w (RetB (.tuple #[.agg #[Str z5, .int .i64 q5], Str body]) w)) (w : World) :
    Calls Try.prog 69 #[.agg #[Str l, .int .i64 0], .agg #[.int .i64 1, .int .i64 stream, .int .u32 block, .int .i64 0, .int .i64 0, .int .i64 0, .int .i64 0, .int .i64 0, .string ⟨#[]⟩, .string ⟨#[]⟩]] w (FldR z5 q5 (.agg #[.int .i64 1, .int .i64 stream, .int .u32 block, .int .i64 m1, .int .i64 m2, .int .i64 m3, .int .i64 (m4 + 1), .int .i64 0, .string ⟨#[]⟩, Str body]) w) := by
  have m1w : IntKind.i64.wrap m1 = m1 := by rw [IntWalk.i64_in _ (by omega)]
  have m2w : IntKind.i64.wrap m2 = m2 := by rw [IntWalk.i64_in _ (by omega)]
  have m3w : IntKind.i64.wrap m3 = m3 := by rw [IntWalk.i64_in _ (by omega)]
  have m4w : IntKind.i64.wrap m4 = m4 := by rw [IntWalk.i64_in _ (by omega)]
  have hm4 : IntKind.i64.wrap (m4 + 1) = m4 + 1 := by rw [IntWalk.i64_in _ (by omega)]
  have H1 := Lib.hid N1
  have H2 := Lib.hid N2
  have H3 := Lib.hid N3
  have H4 := Lib.hid N4
  have H5 := Lib.hid N5
  clear N1 N2 N3 N4 N5
  have hB0 := Below.refl w.heap.size w
  have K1_1 := Blk.newAt (n := w.heap.size) (w := w) (cs := #[Str l, .int .i64 0]) (t := 124) (by simp)
  have hB2 := Below.chainAlloc hB0 (.cells #[Str l, .int .i64 0] 124)
  clear hB0
  have K1_3 := K1_1.alloc (.cells #[.int .i64 1, .int .i64 stream, .int .u32 block, .int .i64 0, .int .i64 0, .int .i64 0, .int .i64 0, .int .i64 0, .string ⟨#[]⟩, .string ⟨#[]⟩] 24)
  have K2_4 := Blk.newAt (n := w.heap.size + 1) (w := (w.alloc (.cells #[Str l, .int .i64 0] 124))) (cs := #[.int .i64 1, .int .i64 stream, .int .u32 block, .int .i64 0, .int .i64 0, .int .i64 0, .int .i64 0, .int .i64 0, .string ⟨#[]⟩, .string ⟨#[]⟩]) (t := 24) (by simp)
  have hB5 := Below.chainAlloc hB2 (.cells #[.int .i64 1, .int .i64 stream, .int .u32 block, .int .i64 0, .int .i64 0, .int .i64 0, .int .i64 0, .int .i64 0, .string ⟨#[]⟩, .string ⟨#[]⟩] 24)
  clear K1_1 hB2
  have K1_6 := K1_3.alloc (.cells #[.string ⟨#[]⟩, .int .i64 0] 124)
  have K2_7 := K2_4.alloc (.cells #[.string ⟨#[]⟩, .int .i64 0] 124)
  have K3_8 := Blk.newAt (n := w.heap.size + 2) (w := ((w.alloc (.cells #[Str l, .int .i64 0] 124)).alloc (.cells #[.int .i64 1, .int .i64 stream, .int .u32 block, .int .i64 0, .int .i64 0, .int .i64 0, .int .i64 0, .int .i64 0, .string ⟨#[]⟩, .string ⟨#[]⟩] 24))) (cs := #[.string ⟨#[]⟩, .int .i64 0]) (t := 124) (by simp)
  have hB9 := Below.chainAlloc hB5 (.cells #[.string ⟨#[]⟩, .int .i64 0] 124)
  clear K1_3 K2_4 hB5
  have K1_10 := K1_6.alloc (.cells #[.int .i64 0, .int .i64 0, .int .u32 0, .int .i64 0, .int .i64 0, .int .i64 0, .int .i64 0, .int .i64 0, .string ⟨#[]⟩, .string ⟨#[]⟩] 24)
  have K2_11 := K2_7.alloc (.cells #[.int .i64 0, .int .i64 0, .int .u32 0, .int .i64 0, .int .i64 0, .int .i64 0, .int .i64 0, .int .i64 0, .string ⟨#[]⟩, .string ⟨#[]⟩] 24)
  have K3_12 := K3_8.alloc (.cells #[.int .i64 0, .int .i64 0, .int .u32 0, .int .i64 0, .int .i64 0, .int .i64 0, .int .i64 0, .int .i64 0, .string ⟨#[]⟩, .string ⟨#[]⟩] 24)
  have K4_13 := Blk.newAt (n := w.heap.size + 3) (w := (((w.alloc (.cells #[Str l, .int .i64 0] 124)).alloc (.cells #[.int .i64 1, .int .i64 stream, .int .u32 block, .int .i64 0, .int .i64 0, .int .i64 0, .int .i64 0, .int .i64 0, .string ⟨#[]⟩, .string ⟨#[]⟩] 24)).alloc (.cells #[.string ⟨#[]⟩, .int .i64 0] 124))) (cs := #[.int .i64 0, .int .i64 0, .int .u32 0, .int .i64 0, .int .i64 0, .int .i64 0, .int .i64 0, .int .i64 0, .string ⟨#[]⟩, .string ⟨#[]⟩]) (t := 24) (by simp)
  have hB14 := Below.chainAlloc hB9 (.cells #[.int .i64 0, .int .i64 0, .int .u32 0, .int .i64 0, .int .i64 0, .int .i64 0, .int .i64 0, .int .i64 0, .string ⟨#[]⟩, .string ⟨#[]⟩] 24)
  clear K1_6 K2_7 K3_8 hB9
  go_enter Try.func69, Try.ntmps69
  go_wp2_with fail
  refine (H1.out _).mono ?_
  rintro e w1 ⟨rfl, hb⟩
  have K1_15 := K1_10.below hb K1_10.lt
  have K2_16 := K2_11.below hb K2_11.lt
  have K3_17 := K3_12.below hb K3_12.lt
  have K4_18 := K4_13.below hb K4_13.lt
  have hB19 := Below.chain hb hB14
  clear hb H1 K1_10 K2_11 K3_12 K4_13 hB14
  have hk1 := K4_18.lt
  go_wp2_with fail
  have K1_20 := K1_15.alloc (.cells #[Str z1, .int .i64 q1] 124)
  have K2_21 := K2_16.alloc (.cells #[Str z1, .int .i64 q1] 124)
  have K3_22 := K3_17.alloc (.cells #[Str z1, .int .i64 q1] 124)
  have K4_23 := K4_18.alloc (.cells #[Str z1, .int .i64 q1] 124)
  have K6_24 := Blk.newAt (n := w1.heap.size) (w := w1) (cs := #[Str z1, .int .i64 q1]) (t := 124) (by simp)
  have hB25 := Below.chainAlloc hB19 (.cells #[Str z1, .int .i64 q1] 124)
  clear K1_15 K2_16 K3_17 K4_18 hB19
  refine (H2.out _).mono ?_
  rintro e w2 ⟨rfl, hb⟩
  have K1_26 := K1_20.below hb K1_20.lt
  have K2_27 := K2_21.below hb K2_21.lt
  have K3_28 := K3_22.below hb K3_22.lt
  have K4_29 := K4_23.below hb K4_23.lt
  have K6_30 := K6_24.below hb K6_24.lt
  have hB31 := Below.chain hb hB25
  clear hb H2 K1_20 K2_21 K3_22 K4_23 K6_24 hB25
  obtain ⟨ca0, fa0, la0⟩ := K6_30.facts
  go_wp2_with fail
  clear ca0 fa0
  have K1_32 := oth2 K1_26 (g := w1.heap.size) (Str z2) (.int .i64 q2) (by omega)
  have K2_33 := oth2 K2_27 (g := w1.heap.size) (Str z2) (.int .i64 q2) (by omega)
  have K3_34 := oth2 K3_28 (g := w1.heap.size) (Str z2) (.int .i64 q2) (by omega)
  have K4_35 := oth2 K4_29 (g := w1.heap.size) (Str z2) (.int .i64 q2) (by omega)
  have K6_36 := upd2 K6_30 (Str z2) (.int .i64 q2)
  have hB37 := bel2 hB31 (g := w1.heap.size) (Str z2) (.int .i64 q2) (by omega)
  clear K1_26 K2_27 K3_28 K4_29 K6_30 hB31
  refine (H3.out _).mono ?_
  rintro e w3 ⟨rfl, hb⟩
  have K1_38 := K1_32.below hb K1_32.lt
  have K2_39 := K2_33.below hb K2_33.lt
  have K3_40 := K3_34.below hb K3_34.lt
  have K4_41 := K4_35.below hb K4_35.lt
  have K6_42 := K6_36.below hb K6_36.lt
  have hB43 := Below.chain hb hB37
  clear hb H3 K1_32 K2_33 K3_34 K4_35 K6_36 hB37
  obtain ⟨ca0, fa0, la0⟩ := K6_42.facts
  go_wp2_with fail
  clear ca0 fa0
  have K1_44 := oth2 K1_38 (g := w1.heap.size) (Str z3) (.int .i64 q3) (by omega)
  have K2_45 := oth2 K2_39 (g := w1.heap.size) (Str z3) (.int .i64 q3) (by omega)
  have K3_46 := oth2 K3_40 (g := w1.heap.size) (Str z3) (.int .i64 q3) (by omega)
  have K4_47 := oth2 K4_41 (g := w1.heap.size) (Str z3) (.int .i64 q3) (by omega)
  have K6_48 := upd2 K6_42 (Str z3) (.int .i64 q3)
  have hB49 := bel2 hB43 (g := w1.heap.size) (Str z3) (.int .i64 q3) (by omega)
  clear K1_38 K2_39 K3_40 K4_41 K6_42 hB43
  refine (H4.out _).mono ?_
  rintro e w4 ⟨rfl, hb⟩
  have K1_50 := K1_44.below hb K1_44.lt
  have K2_51 := K2_45.below hb K2_45.lt
  have K3_52 := K3_46.below hb K3_46.lt
  have K4_53 := K4_47.below hb K4_47.lt
  have K6_54 := K6_48.below hb K6_48.lt
  have hB55 := Below.chain hb hB49
  clear hb H4 K1_44 K2_45 K3_46 K4_47 K6_48 hB49
  obtain ⟨ca0, fa0, la0⟩ := K6_54.facts
  obtain ⟨ca1, fa1, la1⟩ := K2_51.facts
  go_wp2_with fail
  clear ca0 fa0 ca1 fa1
  have K1_56 := oth2 K1_50 (g := w1.heap.size) (Str z4) (.int .i64 0) (by omega)
  have K2_57 := oth2 K2_51 (g := w1.heap.size) (Str z4) (.int .i64 0) (by omega)
  have K3_58 := oth2 K3_52 (g := w1.heap.size) (Str z4) (.int .i64 0) (by omega)
  have K4_59 := oth2 K4_53 (g := w1.heap.size) (Str z4) (.int .i64 0) (by omega)
  have K6_60 := upd2 K6_54 (Str z4) (.int .i64 0)
  have hB61 := bel2 hB55 (g := w1.heap.size) (Str z4) (.int .i64 0) (by omega)
  clear K1_50 K2_51 K3_52 K4_53 K6_54 hB55
  refine (H5.out _).mono ?_
  rintro e w5 ⟨rfl, hb⟩
  have K1_62 := K1_56.below hb K1_56.lt
  have K2_63 := K2_57.below hb K2_57.lt
  have K3_64 := K3_58.below hb K3_58.lt
  have K4_65 := K4_59.below hb K4_59.lt
  have K6_66 := K6_60.below hb K6_60.lt
  have hB67 := Below.chain hb hB61
  clear hb H5 K1_56 K2_57 K3_58 K4_59 K6_60 hB61
  obtain ⟨ca0, fa0, la0⟩ := K6_66.facts
  obtain ⟨ca1, fa1, la1⟩ := K2_63.facts
  go_upto_region 16 with fail
  clear ca0 fa0 ca1 fa1
  have K1_68 := oth2 K1_62 (g := w1.heap.size) (Str z5) (.int .i64 q5) (by omega)
  have K2_69 := oth2 K2_63 (g := w1.heap.size) (Str z5) (.int .i64 q5) (by omega)
  have K3_70 := oth2 K3_64 (g := w1.heap.size) (Str z5) (.int .i64 q5) (by omega)
  have K4_71 := oth2 K4_65 (g := w1.heap.size) (Str z5) (.int .i64 q5) (by omega)
  have K6_72 := upd2 K6_66 (Str z5) (.int .i64 q5)
  have hB73 := bel2 hB67 (g := w1.heap.size) (Str z5) (.int .i64 q5) (by omega)
  clear K1_62 K2_63 K3_64 K4_65 K6_66 hB67
  have K1_74 := (oth1 K1_68 (w.heap.size + 1) 3 (.int .i64 m1) (by omega))
  have K2_75 : Blk (((w5.setCell ⟨w1.heap.size, 0, none⟩ (Str z5)).setCell ⟨w1.heap.size, 1, none⟩ (.int .i64 q5)).setCell ⟨w.heap.size + 1, 3, none⟩ (.int .i64 m1)) (w.heap.size + 1) #[.int .i64 1, .int .i64 stream, .int .u32 block, .int .i64 m1, .int .i64 0, .int .i64 0, .int .i64 0, .int .i64 0, .string ⟨#[]⟩, .string ⟨#[]⟩] 24 := by have h := (K2_69.set 3 (.int .i64 m1)); simpa using h
  have K3_76 := (oth1 K3_70 (w.heap.size + 1) 3 (.int .i64 m1) (by omega))
  have K4_77 := (oth1 K4_71 (w.heap.size + 1) 3 (.int .i64 m1) (by omega))
  have K6_78 := (oth1 K6_72 (w.heap.size + 1) 3 (.int .i64 m1) (by omega))
  have hB79 := (bel1 hB73 (w.heap.size + 1) 3 (.int .i64 m1) (by omega))
  clear K1_68 K2_69 K3_70 K4_71 K6_72 hB73
  have K1_80 := (oth1 K1_74 (w.heap.size + 1) 4 (.int .i64 m2) (by omega))
  have K2_81 : Blk ((((w5.setCell ⟨w1.heap.size, 0, none⟩ (Str z5)).setCell ⟨w1.heap.size, 1, none⟩ (.int .i64 q5)).setCell ⟨w.heap.size + 1, 3, none⟩ (.int .i64 m1)).setCell ⟨w.heap.size + 1, 4, none⟩ (.int .i64 m2)) (w.heap.size + 1) #[.int .i64 1, .int .i64 stream, .int .u32 block, .int .i64 m1, .int .i64 m2, .int .i64 0, .int .i64 0, .int .i64 0, .string ⟨#[]⟩, .string ⟨#[]⟩] 24 := by have h := (K2_75.set 4 (.int .i64 m2)); simpa using h
  have K3_82 := (oth1 K3_76 (w.heap.size + 1) 4 (.int .i64 m2) (by omega))
  have K4_83 := (oth1 K4_77 (w.heap.size + 1) 4 (.int .i64 m2) (by omega))
  have K6_84 := (oth1 K6_78 (w.heap.size + 1) 4 (.int .i64 m2) (by omega))
  have hB85 := (bel1 hB79 (w.heap.size + 1) 4 (.int .i64 m2) (by omega))
  clear K1_74 K2_75 K3_76 K4_77 K6_78 hB79
  have K1_86 := (oth1 K1_80 (w.heap.size + 1) 5 (.int .i64 m3) (by omega))
  have K2_87 : Blk (((((w5.setCell ⟨w1.heap.size, 0, none⟩ (Str z5)).setCell ⟨w1.heap.size, 1, none⟩ (.int .i64 q5)).setCell ⟨w.heap.size + 1, 3, none⟩ (.int .i64 m1)).setCell ⟨w.heap.size + 1, 4, none⟩ (.int .i64 m2)).setCell ⟨w.heap.size + 1, 5, none⟩ (.int .i64 m3)) (w.heap.size + 1) #[.int .i64 1, .int .i64 stream, .int .u32 block, .int .i64 m1, .int .i64 m2, .int .i64 m3, .int .i64 0, .int .i64 0, .string ⟨#[]⟩, .string ⟨#[]⟩] 24 := by have h := (K2_81.set 5 (.int .i64 m3)); simpa using h
  have K3_88 := (oth1 K3_82 (w.heap.size + 1) 5 (.int .i64 m3) (by omega))
  have K4_89 := (oth1 K4_83 (w.heap.size + 1) 5 (.int .i64 m3) (by omega))
  have K6_90 := (oth1 K6_84 (w.heap.size + 1) 5 (.int .i64 m3) (by omega))
  have hB91 := (bel1 hB85 (w.heap.size + 1) 5 (.int .i64 m3) (by omega))
  clear K1_80 K2_81 K3_82 K4_83 K6_84 hB85
  have K1_92 := (oth1 K1_86 (w.heap.size + 1) 6 (.int .i64 (m4 + 1)) (by omega))
  have K2_93 : Blk ((((((w5.setCell ⟨w1.heap.size, 0, none⟩ (Str z5)).setCell ⟨w1.heap.size, 1, none⟩ (.int .i64 q5)).setCell ⟨w.heap.size + 1, 3, none⟩ (.int .i64 m1)).setCell ⟨w.heap.size + 1, 4, none⟩ (.int .i64 m2)).setCell ⟨w.heap.size + 1, 5, none⟩ (.int .i64 m3)).setCell ⟨w.heap.size + 1, 6, none⟩ (.int .i64 (m4 + 1))) (w.heap.size + 1) #[.int .i64 1, .int .i64 stream, .int .u32 block, .int .i64 m1, .int .i64 m2, .int .i64 m3, .int .i64 (m4 + 1), .int .i64 0, .string ⟨#[]⟩, .string ⟨#[]⟩] 24 := by have h := (K2_87.set 6 (.int .i64 (m4 + 1))); simpa using h
  have K3_94 := (oth1 K3_88 (w.heap.size + 1) 6 (.int .i64 (m4 + 1)) (by omega))
  have K4_95 := (oth1 K4_89 (w.heap.size + 1) 6 (.int .i64 (m4 + 1)) (by omega))
  have K6_96 := (oth1 K6_90 (w.heap.size + 1) 6 (.int .i64 (m4 + 1)) (by omega))
  have hB97 := (bel1 hB91 (w.heap.size + 1) 6 (.int .i64 (m4 + 1)) (by omega))
  clear K1_86 K2_87 K3_88 K4_89 K6_90 hB91
  have K1_98 := (oth1 K1_92 (w.heap.size + 1) 9 (Str body) (by omega))
  have K2_99 : Blk (((((((w5.setCell ⟨w1.heap.size, 0, none⟩ (Str z5)).setCell ⟨w1.heap.size, 1, none⟩ (.int .i64 q5)).setCell ⟨w.heap.size + 1, 3, none⟩ (.int .i64 m1)).setCell ⟨w.heap.size + 1, 4, none⟩ (.int .i64 m2)).setCell ⟨w.heap.size + 1, 5, none⟩ (.int .i64 m3)).setCell ⟨w.heap.size + 1, 6, none⟩ (.int .i64 (m4 + 1))).setCell ⟨w.heap.size + 1, 9, none⟩ (Str body)) (w.heap.size + 1) #[.int .i64 1, .int .i64 stream, .int .u32 block, .int .i64 m1, .int .i64 m2, .int .i64 m3, .int .i64 (m4 + 1), .int .i64 0, .string ⟨#[]⟩, Str body] 24 := by have h := (K2_93.set 9 (Str body)); simpa using h
  have K3_100 := (oth1 K3_94 (w.heap.size + 1) 9 (Str body) (by omega))
  have K4_101 := (oth1 K4_95 (w.heap.size + 1) 9 (Str body) (by omega))
  have K6_102 := (oth1 K6_96 (w.heap.size + 1) 9 (Str body) (by omega))
  have hB103 := (bel1 hB97 (w.heap.size + 1) 9 (Str body) (by omega))
  clear K1_92 K2_93 K3_94 K4_95 K6_96 hB97
  generalize (((((((w5.setCell ⟨w1.heap.size, 0, none⟩ (Str z5)).setCell ⟨w1.heap.size, 1, none⟩ (.int .i64 q5)).setCell ⟨w.heap.size + 1, 3, none⟩ (.int .i64 m1)).setCell ⟨w.heap.size + 1, 4, none⟩ (.int .i64 m2)).setCell ⟨w.heap.size + 1, 5, none⟩ (.int .i64 m3)).setCell ⟨w.heap.size + 1, 6, none⟩ (.int .i64 (m4 + 1))).setCell ⟨w.heap.size + 1, 9, none⟩ (Str body)) = WW at *
  obtain ⟨ca0, fa0, la0⟩ := K6_102.facts
  obtain ⟨ca1, fa1, la1⟩ := K2_99.facts
  obtain ⟨ca2, fa2, la2⟩ := K3_100.facts
  obtain ⟨ca3, fa3, la3⟩ := K4_101.facts
  have hx1 : ¬ w1.heap.size = w.heap.size + 1 := by omega
  have hy1 : ¬ w.heap.size + 1 = w1.heap.size := by omega
  have hx2 : ¬ w1.heap.size = w.heap.size + 2 := by omega
  have hy2 : ¬ w.heap.size + 2 = w1.heap.size := by omega
  have hx3 : ¬ w1.heap.size = w.heap.size + 3 := by omega
  have hy3 : ¬ w.heap.size + 3 = w1.heap.size := by omega
  have hx4 : ¬ w1.heap.size = w.heap.size + 2 + 1 := by omega
  have hy4 : ¬ w.heap.size + 2 + 1 = w1.heap.size := by omega
  have hx5 : ¬ w1.heap.size = w.heap.size + 1 + 1 := by omega
  have hy5 : ¬ w.heap.size + 1 + 1 = w1.heap.size := by omega
  have hx6 : ¬ w1.heap.size = w.heap.size + 1 + 1 + 1 := by omega
  have hy6 : ¬ w.heap.size + 1 + 1 + 1 = w1.heap.size := by omega
  go_region
  clear ca0 fa0 la0 ca1 fa1 la1 ca2 fa2 la2 ca3 fa3 la3
  go_wp2_with fail
  exact fld_fin rfl K3_100 K4_101 rfl rfl rfl (by omega) hB103 (by omega) (by omega)
theorem fld_2b (l z1 z2 z3 z4 z5 body : List UInt8) (q1 q2 q3 q4 q5 m1 m2 m3 m4 stream block : Int) (m1a : 0 ≤ m1) (m1b : m1 < 4294967296) (m2a : 0 ≤ m2) (m2b : m2 < 4294967296) (m3a : 0 ≤ m3) (m3b : m3 < 4294967296) (m4a : 0 ≤ m4) (m4b : m4 < 4294967296) (hq : (q4 != 0) = true)
    (N1 : ∀ w, Calls Try.prog 68 #[.agg #[Str l, .int .i64 0], .int .i64 1] w (RetB (.tuple #[.agg #[Str z1, .int .i64 q1], .int .u32 m1]) w))
    (N2 : ∀ w, Calls Try.prog 68 #[.agg #[Str z1, .int .i64 q1], .int .i64 1] w (RetB (.tuple #[.agg #[Str z2, .int .i64 q2], .int .u32 m2]) w))
    (N3 : ∀ w, Calls Try.prog 68 #[.agg #[Str z2, .int .i64 q2], .int .i64 1] w (RetB (.tuple #[.agg #[Str z3, .int .i64 q3], .int .u32 m3]) w))
    (N4 : ∀ w, Calls Try.prog 68 #[.agg #[Str z3, .int .i64 q3], .int .i64 2] w (RetB (.tuple #[.agg #[Str z4, .int .i64 q4], .int .u32 m4]) w)) (w : World) :
    Calls Try.prog 69 #[.agg #[Str l, .int .i64 0], .agg #[.int .i64 2, .int .i64 stream, .int .u32 block, .int .i64 0, .int .i64 0, .int .i64 0, .int .i64 0, .int .i64 0, .string ⟨#[]⟩, .string ⟨#[]⟩]] w (FldR z4 q4 (.agg #[.int .i64 2, .int .i64 stream, .int .u32 block, .int .i64 0, .int .i64 0, .int .i64 0, .int .i64 0, .int .i64 0, .string ⟨#[]⟩, .string ⟨#[]⟩]) w) := by
  have m1w : IntKind.i64.wrap m1 = m1 := by rw [IntWalk.i64_in _ (by omega)]
  have m2w : IntKind.i64.wrap m2 = m2 := by rw [IntWalk.i64_in _ (by omega)]
  have m3w : IntKind.i64.wrap m3 = m3 := by rw [IntWalk.i64_in _ (by omega)]
  have m4w : IntKind.i64.wrap m4 = m4 := by rw [IntWalk.i64_in _ (by omega)]
  have hm4 : IntKind.i64.wrap (m4 + 1) = m4 + 1 := by rw [IntWalk.i64_in _ (by omega)]
  have H1 := Lib.hid N1
  have H2 := Lib.hid N2
  have H3 := Lib.hid N3
  have H4 := Lib.hid N4
  clear N1 N2 N3 N4
  have hB0 := Below.refl w.heap.size w
  have K1_1 := Blk.newAt (n := w.heap.size) (w := w) (cs := #[Str l, .int .i64 0]) (t := 124) (by simp)
  have hB2 := Below.chainAlloc hB0 (.cells #[Str l, .int .i64 0] 124)
  clear hB0
  have K1_3 := K1_1.alloc (.cells #[.int .i64 2, .int .i64 stream, .int .u32 block, .int .i64 0, .int .i64 0, .int .i64 0, .int .i64 0, .int .i64 0, .string ⟨#[]⟩, .string ⟨#[]⟩] 24)
  have K2_4 := Blk.newAt (n := w.heap.size + 1) (w := (w.alloc (.cells #[Str l, .int .i64 0] 124))) (cs := #[.int .i64 2, .int .i64 stream, .int .u32 block, .int .i64 0, .int .i64 0, .int .i64 0, .int .i64 0, .int .i64 0, .string ⟨#[]⟩, .string ⟨#[]⟩]) (t := 24) (by simp)
  have hB5 := Below.chainAlloc hB2 (.cells #[.int .i64 2, .int .i64 stream, .int .u32 block, .int .i64 0, .int .i64 0, .int .i64 0, .int .i64 0, .int .i64 0, .string ⟨#[]⟩, .string ⟨#[]⟩] 24)
  clear K1_1 hB2
  have K1_6 := K1_3.alloc (.cells #[.string ⟨#[]⟩, .int .i64 0] 124)
  have K2_7 := K2_4.alloc (.cells #[.string ⟨#[]⟩, .int .i64 0] 124)
  have K3_8 := Blk.newAt (n := w.heap.size + 2) (w := ((w.alloc (.cells #[Str l, .int .i64 0] 124)).alloc (.cells #[.int .i64 2, .int .i64 stream, .int .u32 block, .int .i64 0, .int .i64 0, .int .i64 0, .int .i64 0, .int .i64 0, .string ⟨#[]⟩, .string ⟨#[]⟩] 24))) (cs := #[.string ⟨#[]⟩, .int .i64 0]) (t := 124) (by simp)
  have hB9 := Below.chainAlloc hB5 (.cells #[.string ⟨#[]⟩, .int .i64 0] 124)
  clear K1_3 K2_4 hB5
  have K1_10 := K1_6.alloc (.cells #[.int .i64 0, .int .i64 0, .int .u32 0, .int .i64 0, .int .i64 0, .int .i64 0, .int .i64 0, .int .i64 0, .string ⟨#[]⟩, .string ⟨#[]⟩] 24)
  have K2_11 := K2_7.alloc (.cells #[.int .i64 0, .int .i64 0, .int .u32 0, .int .i64 0, .int .i64 0, .int .i64 0, .int .i64 0, .int .i64 0, .string ⟨#[]⟩, .string ⟨#[]⟩] 24)
  have K3_12 := K3_8.alloc (.cells #[.int .i64 0, .int .i64 0, .int .u32 0, .int .i64 0, .int .i64 0, .int .i64 0, .int .i64 0, .int .i64 0, .string ⟨#[]⟩, .string ⟨#[]⟩] 24)
  have K4_13 := Blk.newAt (n := w.heap.size + 3) (w := (((w.alloc (.cells #[Str l, .int .i64 0] 124)).alloc (.cells #[.int .i64 2, .int .i64 stream, .int .u32 block, .int .i64 0, .int .i64 0, .int .i64 0, .int .i64 0, .int .i64 0, .string ⟨#[]⟩, .string ⟨#[]⟩] 24)).alloc (.cells #[.string ⟨#[]⟩, .int .i64 0] 124))) (cs := #[.int .i64 0, .int .i64 0, .int .u32 0, .int .i64 0, .int .i64 0, .int .i64 0, .int .i64 0, .int .i64 0, .string ⟨#[]⟩, .string ⟨#[]⟩]) (t := 24) (by simp)
  have hB14 := Below.chainAlloc hB9 (.cells #[.int .i64 0, .int .i64 0, .int .u32 0, .int .i64 0, .int .i64 0, .int .i64 0, .int .i64 0, .int .i64 0, .string ⟨#[]⟩, .string ⟨#[]⟩] 24)
  clear K1_6 K2_7 K3_8 hB9
  go_enter Try.func69, Try.ntmps69
  go_wp2_with fail
  refine (H1.out _).mono ?_
  rintro e w1 ⟨rfl, hb⟩
  have K1_15 := K1_10.below hb K1_10.lt
  have K2_16 := K2_11.below hb K2_11.lt
  have K3_17 := K3_12.below hb K3_12.lt
  have K4_18 := K4_13.below hb K4_13.lt
  have hB19 := Below.chain hb hB14
  clear hb H1 K1_10 K2_11 K3_12 K4_13 hB14
  have hk1 := K4_18.lt
  go_wp2_with fail
  have K1_20 := K1_15.alloc (.cells #[Str z1, .int .i64 q1] 124)
  have K2_21 := K2_16.alloc (.cells #[Str z1, .int .i64 q1] 124)
  have K3_22 := K3_17.alloc (.cells #[Str z1, .int .i64 q1] 124)
  have K4_23 := K4_18.alloc (.cells #[Str z1, .int .i64 q1] 124)
  have K6_24 := Blk.newAt (n := w1.heap.size) (w := w1) (cs := #[Str z1, .int .i64 q1]) (t := 124) (by simp)
  have hB25 := Below.chainAlloc hB19 (.cells #[Str z1, .int .i64 q1] 124)
  clear K1_15 K2_16 K3_17 K4_18 hB19
  refine (H2.out _).mono ?_
  rintro e w2 ⟨rfl, hb⟩
  have K1_26 := K1_20.below hb K1_20.lt
  have K2_27 := K2_21.below hb K2_21.lt
  have K3_28 := K3_22.below hb K3_22.lt
  have K4_29 := K4_23.below hb K4_23.lt
  have K6_30 := K6_24.below hb K6_24.lt
  have hB31 := Below.chain hb hB25
  clear hb H2 K1_20 K2_21 K3_22 K4_23 K6_24 hB25
  obtain ⟨ca0, fa0, la0⟩ := K6_30.facts
  go_wp2_with fail
  clear ca0 fa0
  have K1_32 := oth2 K1_26 (g := w1.heap.size) (Str z2) (.int .i64 q2) (by omega)
  have K2_33 := oth2 K2_27 (g := w1.heap.size) (Str z2) (.int .i64 q2) (by omega)
  have K3_34 := oth2 K3_28 (g := w1.heap.size) (Str z2) (.int .i64 q2) (by omega)
  have K4_35 := oth2 K4_29 (g := w1.heap.size) (Str z2) (.int .i64 q2) (by omega)
  have K6_36 := upd2 K6_30 (Str z2) (.int .i64 q2)
  have hB37 := bel2 hB31 (g := w1.heap.size) (Str z2) (.int .i64 q2) (by omega)
  clear K1_26 K2_27 K3_28 K4_29 K6_30 hB31
  refine (H3.out _).mono ?_
  rintro e w3 ⟨rfl, hb⟩
  have K1_38 := K1_32.below hb K1_32.lt
  have K2_39 := K2_33.below hb K2_33.lt
  have K3_40 := K3_34.below hb K3_34.lt
  have K4_41 := K4_35.below hb K4_35.lt
  have K6_42 := K6_36.below hb K6_36.lt
  have hB43 := Below.chain hb hB37
  clear hb H3 K1_32 K2_33 K3_34 K4_35 K6_36 hB37
  obtain ⟨ca0, fa0, la0⟩ := K6_42.facts
  go_wp2_with fail
  clear ca0 fa0
  have K1_44 := oth2 K1_38 (g := w1.heap.size) (Str z3) (.int .i64 q3) (by omega)
  have K2_45 := oth2 K2_39 (g := w1.heap.size) (Str z3) (.int .i64 q3) (by omega)
  have K3_46 := oth2 K3_40 (g := w1.heap.size) (Str z3) (.int .i64 q3) (by omega)
  have K4_47 := oth2 K4_41 (g := w1.heap.size) (Str z3) (.int .i64 q3) (by omega)
  have K6_48 := upd2 K6_42 (Str z3) (.int .i64 q3)
  have hB49 := bel2 hB43 (g := w1.heap.size) (Str z3) (.int .i64 q3) (by omega)
  clear K1_38 K2_39 K3_40 K4_41 K6_42 hB43
  refine (H4.out _).mono ?_
  rintro e w4 ⟨rfl, hb⟩
  have K1_50 := K1_44.below hb K1_44.lt
  have K2_51 := K2_45.below hb K2_45.lt
  have K3_52 := K3_46.below hb K3_46.lt
  have K4_53 := K4_47.below hb K4_47.lt
  have K6_54 := K6_48.below hb K6_48.lt
  have hB55 := Below.chain hb hB49
  clear hb H4 K1_44 K2_45 K3_46 K4_47 K6_48 hB49
  obtain ⟨ca0, fa0, la0⟩ := K6_54.facts
  obtain ⟨ca1, fa1, la1⟩ := K2_51.facts
  go_upto_region 9 with fail
  clear ca0 fa0 ca1 fa1
  have K1_56 := oth2 K1_50 (g := w1.heap.size) (Str z4) (.int .i64 q4) (by omega)
  have K2_57 := oth2 K2_51 (g := w1.heap.size) (Str z4) (.int .i64 q4) (by omega)
  have K3_58 := oth2 K3_52 (g := w1.heap.size) (Str z4) (.int .i64 q4) (by omega)
  have K4_59 := oth2 K4_53 (g := w1.heap.size) (Str z4) (.int .i64 q4) (by omega)
  have K6_60 := upd2 K6_54 (Str z4) (.int .i64 q4)
  have hB61 := bel2 hB55 (g := w1.heap.size) (Str z4) (.int .i64 q4) (by omega)
  clear K1_50 K2_51 K3_52 K4_53 K6_54 hB55
  generalize ((w4.setCell ⟨w1.heap.size, 0, none⟩ (Str z4)).setCell ⟨w1.heap.size, 1, none⟩ (.int .i64 q4)) = WW at *
  obtain ⟨ca0, fa0, la0⟩ := K6_60.facts
  obtain ⟨ca1, fa1, la1⟩ := K2_57.facts
  obtain ⟨ca2, fa2, la2⟩ := K3_58.facts
  obtain ⟨ca3, fa3, la3⟩ := K4_59.facts
  have hx1 : ¬ w1.heap.size = w.heap.size + 1 := by omega
  have hy1 : ¬ w.heap.size + 1 = w1.heap.size := by omega
  have hx2 : ¬ w1.heap.size = w.heap.size + 2 := by omega
  have hy2 : ¬ w.heap.size + 2 = w1.heap.size := by omega
  have hx3 : ¬ w1.heap.size = w.heap.size + 3 := by omega
  have hy3 : ¬ w.heap.size + 3 = w1.heap.size := by omega
  have hx4 : ¬ w1.heap.size = w.heap.size + 2 + 1 := by omega
  have hy4 : ¬ w.heap.size + 2 + 1 = w1.heap.size := by omega
  have hx5 : ¬ w1.heap.size = w.heap.size + 1 + 1 := by omega
  have hy5 : ¬ w.heap.size + 1 + 1 = w1.heap.size := by omega
  have hx6 : ¬ w1.heap.size = w.heap.size + 1 + 1 + 1 := by omega
  have hy6 : ¬ w.heap.size + 1 + 1 + 1 = w1.heap.size := by omega
  go_region
  clear ca0 fa0 la0 ca1 fa1 la1 ca2 fa2 la2 ca3 fa3 la3
  go_wp2_with fail
  exact fld_fin rfl K3_58 K4_59 rfl rfl rfl (by omega) hB61 (by omega) (by omega)
theorem fld_2 (l z1 z2 z3 z4 z5 body : List UInt8) (q1 q2 q3 q4 q5 m1 m2 m3 m4 stream block : Int) (m1a : 0 ≤ m1) (m1b : m1 < 4294967296) (m2a : 0 ≤ m2) (m2b : m2 < 4294967296) (m3a : 0 ≤ m3) (m3b : m3 < 4294967296) (m4a : 0 ≤ m4) (m4b : m4 < 4294967296)
    (N1 : ∀ w, Calls Try.prog 68 #[.agg #[Str l, .int .i64 0], .int .i64 1] w (RetB (.tuple #[.agg #[Str z1, .int .i64 q1], .int .u32 m1]) w))
    (N2 : ∀ w, Calls Try.prog 68 #[.agg #[Str z1, .int .i64 q1], .int .i64 1] w (RetB (.tuple #[.agg #[Str z2, .int .i64 q2], .int .u32 m2]) w))
    (N3 : ∀ w, Calls Try.prog 68 #[.agg #[Str z2, .int .i64 q2], .int .i64 1] w (RetB (.tuple #[.agg #[Str z3, .int .i64 q3], .int .u32 m3]) w))
    (N4 : ∀ w, Calls Try.prog 68 #[.agg #[Str z3, .int .i64 q3], .int .i64 2] w (RetB (.tuple #[.agg #[Str z4, .int .i64 0], .int .u32 m4]) w))
    (N5 : ∀ w, Calls Try.prog 109 #[.agg #[Str z4, .int .i64 0], .int .i64 (z4.length : Int)] w (RetB (.tuple #[.agg #[Str z5, .int .i64 q5], Str body]) w)) (w : World) :
    Calls Try.prog 69 #[.agg #[Str l, .int .i64 0], .agg #[.int .i64 2, .int .i64 stream, .int .u32 block, .int .i64 0, .int .i64 0, .int .i64 0, .int .i64 0, .int .i64 0, .string ⟨#[]⟩, .string ⟨#[]⟩]] w (FldR z5 q5 (.agg #[.int .i64 2, .int .i64 stream, .int .u32 block, .int .i64 m1, .int .i64 m2, .int .i64 m3, .int .i64 (m4 + 1), .int .i64 0, .string ⟨#[]⟩, Str body]) w) := by
  have m1w : IntKind.i64.wrap m1 = m1 := by rw [IntWalk.i64_in _ (by omega)]
  have m2w : IntKind.i64.wrap m2 = m2 := by rw [IntWalk.i64_in _ (by omega)]
  have m3w : IntKind.i64.wrap m3 = m3 := by rw [IntWalk.i64_in _ (by omega)]
  have m4w : IntKind.i64.wrap m4 = m4 := by rw [IntWalk.i64_in _ (by omega)]
  have hm4 : IntKind.i64.wrap (m4 + 1) = m4 + 1 := by rw [IntWalk.i64_in _ (by omega)]
  have H1 := Lib.hid N1
  have H2 := Lib.hid N2
  have H3 := Lib.hid N3
  have H4 := Lib.hid N4
  have H5 := Lib.hid N5
  clear N1 N2 N3 N4 N5
  have hB0 := Below.refl w.heap.size w
  have K1_1 := Blk.newAt (n := w.heap.size) (w := w) (cs := #[Str l, .int .i64 0]) (t := 124) (by simp)
  have hB2 := Below.chainAlloc hB0 (.cells #[Str l, .int .i64 0] 124)
  clear hB0
  have K1_3 := K1_1.alloc (.cells #[.int .i64 2, .int .i64 stream, .int .u32 block, .int .i64 0, .int .i64 0, .int .i64 0, .int .i64 0, .int .i64 0, .string ⟨#[]⟩, .string ⟨#[]⟩] 24)
  have K2_4 := Blk.newAt (n := w.heap.size + 1) (w := (w.alloc (.cells #[Str l, .int .i64 0] 124))) (cs := #[.int .i64 2, .int .i64 stream, .int .u32 block, .int .i64 0, .int .i64 0, .int .i64 0, .int .i64 0, .int .i64 0, .string ⟨#[]⟩, .string ⟨#[]⟩]) (t := 24) (by simp)
  have hB5 := Below.chainAlloc hB2 (.cells #[.int .i64 2, .int .i64 stream, .int .u32 block, .int .i64 0, .int .i64 0, .int .i64 0, .int .i64 0, .int .i64 0, .string ⟨#[]⟩, .string ⟨#[]⟩] 24)
  clear K1_1 hB2
  have K1_6 := K1_3.alloc (.cells #[.string ⟨#[]⟩, .int .i64 0] 124)
  have K2_7 := K2_4.alloc (.cells #[.string ⟨#[]⟩, .int .i64 0] 124)
  have K3_8 := Blk.newAt (n := w.heap.size + 2) (w := ((w.alloc (.cells #[Str l, .int .i64 0] 124)).alloc (.cells #[.int .i64 2, .int .i64 stream, .int .u32 block, .int .i64 0, .int .i64 0, .int .i64 0, .int .i64 0, .int .i64 0, .string ⟨#[]⟩, .string ⟨#[]⟩] 24))) (cs := #[.string ⟨#[]⟩, .int .i64 0]) (t := 124) (by simp)
  have hB9 := Below.chainAlloc hB5 (.cells #[.string ⟨#[]⟩, .int .i64 0] 124)
  clear K1_3 K2_4 hB5
  have K1_10 := K1_6.alloc (.cells #[.int .i64 0, .int .i64 0, .int .u32 0, .int .i64 0, .int .i64 0, .int .i64 0, .int .i64 0, .int .i64 0, .string ⟨#[]⟩, .string ⟨#[]⟩] 24)
  have K2_11 := K2_7.alloc (.cells #[.int .i64 0, .int .i64 0, .int .u32 0, .int .i64 0, .int .i64 0, .int .i64 0, .int .i64 0, .int .i64 0, .string ⟨#[]⟩, .string ⟨#[]⟩] 24)
  have K3_12 := K3_8.alloc (.cells #[.int .i64 0, .int .i64 0, .int .u32 0, .int .i64 0, .int .i64 0, .int .i64 0, .int .i64 0, .int .i64 0, .string ⟨#[]⟩, .string ⟨#[]⟩] 24)
  have K4_13 := Blk.newAt (n := w.heap.size + 3) (w := (((w.alloc (.cells #[Str l, .int .i64 0] 124)).alloc (.cells #[.int .i64 2, .int .i64 stream, .int .u32 block, .int .i64 0, .int .i64 0, .int .i64 0, .int .i64 0, .int .i64 0, .string ⟨#[]⟩, .string ⟨#[]⟩] 24)).alloc (.cells #[.string ⟨#[]⟩, .int .i64 0] 124))) (cs := #[.int .i64 0, .int .i64 0, .int .u32 0, .int .i64 0, .int .i64 0, .int .i64 0, .int .i64 0, .int .i64 0, .string ⟨#[]⟩, .string ⟨#[]⟩]) (t := 24) (by simp)
  have hB14 := Below.chainAlloc hB9 (.cells #[.int .i64 0, .int .i64 0, .int .u32 0, .int .i64 0, .int .i64 0, .int .i64 0, .int .i64 0, .int .i64 0, .string ⟨#[]⟩, .string ⟨#[]⟩] 24)
  clear K1_6 K2_7 K3_8 hB9
  go_enter Try.func69, Try.ntmps69
  go_wp2_with fail
  refine (H1.out _).mono ?_
  rintro e w1 ⟨rfl, hb⟩
  have K1_15 := K1_10.below hb K1_10.lt
  have K2_16 := K2_11.below hb K2_11.lt
  have K3_17 := K3_12.below hb K3_12.lt
  have K4_18 := K4_13.below hb K4_13.lt
  have hB19 := Below.chain hb hB14
  clear hb H1 K1_10 K2_11 K3_12 K4_13 hB14
  have hk1 := K4_18.lt
  go_wp2_with fail
  have K1_20 := K1_15.alloc (.cells #[Str z1, .int .i64 q1] 124)
  have K2_21 := K2_16.alloc (.cells #[Str z1, .int .i64 q1] 124)
  have K3_22 := K3_17.alloc (.cells #[Str z1, .int .i64 q1] 124)
  have K4_23 := K4_18.alloc (.cells #[Str z1, .int .i64 q1] 124)
  have K6_24 := Blk.newAt (n := w1.heap.size) (w := w1) (cs := #[Str z1, .int .i64 q1]) (t := 124) (by simp)
  have hB25 := Below.chainAlloc hB19 (.cells #[Str z1, .int .i64 q1] 124)
  clear K1_15 K2_16 K3_17 K4_18 hB19
  refine (H2.out _).mono ?_
  rintro e w2 ⟨rfl, hb⟩
  have K1_26 := K1_20.below hb K1_20.lt
  have K2_27 := K2_21.below hb K2_21.lt
  have K3_28 := K3_22.below hb K3_22.lt
  have K4_29 := K4_23.below hb K4_23.lt
  have K6_30 := K6_24.below hb K6_24.lt
  have hB31 := Below.chain hb hB25
  clear hb H2 K1_20 K2_21 K3_22 K4_23 K6_24 hB25
  obtain ⟨ca0, fa0, la0⟩ := K6_30.facts
  go_wp2_with fail
  clear ca0 fa0
  have K1_32 := oth2 K1_26 (g := w1.heap.size) (Str z2) (.int .i64 q2) (by omega)
  have K2_33 := oth2 K2_27 (g := w1.heap.size) (Str z2) (.int .i64 q2) (by omega)
  have K3_34 := oth2 K3_28 (g := w1.heap.size) (Str z2) (.int .i64 q2) (by omega)
  have K4_35 := oth2 K4_29 (g := w1.heap.size) (Str z2) (.int .i64 q2) (by omega)
  have K6_36 := upd2 K6_30 (Str z2) (.int .i64 q2)
  have hB37 := bel2 hB31 (g := w1.heap.size) (Str z2) (.int .i64 q2) (by omega)
  clear K1_26 K2_27 K3_28 K4_29 K6_30 hB31
  refine (H3.out _).mono ?_
  rintro e w3 ⟨rfl, hb⟩
  have K1_38 := K1_32.below hb K1_32.lt
  have K2_39 := K2_33.below hb K2_33.lt
  have K3_40 := K3_34.below hb K3_34.lt
  have K4_41 := K4_35.below hb K4_35.lt
  have K6_42 := K6_36.below hb K6_36.lt
  have hB43 := Below.chain hb hB37
  clear hb H3 K1_32 K2_33 K3_34 K4_35 K6_36 hB37
  obtain ⟨ca0, fa0, la0⟩ := K6_42.facts
  go_wp2_with fail
  clear ca0 fa0
  have K1_44 := oth2 K1_38 (g := w1.heap.size) (Str z3) (.int .i64 q3) (by omega)
  have K2_45 := oth2 K2_39 (g := w1.heap.size) (Str z3) (.int .i64 q3) (by omega)
  have K3_46 := oth2 K3_40 (g := w1.heap.size) (Str z3) (.int .i64 q3) (by omega)
  have K4_47 := oth2 K4_41 (g := w1.heap.size) (Str z3) (.int .i64 q3) (by omega)
  have K6_48 := upd2 K6_42 (Str z3) (.int .i64 q3)
  have hB49 := bel2 hB43 (g := w1.heap.size) (Str z3) (.int .i64 q3) (by omega)
  clear K1_38 K2_39 K3_40 K4_41 K6_42 hB43
  refine (H4.out _).mono ?_
  rintro e w4 ⟨rfl, hb⟩
  have K1_50 := K1_44.below hb K1_44.lt
  have K2_51 := K2_45.below hb K2_45.lt
  have K3_52 := K3_46.below hb K3_46.lt
  have K4_53 := K4_47.below hb K4_47.lt
  have K6_54 := K6_48.below hb K6_48.lt
  have hB55 := Below.chain hb hB49
  clear hb H4 K1_44 K2_45 K3_46 K4_47 K6_48 hB49
  obtain ⟨ca0, fa0, la0⟩ := K6_54.facts
  obtain ⟨ca1, fa1, la1⟩ := K2_51.facts
  go_wp2_with fail
  clear ca0 fa0 ca1 fa1
  have K1_56 := oth2 K1_50 (g := w1.heap.size) (Str z4) (.int .i64 0) (by omega)
  have K2_57 := oth2 K2_51 (g := w1.heap.size) (Str z4) (.int .i64 0) (by omega)
  have K3_58 := oth2 K3_52 (g := w1.heap.size) (Str z4) (.int .i64 0) (by omega)
  have K4_59 := oth2 K4_53 (g := w1.heap.size) (Str z4) (.int .i64 0) (by omega)
  have K6_60 := upd2 K6_54 (Str z4) (.int .i64 0)
  have hB61 := bel2 hB55 (g := w1.heap.size) (Str z4) (.int .i64 0) (by omega)
  clear K1_50 K2_51 K3_52 K4_53 K6_54 hB55
  refine (H5.out _).mono ?_
  rintro e w5 ⟨rfl, hb⟩
  have K1_62 := K1_56.below hb K1_56.lt
  have K2_63 := K2_57.below hb K2_57.lt
  have K3_64 := K3_58.below hb K3_58.lt
  have K4_65 := K4_59.below hb K4_59.lt
  have K6_66 := K6_60.below hb K6_60.lt
  have hB67 := Below.chain hb hB61
  clear hb H5 K1_56 K2_57 K3_58 K4_59 K6_60 hB61
  obtain ⟨ca0, fa0, la0⟩ := K6_66.facts
  obtain ⟨ca1, fa1, la1⟩ := K2_63.facts
  go_upto_region 16 with fail
  clear ca0 fa0 ca1 fa1
  have K1_68 := oth2 K1_62 (g := w1.heap.size) (Str z5) (.int .i64 q5) (by omega)
  have K2_69 := oth2 K2_63 (g := w1.heap.size) (Str z5) (.int .i64 q5) (by omega)
  have K3_70 := oth2 K3_64 (g := w1.heap.size) (Str z5) (.int .i64 q5) (by omega)
  have K4_71 := oth2 K4_65 (g := w1.heap.size) (Str z5) (.int .i64 q5) (by omega)
  have K6_72 := upd2 K6_66 (Str z5) (.int .i64 q5)
  have hB73 := bel2 hB67 (g := w1.heap.size) (Str z5) (.int .i64 q5) (by omega)
  clear K1_62 K2_63 K3_64 K4_65 K6_66 hB67
  have K1_74 := (oth1 K1_68 (w.heap.size + 1) 3 (.int .i64 m1) (by omega))
  have K2_75 : Blk (((w5.setCell ⟨w1.heap.size, 0, none⟩ (Str z5)).setCell ⟨w1.heap.size, 1, none⟩ (.int .i64 q5)).setCell ⟨w.heap.size + 1, 3, none⟩ (.int .i64 m1)) (w.heap.size + 1) #[.int .i64 2, .int .i64 stream, .int .u32 block, .int .i64 m1, .int .i64 0, .int .i64 0, .int .i64 0, .int .i64 0, .string ⟨#[]⟩, .string ⟨#[]⟩] 24 := by have h := (K2_69.set 3 (.int .i64 m1)); simpa using h
  have K3_76 := (oth1 K3_70 (w.heap.size + 1) 3 (.int .i64 m1) (by omega))
  have K4_77 := (oth1 K4_71 (w.heap.size + 1) 3 (.int .i64 m1) (by omega))
  have K6_78 := (oth1 K6_72 (w.heap.size + 1) 3 (.int .i64 m1) (by omega))
  have hB79 := (bel1 hB73 (w.heap.size + 1) 3 (.int .i64 m1) (by omega))
  clear K1_68 K2_69 K3_70 K4_71 K6_72 hB73
  have K1_80 := (oth1 K1_74 (w.heap.size + 1) 4 (.int .i64 m2) (by omega))
  have K2_81 : Blk ((((w5.setCell ⟨w1.heap.size, 0, none⟩ (Str z5)).setCell ⟨w1.heap.size, 1, none⟩ (.int .i64 q5)).setCell ⟨w.heap.size + 1, 3, none⟩ (.int .i64 m1)).setCell ⟨w.heap.size + 1, 4, none⟩ (.int .i64 m2)) (w.heap.size + 1) #[.int .i64 2, .int .i64 stream, .int .u32 block, .int .i64 m1, .int .i64 m2, .int .i64 0, .int .i64 0, .int .i64 0, .string ⟨#[]⟩, .string ⟨#[]⟩] 24 := by have h := (K2_75.set 4 (.int .i64 m2)); simpa using h
  have K3_82 := (oth1 K3_76 (w.heap.size + 1) 4 (.int .i64 m2) (by omega))
  have K4_83 := (oth1 K4_77 (w.heap.size + 1) 4 (.int .i64 m2) (by omega))
  have K6_84 := (oth1 K6_78 (w.heap.size + 1) 4 (.int .i64 m2) (by omega))
  have hB85 := (bel1 hB79 (w.heap.size + 1) 4 (.int .i64 m2) (by omega))
  clear K1_74 K2_75 K3_76 K4_77 K6_78 hB79
  have K1_86 := (oth1 K1_80 (w.heap.size + 1) 5 (.int .i64 m3) (by omega))
  have K2_87 : Blk (((((w5.setCell ⟨w1.heap.size, 0, none⟩ (Str z5)).setCell ⟨w1.heap.size, 1, none⟩ (.int .i64 q5)).setCell ⟨w.heap.size + 1, 3, none⟩ (.int .i64 m1)).setCell ⟨w.heap.size + 1, 4, none⟩ (.int .i64 m2)).setCell ⟨w.heap.size + 1, 5, none⟩ (.int .i64 m3)) (w.heap.size + 1) #[.int .i64 2, .int .i64 stream, .int .u32 block, .int .i64 m1, .int .i64 m2, .int .i64 m3, .int .i64 0, .int .i64 0, .string ⟨#[]⟩, .string ⟨#[]⟩] 24 := by have h := (K2_81.set 5 (.int .i64 m3)); simpa using h
  have K3_88 := (oth1 K3_82 (w.heap.size + 1) 5 (.int .i64 m3) (by omega))
  have K4_89 := (oth1 K4_83 (w.heap.size + 1) 5 (.int .i64 m3) (by omega))
  have K6_90 := (oth1 K6_84 (w.heap.size + 1) 5 (.int .i64 m3) (by omega))
  have hB91 := (bel1 hB85 (w.heap.size + 1) 5 (.int .i64 m3) (by omega))
  clear K1_80 K2_81 K3_82 K4_83 K6_84 hB85
  have K1_92 := (oth1 K1_86 (w.heap.size + 1) 6 (.int .i64 (m4 + 1)) (by omega))
  have K2_93 : Blk ((((((w5.setCell ⟨w1.heap.size, 0, none⟩ (Str z5)).setCell ⟨w1.heap.size, 1, none⟩ (.int .i64 q5)).setCell ⟨w.heap.size + 1, 3, none⟩ (.int .i64 m1)).setCell ⟨w.heap.size + 1, 4, none⟩ (.int .i64 m2)).setCell ⟨w.heap.size + 1, 5, none⟩ (.int .i64 m3)).setCell ⟨w.heap.size + 1, 6, none⟩ (.int .i64 (m4 + 1))) (w.heap.size + 1) #[.int .i64 2, .int .i64 stream, .int .u32 block, .int .i64 m1, .int .i64 m2, .int .i64 m3, .int .i64 (m4 + 1), .int .i64 0, .string ⟨#[]⟩, .string ⟨#[]⟩] 24 := by have h := (K2_87.set 6 (.int .i64 (m4 + 1))); simpa using h
  have K3_94 := (oth1 K3_88 (w.heap.size + 1) 6 (.int .i64 (m4 + 1)) (by omega))
  have K4_95 := (oth1 K4_89 (w.heap.size + 1) 6 (.int .i64 (m4 + 1)) (by omega))
  have K6_96 := (oth1 K6_90 (w.heap.size + 1) 6 (.int .i64 (m4 + 1)) (by omega))
  have hB97 := (bel1 hB91 (w.heap.size + 1) 6 (.int .i64 (m4 + 1)) (by omega))
  clear K1_86 K2_87 K3_88 K4_89 K6_90 hB91
  have K1_98 := (oth1 K1_92 (w.heap.size + 1) 9 (Str body) (by omega))
  have K2_99 : Blk (((((((w5.setCell ⟨w1.heap.size, 0, none⟩ (Str z5)).setCell ⟨w1.heap.size, 1, none⟩ (.int .i64 q5)).setCell ⟨w.heap.size + 1, 3, none⟩ (.int .i64 m1)).setCell ⟨w.heap.size + 1, 4, none⟩ (.int .i64 m2)).setCell ⟨w.heap.size + 1, 5, none⟩ (.int .i64 m3)).setCell ⟨w.heap.size + 1, 6, none⟩ (.int .i64 (m4 + 1))).setCell ⟨w.heap.size + 1, 9, none⟩ (Str body)) (w.heap.size + 1) #[.int .i64 2, .int .i64 stream, .int .u32 block, .int .i64 m1, .int .i64 m2, .int .i64 m3, .int .i64 (m4 + 1), .int .i64 0, .string ⟨#[]⟩, Str body] 24 := by have h := (K2_93.set 9 (Str body)); simpa using h
  have K3_100 := (oth1 K3_94 (w.heap.size + 1) 9 (Str body) (by omega))
  have K4_101 := (oth1 K4_95 (w.heap.size + 1) 9 (Str body) (by omega))
  have K6_102 := (oth1 K6_96 (w.heap.size + 1) 9 (Str body) (by omega))
  have hB103 := (bel1 hB97 (w.heap.size + 1) 9 (Str body) (by omega))
  clear K1_92 K2_93 K3_94 K4_95 K6_96 hB97
  generalize (((((((w5.setCell ⟨w1.heap.size, 0, none⟩ (Str z5)).setCell ⟨w1.heap.size, 1, none⟩ (.int .i64 q5)).setCell ⟨w.heap.size + 1, 3, none⟩ (.int .i64 m1)).setCell ⟨w.heap.size + 1, 4, none⟩ (.int .i64 m2)).setCell ⟨w.heap.size + 1, 5, none⟩ (.int .i64 m3)).setCell ⟨w.heap.size + 1, 6, none⟩ (.int .i64 (m4 + 1))).setCell ⟨w.heap.size + 1, 9, none⟩ (Str body)) = WW at *
  obtain ⟨ca0, fa0, la0⟩ := K6_102.facts
  obtain ⟨ca1, fa1, la1⟩ := K2_99.facts
  obtain ⟨ca2, fa2, la2⟩ := K3_100.facts
  obtain ⟨ca3, fa3, la3⟩ := K4_101.facts
  have hx1 : ¬ w1.heap.size = w.heap.size + 1 := by omega
  have hy1 : ¬ w.heap.size + 1 = w1.heap.size := by omega
  have hx2 : ¬ w1.heap.size = w.heap.size + 2 := by omega
  have hy2 : ¬ w.heap.size + 2 = w1.heap.size := by omega
  have hx3 : ¬ w1.heap.size = w.heap.size + 3 := by omega
  have hy3 : ¬ w.heap.size + 3 = w1.heap.size := by omega
  have hx4 : ¬ w1.heap.size = w.heap.size + 2 + 1 := by omega
  have hy4 : ¬ w.heap.size + 2 + 1 = w1.heap.size := by omega
  have hx5 : ¬ w1.heap.size = w.heap.size + 1 + 1 := by omega
  have hy5 : ¬ w.heap.size + 1 + 1 = w1.heap.size := by omega
  have hx6 : ¬ w1.heap.size = w.heap.size + 1 + 1 + 1 := by omega
  have hy6 : ¬ w.heap.size + 1 + 1 + 1 = w1.heap.size := by omega
  go_region
  clear ca0 fa0 la0 ca1 fa1 la1 ca2 fa2 la2 ca3 fa3 la3
  go_wp2_with fail
  exact fld_fin rfl K3_100 K4_101 rfl rfl rfl (by omega) hB103 (by omega) (by omega)
end Go.Proofs.Ytphejbjbleeigaa
