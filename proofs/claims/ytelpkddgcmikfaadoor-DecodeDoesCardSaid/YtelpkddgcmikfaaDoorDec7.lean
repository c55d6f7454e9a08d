/-
  Blocks out of shards: All: its walk (chapter 20).
-/
import Derived.Test.YtelpkddgcmikfaaDoorDec6
namespace Go.Proofs.YtelpkddgcmikfaaDoor
open Go Go.RowKit
set_option linter.unusedVariables false
set_option maxRecDepth 100000
set_option maxHeartbeats 1000000
def All20 (js : List J20) (w : World) (e : Ending) (w' : World) : Prop := ∃ g, e = .returned (.slice (some ⟨g, 0, none⟩) js.length js.length) ∧ OwnV w' g 0 35 (js.flatMap J20.res) ∧ Below w.heap.size w w' ∧ w.heap.size ≤ g
theorem all_any (v : Value) (js : List J20) (hn : js.length ≤ 100000) (hx : ∀ j ∈ js, j.xs.length ≤ 1000) (w : World) (h : JobsAt w v js) :
    Calls Tryd.prog 8 #[v] w (All20 js w) := by
  have hmk := mk_res js hn
  have HJ := Lib.hid h
  have HX := Lib.hid hx
  obtain ⟨a, cap, rfl, _⟩ := h
  have k0 := OwnV.of_blk (Blk.new w (resSo js 0).toArray 35)
  have hB0 : Below w.heap.size w (w.alloc (.cells (resSo js 0).toArray 35)) := Below.chainAlloc (Below.refl _ _) _
  have HK0 := Lib.hid (And.intro k0 hB0)
  clear hx k0 hB0
  go_enter Tryd.func8, Tryd.ntmps8
  go_wp2_with fail
  clear hmk
  generalize w.alloc (.cells (resSo js 0).toArray 35) = W0 at *
  go_loopw [4, 5, 11] (fun _ _ i wr => ∃ m : Nat, m ≤ js.length ∧ i = .int .i64 m ∧ Hid (OwnV wr w.heap.size 0 35 (resSo js m)) ∧ Hid (Below w.heap.size w wr)) (fun _ _ i _ => js.length - (intOf i).toNat)
  case atStart => exact ⟨0, Nat.zero_le _, rfl, Lib.hid HK0.out.1, Lib.hid HK0.out.2⟩
  case round =>
    obtain ⟨m, hm, rfl, HOW, HBW⟩ := hrel
    by_cases hlt : m < js.length
    · obtain ⟨_, _, e, _, _, hq, hsh⟩ := HJ.out.chain HBW.out
      cases e
      rcases hq with e | ⟨g, off, rfl, hg, hc⟩
      · rw [e] at hlt; simp at hlt
      obtain ⟨B, hB⟩ := hsh js[m] (List.getElem_mem hlt)
      have hxl := HX.out js[m] (List.getElem_mem hlt)
      have hstep := resSo_step js m hlt
      have hln := resSo_length js m hm
      obtain ⟨j, hj⟩ : ∃ j, js[m] = j := ⟨_, rfl⟩
      have e0 := hc m hlt 0 (by decide)
      have e1 := hc m hlt 1 (by decide)
      have e2 := hc m hlt 2 (by decide)
      have e3 := hc m hlt 3 (by decide)
      have e4 := hc m hlt 4 (by decide)
      have e5 := hc m hlt 5 (by decide)
      rw [hj] at e0 e1 e2 e3 e4 e5 hB hxl hstep
      obtain ⟨st, bl, k, n, len, v, xs⟩ := j
      simp only [J20.cells, Nat.add_zero, List.getElem?_cons_zero, List.getElem?_cons_succ] at e0 e1 e2 e3 e4 e5
      simp only at hB hxl hstep
      have hB0 := hB
      obtain ⟨av, cv, rfl, _⟩ := hB0
      have hlti : (m : Int) < (js.length : Int) := by omega
      have HLT := Lib.hid hlt
      have HSTEP := Lib.hid hstep
      have hba : Below wr.heap.size wr (wr.alloc (.cells #[.int .i64 st, .int .u32 bl, .int .i64 k, .int .i64 n, .int .i64 len, .slice av xs.length cv] 30)) := Below.chainAlloc (Below.refl _ _) _
      have HDO := Lib.hid (do_any B st bl k n len _ xs hxl _ (hB.chain hba))
      unfold jobV resV at HDO
      have HOW1 := Lib.hid (HOW.out.chain hba)
      have HBW1 := Lib.hid (Below.chain hba HBW.out)
      have HLN := Lib.hid hln
      have hjl : js.length ≤ 9223372036854775807 := by omega
      clear hc hsh hB hxl hstep hba hj hln
      go_wp2_with fail
      refine HDO.out.mono ?_
      rintro e w1 ⟨rfl, hb1⟩
      have how := HOW1.out.chain hb1
      have HB2 := Lib.hid (Below.chain hb1 HBW1.out)
      have hlen : (J20.mk st bl k n len (.slice av xs.length cv) xs).out = doD k n len xs := rfl
      rw [hlen] at HSTEP
      generalize doD k n len xs = D at *
      obtain ⟨T, z⟩ := D
      have f0 := how.free (m * 4)
      have f1 := how.free (m * 4 + 1)
      have f2 := how.free (m * 4 + 2)
      have f3 := how.free (m * 4 + 3)
      have hgl := how.1
      obtain ⟨u0, q0⟩ : ∃ u, w1.cell? ⟨w.heap.size, m * 4, none⟩ = some u := ⟨_, by have := how.2.2 (m * 4) (by rw [HLN.out]; omega); rwa [Nat.zero_add] at this⟩
      obtain ⟨u1, q1⟩ : ∃ u, w1.cell? ⟨w.heap.size, m * 4 + 1, none⟩ = some u := ⟨_, by have := how.2.2 (m * 4 + 1) (by rw [HLN.out]; omega); rwa [Nat.zero_add] at this⟩
      obtain ⟨u2, q2⟩ : ∃ u, w1.cell? ⟨w.heap.size, m * 4 + 2, none⟩ = some u := ⟨_, by have := how.2.2 (m * 4 + 2) (by rw [HLN.out]; omega); rwa [Nat.zero_add] at this⟩
      obtain ⟨u3, q3⟩ : ∃ u, w1.cell? ⟨w.heap.size, m * 4 + 3, none⟩ = some u := ⟨_, by have := how.2.2 (m * 4 + 3) (by rw [HLN.out]; omega); rwa [Nat.zero_add] at this⟩
      have s0 := how.store (m * 4) (.int .i64 st) (by rw [HLN.out]; omega)
      have s1 := s0.store (m * 4 + 1) (.int .u32 bl) (by rw [List.length_set, HLN.out]; omega)
      have s2 := s1.store (m * 4 + 2) (Str T) (by rw [List.length_set, List.length_set, HLN.out]; omega)
      have s3 := s2.store (m * 4 + 3) (.int .i64 z) (by rw [List.length_set, List.length_set, List.length_set, HLN.out]; omega)
      rw [HSTEP.out] at s3
      simp only [Nat.zero_add] at s3
      have HS3 := Lib.hid s3
      clear s0 s1 s2 s3 hb1 hlen
      go_wp2_with fail
      go_roundw
      case rel => exact ⟨m + 1, HLT.out, by go_num, HS3, Lib.hid ((((HB2.out.setCell (p := ⟨w.heap.size, m * 4, none⟩) (Nat.le_refl _) _).setCell (p := ⟨w.heap.size, m * 4 + 1, none⟩) (Nat.le_refl _) _).setCell (p := ⟨w.heap.size, m * 4 + 2, none⟩) (Nat.le_refl _) _).setCell (p := ⟨w.heap.size, m * 4 + 3, none⟩) (Nat.le_refl _) _)⟩
      case measure => have := HLT.out; simp [intOf]; omega
    · obtain rfl : m = js.length := by omega
      have hlt' : ¬ (js.length : Int) < (js.length : Int) := by omega
      have how := HOW.out
      rw [resSo_end] at how
      have HF := Lib.hid (And.intro how HBW.out)
      clear how
      go_wp2_with fail
      go_ret
      exact ⟨_, rfl, HF.out.1, HF.out.2, Nat.le_refl _⟩
end Go.Proofs.YtelpkddgcmikfaaDoor
