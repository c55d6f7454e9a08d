/-
  Blocks out of shards: the document's Do; whether a job is small (chapter 20).
-/
import Derived.Test.YtelpkddgcmikfaaDoorDec8
import Derived.Test.YtelpkddgcmikfaaDoorDec4
namespace Go.Proofs.YtelpkddgcmikfaaDoor
open Go Go.RowKit
set_option linter.unusedVariables false
set_option maxRecDepth 100000
set_option maxHeartbeats 1000000
theorem rdo_any (B : Nat) (st bl k n len : Int) (v : Value) (xs : List Sh5) (hl : xs.length ≤ 1000) (w : World) (hs : ShAt B w v xs) :
    Calls Tryd.prog 9 #[jobV st bl k n len v] w fun e w' => e = .returned (resV st bl (doD k n len xs)) ∧ Below w.heap.size w w' := by
  obtain ⟨hb1, hb2⟩ := dec_bound k n xs
  have k0 := (Blk.new w #[.int .i64 st, .int .u32 bl, .int .i64 k, .int .i64 n, .int .i64 len, v] 30).alloc (.cells #[.int .i64 0, .int .u32 0, Str [], .int .i64 0] 35)
  have k1 := Blk.newAt (w := w.alloc (.cells #[.int .i64 st, .int .u32 bl, .int .i64 k, .int .i64 n, .int .i64 len, v] 30)) (n := w.heap.size + 1) (cs := #[.int .i64 0, .int .u32 0, Str [], .int .i64 0]) (t := 35) (by simp)
  have hB0 : Below w.heap.size w ((w.alloc (.cells #[.int .i64 st, .int .u32 bl, .int .i64 k, .int .i64 n, .int .i64 len, v] 30)).alloc (.cells #[.int .i64 0, .int .u32 0, Str [], .int .i64 0] 35)) := ((Below.refl _ w).alloc (Nat.le_refl _) _).alloc (by simp) _
  have HD := Lib.hid (rdecode_any B v xs k n hl _ (hs.chain hB0))
  unfold DecPost at HD
  obtain ⟨D, hD⟩ : ∃ D, doD k n len xs = D := ⟨_, rfl⟩
  have hdo : D = if (decM k n xs).2 ≠ 0 then ([], (decM k n xs).2) else joinC (decM k n xs).1 len := by rw [← hD]; rfl
  rw [hD]
  have HDO := Lib.hid hdo
  have HK := Lib.hid (And.intro k0 (And.intro k1 hB0))
  clear hdo hD k0 k1 hB0
  obtain ⟨a, cap, rfl, _⟩ := hs
  generalize decM k n xs = M at *
  obtain ⟨T, z⟩ := M
  have HL : Hid (T.length ≤ 32 ∧ T.flatten.length ≤ 32768) := Lib.hid (And.intro hb1 hb2)
  clear hb1 hb2
  unfold jobV resV
  go_enter Tryd.func9, Tryd.ntmps9
  obtain ⟨x1, x2, x3⟩ := HK.out.1.facts
  go_wp2_with fail
  refine HD.out.mono ?_
  rintro e w1 ⟨v1, rfl, hv1, hb1⟩
  obtain ⟨a1, c1, rfl, _⟩ := strs_at hv1
  have HV1 := Lib.hid hv1
  have k01 := HK.out.1.below hb1 HK.out.1.lt
  have k11 := HK.out.2.1.below hb1 HK.out.2.1.lt
  have HB1 := Lib.hid (Below.chain hb1 HK.out.2.2)
  clear hv1 hb1 x1 x2 x3
  obtain ⟨y1, y2, y3⟩ := k01.facts
  have y0 := y1 0
  have y1' := y1 1
  have y4 := y1 4
  obtain ⟨u1, u2, u3⟩ := k11.facts
  have r0 := u1 0
  have r1 := u1 1
  have r2 := u1 2
  have r3 := u1 3
  have f0 := u2 0
  have f1 := u2 1
  have f2 := u2 2
  have f3 := u2 3
  clear y1 u1 u2
  by_cases hz : z = 0
  · subst hz
    obtain rfl : D = joinC T len := by rw [HDO.out, if_neg (by simp)]
    have HJ := Lib.hid (rjoin_c 0 _ T len w1 HV1.out (by have := HL.out.1; omega) (by have := HL.out.2; omega))
    obtain ⟨J, hJe⟩ : ∃ J, joinC T len = J := ⟨_, rfl⟩
    rw [hJe] at HJ
    obtain ⟨s, z2⟩ := J
    have HJE := Lib.hid hJe
    clear hJe
    clear HDO
    go_wp2_with fail
    refine HJ.out.mono ?_
    rintro e w3 ⟨rfl, hd3⟩
    have hb3 := hd3.below
    replace k11 := k11.below hb3 k11.lt
    replace HB1 := Lib.hid (Below.chain hb3 HB1.out)
    replace k01 := k01.below hb3 k01.lt
    clear y0 y1' y4 r0 r1 r2 r3 f0 f1 f2 f3
    obtain ⟨y1, y2, y3⟩ := k01.facts
    have y0 := y1 0
    have y1' := y1 1
    have y4 := y1 4
    obtain ⟨u1, u2, u3⟩ := k11.facts
    have r0 := u1 0
    have r1 := u1 1
    have r2 := u1 2
    have r3 := u1 3
    have f0 := u2 0
    have f1 := u2 1
    have f2 := u2 2
    have f3 := u2 3
    clear y1 u1 u2 hb3 hd3
    go_wp2_with fail
    have q1 := Blk.setAt (Blk.setAt (Blk.setAt (Blk.setAt k11 0 (.int .i64 st) rfl) 1 (.int .u32 bl) rfl) 2 (Str s) rfl) 3 (.int .i64 z2) rfl
    have q2 := (((HB1.out.setCell (p := ⟨w.heap.size + 1, 0, none⟩) (Nat.le_succ _) (.int .i64 st)).setCell (p := ⟨w.heap.size + 1, 1, none⟩) (Nat.le_succ _) (.int .u32 bl)).setCell (p := ⟨w.heap.size + 1, 2, none⟩) (Nat.le_succ _) (Str s)).setCell (p := ⟨w.heap.size + 1, 3, none⟩) (Nat.le_succ _) (.int .i64 z2)
    generalize (((w3.setCell ⟨w.heap.size + 1, 0, none⟩ (.int .i64 st)).setCell ⟨w.heap.size + 1, 1, none⟩ (.int .u32 bl)).setCell ⟨w.heap.size + 1, 2, none⟩ (Str s)).setCell ⟨w.heap.size + 1, 3, none⟩ (.int .i64 z2) = W at *
    obtain ⟨c1, _, _⟩ := q1.facts
    have e0 : W.cell? ⟨w.heap.size + 1, 0, none⟩ = some (.int .i64 st) := c1 0
    have e1 : W.cell? ⟨w.heap.size + 1, 1, none⟩ = some (.int .u32 bl) := c1 1
    have e2 : W.cell? ⟨w.heap.size + 1, 2, none⟩ = some (Str s) := c1 2
    have e3 : W.cell? ⟨w.heap.size + 1, 3, none⟩ = some (.int .i64 z2) := c1 3
    refine bodyPost_ret (v := .agg #[.int .i64 st, .int .u32 bl, Str s, .int .i64 z2]) (by simp [results, Tryd.results9, go_sem, e0, e1, e2, e3]) rfl ⟨by rw [HJE.out], q2⟩
  · have hne : (z != 0) = true := by simpa using hz
    obtain rfl : D = ([], z) := by rw [HDO.out, if_pos hz]
    clear HDO
    go_wp2_with fail
    have q1 := Blk.setAt (Blk.setAt (Blk.setAt (Blk.setAt k11 0 (.int .i64 st) rfl) 1 (.int .u32 bl) rfl) 2 (Str []) rfl) 3 (.int .i64 z) rfl
    have q2 := (((HB1.out.setCell (p := ⟨w.heap.size + 1, 0, none⟩) (Nat.le_succ _) (.int .i64 st)).setCell (p := ⟨w.heap.size + 1, 1, none⟩) (Nat.le_succ _) (.int .u32 bl)).setCell (p := ⟨w.heap.size + 1, 2, none⟩) (Nat.le_succ _) (Str [])).setCell (p := ⟨w.heap.size + 1, 3, none⟩) (Nat.le_succ _) (.int .i64 z)
    generalize (((w1.setCell ⟨w.heap.size + 1, 0, none⟩ (.int .i64 st)).setCell ⟨w.heap.size + 1, 1, none⟩ (.int .u32 bl)).setCell ⟨w.heap.size + 1, 2, none⟩ (Str [])).setCell ⟨w.heap.size + 1, 3, none⟩ (.int .i64 z) = W at *
    obtain ⟨c1, _, _⟩ := q1.facts
    have e0 : W.cell? ⟨w.heap.size + 1, 0, none⟩ = some (.int .i64 st) := c1 0
    have e1 : W.cell? ⟨w.heap.size + 1, 1, none⟩ = some (.int .u32 bl) := c1 1
    have e2 : W.cell? ⟨w.heap.size + 1, 2, none⟩ = some (Str []) := c1 2
    have e3 : W.cell? ⟨w.heap.size + 1, 3, none⟩ = some (.int .i64 z) := c1 3
    refine bodyPost_ret (v := .agg #[.int .i64 st, .int .u32 bl, Str [], .int .i64 z]) (by simp [results, Tryd.results9, go_sem, e0, e1, e2, e3]) rfl ⟨rfl, q2⟩
def Few20 (xs : List Sh5) (w : World) (e : Ending) (w' : World) : Prop := ∃ b : Bool, e = .returned (.bool b) ∧ Below w.heap.size w w' ∧ (b = true → xs.length ≤ 30)
theorem few20_any (B : Nat) (st bl k n len : Int) (v : Value) (xs : List Sh5) (w : World) (hs : ShAt B w v xs) :
    Calls Tryd.prog 7 #[jobV st bl k n len v] w (Few20 xs w) := by
  have k0 := Blk.new w #[.int .i64 st, .int .u32 bl, .int .i64 k, .int .i64 n, .int .i64 len, v] 30
  have hB0 : Below w.heap.size w (w.alloc (.cells #[.int .i64 st, .int .u32 bl, .int .i64 k, .int .i64 n, .int .i64 len, v] 30)) := Below.chainAlloc (Below.refl _ _) _
  have hs1 := hs.chain hB0
  obtain ⟨a, cap, rfl, hm1, hm2, hc⟩ := hs1
  have hm : xs.length ≤ 9223372036854775807 := by unfold maxLen at hm2; omega
  unfold jobV
  obtain ⟨x1, x2, x3⟩ := k0.facts
  have y1 := x1 2
  have y4 := x1 5
  have HB := Lib.hid hB0
  have HC := Lib.hid hc
  clear x1 x2 k0 hB0 hc hs
  by_cases h1 : 30 < xs.length
  · have h1' : (30 : Int) < (xs.length : Int) := by omega
    go_enter Tryd.func7, Tryd.ntmps7
    go_wp2_with fail
    go_ret
    exact ⟨false, rfl, HB.out, fun e => by cases e⟩
  · have h1' : ¬ (30 : Int) < (xs.length : Int) := by omega
    have H30 : Hid (xs.length ≤ 30) := Lib.hid (by omega)
    by_cases hk : 12 < k ∧ k ≤ 32
    · obtain ⟨hk1, hk2⟩ := hk
      go_enter Tryd.func7, Tryd.ntmps7
      go_wp2_with fail
      go_ret
      exact ⟨false, rfl, HB.out, fun e => by cases e⟩
    · have main : 12 < k → ¬ k ≤ 32 := fun h h' => hk ⟨h, h'⟩
      clear hk
      by_cases hk1 : 12 < k
      all_goals
        first
          | (have hk2 := main hk1
             clear main)
          | clear main
        go_enter Tryd.func7, Tryd.ntmps7
        go_upto_region 3 with fail
        generalize w.alloc (.cells #[.int .i64 st, .int .u32 bl, .int .i64 k, .int .i64 n, .int .i64 len, .slice a xs.length cap] 30) = W at *
        go_wp2_with fail
        go_loopw [3] (fun i wr => ∃ m : Nat, m ≤ xs.length ∧ i = .int .i64 m ∧ wr = W) (fun i _ => xs.length - (intOf i).toNat)
        case atStart => exact ⟨0, by omega, rfl, rfl⟩
        case round =>
          obtain ⟨m, hm', rfl, rfl⟩ := hrel
          by_cases hlt : m < xs.length
          · rcases HC.out with e | ⟨g, off, rfl, hg, _, hcc⟩
            · rw [e] at hlt; simp at hlt
            obtain ⟨_, c1⟩ := hcc m hlt
            have hlt' : (m : Int) < (xs.length : Int) := by omega
            have HH := Lib.hid hlt
            clear hcc
            generalize xs[m].2 = x at *
            by_cases q2 : (40 : Int) < (x.length : Int)
            · go_wp2_with fail
              go_ret
              exact ⟨false, rfl, HB.out, fun e => by cases e⟩
            · go_wp2_with fail
              go_roundw
              case rel => exact ⟨m + 1, HH.out, by go_num, by first | rfl | trivial⟩
              case measure => have := HH.out; simp [intOf]; omega
          · have hlt' : ¬ (m : Int) < (xs.length : Int) := by omega
            go_wp2_with fail
            go_ret
            exact ⟨true, rfl, HB.out, fun _ => H30.out⟩
end Go.Proofs.YtelpkddgcmikfaaDoor
