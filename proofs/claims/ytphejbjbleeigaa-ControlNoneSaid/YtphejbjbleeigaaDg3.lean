/-
  Datagrams: just the fields that a kind has; what a kind asks; a kind's bytes: contracts (chapter 10).
-/
import Derived.Test.YtphejbjbleeigaaDg2
import Derived.Test.YtphejbjbleeigaaSeg
import Derived.Deep.RegionHeld3
namespace Go.Proofs.Ytphejbjbleeigaa
open Go.RowKit
set_option linter.unusedVariables false
set_option maxRecDepth 100000
set_option maxHeartbeats 1000000
attribute [local go_sem ↓] Go.wp_at_zero Go.wp_at_succ
abbrev dgv (kind stream block index k n len credit : Int) (hv body : List UInt8) : Value := .agg #[.int .i64 kind, .int .i64 stream, .int .u32 block, .int .i64 index, .int .i64 k, .int .i64 n, .int .i64 len, .int .i64 credit, Str hv, Str body]
def z10 : Array Value := #[.int .i64 0, .int .i64 0, .int .u32 0, .int .i64 0, .int .i64 0, .int .i64 0, .int .i64 0, .int .i64 0, .string ⟨#[]⟩, .string ⟨#[]⟩]
/-- The two blocks that are made first, behind a call. -/
theorem two_blocks {w w1 : World} {cs zs : Array Value} {t t' : TypeId} (hb : Below ((w.alloc (.cells cs t)).alloc (.cells zs t')).heap.size ((w.alloc (.cells cs t)).alloc (.cells zs t')) w1) :
    Blk w1 w.heap.size cs t ∧ Blk w1 (w.heap.size + 1) zs t' ∧ Below w.heap.size w w1 ∧ w.heap.size + 2 ≤ w1.heap.size := by
  have h1 := (Blk.new w cs t).alloc (.cells zs t')
  have h2 := Blk.new (w.alloc (.cells cs t)) zs t'
  rw [size_alloc] at h2
  have hs := hb.size
  have e : ((w.alloc (.cells cs t)).alloc (.cells zs t')).heap.size = w.heap.size + 2 := by rw [size_alloc, size_alloc]
  refine ⟨h1.below hb (by rw [e]; omega), h2.below hb (by rw [e]; omega), Below.chain hb (Below.chainAlloc (Below.chainAlloc (Below.refl _ _) _) _), by omega⟩
theorem cells10 {w : World} {b : Nat} {t : TypeId} {c0 c1 c2 c3 c4 c5 c6 c7 c8 c9 : Value} (v0 v1 v2 v3 v4 v5 v6 v7 v8 v9 : Value) (k : Blk w b #[c0, c1, c2, c3, c4, c5, c6, c7, c8, c9] t) :
    Blk ((((((((((w.setCell ⟨b, 0, none⟩ v0).setCell ⟨b, 1, none⟩ v1).setCell ⟨b, 2, none⟩ v2).setCell ⟨b, 3, none⟩ v3).setCell ⟨b, 4, none⟩ v4).setCell ⟨b, 5, none⟩ v5).setCell ⟨b, 6, none⟩ v6).setCell ⟨b, 7, none⟩ v7).setCell ⟨b, 8, none⟩ v8).setCell ⟨b, 9, none⟩ v9) b #[v0, v1, v2, v3, v4, v5, v6, v7, v8, v9] t := by
  have h := ((((((((((k.set 0 v0).set 1 v1).set 2 v2).set 3 v3).set 4 v4).set 5 v5).set 6 v6).set 7 v7).set 8 v8).set 9 v9)
  have e : ((((((((((#[c0, c1, c2, c3, c4, c5, c6, c7, c8, c9].setIfInBounds 0 v0).setIfInBounds 1 v1).setIfInBounds 2 v2).setIfInBounds 3 v3).setIfInBounds 4 v4).setIfInBounds 5 v5).setIfInBounds 6 v6).setIfInBounds 7 v7).setIfInBounds 8 v8).setIfInBounds 9 v9) = #[v0, v1, v2, v3, v4, v5, v6, v7, v8, v9] := by simp
  rw [e] at h
  exact h
theorem below10 {w0 w : World} {b : Nat} (v0 v1 v2 v3 v4 v5 v6 v7 v8 v9 : Value) (h : Below w0.heap.size w0 w) (hb : w0.heap.size ≤ b) :
    Below w0.heap.size w0 ((((((((((w.setCell ⟨b, 0, none⟩ v0).setCell ⟨b, 1, none⟩ v1).setCell ⟨b, 2, none⟩ v2).setCell ⟨b, 3, none⟩ v3).setCell ⟨b, 4, none⟩ v4).setCell ⟨b, 5, none⟩ v5).setCell ⟨b, 6, none⟩ v6).setCell ⟨b, 7, none⟩ v7).setCell ⟨b, 8, none⟩ v8).setCell ⟨b, 9, none⟩ v9) :=
  (((((((((h.setCell (p := ⟨b, 0, none⟩) hb v0).setCell (p := ⟨b, 1, none⟩) hb v1).setCell (p := ⟨b, 2, none⟩) hb v2).setCell (p := ⟨b, 3, none⟩) hb v3).setCell (p := ⟨b, 4, none⟩) hb v4).setCell (p := ⟨b, 5, none⟩) hb v5).setCell (p := ⟨b, 6, none⟩) hb v6).setCell (p := ⟨b, 7, none⟩) hb v7).setCell (p := ⟨b, 8, none⟩) hb v8).setCell (p := ⟨b, 9, none⟩) hb v9
theorem dg_end {f : Func} {w W : World} {b : Nat} {c0 c1 c2 c3 c4 c5 c6 c7 c8 c9 : Value} {A : Act} (hr : f.results = #[ResultVar.cell 2 24]) (kb : Blk W b #[c0, c1, c2, c3, c4, c5, c6, c7, c8, c9] 24) (hB : Below w.heap.size w W) (h2 : A.tmps[2]? = some (.pointer (some ⟨b, 0, none⟩))) (hd : A.defers = []) :
    bodyPost Try.prog f (RetB (.agg #[c0, c1, c2, c3, c4, c5, c6, c7, c8, c9]) w) Exit.ret A W := by
  have hc := kb.facts.1
  refine bodyPost_ret (v := .agg #[c0, c1, c2, c3, c4, c5, c6, c7, c8, c9]) ?_ hd ⟨rfl, hB⟩
  simp [results, hr, go_sem, h2, hc]
theorem own_nk (kind stream block index k n len credit : Int) (hv body : List UInt8) (w : World) : Calls Try.prog 137 #[.agg #[.int .i64 kind, .int .i64 stream, .int .u32 block, .int .i64 index, .int .i64 k, .int .i64 n, .int .i64 len, .int .i64 credit, Str hv, Str body]] w
    (RetB (.agg #[.int .i64 kind, .int .i64 stream, .int .u32 block, .int .i64 0, .int .i64 0, .int .i64 0, .int .i64 0, .int .i64 0, Str hv, .string ⟨#[]⟩]) w) := by
  go_enter Try.func137, Try.ntmps137
  go_wp2_with fail
  refine (head_any kind stream block index k n len credit hv body _).mono ?_
  rintro e w1 ⟨rfl, hb⟩
  obtain ⟨k1, k2, hB, hz⟩ := two_blocks hb
  obtain ⟨c1, f1, l1⟩ := k1.facts
  obtain ⟨c2, f2, l2⟩ := k2.facts
  have n1 : w.heap.size ≠ w1.heap.size := by omega
  have n2 : w.heap.size + 1 ≠ w1.heap.size := by omega
  clear hb
  go_wp2_with fail
  exact dg_end rfl ((cells10 _ _ _ _ _ _ _ _ _ _ k2).alloc _) (Below.chainAlloc (below10 _ _ _ _ _ _ _ _ _ _ hB (by omega)) _) rfl rfl
theorem own_ak (kind stream block index k n len credit : Int) (hv body : List UInt8) (w : World) : Calls Try.prog 141 #[.agg #[.int .i64 kind, .int .i64 stream, .int .u32 block, .int .i64 index, .int .i64 k, .int .i64 n, .int .i64 len, .int .i64 credit, Str hv, Str body]] w
    (RetB (.agg #[.int .i64 kind, .int .i64 stream, .int .u32 block, .int .i64 0, .int .i64 0, .int .i64 0, .int .i64 0, .int .i64 credit, .string ⟨#[]⟩, .string ⟨#[]⟩]) w) := by
  go_enter Try.func141, Try.ntmps141
  go_wp2_with fail
  refine (head_any kind stream block index k n len credit hv body _).mono ?_
  rintro e w1 ⟨rfl, hb⟩
  obtain ⟨k1, k2, hB, hz⟩ := two_blocks hb
  obtain ⟨c1, f1, l1⟩ := k1.facts
  obtain ⟨c2, f2, l2⟩ := k2.facts
  have n1 : w.heap.size ≠ w1.heap.size := by omega
  have n2 : w.heap.size + 1 ≠ w1.heap.size := by omega
  clear hb
  go_wp2_with fail
  exact dg_end rfl ((cells10 _ _ _ _ _ _ _ _ _ _ k2).alloc _) (Below.chainAlloc (below10 _ _ _ _ _ _ _ _ _ _ hB (by omega)) _) rfl rfl
theorem own_sh (kind stream block index k n len credit : Int) (hv body : List UInt8) (w : World) : Calls Try.prog 132 #[.agg #[.int .i64 kind, .int .i64 stream, .int .u32 block, .int .i64 index, .int .i64 k, .int .i64 n, .int .i64 len, .int .i64 credit, Str hv, Str body]] w
    (RetB (.agg #[.int .i64 kind, .int .i64 stream, .int .u32 block, .int .i64 index, .int .i64 k, .int .i64 n, .int .i64 len, .int .i64 0, .string ⟨#[]⟩, Str body]) w) := by
  go_enter Try.func132, Try.ntmps132
  go_wp2_with fail
  refine (head_any kind stream block index k n len credit hv body _).mono ?_
  rintro e w1 ⟨rfl, hb⟩
  obtain ⟨k1, k2, hB, hz⟩ := two_blocks hb
  obtain ⟨c1, f1, l1⟩ := k1.facts
  obtain ⟨c2, f2, l2⟩ := k2.facts
  have n1 : w.heap.size ≠ w1.heap.size := by omega
  have n2 : w.heap.size + 1 ≠ w1.heap.size := by omega
  clear hb
  go_wp2_with fail
  go_region_held3 (fun w' => w'.cell? ⟨w.heap.size, 3, none⟩ = some (.int .i64 index) ∧ w'.cell? ⟨w.heap.size, 4, none⟩ = some (.int .i64 k) ∧ w'.cell? ⟨w.heap.size, 5, none⟩ = some (.int .i64 n) ∧ w'.cell? ⟨w.heap.size, 6, none⟩ = some (.int .i64 len) ∧ w'.cell? ⟨w.heap.size, 9, none⟩ = some (Str body)) (go_keep) (fail)
  go_wp2_with fail
  exact dg_end rfl ((cells10 _ _ _ _ _ _ _ _ _ _ k2).alloc _).drew (Below.chainAlloc (below10 _ _ _ _ _ _ _ _ _ _ hB (by omega)) _).drew rfl rfl
end Go.Proofs.Ytphejbjbleeigaa
