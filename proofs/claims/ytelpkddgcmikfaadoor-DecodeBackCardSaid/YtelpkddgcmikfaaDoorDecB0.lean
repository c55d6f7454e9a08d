/-
  Blocks out of shards: what comes back of a text's shards: plain; the law's loop (chapter 20).
-/
import Derived.Test.YtelpkddgcmikfaaDoorDec8
namespace Go.Proofs.YtelpkddgcmikfaaDoor
open Go.RowKit
set_option linter.unusedVariables false
set_option maxRecDepth 100000
set_option maxHeartbeats 1000000
/-- Which numbers came. -/
def haveC (d : List Nat) : Array Value := ((List.range 256).map fun (i : Nat) => Value.bool (decide (i ∈ d))).toArray
theorem haveC_get (d : List Nat) (i : Nat) (h : i < 256) : (haveC d)[i]? = some (.bool (decide (i ∈ d))) := by
  unfold haveC
  simp [h]
theorem haveC_set (d : List Nat) (i : Nat) : haveC (d ++ [i]) = (haveC d).setIfInBounds i (.bool true) := by
  apply Array.ext
  · simp [haveC]
  · intro j h1 h2
    have hj : j < 256 := by simpa [haveC] using h1
    rw [Array.getElem_setIfInBounds (by simpa [haveC] using hj)]
    by_cases e : i = j
    · subst e
      simp [haveC]
    · rw [if_neg e]
      have e2 : ¬ j = i := fun h => e h.symm
      simp [haveC, e2]
theorem haveC_nil : haveC [] = Array.replicate 256 (.bool false) := by
  apply Array.ext
  · simp [haveC]
  · intro j h1 h2
    simp [haveC]
/-- What holds ahead of each round of the law's loop. -/
def BackRel (N : Nat) (F : Nat → List UInt8) (xs : List Nat) (bh : Nat) (w1 : World) (vg vs i : Value) (wr : World) : Prop :=
  ∃ (j : Nat) (d : List Nat), j ≤ xs.length ∧ i = .int .i64 j ∧ vs = .int .i64 ((oneN d).length : Nat) ∧ Hid (d = (xs.take j).map (· % N)) ∧
    Hid (Seg wr (bh + 1) 50 2 vg j (cells5 (d.map (sh5 F)))) ∧ Hid (Blk wr bh (haveC (oneN d)) 48) ∧ Hid (Below w1.heap.size w1 wr) ∧ bh + 1 ≤ wr.heap.size
theorem back_take {N j : Nat} {xs d : List Nat} (hj : j < xs.length) (h : d = (xs.take j).map (· % N)) : d ++ [xs[j] % N] = (xs.take (j + 1)).map (· % N) := by
  rw [List.take_succ_eq_append_getElem hj, List.map_append, ← h, List.map_singleton]
section
variable {N j t : Nat} {F : Nat → List UInt8} {xs d : List Nat} {w1 wr w3 : World} {s : List UInt8} {ag : Option Addr} {cg g' off' cap' : Nat} {i vs : Value}
theorem back_below (hSG : Seg wr (w1.heap.size + 1) 50 2 (.slice ag j cg) j (cells5 (d.map (sh5 F)))) (HBW : Below w1.heap.size w1 wr)
    (hgrow : (wr.alloc (.cells #[.int .i64 (t : Int), Str s] 50)).grownBy w3 (Value.slice ag j cg).ownBlock) : Below w1.heap.size w1 w3 := by
  have q2 := Below.chainAlloc HBW (.cells #[.int .i64 (t : Int), Str s] 50)
  exact q2.grown hgrow q2.size (fun g hg => by have := (hSG.blk g hg).1; omega)
theorem back_old (HTK : d ++ [t] = (xs.take (j + 1)).map (· % N)) (HFS : F t = s) (hlt : j < xs.length) (hSG : Seg wr (w1.heap.size + 1) 50 2 (.slice ag j cg) j (cells5 (d.map (sh5 F)))) (HBW : Below w1.heap.size w1 wr)
    (hown : Seg w3 (w1.heap.size + 1) 50 2 (.slice (some ⟨g', off', none⟩) (j + 1) cap') (j + 1) (cells5 (d.map (sh5 F)) ++ [.int .i64 (t : Int), Str s]))
    (hgrow : (wr.alloc (.cells #[.int .i64 (t : Int), Str s] 50)).grownBy w3 (Value.slice ag j cg).ownBlock) (hH3 : Blk w3 w1.heap.size (haveC (oneN d)) 48) (hmem : t ∈ oneN d) (hsz : w1.heap.size + 1 ≤ wr.heap.size) (hi : i = .int .i64 ((j + 1 : Nat) : Int)) :
    BackRel N F xs w1.heap.size w1 (.slice (some ⟨g', off', none⟩) (j + 1) cap') (.int .i64 ((oneN d).length : Nat)) i w3 := by
  have ho : oneN (d ++ [t]) = oneN d := by rw [oneN_snoc]; unfold oneStep; rw [if_pos hmem]
  refine ⟨j + 1, d ++ [t], hlt, hi, by rw [ho], Lib.hid HTK, Lib.hid ?_, Lib.hid (by rw [ho]; exact hH3), Lib.hid (back_below hSG HBW hgrow), ?_⟩
  · rw [List.map_append, List.map_singleton, cells5_snoc]
    unfold sh5
    rw [HFS]
    exact hown
  · have := hgrow.size
    simp at this
    omega
theorem back_new (HTK : d ++ [t] = (xs.take (j + 1)).map (· % N)) (HFS : F t = s) (hlt : j < xs.length) (hSG : Seg wr (w1.heap.size + 1) 50 2 (.slice ag j cg) j (cells5 (d.map (sh5 F)))) (HBW : Below w1.heap.size w1 wr)
    (hown : Seg w3 (w1.heap.size + 1) 50 2 (.slice (some ⟨g', off', none⟩) (j + 1) cap') (j + 1) (cells5 (d.map (sh5 F)) ++ [.int .i64 (t : Int), Str s]))
    (hgrow : (wr.alloc (.cells #[.int .i64 (t : Int), Str s] 50)).grownBy w3 (Value.slice ag j cg).ownBlock) (hH3 : Blk w3 w1.heap.size (haveC (oneN d)) 48) (hmem : ¬ t ∈ oneN d) (hsz : w1.heap.size + 1 ≤ wr.heap.size) (hi : i = .int .i64 ((j + 1 : Nat) : Int)) (hvs : vs = .int .i64 (((oneN d).length + 1 : Nat) : Int)) :
    BackRel N F xs w1.heap.size w1 (.slice (some ⟨g', off', none⟩) (j + 1) cap') vs i (w3.setCell ⟨w1.heap.size, t, none⟩ (.bool true)) := by
  have ho : oneN (d ++ [t]) = oneN d ++ [t] := by rw [oneN_snoc]; unfold oneStep; rw [if_neg hmem]
  refine ⟨j + 1, d ++ [t], hlt, hi, by rw [ho, hvs]; simp, Lib.hid HTK, Lib.hid ?_, Lib.hid (by rw [ho, haveC_set]; exact Blk.setAt hH3 t _ rfl), Lib.hid ((back_below hSG HBW hgrow).setCell (p := ⟨w1.heap.size, t, none⟩) (Nat.le_refl _) _), ?_⟩
  · rw [List.map_append, List.map_singleton, cells5_snoc]
    unfold sh5
    rw [HFS]
    exact hown.setOther _ _ (fun g hg e => by
      have := (hown.blk g hg).1
      simp at e
      omega)
  · have := hgrow.size
    simp at this ⊢
    omega
end
theorem back_gen {N j t : Nat} {F : Nat → List UInt8} {xs d : List Nat} {w1 W' w3 : World} {s : List UInt8} {ag : Option Addr} {cg g' off' cap' : Nat} {i vs : Value}
    (HTK : d ++ [t] = (xs.take (j + 1)).map (· % N)) (HFS : F t = s) (hlt : j < xs.length) (hSG : Seg W' (w1.heap.size + 1) 50 2 (.slice ag j cg) j (cells5 (d.map (sh5 F)))) (HBW : Below w1.heap.size w1 W')
    (hown : Seg w3 (w1.heap.size + 1) 50 2 (.slice (some ⟨g', off', none⟩) (j + 1) cap') (j + 1) (cells5 (d.map (sh5 F)) ++ [.int .i64 (t : Int), Str s]))
    (hgrow : (W'.alloc (.cells #[.int .i64 (t : Int), Str s] 50)).grownBy w3 (Value.slice ag j cg).ownBlock) (hH : Blk W' w1.heap.size (haveC (oneN (d ++ [t]))) 48) (hsz : w1.heap.size + 1 ≤ W'.heap.size)
    (hi : i = .int .i64 ((j + 1 : Nat) : Int)) (hvs : vs = .int .i64 ((oneN (d ++ [t])).length : Nat)) : BackRel N F xs w1.heap.size w1 (.slice (some ⟨g', off', none⟩) (j + 1) cap') vs i w3 := by
  refine ⟨j + 1, d ++ [t], hlt, hi, hvs, Lib.hid HTK, Lib.hid ?_, Lib.hid ((hH.alloc _).grown hgrow (fun e => by have := (hSG.blk _ e.symm).1; omega)), Lib.hid (back_below hSG HBW hgrow), ?_⟩
  · rw [List.map_append, List.map_singleton, cells5_snoc]
    unfold sh5
    rw [HFS]
    exact hown
  · have := hgrow.size
    simp at this
    omega
theorem one_old {d : List Nat} {t : Nat} (h : t ∈ oneN d) : oneN (d ++ [t]) = oneN d := by rw [oneN_snoc]; unfold oneStep; rw [if_pos h]
theorem one_new {d : List Nat} {t : Nat} (h : ¬ t ∈ oneN d) : oneN (d ++ [t]) = oneN d ++ [t] := by rw [oneN_snoc]; unfold oneStep; rw [if_neg h]
/-- What a job says of a text's shards. -/
theorem doD_back {s : List UInt8} {k rep : Int} (h : shE s k rep = 0) {N : Nat} (hN : ((shM s k : Nat) : Int) + rep = (N : Int)) (d : List Nat) (hd : ∀ a ∈ d, a < N) :
    doD (shM s k : Nat) (N : Nat) (s.length : Nat) (d.map (sh5 (shardS (shM s k) (cutT s (shM s k : Nat))))) = if (oneN d).length < shM s k then ([], 15) else (s, 0) := by
  obtain ⟨n, e, e2, e3, e4, hm⟩ := sh_may h
  obtain ⟨q1, q2, _, _, _⟩ := sh_cut h
  have hl : (cutT s (shM s k : Nat)).length = shM s k := by rw [e]; exact parts_len _ _ _
  rw [hN] at hm
  have h1 := dec_back (cutT s (shM s k : Nat)) N d hm hd
  rw [hl] at h1
  unfold doD
  rw [h1]
  by_cases hlt : (oneN d).length < shM s k
  · rw [if_pos hlt, if_pos hlt]
    rfl
  · rw [if_neg hlt, if_neg hlt, if_neg (by simp)]
    show joinC (cutT s (shM s k : Nat)) (s.length : Nat) = (s, 0)
    rw [e]
    exact join_back s n (shM s k) q1 e2
theorem shT_eq {s : List UInt8} {k rep : Int} (h : shE s k rep = 0) {N : Nat} (hN : ((shM s k : Nat) : Int) + rep = (N : Int)) : shT s k rep = (List.range N).map (shardS (shM s k) (cutT s (shM s k : Nat))) := by
  obtain ⟨n, e, e2, e3, e4, hm⟩ := sh_may h
  have hl : (cutT s (shM s k : Nat)).length = shM s k := by rw [e]; exact parts_len _ _ _
  unfold shT
  rw [if_pos h]
  unfold encS
  rw [if_pos hm, hN, Int.toNat_natCast, hl]
end Go.Proofs.YtelpkddgcmikfaaDoor
