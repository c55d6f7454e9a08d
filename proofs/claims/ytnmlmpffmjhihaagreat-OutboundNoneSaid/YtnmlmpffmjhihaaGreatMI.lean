/-
  Merged: More shards than needed: Decode (chapter 5).
-/
import Derived.Test.YtnmlmpffmjhihaaGreatMH
import Derived.Deep.DeepCutAuto
namespace Go.Proofs.YtnmlmpffmjhihaaGreat
open Go.RowKit
set_option linter.unusedVariables false
set_option maxRecDepth 100000
set_option maxHeartbeats 2000000
theorem infoInt5 : (Tryz.prog.info? 3).map (fun i => (i.zero, i.size, i.bytes)) = some (some (.int .i64 0), 1, 8) := by kernel_rfl
theorem Seg.grown {w w' : World} {base : Nat} {e : TypeId} {size : Nat} {v : Value} {n : Nat} {xs : List Value} {r : Option Nat} (h : Seg w base e size v n xs) (hg : w.grownBy w' r) (hn : ∀ g, v.ownBlock = some g → r ≠ some g) : Seg w' base e size v n xs :=
  h.same (fun g hv => hg.block g (h.blk g hv).2 (fun e => hn g hv e.symm))
def DecPost (k n : Int) (xs : List Sh5) (w : World) (e : Ending) (w' : World) : Prop := ∃ v', e = .returned (.tuple #[v', .int .i64 (decM k n xs).2]) ∧ SlAt 0 w' 9 v' ((decM k n xs).1.map Str) ∧ Below w.heap.size w w'
theorem DecPost.no {k n : Int} {xs : List Sh5} {w w' : World} {z : Int} (h : decM k n xs = ([], z)) (hb : Below w.heap.size w w') : DecPost k n xs w (.returned (.tuple #[.slice none 0 0, .int .i64 z])) w' :=
  ⟨_, by rw [h], by rw [h]; exact SlAt.nil _ _ _, hb⟩
theorem grown_cell {w w' : World} {r : Option Nat} (hg : w.grownBy w' r) (b o : Nat) (hb : b < w.heap.size) (hn : some b ≠ r) : w'.cell? ⟨b, o, none⟩ = w.cell? ⟨b, o, none⟩ := by
  unfold World.cell?
  rw [hg.block b hb hn]
/-- Two appends, one behind the other, each onto a slice of its own. -/
theorem two_apps {W0 W1 c1 wI c2 wS : World} {bt n : Nat} {vi vt : Value} {LI LT LI' LT' : List Value} {g1 o1 p1 g2 o2 p2 n' : Nat}
    (hc1 : Below W1.heap.size W1 c1) (gI : c1.grownBy wI vi.ownBlock) (hc2 : Below wI.heap.size wI c2) (gS : c2.grownBy wS vt.ownBlock)
    (SI : Seg W1 (bt + 1) 3 1 vi n LI) (ST : Seg W1 (bt + 1) 9 1 vt n LT) (sep : ∀ g, vi.ownBlock = some g → vt.ownBlock ≠ some g)
    (own1 : Seg wI (bt + 1) 3 1 (.slice (some ⟨g1, o1, none⟩) n' p1) n' LI') (own2 : Seg wS (bt + 1) 9 1 (.slice (some ⟨g2, o2, none⟩) n' p2) n' LT')
    (hat1 : vi.ownBlock = some g1 ∨ g1 = c1.heap.size) (hat2 : vt.ownBlock = some g2 ∨ g2 = c2.heap.size) (kbt : Blk W1 bt #[vt] 60) (hB : Below bt W0 W1) (hb : bt + 1 ≤ W1.heap.size) :
    Blk wS bt #[vt] 60 ∧ Seg wS (bt + 1) 3 1 (.slice (some ⟨g1, o1, none⟩) n' p1) n' LI' ∧ g1 ≠ g2 ∧ Below bt W0 wS ∧ bt + 1 ≤ wS.heap.size := by
  have hg1 := own1.blk g1 rfl
  have hg2 := own2.blk g2 rfl
  have s1 := hc1.size
  have s2 := gI.size
  have s3 := hc2.size
  have s4 := gS.size
  have hne : g1 ≠ g2 := by
    rcases hat2 with h2 | h2
    · have h3 := (ST.blk g2 h2).2
      rcases hat1 with h1 | h1
      · intro e
        subst e
        exact sep _ h1 h2
      · omega
    · omega
  have hI : ∀ g, vi.ownBlock = some g → bt + 1 ≤ g := fun g h => (SI.blk g h).1
  have hT : ∀ g, vt.ownBlock = some g → bt + 1 ≤ g := fun g h => (ST.blk g h).1
  have k1 : Blk wI bt #[vt] 60 := (kbt.below hc1 kbt.lt).grown gI (fun e => by have := hI _ e.symm; omega)
  have k2 : Blk wS bt #[vt] 60 := (k1.below hc2 k1.lt).grown gS (fun e => by have := hT _ e.symm; omega)
  refine ⟨k2, (own1.chain hc2).grown gS (fun g hg e => ?_), hne, ?_, by omega⟩
  · obtain rfl : g1 = g := by simpa [Value.ownBlock] using hg
    have h3 := (ST.blk g1 e).2
    rcases hat1 with h1 | h1
    · exact sep _ h1 e
    · omega
  · have b1 : Below bt W0 c1 := hB.trans (hc1.mono (by omega))
    have b2 : Below bt W0 wI := b1.grown gI (by omega) (fun g hg => by have := hI _ hg; omega)
    have b3 : Below bt W0 c2 := b2.trans (hc2.mono (by omega))
    exact b3.grown gS (by omega) (fun g hg => by have := hT _ hg; omega)
theorem pick_facts5 (k n : Nat) (xs : List Nat) (hk1 : 1 ≤ k) (hkn : k ≤ n) (hn : n ≤ 255) (h1 : 1 ≤ xs.length) (h2 : xs.length ≤ 255) (hb : ∀ x ∈ xs, x < n) : pickE (k : Nat) (n : Nat) (xs.map fun (i : Nat) => (i : Int)) = 0 ∧ picks (k : Nat) (n : Nat) (xs.map fun (i : Nat) => (i : Int)) 0 = pickT k xs := by
  have hbad : badKN (k : Int) (n : Int) = false := by simp [badKN]; omega
  have hrow : ∀ x ∈ xs, rowE (k : Int) (n : Int) (x : Int) = 0 := fun x hx => by
    have := hb x hx
    unfold rowE
    rw [hbad, if_neg (by decide), if_neg (by omega)]
  refine ⟨?_, ?_⟩
  · rw [pickE_ok hbad (by simpa using h1) (by simpa using h2)]
    clear h1 h2 hb
    induction xs with
    | nil => rfl
    | cons x xs ih =>
      rw [List.map_cons]
      unfold firstE
      rw [if_pos (hrow x (by simp))]
      exact ih (fun y hy => hrow y (by simp [hy]))
  · unfold picks pickT
    rw [if_pos rfl, List.map_map]
    refine List.map_congr_left (fun x hx => ?_)
    show rowV k n (x : Int) = rowL k x
    unfold rowV
    rw [if_pos (hrow x hx)]
    rfl
/-- What holds ahead of each round of Decode's loop. -/
def DecRel (K : Nat) (q : List Sh5) (bt : Nat) (w2 : World) (vi i : Value) (wr : World) : Prop :=
  ∃ (j : Nat) (vt : Value), j ≤ K ∧ i = .int .i64 j ∧ Hid (Seg wr (bt + 1) 3 1 vi j (((idx5 q).take j).map fun (a : Nat) => Value.int .i64 (a : Int))) ∧ Hid (Blk wr bt #[vt] 60) ∧
    Hid (Seg wr (bt + 1) 9 1 vt j (((txt5 q).take j).map Str)) ∧ Hid (∀ g, vi.ownBlock = some g → vt.ownBlock ≠ some g) ∧ Hid (Below w2.heap.size w2 wr) ∧ bt + 1 ≤ wr.heap.size
theorem dec_step {K j : Nat} {q : List Sh5} {bt g1 o1 p1 g2 o2 p2 : Nat} {w2 wS : World} {vt i : Value} {LI LT : List Value}
    (TA : Blk wS bt #[vt] 60 ∧ Seg wS (bt + 1) 3 1 (.slice (some ⟨g1, o1, none⟩) (j + 1) p1) (j + 1) LI ∧ g1 ≠ g2 ∧ Below bt w2 wS ∧ bt + 1 ≤ wS.heap.size)
    (own2 : Seg wS (bt + 1) 9 1 (.slice (some ⟨g2, o2, none⟩) (j + 1) p2) (j + 1) LT) (hK : j < K)
    (hLI : ((idx5 q).take (j + 1)).map (fun (a : Nat) => Value.int .i64 (a : Int)) = LI) (hLT : ((txt5 q).take (j + 1)).map Str = LT) (hbt : w2.heap.size = bt) (hi : i = .int .i64 ((j + 1 : Nat) : Int)) :
    DecRel K q bt w2 (.slice (some ⟨g1, o1, none⟩) (j + 1) p1) i (wS.setCell ⟨bt, 0, none⟩ (.slice (some ⟨g2, o2, none⟩) (j + 1) p2)) := by
  obtain ⟨ta1, ta2, ta3, ta4, ta5⟩ := TA
  subst hLI hLT
  refine ⟨j + 1, _, hK, hi, Lib.hid (ta2.setOther _ _ (fun g hg => ?_)), Lib.hid (Blk.setAt ta1 0 _ rfl), Lib.hid (own2.setOther _ _ (fun g hg => ?_)), Lib.hid (fun g h e => ta3 ((Option.some.inj h).trans (Option.some.inj e).symm)), Lib.hid ?_, by simp; omega⟩
  · have := (ta2.blk g hg).1
    simp
    omega
  · have := (own2.blk g hg).1
    simp
    omega
  · rw [hbt]
    exact ta4.setCell (p := ⟨bt, 0, none⟩) (Nat.le_refl _) _
theorem dec_li {n : Int} {L : Nat} {q : List Sh5} (h : Good5 n L q) {j : Nat} (hj : j < q.length) {z : Int} {s : List UInt8} (hz : q[j] = (z, s)) :
    ((idx5 q).take (j + 1)).map (fun (a : Nat) => Value.int .i64 (a : Int)) = ((idx5 q).take j).map (fun (a : Nat) => Value.int .i64 (a : Int)) ++ [.int .i64 z] := by
  unfold idx5
  have hl : j < (q.map fun x => x.1.toNat).length := by simpa using hj
  have h2 := (h.num q[j] (List.getElem_mem hj)).1
  rw [hz] at h2
  rw [List.take_succ_eq_append_getElem hl, List.map_append, List.map_singleton, List.getElem_map, hz, Int.toNat_of_nonneg h2]
theorem dec_ls {q : List Sh5} {j : Nat} (hj : j < q.length) {z : Int} {s : List UInt8} (hz : q[j] = (z, s)) :
    ((txt5 q).take (j + 1)).map Str = ((txt5 q).take j).map Str ++ [Str s] := by
  unfold txt5
  have hl : j < (q.map (·.2)).length := by simpa using hj
  rw [List.take_succ_eq_append_getElem hl, List.map_append, List.map_singleton, List.getElem_map, hz]
end Go.Proofs.YtnmlmpffmjhihaaGreat
