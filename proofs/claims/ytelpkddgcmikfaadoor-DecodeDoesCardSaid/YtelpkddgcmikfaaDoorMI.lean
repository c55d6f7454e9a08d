/-
  Merged: More shards than needed: Decode (chapter 5).
-/
import Derived.Test.YtelpkddgcmikfaaDoorMH
import Derived.Deep.DeepCutAuto
namespace Go.Proofs.YtelpkddgcmikfaaDoor
open Go.RowKit
set_option linter.unusedVariables false
set_option maxRecDepth 100000
set_option maxHeartbeats 2000000
theorem infoInt5 : (Tryd.prog.info? 3).map (fun i => (i.zero, i.size, i.bytes)) = some (some (.int .i64 0), 1, 8) := by kernel_rfl
theorem Seg.grown {w w' : World} {base : Nat} {e : TypeId} {size : Nat} {v : Value} {n : Nat} {xs : List Value} {r : Option Nat} (h : Seg w base e size v n xs) (hg : w.grownBy w' r) (hn : ∀ g, v.ownBlock = some g → r ≠ some g) : Seg w' base e size v n xs :=
  h.same (fun g hv => hg.block g (h.blk g hv).2 (fun e => hn g hv e.symm))
def DecPost (k n : Int) (xs : List Sh5) (w : World) (e : Ending) (w' : World) : Prop := ∃ v', e = .returned (.tuple #[v', .int .i64 (decM k n xs).2]) ∧ SlAt 0 w' 9 v' ((decM k n xs).1.map Str) ∧ Below w.heap.size w w'
theorem DecPost.no {k n : Int} {xs : List Sh5} {w w' : World} {z : Int} (h : decM k n xs = ([], z)) (hb : Below w.heap.size w w') : DecPost k n xs w (.returned (.tuple #[.slice none 0 0, .int .i64 z])) w' :=
  ⟨_, by rw [h], by rw [h]; exact SlAt.nil _ _ _, hb⟩
theorem ShAt.take {B : Nat} {w : World} {a : Option Addr} {n cap : Nat} {xs : List Sh5} (h : ShAt B w (.slice a n cap) xs) (k : Nat) (hk : k ≤ xs.length) : ShAt B w (.slice a k cap) (xs.take k) := by
  obtain ⟨a', cap', hv, h1, h2, h3⟩ := h
  cases hv
  refine ⟨_, _, by rw [List.length_take, Nat.min_eq_left hk], by rw [List.length_take]; omega, h2, ?_⟩
  rcases h3 with rfl | ⟨g, off, ha, hg, hB, hc⟩
  · exact .inl (by simp)
  · refine .inr ⟨g, off, ha, hg, hB, fun i hi => ?_⟩
    have hi' : i < xs.length := by rw [List.length_take] at hi; omega
    simp only [List.getElem_take]
    exact hc i hi'
theorem grown_cell {w w' : World} {r : Option Nat} (hg : w.grownBy w' r) (b o : Nat) (hb : b < w.heap.size) (hn : some b ≠ r) : w'.cell? ⟨b, o, none⟩ = w.cell? ⟨b, o, none⟩ := by
  unfold World.cell?
  rw [hg.block b hb hn]
/-- Two appends, one behind the other, each onto a slice of its own. -/
theorem two_apps {W0 W1 c1 wI c2 wS : World} {bt n : Nat} {vi vt : Value} {LI LT LI' LT' : List Value} {g1 o1 p1 g2 o2 p2 n' : Nat}
    (hc1 : Below W1.heap.size W1 c1) (gI : c1.grownBy wI vi.ownBlock) (hc2 : Below wI.heap.size wI c2) (gS : c2.grownBy wS vt.ownBlock)
    (SI : Seg W1 (bt + 1) 3 1 vi n LI) (ST : Seg W1 (bt + 1) 9 1 vt n LT) (sep : ∀ g, vi.ownBlock = some g → vt.ownBlock ≠ some g)
    (own1 : Seg wI (bt + 1) 3 1 (.slice (some ⟨g1, o1, none⟩) n' p1) n' LI') (own2 : Seg wS (bt + 1) 9 1 (.slice (some ⟨g2, o2, none⟩) n' p2) n' LT')
    (hat1 : vi.ownBlock = some g1 ∨ g1 = c1.heap.size) (hat2 : vt.ownBlock = some g2 ∨ g2 = c2.heap.size) (kbt : Blk W1 bt #[vt] 38) (hB : Below bt W0 W1) (hb : bt + 1 ≤ W1.heap.size) :
    Blk wS bt #[vt] 38 ∧ Seg wS (bt + 1) 3 1 (.slice (some ⟨g1, o1, none⟩) n' p1) n' LI' ∧ g1 ≠ g2 ∧ Below bt W0 wS ∧ bt + 1 ≤ wS.heap.size := by
  have hg1 := own1.blk g1 rfl
  have hg2 := own2.blk g2 rfl
  have s1 := hc1.size
  have s2 := gI.size
  have s3 := hc2.size
  have s4 := gS.size
  have hne : g1 ≠ g2 := by
    rcases hat2 with h2 | h2
    · have h3 := (ST.blk g2 h2).2
      rcases hat1 with h1 | h1
      · intro e
        subst e
        exact sep _ h1 h2
      · omega
    · omega
  have hI : ∀ g, vi.ownBlock = some g → bt + 1 ≤ g := fun g h => (SI.blk g h).1
  have hT : ∀ g, vt.ownBlock = some g → bt + 1 ≤ g := fun g h => (ST.blk g h).1
  have k1 : Blk wI bt #[vt] 38 := (kbt.below hc1 kbt.lt).grown gI (fun e => by have := hI _ e.symm; omega)
  have k2 : Blk wS bt #[vt] 38 := (k1.below hc2 k1.lt).grown gS (fun e => by have := hT _ e.symm; omega)
  refine ⟨k2, (own1.chain hc2).grown gS (fun g hg e => ?_), hne, ?_, by omega⟩
  · obtain rfl : g1 = g := by simpa [Value.ownBlock] using hg
    have h3 := (ST.blk g1 e).2
    rcases hat1 with h1 | h1
    · exact sep _ h1 e
    · omega
  · have b1 : Below bt W0 c1 := hB.trans (hc1.mono (by omega))
    have b2 : Below bt W0 wI := b1.grown gI (by omega) (fun g hg => by have := hI _ hg; omega)
    have b3 : Below bt W0 c2 := b2.trans (hc2.mono (by omega))
    exact b3.grown gS (by omega) (fun g hg => by have := hT _ hg; omega)
theorem pick_facts5 (k n : Nat) (xs : List Nat) (hk1 : 1 ≤ k) (hkn : k ≤ n) (hn : n ≤ 255) (h1 : 1 ≤ xs.length) (h2 : xs.length ≤ 255) (hb : ∀ x ∈ xs, x < n) : pickE (k : Nat) (n : Nat) (xs.map fun (i : Nat) => (i : Int)) = 0 ∧ picks (k : Nat) (n : Nat) (xs.map fun (i : Nat) => (i : Int)) 0 = pickT k xs := by
  have hbad : badKN (k : Int) (n : Int) = false := by simp [badKN]; omega
  have hrow : ∀ x ∈ xs, rowE (k : Int) (n : Int) (x : Int) = 0 := fun x hx => by
    have := hb x hx
    unfold rowE
    rw [hbad, if_neg (by decide), if_neg (by omega)]
  refine ⟨?_, ?_⟩
  · rw [pickE_ok hbad (by simpa using h1) (by simpa using h2)]
    clear h1 h2 hb
    induction xs with
    | nil => rfl
    | cons x xs ih =>
      rw [List.map_cons]
      unfold firstE
      rw [if_pos (hrow x (by simp))]
      exact ih (fun y hy => hrow y (by simp [hy]))
  · unfold picks pickT
    rw [if_pos rfl, List.map_map]
    refine List.map_congr_left (fun x hx => ?_)
    show rowV k n (x : Int) = rowL k x
    unfold rowV
    rw [if_pos (hrow x hx)]
    rfl
/-- What holds ahead of each round of Decode's loop. -/
def DecRel (K : Nat) (q : List Sh5) (bt : Nat) (w2 : World) (vi i : Value) (wr : World) : Prop :=
  ∃ (j : Nat) (vt : Value), j ≤ K ∧ i = .int .i64 j ∧ Hid (Seg wr (bt + 1) 3 1 vi j (((idx5 q).take j).map fun (a : Nat) => Value.int .i64 (a : Int))) ∧ Hid (Blk wr bt #[vt] 38) ∧
    Hid (Seg wr (bt + 1) 9 1 vt j (((txt5 q).take j).map Str)) ∧ Hid (∀ g, vi.ownBlock = some g → vt.ownBlock ≠ some g) ∧ Hid (Below w2.heap.size w2 wr) ∧ bt + 1 ≤ wr.heap.size
theorem dec_step {K j : Nat} {q : List Sh5} {bt g1 o1 p1 g2 o2 p2 : Nat} {w2 wS : World} {vt i : Value} {LI LT : List Value}
    (TA : Blk wS bt #[vt] 38 ∧ Seg wS (bt + 1) 3 1 (.slice (some ⟨g1, o1, none⟩) (j + 1) p1) (j + 1) LI ∧ g1 ≠ g2 ∧ Below bt w2 wS ∧ bt + 1 ≤ wS.heap.size)
    (own2 : Seg wS (bt + 1) 9 1 (.slice (some ⟨g2, o2, none⟩) (j + 1) p2) (j + 1) LT) (hK : j < K)
    (hLI : ((idx5 q).take (j + 1)).map (fun (a : Nat) => Value.int .i64 (a : Int)) = LI) (hLT : ((txt5 q).take (j + 1)).map Str = LT) (hbt : w2.heap.size = bt) (hi : i = .int .i64 ((j + 1 : Nat) : Int)) :
    DecRel K q bt w2 (.slice (some ⟨g1, o1, none⟩) (j + 1) p1) i (wS.setCell ⟨bt, 0, none⟩ (.slice (some ⟨g2, o2, none⟩) (j + 1) p2)) := by
  obtain ⟨ta1, ta2, ta3, ta4, ta5⟩ := TA
  subst hLI hLT
  refine ⟨j + 1, _, hK, hi, Lib.hid (ta2.setOther _ _ (fun g hg => ?_)), Lib.hid (Blk.setAt ta1 0 _ rfl), Lib.hid (own2.setOther _ _ (fun g hg => ?_)), Lib.hid (fun g h e => ta3 ((Option.some.inj h).trans (Option.some.inj e).symm)), Lib.hid ?_, by simp; omega⟩
  · have := (ta2.blk g hg).1
    simp
    omega
  · have := (own2.blk g hg).1
    simp
    omega
  · rw [hbt]
    exact ta4.setCell (p := ⟨bt, 0, none⟩) (Nat.le_refl _) _
theorem dec_li {n : Int} {L : Nat} {q : List Sh5} (h : Good5 n L q) {j : Nat} (hj : j < q.length) {z : Int} {s : List UInt8} (hz : q[j] = (z, s)) :
    ((idx5 q).take (j + 1)).map (fun (a : Nat) => Value.int .i64 (a : Int)) = ((idx5 q).take j).map (fun (a : Nat) => Value.int .i64 (a : Int)) ++ [.int .i64 z] := by
  unfold idx5
  have hl : j < (q.map fun x => x.1.toNat).length := by simpa using hj
  have h2 := (h.num q[j] (List.getElem_mem hj)).1
  rw [hz] at h2
  rw [List.take_succ_eq_append_getElem hl, List.map_append, List.map_singleton, List.getElem_map, hz, Int.toNat_of_nonneg h2]
theorem dec_ls {q : List Sh5} {j : Nat} (hj : j < q.length) {z : Int} {s : List UInt8} (hz : q[j] = (z, s)) :
    ((txt5 q).take (j + 1)).map Str = ((txt5 q).take j).map Str ++ [Str s] := by
  unfold txt5
  have hl : j < (q.map (·.2)).length := by simpa using hj
  rw [List.take_succ_eq_append_getElem hl, List.map_append, List.map_singleton, List.getElem_map, hz]
theorem decode_any (B : Nat) (v : Value) (xs : List Sh5) (k n : Int) (hl : xs.length ≤ 1000) (w : World) (hs : ShAt B w v xs) :
    Calls Tryd.prog 26 #[.int .i64 k, .int .i64 n, v] w (DecPost k n xs w) := by
  by_cases hbad : badD k n = true
  · have hd : decM k n xs = ([], 1) := by unfold decM; rw [if_pos hbad]
    refine Calls.mono (R := fun e w' => e = .returned (.tuple #[.slice none 0 0, .int .i64 1]) ∧ w' = w) ?_ (fun e w' h => by obtain ⟨rfl, rfl⟩ := h; exact DecPost.no hd (Below.refl _ _))
    obtain ⟨a, cap, rfl, _⟩ := hs
    clear hd
    unfold badD at hbad
    by_cases h1 : k < 1
    · clear hbad
      go_enter Tryd.func26, Tryd.ntmps26
      go_wp2_with fail
      go_ret2
      exact ⟨rfl, rfl⟩
    · by_cases h2 : 32 < k
      · clear hbad
        go_enter Tryd.func26, Tryd.ntmps26
        go_wp2_with fail
        go_ret2
        exact ⟨rfl, rfl⟩
      · by_cases h3 : n < k
        · clear hbad
          go_enter Tryd.func26, Tryd.ntmps26
          go_wp2_with fail
          go_ret2
          exact ⟨rfl, rfl⟩
        · have h4 : 255 < n := by simpa [h1, h2, h3] using hbad
          clear hbad
          go_enter Tryd.func26, Tryd.ntmps26
          go_wp2_with fail
          go_ret2
          exact ⟨rfl, rfl⟩
  · have hb := hbad
    simp only [badD, Bool.or_eq_true, decide_eq_true_eq] at hb
    obtain ⟨K, rfl⟩ : ∃ K : Nat, k = K := ⟨k.toNat, by omega⟩
    obtain ⟨N, rfl⟩ : ∃ N : Nat, n = N := ⟨n.toNat, by omega⟩
    have g1 : ¬ (K : Int) < 1 := by omega
    have g2 : ¬ (32 : Int) < (K : Int) := by omega
    have g3 : ¬ (N : Int) < (K : Int) := by omega
    have g4 : ¬ (255 : Int) < (N : Int) := by omega
    have HU := Lib.hid (unl_any B v xs N (by omega) hl w hs)
    have HM : Hid (decM (K : Int) (N : Int) xs = if (unlM (N : Int) xs).2 ≠ 0 then ([], (unlM (N : Int) xs).2) else if ((unlM (N : Int) xs).1.length : Int) < (K : Int) then ([], 15) else (decD K ((unlM (N : Int) xs).1.take K), 0)) := Lib.hid (by
      unfold decM
      rw [if_neg hbad, Int.toNat_natCast])
    have HG : Hid ((unlM (N : Int) xs).2 = 0 → ∃ L0, Good5 (N : Int) L0 (unlM (N : Int) xs).1 ∧ ∀ x ∈ (unlM (N : Int) xs).1, 1 ≤ x.2.length ∧ x.2.length ≤ 1024) := Lib.hid (fun h => ⟨_, unl_good xs [] ⟨by simp, by simp, by simp⟩ h, unl_pos xs [] (by simp) h⟩)
    obtain ⟨a, cap, rfl, _⟩ := hs
    clear hb hbad
    generalize unlM (N : Int) xs = M at *
    obtain ⟨m, z⟩ := M
    by_cases hz : z = 0
    · subst hz
      by_cases hlt : (m.length : Int) < (K : Int)
      · have hd : decM (K : Int) (N : Int) xs = ([], 15) := by rw [HM.out, if_neg (by simp), if_pos hlt]
        go_enter Tryd.func26, Tryd.ntmps26
        go_wp2_with fail
        refine HU.out.mono ?_
        rintro e w1 ⟨v1, rfl, hv1, hb1⟩
        obtain ⟨a1, c1, rfl, _⟩ := hv1
        go_wp2_with fail
        go_ret2
        exact DecPost.no hd hb1
      · have hKm : K ≤ m.length := by omega
        obtain ⟨L0, hgood, hpos⟩ := HG.out rfl
        have hd : decM (K : Int) (N : Int) xs = (decD K (m.take K), 0) := by rw [HM.out, if_neg (by simp), if_neg hlt]
        have hq := hgood.take K
        have hql : (m.take K).length = K := by rw [List.length_take]; omega
        have hL : 1 ≤ L0 ∧ L0 ≤ 1024 := by
          have h0 : 0 < m.length := by omega
          have h2 := hpos _ (List.getElem_mem h0)
          rw [hgood.len _ (List.getElem_mem h0)] at h2
          exact h2
        go_enter Tryd.func26, Tryd.ntmps26
        go_wp2_with fail
        refine HU.out.mono ?_
        rintro e w1 ⟨v1, rfl, hv1, hb1⟩
        have hv1' := hv1
        obtain ⟨a1, c1, rfl, hc1, hc2, _⟩ := hv1
        have hq1 := hv1'.take K hKm
        have HP := Lib.hid (plain_any 0 _ (m.take K) K (by omega) (fun x hx => (hq.num x hx).1) w1 hq1)
        have HQ := Lib.hid hq1
        have HB := Lib.hid hb1
        have HGG := Lib.hid (And.intro hq (And.intro hL hd))
        have hKc : (K : Int) ≤ (c1 : Int) := by omega
        have hKm2 : (K : Int) ≤ (m.length : Int) := by omega
        clear hv1' hq1 hb1 hgood hpos hq hd HG HM hc2
        generalize m.take K = q at *
        go_wp2_with fail
        refine HP.out.mono ?_
        rintro e w2 ⟨v2, rfl, hv2, hb2⟩
        obtain ⟨a2, p2, rfl, _⟩ := strs_at hv2
        have hB2 := Below.chain hb2 HB.out
        by_cases hall : allK K q = true
        · rw [if_pos hall] at hv2
          have hdq : decD K q = putN K q := dec_plain HGG.out.1 (by omega) (by omega) hql HGG.out.2.1.1 hall
          have hd := HGG.out.2.2
          rw [hdq] at hd
          rw [if_pos hall] at *
          have HV := Lib.hid hv2
          have HD := Lib.hid hd
          rw [hall]
          clear hv2 hd hdq hall
          go_wp2_with fail
          go_ret2
          exact ⟨_, by rw [HD.out]; rfl, by rw [HD.out]; exact HV.out, hB2⟩
        · have hall2 : allK K q = false := by simpa using hall
          rw [if_neg hall, hall2]
          clear hv2 hall
          go_wp2_with fail
          have kbt := Blk.new w2 #[.slice none 0 0] 38
          have hbt0 : Below w2.heap.size w2 (w2.alloc (.cells #[.slice none 0 0] 38)) := Below.chainAlloc (Below.refl _ _) _
          have HQ2 := Lib.hid (HQ.out.chain hb2)
          obtain ⟨bt, hbt⟩ : ∃ bt, w2.heap.size = bt := ⟨_, rfl⟩
          rw [hbt] at kbt
          have K0 := Lib.hid (And.intro kbt hbt0)
          clear kbt hbt0 hb2
          rw [hbt]
          go_loopw [12, 15, 62] (fun vi _ i wr => DecRel K q bt w2 vi i wr) (fun _ _ i _ => K - (intOf i).toNat)
          case atStart => exact ⟨0, _, Nat.zero_le _, rfl, Lib.hid (Seg.nil _ _ _ _), Lib.hid K0.out.1, Lib.hid (Seg.nil _ _ _ _), Lib.hid (fun g h => by cases h), Lib.hid K0.out.2, by simp; omega⟩
          case round =>
            obtain ⟨j, vt, hj, rfl, HSI, HBT, HST, HSEP, HBW, hsz⟩ := hrel
            by_cases hlt : j < K
            · obtain ⟨ag, cg, eg, hg1, hg2, hgc⟩ := HQ2.out
              rw [hql] at eg
              cases eg
              have hjq : j < q.length := by omega
              rcases hgc with e | ⟨g, off, rfl, hg, _, hcc⟩
              · rw [e] at hql
                simp at hql
                omega
              obtain ⟨d0, d1⟩ := hcc j hjq
              obtain ⟨z, s, hzs⟩ : ∃ z s, q[j] = (z, s) := ⟨_, _, rfl⟩
              rw [hzs] at d0 d1
              have e0 : wr.cell? ⟨g, off + j * 2, none⟩ = some (.int .i64 z) := (HBW.out.cell (p := ⟨g, _, none⟩) hg).trans d0
              have e1 : wr.cell? ⟨g, off + j * 2 + 1, none⟩ = some (Str s) := (HBW.out.cell (p := ⟨g, _, none⟩) hg).trans d1
              have hj2 : (j : Int) < (K : Int) := by omega
              have HLT := Lib.hid hlt
              clear d0 d1 hcc
              go_upto_region 17 with fail
              have kx := Blk.new wr #[.int .i64 z, Str s] 50
              have hb1 : Below wr.heap.size wr (wr.alloc (.cells #[.int .i64 z, Str s] 50)) := Below.chainAlloc (Below.refl _ _) _
              obtain ⟨W1, hW1⟩ : ∃ W1, wr.alloc (.cells #[.int .i64 z, Str s] 50) = W1 := ⟨_, rfl⟩
              obtain ⟨bx, hbx⟩ : ∃ bx, wr.heap.size = bx := ⟨_, rfl⟩
              rw [hW1, hbx] at kx
              rw [hW1] at hb1 ⊢
              rw [hbx]
              have hsi1 := HSI.out.chain hb1
              have hst1 := HST.out.chain hb1
              have kbt1 := HBT.out.below hb1 HBT.out.lt
              have hbw1 := Below.chain hb1 HBW.out
              have hsz1 : bt + 1 ≤ W1.heap.size := by have := hb1.size; omega
              clear e0 e1
              obtain ⟨x1, x2, x3⟩ := kx.facts
              obtain ⟨t1, t2, t3⟩ := kbt1.facts
              have SI := Lib.hid (fun W (h : Below W1.heap.size W1 W) => hsi1.chain h)
              have ST := Lib.hid (fun W (h : Below W1.heap.size W1 W) => hst1.chain h)
              have KB := Lib.hid (fun W (h : Below W1.heap.size W1 W) => kbt1.below h kbt1.lt)
              have KX := Lib.hid (fun W (h : Below W1.heap.size W1 W) => kx.below h kx.lt)
              have HW1 := Lib.hid (And.intro hbw1 hsz1)
              have hfI : ∀ g, u12.ownBlock = some g → g < W1.heap.size := fun g hg => (hsi1.blk g hg).2
              have hgI : ∀ g, u12.ownBlock = some g → bt + 1 ≤ g := fun g hg => (hsi1.blk g hg).1
              have HFI := Lib.hid (And.intro hfI hgI)
              clear hsi1 hst1 kbt1 kx hb1 hbw1 hfI hgI
              obtain ⟨i0, ji, jz0, jz1, jz2⟩ := info_parts infoInt5
              obtain ⟨i1, si, sz0, sz1, sz2⟩ := info_parts infoStr5
              obtain ⟨ai, ci, rfl⟩ := HSI.out.form
              obtain ⟨at', ct, rfl⟩ := HST.out.form
              have z1 : j + 1 ≤ maxLen ∧ (j + 1) * 8 ≤ 140737488355328 ∧ (j + 1) * 16 ≤ 140737488355328 := by have := HLT.out; unfold maxLen; omega
              have HLI : Hid (((idx5 q).take (j + 1)).map (fun (a : Nat) => Value.int .i64 (a : Int)) = ((idx5 q).take j).map (fun (a : Nat) => Value.int .i64 (a : Int)) ++ [.int .i64 z]) := Lib.hid (dec_li HGG.out.1 hjq hzs)
              have HLS : Hid (((txt5 q).take (j + 1)).map Str = ((txt5 q).take j).map Str ++ [Str s]) := Lib.hid (dec_ls hjq hzs)
              generalize ((idx5 q).take j).map (fun (a : Nat) => Value.int .i64 (a : Int)) = LI at *
              generalize ((txt5 q).take j).map Str = LT at *
              have HSP := HSEP.out
              have hbI : ∀ g, (Value.slice ai j ci).ownBlock = some g → g < bx ∧ bt + 1 ≤ g := fun g hg => ⟨by rw [← hbx]; exact (HSI.out.blk g hg).2, (HSI.out.blk g hg).1⟩
              have HBI := Lib.hid hbI
              have HB2 : Hid (Below bt w2 W1) := Lib.hid (by have h := HW1.out.1; rw [hbt] at h; exact h)
              have HSP2 := Lib.hid HSP
              clear hbI HSP
              go_region_law (first
                | (refine step_append_seg _ rfl (.tmp 66) (.tmp 69) 97 rfl (bt + 1) 3 i0 (.int .i64 0) 1 8 Tryd.underlying97 ji jz0 jz1 jz2 rfl (by decide) (.slice ai j ci) j LI rfl (SI.out _ (by first | exact Below.chainAlloc (Below.refl _ _).drew _ | exact Below.chainAlloc (Below.chainAlloc (Below.refl _ _).drew _) _)) _ 1 1 [.int .i64 z] rfl rfl (by intro jj u hu; match jj, hu with | 0, hu => (cases hu; simp [Addr.add])) (by simp [Value.oneCell']) (by decide) z1.1 z1.2.1 (by simp <;> omega) _ rfl ?_; intro g1 off1 cap1 wI hownI hgrowI hatI; have cx : wI.cell? ⟨bx, 0, none⟩ = some (.int .i64 z) := (grown_cell hgrowI bx 0 (by simp <;> omega) (fun e => by have := (HBI.out _ e.symm).1; omega)).trans ((KX.out _ (by first | exact Below.chainAlloc (Below.refl _ _).drew _ | exact Below.chainAlloc (Below.chainAlloc (Below.refl _ _).drew _) _)).facts.1 0); have cy : wI.cell? ⟨bx, 1, none⟩ = some (Str s) := (grown_cell hgrowI bx 1 (by simp <;> omega) (fun e => by have := (HBI.out _ e.symm).1; omega)).trans ((KX.out _ (by first | exact Below.chainAlloc (Below.refl _ _).drew _ | exact Below.chainAlloc (Below.chainAlloc (Below.refl _ _).drew _) _)).facts.1 1); have ctt : wI.cell? ⟨bt, 0, none⟩ = some (.slice at' j ct) := (grown_cell hgrowI bt 0 (by simp <;> omega) (fun e => by have := (HBI.out _ e.symm).2; omega)).trans ((KB.out _ (by first | exact Below.chainAlloc (Below.refl _ _).drew _ | exact Below.chainAlloc (Below.chainAlloc (Below.refl _ _).drew _) _)).facts.1 0); have STI := Lib.hid (fun W (h : Below wI.heap.size wI W) => (Seg.grown (ST.out _ (by first | exact Below.chainAlloc (Below.refl _ _).drew _ | exact Below.chainAlloc (Below.chainAlloc (Below.refl _ _).drew _) _)) hgrowI (fun g hg e => HSP2.out g e hg)).chain h); have hszI : bt + 1 ≤ wI.heap.size := (by have h := hgrowI.size; simp at h <;> omega); have hbtI : bt < wI.heap.size := (by omega); have hbxI : bx < wI.heap.size := (by have h := hgrowI.size; simp at h <;> omega); have HK := Lib.hid (fun b o hb hn => grown_cell hgrowI b o hb hn))
                | (refine step_append_seg _ rfl (.tmp 71) (.tmp 74) 38 rfl (bt + 1) 9 i1 (Str []) 1 16 Tryd.underlying38 si sz0 sz1 sz2 rfl (by decide) (.slice at' j ct) j LT rfl (STI.out _ (by first | exact Below.refl _ _ | exact Below.chainAlloc (Below.refl _ _) _ | exact (Below.refl _ _).drew | exact Below.chainAlloc (Below.refl _ _).drew _ | exact (Below.chainAlloc (Below.refl _ _) _).drew)) _ 1 1 [Str s] rfl rfl (by intro jj u hu; match jj, hu with | 0, hu => (cases hu; first | (simp [Addr.add]; done) | (refine (HK.out _ 0 (by simp <;> omega) (fun e => by have := (HBI.out _ e.symm).1; omega)).trans ?_; simp; done))) (by simp [Value.oneCell']) (by decide) z1.1 z1.2.2 (by first | omega | (simp <;> omega)) _ rfl ?_; intro g2 off2 cap2 wS hownS hgrowS hatS; have TA := two_apps (by first | exact Below.chainAlloc (Below.refl _ _).drew _ | exact Below.chainAlloc (Below.chainAlloc (Below.refl _ _).drew _) _) hgrowI (by first | exact Below.refl _ _ | exact Below.chainAlloc (Below.refl _ _) _ | exact (Below.refl _ _).drew | exact Below.chainAlloc (Below.refl _ _).drew _ | exact (Below.chainAlloc (Below.refl _ _) _).drew) hgrowS (SI.out _ (Below.refl _ _)) (ST.out _ (Below.refl _ _)) HSP2.out hownI hownS hatI hatS (KB.out _ (Below.refl _ _)) HB2.out HW1.out.2; have s1 := TA.1.facts.1 0; have s2 := TA.1.facts.2.1 0))
              all_goals (
                go_wp2_with fail
                go_roundw
                case rel => exact dec_step TA hownS HLT.out HLI.out HLS.out hbt (by go_num)
                case measure => have := HLT.out; simp [intOf]; omega)
            · obtain rfl : j = K := by omega
              have hlt' : ¬ (j : Int) < (j : Int) := by omega
              have hsi := HSI.out
              have hst := HST.out
              have hil : (idx5 q).length = j := by unfold idx5; rw [List.length_map]; exact hql
              have htl : (txt5 q).length = j := by unfold txt5; rw [List.length_map]; exact hql
              rw [List.take_of_length_le (by omega)] at hsi hst
              have hbd : ∀ i ∈ idx5 q, i < N := fun i hi => by
                obtain ⟨x, hx, rfl⟩ := List.mem_map.1 hi
                have := HGG.out.1.num x hx
                omega
              obtain ⟨pe, pp⟩ := pick_facts5 j N (idx5 q) (by omega) (by omega) (by omega) (by omega) (by omega) hbd
              have HPK := Lib.hid (pick_any (j : Nat) (N : Nat) 0 u12 ((idx5 q).map fun (i : Nat) => (i : Int)) wr ⟨by have := SlAt.of_seg (B := 0) hsi; rwa [List.map_map], fun y hy => by
                obtain ⟨i, hi, rfl⟩ := List.mem_map.1 hy
                have := hbd i hi
                omega⟩)
              unfold PickPost at HPK
              rw [pe] at HPK
              rw [pp] at HPK
              have hinv : invE (pickT j (idx5 q)) = 0 := dec_inv HGG.out.1 (by omega) (by omega) (by omega) hql
              have HINV := Lib.hid hinv
              have HIT := Lib.hid (And.intro hil htl)
              obtain ⟨ai, ci, rfl⟩ := hsi.form
              have HST2 := Lib.hid hst
              clear hsi hst hil htl hbd pe pp hinv HSI HST
              go_wp2_with fail
              refine HPK.out.mono ?_
              rintro e w3 ⟨v3, rfl, hv3, hb3⟩
              obtain ⟨a3, c3, rfl, _⟩ := hv3.at
              have HIV := Lib.hid (invert_any 0 _ (pickT j (idx5 q)) w3 hv3)
              unfold InvPost at HIV
              rw [HINV.out] at HIV
              have hkb3 := HBT.out.below hb3 HBT.out.lt
              have hst3 := HST2.out.chain hb3
              have hbw3 := Below.chain hb3 HBW.out
              clear hv3 hb3
              go_wp2_with fail
              refine HIV.out.mono ?_
              rintro e w4 ⟨v4, rfl, hv4, hb4⟩
              obtain ⟨a4, c4, rfl, _⟩ := hv4.at
              have kbk := Blk.new w4 #[.slice a4 (invV (pickT j (idx5 q))).length c4] 67
              have hb5 : Below w4.heap.size w4 (w4.alloc (.cells #[.slice a4 (invV (pickT j (idx5 q))).length c4] 67)) := Below.chainAlloc (Below.refl _ _) _
              have hbb := Below.chain hb5 hb4
              have hkb5 := hkb3.below hbb hkb3.lt
              have hst5 := hst3.chain hbb
              have hbw5 := Below.chain (Below.chain hbb hbw3) hB2
              have hv5 := hv4.chain hb5
              have hAll : AllB (pickT j (idx5 q)) := (gd_pick j (idx5 q)).all
              obtain ⟨_, _, hX, _, _⟩ := inv_facts hAll HINV.out
              have hpl : (pickT j (idx5 q)).length = j := by unfold pickT; rw [List.length_map]; exact HIT.out.1
              rw [hpl] at hX
              have hXl : (invV (pickT j (idx5 q))).length = j := hX.len
              have HDM := Lib.hid HGG.out.2.2
              have hvt : SlAt 0 (w4.alloc (.cells #[.slice a4 (invV (pickT j (idx5 q))).length c4] 67)) 9 vt ((txt5 q).map Str) := SlAt.of_seg hst5
              have hlenX : ∀ t ∈ txt5 q, t.length = L0 := fun t ht => by
                obtain ⟨x, hx, rfl⟩ := List.mem_map.1 ht
                exact HGG.out.1.len x hx
              have htl := HIT.out.2
              have hL0 := HGG.out.2.1
              have hE := each_any 47 #[.pointer (some ⟨w4.heap.size, 0, none⟩), .pointer (some ⟨bt, 0, none⟩)] j (by omega) (fun i => mixS ((invV (pickT j (idx5 q))).getD i []) (txt5 q)) (w4.alloc (.cells #[.slice a4 (invV (pickT j (idx5 q))).length c4] 67))
                (enters_of Tryd.func47 (by kernel_rfl) rfl) (fun i w' hi hb => by
                  have hir : i < (invV (pickT j (idx5 q))).length := by rw [hXl]; exact hi
                  have h := dec1_any w4.heap.size bt _ vt (invV (pickT j (idx5 q))) (txt5 q) L0 i hir (fun r hr => by
                    obtain ⟨m, hm, rfl⟩ := List.mem_iff_getElem.1 hr
                    rw [hX.wide m hm, htl]) (by omega) hlenX (by omega) (by omega) w' (hv5.chain hb) (hvt.chain hb) (kbk.below hb kbk.lt) (hkb5.below hb hkb5.lt)
                  rw [← getD_get _ i [] hir] at h
                  exact h)
              have hlist : (List.range j).map (fun i => mixS ((invV (pickT j (idx5 q))).getD i []) (txt5 q)) = decD j q := by
                unfold decD
                apply List.ext_getElem
                · simp [hXl]
                · intro i h1 h2
                  have h3 : i < (invV (pickT j (idx5 q))).length := by simpa using h2
                  simp only [List.getElem_map, List.getElem_range]
                  rw [getD_get _ i [] h3]
              rw [hlist] at hE
              have HE := Lib.hid hE
              have HB5 := Lib.hid hbw5
              rw [hXl] at *
              clear hE hlist hvt hlenX hX hAll hpl hst5 hkb5 hv5 hbw5 hb5 hbb kbk hst3 hkb3 hbw3 hv4 hb4
              go_wp2_with fail
              refine HE.out.mono ?_
              rintro e w6 ⟨v6, rfl, hv6, hb6⟩
              obtain ⟨a6, c6, rfl, _⟩ := strs_at hv6
              have HV6 := Lib.hid hv6
              have HB6 := Lib.hid (Below.chain hb6 HB5.out)
              clear hv6 hb6
              go_wp2_with fail
              go_ret2
              exact ⟨_, by rw [HDM.out]; rfl, by rw [HDM.out]; exact HV6.out, HB6.out⟩
    · have hd : decM (K : Int) (N : Int) xs = ([], z) := by rw [HM.out, if_pos hz]
      have hne : (z != 0) = true := by simpa using hz
      go_enter Tryd.func26, Tryd.ntmps26
      go_wp2_with fail
      refine HU.out.mono ?_
      rintro e w1 ⟨v1, rfl, hv1, hb1⟩
      obtain ⟨a1, c1, rfl, _⟩ := hv1
      go_wp2_with fail
      go_ret2
      exact DecPost.no hd hb1
end Go.Proofs.YtelpkddgcmikfaaDoor
