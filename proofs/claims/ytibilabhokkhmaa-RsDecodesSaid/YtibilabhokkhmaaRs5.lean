/-
  More shards than needed: the first shards with unlike numbers (chapter 5).
-/
import Derived.Test.YtibilabhokkhmaaRs4
namespace Go.Proofs.Ytibilabhokkhmaa
open Go.RowKit
set_option linter.unusedVariables false
set_option maxRecDepth 100000
set_option maxHeartbeats 1000000
def unlGo (n : Int) (L0 : Nat) : List Sh5 → List Sh5 → List Sh5 × Int
  | acc, [] => (acc, 0)
  | acc, x :: xs => if x.1 < 0 ∨ n ≤ x.1 then ([], 2) else if x.2.length < 1 ∨ 1024 < x.2.length then ([], 3) else if x.2.length ≠ L0 then ([], 16) else
    match acc.find? (fun y => y.1 == x.1) with
    | none => unlGo n L0 (acc ++ [x]) xs
    | some y => if y.2 = x.2 then unlGo n L0 acc xs else ([], 16)
def unlM (n : Int) (xs : List Sh5) : List Sh5 × Int := unlGo n ((xs.map (·.2)).headD []).length [] xs
section
variable {n : Int} {L0 : Nat} {acc : List Sh5} {x : Sh5} {xs : List Sh5}
theorem unl_idx (h : x.1 < 0 ∨ n ≤ x.1) : unlGo n L0 acc (x :: xs) = ([], 2) := by rw [unlGo, if_pos h]
theorem unl_len (h : ¬ (x.1 < 0 ∨ n ≤ x.1)) (h2 : x.2.length < 1 ∨ 1024 < x.2.length) : unlGo n L0 acc (x :: xs) = ([], 3) := by rw [unlGo, if_neg h, if_pos h2]
theorem unl_unl (h : ¬ (x.1 < 0 ∨ n ≤ x.1)) (h2 : ¬ (x.2.length < 1 ∨ 1024 < x.2.length)) (h3 : x.2.length ≠ L0) : unlGo n L0 acc (x :: xs) = ([], 16) := by rw [unlGo, if_neg h, if_neg h2, if_pos h3]
theorem unl_new (h : ¬ (x.1 < 0 ∨ n ≤ x.1)) (h2 : ¬ (x.2.length < 1 ∨ 1024 < x.2.length)) (h3 : x.2.length = L0) (h4 : acc.find? (fun y => y.1 == x.1) = none) : unlGo n L0 acc (x :: xs) = unlGo n L0 (acc ++ [x]) xs := by
  rw [unlGo, if_neg h, if_neg h2, if_neg (by omega), h4]
theorem unl_old {y : Sh5} (h : ¬ (x.1 < 0 ∨ n ≤ x.1)) (h2 : ¬ (x.2.length < 1 ∨ 1024 < x.2.length)) (h3 : x.2.length = L0) (h4 : acc.find? (fun y => y.1 == x.1) = some y) (h5 : y.2 = x.2) : unlGo n L0 acc (x :: xs) = unlGo n L0 acc xs := by
  rw [unlGo, if_neg h, if_neg h2, if_neg (by omega), h4]
  simp [h5]
theorem unl_dif {y : Sh5} (h : ¬ (x.1 < 0 ∨ n ≤ x.1)) (h2 : ¬ (x.2.length < 1 ∨ 1024 < x.2.length)) (h3 : x.2.length = L0) (h4 : acc.find? (fun y => y.1 == x.1) = some y) (h5 : ¬ y.2 = x.2) : unlGo n L0 acc (x :: xs) = ([], 16) := by
  rw [unlGo, if_neg h, if_neg h2, if_neg (by omega), h4]
  simp [h5]
end
/-- Which numbers were seen. -/
def seenC (acc : List Sh5) : Array Value := ((List.range 255).map fun (i : Nat) => Value.bool (acc.any fun x => x.1 == (i : Int))).toArray
theorem seenC_get (acc : List Sh5) (i : Nat) (h : i < 255) : (seenC acc)[i]? = some (.bool (acc.any fun x => x.1 == (i : Int))) := by
  unfold seenC
  simp [h]
theorem seenC_set (acc : List Sh5) (x : Sh5) (i : Nat) (hx : x.1 = i) : seenC (acc ++ [x]) = (seenC acc).setIfInBounds i (.bool true) := by
  apply Array.ext
  · simp [seenC]
  · intro j h1 h2
    have hj : j < 255 := by simpa [seenC] using h1
    rw [Array.getElem_setIfInBounds (by simpa [seenC] using hj)]
    by_cases e : i = j
    · subst e
      simp [seenC, hx]
    · rw [if_neg e]
      have : ¬ (x.1 = (j : Int)) := by omega
      simp [seenC, this]
theorem seenC_nil : seenC [] = Array.replicate 255 (.bool false) := by
  apply Array.ext
  · simp [seenC]
  · intro j h1 h2
    simp [seenC]
theorem cells5_snoc (acc : List Sh5) (x : Sh5) : cells5 (acc ++ [x]) = cells5 acc ++ [.int .i64 x.1, Str x.2] := by simp [cells5]
theorem infoSh : (Try.prog.info? 71).map (fun i => (i.zero, i.size, i.bytes)) = some (some (.agg #[.int .i64 0, Str []]), 2, 24) := by kernel_rfl
theorem unl_any (B : Nat) (v : Value) (xs : List Sh5) (n : Nat) (hn : n ≤ 255) (hl : xs.length ≤ 1000) (w : World) (hs : ShAt B w v xs) :
    Calls Try.prog 54 #[.int .i64 (n : Nat), v] w fun e w' => ∃ v', e = .returned (.tuple #[v', .int .i64 (unlM n xs).2]) ∧ ShAt 0 w' v' (unlM n xs).1 ∧ Below w.heap.size w w' := by
  obtain ⟨i0, hi, iz0, iz1, iz2⟩ := info_parts infoSh
  have hs0 := hs
  obtain ⟨a, cap, rfl, hm1, hm2, hc⟩ := hs
  have hx : ∀ k (hk : k < xs.length), ∃ g off, a = some ⟨g, off, none⟩ ∧ g < w.heap.size ∧ w.cell? ⟨g, off + k * 2, none⟩ = some (.int .i64 xs[k].1) ∧ w.cell? ⟨g, off + k * 2 + 1, none⟩ = some (Str xs[k].2) := fun k hk => by
    rcases hc with e | ⟨g, off, ha, hg, _, hcc⟩
    · subst e; simp at hk
    · exact ⟨g, off, ha, hg, (hcc k hk).1, (hcc k hk).2⟩
  have HX := Lib.hid hx
  clear hc hx hs0
  obtain ⟨L0, hL0⟩ : ∃ L0, ((xs.map (·.2)).headD []).length = L0 := ⟨_, rfl⟩
  obtain ⟨R, hR⟩ : ∃ R, unlM (n : Int) xs = R := ⟨_, rfl⟩
  have HR : Hid (unlGo (n : Int) L0 [] xs = R) := Lib.hid (by rw [← hR, ← hL0]; rfl)
  have H0 : Hid (∀ h : 0 < xs.length, (xs[0]'h).2.length = L0) := Lib.hid (fun h => by
    rw [← hL0]
    cases xs with
    | nil => simp at h
    | cons x xs => rfl)
  rw [hR]
  clear hR hL0
  have k1 := Blk.new w (seenC []) 107
  have k2 := Blk.newAt (w := w.alloc (.cells (seenC []) 107)) (n := w.heap.size + 1) (cs := #[.slice none 0 0]) (t := 58) (by simp)
  have hB : Below w.heap.size w ((w.alloc (.cells (seenC []) 107)).alloc (.cells #[.slice none 0 0] 58)) := ((Below.refl _ w).alloc (Nat.le_refl _) _).alloc (by simp) _
  have HB := Lib.hid (And.intro (k1.alloc (.cells #[.slice none 0 0] 58)) (And.intro k2 hB))
  rw [show seenC [] = Try.zeroCells107 from by kernel_rfl] at HB
  clear k1 k2 hB
  go_enter Try.func54, Try.ntmps54
  go_wp2_with fail
  go_loopw [10, 14] (fun _ i14 wr => ∃ (k : Nat) (acc : List Sh5) (vo : Value), k ≤ xs.length ∧ i14 = .int .i64 k ∧ Hid (unlGo (n : Int) L0 acc (xs.drop k) = R) ∧ acc.length ≤ k ∧ Hid (Blk wr w.heap.size (seenC acc) 107) ∧ Hid (Blk wr (w.heap.size + 1) #[vo] 58) ∧
      Hid (Seg wr (w.heap.size + 2) 71 2 vo acc.length (cells5 acc)) ∧ Hid (Below w.heap.size w wr) ∧ w.heap.size + 2 ≤ wr.heap.size) (fun _ i14 _ => xs.length - (intOf i14).toNat)
  case atStart =>
    refine ⟨0, [], _, Nat.zero_le _, rfl, HR, Nat.zero_le _, Lib.hid ?_, Lib.hid HB.out.2.1, Lib.hid (Seg.nil _ _ _ _), Lib.hid HB.out.2.2, by simp⟩
    rw [show seenC [] = Try.zeroCells107 from by kernel_rfl]
    exact HB.out.1
  case round =>
    obtain ⟨k, acc, vo, hk, rfl, HU, hacc, HSN, HO, HSG, HBW, hsz⟩ := hrel
    by_cases hlt : k < xs.length
    · have hdk := List.drop_eq_getElem_cons hlt
      obtain ⟨x, hxk⟩ : ∃ x, xs[k] = x := ⟨_, rfl⟩
      obtain ⟨z, s⟩ := x
      rw [hdk, hxk] at HU
      have hmx : xs.length ≤ 9223372036854775807 := by omega
      have hk2 : (k : Int) < (xs.length : Int) := by omega
      obtain ⟨g, off, rfl, hg, d0, d1⟩ := HX.out k hlt
      obtain ⟨_, _, e, _, _, f1⟩ := HX.out 0 (by omega)
      cases e
      rw [hxk] at d0 d1
      obtain ⟨s0, hs0⟩ : ∃ s0, (xs[0]'(by omega)).2 = s0 := ⟨_, rfl⟩
      have hs0L : s0.length = L0 := by rw [← hs0]; exact H0.out _
      rw [hs0] at f1
      have e0 : wr.cell? ⟨g, off + k * 2, none⟩ = some (.int .i64 z) := (HBW.out.cell (p := ⟨g, _, none⟩) hg).trans d0
      have e1 : wr.cell? ⟨g, off + k * 2 + 1, none⟩ = some (Str s) := (HBW.out.cell (p := ⟨g, _, none⟩) hg).trans d1
      have e2 : wr.cell? ⟨g, off + 1, none⟩ = some (Str s0) := by
        have := (HBW.out.cell (p := ⟨g, off + 0 * 2 + 1, none⟩) hg).trans f1
        rwa [Nat.zero_mul, Nat.add_zero] at this
      have hgw : g < wr.heap.size := Nat.lt_of_lt_of_le hg HBW.out.size
      have hl0 : (0 : Int) < (xs.length : Int) := by omega
      have HLT := Lib.hid hlt
      clear d0 d1 f1 hs0 hxk hdk
      go_upto_region 7 with fail
      have kx := Blk.new wr #[.int .i64 z, Str s] 71
      have hb1 : Below wr.heap.size wr (wr.alloc (.cells #[.int .i64 z, Str s] 71)) := Below.chainAlloc (Below.refl _ _) _
      have e3 := (hb1.cell (p := ⟨g, off + 1, none⟩) hgw).trans e2
      obtain ⟨W1, hW1⟩ : ∃ W1, wr.alloc (.cells #[.int .i64 z, Str s] 71) = W1 := ⟨_, rfl⟩
      obtain ⟨bx, hbx⟩ : ∃ bx, wr.heap.size = bx := ⟨_, rfl⟩
      rw [hW1, hbx] at kx
      rw [hW1] at hb1 e3 ⊢
      rw [hbx]
      obtain ⟨x1, x2, x3⟩ := kx.facts
      have HB1 := Lib.hid hb1
      have HKX := Lib.hid kx
      clear e0 e1 e2 kx hb1
      have HWB := Lib.hid (Below.chain HB1.out HBW.out)
      by_cases hidx : z < 0 ∨ (n : Int) ≤ z
      · obtain rfl : R = ([], 2) := HU.out.symm.trans (unl_idx hidx)
        by_cases hz0 : z < 0
        · clear hidx
          go_wp2_with fail
          go_ret2
          exact ⟨_, rfl, ⟨none, 0, rfl, Nat.le_refl _, by simp, .inl rfl⟩, HWB.out⟩
        · have hzn : (n : Int) ≤ z := by omega
          clear hidx
          go_wp2_with fail
          go_ret2
          exact ⟨_, rfl, ⟨none, 0, rfl, Nat.le_refl _, by simp, .inl rfl⟩, HWB.out⟩
      · have hz0 : ¬ z < 0 := by omega
        have hzn : ¬ (n : Int) ≤ z := by omega
        by_cases hlen : s.length < 1 ∨ 1024 < s.length
        · obtain rfl : R = ([], 3) := HU.out.symm.trans (unl_len hidx hlen)
          by_cases hs1 : s.length < 1
          · have hs2 : (s.length : Int) < 1 := by omega
            clear hlen hidx
            go_wp2_with fail
            go_ret2
            exact ⟨_, rfl, ⟨none, 0, rfl, Nat.le_refl _, by simp, .inl rfl⟩, HWB.out⟩
          · have hs2 : ¬ (s.length : Int) < 1 := by omega
            have hs3 : (1024 : Int) < (s.length : Int) := by omega
            clear hlen hidx
            go_wp2_with fail
            go_ret2
            exact ⟨_, rfl, ⟨none, 0, rfl, Nat.le_refl _, by simp, .inl rfl⟩, HWB.out⟩
        · have hs2 : ¬ (s.length : Int) < 1 := by omega
          have hs3 : ¬ (1024 : Int) < (s.length : Int) := by omega
          by_cases hun : s.length = L0
          · obtain ⟨i, hzi⟩ : ∃ i : Nat, z = (i : Int) := ⟨z.toNat, by omega⟩
            subst hzi
            have hi255 : i < 255 := by omega
            have hne2 : ((s.length : Int) != (s0.length : Int)) = false := by simp; omega
            obtain ⟨ao, co, rfl⟩ := HSG.out.form
            have hi0 : (0 : Int) ≤ (i : Int) := by omega
            have hi1 : (i : Int) < 255 := by omega
            have HK := Lib.hid hacc
            cases hfd : acc.find? (fun y => y.1 == (i : Int)) with
            | none =>
              have HU2 := Lib.hid ((unl_new (xs := xs.drop (k + 1)) (x := ((i : Int), s)) hidx hlen hun hfd).symm.trans HU.out)
              have hany : acc.any (fun y => y.1 == (i : Int)) = false := by
                rw [List.any_eq_false]
                rw [List.find?_eq_none] at hfd
                exact fun y hy => hfd y hy
              have HLEN := Lib.hid (And.intro hl hk)
              clear hlen hidx hfd HU hun
              go_wp2_with fail
              go_quiet (fail)
              have hd2 : Below W1.heap.size W1 (W1.drewN nq) := below_drewN (Below.refl _ _) nq
              obtain ⟨W2, hW2⟩ : ∃ W2, W1.drewN nq = W2 := ⟨_, rfl⟩
              rw [hW2] at hd2 ⊢
              clear hW2 x1 x2 x3 e3
              have kx2 := HKX.out.below hd2 HKX.out.lt
              have hb2 := Below.chain hd2 HB1.out
              have ks2 := HSN.out.below hb2 HSN.out.lt
              have ko2 := HO.out.below hb2 HO.out.lt
              have hsg2 := HSG.out.chain hb2
              obtain ⟨y1, y2, y3⟩ := kx2.facts
              obtain ⟨u1, u2, u3⟩ := ks2.facts
              obtain ⟨v1, v2, v3⟩ := ko2.facts
              have us : W2.cell? ⟨w.heap.size, i, none⟩ = some (.bool false) := by rw [u1, seenC_get acc i hi255, hany]
              have ufr : W2.frozen? ⟨w.heap.size, i, none⟩ = false := u2 i
              have HS2 := Lib.hid (And.intro ks2 (And.intro ko2 (And.intro hsg2 (And.intro hb2 kx2))))
              clear u1 u2 ks2 ko2 hsg2 hb2 kx2 hd2 hany
              have kS : ∀ W3, Blk W3 w.heap.size (seenC acc) 107 → Blk (W3.setCell ⟨w.heap.size, i, none⟩ (.bool true)) w.heap.size (seenC (acc ++ [((i : Int), s)])) 107 := fun W3 h => by
                rw [seenC_set acc ((i : Int), s) i rfl]
                exact Blk.setAt h i _ rfl
              have hsg3 : Seg (W2.setCell ⟨w.heap.size, i, none⟩ (.bool true)) (w.heap.size + 2) 71 2 (.slice ao acc.length co) acc.length (cells5 acc) := HS2.out.2.2.1.setOther _ _ (fun g hg e => by
                have := (HS2.out.2.2.1.blk g hg).1
                simp at e
                omega)
              have hlb : w.heap.size + 2 ≤ W2.heap.size := by have := HS2.out.2.2.2.1.size; omega
              have KS := Lib.hid kS
              obtain ⟨z1, z2⟩ : acc.length + 1 ≤ maxLen ∧ (acc.length + 1) * 24 ≤ 140737488355328 := by
                have := HLEN.out
                have := HK.out
                unfold maxLen
                omega
              have hcn : ∀ j u, [Value.int .i64 (i : Int), Str s][j]? = some u → ((W2.setCell ⟨w.heap.size, i, none⟩ (.bool true)).alloc (.cells #[.int .i64 (i : Int), Str s] 71)).cell? ((⟨W2.heap.size, 0, none⟩ : Addr).add j) = some u := by
                have h := cells_new (W2.setCell ⟨w.heap.size, i, none⟩ (.bool true)) [.int .i64 (i : Int), Str s] 71
                rwa [show (W2.setCell ⟨w.heap.size, i, none⟩ (.bool true)).heap.size = W2.heap.size from by simp] at h
              have HCN := Lib.hid hcn
              clear kS hcn
              go_wp2_with (at_builtin; refine wpList_append_seg _ rfl (.tmp 58) (.tmp 60) 58 rfl (w.heap.size + 2) 71 i0 _ 2 24 Try.underlying58 hi iz0 iz1 iz2 rfl (by decide) (.slice ao acc.length co) acc.length (cells5 acc) rfl (hsg3.alloc _) ⟨W2.heap.size, 0, none⟩ 1 1 [.int .i64 (i : Int), Str s] rfl rfl HCN.out (by simp [Value.oneCell']) (by decide) z1 z2 (by simp; omega) (W2.heap.size + 1) (by simp) ?_; intro g' off' cap' w3 hown hgrow hat; have hO3 := ((HS2.out.2.1.setOther ⟨w.heap.size, i, none⟩ (.bool true) (by simp)).alloc (.cells #[.int .i64 (i : Int), Str s] 71)).grown hgrow (fun e => by have := (HS2.out.2.2.1.blk _ e.symm).1; omega); have hS3 := ((KS.out _ HS2.out.1).alloc (.cells #[.int .i64 (i : Int), Str s] 71)).grown hgrow (fun e => by have := (HS2.out.2.2.1.blk _ e.symm).1; omega); have ho1 := hO3.facts.1 0; have ho2 := hO3.facts.2.1 0)
              have HH := Lib.hid (And.intro hO3 (And.intro hS3 (And.intro hown (And.intro hgrow hat))))
              clear hO3 hS3 hown hgrow hat ho1 ho2
              go_roundw
              case rel =>
                obtain ⟨hO3, hS3, hown, hgrow, hat⟩ := HH.out
                refine ⟨k + 1, acc ++ [((i : Int), s)], _, HLT.out, by go_num, HU2, by simp; have := HK.out; omega, Lib.hid (hS3.setOther _ _ (by simp)), Lib.hid (Blk.setAt hO3 0 _ rfl), Lib.hid ?_, Lib.hid ?_, ?_⟩
                · rw [cells5_snoc, List.length_append, List.length_singleton]
                  exact hown.setOther _ _ (fun g hg e => by
                    have := (hown.blk g hg).1
                    simp at e
                    omega)
                · have q1 := Below.chain HS2.out.2.2.2.1 HBW.out
                  have q2 := Below.chainAlloc (q1.setCell (p := ⟨w.heap.size, i, none⟩) (Nat.le_refl _) (.bool true)) (.cells #[.int .i64 (i : Int), Str s] 71)
                  exact (q2.grown hgrow q2.size (fun g hg => by have := (HS2.out.2.2.1.blk g hg).1; omega)).setCell (p := ⟨w.heap.size + 1, 0, none⟩) (Nat.le_succ _) _
                · have := hgrow.size
                  simp at this ⊢
                  omega
              case measure => have := HLT.out; simp [intOf]; omega
            | some y =>
              have hmem := List.mem_of_find?_eq_some hfd
              have hyi : y.1 = (i : Int) := by simpa using List.find?_some hfd
              have hany : acc.any (fun y => y.1 == (i : Int)) = true := by
                rw [List.any_eq_true]
                exact ⟨y, hmem, by simpa using hyi⟩
              have hbody : body5 acc (i : Int) = y.2 := by unfold body5; rw [hfd]; rfl
              obtain ⟨t, ht⟩ : ∃ t, y.2 = t := ⟨_, rfl⟩
              have HUE : Hid (t = s → unlGo (n : Int) L0 acc (xs.drop (k + 1)) = R) := Lib.hid (fun e => (unl_old (xs := xs.drop (k + 1)) (x := ((i : Int), s)) hidx hlen hun hfd (ht.trans e)).symm.trans HU.out)
              have HUD : Hid (¬ t = s → R = ([], 16)) := Lib.hid (fun e => HU.out.symm.trans (unl_dif (xs := xs.drop (k + 1)) (x := ((i : Int), s)) hidx hlen hun hfd (by rw [ht]; exact e)))
              rw [ht] at hbody
              clear hlen hidx hfd HU hun hmem hyi ht
              go_wp2_with fail
              go_quiet (fail)
              have hd2 : Below W1.heap.size W1 (W1.drewN nq) := below_drewN (Below.refl _ _) nq
              obtain ⟨W2, hW2⟩ : ∃ W2, W1.drewN nq = W2 := ⟨_, rfl⟩
              rw [hW2] at hd2 ⊢
              clear hW2 x1 x2 x3 e3
              have kx2 := HKX.out.below hd2 HKX.out.lt
              have hb2 := Below.chain hd2 HB1.out
              have ks2 := HSN.out.below hb2 HSN.out.lt
              have ko2 := HO.out.below hb2 HO.out.lt
              have hsg2 := HSG.out.chain hb2
              obtain ⟨y1, y2, y3⟩ := kx2.facts
              obtain ⟨u1, u2, u3⟩ := ks2.facts
              have us : W2.cell? ⟨w.heap.size, i, none⟩ = some (.bool true) := by rw [u1, seenC_get acc i hi255, hany]
              have HC := Lib.hid (fun w' (h' : Below W2.heap.size W2 w') => unl1_any (w.heap.size + 1) 0 (.slice ao acc.length co) acc (i : Int) w' ((ShAt.of_seg (B := 0) hsg2).chain h') (ko2.below h' ko2.lt))
              rw [hbody] at HC
              have hmk : ∀ w', Below W2.heap.size W2 w' → ((w'.cell? ⟨bx, 0, none⟩ = some (.int .i64 (i : Int)) ∧ w'.cell? ⟨bx, 1, none⟩ = some (Str s)) ∧ Below W2.heap.size W2 w') := fun w' h =>
                ⟨⟨(h.cell (p := ⟨bx, 0, none⟩) kx2.lt).trans (y1 0), (h.cell (p := ⟨bx, 1, none⟩) kx2.lt).trans (y1 1)⟩, h⟩
              have HMK := Lib.hid hmk
              have HS2 := Lib.hid (And.intro ks2 (And.intro ko2 (And.intro hsg2 (And.intro hb2 kx2))))
              clear u1 u2 u3 ks2 ko2 hsg2 hb2 kx2 hd2 hany hmk hbody
              go_wp2_with fail
              clear us
              go_region_held3 (fun w' => (w'.cell? ⟨bx, 0, none⟩ = some (.int .i64 (i : Int)) ∧ w'.cell? ⟨bx, 1, none⟩ = some (Str s)) ∧ Below W2.heap.size W2 w')
                (first
                  | exact HMK.out _ (Below.refl _ _).drew
                  | exact HMK.out _ (Below.refl _ _)
                  | (go_split_ands; exact HMK.out _ (Below.chain hb (by first | assumption | exact (Below.refl _ _).drew | exact Below.refl _ _))))
                ((go_at_call 71; refine (HC.out _ (by first | (go_split_ands; assumption) | exact (Below.refl _ _).drew | exact Below.refl _ _)).mono ?_; rintro x w3 ⟨rfl, hb⟩))
              rename_i hHeld
              obtain ⟨_, hbb⟩ := hHeld
              have hb3 := Below.chain hbb HS2.out.2.2.2.1
              have HB3 := Lib.hid (And.intro hbb hb3)
              clear hb hbb hb3
              go_wp2_with fail
              · rename_i h
                have hts : ¬ t = s := by simpa using h
                obtain rfl : R = ([], 16) := HUD.out hts
                go_ret2
                exact ⟨_, rfl, ⟨none, 0, rfl, Nat.le_refl _, by simp, .inl rfl⟩, Below.chain HB3.out.2 HBW.out⟩
              · rename_i h
                have hts : t = s := by simpa using h
                have HU3 := Lib.hid (HUE.out hts)
                go_roundw
                case rel =>
                  obtain ⟨q1, q2⟩ := HB3.out
                  exact ⟨k + 1, acc, _, HLT.out, by go_num, HU3, by have := HK.out; omega, Lib.hid (HS2.out.1.below q1 HS2.out.1.lt), Lib.hid (HS2.out.2.1.below q1 HS2.out.2.1.lt), Lib.hid (HS2.out.2.2.1.chain q1), Lib.hid (Below.chain q2 HBW.out), by have := q2.size; omega⟩
                case measure => have := HLT.out; simp [intOf]; omega
          · obtain rfl : R = ([], 16) := HU.out.symm.trans (unl_unl hidx hlen hun)
            have hne2 : ((s.length : Int) != (s0.length : Int)) = true := by simp; omega
            have hne3 : ¬ (s.length : Int) = (s0.length : Int) := by omega
            clear hlen hidx
            go_wp2_with fail
            go_quiet (fail)
            go_wp2_with fail
            go_ret2
            exact ⟨_, rfl, ⟨none, 0, rfl, Nat.le_refl _, by simp, .inl rfl⟩, below_drewN HWB.out _⟩
    · obtain rfl : k = xs.length := by omega
      rw [List.drop_length] at HU
      obtain rfl : R = (acc, 0) := HU.out.symm
      have hlt' : ¬ (xs.length : Int) < (xs.length : Int) := by omega
      obtain ⟨c1, _, _⟩ := HO.out.facts
      have HF := Lib.hid (ShAt.of_seg (B := 0) HSG.out)
      obtain ⟨a2, p2, rfl, _⟩ := HF.out
      go_wp2_with fail
      go_ret2
      exact ⟨_, rfl, HF.out, HBW.out⟩
end Go.Proofs.Ytibilabhokkhmaa
