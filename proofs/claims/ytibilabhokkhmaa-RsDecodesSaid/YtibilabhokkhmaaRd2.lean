/-
  More shards than needed: the first shards with unlike numbers: the document's (chapter 5).
-/
import Derived.Test.YtibilabhokkhmaaRs7
namespace Go.Proofs.Ytibilabhokkhmaa
open Go.RowKit
set_option linter.unusedVariables false
set_option maxRecDepth 100000
set_option maxHeartbeats 2000000
def freshB (acc : List Sh5) (z : Int) (j : Nat) : Bool := !((acc.take j).any fun y => y.1 == z)
theorem fresh_no {acc : List Sh5} {z z' : Int} {s' : List UInt8} {j : Nat} (hj : j < acc.length) (he : acc[j] = (z', s')) (h : ¬ z' = z) : freshB acc z (j + 1) = freshB acc z j := by
  unfold freshB
  rw [List.take_succ_eq_append_getElem hj, he, List.any_append]
  simp [h]
theorem fresh_yes {acc : List Sh5} {z : Int} {s' : List UInt8} {j : Nat} (hj : j < acc.length) (he : acc[j] = (z, s')) : freshB acc z (j + 1) = false := by
  unfold freshB
  rw [List.take_succ_eq_append_getElem hj, he, List.any_append]
  simp
theorem same_no {acc : List Sh5} {z z' : Int} {s s' : List UInt8} {j : Nat} (hj : j < acc.length) (he : acc[j] = (z', s')) (h : z' = z → s' = s) (hs : ∀ y ∈ acc.take j, y.1 = z → y.2 = s) : ∀ y ∈ acc.take (j + 1), y.1 = z → y.2 = s := fun y hy e => by
  rw [List.take_succ_eq_append_getElem hj, he] at hy
  rcases List.mem_append.1 hy with hy | hy
  · exact hs y hy e
  · rw [List.mem_singleton] at hy
    subst hy
    exact h e
theorem fresh_none {acc : List Sh5} {z : Int} (h : freshB acc z acc.length = true) : acc.find? (fun y => y.1 == z) = none := by
  unfold freshB at h
  rw [List.take_length] at h
  rw [List.find?_eq_none]
  intro y hy e
  have : acc.any (fun y => y.1 == z) = true := List.any_eq_true.2 ⟨y, hy, e⟩
  rw [this] at h
  cases h
theorem fresh_some {acc : List Sh5} {z : Int} {s : List UInt8} (h : freshB acc z acc.length = false) (hs : ∀ y ∈ acc.take acc.length, y.1 = z → y.2 = s) : ∃ y, acc.find? (fun y => y.1 == z) = some y ∧ y.2 = s := by
  unfold freshB at h
  rw [List.take_length] at h hs
  cases hf : acc.find? (fun y => y.1 == z) with
  | none =>
    rw [List.find?_eq_none] at hf
    have : acc.any (fun y => y.1 == z) = false := by rw [List.any_eq_false]; exact fun y hy => hf y hy
    rw [this] at h
    cases h
  | some y => exact ⟨y, rfl, hs y (List.mem_of_find?_eq_some hf) (by simpa using List.find?_some hf)⟩
theorem find_nod {acc : List Sh5} (hn : (acc.map (·.1)).Nodup) {z : Int} {s' : List UInt8} {j : Nat} (hj : j < acc.length) (he : acc[j] = (z, s')) : acc.find? (fun y => y.1 == z) = some (z, s') := by
  rw [← he]
  refine find_hit acc j hj z (fun y hy e => ?_) (by rw [he])
  obtain ⟨m, hm, rfl⟩ := List.mem_iff_getElem.1 hy
  rw [List.length_take] at hm
  rw [List.getElem_take] at e
  have h2 : (acc.map (·.1))[m]'(by simp; omega) = (acc.map (·.1))[j]'(by simpa using hj) := by
    rw [List.getElem_map, List.getElem_map, he]
    exact e
  exact List.pairwise_iff_getElem.1 hn m j (by simp; omega) (by simpa using hj) (by omega) h2
theorem nod_snoc {acc : List Sh5} (hn : (acc.map (·.1)).Nodup) {z : Int} {s : List UInt8} (hf : acc.find? (fun y => y.1 == z) = none) : ((acc ++ [(z, s)]).map (·.1)).Nodup := by
  rw [List.map_append, List.nodup_append]
  refine ⟨hn, by simp, fun a ha b hb e => ?_⟩
  rw [List.map_singleton, List.mem_singleton] at hb
  subst hb
  obtain ⟨y, hy, rfl⟩ := List.mem_map.1 ha
  rw [List.find?_eq_none] at hf
  exact hf y hy (by simpa using e)
theorem runl_any (B : Nat) (v : Value) (xs : List Sh5) (n : Nat) (hn : n ≤ 255) (hl : xs.length ≤ 1000) (w : World) (hs : ShAt B w v xs) :
    Calls Try.prog 59 #[.int .i64 (n : Nat), v] w fun e w' => ∃ v', e = .returned (.tuple #[v', .int .i64 (unlM n xs).2]) ∧ ShAt 0 w' v' (unlM n xs).1 ∧ Below w.heap.size w w' := by
  obtain ⟨i0, hi, iz0, iz1, iz2⟩ := info_parts infoSh
  obtain ⟨a, cap, rfl, hm1, hm2, hc⟩ := hs
  have hx : ∀ k (hk : k < xs.length), ∃ g off, a = some ⟨g, off, none⟩ ∧ g < w.heap.size ∧ w.cell? ⟨g, off + k * 2, none⟩ = some (.int .i64 xs[k].1) ∧ w.cell? ⟨g, off + k * 2 + 1, none⟩ = some (Str xs[k].2) := fun k hk => by
    rcases hc with e | ⟨g, off, ha, hg, _, hcc⟩
    · subst e; simp at hk
    · exact ⟨g, off, ha, hg, (hcc k hk).1, (hcc k hk).2⟩
  have HX := Lib.hid hx
  clear hc hx
  obtain ⟨L0, hL0⟩ : ∃ L0, ((xs.map (·.2)).headD []).length = L0 := ⟨_, rfl⟩
  obtain ⟨R, hR⟩ : ∃ R, unlM (n : Int) xs = R := ⟨_, rfl⟩
  have HR : Hid (unlGo (n : Int) L0 [] xs = R) := Lib.hid (by rw [← hR, ← hL0]; rfl)
  have H0 : Hid (∀ h : 0 < xs.length, (xs[0]'h).2.length = L0) := Lib.hid (fun h => by
    rw [← hL0]
    cases xs with
    | nil => simp at h
    | cons x xs => rfl)
  rw [hR]
  clear hR hL0
  go_enter Try.func59, Try.ntmps59
  go_wp2_with fail
  go_loopg [6, 7, 8, 9, 10] xs.length (fun gk v6 i7 _ _ _ wr => ∃ (k : Nat) (acc : List Sh5), k ≤ xs.length ∧ xs.length ≤ k + gk ∧ i7 = .int .i64 k ∧ Hid (unlGo (n : Int) L0 acc (xs.drop k) = R) ∧ acc.length ≤ k ∧ Hid ((acc.map (·.1)).Nodup) ∧
      Hid (Seg wr w.heap.size 71 2 v6 acc.length (cells5 acc)) ∧ Hid (Below w.heap.size w wr))
  case atStart => exact ⟨0, [], Nat.zero_le _, by omega, rfl, HR, Nat.zero_le _, Lib.hid (by simp), Lib.hid (Seg.nil _ _ _ _), Lib.hid (Below.refl _ _)⟩
  case round =>
    obtain ⟨k, acc, hk, hgk, rfl, HU, hacc, HND, HSG, HBW⟩ := hrel
    by_cases hlt : k < xs.length
    · have hdk := List.drop_eq_getElem_cons hlt
      obtain ⟨x, hxk⟩ : ∃ x, xs[k] = x := ⟨_, rfl⟩
      obtain ⟨z, s⟩ := x
      rw [hdk, hxk] at HU
      have hmx : xs.length ≤ 9223372036854775807 := by omega
      have hk2 : (k : Int) < (xs.length : Int) := by omega
      obtain ⟨g, off, rfl, hg, d0, d1⟩ := HX.out k hlt
      obtain ⟨_, _, e, _, _, f1⟩ := HX.out 0 (by omega)
      cases e
      rw [hxk] at d0 d1
      obtain ⟨s0, hs0⟩ : ∃ s0, (xs[0]'(by omega)).2 = s0 := ⟨_, rfl⟩
      have hs0L : s0.length = L0 := by rw [← hs0]; exact H0.out _
      rw [hs0] at f1
      have e0 : wr.cell? ⟨g, off + k * 2, none⟩ = some (.int .i64 z) := (HBW.out.cell (p := ⟨g, _, none⟩) hg).trans d0
      have e1 : wr.cell? ⟨g, off + k * 2 + 1, none⟩ = some (Str s) := (HBW.out.cell (p := ⟨g, _, none⟩) hg).trans d1
      have e2 : wr.cell? ⟨g, off + 1, none⟩ = some (Str s0) := by
        have := (HBW.out.cell (p := ⟨g, off + 0 * 2 + 1, none⟩) hg).trans f1
        rwa [Nat.zero_mul, Nat.add_zero] at this
      have hgw : g < wr.heap.size := Nat.lt_of_lt_of_le hg HBW.out.size
      have hl0 : (0 : Int) < (xs.length : Int) := by omega
      have HLT := Lib.hid hlt
      clear d0 d1 f1 hs0 hxk hdk
      go_upto_region 6 with fail
      have kx := Blk.new wr #[.int .i64 z, Str s] 71
      have hb1 : Below wr.heap.size wr (wr.alloc (.cells #[.int .i64 z, Str s] 71)) := Below.chainAlloc (Below.refl _ _) _
      have e3 := (hb1.cell (p := ⟨g, off + 1, none⟩) hgw).trans e2
      obtain ⟨W1, hW1⟩ : ∃ W1, wr.alloc (.cells #[.int .i64 z, Str s] 71) = W1 := ⟨_, rfl⟩
      obtain ⟨bx, hbx⟩ : ∃ bx, wr.heap.size = bx := ⟨_, rfl⟩
      rw [hW1, hbx] at kx
      rw [hW1] at hb1 e3 ⊢
      rw [hbx]
      obtain ⟨x1, x2, x3⟩ := kx.facts
      have HB1 := Lib.hid hb1
      have HKX := Lib.hid kx
      have HBX := Lib.hid hbx
      clear e0 e1 e2 kx hb1 hbx
      have HWB := Lib.hid (Below.chain HB1.out HBW.out)
      by_cases hidx : z < 0 ∨ (n : Int) ≤ z
      · obtain rfl : R = ([], 2) := HU.out.symm.trans (unl_idx hidx)
        by_cases hz0 : z < 0
        · clear hidx
          go_wp2_with fail
          go_ret2
          exact ⟨_, rfl, ⟨none, 0, rfl, Nat.le_refl _, by simp, .inl rfl⟩, HWB.out⟩
        · have hzn : (n : Int) ≤ z := by omega
          clear hidx
          go_wp2_with fail
          go_ret2
          exact ⟨_, rfl, ⟨none, 0, rfl, Nat.le_refl _, by simp, .inl rfl⟩, HWB.out⟩
      · have hz0 : ¬ z < 0 := by omega
        have hzn : ¬ (n : Int) ≤ z := by omega
        by_cases hlen : s.length < 1 ∨ 1024 < s.length
        · obtain rfl : R = ([], 3) := HU.out.symm.trans (unl_len hidx hlen)
          by_cases hs1 : s.length < 1
          · have hs2 : (s.length : Int) < 1 := by omega
            clear hlen hidx
            go_wp2_with fail
            go_ret2
            exact ⟨_, rfl, ⟨none, 0, rfl, Nat.le_refl _, by simp, .inl rfl⟩, HWB.out⟩
          · have hs2 : ¬ (s.length : Int) < 1 := by omega
            have hs3 : (1024 : Int) < (s.length : Int) := by omega
            clear hlen hidx
            go_wp2_with fail
            go_ret2
            exact ⟨_, rfl, ⟨none, 0, rfl, Nat.le_refl _, by simp, .inl rfl⟩, HWB.out⟩
        · have hs2 : ¬ (s.length : Int) < 1 := by omega
          have hs3 : ¬ (1024 : Int) < (s.length : Int) := by omega
          by_cases hun : s.length = L0
          · have hne2 : ((s.length : Int) != (s0.length : Int)) = false := by simp; omega
            have hne4 : ((s.length : Int) != (L0 : Int)) = false := by simp; omega
            obtain ⟨ao, co, rfl⟩ := HSG.out.form
            have HK := Lib.hid hacc
            have HUN : Hid (acc.find? (fun y => y.1 == z) = none → unlGo (n : Int) L0 (acc ++ [(z, s)]) (xs.drop (k + 1)) = R) := Lib.hid (fun h => (unl_new (xs := xs.drop (k + 1)) (x := (z, s)) hidx hlen hun h).symm.trans HU.out)
            have HUE : Hid (∀ y, acc.find? (fun y => y.1 == z) = some y → y.2 = s → unlGo (n : Int) L0 acc (xs.drop (k + 1)) = R) := Lib.hid (fun y hf e => (unl_old (xs := xs.drop (k + 1)) (x := (z, s)) hidx hlen hun hf e).symm.trans HU.out)
            have HUD : Hid (∀ y, acc.find? (fun y => y.1 == z) = some y → ¬ y.2 = s → R = ([], 16)) := Lib.hid (fun y hf e => HU.out.symm.trans (unl_dif (xs := xs.drop (k + 1)) (x := (z, s)) hidx hlen hun hf e))
            have HLEN := Lib.hid (And.intro hl hk)
            clear hlen hidx HU hun
            go_wp2_with fail
            go_quiet (fail)
            have hd2 : Below W1.heap.size W1 (W1.drewN nq) := below_drewN (Below.refl _ _) nq
            obtain ⟨W2, hW2⟩ : ∃ W2, W1.drewN nq = W2 := ⟨_, rfl⟩
            rw [hW2] at hd2 ⊢
            clear hW2 x1 x2 x3 e3
            have kx2 := HKX.out.below hd2 HKX.out.lt
            have hb2 := Below.chain hd2 HB1.out
            have hsg2 := HSG.out.chain hb2
            have hbw2 := Below.chain hb2 HBW.out
            have HS2 := Lib.hid (And.intro kx2 (And.intro hsg2 hbw2))
            clear kx2 hb2 hsg2 hbw2 hd2
            go_wp2_with fail
            go_loopg [9, 10] acc.length (fun gk v9 i10 wr3 => ∃ j : Nat, j ≤ acc.length ∧ acc.length ≤ j + gk ∧ i10 = .int .i64 j ∧ v9 = .bool (freshB acc z j) ∧ Hid (∀ y ∈ acc.take j, y.1 = z → y.2 = s) ∧ Hid (Below W2.heap.size W2 wr3))
            case atStart => exact ⟨0, Nat.zero_le _, by omega, rfl, rfl, Lib.hid (by simp), Lib.hid (Below.refl _ _)⟩
            case round =>
              obtain ⟨j, hj, hgj, rfl, rfl, HSM, HB3⟩ := hrel
              have hacc2 := HK.out
              by_cases hja : j < acc.length
              · obtain ⟨y, hye⟩ : ∃ y, acc[j] = y := ⟨_, rfl⟩
                obtain ⟨z', s'⟩ := y
                obtain ⟨_, _, e, _, _, hq⟩ := ShAt.of_seg (B := 0) (HS2.out.2.1.chain HB3.out)
                cases e
                rcases hq with e | ⟨ga, oa, rfl, hga, _, hcc⟩
                · rw [e] at hja
                  simp at hja
                obtain ⟨q0, q1⟩ := hcc j hja
                rw [hye] at q0 q1
                have kx3 := HS2.out.1.below HB3.out HS2.out.1.lt
                obtain ⟨y1, y2, y3⟩ := kx3.facts
                have hb4 : Below wr.heap.size wr wr := Below.refl _ _
                have hj2 : (j : Int) < (acc.length : Int) := by omega
                have HJA := Lib.hid hja
                have HYE := Lib.hid hye
                clear hcc hye y2
                by_cases hz : z' = z
                · subst hz
                  by_cases hss : s' = s
                  · subst hss
                    have HSM2 := Lib.hid (same_no HJA.out HYE.out (fun _ => rfl) HSM.out)
                    have HFR := Lib.hid (fresh_yes HJA.out HYE.out)
                    go_wp2_with fail
                    go_quiet (fail)
                    have hd4 : Below wr.heap.size wr (wr.drewN nq) := below_drewN (Below.refl _ _) nq
                    obtain ⟨W4, hW4⟩ : ∃ W4, wr.drewN nq = W4 := ⟨_, rfl⟩
                    rw [hW4] at hd4 ⊢
                    have q0' := (hd4.cell (p := ⟨ga, oa + j * 2, none⟩) hga).trans q0
                    have q1' := (hd4.cell (p := ⟨ga, oa + j * 2 + 1, none⟩) hga).trans q1
                    have y1' := (hd4.cell (p := ⟨bx, 1, none⟩) kx3.lt).trans (y1 1)
                    clear hW4 q0 q1 y1
                    go_wp2_with fail
                    go_quiet (fail)
                    have hd5 : Below W4.heap.size W4 (W4.drewN nq) := below_drewN (Below.refl _ _) nq
                    obtain ⟨W5, hW5⟩ : ∃ W5, W4.drewN nq = W5 := ⟨_, rfl⟩
                    rw [hW5] at hd5 ⊢
                    have HB5 := Lib.hid (Below.chain hd5 (Below.chain hd4 HB3.out))
                    clear hW5 q0' q1' y1' hd4 hd5
                    go_wp2_with fail
                    go_roundg (acc.length - (j + 1))
                    case measure => omega
                    case rel => exact ⟨j + 1, HJA.out, by omega, by go_num, by rw [HFR.out], HSM2, HB5⟩
                  · obtain rfl : R = ([], 16) := HUD.out _ (find_nod HND.out HJA.out HYE.out) hss
                    have hse : (s' == s) = false := by simpa using hss
                    go_wp2_with fail
                    go_quiet (fail)
                    have hd4 : Below wr.heap.size wr (wr.drewN nq) := below_drewN (Below.refl _ _) nq
                    obtain ⟨W4, hW4⟩ : ∃ W4, wr.drewN nq = W4 := ⟨_, rfl⟩
                    rw [hW4] at hd4 ⊢
                    have q0' := (hd4.cell (p := ⟨ga, oa + j * 2, none⟩) hga).trans q0
                    have q1' := (hd4.cell (p := ⟨ga, oa + j * 2 + 1, none⟩) hga).trans q1
                    have y1' := (hd4.cell (p := ⟨bx, 1, none⟩) kx3.lt).trans (y1 1)
                    clear hW4 q0 q1 y1
                    go_wp2_with fail
                    go_quiet (fail)
                    have hd5 : Below W4.heap.size W4 (W4.drewN nq) := below_drewN (Below.refl _ _) nq
                    obtain ⟨W5, hW5⟩ : ∃ W5, W4.drewN nq = W5 := ⟨_, rfl⟩
                    rw [hW5] at hd5 ⊢
                    have HB5 := Lib.hid (Below.chain (Below.chain hd5 (Below.chain hd4 HB3.out)) HS2.out.2.2)
                    clear hW5 q0' q1' y1' hd4 hd5
                    go_wp2_with fail
                    go_ret2
                    exact ⟨_, rfl, ⟨none, 0, rfl, Nat.le_refl _, by simp, .inl rfl⟩, HB5.out⟩
                · have HSM2 := Lib.hid (same_no HJA.out HYE.out (fun e => absurd e hz) HSM.out)
                  have HFR := Lib.hid (fresh_no HJA.out HYE.out hz)
                  have hze : (z' == z) = false := by simpa using hz
                  go_wp2_with fail
                  go_quiet (fail)
                  have hd4 : Below wr.heap.size wr (wr.drewN nq) := below_drewN (Below.refl _ _) nq
                  obtain ⟨W4, hW4⟩ : ∃ W4, wr.drewN nq = W4 := ⟨_, rfl⟩
                  rw [hW4] at hd4 ⊢
                  have HB5 := Lib.hid (Below.chain hd4 HB3.out)
                  clear hW4 q0 q1 y1 hd4
                  go_wp2_with fail
                  go_roundg (acc.length - (j + 1))
                  case measure => omega
                  case rel => exact ⟨j + 1, HJA.out, by omega, by go_num, by rw [HFR.out], HSM2, HB5⟩
              · obtain rfl : j = acc.length := by omega
                have hlt' : ¬ (acc.length : Int) < (acc.length : Int) := by omega
                have HBE := Lib.hid (Below.chain HB3.out HS2.out.2.2)
                have hsg3 := HS2.out.2.1.chain HB3.out
                have HSG3 := Lib.hid hsg3
                cases hfr : freshB acc z acc.length with
                | true =>
                  have HNO := Lib.hid (fresh_none hfr)
                  have kx3 := HS2.out.1.below HB3.out HS2.out.1.lt
                  obtain ⟨y1, y2, y3⟩ := kx3.facts
                  have hcn : ∀ k u, [Value.int .i64 z, Str s][k]? = some u → (wr.alloc (.cells #[.int .i64 z, Str s] 71)).cell? ((⟨wr.heap.size, 0, none⟩ : Addr).add k) = some u := cells_new wr [.int .i64 z, Str s] 71
                  have HCN := Lib.hid hcn
                  obtain ⟨z1, z2⟩ : acc.length + 1 ≤ maxLen ∧ (acc.length + 1) * 24 ≤ 140737488355328 := by
                    have := HLEN.out
                    unfold maxLen
                    omega
                  have hbs : w.heap.size ≤ wr.heap.size := HBE.out.size
                  clear hcn
                  go_wp2_with (at_builtin; refine wpList_append_seg _ rfl (.tmp 75) (.tmp 77) 58 rfl w.heap.size 71 i0 _ 2 24 Try.underlying58 hi iz0 iz1 iz2 rfl (by decide) (.slice ao acc.length co) acc.length (cells5 acc) rfl (hsg3.alloc _) ⟨wr.heap.size, 0, none⟩ 1 1 [.int .i64 z, Str s] rfl rfl HCN.out (by simp [Value.oneCell']) (by decide) z1 z2 (by simp; omega) (wr.heap.size + 1) (by simp) ?_; intro g' off' cap' w5 hown hgrow hat)
                  have HOW := Lib.hid hown
                  have HBG := Lib.hid ((Below.chainAlloc HBE.out (.cells #[.int .i64 z, Str s] 71)).grown hgrow (by simp; omega) (fun g hg => (HSG3.out.blk g hg).1))
                  clear hown hgrow hat
                  go_roundg (xs.length - (k + 1))
                  case measure => have := HLT.out; omega
                  case rel =>
                    exact ⟨k + 1, acc ++ [(z, s)], HLT.out, by omega, by go_num, Lib.hid (HUN.out HNO.out), by simp; omega, Lib.hid (nod_snoc HND.out HNO.out), Lib.hid (by rw [cells5_snoc, List.length_append, List.length_singleton]; exact HOW.out), HBG⟩
                | false =>
                  obtain ⟨y, hf, hys⟩ := fresh_some hfr HSM.out
                  have HU3 := Lib.hid (HUE.out y hf hys)
                  clear hf hys hsg3
                  go_wp2_with fail
                  go_roundg (xs.length - (k + 1))
                  case measure => have := HLT.out; omega
                  case rel => exact ⟨k + 1, acc, HLT.out, by omega, by go_num, HU3, by omega, HND, HSG3, HBE⟩
          · obtain rfl : R = ([], 16) := HU.out.symm.trans (unl_unl hidx hlen hun)
            have hne2 : ((s.length : Int) != (s0.length : Int)) = true := by simp; omega
            have hne3 : ¬ (s.length : Int) = (s0.length : Int) := by omega
            clear hlen hidx
            go_wp2_with fail
            go_quiet (fail)
            go_wp2_with fail
            go_ret2
            exact ⟨_, rfl, ⟨none, 0, rfl, Nat.le_refl _, by simp, .inl rfl⟩, below_drewN HWB.out _⟩
    · obtain rfl : k = xs.length := by omega
      rw [List.drop_length] at HU
      obtain rfl : R = (acc, 0) := HU.out.symm
      have hlt' : ¬ (xs.length : Int) < (xs.length : Int) := by omega
      have HF := Lib.hid (ShAt.of_seg (B := 0) HSG.out)
      obtain ⟨a2, p2, rfl, _⟩ := HF.out
      go_wp2_with fail
      go_ret2
      exact ⟨_, rfl, HF.out, HBW.out⟩
end Go.Proofs.Ytibilabhokkhmaa
