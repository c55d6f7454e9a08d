/-
  What is to be said: the document's: Drop, Clean (chapter 25).
-/
import Derived.Test.YtphejbjbleeigaaCt9
namespace Go.Proofs.Ytphejbjbleeigaa
open Go Go.RowKit
set_option linter.unusedVariables false
set_option maxRecDepth 100000
set_option maxHeartbeats 2000000
theorem kept_le (p : Dg → Bool) (ds : List Dg) : (keptD p ds).length ≤ ds.length := by unfold keptD; exact List.length_filter_le _ _
theorem rdrop_any (st : Int) (base : Nat) (v : Value) (ds : List Dg) (w : World) (hs : Seg w base 24 10 v ds.length (dgC ds)) (hds : ds.length ≤ 1000) :
    Calls Try.prog 31 #[v, .int .i64 st] w fun e w' => ∃ v', e = .returned (.tuple #[v', .int .i64 ((ds.length : Int) - ((keptD (dropB st) ds).length : Int))]) ∧ Seg w' w.heap.size 24 10 v' (keptD (dropB st) ds).length (dgC (keptD (dropB st) ds)) ∧ Below w.heap.size w w' := by
  obtain ⟨i0, hi, hz0, hz1, hz2⟩ := info_parts infoDg
  have HS := Lib.hid hs
  obtain ⟨a, cap, rfl⟩ := hs.form
  have hmx : ds.length ≤ 9223372036854775807 := by omega
  have HKL := Lib.hid (fun k => kept_le (dropB st) (ds.take k))
  clear hs
  go_enter Try.func31, Try.ntmps31
  go_wp2_with fail
  go_loopw [6, 7] (fun v6 i wr => ∃ k : Nat, k ≤ ds.length ∧ i = .int .i64 k ∧ Hid (Seg wr w.heap.size 24 10 v6 (keptD (dropB st) (ds.take k)).length (dgC (keptD (dropB st) (ds.take k)))) ∧ Hid (Below w.heap.size w wr)) (fun _ i _ => ds.length - (intOf i).toNat)
  case atStart => exact ⟨0, Nat.zero_le _, rfl, Lib.hid (Seg.nil _ _ _ _), Lib.hid (Below.refl _ _)⟩
  case round =>
    obtain ⟨k, hk, rfl, HSG, HB⟩ := hrel
    have hkl := HKL.out k
    rw [List.length_take, Nat.min_eq_left hk] at hkl
    obtain ⟨ao, co, rfl⟩ := HSG.out.form
    by_cases hlt : k < ds.length
    · obtain ⟨g, off, _, e, hgb, hgw, _⟩ := (HS.out.chain HB.out).shape (by omega)
      cases e
      obtain ⟨c0, c1, c2, c3, c4, c5, c6, c7, c8, c9⟩ := (HS.out.chain HB.out).dg hlt
      have hks := kept_snoc (dropB st) hlt
      have hki : (k : Int) < (ds.length : Int) := by omega
      obtain ⟨d, hd⟩ : ∃ d, ds[k] = d := ⟨_, rfl⟩
      rw [hd] at c0 c1 c2 c3 c4 c5 c6 c7 c8 c9 hks
      have HKS := Lib.hid hks
      have HLT := Lib.hid hlt
      have hdp : dropB st d = (d.stream == st && d.kind != 6) := rfl
      have HDP := Lib.hid hdp
      obtain ⟨d0, d1, d2, d3, d4, d5, d6, d7, d8, d9⟩ := d
      simp only at c0 c1 c2 c3 c4 c5 c6 c7 c8 c9
      clear hks hd hdp
      generalize hK : keptD (dropB st) (ds.take k) = K at *
      have hsg := HSG.out
      have HCN := Lib.hid (cells_new wr (Dg.vals ⟨d0, d1, d2, d3, d4, d5, d6, d7, d8, d9⟩) 24)
      obtain ⟨z1, z2⟩ : K.length + 1 ≤ maxLen ∧ (K.length + 1) * 96 ≤ 140737488355328 := by
        unfold maxLen
        omega
      have hbs : w.heap.size ≤ wr.heap.size := HB.out.size
      have HKK := Lib.hid hK
      clear hK
      by_cases hdr : d1 = st ∧ ¬ d0 = 6
      · obtain ⟨e1, e2⟩ := hdr
        subst e1
        have e3 : (d0 == 6) = false := by simpa using e2
        have hpt : dropB d1 ⟨d0, d1, d2, d3, d4, d5, d6, d7, d8, d9⟩ = true := by rw [HDP.out]; simp [e2]
        have HE := Lib.hid (HKS.out.trans (by rw [if_pos hpt, List.append_nil]))
        clear hpt
        go_wp2_with fail
        go_roundw
        case rel => exact ⟨k + 1, HLT.out, by go_num, by rw [HE.out]; exact HSG, HB⟩
        case measure => have := HLT.out; simp [intOf]; omega
      · have hpt : dropB st ⟨d0, d1, d2, d3, d4, d5, d6, d7, d8, d9⟩ = false := by rw [HDP.out]; simpa using hdr
        have HE := Lib.hid (HKS.out.trans (by rw [if_neg (by simp [hpt])]))
        clear hpt
        by_cases e1 : d1 = st
        · have e2 : d0 = 6 := by
            by_cases h : d0 = 6
            · exact h
            · exact absurd ⟨e1, h⟩ hdr
          subst e1 e2
          clear hdr
          go_wp2_with (at_builtin; refine wpList_append_seg _ rfl (.tmp 29) (.tmp 34) 46 rfl w.heap.size 24 i0 _ 10 96 Try.underlying46 hi hz0 hz1 hz2 rfl (by decide) (.slice ao K.length co) K.length (dgC K) rfl (hsg.alloc _) ⟨wr.heap.size, 0, none⟩ 1 1 (Dg.vals ⟨6, d1, d2, d3, d4, d5, d6, d7, d8, d9⟩) rfl rfl HCN.out (by simp [Dg.vals, Value.oneCell']) (by decide) z1 z2 (by simp; omega) (wr.heap.size + 1) (by simp) ?_; intro g' off' cap' w5 hown hgrow hat)
          have HOW := Lib.hid hown
          have HBG := Lib.hid ((Below.chainAlloc HB.out (.cells (Dg.vals ⟨6, d1, d2, d3, d4, d5, d6, d7, d8, d9⟩).toArray 24)).grown hgrow (by simp; omega) (fun g hg => (hsg.blk g hg).1))
          clear hown hgrow hat
          go_roundw
          case rel => exact ⟨k + 1, HLT.out, by go_num, Lib.hid (by rw [HE.out, List.length_append, List.length_singleton, dgC_snoc]; exact HOW.out), HBG⟩
          case measure => have := HLT.out; simp [intOf]; omega
        · have e2 : (d1 == st) = false := by simpa using e1
          clear hdr
          go_wp2_with (at_builtin; refine wpList_append_seg _ rfl (.tmp 29) (.tmp 34) 46 rfl w.heap.size 24 i0 _ 10 96 Try.underlying46 hi hz0 hz1 hz2 rfl (by decide) (.slice ao K.length co) K.length (dgC K) rfl (hsg.alloc _) ⟨wr.heap.size, 0, none⟩ 1 1 (Dg.vals ⟨d0, d1, d2, d3, d4, d5, d6, d7, d8, d9⟩) rfl rfl HCN.out (by simp [Dg.vals, Value.oneCell']) (by decide) z1 z2 (by simp; omega) (wr.heap.size + 1) (by simp) ?_; intro g' off' cap' w5 hown hgrow hat)
          have HOW := Lib.hid hown
          have HBG := Lib.hid ((Below.chainAlloc HB.out (.cells (Dg.vals ⟨d0, d1, d2, d3, d4, d5, d6, d7, d8, d9⟩).toArray 24)).grown hgrow (by simp; omega) (fun g hg => (hsg.blk g hg).1))
          clear hown hgrow hat
          go_roundw
          case rel => exact ⟨k + 1, HLT.out, by go_num, Lib.hid (by rw [HE.out, List.length_append, List.length_singleton, dgC_snoc]; exact HOW.out), HBG⟩
          case measure => have := HLT.out; simp [intOf]; omega
    · obtain rfl : k = ds.length := by omega
      rw [List.take_length] at HSG hkl
      have hlt' : ¬ (ds.length : Int) < (ds.length : Int) := by omega
      have hw1 : wrap64 ((ds.length : Int) - ((keptD (dropB st) ds).length : Int)) = (ds.length : Int) - ((keptD (dropB st) ds).length : Int) := IntWalk.wrap64_in _ (by omega)
      have HSG := Lib.hid HSG.out
      generalize hKK : keptD (dropB st) ds = K at HSG hkl hw1
      go_wp2_with fail
      go_ret2
      subst hKK
      exact ⟨_, rfl, HSG.out, HB.out⟩
theorem rclean_any (st bs : Int) (base : Nat) (v : Value) (ds : List Dg) (w : World) (hs : Seg w base 24 10 v ds.length (dgC ds)) (hds : ds.length ≤ 1000) (hbs : 0 ≤ bs ∧ bs < 4294967296) (hx : ∀ x ∈ ds, 0 ≤ x.block ∧ x.block < 4294967296) :
    Calls Try.prog 29 #[v, .int .i64 st, .int .u32 bs] w fun e w' => ∃ v', e = .returned (.tuple #[v', .int .i64 ((ds.length : Int) - ((keptD (cleanB st bs) ds).length : Int))]) ∧ Seg w' w.heap.size 24 10 v' (keptD (cleanB st bs) ds).length (dgC (keptD (cleanB st bs) ds)) ∧ Below w.heap.size w w' := by
  obtain ⟨i0, hi, hz0, hz1, hz2⟩ := info_parts infoDg
  have HS := Lib.hid hs
  obtain ⟨a, cap, rfl⟩ := hs.form
  have hmx : ds.length ≤ 9223372036854775807 := by omega
  have HKL := Lib.hid (fun k => kept_le (cleanB st bs) (ds.take k))
  have HX := Lib.hid hx
  have HBS := Lib.hid hbs
  clear hs hx hbs
  go_enter Try.func29, Try.ntmps29
  go_wp2_with fail
  go_loopw [8, 9] (fun v6 i wr => ∃ k : Nat, k ≤ ds.length ∧ i = .int .i64 k ∧ Hid (Seg wr w.heap.size 24 10 v6 (keptD (cleanB st bs) (ds.take k)).length (dgC (keptD (cleanB st bs) (ds.take k)))) ∧ Hid (Below w.heap.size w wr)) (fun _ i _ => ds.length - (intOf i).toNat)
  case atStart => exact ⟨0, Nat.zero_le _, rfl, Lib.hid (Seg.nil _ _ _ _), Lib.hid (Below.refl _ _)⟩
  case round =>
    obtain ⟨k, hk, rfl, HSG, HB⟩ := hrel
    have hkl := HKL.out k
    rw [List.length_take, Nat.min_eq_left hk] at hkl
    obtain ⟨ao, co, rfl⟩ := HSG.out.form
    by_cases hlt : k < ds.length
    · obtain ⟨g, off, _, e, hgb, hgw, _⟩ := (HS.out.chain HB.out).shape (by omega)
      cases e
      obtain ⟨c0, c1, c2, c3, c4, c5, c6, c7, c8, c9⟩ := (HS.out.chain HB.out).dg hlt
      have hks := kept_snoc (cleanB st bs) hlt
      have hki : (k : Int) < (ds.length : Int) := by omega
      obtain ⟨d, hd⟩ : ∃ d, ds[k] = d := ⟨_, rfl⟩
      rw [hd] at c0 c1 c2 c3 c4 c5 c6 c7 c8 c9 hks
      have HKS := Lib.hid hks
      have HLT := Lib.hid hlt
      have hdp : cleanB st bs d = (d.kind == 3 && (d.stream == st && decide (0 < ahead d.block bs))) := rfl
      have HDB := Lib.hid (hd ▸ HX.out _ (List.getElem_mem hlt))
      have HLS := Lib.hid (fun w' => rless_any d.block bs w' HDB.out HBS.out)
      have HDP := Lib.hid hdp
      obtain ⟨d0, d1, d2, d3, d4, d5, d6, d7, d8, d9⟩ := d
      simp only at c0 c1 c2 c3 c4 c5 c6 c7 c8 c9
      clear hks hd hdp
      generalize hK : keptD (cleanB st bs) (ds.take k) = K at *
      have hsg := HSG.out
      have HCN := Lib.hid (cells_new wr (Dg.vals ⟨d0, d1, d2, d3, d4, d5, d6, d7, d8, d9⟩) 24)
      obtain ⟨z1, z2⟩ : K.length + 1 ≤ maxLen ∧ (K.length + 1) * 96 ≤ 140737488355328 := by
        unfold maxLen
        omega
      have hbs2 : w.heap.size ≤ wr.heap.size := HB.out.size
      have HKK := Lib.hid hK
      clear hK
      by_cases e1 : d0 = 3
      · by_cases e2 : d1 = st
        · subst e1 e2
          have HP : Hid (cleanB d1 bs ⟨3, d1, d2, d3, d4, d5, d6, d7, d8, d9⟩ = decide (0 < ahead d2 bs)) := Lib.hid (by rw [HDP.out]; simp)
          generalize decide (0 < ahead d2 bs) = r at HP HLS
          go_wp2_with fail
          refine (HLS.out _).mono ?_
          rintro e w3 ⟨rfl, h3⟩
          subst w3
          cases r with
          | true =>
            have HE := Lib.hid (HKS.out.trans (by rw [if_pos HP.out, List.append_nil]))
            go_wp2_with fail
            go_roundw
            case rel => exact ⟨k + 1, HLT.out, by go_num, by rw [HE.out]; exact HSG, HB⟩
            case measure => have := HLT.out; simp [intOf]; omega
          | false =>
            have HE := Lib.hid (HKS.out.trans (by rw [if_neg (by simp [HP.out])]))
            go_wp2_with (at_builtin; refine wpList_append_seg _ rfl (.tmp 41) (.tmp 46) 46 rfl w.heap.size 24 i0 _ 10 96 Try.underlying46 hi hz0 hz1 hz2 rfl (by decide) (.slice ao K.length co) K.length (dgC K) rfl (hsg.alloc _) ⟨wr.heap.size, 0, none⟩ 1 1 (Dg.vals ⟨3, d1, d2, d3, d4, d5, d6, d7, d8, d9⟩) rfl rfl HCN.out (by simp [Dg.vals, Value.oneCell']) (by decide) z1 z2 (by simp; omega) (wr.heap.size + 1) (by simp) ?_; intro g' off' cap' w5 hown hgrow hat)
            have HOW := Lib.hid hown
            have HBG := Lib.hid ((Below.chainAlloc HB.out (.cells (Dg.vals ⟨3, d1, d2, d3, d4, d5, d6, d7, d8, d9⟩).toArray 24)).grown hgrow (by simp; omega) (fun g hg => (hsg.blk g hg).1))
            clear hown hgrow hat
            go_roundw
            case rel => exact ⟨k + 1, HLT.out, by go_num, Lib.hid (by rw [HE.out, List.length_append, List.length_singleton, dgC_snoc]; exact HOW.out), HBG⟩
            case measure => have := HLT.out; simp [intOf]; omega
        · have e3 : (d1 == st) = false := by simpa using e2
          subst e1
          have HE := Lib.hid (HKS.out.trans (by rw [if_neg (by rw [HDP.out]; simp [e3])]))
          go_wp2_with (at_builtin; refine wpList_append_seg _ rfl (.tmp 41) (.tmp 46) 46 rfl w.heap.size 24 i0 _ 10 96 Try.underlying46 hi hz0 hz1 hz2 rfl (by decide) (.slice ao K.length co) K.length (dgC K) rfl (hsg.alloc _) ⟨wr.heap.size, 0, none⟩ 1 1 (Dg.vals ⟨3, d1, d2, d3, d4, d5, d6, d7, d8, d9⟩) rfl rfl HCN.out (by simp [Dg.vals, Value.oneCell']) (by decide) z1 z2 (by simp; omega) (wr.heap.size + 1) (by simp) ?_; intro g' off' cap' w5 hown hgrow hat)
          have HOW := Lib.hid hown
          have HBG := Lib.hid ((Below.chainAlloc HB.out (.cells (Dg.vals ⟨3, d1, d2, d3, d4, d5, d6, d7, d8, d9⟩).toArray 24)).grown hgrow (by simp; omega) (fun g hg => (hsg.blk g hg).1))
          clear hown hgrow hat
          go_roundw
          case rel => exact ⟨k + 1, HLT.out, by go_num, Lib.hid (by rw [HE.out, List.length_append, List.length_singleton, dgC_snoc]; exact HOW.out), HBG⟩
          case measure => have := HLT.out; simp [intOf]; omega
      · have e3 : (d0 == 3) = false := by simpa using e1
        have HE := Lib.hid (HKS.out.trans (by rw [if_neg (by rw [HDP.out]; simp [e3])]))
        go_wp2_with (at_builtin; refine wpList_append_seg _ rfl (.tmp 41) (.tmp 46) 46 rfl w.heap.size 24 i0 _ 10 96 Try.underlying46 hi hz0 hz1 hz2 rfl (by decide) (.slice ao K.length co) K.length (dgC K) rfl (hsg.alloc _) ⟨wr.heap.size, 0, none⟩ 1 1 (Dg.vals ⟨d0, d1, d2, d3, d4, d5, d6, d7, d8, d9⟩) rfl rfl HCN.out (by simp [Dg.vals, Value.oneCell']) (by decide) z1 z2 (by simp; omega) (wr.heap.size + 1) (by simp) ?_; intro g' off' cap' w5 hown hgrow hat)
        have HOW := Lib.hid hown
        have HBG := Lib.hid ((Below.chainAlloc HB.out (.cells (Dg.vals ⟨d0, d1, d2, d3, d4, d5, d6, d7, d8, d9⟩).toArray 24)).grown hgrow (by simp; omega) (fun g hg => (hsg.blk g hg).1))
        clear hown hgrow hat
        go_roundw
        case rel => exact ⟨k + 1, HLT.out, by go_num, Lib.hid (by rw [HE.out, List.length_append, List.length_singleton, dgC_snoc]; exact HOW.out), HBG⟩
        case measure => have := HLT.out; simp [intOf]; omega
    · obtain rfl : k = ds.length := by omega
      rw [List.take_length] at HSG hkl
      have hlt' : ¬ (ds.length : Int) < (ds.length : Int) := by omega
      have hw1 : wrap64 ((ds.length : Int) - ((keptD (cleanB st bs) ds).length : Int)) = (ds.length : Int) - ((keptD (cleanB st bs) ds).length : Int) := IntWalk.wrap64_in _ (by omega)
      have HSG := Lib.hid HSG.out
      generalize hKK : keptD (cleanB st bs) ds = K at HSG hkl hw1
      go_wp2_with fail
      go_ret2
      subst hKK
      exact ⟨_, rfl, HSG.out, HB.out⟩
end Go.Proofs.Ytphejbjbleeigaa
