/-
  What is to be said: the document's Ask (chapter 25).
-/
import Derived.Test.YtphejbjbleeigaaCt10
namespace Go.Proofs.Ytphejbjbleeigaa
open Go Go.RowKit
set_option linter.unusedVariables false
set_option maxRecDepth 100000
set_option maxHeartbeats 4000000
theorem rask_bad (d : Dg) (v : Value) (w : World) (hh : d.have'.length ≤ 9223372036854775807) (hl : d.body.length ≤ 9223372036854775807) (he : askE d ≠ 0) :
    Calls Try.prog 26 #[v, d.val] w (RetB (.tuple #[v, .int .i64 (askE d)]) w) := by
  have HC := Lib.hid (fun w' => rchk_dg d hh hl w')
  have hba : Below w.heap.size w (w.alloc (.cells d.vals.toArray 24)) := Below.chainAlloc (Below.refl _ _) _
  have kb := Blk.new w d.vals.toArray 24
  have HKB := Lib.hid (And.intro kb hba)
  unfold askE at he ⊢
  by_cases h1 : dgE d = 0
  · have h2 : d.kind = 1 ∨ d.kind = 2 := by
      rw [h1] at he
      simp at he
      by_cases hk : d.kind = 1
      · exact .inl hk
      · exact .inr (he hk)
    rw [if_neg (by simpa using h1), if_pos h2]
    rw [h1] at HC
    clear he h1 kb hba
    obtain ⟨d0, d1, d2, d3, d4, d5, d6, d7, d8, d9⟩ := d
    simp only at h2
    go_enter Try.func26, Try.ntmps26
    go_wp2_with fail
    refine (HC.out _).mono ?_
    rintro e w1 ⟨rfl, hb1⟩
    have kb1 := HKB.out.1.below hb1 HKB.out.1.lt
    have y0 : w1.cell? ⟨w.heap.size, 0, none⟩ = some (.int .i64 d0) := kb1.facts.1 0
    have HB := Lib.hid (Below.chain hb1 HKB.out.2)
    clear hb1 kb1
    rcases h2 with h2 | h2
    · subst h2
      go_wp2_with fail
      go_ret2
      exact ⟨rfl, HB.out⟩
    · subst h2
      go_wp2_with fail
      go_ret2
      exact ⟨rfl, HB.out⟩
  · rw [if_pos h1]
    have h1b : (dgE d != 0) = true := by simpa using h1
    generalize dgE d = z at *
    clear he kb hba
    obtain ⟨d0, d1, d2, d3, d4, d5, d6, d7, d8, d9⟩ := d
    go_enter Try.func26, Try.ntmps26
    go_wp2_with fail
    refine (HC.out _).mono ?_
    rintro e w1 ⟨rfl, hb1⟩
    have HB := Lib.hid (Below.chain hb1 HKB.out.2)
    clear hb1
    go_wp2_with fail
    go_ret2
    exact ⟨rfl, HB.out⟩
def mapL (ds : List Dg) (d : Dg) : List Dg := ds.map fun x => if likeB x d = true then d else x
theorem mapL_len (ds : List Dg) (d : Dg) : (mapL ds d).length = ds.length := by simp [mapL]
theorem mapL_snoc (d : Dg) {ds : List Dg} {k : Nat} (hk : k < ds.length) : mapL (ds.take (k + 1)) d = mapL (ds.take k) d ++ [if likeB ds[k] d = true then d else ds[k]] := by
  unfold mapL
  rw [List.take_succ_eq_append_getElem hk, List.map_append, List.map_singleton]
theorem any_snoc (d : Dg) {ds : List Dg} {k : Nat} (hk : k < ds.length) : (ds.take (k + 1)).any (fun x => likeB x d) = ((ds.take k).any (fun x => likeB x d) || likeB ds[k] d) := by
  rw [List.take_succ_eq_append_getElem hk, List.any_append]
  simp
theorem rask_ok (d : Dg) (base : Nat) (v : Value) (ds : List Dg) (w : World) (hh : d.have'.length ≤ 9223372036854775807) (hl : d.body.length ≤ 9223372036854775807) (hs : Seg w base 24 10 v ds.length (dgC ds)) (hds : ds.length ≤ 1000) (he : askE d = 0) :
    Calls Try.prog 26 #[v, d.val] w fun e w' => ∃ v', e = .returned (.tuple #[v', .int .i64 0]) ∧ Seg w' w.heap.size 24 10 v' (rAskL ds d).length (dgC (rAskL ds d)) ∧ Below w.heap.size w w' := by
  have h1 : dgE d = 0 ∧ d.kind ≠ 1 ∧ d.kind ≠ 2 := by
    unfold askE at he
    split at he
    · contradiction
    · split at he
      · contradiction
      · omega
  obtain ⟨h0, hk1, hk2⟩ := h1
  have HC := Lib.hid (fun w' => rchk_dg d hh hl w')
  rw [h0] at HC
  obtain ⟨i0, hi, hz0, hz1, hz2⟩ := info_parts infoDg
  have hba : Below w.heap.size w (w.alloc (.cells d.vals.toArray 24)) := Below.chainAlloc (Below.refl _ _) _
  have HKB := Lib.hid (And.intro (Blk.new w d.vals.toArray 24) hba)
  have HS := Lib.hid hs
  have HLK := Lib.hid (fun x w' => rlike_any x d w')
  have hk1b : (d.kind == 1) = false := beq_eq_false_iff_ne.2 hk1
  have hk2b : (d.kind == 2) = false := beq_eq_false_iff_ne.2 hk2
  have HMS : Hid (∀ k (hk : k < ds.length), mapL (ds.take (k + 1)) d = mapL (ds.take k) d ++ [if likeB ds[k] d = true then d else ds[k]]) := Lib.hid fun k hk => mapL_snoc d hk
  have HAS : Hid (∀ k (hk : k < ds.length), (ds.take (k + 1)).any (fun x => likeB x d) = ((ds.take k).any (fun x => likeB x d) || likeB ds[k] d)) := Lib.hid fun k hk => any_snoc d hk
  have HML : Hid (∀ k, (mapL (ds.take k) d).length = min k ds.length) := Lib.hid fun k => by rw [mapL_len, List.length_take]
  have HFN : Hid (rAskL ds d = mapL (ds.take ds.length) d ++ (if (ds.take ds.length).any (fun x => likeB x d) = true then [] else [d])) := Lib.hid (by rw [List.take_length]; rfl)
  obtain ⟨a, cap, rfl⟩ := hs.form
  have hmx : ds.length ≤ 9223372036854775807 := by omega
  clear hba he h0 hs
  obtain ⟨d0, d1, d2, d3, d4, d5, d6, d7, d8, d9⟩ := d
  simp only at hk1b hk2b hk1 hk2
  go_enter Try.func26, Try.ntmps26
  go_wp2_with fail
  refine (HC.out _).mono ?_
  rintro e w1 ⟨rfl, hb1⟩
  have kb1 := HKB.out.1.below hb1 HKB.out.1.lt
  have y0 : w1.cell? ⟨w.heap.size, 0, none⟩ = some (.int .i64 d0) := kb1.facts.1 0
  have HB1 := Lib.hid (And.intro (Below.chain hb1 HKB.out.2) kb1)
  clear hb1 kb1
  go_wp2_with fail
  clear y0
  have hbs1 : w.heap.size < w1.heap.size := HB1.out.2.lt
  go_loopw [7, 8, 9] (fun v7 v8 i wr => ∃ k : Nat, k ≤ ds.length ∧ i = .int .i64 k ∧ v8 = .bool ((ds.take k).any (fun x => likeB x ⟨d0, d1, d2, d3, d4, d5, d6, d7, d8, d9⟩)) ∧
      Hid (Seg wr w1.heap.size 24 10 v7 k (dgC (mapL (ds.take k) ⟨d0, d1, d2, d3, d4, d5, d6, d7, d8, d9⟩))) ∧ Hid (Below w1.heap.size w1 wr)) (fun _ _ i _ => ds.length - (intOf i).toNat)
  case atStart => exact ⟨0, Nat.zero_le _, rfl, rfl, Lib.hid (Seg.nil _ _ _ _), Lib.hid (Below.refl _ _)⟩
  case round =>
    obtain ⟨k, hk, rfl, rfl, HSG, HB⟩ := hrel
    have hkl := HML.out k
    rw [Nat.min_eq_left hk] at hkl
    obtain ⟨ao, co, rfl⟩ := HSG.out.form
    by_cases hlt : k < ds.length
    · have hms := HMS.out k hlt
      have has' := HAS.out k hlt
      obtain ⟨g, off, _, e, hgb, hgw, _⟩ := HS.out.shape (by omega)
      cases e
      have hsr : Seg wr base 24 10 (.slice (some ⟨g, off, none⟩) ds.length cap) ds.length (dgC ds) := (HS.out.chain HB1.out.1).chain HB.out
      have kbr := HB1.out.2.below HB.out HB1.out.2.lt
      have hki : (k : Int) < (ds.length : Int) := by omega
      obtain ⟨x, hx⟩ : ∃ x, ds[k] = x := ⟨_, rfl⟩
      rw [hx] at hms has'
      obtain ⟨x0, x1, x2, x3, x4, x5, x6, x7, x8, x9⟩ := x
      have HMK : Hid (∀ w', Below wr.heap.size wr w' → (((w'.cell? ⟨g, off + k * 10, none⟩ = some (.int .i64 x0) ∧ w'.cell? ⟨g, off + k * 10 + 1, none⟩ = some (.int .i64 x1) ∧ w'.cell? ⟨g, off + k * 10 + 2, none⟩ = some (.int .u32 x2) ∧ w'.cell? ⟨g, off + k * 10 + 3, none⟩ = some (.int .i64 x3) ∧ w'.cell? ⟨g, off + k * 10 + 4, none⟩ = some (.int .i64 x4) ∧
          w'.cell? ⟨g, off + k * 10 + 5, none⟩ = some (.int .i64 x5) ∧ w'.cell? ⟨g, off + k * 10 + 6, none⟩ = some (.int .i64 x6) ∧ w'.cell? ⟨g, off + k * 10 + 7, none⟩ = some (.int .i64 x7) ∧ w'.cell? ⟨g, off + k * 10 + 8, none⟩ = some (Str x8) ∧ w'.cell? ⟨g, off + k * 10 + 9, none⟩ = some (Str x9)) ∧
          w'.cell? ⟨w.heap.size, 0, none⟩ = some (.int .i64 d0) ∧ w'.cell? ⟨w.heap.size, 1, none⟩ = some (.int .i64 d1) ∧ w'.cell? ⟨w.heap.size, 2, none⟩ = some (.int .u32 d2) ∧ w'.cell? ⟨w.heap.size, 3, none⟩ = some (.int .i64 d3) ∧ w'.cell? ⟨w.heap.size, 4, none⟩ = some (.int .i64 d4) ∧
          w'.cell? ⟨w.heap.size, 5, none⟩ = some (.int .i64 d5) ∧ w'.cell? ⟨w.heap.size, 6, none⟩ = some (.int .i64 d6) ∧ w'.cell? ⟨w.heap.size, 7, none⟩ = some (.int .i64 d7) ∧ w'.cell? ⟨w.heap.size, 8, none⟩ = some (Str d8) ∧ w'.cell? ⟨w.heap.size, 9, none⟩ = some (Str d9)) ∧ Below wr.heap.size wr w')) := Lib.hid fun w' hw => by
        have k2 := (hsr.chain hw).dg hlt
        rw [hx] at k2
        have k3 := (kbr.below hw kbr.lt).facts.1
        exact ⟨⟨k2, k3 0, k3 1, k3 2, k3 3, k3 4, k3 5, k3 6, k3 7, k3 8, k3 9⟩, hw⟩
      have HLKx := Lib.hid (HLK.out ⟨x0, x1, x2, x3, x4, x5, x6, x7, x8, x9⟩)
      have HLT := Lib.hid hlt
      have HQ := Lib.hid (And.intro hsr kbr)
      clear hsr kbr hx
      have hbsr : w1.heap.size ≤ wr.heap.size := HB.out.size
      go_upto_region 11 with fail
      go_region_held3 (fun w' => (((w'.cell? ⟨g, off + k * 10, none⟩ = some (.int .i64 x0) ∧ w'.cell? ⟨g, off + k * 10 + 1, none⟩ = some (.int .i64 x1) ∧ w'.cell? ⟨g, off + k * 10 + 2, none⟩ = some (.int .u32 x2) ∧ w'.cell? ⟨g, off + k * 10 + 3, none⟩ = some (.int .i64 x3) ∧ w'.cell? ⟨g, off + k * 10 + 4, none⟩ = some (.int .i64 x4) ∧
          w'.cell? ⟨g, off + k * 10 + 5, none⟩ = some (.int .i64 x5) ∧ w'.cell? ⟨g, off + k * 10 + 6, none⟩ = some (.int .i64 x6) ∧ w'.cell? ⟨g, off + k * 10 + 7, none⟩ = some (.int .i64 x7) ∧ w'.cell? ⟨g, off + k * 10 + 8, none⟩ = some (Str x8) ∧ w'.cell? ⟨g, off + k * 10 + 9, none⟩ = some (Str x9)) ∧
          w'.cell? ⟨w.heap.size, 0, none⟩ = some (.int .i64 d0) ∧ w'.cell? ⟨w.heap.size, 1, none⟩ = some (.int .i64 d1) ∧ w'.cell? ⟨w.heap.size, 2, none⟩ = some (.int .u32 d2) ∧ w'.cell? ⟨w.heap.size, 3, none⟩ = some (.int .i64 d3) ∧ w'.cell? ⟨w.heap.size, 4, none⟩ = some (.int .i64 d4) ∧
          w'.cell? ⟨w.heap.size, 5, none⟩ = some (.int .i64 d5) ∧ w'.cell? ⟨w.heap.size, 6, none⟩ = some (.int .i64 d6) ∧ w'.cell? ⟨w.heap.size, 7, none⟩ = some (.int .i64 d7) ∧ w'.cell? ⟨w.heap.size, 8, none⟩ = some (Str d8) ∧ w'.cell? ⟨w.heap.size, 9, none⟩ = some (Str d9)) ∧ Below wr.heap.size wr w'))
        (first
          | exact HMK.out _ (Below.refl _ _).drew
          | exact HMK.out _ (Below.refl _ _)
          | (go_split_ands; exact HMK.out _ (Below.chain hb2 (by first | assumption | exact (Below.refl _ _).drew | exact Below.refl _ _))))
        ((go_at_call 72; refine (HLKx.out _).mono ?_; rintro xx w3 ⟨rfl, hb2⟩))
      have hbw3 : Below wr.heap.size wr w3 := Below.chain hb2 (Below.refl _ _).drew
      have HMK3 := Lib.hid (HMK.out w3 hbw3)
      have hsg := HSG.out.chain hbw3
      have HBW := Lib.hid (Below.chain hbw3 HB.out)
      have hbs3 : w1.heap.size ≤ w3.heap.size := HBW.out.size
      obtain ⟨M, hM⟩ : ∃ M, mapL (ds.take k) ⟨d0, d1, d2, d3, d4, d5, d6, d7, d8, d9⟩ = M := ⟨_, rfl⟩
      obtain ⟨r, hr⟩ : ∃ r, likeB ⟨x0, x1, x2, x3, x4, x5, x6, x7, x8, x9⟩ ⟨d0, d1, d2, d3, d4, d5, d6, d7, d8, d9⟩ = r := ⟨_, rfl⟩
      rw [hr]
      rw [hr] at hms has'
      rw [hM] at hsg hms
      obtain ⟨z1, z2⟩ : k + 1 ≤ maxLen ∧ (k + 1) * 96 ≤ 140737488355328 := by
        unfold maxLen
        omega
      have HCND := Lib.hid (cells_new w3 (Dg.vals ⟨d0, d1, d2, d3, d4, d5, d6, d7, d8, d9⟩) 24)
      have HCNX := Lib.hid (cells_new w3 (Dg.vals ⟨x0, x1, x2, x3, x4, x5, x6, x7, x8, x9⟩) 24)
      clear hb2 hbw3 hM hr HLKx HMK
      obtain ⟨⟨⟨f0, f1, f2, f3, f4, f5, f6, f7, f8, f9⟩, g0, g1, g2, g3, g4, g5, g6, g7, g8, g9⟩, _⟩ := HMK3.out
      cases r with
      | true =>
        have HMS2 := Lib.hid (hms.trans (by rw [if_pos rfl]))
        have HAS2 := Lib.hid (has'.trans (by rw [Bool.or_true]))
        clear hms has'
        go_wp2_with (at_builtin; refine wpList_append_seg _ rfl (.tmp 37) (.tmp 39) 46 rfl w1.heap.size 24 i0 _ 10 96 Try.underlying46 hi hz0 hz1 hz2 rfl (by decide) (.slice ao k co) k (dgC M) rfl (hsg.alloc _) ⟨w3.heap.size, 0, none⟩ 1 1 (Dg.vals ⟨d0, d1, d2, d3, d4, d5, d6, d7, d8, d9⟩) rfl rfl HCND.out (by simp [Dg.vals, Value.oneCell']) (by decide) z1 z2 (by simp; omega) (w3.heap.size + 1) (by simp) ?_; intro g' off' cap' w5 hown hgrow hat)
        have HOW := Lib.hid hown
        have HBG := Lib.hid ((Below.chainAlloc HBW.out (.cells (Dg.vals ⟨d0, d1, d2, d3, d4, d5, d6, d7, d8, d9⟩).toArray 24)).grown hgrow (by simp; omega) (fun g hg => (hsg.blk g hg).1))
        clear hown hgrow hat
        go_roundw
        case rel => exact ⟨k + 1, HLT.out, by go_num, by rw [HAS2.out], Lib.hid (by rw [HMS2.out, dgC_snoc]; exact HOW.out), HBG⟩
        case measure => have := HLT.out; simp [intOf]; omega
      | false =>
        have HMS2 := Lib.hid (hms.trans (by rw [if_neg (by decide)]))
        have HAS2 := Lib.hid (has'.trans (by rw [Bool.or_false]))
        clear hms has'
        go_wp2_with (at_builtin; refine wpList_append_seg _ rfl (.tmp 41) (.tmp 46) 46 rfl w1.heap.size 24 i0 _ 10 96 Try.underlying46 hi hz0 hz1 hz2 rfl (by decide) (.slice ao k co) k (dgC M) rfl (hsg.alloc _) ⟨w3.heap.size, 0, none⟩ 1 1 (Dg.vals ⟨x0, x1, x2, x3, x4, x5, x6, x7, x8, x9⟩) rfl rfl HCNX.out (by simp [Dg.vals, Value.oneCell']) (by decide) z1 z2 (by simp; omega) (w3.heap.size + 1) (by simp) ?_; intro g' off' cap' w5 hown hgrow hat)
        have HOW := Lib.hid hown
        have HBG := Lib.hid ((Below.chainAlloc HBW.out (.cells (Dg.vals ⟨x0, x1, x2, x3, x4, x5, x6, x7, x8, x9⟩).toArray 24)).grown hgrow (by simp; omega) (fun g hg => (hsg.blk g hg).1))
        clear hown hgrow hat
        go_roundw
        case rel => exact ⟨k + 1, HLT.out, by go_num, by rw [HAS2.out], Lib.hid (by rw [HMS2.out, dgC_snoc]; exact HOW.out), HBG⟩
        case measure => have := HLT.out; simp [intOf]; omega
    · obtain rfl : k = ds.length := by omega
      have hlt' : ¬ (ds.length : Int) < (ds.length : Int) := by omega
      have hsg := HSG.out
      have hbs3 : w1.heap.size ≤ wr.heap.size := HB.out.size
      have kbr := HB1.out.2.below HB.out HB1.out.2.lt
      have g0 : wr.cell? ⟨w.heap.size, 0, none⟩ = some (.int .i64 d0) := kbr.facts.1 0
      have g1 : wr.cell? ⟨w.heap.size, 1, none⟩ = some (.int .i64 d1) := kbr.facts.1 1
      have g2 : wr.cell? ⟨w.heap.size, 2, none⟩ = some (.int .u32 d2) := kbr.facts.1 2
      have g3 : wr.cell? ⟨w.heap.size, 3, none⟩ = some (.int .i64 d3) := kbr.facts.1 3
      have g4 : wr.cell? ⟨w.heap.size, 4, none⟩ = some (.int .i64 d4) := kbr.facts.1 4
      have g5 : wr.cell? ⟨w.heap.size, 5, none⟩ = some (.int .i64 d5) := kbr.facts.1 5
      have g6 : wr.cell? ⟨w.heap.size, 6, none⟩ = some (.int .i64 d6) := kbr.facts.1 6
      have g7 : wr.cell? ⟨w.heap.size, 7, none⟩ = some (.int .i64 d7) := kbr.facts.1 7
      have g8 : wr.cell? ⟨w.heap.size, 8, none⟩ = some (Str d8) := kbr.facts.1 8
      have g9 : wr.cell? ⟨w.heap.size, 9, none⟩ = some (Str d9) := kbr.facts.1 9
      obtain ⟨M, hM⟩ : ∃ M, mapL (ds.take ds.length) ⟨d0, d1, d2, d3, d4, d5, d6, d7, d8, d9⟩ = M := ⟨_, rfl⟩
      obtain ⟨r, hr⟩ : ∃ r, (ds.take ds.length).any (fun x => likeB x ⟨d0, d1, d2, d3, d4, d5, d6, d7, d8, d9⟩) = r := ⟨_, rfl⟩
      rw [hM] at hsg hkl
      rw [hM, hr] at HFN
      rw [hr]
      have HCND := Lib.hid (cells_new wr (Dg.vals ⟨d0, d1, d2, d3, d4, d5, d6, d7, d8, d9⟩) 24)
      obtain ⟨z1, z2⟩ : ds.length + 1 ≤ maxLen ∧ (ds.length + 1) * 96 ≤ 140737488355328 := by
        unfold maxLen
        omega
      clear hM hr kbr
      cases r with
      | true =>
        have HE := Lib.hid (HFN.out.trans (by rw [if_pos rfl, List.append_nil]))
        have HF := Lib.hid (And.intro (And.intro (hsg.le (Nat.le_of_lt hbs1)) hkl) (Below.chain HB.out HB1.out.1))
        clear hsg hkl g0 g1 g2 g3 g4 g5 g6 g7 g8 g9
        go_wp2_with fail
        go_ret2
        exact ⟨_, rfl, by rw [HE.out, HF.out.1.2]; exact HF.out.1.1, HF.out.2⟩
      | false =>
        have HE := Lib.hid (HFN.out.trans (by rw [if_neg (by decide)]))
        have HKL := Lib.hid hkl
        clear hkl
        go_wp2_with (at_builtin; refine wpList_append_seg _ rfl (.tmp 50) (.tmp 52) 46 rfl w1.heap.size 24 i0 _ 10 96 Try.underlying46 hi hz0 hz1 hz2 rfl (by decide) (.slice ao ds.length co) ds.length (dgC M) rfl (hsg.alloc _) ⟨wr.heap.size, 0, none⟩ 1 1 (Dg.vals ⟨d0, d1, d2, d3, d4, d5, d6, d7, d8, d9⟩) rfl rfl HCND.out (by simp [Dg.vals, Value.oneCell']) (by decide) z1 z2 (by simp; omega) (wr.heap.size + 1) (by simp) ?_; intro g' off' cap' w5 hown hgrow hat)
        have HOW := Lib.hid (hown.le (Nat.le_of_lt hbs1))
        have hbg := (Below.chainAlloc HB.out (.cells (Dg.vals ⟨d0, d1, d2, d3, d4, d5, d6, d7, d8, d9⟩).toArray 24)).grown hgrow (by simp; omega) (fun g hg => (hsg.blk g hg).1)
        have HBG := Lib.hid (Below.chain hbg HB1.out.1)
        clear hown hgrow hat hbg
        go_wp2_with fail
        go_ret2
        exact ⟨_, rfl, by rw [HE.out, List.length_append, List.length_singleton, HKL.out, dgC_snoc]; exact HOW.out, HBG.out⟩
end Go.Proofs.Ytphejbjbleeigaa
