/-
  More shards than needed: Encode: the document's (chapter 5).
-/
import Derived.Test.YtelpkddgcmikfaaDoorMJ
namespace Go.Proofs.YtelpkddgcmikfaaDoor
open Go.RowKit
set_option linter.unusedVariables false
set_option maxRecDepth 100000
set_option maxHeartbeats 1000000
theorem any_take {ds : List (List UInt8)} {L j : Nat} (hj : j < ds.length) (h : (ds.take j).any (fun t => decide (t.length ≠ L)) = false) (he : ds[j].length = L) : (ds.take (j + 1)).any (fun t => decide (t.length ≠ L)) = false := by
  rw [List.take_succ_eq_append_getElem hj, List.any_append, h]
  simp [he]
theorem any_hit {ds : List (List UInt8)} {L j : Nat} (hj : j < ds.length) (he : ds[j].length ≠ L) : ds.any (fun t => decide (t.length ≠ L)) = true :=
  List.any_eq_true.2 ⟨ds[j], List.getElem_mem hj, by simpa using he⟩
theorem r5check_any (B : Nat) (v : Value) (ds : List (List UInt8)) (w : World) (h : SlAt B w 9 v (ds.map Str)) : Calls Tryd.prog 37 #[v] w fun e w' => e = .returned (.int .i64 (checkS ds)) ∧ Drawn w w' := by
  have h0 := h
  obtain ⟨a, cap, rfl, hm, hat⟩ := strs_at h
  clear h
  by_cases h1 : ds.length < 1 ∨ 32 < ds.length
  · have e : checkS ds = 1 := by unfold checkS; rw [if_pos h1]
    rw [e]
    clear e hat
    by_cases h2 : ds.length < 1
    · have h3 : (ds.length : Int) < 1 := by omega
      clear h1 h2
      go_enter Tryd.func37, Tryd.ntmps37
      go_wp2_with fail
      go_ret
      exact ⟨rfl, Drawn.refl _⟩
    · have h3 : ¬ (ds.length : Int) < 1 := by omega
      have h4 : (32 : Int) < (ds.length : Int) := by omega
      clear h1 h2
      go_enter Tryd.func37, Tryd.ntmps37
      go_wp2_with fail
      go_ret
      exact ⟨rfl, Drawn.refl _⟩
  · have g1 : ¬ (ds.length : Int) < 1 := by omega
    have g2 : ¬ (32 : Int) < (ds.length : Int) := by omega
    have hp : 0 < ds.length := by omega
    have hpi : (0 : Int) < (ds.length : Int) := by omega
    have hhd : ds.headD [] = ds[0] := by
      cases ds with
      | nil => simp at hp
      | cons x ts => rfl
    obtain ⟨g, off, rfl, hg, c0⟩ := hat 0 hp
    rw [Nat.add_zero] at c0
    by_cases h2 : ds[0].length < 1 ∨ 1024 < ds[0].length
    · have e : checkS ds = 3 := by unfold checkS; rw [if_neg h1, hhd, if_pos h2]
      rw [e]
      clear e hat hhd h1
      generalize ds[0] = x at *
      by_cases h3 : x.length < 1
      · have h4 : (x.length : Int) < 1 := by omega
        clear h2
        go_enter Tryd.func37, Tryd.ntmps37
        go_wp2_with fail
        go_ret
        exact ⟨rfl, Drawn.refl _⟩
      · have h4 : ¬ (x.length : Int) < 1 := by omega
        have h5 : (1024 : Int) < (x.length : Int) := by omega
        clear h2
        go_enter Tryd.func37, Tryd.ntmps37
        go_wp2_with fail
        go_ret
        exact ⟨rfl, Drawn.refl _⟩
    · have HE : Hid (checkS ds = if ds.any (fun t => decide (t.length ≠ ds[0].length)) then 16 else 0) := Lib.hid (by unfold checkS; rw [if_neg h1, hhd, if_neg h2])
      have g3 : ¬ (ds[0].length : Int) < 1 := by omega
      have g4 : ¬ (1024 : Int) < (ds[0].length : Int) := by omega
      have HA := Lib.hid h0
      clear hat hhd h1 h2 h0
      obtain ⟨x, hx⟩ : ∃ x, ds[0] = x := ⟨_, rfl⟩
      rw [hx] at HE g3 g4 c0
      clear hx
      go_enter Tryd.func37, Tryd.ntmps37
      go_wp2_with fail
      clear g3 g4
      go_loopw [3] (fun i wr => ∃ k : Nat, k ≤ ds.length ∧ i = .int .i64 k ∧ Hid ((ds.take k).any (fun t => decide (t.length ≠ x.length)) = false) ∧ Hid (Drawn w wr)) (fun i _ => ds.length - (intOf i).toNat)
      case atStart => exact ⟨0, by omega, rfl, Lib.hid (by simp), Lib.hid (Drawn.refl _)⟩
      case round =>
        obtain ⟨k, hk, rfl, HT, HD⟩ := hrel
        by_cases hlt : k < ds.length
        · obtain ⟨_, _, e, _, h1⟩ := strs_at (HA.out.chain HD.out.below)
          cases e
          obtain ⟨g1, o1, e, hg1, c1⟩ := h1 k hlt
          cases e
          have c0' := (HD.out.below.cell (p := ⟨g, off, none⟩) hg).trans c0
          have hlti : (k : Int) < (ds.length : Int) := by omega
          have HLT := Lib.hid hlt
          clear h1
          by_cases he : ds[k].length = x.length
          · have HS := Lib.hid (any_take hlt HT.out he)
            have hne : ((ds[k].length : Int) != (x.length : Int)) = false := by simp [he]
            generalize ds[k] = y at *
            go_wp2_with fail
            go_quiet (fail)
            go_wp2_with fail
            go_roundw
            case rel => exact ⟨k + 1, HLT.out, by go_num, HS, Lib.hid (HD.out.trans (Drawn.of_drewN _ _))⟩
            case measure => have := HLT.out; simp [intOf]; omega
          · have HE2 : Hid (checkS ds = 16) := Lib.hid (by rw [HE.out, any_hit hlt he]; rfl)
            have hne : ((ds[k].length : Int) != (x.length : Int)) = true := by simp; omega
            have hne2 : ¬ (ds[k].length : Int) = (x.length : Int) := by omega
            generalize ds[k] = y at *
            go_wp2_with fail
            go_quiet (fail)
            go_wp2_with fail
            go_ret
            exact ⟨by rw [HE2.out]; rfl, HD.out.trans (Drawn.of_drewN _ _)⟩
        · have HE2 : Hid (checkS ds = 0) := Lib.hid (by
            have h3 := HT.out
            rw [List.take_of_length_le (by omega)] at h3
            rw [HE.out, h3]
            rfl)
          have hlt' : ¬ (k : Int) < (ds.length : Int) := by omega
          go_wp2_with fail
          go_ret
          exact ⟨by rw [HE2.out]; rfl, HD.out⟩
theorem rencode_any (B : Nat) (v : Value) (ds : List (List UInt8)) (n : Int) (w : World) (h : SlAt B w 9 v (ds.map Str)) :
    Calls Tryd.prog 21 #[v, .int .i64 n] w fun e w' => ∃ v', e = .returned (.tuple #[v', .int .i64 (mayS ds n)]) ∧ SlAt 0 w' 9 v' ((encS ds n).map Str) ∧ Below w.heap.size w w' := by
  have HCK := Lib.hid (r5check_any B v ds w h)
  have HS := Lib.hid h
  obtain ⟨a, cap, rfl, hmx, _⟩ := strs_at h
  clear h
  by_cases hck : checkS ds = 0
  · by_cases hn : n < (ds.length : Int) ∨ 255 < n
    · have e1 : mayS ds n = 1 := by unfold mayS; rw [if_neg (by omega), if_pos hn]
      have e2 : encS ds n = [] := by unfold encS; rw [if_neg (by omega)]
      rw [e1, e2]
      rw [hck] at HCK
      clear e1 e2 hck
      by_cases h1 : n < (ds.length : Int)
      · clear hn
        go_enter Tryd.func21, Tryd.ntmps21
        go_wp2_with fail
        refine HCK.out.mono ?_
        rintro e w1 ⟨rfl, hd⟩
        go_wp2_with fail
        go_ret2
        exact ⟨_, rfl, SlAt.nil _ _ _, hd.below⟩
      · have h2 : 255 < n := by omega
        clear hn
        go_enter Tryd.func21, Tryd.ntmps21
        go_wp2_with fail
        refine HCK.out.mono ?_
        rintro e w1 ⟨rfl, hd⟩
        go_wp2_with fail
        go_ret2
        exact ⟨_, rfl, SlAt.nil _ _ _, hd.below⟩
    · obtain ⟨N, rfl⟩ : ∃ N : Nat, n = N := ⟨n.toNat, by omega⟩
      have e1 : mayS ds (N : Nat) = 0 := by unfold mayS; rw [if_neg (by omega), if_neg hn]
      have e2 : encS ds (N : Nat) = (List.range N).map (shardS ds.length ds) := by unfold encS; rw [if_pos e1, Int.toNat_natCast]
      obtain ⟨k1, k2, k3, k4, k5⟩ := checkS_ok hck
      have hn1 : ¬ (N : Int) < (ds.length : Int) := by omega
      have hn2 : ¬ (255 : Int) < (N : Int) := by omega
      have hd1 : decide (N < ds.length) = false := decide_eq_false (by omega)
      have hd2 : decide ((255 : Int) < (N : Int)) = false := decide_eq_false (by omega)
      obtain ⟨iS, hiS, zS0, zS1, zS2⟩ := info_parts infoStr5
      rw [e1, e2]
      rw [hck] at HCK
      have HK := Lib.hid (And.intro k5 (And.intro k3 k4))
      have HN : Hid (ds.length ≤ N ∧ N ≤ 255) := Lib.hid (by omega)
      clear e1 e2 hck hn k3 k4 k5
      go_enter Tryd.func21, Tryd.ntmps21
      go_wp2_with fail
      refine HCK.out.mono ?_
      rintro e w1 ⟨rfl, hd⟩
      have HS1 := Lib.hid (HS.out.chain hd.below)
      have HB1 := Lib.hid hd.below
      clear hd
      go_wp2_with fail
      go_loopg [7, 8, 9, 10] N (fun gk vo i _ _ wr => ∃ j : Nat, j ≤ N ∧ N ≤ j + gk ∧ i = .int .i64 j ∧ Hid (Seg wr w1.heap.size 9 1 vo j (((List.range N).map (shardS ds.length ds)).take j |>.map Str)) ∧ Hid (Below w1.heap.size w1 wr))
      case atStart => exact ⟨0, Nat.zero_le _, by omega, rfl, Lib.hid (Seg.nil _ _ _ _), Lib.hid (Below.refl _ _)⟩
      case round =>
        obtain ⟨j, hj, hgj, rfl, HSO, HBO⟩ := hrel
        by_cases hjn : j < N
        · have hsnoc : ((List.range N).map (shardS ds.length ds)).take (j + 1) = ((List.range N).map (shardS ds.length ds)).take j ++ [shardS ds.length ds j] := by
            rw [List.take_succ_eq_append_getElem (by simpa using hjn), List.getElem_map, List.getElem_range]
          have HSN := Lib.hid hsnoc
          have he : rowE (ds.length : Nat) (N : Nat) (j : Nat) = 0 := rowE_ok (by have := HN.out; simp [badKN]; omega) (by omega) (by omega)
          have hv : rowV (ds.length : Nat) (N : Nat) (j : Nat) = rowL ds.length j := by unfold rowV; rw [if_pos he]; rfl
          have HR := Lib.hid (rrow_any (ds.length : Nat) (N : Nat) (j : Nat) wr)
          unfold RowPost at HR
          rw [he, hv] at HR
          have hrl : (rowL ds.length j).length = ds.length := rowL_length _ _
          have HRL := Lib.hid hrl
          have hj2 : (j : Int) < (N : Int) := by omega
          have HJN := Lib.hid hjn
          have HSR := Lib.hid (HS1.out.chain HBO.out)
          clear hsnoc he hv hrl
          go_wp2_with fail
          refine HR.out.mono ?_
          rintro e wa ⟨va, rfl, hva, hba⟩
          have hva0 := hva 0
          have HMX := Lib.hid (rmix_any 0 B va _ (rowL ds.length j) ds (ds.headD []).length wa hva0 (HSR.out.chain hba) HRL.out (by omega) HK.out.1 (by have := HK.out.2.2; omega) (by have := HK.out.2.1; omega))
          obtain ⟨aa, ca, rfl, _⟩ := hva0.at
          have HSO1 := Lib.hid (HSO.out.chain hba)
          have HBO1 := Lib.hid (Below.chain hba HBO.out)
          have hsh : mixS (rowL ds.length j) ds = shardS ds.length ds j := rfl
          rw [hsh] at HMX
          clear hva hva0 hba hsh
          generalize shardS ds.length ds j = sm at *
          go_wp2_with fail
          refine HMX.out.mono ?_
          rintro e wb ⟨rfl, hbb⟩
          have hso := HSO1.out.chain hbb
          have HBO2 := Lib.hid (Below.chain hbb HBO1.out)
          have hsz : w1.heap.size ≤ wb.heap.size := HBO2.out.size
          obtain ⟨ao, co, rfl⟩ := hso.form
          have HSO2 := Lib.hid hso
          obtain ⟨z1, z2⟩ : j + 1 ≤ maxLen ∧ (j + 1) * 16 ≤ 140737488355328 := by
            have := HN.out
            unfold maxLen
            omega
          clear hbb HMX HSO HBO HR
          go_wp2_with (at_builtin; refine wpList_append_seg _ rfl (.tmp 37) (.tmp 41) 38 rfl w1.heap.size 9 iS _ 1 16 Tryd.underlying38 hiS zS0 zS1 zS2 rfl (by decide) (.slice ao j co) j _ rfl (hso.alloc _) ⟨wb.heap.size, 0, none⟩ 1 1 [Str sm] rfl rfl (cells_new _ _ _) (by simp [Value.oneCell']) (by decide) z1 z2 (by simp; omega) (wb.heap.size + 1) (size_alloc _ _) ?_; intro g2 off2 cap2 w5 hown hgrow hat)
          have HOW := Lib.hid hown
          have HB5 := Lib.hid ((Below.chainAlloc HBO2.out (.cells #[Str sm] 9)).grown hgrow (by simp; omega) (fun g hg => (HSO2.out.blk g hg).1))
          clear hown hgrow hat hso
          go_roundg (N - (j + 1))
          case measure => have := HJN.out; omega
          case rel =>
            refine ⟨j + 1, HJN.out, by have := HJN.out; omega, by go_num, Lib.hid ?_, HB5⟩
            rw [HSN.out, List.map_append, List.map_singleton]
            exact HOW.out
        · obtain rfl : j = N := by omega
          have hso := HSO.out
          rw [List.take_of_length_le (by simp)] at hso
          have HSA := Lib.hid (SlAt.of_seg (B := 0) hso)
          obtain ⟨ao, co, rfl⟩ := hso.form
          have HBF := Lib.hid (Below.chain HBO.out HB1.out)
          have hlt' : ¬ (j : Int) < (j : Int) := by omega
          clear hso
          go_wp2_with fail
          go_ret2
          exact ⟨_, rfl, by rw [← List.map_map]; exact HSA.out, HBF.out⟩
  · have e1 : mayS ds n = checkS ds := by unfold mayS; rw [if_pos hck]
    have e2 : encS ds n = [] := by unfold encS; rw [if_neg (by rw [e1]; exact hck)]
    have hne : (checkS ds != 0) = true := by simpa using hck
    rw [e1, e2]
    clear e1 e2
    generalize checkS ds = z at *
    go_enter Tryd.func21, Tryd.ntmps21
    go_wp2_with fail
    refine HCK.out.mono ?_
    rintro e w1 ⟨rfl, hd⟩
    go_wp2_with fail
    go_ret2
    exact ⟨_, rfl, SlAt.nil _ _ _, hd.below⟩
end Go.Proofs.YtelpkddgcmikfaaDoor
