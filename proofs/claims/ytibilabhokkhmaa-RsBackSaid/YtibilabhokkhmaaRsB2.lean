/-
  More shards than needed: shards that come back: the law's walk (chapter 5).
-/
import Derived.Test.YtibilabhokkhmaaRs9
import Derived.Test.YtibilabhokkhmaaRsB1
namespace Go.Proofs.Ytibilabhokkhmaa
open Go.RowKit
set_option linter.unusedVariables false
set_option maxRecDepth 100000
set_option maxHeartbeats 1000000
/-- Which numbers came. -/
def haveC (d : List Nat) : Array Value := ((List.range 256).map fun (i : Nat) => Value.bool (decide (i ∈ d))).toArray
theorem haveC_get (d : List Nat) (i : Nat) (h : i < 256) : (haveC d)[i]? = some (.bool (decide (i ∈ d))) := by
  unfold haveC
  simp [h]
theorem haveC_set (d : List Nat) (i : Nat) : haveC (d ++ [i]) = (haveC d).setIfInBounds i (.bool true) := by
  apply Array.ext
  · simp [haveC]
  · intro j h1 h2
    have hj : j < 256 := by simpa [haveC] using h1
    rw [Array.getElem_setIfInBounds (by simpa [haveC] using hj)]
    by_cases e : i = j
    · subst e
      simp [haveC]
    · rw [if_neg e]
      have e2 : ¬ j = i := fun h => e h.symm
      simp [haveC, e2]
theorem haveC_nil : haveC [] = Array.replicate 256 (.bool false) := by
  apply Array.ext
  · simp [haveC]
  · intro j h1 h2
    simp [haveC]
/-- What holds ahead of each round of the law's loop. -/
def BackRel (N : Nat) (F : Nat → List UInt8) (xs : List Nat) (bh : Nat) (w1 : World) (vg vs i : Value) (wr : World) : Prop :=
  ∃ (j : Nat) (d : List Nat), j ≤ xs.length ∧ i = .int .i64 j ∧ vs = .int .i64 ((oneN d).length : Nat) ∧ Hid (d = (xs.take j).map (· % N)) ∧
    Hid (Seg wr (bh + 1) 71 2 vg j (cells5 (d.map (sh5 F)))) ∧ Hid (Blk wr bh (haveC (oneN d)) 69) ∧ Hid (Below w1.heap.size w1 wr) ∧ bh + 1 ≤ wr.heap.size
theorem back_take {N j : Nat} {xs d : List Nat} (hj : j < xs.length) (h : d = (xs.take j).map (· % N)) : d ++ [xs[j] % N] = (xs.take (j + 1)).map (· % N) := by
  rw [List.take_succ_eq_append_getElem hj, List.map_append, ← h, List.map_singleton]
section
variable {N j t : Nat} {F : Nat → List UInt8} {xs d : List Nat} {w1 wr w3 : World} {s : List UInt8} {ag : Option Addr} {cg g' off' cap' : Nat} {i vs : Value}
theorem back_below (hSG : Seg wr (w1.heap.size + 1) 71 2 (.slice ag j cg) j (cells5 (d.map (sh5 F)))) (HBW : Below w1.heap.size w1 wr)
    (hgrow : (wr.alloc (.cells #[.int .i64 (t : Int), Str s] 71)).grownBy w3 (Value.slice ag j cg).ownBlock) : Below w1.heap.size w1 w3 := by
  have q2 := Below.chainAlloc HBW (.cells #[.int .i64 (t : Int), Str s] 71)
  exact q2.grown hgrow q2.size (fun g hg => by have := (hSG.blk g hg).1; omega)
theorem back_old (HTK : d ++ [t] = (xs.take (j + 1)).map (· % N)) (HFS : F t = s) (hlt : j < xs.length) (hSG : Seg wr (w1.heap.size + 1) 71 2 (.slice ag j cg) j (cells5 (d.map (sh5 F)))) (HBW : Below w1.heap.size w1 wr)
    (hown : Seg w3 (w1.heap.size + 1) 71 2 (.slice (some ⟨g', off', none⟩) (j + 1) cap') (j + 1) (cells5 (d.map (sh5 F)) ++ [.int .i64 (t : Int), Str s]))
    (hgrow : (wr.alloc (.cells #[.int .i64 (t : Int), Str s] 71)).grownBy w3 (Value.slice ag j cg).ownBlock) (hH3 : Blk w3 w1.heap.size (haveC (oneN d)) 69) (hmem : t ∈ oneN d) (hsz : w1.heap.size + 1 ≤ wr.heap.size) (hi : i = .int .i64 ((j + 1 : Nat) : Int)) :
    BackRel N F xs w1.heap.size w1 (.slice (some ⟨g', off', none⟩) (j + 1) cap') (.int .i64 ((oneN d).length : Nat)) i w3 := by
  have ho : oneN (d ++ [t]) = oneN d := by rw [oneN_snoc]; unfold oneStep; rw [if_pos hmem]
  refine ⟨j + 1, d ++ [t], hlt, hi, by rw [ho], Lib.hid HTK, Lib.hid ?_, Lib.hid (by rw [ho]; exact hH3), Lib.hid (back_below hSG HBW hgrow), ?_⟩
  · rw [List.map_append, List.map_singleton, cells5_snoc]
    unfold sh5
    rw [HFS]
    exact hown
  · have := hgrow.size
    simp at this
    omega
theorem back_new (HTK : d ++ [t] = (xs.take (j + 1)).map (· % N)) (HFS : F t = s) (hlt : j < xs.length) (hSG : Seg wr (w1.heap.size + 1) 71 2 (.slice ag j cg) j (cells5 (d.map (sh5 F)))) (HBW : Below w1.heap.size w1 wr)
    (hown : Seg w3 (w1.heap.size + 1) 71 2 (.slice (some ⟨g', off', none⟩) (j + 1) cap') (j + 1) (cells5 (d.map (sh5 F)) ++ [.int .i64 (t : Int), Str s]))
    (hgrow : (wr.alloc (.cells #[.int .i64 (t : Int), Str s] 71)).grownBy w3 (Value.slice ag j cg).ownBlock) (hH3 : Blk w3 w1.heap.size (haveC (oneN d)) 69) (hmem : ¬ t ∈ oneN d) (hsz : w1.heap.size + 1 ≤ wr.heap.size) (hi : i = .int .i64 ((j + 1 : Nat) : Int)) (hvs : vs = .int .i64 (((oneN d).length + 1 : Nat) : Int)) :
    BackRel N F xs w1.heap.size w1 (.slice (some ⟨g', off', none⟩) (j + 1) cap') vs i (w3.setCell ⟨w1.heap.size, t, none⟩ (.bool true)) := by
  have ho : oneN (d ++ [t]) = oneN d ++ [t] := by rw [oneN_snoc]; unfold oneStep; rw [if_neg hmem]
  refine ⟨j + 1, d ++ [t], hlt, hi, by rw [ho, hvs]; simp, Lib.hid HTK, Lib.hid ?_, Lib.hid (by rw [ho, haveC_set]; exact Blk.setAt hH3 t _ rfl), Lib.hid ((back_below hSG HBW hgrow).setCell (p := ⟨w1.heap.size, t, none⟩) (Nat.le_refl _) _), ?_⟩
  · rw [List.map_append, List.map_singleton, cells5_snoc]
    unfold sh5
    rw [HFS]
    exact hown.setOther _ _ (fun g hg e => by
      have := (hown.blk g hg).1
      simp at e
      omega)
  · have := hgrow.size
    simp at this ⊢
    omega
end
theorem back5_walk (B B2 : Nat) (va vl : Value) (ds : List (List UInt8)) (xs : List Nat) (m : Nat) (hm : m < 256) (w : World) (hs : SlAt B w 9 va (ds.map Str)) (hx : RowAt B2 w vl xs) :
    Calls Try.prog 11 #[va, .int .u8 (m : Nat), vl] w fun e w' => e = .returned (.bool true) ∧ Below w.heap.size w w' := by
  obtain ⟨i0, hi, iz0, iz1, iz2⟩ := info_parts infoSh
  have HF := Lib.hid (few_any B va ds w hs)
  have HS := Lib.hid hs
  have HX := Lib.hid hx
  obtain ⟨a, cap, rfl, hmx, _⟩ := strs_at hs
  have hlx := hx.max
  obtain ⟨a2, cap2, rfl, _⟩ := hx.at
  clear hs hx
  by_cases h1 : (12 : Int) < (ds.length : Int)
  · go_enter Try.func11, Try.ntmps11
    go_wp2_with fail
    all_goals
      refine (awake05 _).mono ?_
      rintro e w1 ⟨rfl, hb1⟩
      go_wp2_with fail
      go_ret
      exact ⟨rfl, hb1⟩
  · by_cases h2 : (60 : Int) < (xs.length : Int)
    · have hsum : (ds.length : Int) + (m : Int) ≤ 1000 := by omega
      go_enter Try.func11, Try.ntmps11
      go_wp2_with fail
      all_goals
        refine (awake05 _).mono ?_
        rintro e w1 ⟨rfl, hb1⟩
        go_wp2_with fail
        go_ret
        exact ⟨rfl, hb1⟩
    · have hk12 : ds.length ≤ 12 := by omega
      have hx60 : xs.length ≤ 60 := by omega
      have hsum : (ds.length : Int) + (m : Int) ≤ 1000 := by omega
      go_enter Try.func11, Try.ntmps11
      go_upto_region 2 with fail
      go_cut [8] (fun v8 wx => v8 = .int .i64 ((min (ds.length + m) 255 : Nat) : Int) ∧ wx = w)
      case first =>
        go_wp2_with fail
        all_goals
          go_meet
          refine ⟨?_, rfl⟩
          congr 1
          omega
      case rest =>
        obtain ⟨rfl, rfl⟩ := hcut
        obtain ⟨N, hN⟩ : ∃ N, min (ds.length + m) 255 = N := ⟨_, rfl⟩
        rw [hN]
        go_wp2_with fail
        refine HF.out.mono ?_
        rintro e w0 ⟨b, rfl, rfl⟩
        cases b with
        | false =>
          go_wp2_with fail
          refine (awake05 _).mono ?_
          rintro e w1 ⟨rfl, hb1⟩
          go_wp2_with fail
          go_ret
          exact ⟨rfl, hb1⟩
        | true =>
          have HE := Lib.hid (encode_any B _ ds (N : Nat) _ HS.out)
          by_cases he : mayS ds (N : Nat) = 0
          · have hel : encS ds (N : Nat) = (List.range N).map (shardS ds.length ds) := by unfold encS; rw [if_pos he, Int.toNat_natCast]
            have hck : checkS ds = 0 := by
              have he2 := he
              unfold mayS at he2
              split at he2
              · rename_i hne; exact absurd he2 hne
              · rename_i hne; omega
            have hnn : ¬ ((N : Int) < (ds.length : Int) ∨ 255 < (N : Int)) := fun hx => by
              have he2 := he
              unfold mayS at he2
              rw [if_neg (by omega), if_pos hx] at he2
              cases he2
            obtain ⟨k1, _, _, _, _⟩ := checkS_ok hck
            have hN1 : 1 ≤ N := by omega
            have hN2 : N ≤ 255 := by omega
            rw [he, hel] at HE
            have HME := Lib.hid he
            clear he hel hck hnn hN k1
            go_wp2_with fail
            refine HE.out.mono ?_
            rintro e w1 ⟨v1, rfl, hv1, hb1⟩
            obtain ⟨a1, p1, rfl, hm1, hc1⟩ := strs_at hv1
            rw [List.length_map, List.length_range] at hm1 ⊢
            have HC := Lib.hid hc1
            have HB1 := Lib.hid hb1
            clear hc1 hv1 hb1
            go_wp2_with fail
            have kh := Blk.new w1 (haveC []) 69
            rw [show haveC [] = Try.zeroCells69 from by kernel_rfl] at kh
            have HKH := Lib.hid kh
            clear kh
            go_loopw [11, 12, 14, 15] (fun vg vs i _ wr => BackRel N (shardS ds.length ds) xs w1.heap.size w1 vg vs i wr) (fun _ _ i _ _ => xs.length - (intOf i).toNat)
            case atStart =>
              refine ⟨0, [], Nat.zero_le _, rfl, rfl, Lib.hid (by simp), Lib.hid (Seg.nil _ _ _ _), Lib.hid ?_, Lib.hid ?_, ?_⟩
              · rw [show haveC (oneN []) = Try.zeroCells69 from by kernel_rfl]
                exact HKH.out
              · exact Below.chainAlloc (Below.refl _ _) _
              · simp
            case round =>
              obtain ⟨j, d, hj, rfl, rfl, HD, HSG, HBH, HBW, hsz⟩ := hrel
              have hdl : d.length = j := by rw [HD.out, List.length_map, List.length_take]; omega
              by_cases hlt : j < xs.length
              · obtain ⟨_, _, e, hcx⟩ := (HX.out.chain (Below.chain HBW.out HB1.out)).at
                cases e
                obtain ⟨g, off, rfl, hg, hck⟩ := hcx j hlt
                have hyb := HX.out.2 xs[j] (by simp)
                have hjx : (j : Int) < (xs.length : Int) := by omega
                have HTK := Lib.hid (back_take hlt HD.out)
                have ht : xs[j] % N < N := Nat.mod_lt _ (by omega)
                have HMOD : Hid ((xs[j] : Int) % (N : Int) = ((xs[j] % N : Nat) : Int)) := Lib.hid (by push_cast; rfl)
                have hy0 : (0 : Int) ≤ (xs[j] : Int) := by omega
                have hy1 : (xs[j] : Int) ≤ 255 := by omega
                have HLT := Lib.hid hlt
                clear hcx HD
                generalize xs[j] % N = t at *
                generalize xs[j] = y at *
                go_upto_region 17 with fail
                rw [HMOD.out]
                obtain ⟨g1, o1, rfl, hg1, hk1⟩ := HC.out t (by simpa using ht)
                rw [List.getElem_map, List.getElem_range] at hk1
                have hk2 : wr.cell? ⟨g1, o1 + t, none⟩ = some (Str (shardS ds.length ds t)) := (HBW.out.cell (p := ⟨g1, _, none⟩) hg1).trans hk1
                obtain ⟨s, hs⟩ : ∃ s, shardS ds.length ds t = s := ⟨_, rfl⟩
                have HFS := Lib.hid hs
                rw [hs] at hk2
                have ht0 : (0 : Int) ≤ (t : Int) := by omega
                have ht1 : (t : Int) < (N : Int) := by omega
                have ht2 : (t : Int) < 256 := by omega
                have ht3 : t < 256 := by omega
                have hsg := HSG.out
                obtain ⟨ag, cg, rfl⟩ := hsg.form
                have hcn : ∀ k u, [Value.int .i64 (t : Int), Str s][k]? = some u → (wr.alloc (.cells #[.int .i64 (t : Int), Str s] 71)).cell? ((⟨wr.heap.size, 0, none⟩ : Addr).add k) = some u := cells_new wr [.int .i64 (t : Int), Str s] 71
                have HCN := Lib.hid hcn
                obtain ⟨z1, z2⟩ : j + 1 ≤ maxLen ∧ (j + 1) * 24 ≤ 140737488355328 := by unfold maxLen; omega
                clear hk1 hcn hs hck
                by_cases hmem : t ∈ oneN d
                · have HGT : Hid ((haveC (oneN d))[t]? = some (.bool true)) := Lib.hid (by rw [haveC_get _ t ht3, decide_eq_true hmem])
                  go_wp2_with (at_builtin; refine wpList_append_seg _ rfl (.tmp 69) (.tmp 76) 58 rfl (w1.heap.size + 1) 71 i0 _ 2 24 Try.underlying58 hi iz0 iz1 iz2 rfl (by decide) (.slice ag j cg) j (cells5 (d.map (sh5 (shardS ds.length ds)))) rfl (hsg.alloc _) ⟨wr.heap.size, 0, none⟩ 1 1 [.int .i64 (t : Int), Str s] rfl rfl HCN.out (by simp [Value.oneCell']) (by decide) z1 z2 (by simp; omega) (wr.heap.size + 1) (by simp) ?_; intro g' off' cap' w3 hown hgrow hat; have hH3 := (HBH.out.alloc (.cells #[.int .i64 (t : Int), Str s] 71)).grown hgrow (fun e => by have := (HSG.out.blk _ e.symm).1; omega); have ho1 := (hH3.facts.1 t).trans HGT.out; have ho2 := hH3.facts.2.1 t)
                  go_roundw
                  case rel => exact back_old HTK.out HFS.out HLT.out hsg HBW.out hown hgrow hH3 hmem hsz (by go_num)
                  case measure => have := HLT.out; simp [intOf]; omega
                · have HGT : Hid ((haveC (oneN d))[t]? = some (.bool false)) := Lib.hid (by rw [haveC_get _ t ht3, decide_eq_false hmem])
                  have hol : (oneN d).length ≤ 1000 := by have := oneN_len d; omega
                  go_wp2_with (at_builtin; refine wpList_append_seg _ rfl (.tmp 69) (.tmp 76) 58 rfl (w1.heap.size + 1) 71 i0 _ 2 24 Try.underlying58 hi iz0 iz1 iz2 rfl (by decide) (.slice ag j cg) j (cells5 (d.map (sh5 (shardS ds.length ds)))) rfl (hsg.alloc _) ⟨wr.heap.size, 0, none⟩ 1 1 [.int .i64 (t : Int), Str s] rfl rfl HCN.out (by simp [Value.oneCell']) (by decide) z1 z2 (by simp; omega) (wr.heap.size + 1) (by simp) ?_; intro g' off' cap' w3 hown hgrow hat; have hH3 := (HBH.out.alloc (.cells #[.int .i64 (t : Int), Str s] 71)).grown hgrow (fun e => by have := (HSG.out.blk _ e.symm).1; omega); have ho1 := (hH3.facts.1 t).trans HGT.out; have ho2 := hH3.facts.2.1 t)
                  go_roundw
                  case rel => exact back_new HTK.out HFS.out HLT.out hsg HBW.out hown hgrow hH3 hmem hsz (by go_num) (by go_num)
                  case measure => have := HLT.out; simp [intOf]; omega
              · obtain rfl : j = xs.length := by omega
                have hdd : d = xs.map (· % N) := by rw [HD.out, List.take_of_length_le (Nat.le_refl _)]
                have hdb : ∀ x ∈ d, x < N := fun x hx => by
                  rw [hdd] at hx
                  obtain ⟨y, _, rfl⟩ := List.mem_map.1 hx
                  exact Nat.mod_lt _ (by omega)
                have hsg := HSG.out
                obtain ⟨ag, cg, rfl⟩ := hsg.form
                have hsl : (d.map (sh5 (shardS ds.length ds))).length = xs.length := by rw [List.length_map, hdl]
                rw [← hsl] at hsg
                have HDC := Lib.hid (decode_any 0 _ (d.map (sh5 (shardS ds.length ds))) (ds.length : Nat) (N : Nat) (by rw [hsl]; omega) wr (ShAt.of_seg hsg))
                unfold DecPost at HDC
                rw [dec_back ds N d HME.out hdb] at HDC
                rw [hsl] at HDC
                have hlt' : ¬ (xs.length : Int) < (xs.length : Int) := by omega
                have HBB := Lib.hid (Below.chain HBW.out HB1.out)
                have HS2 := Lib.hid (HS.out.chain HBB.out)
                clear hdb hsg hsl hdd HSG HBH
                by_cases hfew : (oneN d).length < ds.length
                · rw [if_pos hfew] at HDC
                  have hfi : ((oneN d).length : Int) < (ds.length : Int) := by omega
                  clear hfew
                  go_wp2_with fail
                  refine HDC.out.mono ?_
                  rintro e w4 ⟨v4, rfl, hv4, hb4⟩
                  obtain ⟨a4, p4, rfl, _⟩ := strs_at hv4
                  have HB4 := Lib.hid (Below.chain hb4 HBB.out)
                  clear hv4 hb4
                  go_wp2_with fail
                  refine (awake05 _).mono ?_
                  rintro e w5 ⟨rfl, hb5⟩
                  have hB := Below.chain hb5 HB4.out
                  clear hb5
                  go_wp2_with fail
                  go_ret
                  exact ⟨rfl, hB⟩
                · rw [if_neg hfew] at HDC
                  have hfi : ¬ ((oneN d).length : Int) < (ds.length : Int) := by omega
                  clear hfew
                  go_wp2_with fail
                  refine HDC.out.mono ?_
                  rintro e w4 ⟨v4, rfl, hv4, hb4⟩
                  have HTX := Lib.hid (texts_c w4 hv4 (HS2.out.chain hb4))
                  rw [show textsB ds ds = true from decide_eq_true rfl] at HTX
                  obtain ⟨a4, p4, rfl, _⟩ := strs_at hv4
                  have HB4 := Lib.hid (Below.chain hb4 HBB.out)
                  clear hv4 hb4
                  go_wp2_with fail
                  refine HTX.out.mono ?_
                  rintro e w5 ⟨rfl, hd5⟩
                  have HB5 := Lib.hid (Below.chain hd5.below HB4.out)
                  clear hd5
                  go_wp2_with fail
                  refine (awake05 _).mono ?_
                  rintro e w6 ⟨rfl, hb6⟩
                  have hB := Below.chain hb6 HB5.out
                  clear hb6
                  go_wp2_with fail
                  go_ret
                  exact ⟨rfl, hB⟩
          · have hel : encS ds (N : Nat) = [] := by unfold encS; rw [if_neg he]
            have hne : (mayS ds (N : Nat) != 0) = true := by simpa using he
            rw [hel] at HE
            generalize mayS ds (N : Nat) = z at *
            clear he hel
            go_wp2_with fail
            refine HE.out.mono ?_
            rintro e w1 ⟨v1, rfl, hv1, hb1⟩
            obtain ⟨a1, p1, rfl, _⟩ := strs_at hv1
            clear hv1
            go_wp2_with fail
            refine (awake05 _).mono ?_
            rintro e w2 ⟨rfl, hb2⟩
            have hB := Below.chain hb2 hb1
            clear hb1 hb2
            go_wp2_with fail
            go_ret
            exact ⟨rfl, hB⟩
end Go.Proofs.Ytibilabhokkhmaa
