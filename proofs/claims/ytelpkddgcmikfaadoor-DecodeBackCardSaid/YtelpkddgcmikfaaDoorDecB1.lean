/-
  Blocks out of shards: the law of what comes back: its walk (chapter 20).
-/
import Derived.Test.YtelpkddgcmikfaaDoorDecB0
namespace Go.Proofs.YtelpkddgcmikfaaDoor
open Go.RowKit
set_option linter.unusedVariables false
set_option maxRecDepth 100000
set_option maxHeartbeats 2000000
theorem db_three {q p : Nat} (hq : q < 12) (hp : p < 40) : shE [] ((q : Int) + 1) (p : Int) = 3 := by unfold shE; rw [if_neg (by omega), if_pos (.inl rfl)]
theorem db_zero {s : List UInt8} {q p : Nat} (hq : q < 12) (hp : p < 40) (h : (s.length : Int) ≤ 400) (hs : s ≠ []) : shE s ((q : Int) + 1) (p : Int) = 0 := by
  unfold shE
  rw [if_neg (by omega), if_neg (by rintro (h | h); exact hs h; omega)]
theorem db_call {s : List UInt8} {q p : Nat} (hs : s.length ≤ 9223372036854775807) (hq : q < 12) (hp : p < 40) (w : World) : Calls Tryd.prog 11 #[Str s, .int .i64 ((q : Int) + 1), .int .i64 (p : Int)] w (ShPost s ((q : Int) + 1) (p : Int) w) :=
  shards_any s ((q : Int) + 1) (p : Int) hs (by omega) (by omega) w
theorem db_num {s : List UInt8} {q p : Nat} (hq : q < 12) (hp : p < 40) (hE : shE s ((q : Int) + 1) (p : Int) = 0) : ∃ N : Nat, ((shM s ((q : Int) + 1) : Nat) : Int) + (p : Int) = (N : Int) ∧ 1 ≤ N ∧ N ≤ 255 ∧ shM s ((q : Int) + 1) ≤ 32 := by
  obtain ⟨c1, c2, c3, _, _⟩ := sh_cut hE
  exact ⟨shM s ((q : Int) + 1) + p, by push_cast; rfl, by omega, by omega, c2⟩
theorem db_rem12 {k q : Nat} (h : k % 12 = q) : (k : Int).tmod 12 = (q : Int) ∧ IntKind.u8.wrap (q : Int) = (q : Int) ∧ IntKind.i64.wrap (q : Int) = (q : Int) ∧ wrap64 ((q : Int) + 1) = (q : Int) + 1 ∧ (k : Int) % 12 = (q : Int) :=
  ⟨by rw [Int.tmod_eq_emod_of_nonneg (by omega)]; omega, IntWalk.u8_in _ (by omega), IntWalk.i64_in _ (by omega), IntWalk.wrap64_in _ (by omega), by omega⟩
theorem db_rem40 {k q : Nat} (h : k % 40 = q) : (k : Int).tmod 40 = (q : Int) ∧ IntKind.u8.wrap (q : Int) = (q : Int) ∧ IntKind.i64.wrap (q : Int) = (q : Int) ∧ wrap64 ((q : Int) + 1) = (q : Int) + 1 ∧ (k : Int) % 40 = (q : Int) :=
  ⟨by rw [Int.tmod_eq_emod_of_nonneg (by omega)]; omega, IntWalk.u8_in _ (by omega), IntWalk.i64_in _ (by omega), IntWalk.wrap64_in _ (by omega), by omega⟩
theorem decback_walk (B2 : Nat) (vl : Value) (s : List UInt8) (xs : List Nat) (kk rr : Nat) (hs : s.length ≤ 9223372036854775807) (hkk : kk < 256) (hrr : rr < 256) (w : World) (hx : RowAt B2 w vl xs) :
    Calls Tryd.prog 5 #[.agg #[Str s, .int .u8 (kk : Nat), .int .u8 (rr : Nat), vl]] w fun e w' => e = .returned (.bool true) ∧ Below w.heap.size w w' := by
  obtain ⟨i0, hi, iz0, iz1, iz2⟩ := info_parts infoSh
  have HX := Lib.hid hx
  have hlx := hx.max
  obtain ⟨a2, cap2, rfl, _⟩ := hx.at
  have kx := Blk.new w #[Str s, .int .u8 (kk : Nat), .int .u8 (rr : Nat), .slice a2 xs.length cap2] 47
  have hbx : Below w.heap.size w (w.alloc (.cells #[Str s, .int .u8 (kk : Nat), .int .u8 (rr : Nat), .slice a2 xs.length cap2] 47)) := Below.chainAlloc (Below.refl _ _) _
  clear hx
  go_enter Tryd.func5, Tryd.ntmps5
  go_upto_region 1 with fail
  generalize w.alloc (.cells #[Str s, .int .u8 (kk : Nat), .int .u8 (rr : Nat), .slice a2 xs.length cap2] 47) = W0 at *
  obtain ⟨x1, x2, x3⟩ := kx.facts
  have y0 := x1 0
  have y3 := x1 3
  go_quiet (fail)
  have hd0 : Below W0.heap.size W0 (W0.drewN nq) := below_drewN (Below.refl _ _) nq
  obtain ⟨W1, hW1⟩ : ∃ W1, W0.drewN nq = W1 := ⟨_, rfl⟩
  rw [hW1] at hd0 ⊢
  have kx1 := kx.below hd0 kx.lt
  have HB1 := Lib.hid (Below.chain hd0 hbx)
  obtain ⟨z1, z2, z3⟩ := kx1.facts
  have q1 := z1 1
  have q2 := z1 2
  clear hW1 x1 x2 x3 y0 y3 hd0 hbx kx z1 z2 z3
  by_cases h1 : (400 : Int) < (s.length : Int)
  · go_wp2_with fail
    refine (awake20 _).mono ?_
    rintro e w1 ⟨rfl, hb1⟩
    have hB := Below.chain hb1 HB1.out
    clear hb1
    go_wp2_with fail
    go_ret
    exact ⟨rfl, hB⟩
  · by_cases h2 : (60 : Int) < (xs.length : Int)
    · go_wp2_with fail
      refine (awake20 _).mono ?_
      rintro e w1 ⟨rfl, hb1⟩
      have hB := Below.chain hb1 HB1.out
      clear hb1
      go_wp2_with fail
      go_ret
      exact ⟨rfl, hB⟩
    · obtain ⟨q, hq⟩ : ∃ q, kk % 12 = q := ⟨_, rfl⟩
      obtain ⟨p, hp⟩ : ∃ p, rr % 40 = p := ⟨_, rfl⟩
      have hq12 : q < 12 := by omega
      have hp40 : p < 40 := by omega
      obtain ⟨e1, e2, e3, e4, e5⟩ := db_rem12 hq
      obtain ⟨f1, f2, f3, _, f5⟩ := db_rem40 hp
      clear hq hp hkk hrr e5 f5
      generalize (kk : Int) = kI at *
      generalize (rr : Int) = rI at *
      go_wp2_with fail
      clear e1 e2 e3 e4 f1 f2 f3
      have H1 := Lib.hid (db_call hs hq12 hp40 W1)
      unfold ShPost at H1
      by_cases hs0 : s = []
      · subst hs0
        have hE := db_three hq12 hp40
        rw [hE] at H1
        clear hE
        refine H1.out.mono ?_
        rintro e w2 ⟨v2, rfl, hv2, hb2⟩
        obtain ⟨av, cv, rfl, _⟩ := strs_at hv2
        have HB2 := Lib.hid (Below.chain hb2 HB1.out)
        clear hv2 hb2
        go_wp2_with fail
        refine (awake20 _).mono ?_
        rintro e w3 ⟨rfl, hb3⟩
        have hB := Below.chain hb3 HB2.out
        clear hb3
        go_wp2_with fail
        go_ret
        exact ⟨rfl, hB⟩
      · have hE := db_zero hq12 hp40 (by omega) hs0
        have hse : s.isEmpty = false := by simpa using hs0
        obtain ⟨N, hN, hN1, hN2, hc2⟩ := db_num hq12 hp40 hE
        have hT := shT_eq hE hN
        have HDB := Lib.hid (fun d hd => doD_back hE hN d hd)
        rw [hE, hT, if_pos rfl] at H1
        have hlen : ((List.range N).map (shardS (shM s ((q : Int) + 1)) (cutT s (shM s ((q : Int) + 1) : Nat)))).length = N := by simp
        clear hE hT hN
        generalize shM s ((q : Int) + 1) = M at *
        generalize cutT s (M : Nat) = CT at *
        refine H1.out.mono ?_
        rintro e w2 ⟨v2, rfl, hv2, hb2⟩
        obtain ⟨a1, p1, rfl, hm1, hc1⟩ := strs_at hv2
        rw [hlen] at hm1 ⊢
        have HC := Lib.hid hc1
        have HB2 := Lib.hid (Below.chain hb2 HB1.out)
        have hNz : ((N : Int) == 0) = false := by simp; omega
        have hNd : ¬ (N : Int) = 0 := by omega
        have hNd2 : ¬ N = 0 := by omega
        clear hc1 hv2 hb2 hlen H1 q1 q2
        have kh := Blk.new w2 (haveC []) 48
        rw [show haveC [] = Tryd.zeroCells48 from by kernel_rfl] at kh
        have HKH := Lib.hid kh
        clear kh
        go_wp2_with fail
        go_loopw [8, 10, 11, 12] (fun vg vs i _ wr => BackRel N (shardS M CT) xs w2.heap.size w2 vg vs i wr) (fun _ _ i _ _ => xs.length - (intOf i).toNat)
        case atStart =>
          refine ⟨0, [], Nat.zero_le _, rfl, rfl, Lib.hid (by simp), Lib.hid (Seg.nil _ _ _ _), Lib.hid ?_, Lib.hid ?_, ?_⟩
          · rw [show haveC (oneN []) = Tryd.zeroCells48 from by kernel_rfl]
            exact HKH.out
          · exact Below.chainAlloc (Below.refl _ _) _
          · simp
        case round =>
          obtain ⟨j, d, hj, rfl, rfl, HD, HSG, HBH, HBW, hsz⟩ := hrel
          have hdl : d.length = j := by rw [HD.out, List.length_map, List.length_take]; omega
          by_cases hlt : j < xs.length
          · obtain ⟨_, _, e, hcx⟩ := (HX.out.chain (Below.chain HBW.out HB2.out)).at
            cases e
            obtain ⟨g, off, rfl, hg, hck⟩ := hcx j hlt
            have hyb := HX.out.2 xs[j] (by simp)
            have hjx : (j : Int) < (xs.length : Int) := by omega
            have HTK := Lib.hid (back_take hlt HD.out)
            have ht : xs[j] % N < N := Nat.mod_lt _ (by omega)
            have HMOD : Hid ((xs[j] : Int) % (N : Int) = ((xs[j] % N : Nat) : Int)) := Lib.hid (by push_cast; rfl)
            have hy0 : (0 : Int) ≤ (xs[j] : Int) := by omega
            have hy1 : (xs[j] : Int) ≤ 255 := by omega
            have HLT := Lib.hid hlt
            clear hcx HD
            generalize xs[j] % N = t at *
            generalize xs[j] = y at *
            go_upto_region 14 with fail
            rw [HMOD.out]
            obtain ⟨g1, o1, rfl, hg1, hk1⟩ := HC.out t (by simpa using ht)
            rw [List.getElem_map, List.getElem_range] at hk1
            have hk2 : wr.cell? ⟨g1, o1 + t, none⟩ = some (Str (shardS M CT t)) := (HBW.out.cell (p := ⟨g1, _, none⟩) hg1).trans hk1
            obtain ⟨sx, hsx⟩ : ∃ sx, shardS M CT t = sx := ⟨_, rfl⟩
            have HFS := Lib.hid hsx
            rw [hsx] at hk2
            have ht0 : (0 : Int) ≤ (t : Int) := by omega
            have ht1 : (t : Int) < (N : Int) := by omega
            have ht2 : (t : Int) < 256 := by omega
            have ht3 : t < 256 := by omega
            have hsg := HSG.out
            obtain ⟨ag, cg, rfl⟩ := hsg.form
            have hg1w : g1 < wr.heap.size := Nat.lt_of_lt_of_le hg1 HBW.out.size
            obtain ⟨z1, z2⟩ : j + 1 ≤ maxLen ∧ (j + 1) * 24 ≤ 140737488355328 := by unfold maxLen; omega
            clear hk1 hsx hck
            obtain ⟨u1, u2, u3⟩ := HBH.out.facts
            by_cases hmem : t ∈ oneN d
            · have us : wr.cell? ⟨w2.heap.size, t, none⟩ = some (.bool true) := by rw [u1, haveC_get _ t ht3, decide_eq_true hmem]
              have HCN := Lib.hid (cells_new wr [.int .i64 (t : Int), Str sx] 50)
              clear u1 u2
              go_wp2_with (at_builtin; refine wpList_append_seg _ rfl (.tmp 80) (.tmp 87) 28 rfl (w2.heap.size + 1) 50 i0 _ 2 24 Tryd.underlying28 hi iz0 iz1 iz2 rfl (by decide) (.slice ag j cg) j (cells5 (d.map (sh5 (shardS M CT)))) rfl (hsg.alloc _) ⟨wr.heap.size, 0, none⟩ 1 1 [.int .i64 (t : Int), Str sx] rfl rfl HCN.out (by simp [Value.oneCell']) (by decide) z1 z2 (by simp; omega) (wr.heap.size + 1) (by simp) ?_; intro g' off' cap' w3 hown hgrow hat)
              go_roundw
              case rel => exact back_gen HTK.out HFS.out HLT.out hsg HBW.out hown hgrow (by rw [one_old hmem]; exact HBH.out) hsz (by go_num) (by rw [one_old hmem])
              case measure => have := HLT.out; simp [intOf]; omega
            · have us : wr.cell? ⟨w2.heap.size, t, none⟩ = some (.bool false) := by rw [u1, haveC_get _ t ht3, decide_eq_false hmem]
              have uf := u2 t
              have hol : (oneN d).length ≤ 1000 := by have := oneN_len d; omega
              have hsg2 : Seg (wr.setCell ⟨w2.heap.size, t, none⟩ (.bool true)) (w2.heap.size + 1) 50 2 (.slice ag j cg) j (cells5 (d.map (sh5 (shardS M CT)))) := hsg.setOther _ _ (fun g hg e => by
                have := (hsg.blk g hg).1
                simp at e
                omega)
              have hk3 : (wr.setCell ⟨w2.heap.size, t, none⟩ (.bool true)).cell? ⟨g1, o1 + t, none⟩ = some (Str sx) := by
                rw [World.cell?_setCell_other _ _ _ _ (fun e => by
                  have := congrArg Addr.block e
                  simp at this
                  omega)]
                exact hk2
              have HB3 := Lib.hid (HBW.out.setCell (p := ⟨w2.heap.size, t, none⟩) (Nat.le_refl _) (.bool true))
              have HBH3 : Hid (Blk (wr.setCell ⟨w2.heap.size, t, none⟩ (.bool true)) w2.heap.size (haveC (oneN (d ++ [t]))) 48) := Lib.hid (by rw [one_new hmem, haveC_set]; exact Blk.setAt HBH.out t _ rfl)
              have hcn := cells_new (wr.setCell ⟨w2.heap.size, t, none⟩ (.bool true)) [.int .i64 (t : Int), Str sx] 50
              rw [show (wr.setCell ⟨w2.heap.size, t, none⟩ (.bool true)).heap.size = wr.heap.size from by simp] at hcn
              have HCN := Lib.hid hcn
              clear u1 u2 hcn
              go_wp2_with (at_builtin; refine wpList_append_seg _ rfl (.tmp 80) (.tmp 87) 28 rfl (w2.heap.size + 1) 50 i0 _ 2 24 Tryd.underlying28 hi iz0 iz1 iz2 rfl (by decide) (.slice ag j cg) j (cells5 (d.map (sh5 (shardS M CT)))) rfl (hsg2.alloc _) ⟨wr.heap.size, 0, none⟩ 1 1 [.int .i64 (t : Int), Str sx] rfl rfl HCN.out (by simp [Value.oneCell']) (by decide) z1 z2 (by simp; omega) (wr.heap.size + 1) (by simp) ?_; intro g' off' cap' w3 hown hgrow hat)
              go_roundw
              case rel => exact back_gen HTK.out HFS.out HLT.out hsg2 HB3.out hown hgrow HBH3.out (by simp; omega) (by go_num) (by rw [one_new hmem]; simp)
              case measure => have := HLT.out; simp [intOf]; omega
          · obtain rfl : j = xs.length := by omega
            have hdd : d = xs.map (· % N) := by rw [HD.out, List.take_of_length_le (Nat.le_refl _)]
            have hdb : ∀ x ∈ d, x < N := fun x hx => by
              rw [hdd] at hx
              obtain ⟨y, _, rfl⟩ := List.mem_map.1 hx
              exact Nat.mod_lt _ (by omega)
            have hsg := HSG.out
            obtain ⟨ag, cg, rfl⟩ := hsg.form
            have hsl : (d.map (sh5 (shardS M CT))).length = xs.length := by rw [List.length_map, hdl]
            rw [← hsl] at hsg
            have HDO := Lib.hid (do_any 0 0 0 (M : Nat) (N : Nat) (s.length : Nat) _ (d.map (sh5 (shardS M CT))) (by rw [hsl]; omega) wr (ShAt.of_seg hsg))
            rw [HDB.out d hdb, hsl] at HDO
            unfold jobV resV at HDO
            have hlt' : ¬ (xs.length : Int) < (xs.length : Int) := by omega
            have HBB := Lib.hid (Below.chain HBW.out HB2.out)
            clear hdb hsg hsl hdd HSG HBH
            by_cases hfew : (oneN d).length < M
            · rw [if_pos hfew] at HDO
              have hfi : ((oneN d).length : Int) < (M : Int) := by omega
              clear hfew
              go_wp2_with fail
              refine HDO.out.mono ?_
              rintro e w4 ⟨rfl, hb4⟩
              have HB4 := Lib.hid (Below.chainAlloc (Below.chain hb4 HBB.out) (.cells #[.int .i64 0, .int .u32 0, Str [], .int .i64 15] 35))
              clear hb4
              go_wp2_with fail
              refine (awake20 _).mono ?_
              rintro e w5 ⟨rfl, hb5⟩
              have hB := Below.chain hb5 HB4.out
              clear hb5
              go_wp2_with fail
              go_ret
              exact ⟨rfl, hB⟩
            · rw [if_neg hfew] at HDO
              have hfi : ¬ ((oneN d).length : Int) < (M : Int) := by omega
              clear hfew
              go_wp2_with fail
              refine HDO.out.mono ?_
              rintro e w4 ⟨rfl, hb4⟩
              have HB4 := Lib.hid (Below.chainAlloc (Below.chain hb4 HBB.out) (.cells #[.int .i64 0, .int .u32 0, Str s, .int .i64 0] 35))
              clear hb4
              go_wp2_with fail
              refine (awake20 _).mono ?_
              rintro e w5 ⟨rfl, hb5⟩
              have hB := Below.chain hb5 HB4.out
              clear hb5
              go_wp2_with fail
              go_ret
              exact ⟨rfl, hB⟩
end Go.Proofs.YtelpkddgcmikfaaDoor
