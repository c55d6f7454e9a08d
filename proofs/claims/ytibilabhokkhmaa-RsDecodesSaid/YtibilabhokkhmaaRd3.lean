/-
  More shards than needed: Decode: the document's (chapter 5).
-/
import Derived.Test.YtibilabhokkhmaaRs8
import Derived.Test.YtibilabhokkhmaaRd1
import Derived.Test.YtibilabhokkhmaaRd2
import Derived.Test.YtibilabhokkhmaaMx15
namespace Go.Proofs.Ytibilabhokkhmaa
open Go.RowKit
set_option linter.unusedVariables false
set_option maxRecDepth 100000
set_option maxHeartbeats 2000000
theorem SegM.grown {w w' : World} {base : Nat} {v : Value} {rows : Tab} {r : Option Nat} (h : SegM w base v rows) (hg : w.grownBy w' r) (hn : ∀ g, v.ownBlock = some g → r ≠ some g) (hap : ∀ x ∈ r.toList, Apart 0 w 5 x) : SegM w' base v rows := by
  obtain ⟨vs, h1, h2, h3⟩ := h
  exact ⟨vs, h1, h2.grown hg hn, fun i hi hi' => (h3 i hi hi').only (Only.of_grown hg) hap⟩
theorem dec_row {n : Int} {L : Nat} {k : Nat} {q : List Sh5} (h : Good5 n L q) {j : Nat} (hj : j < q.length) {z : Int} {s : List UInt8} (hz : q[j] = (z, s)) :
    (pickT k (idx5 q)).take (j + 1) = (pickT k (idx5 q)).take j ++ [rowL k z.toNat] := by
  unfold pickT idx5
  have hl : j < ((q.map fun x => x.1.toNat).map (rowL k)).length := by simpa using hj
  rw [List.take_succ_eq_append_getElem hl, List.getElem_map, List.getElem_map, hz]
/-- What holds ahead of each round of the first loop. -/
def RdRel (K : Nat) (q : List Sh5) (w2 : World) (gk : Nat) (vr vt i : Value) (wr : World) : Prop :=
  ∃ j : Nat, j ≤ K ∧ K ≤ j + gk ∧ i = .int .i64 j ∧ Hid (SegM wr w2.heap.size vr ((pickT K (idx5 q)).take j)) ∧ Hid (Seg wr w2.heap.size 9 1 vt j (((txt5 q).take j).map Str)) ∧
    Hid (∀ g, vr.ownBlock = some g → vt.ownBlock ≠ some g) ∧ Hid (Below w2.heap.size w2 wr)
theorem rdecode_any (B : Nat) (v : Value) (xs : List Sh5) (k n : Int) (hl : xs.length ≤ 1000) (w : World) (hs : ShAt B w v xs) :
    Calls Try.prog 37 #[.int .i64 k, .int .i64 n, v] w (DecPost k n xs w) := by
  by_cases hbad : badD k n = true
  · have hd : decM k n xs = ([], 1) := by unfold decM; rw [if_pos hbad]
    refine Calls.mono (R := fun e w' => e = .returned (.tuple #[.slice none 0 0, .int .i64 1]) ∧ w' = w) ?_ (fun e w' h => by obtain ⟨rfl, rfl⟩ := h; exact DecPost.no hd (Below.refl _ _))
    obtain ⟨a, cap, rfl, _⟩ := hs
    clear hd
    unfold badD at hbad
    by_cases h1 : k < 1
    · clear hbad
      go_enter Try.func37, Try.ntmps37
      go_wp2_with fail
      go_ret2
      exact ⟨rfl, rfl⟩
    · by_cases h2 : 32 < k
      · clear hbad
        go_enter Try.func37, Try.ntmps37
        go_wp2_with fail
        go_ret2
        exact ⟨rfl, rfl⟩
      · by_cases h3 : n < k
        · clear hbad
          go_enter Try.func37, Try.ntmps37
          go_wp2_with fail
          go_ret2
          exact ⟨rfl, rfl⟩
        · have h4 : 255 < n := by simpa [h1, h2, h3] using hbad
          clear hbad
          go_enter Try.func37, Try.ntmps37
          go_wp2_with fail
          go_ret2
          exact ⟨rfl, rfl⟩
  · have hb := hbad
    simp only [badD, Bool.or_eq_true, decide_eq_true_eq] at hb
    obtain ⟨K, rfl⟩ : ∃ K : Nat, k = K := ⟨k.toNat, by omega⟩
    obtain ⟨N, rfl⟩ : ∃ N : Nat, n = N := ⟨n.toNat, by omega⟩
    have g1 : ¬ (K : Int) < 1 := by omega
    have g2 : ¬ (32 : Int) < (K : Int) := by omega
    have g3 : ¬ (N : Int) < (K : Int) := by omega
    have g4 : ¬ (255 : Int) < (N : Int) := by omega
    have HU := Lib.hid (runl_any B v xs N (by omega) hl w hs)
    have HM : Hid (decM (K : Int) (N : Int) xs = if (unlM (N : Int) xs).2 ≠ 0 then ([], (unlM (N : Int) xs).2) else if ((unlM (N : Int) xs).1.length : Int) < (K : Int) then ([], 15) else (decD K ((unlM (N : Int) xs).1.take K), 0)) := Lib.hid (by
      unfold decM
      rw [if_neg hbad, Int.toNat_natCast])
    have HG : Hid ((unlM (N : Int) xs).2 = 0 → ∃ L0, Good5 (N : Int) L0 (unlM (N : Int) xs).1 ∧ ∀ x ∈ (unlM (N : Int) xs).1, 1 ≤ x.2.length ∧ x.2.length ≤ 1024) := Lib.hid (fun h => ⟨_, unl_good xs [] ⟨by simp, by simp, by simp⟩ h, unl_pos xs [] (by simp) h⟩)
    obtain ⟨a, cap, rfl, _⟩ := hs
    clear hb hbad
    generalize unlM (N : Int) xs = M at *
    obtain ⟨m, z⟩ := M
    by_cases hz : z = 0
    · subst hz
      by_cases hlt : (m.length : Int) < (K : Int)
      · have hd : decM (K : Int) (N : Int) xs = ([], 15) := by rw [HM.out, if_neg (by simp), if_pos hlt]
        go_enter Try.func37, Try.ntmps37
        go_wp2_with fail
        refine HU.out.mono ?_
        rintro e w1 ⟨v1, rfl, hv1, hb1⟩
        obtain ⟨a1, c1, rfl, _⟩ := hv1
        go_wp2_with fail
        go_ret2
        exact DecPost.no hd hb1
      · have hKm : K ≤ m.length := by omega
        obtain ⟨L0, hgood, hpos⟩ := HG.out rfl
        have hd : decM (K : Int) (N : Int) xs = (decD K (m.take K), 0) := by rw [HM.out, if_neg (by simp), if_neg hlt]
        have hq := hgood.take K
        have hql : (m.take K).length = K := by rw [List.length_take]; omega
        have hL : 1 ≤ L0 ∧ L0 ≤ 1024 := by
          have h0 : 0 < m.length := by omega
          have h2 := hpos _ (List.getElem_mem h0)
          rw [hgood.len _ (List.getElem_mem h0)] at h2
          exact h2
        obtain ⟨iR, hiR, zR0, zR1, zR2⟩ := info_parts infoRow
        obtain ⟨iS, hiS, zS0, zS1, zS2⟩ := info_parts infoStr5
        go_enter Try.func37, Try.ntmps37
        go_wp2_with fail
        refine HU.out.mono ?_
        rintro e w1 ⟨v1, rfl, hv1, hb1⟩
        have hv1' := hv1
        obtain ⟨a1, c1, rfl, hc1, hc2, hc3⟩ := hv1
        have hKc : (K : Int) ≤ (c1 : Int) := by omega
        have hKm2 : (K : Int) ≤ (m.length : Int) := by omega
        have hKd : decide (m.length < K) = false := decide_eq_false (by omega)
        have hx : ∀ j (hj : j < (m.take K).length), ∃ g off, a1 = some ⟨g, off, none⟩ ∧ g < w1.heap.size ∧ w1.cell? ⟨g, off + j * 2, none⟩ = some (.int .i64 ((m.take K)[j]'hj).1) ∧ w1.cell? ⟨g, off + j * 2 + 1, none⟩ = some (Str ((m.take K)[j]'hj).2) := fun j hj => by
          have hj0 : j < m.length := by rw [List.length_take] at hj; omega
          rcases hc3 with e | ⟨g, off, ha, hg, _, hcc⟩
          · rw [e] at hj0; simp at hj0
          · rw [List.getElem_take]
            exact ⟨g, off, ha, hg, (hcc j hj0).1, (hcc j hj0).2⟩
        have HX := Lib.hid hx
        have HB := Lib.hid hb1
        have HGG := Lib.hid (And.intro hq (And.intro hL hd))
        have hK0 : 1 ≤ K := by omega
        have hK32 : K ≤ 32 := by omega
        have hN255 : N ≤ 255 := by omega
        have hKN : K ≤ N := by omega
        have HQL := Lib.hid hql
        clear hv1' hb1 hgood hpos hq hd HG HM hc2 hc3 hx hL hql
        go_wp2_with fail
        generalize m.take K = q at *
        go_loopg [10, 11, 12, 13, 14] K (fun gk vr vt i _ _ wr => RdRel K q w1 gk vr vt i wr)
        case atStart => exact ⟨0, Nat.zero_le _, by omega, rfl, Lib.hid (SegM.nil _ _), Lib.hid (Seg.nil _ _ _ _), Lib.hid (fun g h => by cases h), Lib.hid (Below.refl _ _)⟩
        case round =>
          obtain ⟨j, hj, hgj, rfl, HSR, HST, HSEP, HBW⟩ := hrel
          by_cases hjk : j < K
          · have hjq : j < q.length := by rw [HQL.out]; exact hjk
            obtain ⟨g, off, rfl, hg, d0, d1⟩ := HX.out j hjq
            obtain ⟨z, s, hzs⟩ : ∃ z s, q[j] = (z, s) := ⟨_, _, rfl⟩
            rw [hzs] at d0 d1
            have HRW := Lib.hid (dec_row (k := K) HGG.out.1 hjq hzs)
            have HLS := Lib.hid (dec_ls hjq hzs)
            obtain ⟨hz0, hzN⟩ := HGG.out.1.num _ (List.getElem_mem hjq)
            rw [hzs] at hz0 hzN
            obtain ⟨i, rfl⟩ : ∃ i : Nat, z = (i : Int) := ⟨z.toNat, by simp at hz0; omega⟩
            rw [Int.toNat_natCast] at HRW
            have e0 : wr.cell? ⟨g, off + j * 2, none⟩ = some (.int .i64 (i : Int)) := (HBW.out.cell (p := ⟨g, _, none⟩) hg).trans d0
            have e1 : wr.cell? ⟨g, off + j * 2 + 1, none⟩ = some (Str s) := (HBW.out.cell (p := ⟨g, _, none⟩) hg).trans d1
            have hgw : g < wr.heap.size := Nat.lt_of_lt_of_le hg HBW.out.size
            have hj2 : (j : Int) < (K : Int) := by omega
            have hj3 : (j : Int) < (m.length : Int) := by omega
            have hiN : (i : Int) < (N : Int) := hzN
            have HJK := Lib.hid hjk
            have he : rowE (K : Nat) (N : Nat) (i : Nat) = 0 := rowE_ok (by simp [badKN]; omega) (by omega) (by omega)
            have hv : rowV (K : Nat) (N : Nat) (i : Nat) = rowL K i := by unfold rowV; rw [if_pos he]; rfl
            have HR := Lib.hid (rrow_any (K : Nat) (N : Nat) (i : Nat) wr)
            unfold RowPost at HR
            rw [he, hv] at HR
            have hrl : (rowL K i).length = K := rowL_length K i
            have HRL := Lib.hid hrl
            have hlr : ((pickT K (idx5 q)).take j).length = j := by
              rw [List.length_take]
              unfold pickT idx5
              rw [List.length_map, List.length_map]
              omega
            clear d0 d1 he hv hzs hz0 hzN hrl
            go_wp2_with fail
            refine HR.out.mono ?_
            rintro e wa ⟨va, rfl, hva, hba⟩
            have hva0 := hva 0
            obtain ⟨aa, ca, rfl, _⟩ := hva0.at
            rw [HRL.out]
            rw [HRL.out] at hva0
            have e1a := (hba.cell (p := ⟨g, off + j * 2 + 1, none⟩) hgw).trans e1
            have HSR2 := Lib.hid (HSR.out.chain hba)
            have HST2 := Lib.hid (HST.out.chain hba)
            have HBW2 := Lib.hid (Below.chain hba HBW.out)
            have HVA := Lib.hid hva0
            obtain ⟨ar, cr, rfl⟩ := HSR2.out.form hlr
            obtain ⟨at', ct, rfl⟩ := HST2.out.form
            obtain ⟨vs, hv1, hv2, hv3⟩ := HSR2.out
            have hv2' := hv2
            rw [hlr] at hv2
            have hbz : w1.heap.size ≤ wa.heap.size := HBW2.out.size
            have hgwa : g < wa.heap.size := Nat.lt_of_lt_of_le hgw hba.size
            obtain ⟨z1, z2, z3⟩ : j + 1 ≤ maxLen ∧ (j + 1) * 24 ≤ 140737488355328 ∧ (j + 1) * 16 ≤ 140737488355328 := by unfold maxLen; omega
            have HV := Lib.hid (And.intro hv1 (And.intro hv2' hv3))
            have HHV := Lib.hid hv2
            have HSP := HSEP
            clear hba e0 e1 hva hva0 hv1 hv2' hv3 HSR HST HBW HR
            have hba2 : Below wa.heap.size wa (wa.alloc (.cells #[.slice aa K ca] 24)) := Below.chainAlloc (Below.refl _ _) _
            have e1c := (hba2.cell (p := ⟨g, off + j * 2 + 1, none⟩) hgwa).trans e1a
            have HBA2 := Lib.hid hba2
            clear e1a hba2
            go_upto_region 15 with (at_builtin; refine wpList_append_seg _ rfl (.tmp 63) (.tmp 65) 30 rfl w1.heap.size 24 iR _ 1 24 Try.underlying30 hiR zR0 zR1 zR2 rfl (by decide) (.slice ar j cr) j vs rfl (hv2.alloc _) ⟨wa.heap.size, 0, none⟩ 1 1 [.slice aa K ca] rfl rfl (cells_new _ _ _) (by simp [Value.oneCell']) (by decide) z1 z2 (by simp; omega) (wa.heap.size + 1) (size_alloc _ _) ?_; intro g' off' cap' w3 hown hgrow hat)
            obtain ⟨hv1, hv2', hv3⟩ := HV.out
            have e1b := (grown_cell hgrow g (off + j * 2 + 1) (by simp; omega) (fun e => by have := (HHV.out.blk g e.symm).1; omega)).trans e1c
            have hsm := SegM.snoc hv1 hv2' hv3 HVA.out (by rw [hlr]; exact hown) hgrow
            rw [← HRW.out] at hsm
            have hst3 : Seg w3 w1.heap.size 9 1 (.slice at' j ct) j (((txt5 q).take j).map Str) := Seg.grown (HST2.out.chain HBA2.out) hgrow (fun g hg e => HSP.out g e hg)
            have hb3 := (Below.chain HBA2.out HBW2.out).grown hgrow (by simp; omega) (fun g hg => (HHV.out.blk g hg).1)
            have hne3 : ∀ g2, (Value.slice at' j ct).ownBlock = some g2 → g' ≠ g2 ∧ g2 < w3.heap.size := fun g2 h2 => ⟨fun e => by
              rcases hat with h | h
              · exact HSP.out g' h (by rw [e]; exact h2)
              · have := (HST2.out.blk g2 h2).2
                omega, (hst3.blk g2 h2).2⟩
            have hgb := (hsm.blk g' rfl)
            have hs3 : w1.heap.size ≤ w3.heap.size := hb3.size
            have HSM := Lib.hid hsm
            have HST3 := Lib.hid hst3
            have HB3 := Lib.hid hb3
            have HNE3 := Lib.hid hne3
            have HGB := Lib.hid hgb
            clear hown hgrow hat e1c hsm hb3 hv2 hv1 hv2' hv3 hne3 hgb HVA HV HHV HBA2 HSR2 HST2
            go_wp2_with (at_builtin; refine wpList_append_seg _ rfl (.tmp 67) (.tmp 73) 60 rfl w1.heap.size 9 iS _ 1 16 Try.underlying60 hiS zS0 zS1 zS2 rfl (by decide) (.slice at' j ct) j (((txt5 q).take j).map Str) rfl (hst3.alloc _) ⟨w3.heap.size, 0, none⟩ 1 1 [Str s] rfl rfl (cells_new _ _ _) (by simp [Value.oneCell']) (by decide) z1 z3 (by simp; omega) (w3.heap.size + 1) (size_alloc _ _) ?_; intro g2 off2 cap2 w5 hown2 hgrow2 hat2)
            have hap := (HST3.out.alloc (.cells #[Str s] 9)).apart (t := 5) (B := 0) (by decide) (Nat.zero_le _)
            have hsm5 := (HSM.out.chain (Below.chainAlloc (Below.refl _ _) (.cells #[Str s] 9))).grown hgrow2 (fun g hg e => by
              obtain rfl : g' = g := by simpa [Value.ownBlock] using hg
              exact (HNE3.out _ e).1 rfl) hap
            have hb5 := (Below.chainAlloc HB3.out (.cells #[Str s] 9)).grown hgrow2 (by simp; omega) (fun g hg => (HST3.out.blk g hg).1)
            have HF := Lib.hid (And.intro hown2 (And.intro hsm5 hb5))
            have HAT := Lib.hid hat2
            clear hown2 hgrow2 hat2 hap hsm5 hb5 hst3 e1b
            go_roundg (K - (j + 1))
            case rel =>
              obtain ⟨f1, f2, f3⟩ := HF.out
              refine ⟨j + 1, HJK.out, by have := HJK.out; omega, by go_num, Lib.hid f2, Lib.hid (by rw [HLS.out]; exact f1), Lib.hid (fun g hg hg2 => ?_), Lib.hid f3⟩
              obtain rfl : g' = g := by simpa [Value.ownBlock] using hg
              obtain rfl : g2 = g' := by simpa [Value.ownBlock] using hg2
              rcases HAT.out with h | h
              · exact (HNE3.out _ h).1 rfl
              · have := HGB.out.2
                omega
            case measure => have := HJK.out; omega
          · obtain rfl : j = K := by omega
            have hpl : (pickT j (idx5 q)).length = j := by
              unfold pickT idx5
              rw [List.length_map, List.length_map]
              exact HQL.out
            have htl : (txt5 q).length = j := by unfold txt5; rw [List.length_map]; exact HQL.out
            have hsr := HSR.out
            have hst := HST.out
            rw [List.take_of_length_le (by omega)] at hsr hst
            have hinv : invE (pickT j (idx5 q)) = 0 := dec_inv HGG.out.1 (by omega) (by omega) (by omega) HQL.out
            have hAll : AllB (pickT j (idx5 q)) := (gd_pick j (idx5 q)).all
            obtain ⟨_, _, hXX, _, _⟩ := inv_facts hAll hinv
            rw [hpl] at hXX
            have hXl : (invV (pickT j (idx5 q))).length = j := hXX.len
            have HXW := Lib.hid hXX.wide
            have HIV := Lib.hid (rinvert_any 0 _ (pickT j (idx5 q)) wr hsr.mat)
            unfold InvPost at HIV
            rw [hinv] at HIV
            have hlenX : ∀ t ∈ txt5 q, t.length = L0 := fun t ht => by
              obtain ⟨x, hx, rfl⟩ := List.mem_map.1 ht
              exact HGG.out.1.len x hx
            have HLX := Lib.hid hlenX
            have HTL := Lib.hid htl
            have HDM := Lib.hid HGG.out.2.2
            have HLL := Lib.hid HGG.out.2.1
            have HDD : Hid (decD j q = (invV (pickT j (idx5 q))).map fun r => mixS r (txt5 q)) := Lib.hid rfl
            have HST1 := Lib.hid hst
            have HBB := Lib.hid (Below.chain HBW.out HB.out)
            obtain ⟨ar, cr, rfl⟩ := hsr.form hpl
            obtain ⟨at', ct, rfl⟩ := hst.form
            have HSL := Lib.hid (SlAt.of_seg (B := 0) hst)
            have hlt' : ¬ (j : Int) < (j : Int) := by omega
            clear hsr hst hinv hAll hXX hlenX htl hpl HSR HST HSEP HBW HGG
            generalize invV (pickT j (idx5 q)) = Z at *
            go_wp2_with fail
            refine HIV.out.mono ?_
            rintro e w4 ⟨v4, rfl, hv4, hb4⟩
            obtain ⟨a4, c4, rfl, _⟩ := hv4.at
            rw [hXl]
            have HV4 := Lib.hid hv4
            have HSL4 := Lib.hid (HSL.out.chain hb4)
            have HBB4 := Lib.hid (Below.chain hb4 HBB.out)
            clear hv4 hb4 HIV HSL HBB HST1
            go_wp2_with fail
            go_loopg [17, 18] j (fun gk vo i wr => ∃ n : Nat, n ≤ j ∧ j ≤ n + gk ∧ i = .int .i64 n ∧ Hid (Seg wr w4.heap.size 9 1 vo n ((Z.map fun r => mixS r (txt5 q)).take n |>.map Str)) ∧ Hid (Below w4.heap.size w4 wr))
            case atStart => exact ⟨0, Nat.zero_le _, by omega, rfl, Lib.hid (Seg.nil _ _ _ _), Lib.hid (Below.refl _ _)⟩
            case round =>
              obtain ⟨n, hn, hgn, rfl, HSO, HBO⟩ := hrel
              by_cases hnj : n < j
              · have hnZ : n < Z.length := by omega
                obtain ⟨_, _, e, _, hcm⟩ := (HV4.out.chain HBO.out).at
                rw [hXl] at e
                cases e
                obtain ⟨g, off, u, rfl, hg, hck, hrow⟩ := hcm n hnZ
                have hsnoc : (Z.map fun r => mixS r (txt5 q)).take (n + 1) = (Z.map fun r => mixS r (txt5 q)).take n ++ [mixS Z[n] (txt5 q)] := by
                  rw [List.take_succ_eq_append_getElem (by simpa using hnZ), List.getElem_map]
                have HSN := Lib.hid hsnoc
                have hw := HXW.out n hnZ
                have HMX := Lib.hid (rmix_any 0 0 u _ Z[n] (txt5 q) L0 wr hrow (HSL4.out.chain HBO.out) (by rw [hw, HTL.out]) (by rw [HTL.out]; omega) HLX.out (by have := HLL.out; omega) (by have := HLL.out; omega))
                obtain ⟨au, cu, rfl, _⟩ := hrow.at
                have hn2 : (n : Int) < (j : Int) := by omega
                have HNJ := Lib.hid hnj
                have hn1000 : n ≤ 1000 := by omega
                clear hcm hsnoc hw hrow
                generalize Z[n] = r at *
                go_wp2_with fail
                refine HMX.out.mono ?_
                rintro e wb ⟨rfl, hbb⟩
                have hso := HSO.out.chain hbb
                have HBO2 := Lib.hid (Below.chain hbb HBO.out)
                have hsz : w4.heap.size ≤ wb.heap.size := HBO2.out.size
                obtain ⟨ao, co, rfl⟩ := hso.form
                have HSO2 := Lib.hid hso
                obtain ⟨z1, z2⟩ : n + 1 ≤ maxLen ∧ (n + 1) * 16 ≤ 140737488355328 := by unfold maxLen; omega
                clear hbb HMX HSO HBO hck
                generalize mixS r (txt5 q) = sm at *
                go_wp2_with (at_builtin; refine wpList_append_seg _ rfl (.tmp 85) (.tmp 92) 60 rfl w4.heap.size 9 iS _ 1 16 Try.underlying60 hiS zS0 zS1 zS2 rfl (by decide) (.slice ao n co) n _ rfl (hso.alloc _) ⟨wb.heap.size, 0, none⟩ 1 1 [Str sm] rfl rfl (cells_new _ _ _) (by simp [Value.oneCell']) (by decide) z1 z2 (by simp; omega) (wb.heap.size + 1) (size_alloc _ _) ?_; intro g2 off2 cap2 w5 hown hgrow hat)
                have HOW := Lib.hid hown
                have HB5 := Lib.hid ((Below.chainAlloc HBO2.out (.cells #[Str sm] 9)).grown hgrow (by simp; omega) (fun g hg => (HSO2.out.blk g hg).1))
                clear hown hgrow hat hso
                go_roundg (j - (n + 1))
                case measure => have := HNJ.out; omega
                case rel =>
                  refine ⟨n + 1, HNJ.out, by have := HNJ.out; omega, by go_num, Lib.hid ?_, HB5⟩
                  rw [HSN.out, List.map_append, List.map_singleton]
                  exact HOW.out
              · obtain rfl : n = j := by omega
                have hso := HSO.out
                rw [List.take_of_length_le (by rw [List.length_map]; omega), ← HDD.out] at hso
                have hdl : (decD n q).length = n := by rw [HDD.out, List.length_map]; exact hXl
                have HSA := Lib.hid (SlAt.of_seg (B := 0) (by
                  have h := hso
                  exact h))
                obtain ⟨ao, co, rfl⟩ := hso.form
                have HBF := Lib.hid (Below.chain HBO.out HBB4.out)
                clear hso hdl
                go_wp2_with fail
                go_ret2
                exact ⟨_, by rw [HDM.out]; rfl, by rw [HDM.out]; exact HSA.out, HBF.out⟩
    · have hd : decM (K : Int) (N : Int) xs = ([], z) := by rw [HM.out, if_pos hz]
      have hne : (z != 0) = true := by simpa using hz
      go_enter Try.func37, Try.ntmps37
      go_wp2_with fail
      refine HU.out.mono ?_
      rintro e w1 ⟨v1, rfl, hv1, hb1⟩
      obtain ⟨a1, c1, rfl, _⟩ := hv1
      go_wp2_with fail
      go_ret2
      exact DecPost.no hd hb1
end Go.Proofs.Ytibilabhokkhmaa
