/-
  Tables of bytes: the document's inverse: contract (chapter 3).
-/
import Derived.Test.YtibilabhokkhmaaMx14
namespace Go.Proofs.Ytibilabhokkhmaa
open Go.RowKit
set_option linter.unusedVariables false
set_option maxRecDepth 100000
set_option maxHeartbeats 4000000
theorem SlAt.drop {B : Nat} {w : World} {t : TypeId} {g off len cap n : Nat} {vs : List Value} (h : SlAt B w t (.slice (some ⟨g, off, none⟩) len cap) vs) (hn : n ≤ vs.length) : SlAt B w t (.slice (some ⟨g, off + n, none⟩) (len - n) (cap - n)) (vs.drop n) := by
  obtain ⟨a, c, e, h1, h2, h3⟩ := h
  cases e
  refine ⟨_, _, by rw [List.length_drop], by rw [List.length_drop]; omega, by omega, ?_⟩
  rcases h3 with h3 | ⟨g', off', e, hg, ht, hc⟩
  · left; rw [h3]; simp
  · cases e
    right
    refine ⟨g, off + n, rfl, hg, ht, fun j hj => ?_⟩
    rw [List.length_drop] at hj
    rw [Nat.add_assoc, hc (n + j) (by omega)]
    simp
theorem RowAt.drop {B : Nat} {w : World} {g off len cap n : Nat} {bs : List Nat} (h : RowAt B w (.slice (some ⟨g, off, none⟩) len cap) bs) (hn : n ≤ bs.length) : RowAt B w (.slice (some ⟨g, off + n, none⟩) (len - n) (cap - n)) (bs.drop n) := by
  refine ⟨?_, fun x hx => h.2 x (List.mem_of_mem_drop hx)⟩
  have := h.1.drop (n := n) (by rw [u8s_length]; exact hn)
  rwa [show (u8s bs).drop n = u8s (bs.drop n) by simp [u8s, List.map_drop]] at this
theorem RowAt.cap {B : Nat} {w : World} {a : Option Addr} {n cap : Nat} {bs : List Nat} (h : RowAt B w (.slice a n cap) bs) : n ≤ cap ∧ cap ≤ maxLen := by
  obtain ⟨a', c', e, h1, h2, _⟩ := h.1
  cases e
  exact ⟨h1, h2⟩
theorem soFar_get (new old : Tab) (m : Nat) (h : new.length = old.length) (hm : m < old.length) : (soFar new old m)[m]'(by rw [soFar_length new old m h (by omega)]; omega) = old[m] := by
  unfold soFar
  rw [List.getElem_append_right (by simp; omega)]
  simp
  congr 1
  omega
theorem idRow_get (n i j : Nat) (hj : j < n) : (idRow n i)[j]'(by rw [idRow_length]; exact hj) = if i = j then 1 else 0 := by
  unfold idRow
  rw [List.getElem_set]
  simp
theorem rinvert_any (B : Nat) (v : Value) (rows : Tab) (w : World) (h : MatAt B w v rows) : Calls Try.prog 28 #[v] w (InvPost rows w) := by
  have h0 := h
  obtain ⟨a, cap, rfl, hm, hc0⟩ := h.at
  clear h
  by_cases hc : chkM rows = 0
  · obtain ⟨⟨n1, n2⟩, ⟨w1, w2⟩, hw⟩ := chkM_zero hc
    have HC := Lib.hid hc
    have HW := Lib.hid (wide_of hw)
    obtain ⟨g, off, u0, rfl, hg, hck, hr0⟩ := hc0 0 (by omega)
    obtain ⟨a0, c0, rfl, -⟩ := hr0.at
    rw [wid_eq (by omega), Nat.add_zero] at hck
    clear hr0 hw hc0
    by_cases hl : rows.length = wid rows
    · have heq : ((wid rows : Int) != (rows.length : Int)) = false := by simp [hl]
      obtain ⟨n, hn⟩ : ∃ n, rows.length = n := ⟨_, rfl⟩
      have HN := Lib.hid hn
      have HSING : Hid (∀ wx, (redI rows).1 < n → Below w.heap.size w wx → InvPost rows w (.returned (.tuple #[.slice none 0 0, .int .i64 14])) wx) := fun wx h hx => InvPost.no (invE_sing hc hl (by rw [hn]; exact h)) (by decide) hx
      have HOK : Hid (∀ wx v, ¬ (redI rows).1 < n → MatAt 0 wx v (redI rows).2.2 → Below w.heap.size w wx → InvPost rows w (.returned (.tuple #[v, .int .i64 0])) wx) := fun wx v h hm hx => InvPost.yes (invE_ok hc hl (by rw [hn]; exact h)) hm hx
      have hinv := redSo_inv (M := rows) (O := idM rows.length) (n := rows.length) rfl (idM_length _) HW.out (wide_id _) rows.length
      have HINV : Hid ((redI rows).2.1.length = n ∧ (redI rows).2.2.length = n ∧ (redI rows).1 ≤ n ∧ Wide (redI rows).2.1 n ∧ Wide (redI rows).2.2 n) := by rw [← hl, hn] at hinv; unfold redI; rw [hn]; exact hinv
      have HWD : Hid (Wide rows n) := by have := HW.out; rwa [← hl, hn] at this
      have HZL : Hid ((zw rows (idM n)).length = n) := by show _ = n; rw [zw_length (by rw [idM_length, hn]), hn]
      have HZW : Hid (Wide (zw rows (idM n)) (n + n)) := zw_wide (by rw [idM_length, hn]) HWD.out (wide_id _)
      have HZG : Hid (∀ i (h : i < n), (zw rows (idM n))[i]'(by rw [HZL.out]; exact h) = (rows[i]'(by rw [HN.out]; exact h)) ++ idRow n i) := fun i hi => by
        rw [zw_get (by rw [idM_length, hn]) i (by rw [hn]; exact hi)]
        simp [idM]
      have HRED : Hid (rred (zw rows (idM n)) n = ((redI rows).1, zw (redI rows).2.1 (redI rows).2.2)) := by
        show _ = _
        rw [rred_zw (by rw [idM_length, hn]) HWD.out (wide_id _) n (Nat.le_refl _)]
        unfold redI
        rw [hn]
      have hck2 := fun w' (hb : Below w.heap.size w w') => (hb.cell (p := ⟨g, off, none⟩) hg).trans hck
      obtain ⟨i0, hi, hz0, hz1, hz2⟩ := info_parts infoU8
      obtain ⟨j0, hj, hy0, hy1, hy2⟩ := info_parts infoRow
      rw [← hl] at hck2 heq
      rw [hn] at h0 hm n1 n2 hck2 heq ⊢
      have HCK := Lib.hid hck2
      clear hc hinv hck hck2 hl hn w1 w2 HW
      go_enter Try.func28, Try.ntmps28
      go_wp2_with fail
      refine (rcheck_any B _ rows _ h0).mono ?_
      rw [HC.out]
      rintro e wa ⟨rfl, hd⟩
      have hB := hd.below
      have hck := HCK.out _ hB
      clear hd
      go_wp2_with fail
      clear hck
      generalize zw rows (idM n) = Z at *
      go_loopg [6, 7, 8, 9, 10] n (fun gk ov i _ _ _ wr => ∃ m : Nat, m ≤ n ∧ n ≤ m + gk ∧ i = .int .i64 m ∧ SegM wr w.heap.size ov (Z.take m) ∧ Below w.heap.size w wr)
      case atStart => exact ⟨0, by omega, by omega, rfl, SegM.nil _ _, hB⟩
      case round =>
        clear hB
        obtain ⟨m, hm', hgm, rfl, hs, hB⟩ := hrel
        have htl : (Z.take m).length = m := by rw [List.length_take, HZL.out]; omega
        obtain ⟨ao, co, rfl⟩ := hs.form htl
        by_cases hlt : m < n
        · obtain ⟨_, _, e, -, hc⟩ := (h0.chain hB).at
          rw [HN.out] at e
          cases e
          obtain ⟨_, _, u, e, -, hck, hru⟩ := hc m (by rw [HN.out]; exact hlt)
          cases e
          obtain ⟨au, cu, rfl, -⟩ := hru.at
          have hlw : (rows[m]'(by rw [HN.out]; exact hlt)).length = n := HWD.out m (by rw [HN.out]; exact hlt)
          rw [hlw] at hck hru
          have hsn : Z.take (m + 1) = Z.take m ++ [Z[m]'(by rw [HZL.out]; exact hlt)] := List.take_succ_eq_append_getElem (by rw [HZL.out]; exact hlt)
          rw [HZG.out m hlt] at hsn
          have HSN := Lib.hid hsn
          have HTL := Lib.hid htl
          have h256 : ∀ y ∈ (rows[m]'(by rw [HN.out]; exact hlt)) ++ idRow n m, y < 256 := fun y hy => by
            rcases List.mem_append.1 hy with h | h
            · exact hru.2 y h
            · exact idRow_lt n m y h
          have H256 := Lib.hid h256
          have hone := u8s_one (rows[m]'(by rw [HN.out]; exact hlt))
          have HONE := Lib.hid hone
          have hu8 := u8s_length (rows[m]'(by rw [HN.out]; exact hlt))
          rw [hlw] at hu8
          have HU8 := Lib.hid hu8
          have hsl := hru.1
          have HRM := Lib.hid hlw
          clear hc hsn hone h256 hru htl hlw hu8
          generalize (rows[m]'(by rw [HN.out]; exact hlt)) = rm at *
          have HL0 : Hid ((rm ++ idRow n m).take (n + 0) = rm) := by
            show _ = _
            rw [Nat.add_zero, List.take_append_of_le_length (by rw [HRM.out]; exact Nat.le_refl _), List.take_of_length_le (by rw [HRM.out]; exact Nat.le_refl _)]
          have HLL : Hid ((rm ++ idRow n m).length = n + n) := by show _ = _; rw [List.length_append, HRM.out, idRow_length]
          have HLG : Hid (∀ j (h : j < n), (rm ++ idRow n m)[n + j]'(by rw [HLL.out]; omega) = if m = j then 1 else 0) := fun j hj => by
            rw [List.getElem_append_right (by rw [HRM.out]; omega)]
            simp only [HRM.out, Nat.add_sub_cancel_left]
            exact idRow_get n m j hj
          go_upto_region 13 with (at_builtin; refine wpList_append_sl rfl (.tmp 32) (.tmp 36) 24 rfl wr.heap.size B 5 5 i0 _ 1 Try.underlying24 hi hz0 hz1 hz2 rfl (.slice none 0 0) 0 [] rfl (Seg.nil _ _ _ _) (.slice au n cu) (u8s rm) rfl hsl HONE.out (by rw [HU8.out]; unfold maxLen; omega) (by rw [HU8.out]; omega) (Nat.le_refl _) ?_; intro v' w3 hown hgrow hat; rw [List.nil_append, Nat.zero_add, HU8.out] at hown)
          have hb3 := below_of_grown hgrow
          clear hgrow hat hck hsl HU8 HONE
          rw [← HL0.out] at hown
          generalize rm ++ idRow n m = L at *
          obtain ⟨gb, hgb⟩ : ∃ gb, wr.heap.size = gb := ⟨_, rfl⟩
          have HGB := Lib.hid hgb
          rw [hgb] at hown hb3
          clear hgb
          have hown0 : Seg w3 gb 5 1 v' (n + 0) (u8s (L.take (n + 0))) := hown
          clear hown
          go_wp2_with fail
          go_loopg [8, 9, 10] n (fun g9 rv i _ wx => ∃ j : Nat, j ≤ n ∧ n ≤ j + g9 ∧ i = .int .i64 j ∧ Seg wx gb 5 1 rv (n + j) (u8s (L.take (n + j))) ∧ Below gb wr wx)
          case atStart => exact ⟨0, by omega, by omega, rfl, hown0, hb3⟩
          case round =>
            clear hb3 hown0
            obtain ⟨j, hj', hgj, rfl, hseg, hbi⟩ := hrel
            obtain ⟨ar, cr, rfl⟩ := hseg.form
            have hgz : gb ≤ wr.heap.size := by have := hbi.size; rw [HGB.out] at this; exact this
            by_cases hjn : j < n
            · have hsn := u8s_take_snoc L (n + j) (by rw [HLL.out]; omega)
              rw [HLG.out j hjn] at hsn
              have HS2 := Lib.hid hsn
              clear hsn
              generalize u8s (L.take (n + j)) = us at *
              by_cases hmj : m = j
              · have hq : ((m : Int) == (j : Int)) = true := by simp; omega
                rw [if_pos hmj] at HS2
                clear hmj
                go_wp2_with (at_builtin; refine wpList_append_seg _ rfl (.tmp 46) (.tmp 48) 24 rfl gb 5 i0 _ 1 1 Try.underlying24 hi hz0 hz1 hz2 rfl (by decide) (.slice ar (n + j) cr) (n + j) us rfl (hseg.alloc _) ⟨wr.heap.size, 0, none⟩ 1 1 [.int .u8 1] rfl rfl (cells_new _ _ _) (by simp [Value.oneCell']) (by decide) (by unfold maxLen; omega) (by omega) (by simp; omega) (wr.heap.size + 1) (size_alloc _ _) ?_; intro g' off' cap' w4 hown hgrow hat)
                have hbi2 := hbi
                rw [← HGB.out] at hbi2
                have hbb := Below.only (Below.chainAlloc hbi2 _) (Only.of_grown hgrow) (fun x hm => by rw [HGB.out]; exact (hseg.blk x (by simpa using hm)).1)
                rw [HGB.out] at hbb
                clear hbi2
                go_roundg (n - (j + 1))
                case measure => omega
                case rel => exact ⟨j + 1, by omega, by omega, by go_num, by rw [← Nat.add_assoc, HS2.out]; exact hown, hbb⟩
              · have hq : ((m : Int) == (j : Int)) = false := by simp; omega
                rw [if_neg hmj] at HS2
                clear hmj
                go_wp2_with (at_builtin; refine wpList_append_seg _ rfl (.tmp 46) (.tmp 48) 24 rfl gb 5 i0 _ 1 1 Try.underlying24 hi hz0 hz1 hz2 rfl (by decide) (.slice ar (n + j) cr) (n + j) us rfl (hseg.alloc _) ⟨wr.heap.size, 0, none⟩ 1 1 [.int .u8 0] rfl rfl (cells_new _ _ _) (by simp [Value.oneCell']) (by decide) (by unfold maxLen; omega) (by omega) (by simp; omega) (wr.heap.size + 1) (size_alloc _ _) ?_; intro g' off' cap' w4 hown hgrow hat)
                have hbi2 := hbi
                rw [← HGB.out] at hbi2
                have hbb := Below.only (Below.chainAlloc hbi2 _) (Only.of_grown hgrow) (fun x hm => by rw [HGB.out]; exact (hseg.blk x (by simpa using hm)).1)
                rw [HGB.out] at hbb
                clear hbi2
                go_roundg (n - (j + 1))
                case measure => omega
                case rel => exact ⟨j + 1, by omega, by omega, by go_num, by rw [← Nat.add_assoc, HS2.out]; exact hown, hbb⟩
            · obtain rfl : j = n := by omega
              rw [List.take_of_length_le (by rw [HLL.out]; exact Nat.le_refl _)] at hseg
              have hrow := RowAt.of_seg hseg H256.out
              have hll := HLL.out
              rw [← HGB.out] at hbi
              replace hs := hs.chain hbi
              replace hB := Below.chain hbi hB
              have hbz : w.heap.size ≤ wr.heap.size := hB.size
              obtain ⟨vs, hv1, hv2, hv3⟩ := hs
              have hv2' := hv2
              rw [HTL.out] at hv2
              have hdj : ¬ j < j := by omega
              clear hbi hseg hll
              go_wp2_with (at_builtin; refine wpList_append_seg _ rfl (.tmp 50) (.tmp 52) 30 rfl w.heap.size 24 j0 _ 1 24 Try.underlying30 hj hy0 hy1 hy2 rfl (by decide) (.slice ao m co) m vs rfl (hv2.alloc _) ⟨wr.heap.size, 0, none⟩ 1 1 [.slice ar (j + j) cr] rfl rfl (cells_new _ _ _) (by simp [Value.oneCell']) (by decide) (by unfold maxLen; omega) (by omega) (by simp; omega) (wr.heap.size + 1) (size_alloc _ _) ?_; intro g' off' cap' w4 hown2 hgrow2 hat2)
              have hbb := Below.only (Below.chainAlloc hB _) (Only.of_grown hgrow2) (fun x hm => (hv2.blk x (by simpa using hm)).1)
              have hsm := SegM.snoc hv1 hv2' hv3 hrow (by rw [HTL.out]; exact hown2) hgrow2
              rw [← HSN.out] at hsm
              clear hgrow2 hat2 hv2 hv2' hv3 hB hown2 hrow
              go_wp2_with fail
              go_roundg (j - (m + 1))
              case measure => omega
              case rel => exact ⟨m + 1, by omega, by omega, by go_num, hsm, hbb⟩
        · obtain rfl : m = n := by omega
          rw [List.take_of_length_le (by rw [HZL.out]; exact Nat.le_refl _)] at hs
          have hmat := hs.mat
          have hRD := fun wx (hx : Below wr.heap.size wr wx) => reduced_any 0 _ Z m (m + m) m n1 n2 HZL.out HZW.out (by omega) (by omega) wx (hmat.chain hx)
          have HRD := Lib.hid (hRD wr (Below.refl _ _))
          have hdm : ¬ m < m := by omega
          clear hRD hmat hs htl
          go_wp2_with fail
          refine HRD.out.mono ?_
          rintro e w4 ⟨g4, o4, c4, rfl, ho, hg4, hc4, hc5, hb4⟩
          rw [HRED.out] at ho ⊢
          have hgl : w.heap.size ≤ g4 := Nat.le_trans hB.size hg4
          replace hB := Below.chain hb4 hB
          clear hb4 HRD HRED HZG HZL HZW
          obtain ⟨hI1, hI2, hI3, hI4, hI5⟩ := HINV.out
          generalize redI rows = R at *
          obtain ⟨A, R1, R2⟩ := R
          dsimp only at *
          by_cases hsing : A < m
          · have HQ := Lib.hid (HSING.out w4 hsing hB)
            clear ho HSING HOK HINV
            go_wp2_with fail
            go_ret2
            exact HQ.out
          · have HL2 : Hid (R2.length = (zw R1 R2).length) := by show _ = _; rw [zw_length (by rw [hI2, hI1]), hI1, hI2]
            have HOK2 := Lib.hid (fun wx h hx => HOK.out wx (.slice (some ⟨g4, o4, none⟩) m c4) hsing h hx)
            have HI2 := Lib.hid hI2
            have HGETR : Hid (∀ q (h : q < m), ((soFar R2 (zw R1 R2) q)[q]'(by rw [soFar_length R2 _ q HL2.out (by rw [HI2.out]; omega), HI2.out]; exact h)) = (R1[q]'(by rw [hI1]; exact h)) ++ (R2[q]'(by rw [HI2.out]; exact h))) := fun q h => by
              rw [soFar_get R2 _ q HL2.out (by rw [← HL2.out, HI2.out]; exact h), zw_get (by rw [HI2.out, hI1]) q (by rw [hI1]; exact h)]
            have HLR1 : Hid (∀ q (h : q < m), (R1[q]'(by rw [hI1]; exact h)).length = m) := fun q h => hI4 q (by rw [hI1]; exact h)
            have HLR2 : Hid (∀ q (h : q < m), (R2[q]'(by rw [HI2.out]; exact h)).length = m) := fun q h => hI5 q (by rw [HI2.out]; exact h)
            clear HSING HOK HINV hI4 hI5
            go_wp2_with fail
            go_loopg [13] m (fun g13 i wx => ∃ q : Nat, q ≤ m ∧ m ≤ q + g13 ∧ i = .int .i64 q ∧ OwnM wx g4 o4 (soFar R2 (zw R1 R2) q) ∧ Below w.heap.size w wx)
            case atStart => exact ⟨0, by omega, by omega, rfl, by rw [soFar_zero]; exact ho, hB⟩
            case round =>
              clear ho hB
              obtain ⟨q, hq, hgq, rfl, ho, hB⟩ := hrel
              by_cases hqm : q < m
              · have hsl := soFar_length R2 (zw R1 R2) q HL2.out (by rw [HI2.out]; omega)
                rw [HI2.out] at hsl
                obtain ⟨a1, c1, m1, r1⟩ := ho.read q (by omega)
                rw [HGETR.out q hqm] at m1 r1
                rw [List.length_append, HLR1.out q hqm, HLR2.out q hqm] at m1 r1
                obtain ⟨_, _, e, hc⟩ := r1.at
                rw [List.length_append, HLR1.out q hqm, HLR2.out q hqm] at e
                cases e
                obtain ⟨gr, ofr, rfl, hgr, -⟩ := hc 0 (by rw [List.length_append, HLR1.out q hqm, HLR2.out q hqm]; omega)
                obtain ⟨hk1, hk2⟩ := r1.cap
                have hfr := ho.free (o4 + q)
                have hdrop := r1.drop (n := m) (by rw [List.length_append, HLR1.out q hqm]; omega)
                rw [List.drop_append_of_le_length (by rw [HLR1.out q hqm]; exact Nat.le_refl _), List.drop_of_length_le (by rw [HLR1.out q hqm]; exact Nat.le_refl _), List.nil_append, Nat.add_sub_cancel] at hdrop
                have hset := soFar_set R2 (zw R1 R2) q HL2.out (by rw [HI2.out]; exact hqm)
                have HSET := Lib.hid hset
                have HSL := Lib.hid hsl
                clear hc hset hsl r1
                unfold maxLen at hk2
                go_wp2_with fail
                have hon := ho.store q (by rw [HSL.out]; exact hqm) _ _ _ _ hdrop
                rw [HSET.out] at hon
                have hBn := hB.setCell (p := ⟨g4, o4 + q, none⟩) hgl (.slice (some ⟨gr, ofr + m, none⟩) m (c1 - m))
                go_roundg (m - (q + 1))
                case measure => omega
                case rel => exact ⟨q + 1, by omega, by omega, by go_num, hon, hBn⟩
              · obtain rfl : q = m := by omega
                rw [soFar_end _ _ q HI2.out (by rw [← HL2.out, HI2.out])] at ho
                have HQ := Lib.hid (HOK2.out wr (ho.mat HI2.out.symm hc4 hc5) hB)
                have hdq : ¬ q < q := by omega
                clear ho
                go_wp2_with fail
                go_ret2
                exact HQ.out
    · have heq : ((wid rows : Int) != (rows.length : Int)) = true := by simp; omega
      have HP : Hid (∀ wx, Below w.heap.size w wx → InvPost rows w (.returned (.tuple #[.slice none 0 0, .int .i64 16])) wx) := fun wx hx => InvPost.no (invE_len hc hl) (by decide) hx
      have hck2 := fun w' (hb : Below w.heap.size w w') => (hb.cell (p := ⟨g, off, none⟩) hg).trans hck
      have HCK := Lib.hid hck2
      clear hc hl hck hck2 HW
      generalize wid rows = x at *
      go_enter Try.func28, Try.ntmps28
      go_wp2_with fail
      refine (rcheck_any B _ rows _ h0).mono ?_
      rw [HC.out]
      rintro e wa ⟨rfl, hd⟩
      have hck := HCK.out _ hd.below
      have HQ := Lib.hid (HP.out _ hd.below)
      clear hd
      go_wp2_with fail
      go_ret2
      exact HQ.out
  · have hce : (chkM rows != 0) = true := by simpa using hc
    have HP : Hid (∀ wx, Below w.heap.size w wx → InvPost rows w (.returned (.tuple #[.slice none 0 0, .int .i64 (chkM rows)])) wx) := fun wx hx => InvPost.no (invE_chk hc) hc hx
    clear hc hc0
    go_enter Try.func28, Try.ntmps28
    go_wp2_with fail
    refine (rcheck_any B _ rows _ h0).mono ?_
    rintro e wa ⟨rfl, hd⟩
    have HQ := Lib.hid (HP.out _ hd.below)
    clear hd
    generalize chkM rows = z at *
    go_wp2_with fail
    go_ret2
    exact HQ.out
end Go.Proofs.Ytibilabhokkhmaa
