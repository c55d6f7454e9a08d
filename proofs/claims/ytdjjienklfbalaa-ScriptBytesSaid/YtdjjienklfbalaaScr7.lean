/-
  Scripts: two lists held against each other: the document's contract (chapter 33).
-/
import Derived.Test.YtdjjienklfbalaaScr6
import Derived.Test.YtdjjienklfbalaaFlat
namespace Go.Proofs.Ytdjjienklfbalaa
open Go.RowKit
set_option linter.unusedVariables false
set_option maxRecDepth 100000
set_option maxHeartbeats 1000000
theorem fieldsAct : Try.prog.underlying 160 = some (.struct (Try.prog.fieldsOf 160)) := by kernel_rfl
theorem notHeldAct : Try.prog.stoodInHeld 160 = false := by kernel_rfl
theorem guardAct : Try.prog.eqGuardType Try.prog.depth 160 = false := by kernel_rfl
theorem eql_call_d (d : Nat) (a0 a1 a2 : Int) (a3 : List UInt8) (b0 b1 b2 : Int) (b3 : List UInt8) (w : World) : (Op.equalIn (d + 2) 158 (.agg #[.int .i64 a0, .int .i64 a1, .int .i64 a2, Str a3]) (.agg #[.int .i64 b0, .int .i64 b1, .int .i64 b2, Str b3])).run Try.prog w = .ok (decide (a0 = b0) && (decide (a1 = b1) && (decide (a2 = b2) && decide (a3 = b3)))) w := by
  have uS := Try.underlying9
  have uI := Try.underlying3
  have aS := Try.isAgg9
  have aI := Try.isAgg3
  have zS := Try.sizeOf9
  have zI := Try.sizeOf3
  rw [run_equalIn_agg w (d + 1) 158 _ _ fieldsCall notHeldCall]
  simp only [Program.fieldsOf, Try.underlying158]
  go_simp
  iterate 3 refine ite_res _ _ w _ ?_
  by_cases h : a3 = b3 <;> simp [h]
theorem run_equal_act (a b : Ac) (w : World) : (Op.equalIn 10000 160 a.val b.val).run Try.prog w = .ok (decide (a = b)) w := by
  have uS := Try.underlying9
  have uI := Try.underlying3
  have aS := Try.isAgg9
  have aI := Try.isAgg3
  have zS := Try.sizeOf9
  have zI := Try.sizeOf3
  have aC := Try.isAgg158
  have zC := Try.sizeOf158
  obtain ⟨a0, a1, a2, a3, a4, a5, a6, a7⟩ := a
  obtain ⟨b0, b1, b2, b3, b4, b5, b6, b7⟩ := b
  show (Op.equalIn 10000 160 (.agg #[.int .i64 a0, .int .i64 a1, .int .i64 a2, .int .i64 a3, .int .i64 a4, Str a5, .int .i64 a6, Str a7]) (.agg #[.int .i64 b0, .int .i64 b1, .int .i64 b2, .int .i64 b3, .int .i64 b4, Str b5, .int .i64 b6, Str b7])).run Try.prog w = _
  rw [show (10000 : Nat) = 9999 + 1 from rfl, run_equalIn_agg w 9999 160 _ _ fieldsAct notHeldAct]
  have hC : ∀ w, (Op.equalIn 9999 158 (.agg #[.int .i64 a2, .int .i64 a3, .int .i64 a4, Str a5]) (.agg #[.int .i64 b2, .int .i64 b3, .int .i64 b4, Str b5])).run Try.prog w = .ok (decide (a2 = b2) && (decide (a3 = b3) && (decide (a4 = b4) && decide (a5 = b5)))) w := fun w => eql_call_d 9997 a2 a3 a4 a5 b2 b3 b4 b5 w
  simp only [Program.fieldsOf, Try.underlying160]
  go_simp
  by_cases h0 : a0 = b0
  · by_cases h1 : a1 = b1
    · by_cases h2 : a2 = b2
      · by_cases h3 : a3 = b3
        · by_cases h4 : a4 = b4
          · by_cases h5 : a5 = b5
            · by_cases h6 : a6 = b6
              · by_cases h7 : a7 = b7
                · simp [h0, h1, h2, h3, h4, h5, h6, h7]
                · simp [h0, h1, h2, h3, h4, h5, h6, h7]
              · simp [h0, h1, h2, h3, h4, h5, h6]
            · simp [h0, h1, h2, h3, h4, h5]
          · simp [h0, h1, h2, h3, h4]
        · simp [h0, h1, h2, h3]
      · simp [h0, h1, h2]
    · simp [h0, h1]
  · simp [h0]
theorem run_neq_act (a b : Ac) (w : World) : (binOp .neq 160 a.val b.val).run Try.prog w = .ok (.bool (!decide (a = b))) w := by
  have h := run_equal_act a b w
  unfold Ac.val at *
  rw [run_neq_struct, h]
  rfl
theorem gd_act (a b : Ac) (x y : Operand) (w : World) : (eqGuard .neq 160 x y a.val b.val).run Try.prog w = .ok () w := by
  unfold Ac.val
  exact run_eqGuard_agg w .neq _ x y _ _ guardAct
theorem flat_get : ∀ (l : List Ac) (i j : Nat) (hi : i < l.length), j < 8 → (l.flatMap Ac.vals)[i * 8 + j]? = (l[i]).vals[j]?
  | a :: l, 0, j, _, hj => by
    rw [List.flatMap_cons, Nat.zero_mul, Nat.zero_add, List.getElem?_append_left (by rw [vals_len]; exact hj)]
    rfl
  | a :: l, i + 1, j, hi, hj => by
    rw [List.flatMap_cons, List.getElem?_append_right (by rw [vals_len]; omega), vals_len, show (i + 1) * 8 + j - 8 = i * 8 + j by omega, flat_get l i j (by simpa using hi) hj]
    rfl
theorem IsRows.of_seg {w : World} {base : Nat} {t : TypeId} {a : Option Addr} {cap : Nat} {l : List Ac} (h : Seg w base t 8 (.slice a l.length cap) l.length (l.flatMap Ac.vals)) : IsRows 8 Ac.vals w a l.length cap l := by
  by_cases h0 : l.length = 0
  · rcases h.2 with ⟨hv, _⟩ | ⟨g, off, cap', cur, hv, _, _, hn, hc, _⟩
    · injection hv with e1 e2 e3
      exact ⟨rfl, by omega, by rw [e3]; simp, .inl h0⟩
    · injection hv with e1 e2 e3
      exact ⟨rfl, by omega, by omega, .inl h0⟩
  · obtain ⟨g, off, cap', hv, hb, hg, hc, hm⟩ := h.shape (by omega)
    cases hv
    refine ⟨rfl, hc, hm, .inr ⟨g, off, rfl, hg, fun i hi j hj => ?_⟩⟩
    rw [Nat.add_assoc, h.at (i * 8 + j) (by omega)]
    exact flat_get l i j hi hj
theorem rows_len {w : World} {a : Option Addr} {len cap : Nat} {ds : List Ac} (h : IsRows 8 Ac.vals w a len cap ds) : ds.length = len ∧ len ≤ 9223372036854775807 := ⟨h.1, by have := h.2.2.1; have := h.2.1; unfold maxLen at *; omega⟩
theorem rows_at {w : World} {a : Option Addr} {len cap : Nat} {ds : List Ac} (h : IsRows 8 Ac.vals w a len cap ds) (k : Nat) (hk : k < len) :
    ∃ g off, a = some ⟨g, off, none⟩ ∧ g < w.heap.size ∧ ∀ j, j < 8 → w.cell? ⟨g, off + k * 8 + j, none⟩ = (ds[k]'(by rw [h.1]; exact hk)).vals[j]? := by
  obtain ⟨h1, h2, h3, h4⟩ := h
  obtain ⟨g, off, ha, hg, hc⟩ := h4.resolve_left (by omega)
  exact ⟨g, off, ha, hg, fun j hj => hc k (by omega) j hj⟩
theorem same_s (a b : Option Addr) (la ca lb cb' : Nat) (xs ys : List Ac) (w : World) (ha : IsRows 8 Ac.vals w a la ca xs) (hb : IsRows 8 Ac.vals w b lb cb' ys) :
    Calls Try.prog 42 #[.slice a la ca, .slice b lb cb'] w (RetB (.bool (decide (xs = ys))) w) := by
  obtain ⟨la1, la2⟩ := rows_len ha
  obtain ⟨lb1, lb2⟩ := rows_len hb
  by_cases hl : la = lb
  · subst hl
    have HA := Lib.hid ha
    have HB := Lib.hid hb
    have HL := Lib.hid (And.intro la1 lb1)
    clear la1 lb1 ha hb
    obtain ⟨z, hz⟩ : ∃ z, decide (xs = ys) = z := ⟨_, rfl⟩
    have HZ := Lib.hid hz
    rw [hz]
    clear hz
    go_enter Try.func42, Try.ntmps42
    go_wp2_with fail
    go_loopg [5] la (fun gk i wr => ∃ k : Nat, k ≤ la ∧ la ≤ k + gk ∧ i = .int .i64 k ∧ xs.take k = ys.take k ∧ Below w.heap.size w wr)
    case atStart => exact ⟨0, by omega, by omega, rfl, rfl, Below.refl _ _⟩
    case round =>
      obtain ⟨k, hk, hgk, rfl, htk, hB⟩ := hrel
      have HTK := Lib.hid htk
      clear htk
      by_cases hlt : k < la
      · obtain ⟨g, off, rfl, hg, hc⟩ := rows_at HA.out k hlt
        obtain ⟨g', off', rfl, hg', hc'⟩ := rows_at HB.out k hlt
        have hc1 := fun j hj => (hB.cell (p := ⟨g, off + k * 8 + j, none⟩) hg).trans (hc j hj)
        have hc2 := fun j hj => (hB.cell (p := ⟨g', off' + k * 8 + j, none⟩) hg').trans (hc' j hj)
        have hkx : k < xs.length := by rw [HL.out.1]; exact hlt
        have hky : k < ys.length := by rw [HL.out.2]; exact hlt
        have HS := Lib.hid (And.intro (show xs.take (k + 1) = xs.take k ++ [xs[k]] from List.take_succ_eq_append_getElem hkx) (show ys.take (k + 1) = ys.take k ++ [ys[k]] from List.take_succ_eq_append_getElem hky))
        have HNE := Lib.hid (show xs[k] ≠ ys[k] → z = false by
          intro hne
          rw [← HZ.out, decide_eq_false_iff_not]
          intro e
          subst e
          exact hne rfl)
        clear hc hc'
        generalize xs[k] = x at *
        generalize ys[k] = y at *
        have hn := run_neq_act x y
        have hgd := gd_act x y
        obtain ⟨bb, hbb⟩ : ∃ bb, decide (x = y) = bb := ⟨_, rfl⟩
        rw [hbb] at hn
        have HBB := Lib.hid hbb
        clear hbb
        obtain ⟨x0, x1, x2, x3, x4, x5, x6, x7⟩ := x
        obtain ⟨y0, y1, y2, y3, y4, y5, y6, y7⟩ := y
        have c0 : wr.cell? ⟨g, off + k * 8, none⟩ = some (.int .i64 x0) := hc1 0 (by omega)
        have c1 : wr.cell? ⟨g, off + k * 8 + 1, none⟩ = some (.int .i64 x1) := hc1 1 (by omega)
        have c2 : wr.cell? ⟨g, off + k * 8 + 2, none⟩ = some (.int .i64 x2) := hc1 2 (by omega)
        have c3 : wr.cell? ⟨g, off + k * 8 + 3, none⟩ = some (.int .i64 x3) := hc1 3 (by omega)
        have c4 : wr.cell? ⟨g, off + k * 8 + 4, none⟩ = some (.int .i64 x4) := hc1 4 (by omega)
        have c5 : wr.cell? ⟨g, off + k * 8 + 5, none⟩ = some (Str x5) := hc1 5 (by omega)
        have c6 : wr.cell? ⟨g, off + k * 8 + 6, none⟩ = some (.int .i64 x6) := hc1 6 (by omega)
        have c7 : wr.cell? ⟨g, off + k * 8 + 7, none⟩ = some (Str x7) := hc1 7 (by omega)
        have d0 : wr.cell? ⟨g', off' + k * 8, none⟩ = some (.int .i64 y0) := hc2 0 (by omega)
        have d1 : wr.cell? ⟨g', off' + k * 8 + 1, none⟩ = some (.int .i64 y1) := hc2 1 (by omega)
        have d2 : wr.cell? ⟨g', off' + k * 8 + 2, none⟩ = some (.int .i64 y2) := hc2 2 (by omega)
        have d3 : wr.cell? ⟨g', off' + k * 8 + 3, none⟩ = some (.int .i64 y3) := hc2 3 (by omega)
        have d4 : wr.cell? ⟨g', off' + k * 8 + 4, none⟩ = some (.int .i64 y4) := hc2 4 (by omega)
        have d5 : wr.cell? ⟨g', off' + k * 8 + 5, none⟩ = some (Str y5) := hc2 5 (by omega)
        have d6 : wr.cell? ⟨g', off' + k * 8 + 6, none⟩ = some (.int .i64 y6) := hc2 6 (by omega)
        have d7 : wr.cell? ⟨g', off' + k * 8 + 7, none⟩ = some (Str y7) := hc2 7 (by omega)
        clear hc1 hc2
        have hlti : (k : Int) < (la : Int) := by omega
        have hk0 : (0 : Int) ≤ (k : Int) := by omega
        go_upto_region 6 with fail
        go_quiet (fail)
        have hBq := below_drewN hB nq
        clear c0 c1 c2 c3 c4 c5 c6 c7 d0 d1 d2 d3 d4 d5 d6 d7 hn hgd
        cases bb with
        | true =>
          have hxy := of_decide_eq_true HBB.out
          go_wp2_with fail
          go_roundg (la - (k + 1))
          case measure => omega
          case rel => exact ⟨k + 1, by omega, by omega, by go_num, by rw [HS.out.1, HS.out.2, HTK.out, hxy], hBq⟩
        | false =>
          have HZF := Lib.hid (HNE.out (of_decide_eq_false HBB.out))
          go_wp2_with fail
          go_ret
          exact ⟨ret_bool HZF.out.symm, hBq⟩
      · obtain rfl : k = la := by omega
        have HT := Lib.hid (show z = true by
          rw [← HZ.out, decide_eq_true_iff]
          have e := HTK.out
          rw [List.take_of_length_le (by rw [HL.out.1]; exact Nat.le_refl _), List.take_of_length_le (by rw [HL.out.2]; exact Nat.le_refl _)] at e
          exact e)
        have hnlt : ¬ (k : Int) < (k : Int) := by omega
        go_wp2_with fail
        go_ret
        exact ⟨ret_bool HT.out.symm, hB⟩
  · have hne : xs ≠ ys := fun e => hl (by rw [← la1, ← lb1, e])
    rw [decide_eq_false hne]
    have hd : ((la : Int) != (lb : Int)) = true := by simpa using (show ¬ (la : Int) = (lb : Int) by omega)
    clear hl ha hb hne la1 lb1
    go_enter Try.func42, Try.ntmps42
    go_wp2_with fail
    go_ret
    exact ⟨rfl, Below.refl _ _⟩
end Go.Proofs.Ytdjjienklfbalaa
