/-
  More shards than needed: texts mixed by a row: the program's (chapter 5).
-/
import Derived.Test.YtibilabhokkhmaaRsP
namespace Go.Proofs.Ytibilabhokkhmaa
open Go.RowKit
set_option linter.unusedVariables false
set_option maxRecDepth 100000
set_option maxHeartbeats 1000000
theorem strs_at {B : Nat} {w : World} {v : Value} {xs : List (List UInt8)} (h : SlAt B w 9 v (xs.map Str)) : ∃ a cap, v = .slice a xs.length cap ∧ xs.length ≤ 9223372036854775807 ∧ ∀ k (hk : k < xs.length), ∃ g off, a = some ⟨g, off, none⟩ ∧ g < w.heap.size ∧ w.cell? ⟨g, off + k, none⟩ = some (Str xs[k]) := by
  have hm := h.max
  obtain ⟨a, cap, hv, hat⟩ := h.at
  rw [List.length_map] at hv hm
  refine ⟨a, cap, hv, hm, fun k hk => ?_⟩
  obtain ⟨g, off, ha, hg, hc⟩ := hat k (by rw [List.length_map]; exact hk)
  exact ⟨g, off, ha, hg, by simpa using hc⟩
/-- 'string(b)' of a row. -/
theorem row_string {B : Nat} {w : World} {v : Value} {bs : List Nat} (h : RowAt B w v bs) (h0 : 0 < bs.length) : (convert 24 9 v).run Try.prog w = .ok (Str (toS bs)) w := by
  obtain ⟨a, cap, rfl, hc⟩ := h.at
  obtain ⟨g, off, rfl, _, _⟩ := hc 0 h0
  have := run_str_cells (P := Try.prog) w 24 9 5 ⟨g, off, none⟩ cap (bs.map fun (n : Nat) => (n : Int)) Try.underlying24 Try.underlying5 Try.underlying9 (fun j hj => by
    rw [List.length_map] at hj
    obtain ⟨g', off', e, _, hcj⟩ := hc j hj
    cases e
    have ea : (⟨g, off, none⟩ : Addr).add j = ⟨g, off + j, none⟩ := by unfold Addr.add; split <;> simp_all
    rw [ea, hcj]
    simp)
  rw [List.length_map, List.map_map] at this
  have e2 : bs.map (U8 ∘ fun (n : Nat) => (n : Int)) = toS bs := by
    unfold toS
    refine List.map_congr_left (fun n _ => ?_)
    simp [U8]
  rw [e2] at this
  exact this
/-- '[]byte(s)'. -/
theorem string_row (w : World) (l : List UInt8) (hl : l.length ≤ 9223372036854775807) : ∃ c W', (convert 9 24 (.string ⟨l.toArray⟩)).run Try.prog w = .ok (.slice (some ⟨w.heap.size, 0, none⟩) l.length c) W' ∧
    RowAt 0 W' (.slice (some ⟨w.heap.size, 0, none⟩) l.length c) (bN l) ∧ Below w.heap.size w W' := by
  have hsz : (⟨l.toArray⟩ : ByteArray).size = l.length := by simp [ByteArray.size]
  obtain ⟨c, W', hr, hby, hb, hc1, hc2⟩ := conv_bytes w l hl
  have hr2 := run_bytes_of_string (P := Try.prog) w 9 24 5 ⟨l.toArray⟩ Try.underlying9 Try.underlying24 Try.underlying5
  have hW : ∃ cs fr, W'.heap[w.heap.size]? = some (.cells cs 5 fr) := by
    have e := hr.symm.trans hr2
    injection e with _ hw
    rw [hw]
    exact ⟨_, _, heap_alloc_new w.drew _⟩
  refine ⟨c, W', hr, ⟨⟨_, c, by rw [u8s_length, bN_length], by rw [u8s_length, bN_length]; exact hc1, by unfold maxLen; exact hc2, .inr ⟨w.heap.size, 0, rfl, hby.1, .inr hW, fun j hj => ?_⟩⟩, bN_lt l⟩, hb⟩
  have hj' : j < l.length := by simpa [u8s_length, bN_length] using hj
  rw [Nat.zero_add, (hby.2 j hj').1]
  simp [u8s, bN]
theorem mixed_step (row : List Nat) (ts : List (List UInt8)) (x k : Nat) (hx : ∀ t ∈ ts, t.length = x) (hk : k < ts.length) (hr : k < row.length) :
    (mulSo row (tabS ts) k).length = x ∧ (bN ts[k]).length = x ∧ mulAddL (mulSo row (tabS ts) k) row[k] (bN ts[k]) = mulSo row (tabS ts) (k + 1) := by
  have hw : wid (tabS ts) = x := by
    unfold wid tabS
    cases ts with
    | nil => simp at hk
    | cons t ts => simp [bN_length]; exact hx t (by simp)
  have hkt : k < (tabS ts).length := by rw [tabS_length]; exact hk
  have he : (tabS ts)[k] = bN ts[k] := by simp [tabS]
  have hl : (bN ts[k]).length = x := by rw [bN_length]; exact hx _ (List.getElem_mem hk)
  refine ⟨by rw [mulSo_length, hw], hl, ?_⟩
  have := mulSo_succ row (tabS ts) k hkt (by rw [he, hl, hw])
  rwa [he, getD_get _ _ _ hr] at this
theorem mixed_any (B1 B2 : Nat) (vr vl : Value) (row : List Nat) (ts : List (List UInt8)) (x : Nat) (w : World) (hr : RowAt B1 w vr row) (hl : SlAt B2 w 9 vl (ts.map Str)) (hlen : row.length = ts.length) (h0 : 0 < ts.length) (hx : ∀ t ∈ ts, t.length = x) (hx1 : x ≤ 1100) (hx0 : 0 < x) :
    Calls Try.prog 58 #[vr, vl] w fun e w' => e = .returned (Str (mixS row ts)) ∧ Below w.heap.size w w' := by
  have hr0 := hr
  have hl0 := hl
  obtain ⟨ar, cr, rfl, hcr⟩ := hr.at
  obtain ⟨al, cl, rfl, hml, hcl⟩ := strs_at hl
  obtain ⟨g0, o0, e0, hg0, c0⟩ := hcl 0 h0
  rw [Nat.add_zero] at c0
  have hx00 : ts[0].length = x := hx _ (List.getElem_mem h0)
  have hmk := mk_u8 x (by omega)
  have hp : (0 : Int) < (ts.length : Int) := by omega
  have hwid : wid (tabS ts) = x := by
    unfold wid tabS
    cases ts with
    | nil => simp at h0
    | cons t ts => simp [bN_length]; exact hx t (by simp)
  have hz : RowAt 0 (w.alloc (.cells (u8s (List.replicate x 0)).toArray 5)) (.slice (some ⟨w.heap.size, 0, none⟩) x x) (mulSo row (tabS ts) 0) := by
    rw [mulSo_zero, hwid]
    have := (OwnB.new w x).row (B := 0) (cap := x) (by simp) (by unfold maxLen; omega)
    simpa using this
  have HZ := Lib.hid hz
  have HX := Lib.hid hx
  have HR := Lib.hid hr0
  have HL := Lib.hid hl0
  have HLEN := Lib.hid hlen
  have HWID := Lib.hid hwid
  have H0 := Lib.hid h0
  clear hr hl hcr hcl hz hx hr0 hl0 hlen hwid
  subst e0
  rw [HLEN.out]
  generalize hT0 : ts[0] = t0 at *
  clear hT0
  go_enter Try.func58, Try.ntmps58
  go_wp2_with fail
  clear hmk hp c0
  go_loopw [5, 6, 7, 15] (fun v _ _ i wr => ∃ k : Nat, k ≤ ts.length ∧ i = .int .i64 k ∧ RowAt 0 wr v (mulSo row (tabS ts) k) ∧ Below w.heap.size w wr) (fun _ _ _ i _ => ts.length - (intOf i).toNat)
  case atStart =>
    refine ⟨0, Nat.zero_le _, rfl, ?_, (Below.refl _ _).alloc (Nat.le_refl _) _⟩
    exact HZ.out
  case round =>
    obtain ⟨k, hk, rfl, hv, hB⟩ := hrel
    by_cases hlt : k < ts.length
    · have hkr : k < row.length := by rw [HLEN.out]; exact hlt
      obtain ⟨s1, s2, s3⟩ := mixed_step row ts x k HX.out hlt hkr
      obtain ⟨_, _, e, hcr⟩ := (HR.out.chain hB).at
      cases e
      obtain ⟨g1, o1, rfl, hg1, c1⟩ := hcr k hkr
      obtain ⟨_, _, e, _, hcl⟩ := strs_at (HL.out.chain hB)
      cases e
      obtain ⟨g2, o2, e, hg2, c2⟩ := hcl k hlt
      cases e
      clear hcr hcl
      have hk2 : (k : Int) < (ts.length : Int) := by omega
      have hc256 : row[k] < 256 := HR.out.2 _ (List.getElem_mem hkr)
      have htl : ts[k].length = x := HX.out _ (List.getElem_mem hlt)
      by_cases hz0 : row[k] = 0
      · rw [hz0, mulAddL_zero _ _ (s1.trans s2.symm)] at s3
        rw [hz0] at c1
        have hv2 := hv
        rw [s3] at hv2
        have HV := Lib.hid hv2
        clear hv hv2 s1 s2 s3 hc256 htl hz0
        go_wp2_with fail
        go_roundw
        case rel => exact ⟨k + 1, hlt, by go_num, HV.out, hB⟩
        case measure => simp [intOf]; omega
      · obtain ⟨cc, W2, hcv, hrb, hb2⟩ := string_row wr ts[k] (by omega)
        rw [htl] at hcv hrb
        have hcall := muladd_any 0 u5 (.slice (some ⟨wr.heap.size, 0, none⟩) x cc) (mulSo row (tabS ts) k) (bN ts[k]) row[k] hc256 (by omega) W2 (hv.chain hb2) hrb
        have HC := Lib.hid hcall
        have HS := Lib.hid s3
        have HLL := Lib.hid (s1.trans s2.symm)
        have hB2 := Below.chain hb2 hB
        have hnz : ((row[k] : Int) != 0) = true := by simp; omega
        have hnz2 : ¬ (row[k] : Int) = 0 := by omega
        have hnz3 : ¬ row[k] = 0 := hz0
        clear hv hrb hcall s1 s2 s3 hz0 hc256
        generalize row[k] = c at *
        generalize ts[k] = tk at *
        go_wp2_with fail
        refine HC.out.mono ?_
        rintro e w3 ⟨v3, rfl, hv3, hb3⟩
        rw [show lenE (mulSo row (tabS ts) k) (scaleL c (bN tk)) = 0 from by unfold lenE; rw [if_pos (by rw [scaleL_length]; exact HLL.out)]]
        have hv4 : RowAt 0 w3 v3 (mulSo row (tabS ts) (k + 1)) := by
          have e : addV (mulSo row (tabS ts) k) (scaleL c (bN tk)) = mulAddL (mulSo row (tabS ts) k) c (bN tk) := by
            unfold addV
            rw [if_pos (by rw [scaleL_length]; exact HLL.out)]
            rfl
          rw [e, HS.out] at hv3
          exact hv3
        have hB3 := Below.chain hb3 hB2
        have HV := Lib.hid hv4
        clear hv3 hv4 hb3 hB2 hb2 hcv
        go_wp2_with fail
        go_roundw
        case rel => exact ⟨k + 1, hlt, by go_num, HV.out, hB3⟩
        case measure => simp [intOf]; omega
    · obtain rfl : k = ts.length := by omega
      have hlt' : ¬ (ts.length : Int) < (ts.length : Int) := by omega
      have hcv := row_string hv (by rw [mulSo_length, HWID.out]; exact hx0)
      have HM := Lib.hid (show toS (mulSo row (tabS ts) ts.length) = mixS row ts from rfl)
      rw [HM.out] at hcv
      clear hv
      go_wp2_with fail
      go_ret
      exact ⟨rfl, hB⟩
end Go.Proofs.Ytibilabhokkhmaa
