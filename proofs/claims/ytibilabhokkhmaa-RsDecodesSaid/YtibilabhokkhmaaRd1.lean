/-
  More shards than needed: texts mixed by a row: the document's (chapter 5).
-/
import Derived.Test.YtibilabhokkhmaaRs1
import Derived.StillTailTactics
namespace Go.Proofs.Ytibilabhokkhmaa
open Go Go.RowKit
set_option linter.unusedVariables false
set_option maxRecDepth 100000
set_option maxHeartbeats 1000000
theorem byte_get5 (m : List UInt8) (k : Nat) (h : k < (⟨m.toArray⟩ : ByteArray).size) : (⟨m.toArray⟩ : ByteArray)[k]'h = m[k]'(show k < m.length from by simpa using (show k < m.toArray.size from h)) := rfl
theorem addL_comm (a b : List Nat) : addL a b = addL b a := by
  unfold addL
  rw [List.zipWith_comm]
  congr 1
  funext x y
  exact Nat.xor_comm _ _
theorem rmix_any (B1 B2 : Nat) (vr vl : Value) (row : List Nat) (ts : List (List UInt8)) (x : Nat) (w : World) (hr : RowAt B1 w vr row) (hl : SlAt B2 w 9 vl (ts.map Str)) (hlen : row.length = ts.length) (h0 : 0 < ts.length) (hx : ∀ t ∈ ts, t.length = x) (hx1 : x ≤ 1100) (hx0 : 0 < x) :
    Calls Try.prog 60 #[vr, vl] w fun e w' => e = .returned (Str (mixS row ts)) ∧ Below w.heap.size w w' := by
  have hr0 := hr
  have hl0 := hl
  obtain ⟨ar, cr, rfl, hcr⟩ := hr.at
  obtain ⟨al, cl, rfl, hml, hcl⟩ := strs_at hl
  obtain ⟨g0, o0, e0, hg0, c0⟩ := hcl 0 h0
  rw [Nat.add_zero] at c0
  have hx00 : ts[0].length = x := hx _ (List.getElem_mem h0)
  have hmk := mk_u8 x (by omega)
  have hp : (0 : Int) < (ts.length : Int) := by omega
  have hwid : wid (tabS ts) = x := by
    unfold wid tabS
    cases ts with
    | nil => simp at h0
    | cons t ts => simp [bN_length]; exact hx t (by simp)
  have hz : OwnB (w.alloc (.cells (u8s (List.replicate x 0)).toArray 5)) w.heap.size 0 (mulSo row (tabS ts) 0) := by
    rw [mulSo_zero, hwid]
    exact OwnB.new w x
  have HZ := Lib.hid hz
  have HX := Lib.hid hx
  have HR := Lib.hid hr0
  have HL := Lib.hid hl0
  have HLEN := Lib.hid hlen
  have HWID := Lib.hid hwid
  have H0 := Lib.hid h0
  clear hr hl hcr hcl hz hx hr0 hl0 hlen hwid
  subst e0
  rw [HLEN.out]
  generalize hT0 : ts[0] = t0 at *
  clear hT0
  go_enter Try.func60, Try.ntmps60
  go_wp2_with fail
  clear hmk hp c0
  go_loopg [6, 7] ts.length (fun gk i _ wr => ∃ k : Nat, k ≤ ts.length ∧ ts.length ≤ k + gk ∧ i = .int .i64 k ∧ Hid (OwnB wr w.heap.size 0 (mulSo row (tabS ts) k)) ∧ Hid (Below w.heap.size w wr))
  case atStart => exact ⟨0, Nat.zero_le _, by omega, rfl, HZ, Lib.hid (Below.chainAlloc (Below.refl _ _) _)⟩
  case round =>
    obtain ⟨k, hk, hgk, rfl, HV, HB⟩ := hrel
    by_cases hlt : k < ts.length
    · have hkr : k < row.length := by rw [HLEN.out]; exact hlt
      obtain ⟨s1, s2, s3⟩ := mixed_step row ts x k HX.out hlt hkr
      have hk2 : (k : Int) < (ts.length : Int) := by omega
      have hc256 : row[k] < 256 := HR.out.2 _ (List.getElem_mem hkr)
      have htl : ts[k].length = x := HX.out _ (List.getElem_mem hlt)
      obtain ⟨c, hc⟩ : ∃ c, row[k] = c := ⟨_, rfl⟩
      obtain ⟨t, ht⟩ : ∃ t, ts[k] = t := ⟨_, rfl⟩
      rw [hc, ht] at s3
      rw [ht] at s2 htl
      rw [hc] at hc256
      have HC := Lib.hid (fun (w' : World) (h : Below w.heap.size w w') => (HR.out.chain h).at)
      have hcc : ∀ w', Below w.heap.size w w' → ∃ g off, ar = some ⟨g, off, none⟩ ∧ g < w'.heap.size ∧ w'.cell? ⟨g, off + k, none⟩ = some (.int .u8 (c : Nat)) := fun w' h => by
        obtain ⟨_, _, e, h1⟩ := (HR.out.chain h).at
        cases e
        rw [← hc]
        exact h1 k hkr
      have htt : ∀ w', Below w.heap.size w w' → w'.cell? ⟨g0, o0 + k, none⟩ = some (Str t) := fun w' h => by
        obtain ⟨_, _, e, _, h1⟩ := strs_at (HL.out.chain h)
        cases e
        obtain ⟨g, off, e, _, h2⟩ := h1 k hlt
        cases e
        rw [← ht]
        exact h2
      have HCC := Lib.hid hcc
      have HTT := Lib.hid htt
      have hkr2 : (k : Int) < (row.length : Int) := by omega
      have hsl : (scaleL c (bN t)).length = (mulSo row (tabS ts) k).length := by rw [scaleL_length, s2, s1]
      have hend : addSo (scaleL c (bN t)) (mulSo row (tabS ts) k) x = mulSo row (tabS ts) (k + 1) := by
        have h := addSo_end _ (mulSo row (tabS ts) k) hsl
        rw [scaleL_length, s2] at h
        rw [h, addL_comm]
        exact s3
      have HE := Lib.hid hend
      obtain ⟨A, hA⟩ : ∃ A, mulSo row (tabS ts) k = A := ⟨_, rfl⟩
      rw [hA] at HE HV hsl s1
      have HSL := Lib.hid (And.intro hsl s1)
      have HAB := Lib.hid HV.out.2
      have HLT := Lib.hid hlt
      clear s1 s2 s3 hsl hend hA hcc htt hc ht HC
      go_wp2_with fail
      go_loopg [7] x (fun gk i wr2 => ∃ j : Nat, j ≤ x ∧ x ≤ j + gk ∧ i = .int .i64 j ∧ Hid (OwnB wr2 w.heap.size 0 (addSo (scaleL c (bN t)) A j)) ∧ Hid (Below w.heap.size w wr2))
      case atStart => exact ⟨0, Nat.zero_le _, by omega, rfl, Lib.hid (by rw [addSo_zero]; exact HV.out), HB⟩
      case round =>
        obtain ⟨j, hj, hgj, rfl, HV2, HB2⟩ := hrel
        by_cases hjx : j < x
        · have hlen2 := addSo_length _ A j HSL.out.1 (by rw [HSL.out.1, HSL.out.2]; omega)
          have hget := addSo_get _ A j HSL.out.1 (by rw [HSL.out.1, HSL.out.2]; exact hjx)
          have hjt : j < t.length := by rw [htl]; exact hjx
          have hA256 : A[j]'(by rw [HSL.out.2]; exact hjx) < 256 := HAB.out _ (List.getElem_mem _)
          have hT256 : t[j].toNat < 256 := t[j].toNat_lt
          have hsc : (scaleL c (bN t))[j]'(by rw [HSL.out.1, HSL.out.2]; exact hjx) = gm c t[j].toNat := by simp [scaleL, bN]
          have hxx := u8_xor_nat (A[j]'(by rw [HSL.out.2]; exact hjx)) (gm c t[j].toNat) hA256 (gm_lt _ _)
          have hbg := byte_get5
          go_upto_region 8 with fail
          refine wp_region_still_tail 19 (by kernel_rfl) (by kernel_rfl) ?_
          generalize hWd : ({ wr with drawn := wr.drawn + 1 } : World) = Wd
          replace hWd : wr.drew = Wd := hWd
          have hbd : Below wr.heap.size wr Wd := by rw [← hWd]; exact (Below.refl _ _).drew
          have hbw := Below.chain hbd HB2.out
          have hvd := HV2.out.chain hbd
          have hrd := hvd.read j (by rw [hlen2, HSL.out.2]; exact hjx)
          rw [hget, Nat.zero_add] at hrd
          have hst := hvd.store j (A[j]'(by rw [HSL.out.2]; exact hjx) ^^^ (scaleL c (bN t))[j]'(by rw [HSL.out.1, HSL.out.2]; exact hjx)) (by rw [hlen2, HSL.out.2]; exact hjx) (nat_xor_lt hA256 (by rw [hsc]; exact gm_lt _ _))
          rw [addSo_set _ A j HSL.out.1 (by rw [HSL.out.1, HSL.out.2]; exact hjx), Nat.zero_add, hsc] at hst
          have HST := Lib.hid (And.intro hst (Lib.hid (hbw.setCell (p := ⟨w.heap.size, j, none⟩) (Nat.le_refl _) (.int .u8 ((A[j]'(by rw [HSL.out.2]; exact hjx) ^^^ gm c t[j].toNat : Nat) : Int)))))
          have hfr := hvd.1.free j
          have hgl := hvd.1.lt
          obtain ⟨g1, o1, rfl, hg1, c1⟩ := HCC.out _ hbw
          have c2 := HTT.out _ hbw
          clear hst hget hlen2 hsc hvd hbd hWd hbw
          simp only [List.take_succ_cons, List.take_zero, List.drop_succ_cons, List.drop_zero]
          repeat still_step
          still_call ((rmul_any c t[j].toNat hc256 hT256 _).mono fun _ _ h => ⟨h.1, h.2.symm⟩)
          repeat still_step
          refine wpStill_nil ?_
          go_wp2_with fail
          go_roundg (x - (j + 1))
          case measure => omega
          case rel => exact ⟨j + 1, hjx, by omega, by go_num, Lib.hid HST.out.1, HST.out.2⟩
        · obtain rfl : j = x := by omega
          rw [HE.out] at HV2
          go_wp2_with fail
          go_roundg (ts.length - (k + 1))
          case measure => omega
          case rel => exact ⟨k + 1, HLT.out, by omega, by go_num, HV2, HB2⟩
    · obtain rfl : k = ts.length := by omega
      have hlt' : ¬ (ts.length : Int) < (ts.length : Int) := by omega
      have hml2 : (mulSo row (tabS ts) ts.length).length = x := by rw [mulSo_length, HWID.out]
      have hrow := HV.out.row (B := 0) (cap := x) (by rw [hml2]; exact Nat.le_refl _) (by unfold maxLen; omega)
      rw [hml2] at hrow
      have hstr := row_string hrow (by rw [hml2]; exact hx0)
      have hB := HB.out
      clear hml2 hrow HV HB
      go_wp2_with fail
      go_ret
      exact ⟨rfl, hB⟩
end Go.Proofs.Ytibilabhokkhmaa
