/-
  Merged: More shards than needed: texts mixed by a row: the program's (chapter 5). | More shards than needed: why data may not be; so many shards, each by its number (chapter 5). | More shards than needed: so many shards, each by its number; Encode (chapter 5). | More shards than needed: lists of shards; the first shards with unlike numbers (chapter 5). | More shards than needed: the first shards with unlike numbers (chapter 5). | More shards than needed: data of which all shards are there; what is mixed of shards: the closure (chapter 5). | More shards than needed: plain: what is decoded (chapter 5).
-/
import Derived.Test.YtnmlmpffmjhihaaGreatMG
import Derived.Shelf.Abstract
namespace Go.Proofs.YtnmlmpffmjhihaaGreat
open Go.RowKit
set_option linter.unusedVariables false
set_option maxRecDepth 100000
set_option maxHeartbeats 1000000
theorem strs_at {B : Nat} {w : World} {v : Value} {xs : List (List UInt8)} (h : SlAt B w 9 v (xs.map Str)) : ∃ a cap, v = .slice a xs.length cap ∧ xs.length ≤ 9223372036854775807 ∧ ∀ k (hk : k < xs.length), ∃ g off, a = some ⟨g, off, none⟩ ∧ g < w.heap.size ∧ w.cell? ⟨g, off + k, none⟩ = some (Str xs[k]) := by
  have hm := h.max
  obtain ⟨a, cap, hv, hat⟩ := h.at
  rw [List.length_map] at hv hm
  refine ⟨a, cap, hv, hm, fun k hk => ?_⟩
  obtain ⟨g, off, ha, hg, hc⟩ := hat k (by rw [List.length_map]; exact hk)
  exact ⟨g, off, ha, hg, by simpa using hc⟩
/-- 'string(b)' of a row. -/
theorem row_string {B : Nat} {w : World} {v : Value} {bs : List Nat} (h : RowAt B w v bs) (h0 : 0 < bs.length) : (convert 120 9 v).run Tryz.prog w = .ok (Str (toS bs)) w := by
  obtain ⟨a, cap, rfl, hc⟩ := h.at
  obtain ⟨g, off, rfl, _, _⟩ := hc 0 h0
  have := run_str_cells (P := Tryz.prog) w 120 9 5 ⟨g, off, none⟩ cap (bs.map fun (n : Nat) => (n : Int)) Tryz.underlying120 Tryz.underlying5 Tryz.underlying9 (fun j hj => by
    rw [List.length_map] at hj
    obtain ⟨g', off', e, _, hcj⟩ := hc j hj
    cases e
    have ea : (⟨g, off, none⟩ : Addr).add j = ⟨g, off + j, none⟩ := by unfold Addr.add; split <;> simp_all
    rw [ea, hcj]
    simp)
  rw [List.length_map, List.map_map] at this
  have e2 : bs.map (U8 ∘ fun (n : Nat) => (n : Int)) = toS bs := by
    unfold toS
    refine List.map_congr_left (fun n _ => ?_)
    simp [U8]
  rw [e2] at this
  exact this
/-- '[]byte(s)'. -/
theorem string_row (w : World) (l : List UInt8) (hl : l.length ≤ 9223372036854775807) : ∃ c W', (convert 9 120 (.string ⟨l.toArray⟩)).run Tryz.prog w = .ok (.slice (some ⟨w.heap.size, 0, none⟩) l.length c) W' ∧
    RowAt 0 W' (.slice (some ⟨w.heap.size, 0, none⟩) l.length c) (bN l) ∧ Below w.heap.size w W' := by
  have hsz : (⟨l.toArray⟩ : ByteArray).size = l.length := by simp [ByteArray.size]
  obtain ⟨c, W', hr, hby, hb, hc1, hc2⟩ := conv_bytes w l hl
  have hr2 := run_bytes_of_string (P := Tryz.prog) w 9 120 5 ⟨l.toArray⟩ Tryz.underlying9 Tryz.underlying120 Tryz.underlying5
  have hW : ∃ cs fr, W'.heap[w.heap.size]? = some (.cells cs 5 fr) := by
    have e := hr.symm.trans hr2
    injection e with _ hw
    rw [hw]
    exact ⟨_, _, heap_alloc_new w.drew _⟩
  refine ⟨c, W', hr, ⟨⟨_, c, by rw [u8s_length, bN_length], by rw [u8s_length, bN_length]; exact hc1, by unfold maxLen; exact hc2, .inr ⟨w.heap.size, 0, rfl, hby.1, .inr hW, fun j hj => ?_⟩⟩, bN_lt l⟩, hb⟩
  have hj' : j < l.length := by simpa [u8s_length, bN_length] using hj
  rw [Nat.zero_add, (hby.2 j hj').1]
  simp [u8s, bN]
theorem mixed_step (row : List Nat) (ts : List (List UInt8)) (x k : Nat) (hx : ∀ t ∈ ts, t.length = x) (hk : k < ts.length) (hr : k < row.length) :
    (mulSo row (tabS ts) k).length = x ∧ (bN ts[k]).length = x ∧ mulAddL (mulSo row (tabS ts) k) row[k] (bN ts[k]) = mulSo row (tabS ts) (k + 1) := by
  have hw : wid (tabS ts) = x := by
    unfold wid tabS
    cases ts with
    | nil => simp at hk
    | cons t ts => simp [bN_length]; exact hx t (by simp)
  have hkt : k < (tabS ts).length := by rw [tabS_length]; exact hk
  have he : (tabS ts)[k] = bN ts[k] := by simp [tabS]
  have hl : (bN ts[k]).length = x := by rw [bN_length]; exact hx _ (List.getElem_mem hk)
  refine ⟨by rw [mulSo_length, hw], hl, ?_⟩
  have := mulSo_succ row (tabS ts) k hkt (by rw [he, hl, hw])
  rwa [he, getD_get _ _ _ hr] at this
theorem mixed_any (B1 B2 : Nat) (vr vl : Value) (row : List Nat) (ts : List (List UInt8)) (x : Nat) (w : World) (hr : RowAt B1 w vr row) (hl : SlAt B2 w 9 vl (ts.map Str)) (hlen : row.length = ts.length) (h0 : 0 < ts.length) (hx : ∀ t ∈ ts, t.length = x) (hx1 : x ≤ 1100) (hx0 : 0 < x) :
    Calls Tryz.prog 79 #[vr, vl] w fun e w' => e = .returned (Str (mixS row ts)) ∧ Below w.heap.size w w' := by
  have hr0 := hr
  have hl0 := hl
  obtain ⟨ar, cr, rfl, hcr⟩ := hr.at
  obtain ⟨al, cl, rfl, hml, hcl⟩ := strs_at hl
  obtain ⟨g0, o0, e0, hg0, c0⟩ := hcl 0 h0
  rw [Nat.add_zero] at c0
  have hx00 : ts[0].length = x := hx _ (List.getElem_mem h0)
  have hmk := mk_u8 x (by omega)
  have hp : (0 : Int) < (ts.length : Int) := by omega
  have hwid : wid (tabS ts) = x := by
    unfold wid tabS
    cases ts with
    | nil => simp at h0
    | cons t ts => simp [bN_length]; exact hx t (by simp)
  have hz : RowAt 0 (w.alloc (.cells (u8s (List.replicate x 0)).toArray 5)) (.slice (some ⟨w.heap.size, 0, none⟩) x x) (mulSo row (tabS ts) 0) := by
    rw [mulSo_zero, hwid]
    have := (OwnB.new w x).row (B := 0) (cap := x) (by simp) (by unfold maxLen; omega)
    simpa using this
  have HZ := Lib.hid hz
  have HX := Lib.hid hx
  have HR := Lib.hid hr0
  have HL := Lib.hid hl0
  have HLEN := Lib.hid hlen
  have HWID := Lib.hid hwid
  have H0 := Lib.hid h0
  clear hr hl hcr hcl hz hx hr0 hl0 hlen hwid
  subst e0
  rw [HLEN.out]
  generalize hT0 : ts[0] = t0 at *
  clear hT0
  go_enter Tryz.func79, Tryz.ntmps79
  go_wp2_with fail
  clear hmk hp c0
  go_loopw [5, 6, 7, 15] (fun v _ _ i wr => ∃ k : Nat, k ≤ ts.length ∧ i = .int .i64 k ∧ RowAt 0 wr v (mulSo row (tabS ts) k) ∧ Below w.heap.size w wr) (fun _ _ _ i _ => ts.length - (intOf i).toNat)
  case atStart =>
    refine ⟨0, Nat.zero_le _, rfl, ?_, (Below.refl _ _).alloc (Nat.le_refl _) _⟩
    exact HZ.out
  case round =>
    obtain ⟨k, hk, rfl, hv, hB⟩ := hrel
    by_cases hlt : k < ts.length
    · have hkr : k < row.length := by rw [HLEN.out]; exact hlt
      obtain ⟨s1, s2, s3⟩ := mixed_step row ts x k HX.out hlt hkr
      obtain ⟨_, _, e, hcr⟩ := (HR.out.chain hB).at
      cases e
      obtain ⟨g1, o1, rfl, hg1, c1⟩ := hcr k hkr
      obtain ⟨_, _, e, _, hcl⟩ := strs_at (HL.out.chain hB)
      cases e
      obtain ⟨g2, o2, e, hg2, c2⟩ := hcl k hlt
      cases e
      clear hcr hcl
      have hk2 : (k : Int) < (ts.length : Int) := by omega
      have hc256 : row[k] < 256 := HR.out.2 _ (List.getElem_mem hkr)
      have htl : ts[k].length = x := HX.out _ (List.getElem_mem hlt)
      by_cases hz0 : row[k] = 0
      · rw [hz0, mulAddL_zero _ _ (s1.trans s2.symm)] at s3
        rw [hz0] at c1
        have hv2 := hv
        rw [s3] at hv2
        have HV := Lib.hid hv2
        clear hv hv2 s1 s2 s3 hc256 htl hz0
        go_wp2_with fail
        go_roundw
        case rel => exact ⟨k + 1, hlt, by go_num, HV.out, hB⟩
        case measure => simp [intOf]; omega
      · obtain ⟨cc, W2, hcv, hrb, hb2⟩ := string_row wr ts[k] (by omega)
        rw [htl] at hcv hrb
        have hcall := muladd_any 0 u5 (.slice (some ⟨wr.heap.size, 0, none⟩) x cc) (mulSo row (tabS ts) k) (bN ts[k]) row[k] hc256 (by omega) W2 (hv.chain hb2) hrb
        have HC := Lib.hid hcall
        have HS := Lib.hid s3
        have HLL := Lib.hid (s1.trans s2.symm)
        have hB2 := Below.chain hb2 hB
        have hnz : ((row[k] : Int) != 0) = true := by simp; omega
        have hnz2 : ¬ (row[k] : Int) = 0 := by omega
        have hnz3 : ¬ row[k] = 0 := hz0
        clear hv hrb hcall s1 s2 s3 hz0 hc256
        generalize row[k] = c at *
        generalize ts[k] = tk at *
        go_wp2_with fail
        refine HC.out.mono ?_
        rintro e w3 ⟨v3, rfl, hv3, hb3⟩
        rw [show lenE (mulSo row (tabS ts) k) (scaleL c (bN tk)) = 0 from by unfold lenE; rw [if_pos (by rw [scaleL_length]; exact HLL.out)]]
        have hv4 : RowAt 0 w3 v3 (mulSo row (tabS ts) (k + 1)) := by
          have e : addV (mulSo row (tabS ts) k) (scaleL c (bN tk)) = mulAddL (mulSo row (tabS ts) k) c (bN tk) := by
            unfold addV
            rw [if_pos (by rw [scaleL_length]; exact HLL.out)]
            rfl
          rw [e, HS.out] at hv3
          exact hv3
        have hB3 := Below.chain hb3 hB2
        have HV := Lib.hid hv4
        clear hv3 hv4 hb3 hB2 hb2 hcv
        go_wp2_with fail
        go_roundw
        case rel => exact ⟨k + 1, hlt, by go_num, HV.out, hB3⟩
        case measure => simp [intOf]; omega
    · obtain rfl : k = ts.length := by omega
      have hlt' : ¬ (ts.length : Int) < (ts.length : Int) := by omega
      have hcv := row_string hv (by rw [mulSo_length, HWID.out]; exact hx0)
      have HM := Lib.hid (show toS (mulSo row (tabS ts) ts.length) = mixS row ts from rfl)
      rw [HM.out] at hcv
      clear hv
      go_wp2_with fail
      go_ret
      exact ⟨rfl, hB⟩
end Go.Proofs.YtnmlmpffmjhihaaGreat
namespace Go.Proofs.YtnmlmpffmjhihaaGreat
open Go.RowKit
set_option linter.unusedVariables false
set_option maxRecDepth 100000
set_option maxHeartbeats 1000000
def checkS (ds : List (List UInt8)) : Int := if ds.length < 1 ∨ 32 < ds.length then 1 else if (ds.headD []).length < 1 ∨ 1024 < (ds.headD []).length then 3 else if ds.any (fun t => decide (t.length ≠ (ds.headD []).length)) then 16 else 0
def mayS (ds : List (List UInt8)) (n : Int) : Int := if checkS ds ≠ 0 then checkS ds else if n < (ds.length : Int) ∨ 255 < n then 1 else 0
theorem checkS_ok {ds : List (List UInt8)} (h : checkS ds = 0) : 1 ≤ ds.length ∧ ds.length ≤ 32 ∧ 1 ≤ (ds.headD []).length ∧ (ds.headD []).length ≤ 1024 ∧ ∀ t ∈ ds, t.length = (ds.headD []).length := by
  unfold checkS at h
  split at h
  · cases h
  · rename_i h1
    split at h
    · cases h
    · rename_i h2
      split at h
      · cases h
      · rename_i h3
        refine ⟨by omega, by omega, by omega, by omega, fun t ht => ?_⟩
        rw [List.any_eq_true] at h3
        exact Classical.byContradiction fun hne => h3 ⟨t, ht, by simpa using hne⟩
theorem rscheck_any (B : Nat) (v : Value) (ds : List (List UInt8)) (w : World) (h : SlAt B w 9 v (ds.map Str)) : Calls Tryz.prog 88 #[v] w fun e w' => e = .returned (.int .i64 (checkS ds)) ∧ w' = w := by
  obtain ⟨a, cap, rfl, hm, hat⟩ := strs_at h
  clear h
  by_cases h1 : ds.length < 1 ∨ 32 < ds.length
  · have e : checkS ds = 1 := by unfold checkS; rw [if_pos h1]
    rw [e]
    clear e hat
    by_cases h2 : ds.length < 1
    · have h3 : (ds.length : Int) < 1 := by omega
      clear h1 h2
      go_enter Tryz.func88, Tryz.ntmps88
      go_wp2_with fail
      go_ret
      exact ⟨rfl, rfl⟩
    · have h3 : ¬ (ds.length : Int) < 1 := by omega
      have h4 : (32 : Int) < (ds.length : Int) := by omega
      clear h1 h2
      go_enter Tryz.func88, Tryz.ntmps88
      go_wp2_with fail
      go_ret
      exact ⟨rfl, rfl⟩
  · have g1 : ¬ (ds.length : Int) < 1 := by omega
    have g2 : ¬ (32 : Int) < (ds.length : Int) := by omega
    have hp : 0 < ds.length := by omega
    have hpi : (0 : Int) < (ds.length : Int) := by omega
    have hhd : ds.headD [] = ds[0] := by
      cases ds with
      | nil => simp at hp
      | cons x ts => rfl
    obtain ⟨g, off, rfl, hg, c0⟩ := hat 0 hp
    rw [Nat.add_zero] at c0
    by_cases h2 : ds[0].length < 1 ∨ 1024 < ds[0].length
    · have e : checkS ds = 3 := by unfold checkS; rw [if_neg h1, hhd, if_pos h2]
      rw [e]
      clear e hat hhd h1
      generalize ds[0] = d0 at *
      by_cases h3 : d0.length < 1
      · have h4 : (d0.length : Int) < 1 := by omega
        clear h2 h3
        go_enter Tryz.func88, Tryz.ntmps88
        go_wp2_with fail
        go_ret
        exact ⟨rfl, rfl⟩
      · have h4 : ¬ (d0.length : Int) < 1 := by omega
        have h5 : (1024 : Int) < (d0.length : Int) := by omega
        clear h2 h3
        go_enter Tryz.func88, Tryz.ntmps88
        go_wp2_with fail
        go_ret
        exact ⟨rfl, rfl⟩
    · have h4 : ¬ (ds[0].length : Int) < 1 := by omega
      have h5 : ¬ (1024 : Int) < (ds[0].length : Int) := by omega
      have e : checkS ds = if ds.any (fun t => decide (t.length ≠ ds[0].length)) then 16 else 0 := by unfold checkS; rw [if_neg h1, hhd, if_neg h2]
      have HE := Lib.hid e
      obtain ⟨L, hL⟩ : ∃ L, ds[0].length = L := ⟨_, rfl⟩
      rw [hL] at HE h4 h5
      generalize checkS ds = z at *
      clear e hhd h1 h2
      have hat' : ∀ k (hk : k < ds.length), w.cell? ⟨g, off + k, none⟩ = some (Str ds[k]) := fun k hk => by
        obtain ⟨_, _, e, _, hc⟩ := hat k hk
        cases e
        exact hc
      clear hat
      generalize hd0 : ds[0] = d0 at *
      clear hd0
      go_enter Tryz.func88, Tryz.ntmps88
      go_wp2_with fail
      clear c0
      go_loopw [5, 26] (fun _ i wr => ∃ k : Nat, k ≤ ds.length ∧ i = .int .i64 k ∧ Hid (∀ t ∈ ds.take k, t.length = L) ∧ wr = w) (fun _ i _ => ds.length - (intOf i).toNat)
      case atStart => exact ⟨0, Nat.zero_le _, rfl, Lib.hid (by simp), rfl⟩
      case round =>
        obtain ⟨k, hk, rfl, hall, hw⟩ := hrel
        have hw' := hw.symm
        subst hw'
        clear hw
        by_cases hlt : k < ds.length
        · have ck := hat' k hlt
          have hk2 : (k : Int) < (ds.length : Int) := by omega
          have HTK := Lib.hid (List.take_succ_eq_append_getElem hlt)
          have HMM := Lib.hid (List.getElem_mem hlt)
          clear hat'
          by_cases he : ds[k].length = L
          · have HA := Lib.hid (fun t (ht : t ∈ ds.take (k + 1)) => show t.length = L by
              rw [HTK.out] at ht
              rcases List.mem_append.1 ht with h | h
              · exact hall.out t h
              · rw [List.mem_singleton.1 h]; exact he)
            have hne2 : ((ds[k].length : Int) != (L : Int)) = false := by simp [he]
            clear HTK HMM hall
            generalize ds[k] = x at *
            go_wp2_with fail
            go_roundw
            case rel => exact ⟨k + 1, hlt, by go_num, HA, by trivial⟩
            case measure => simp [intOf]; omega
          · have hz : z = 16 := by
              rw [HE.out, if_pos]
              rw [List.any_eq_true]
              exact ⟨_, HMM.out, by simpa using he⟩
            have hne2 : ((ds[k].length : Int) != (L : Int)) = true := by simp; omega
            have hne3 : ¬ (ds[k].length : Int) = (L : Int) := by omega
            clear HTK HMM hall HE
            subst hz
            generalize ds[k] = x at *
            go_wp2_with fail
            go_ret
            exact ⟨rfl, rfl⟩
        · obtain rfl : k = ds.length := by omega
          have hz : z = 0 := by
            rw [HE.out, if_neg]
            rw [List.any_eq_true]
            rintro ⟨t, ht, h⟩
            have := hall.out t (by rw [List.take_length]; exact ht)
            simp [this] at h
          subst hz
          have hlt' : ¬ (ds.length : Int) < (ds.length : Int) := by omega
          clear hall HE
          go_wp2_with fail
          go_ret
          exact ⟨rfl, rfl⟩
theorem rsmay_any (B : Nat) (v : Value) (ds : List (List UInt8)) (n : Int) (w : World) (h : SlAt B w 9 v (ds.map Str)) : Calls Tryz.prog 75 #[v, .int .i64 n] w fun e w' => e = .returned (.int .i64 (mayS ds n)) ∧ w' = w := by
  have HC := Lib.hid (rscheck_any B v ds w h)
  obtain ⟨a, cap, rfl, hm, _⟩ := strs_at h
  clear h
  by_cases h1 : checkS ds = 0
  · by_cases h2 : n < (ds.length : Int) ∨ 255 < n
    · have e : mayS ds n = 1 := by unfold mayS; rw [if_neg (by omega), if_pos h2]
      rw [h1] at HC
      rw [e]
      by_cases h3 : n < (ds.length : Int)
      · clear h2 e h1
        go_enter Tryz.func75, Tryz.ntmps75
        go_wp2_with fail
        refine HC.out.mono ?_
        rintro e w1 ⟨rfl, rfl⟩
        go_wp2_with fail
        go_ret
        exact ⟨rfl, rfl⟩
      · have h4 : 255 < n := by omega
        clear h2 e h1
        go_enter Tryz.func75, Tryz.ntmps75
        go_wp2_with fail
        refine HC.out.mono ?_
        rintro e w1 ⟨rfl, rfl⟩
        go_wp2_with fail
        go_ret
        exact ⟨rfl, rfl⟩
    · have e : mayS ds n = 0 := by unfold mayS; rw [if_neg (by omega), if_neg h2]
      rw [h1] at HC
      rw [e]
      have h3 : ¬ n < (ds.length : Int) := by omega
      have h4 : ¬ 255 < n := by omega
      clear h2 e h1
      go_enter Tryz.func75, Tryz.ntmps75
      go_wp2_with fail
      refine HC.out.mono ?_
      rintro e w1 ⟨rfl, rfl⟩
      go_wp2_with fail
      go_ret
      exact ⟨rfl, rfl⟩
  · have e : mayS ds n = checkS ds := by unfold mayS; rw [if_pos h1]
    have hne : (checkS ds != 0) = true := by simpa using h1
    rw [e]
    clear e
    generalize checkS ds = z at *
    go_enter Tryz.func75, Tryz.ntmps75
    go_wp2_with fail
    refine HC.out.mono ?_
    rintro e w1 ⟨rfl, rfl⟩
    go_wp2_with fail
    go_ret
    exact ⟨rfl, rfl⟩
end Go.Proofs.YtnmlmpffmjhihaaGreat
namespace Go.Proofs.YtnmlmpffmjhihaaGreat
open Go.RowKit
set_option linter.unusedVariables false
set_option maxRecDepth 100000
set_option maxHeartbeats 1000000
theorem infoStr5 : (Tryz.prog.info? 9).map (fun i => (i.zero, i.size, i.bytes)) = some (some (Str []), 1, 16) := by kernel_rfl
theorem made_str (k : Nat) : madeCells #[Str []] k = Array.replicate k (Str []) := by
  apply Array.ext
  · simp [madeCells]
  · intro j h1 h2
    simp [madeCells, Nat.mod_one]
theorem mk_str (k : Nat) (hk : k ≤ 16777216) (w : World) : (Instr.makeSlice 60 (.int .i64 (k : Int)) (.int .i64 (k : Int))).run Tryz.prog w = .ok (.slice (some ⟨w.heap.size, 0, none⟩) k k) (w.alloc (.cells (Array.replicate k (Str [])) 9)) := by
  obtain ⟨i0, hi, hz0, hz1, hz2⟩ := info_parts infoStr5
  have := run_make (P := Tryz.prog) w 60 9 i0 (Str []) Tryz.underlying60 hi hz0 .i64 .i64 k k (by omega) (by omega) (by rw [hz2]; omega) (by omega)
  rw [this, hz1, Nat.mul_one, Int.toNat_natCast]
  rw [show (Str []).cells = #[Str []] from rfl, made_str]
/-- The texts so far. -/
def eachSo (F : Nat → List UInt8) (n k : Nat) : List (List UInt8) := (List.range k).map F ++ List.replicate (n - k) []
theorem eachSo_length (F : Nat → List UInt8) (n k : Nat) (h : k ≤ n) : (eachSo F n k).length = n := by simp [eachSo]; omega
theorem eachSo_set (F : Nat → List UInt8) (n k : Nat) (h : k < n) : (eachSo F n k).set k (F k) = eachSo F n (k + 1) := by
  unfold eachSo
  rw [List.set_append_right _ _ (by simp), List.length_map, List.length_range, Nat.sub_self]
  obtain ⟨m, hm⟩ : ∃ m, n - k = m + 1 := ⟨n - k - 1, by omega⟩
  rw [hm, show n - (k + 1) = m by omega, List.replicate_succ, List.set_cons_zero, List.range_succ, List.map_append, List.append_assoc]
  rfl
theorem each_any (f : Nat) (binds : Array Value) (n : Nat) (hn : n ≤ 255) (F : Nat → List UInt8) (w : World) (hen : ∀ args w, (callFunc f args).run Tryz.prog w = .ok (.enter f args) w)
    (HC : ∀ i w', i < n → Below w.heap.size w w' → Calls Tryz.prog f (#[.int .i64 (i : Nat)] ++ binds) w' fun e w'' => e = .returned (Str (F i)) ∧ Below w'.heap.size w' w'') :
    Calls Tryz.prog 76 #[.int .i64 (n : Nat), .func (.func f) #[] binds] w fun e w' => ∃ v, e = .returned v ∧ SlAt 0 w' 9 v (((List.range n).map F).map Str) ∧ Below w.heap.size w w' := by
  have hmk := mk_str n (by omega)
  have hz : OwnV (w.alloc (.cells (Array.replicate n (Str [])) 9)) w.heap.size 0 9 ((eachSo F n 0).map Str) := by
    have := OwnV.of_blk (Blk.new w (Array.replicate n (Str [])) 9)
    simpa [eachSo] using this
  have HZ := Lib.hid hz
  have HCC := Lib.hid HC
  clear HC hz
  go_enter Tryz.func76, Tryz.ntmps76
  go_wp2_with fail
  clear hmk
  go_loopw [6, 11] (fun _ i wr => ∃ k : Nat, k ≤ n ∧ i = .int .i64 k ∧ Hid (OwnV wr w.heap.size 0 9 ((eachSo F n k).map Str)) ∧ Below w.heap.size w wr) (fun _ i _ => n - (intOf i).toNat)
  case atStart => exact ⟨0, Nat.zero_le _, rfl, HZ, (Below.refl _ _).alloc (Nat.le_refl _) _⟩
  case round =>
    obtain ⟨k, hk, rfl, ho, hB⟩ := hrel
    by_cases hlt : k < n
    · have hk2 : (k : Int) < (n : Int) := by omega
      go_wp2_with fail
      refine (HCC.out k _ hlt hB).mono ?_
      rintro e w2 ⟨rfl, hb2⟩
      have ho2 := ho.out.chain hb2
      have hB2 := Below.chain hb2 hB
      have hkl : k < ((eachSo F n k).map Str).length := by rw [List.length_map, eachSo_length F n k hk]; exact hlt
      have hst := ho2.store k (Str (F k)) hkl
      rw [← List.map_set, eachSo_set F n k hlt] at hst
      have hcl := ho2.2.2 k hkl
      have hfr : w2.frozen? ⟨w.heap.size, k, none⟩ = false := ho2.free k
      rw [Nat.zero_add] at hcl hst
      have HST := Lib.hid hst
      have hB3 : Below w.heap.size w (w2.setCell ⟨w.heap.size, k, none⟩ (Str (F k))) := hB2.setCell (p := ⟨w.heap.size, k, none⟩) (Nat.le_refl _) _
      have HB3 := Lib.hid hB3
      clear hst ho2 hB2 hb2 hB3 ho
      go_wp2_with fail
      go_roundw
      case rel => exact ⟨k + 1, hlt, by go_num, HST, HB3.out⟩
      case measure => simp [intOf]; omega
    · obtain rfl : k = n := by omega
      have hlt' : ¬ (k : Int) < (k : Int) := by omega
      have hs : SlAt 0 wr 9 (.slice (some ⟨w.heap.size, 0, none⟩) k k) (((List.range k).map F).map Str) := by
        have h1 := ho.out
        have e : eachSo F k k = (List.range k).map F := by simp [eachSo]
        rw [e] at h1
        have := h1.slAt (B := 0) (cap := k) (by simp) (by unfold maxLen; omega)
        simpa using this
      have HS := Lib.hid hs
      clear ho hs
      go_wp2_with fail
      go_ret
      exact ⟨_, rfl, by have h := HS.out; rw [List.map_map] at h; exact h, hB⟩
/-- A shard of data: the closure. -/
theorem enc1_any (bk bd bn : Nat) (B : Nat) (vd : Value) (ds : List (List UInt8)) (n i : Nat) (hd0 : checkS ds = 0) (hkn : ds.length ≤ n) (hn : n ≤ 255) (hi : i < n) (w : World) (hs : SlAt B w 9 vd (ds.map Str))
    (h1 : Blk w bk #[.int .i64 (ds.length : Nat)] 3) (h2 : Blk w bd #[vd] 60) (h3 : Blk w bn #[.int .i64 (n : Nat)] 3) :
    Calls Tryz.prog 77 #[.int .i64 (i : Nat), .pointer (some ⟨bk, 0, none⟩), .pointer (some ⟨bd, 0, none⟩), .pointer (some ⟨bn, 0, none⟩)] w fun e w' => e = .returned (Str (shardS ds.length ds i)) ∧ Below w.heap.size w w' := by
  obtain ⟨k1, k2, k3, k4, k5⟩ := checkS_ok hd0
  have hs0 := hs
  obtain ⟨a, cap, rfl, hm, hat⟩ := strs_at hs
  clear hs
  by_cases hlt : i < ds.length
  · have hsh : shardS ds.length ds i = ds[i] := by rw [shard_plain rfl k1 k5 i hlt, getD_get _ _ _ hlt]
    rw [hsh]
    obtain ⟨g, off, rfl, hg, c0⟩ := hat i hlt
    have hl1 : (i : Int) < (ds.length : Int) := by omega
    obtain ⟨q1, _, _⟩ := h1.facts
    obtain ⟨q2, _, _⟩ := h2.facts
    clear hat hs0 h1 h2 h3 hsh k5
    generalize ds[i] = x at *
    go_enter Tryz.func77, Tryz.ntmps77
    go_wp2_with fail
    go_ret
    exact ⟨rfl, Below.refl _ _⟩
  · have hl1 : ¬ (i : Int) < (ds.length : Int) := by omega
    have HR := Lib.hid (crow_any (ds.length : Nat) (n : Nat) (i : Nat))
    have he : rowE (ds.length : Nat) (n : Nat) (i : Nat) = 0 := rowE_ok (by simp [badKN]; omega) (by omega) (by omega)
    have hv : rowV (ds.length : Nat) (n : Nat) (i : Nat) = rowL ds.length i := by unfold rowV; rw [if_pos he]; rfl
    obtain ⟨q1, _, l1⟩ := h1.facts
    obtain ⟨q2, _, l2⟩ := h2.facts
    obtain ⟨q3, _, l3⟩ := h3.facts
    have HH2 := Lib.hid h2
    have HS := Lib.hid hs0
    have HK := Lib.hid (And.intro k5 (And.intro k3 k4))
    have HL := Lib.hid (rowL_length ds.length i)
    clear hat hs0 h1 h2 h3 k5
    go_enter Tryz.func77, Tryz.ntmps77
    go_wp2_with fail
    refine (HR.out _).mono ?_
    rintro e w1 ⟨v1, rfl, hv1, hb1⟩
    rw [he]
    have hv2 := hv1 0
    rw [hv] at hv2
    have hc2 : w1.cell? ⟨bd, 0, none⟩ = some (.slice a ds.length cap) := (hb1.cell (p := ⟨bd, 0, none⟩) l2).trans (q2 0)
    have HM := Lib.hid (mixed_any 0 B v1 (.slice a ds.length cap) (rowL ds.length i) ds (ds.headD []).length w1 hv2 (HS.out.chain hb1) HL.out (by omega) HK.out.1 (by have := HK.out.2.2; omega) (by have := HK.out.2.1; omega))
    clear hv1 hv2 q1 q2 q3 he hv
    go_wp2_with fail
    refine HM.out.mono ?_
    rintro e w2 ⟨rfl, hb2⟩
    have hB := Below.chain hb2 hb1
    clear hb1 hb2
    go_wp2_with fail
    go_ret
    exact ⟨rfl, hB⟩
def encS (ds : List (List UInt8)) (n : Int) : List (List UInt8) := if mayS ds n = 0 then (List.range n.toNat).map (shardS ds.length ds) else []
theorem encode_any (B : Nat) (v : Value) (ds : List (List UInt8)) (n : Int) (w : World) (h : SlAt B w 9 v (ds.map Str)) :
    Calls Tryz.prog 63 #[v, .int .i64 n] w fun e w' => ∃ v', e = .returned (.tuple #[v', .int .i64 (mayS ds n)]) ∧ SlAt 0 w' 9 v' ((encS ds n).map Str) ∧ Below w.heap.size w w' := by
  have h0 := h
  obtain ⟨a, cap, rfl, hm, _⟩ := strs_at h
  clear h
  have k1 := (Blk.new w #[.slice a ds.length cap] 60).alloc (.cells #[.int .i64 n] 3)
  have k2 := Blk.newAt (w := w.alloc (.cells #[.slice a ds.length cap] 60)) (n := w.heap.size + 1) (cs := #[.int .i64 n]) (t := 3) (by simp)
  have hB : Below w.heap.size w ((w.alloc (.cells #[.slice a ds.length cap] 60)).alloc (.cells #[.int .i64 n] 3)) := ((Below.refl _ w).alloc (Nat.le_refl _) _).alloc (by simp) _
  have hM := rsmay_any B _ ds n _ (h0.chain hB)
  by_cases h1 : mayS ds n = 0
  · have hck : checkS ds = 0 := by
      unfold mayS at h1
      split at h1
      · rename_i hne; exact absurd h1 hne
      · rename_i hne; omega
    have hnn : ¬ (n < (ds.length : Int) ∨ 255 < n) := fun hx => by
      unfold mayS at h1
      rw [if_neg (by omega), if_pos hx] at h1
      cases h1
    obtain ⟨N, rfl⟩ : ∃ N : Nat, n = N := ⟨n.toNat, by omega⟩
    have e : encS ds (N : Int) = (List.range N).map (shardS ds.length ds) := by unfold encS; rw [if_pos h1]; rfl
    rw [e, h1]
    rw [h1] at hM
    have hkN : ds.length ≤ N := by omega
    have hN : N ≤ 255 := by omega
    have k3 := Blk.newAt (w := (w.alloc (.cells #[.slice a ds.length cap] 60)).alloc (.cells #[.int .i64 (N : Nat)] 3)) (n := w.heap.size + 2) (cs := #[.int .i64 (ds.length : Nat)]) (t := 3) (by simp)
    have k1' := k1.alloc (.cells #[.int .i64 (ds.length : Nat)] 3)
    have k2' := k2.alloc (.cells #[.int .i64 (ds.length : Nat)] 3)
    have hB' := Below.chainAlloc hB (.cells #[.int .i64 (ds.length : Nat)] 3)
    have HE := Lib.hid (each_any 77 #[.pointer (some ⟨w.heap.size + 2, 0, none⟩), .pointer (some ⟨w.heap.size, 0, none⟩), .pointer (some ⟨w.heap.size + 1, 0, none⟩)] N hN (shardS ds.length ds) (((w.alloc (.cells #[.slice a ds.length cap] 60)).alloc (.cells #[.int .i64 (N : Nat)] 3)).alloc (.cells #[.int .i64 (ds.length : Nat)] 3))
      (enters_of Tryz.func77 (by kernel_rfl) rfl) (fun i w' hi hb => enc1_any _ _ _ B _ ds N i hck hkN hN hi w' (h0.chain (Below.chain hb hB')) (k3.below hb k3.lt) (k1'.below hb k1'.lt) (k2'.below hb k2'.lt)))
    obtain ⟨c1, f1, l1⟩ := k1.facts
    obtain ⟨c2, f2, l2⟩ := k2.facts
    have HM := Lib.hid hM
    have HB := Lib.hid hB'
    clear hM k1 k2 k3 k1' k2' e hB hB' h0 hck hnn h1
    go_enter Tryz.func63, Tryz.ntmps63
    go_wp2_with fail
    refine HM.out.mono ?_
    rintro e w1 ⟨rfl, hw1⟩
    subst hw1
    go_wp2_with fail
    refine HE.out.mono ?_
    rintro e w2 ⟨v2, rfl, hv2, hb2⟩
    obtain ⟨a2, p2, rfl, _⟩ := strs_at hv2
    have hln : ((List.range N).map (shardS ds.length ds)).length = N := by simp
    rw [hln] at hv2 ⊢
    have HV := Lib.hid hv2
    have HB2 := Lib.hid (Below.chain hb2 HB.out)
    clear hv2 hb2
    go_wp2_with fail
    go_ret2
    exact ⟨_, rfl, HV.out, HB2.out⟩
  · have e : encS ds n = [] := by unfold encS; rw [if_neg h1]
    have hne : (mayS ds n != 0) = true := by simpa using h1
    rw [e]
    generalize mayS ds n = z at *
    obtain ⟨c1, f1, l1⟩ := k1.facts
    obtain ⟨c2, f2, l2⟩ := k2.facts
    have HM := Lib.hid hM
    have HB := Lib.hid hB
    clear hM k1 k2 e hB h0
    go_enter Tryz.func63, Tryz.ntmps63
    go_wp2_with fail
    refine HM.out.mono ?_
    rintro e w1 ⟨rfl, rfl⟩
    go_wp2_with fail
    go_ret2
    exact ⟨_, rfl, SlAt.nil _ _ _, HB.out⟩
end Go.Proofs.YtnmlmpffmjhihaaGreat
namespace Go.Proofs.YtnmlmpffmjhihaaGreat
open Go.RowKit
set_option linter.unusedVariables false
set_option maxRecDepth 100000
set_option maxHeartbeats 1000000
abbrev Sh5 := Int × List UInt8
def cells5 (xs : List Sh5) : List Value := xs.flatMap fun x => [.int .i64 x.1, Str x.2]
theorem cells5_length (xs : List Sh5) : (cells5 xs).length = xs.length * 2 := by
  induction xs with
  | nil => rfl
  | cons x xs ih => simp [cells5] at ih ⊢; omega
theorem cells5_get : ∀ (xs : List Sh5) (i : Nat) (h : i < xs.length), (cells5 xs)[i * 2]? = some (.int .i64 xs[i].1) ∧ (cells5 xs)[i * 2 + 1]? = some (Str xs[i].2)
  | [], i, h => absurd h (Nat.not_lt_zero _)
  | x :: xs, 0, _ => ⟨rfl, rfl⟩
  | x :: xs, i + 1, h => by
    have ih := cells5_get xs i (by simpa using h)
    have e : cells5 (x :: xs) = [.int .i64 x.1, Str x.2] ++ cells5 xs := rfl
    rw [e, List.getElem?_append_right (by simp; omega), List.getElem?_append_right (by simp; omega)]
    have e1 : (i + 1) * 2 - [Value.int .i64 x.1, Str x.2].length = i * 2 := by simp; omega
    have e2 : (i + 1) * 2 + 1 - [Value.int .i64 x.1, Str x.2].length = i * 2 + 1 := by simp; omega
    rw [e1, e2]
    exact ih
/-- A shard's body among those that there are. -/
def body5 (xs : List Sh5) (i : Int) : List UInt8 := ((xs.find? fun x => x.1 == i).map (·.2)).getD []
theorem find_hit : ∀ (xs : List Sh5) (k : Nat) (h : k < xs.length) (i : Int), (∀ x ∈ xs.take k, x.1 ≠ i) → xs[k].1 = i → xs.find? (fun x => x.1 == i) = some xs[k]
  | [], k, h, _, _, _ => absurd h (Nat.not_lt_zero _)
  | x :: xs, 0, _, i, _, he => by
    rw [List.find?_cons_of_pos (by simpa using he)]
    rfl
  | x :: xs, k + 1, h, i, hno, he => by
    rw [List.find?_cons_of_neg (by simpa using hno x (by simp))]
    exact find_hit xs k (by simpa using h) i (fun y hy => hno y (by simp [hy])) he
theorem find_miss (xs : List Sh5) (i : Int) (h : ∀ x ∈ xs, x.1 ≠ i) : xs.find? (fun x => x.1 == i) = none := by
  rw [List.find?_eq_none]
  intro x hx
  simpa using h x hx
end Go.Proofs.YtnmlmpffmjhihaaGreat
namespace Go.Proofs.YtnmlmpffmjhihaaGreat
open Go.RowKit
set_option linter.unusedVariables false
set_option maxRecDepth 100000
set_option maxHeartbeats 1000000
def unlGo (n : Int) (L0 : Nat) : List Sh5 → List Sh5 → List Sh5 × Int
  | acc, [] => (acc, 0)
  | acc, x :: xs => if x.1 < 0 ∨ n ≤ x.1 then ([], 2) else if x.2.length < 1 ∨ 1024 < x.2.length then ([], 3) else if x.2.length ≠ L0 then ([], 16) else
    match acc.find? (fun y => y.1 == x.1) with
    | none => unlGo n L0 (acc ++ [x]) xs
    | some y => if y.2 = x.2 then unlGo n L0 acc xs else ([], 16)
def unlM (n : Int) (xs : List Sh5) : List Sh5 × Int := unlGo n ((xs.map (·.2)).headD []).length [] xs
section
variable {n : Int} {L0 : Nat} {acc : List Sh5} {x : Sh5} {xs : List Sh5}
theorem unl_idx (h : x.1 < 0 ∨ n ≤ x.1) : unlGo n L0 acc (x :: xs) = ([], 2) := by rw [unlGo, if_pos h]
theorem unl_len (h : ¬ (x.1 < 0 ∨ n ≤ x.1)) (h2 : x.2.length < 1 ∨ 1024 < x.2.length) : unlGo n L0 acc (x :: xs) = ([], 3) := by rw [unlGo, if_neg h, if_pos h2]
theorem unl_unl (h : ¬ (x.1 < 0 ∨ n ≤ x.1)) (h2 : ¬ (x.2.length < 1 ∨ 1024 < x.2.length)) (h3 : x.2.length ≠ L0) : unlGo n L0 acc (x :: xs) = ([], 16) := by rw [unlGo, if_neg h, if_neg h2, if_pos h3]
theorem unl_new (h : ¬ (x.1 < 0 ∨ n ≤ x.1)) (h2 : ¬ (x.2.length < 1 ∨ 1024 < x.2.length)) (h3 : x.2.length = L0) (h4 : acc.find? (fun y => y.1 == x.1) = none) : unlGo n L0 acc (x :: xs) = unlGo n L0 (acc ++ [x]) xs := by
  rw [unlGo, if_neg h, if_neg h2, if_neg (by omega), h4]
theorem unl_old {y : Sh5} (h : ¬ (x.1 < 0 ∨ n ≤ x.1)) (h2 : ¬ (x.2.length < 1 ∨ 1024 < x.2.length)) (h3 : x.2.length = L0) (h4 : acc.find? (fun y => y.1 == x.1) = some y) (h5 : y.2 = x.2) : unlGo n L0 acc (x :: xs) = unlGo n L0 acc xs := by
  rw [unlGo, if_neg h, if_neg h2, if_neg (by omega), h4]
  simp [h5]
theorem unl_dif {y : Sh5} (h : ¬ (x.1 < 0 ∨ n ≤ x.1)) (h2 : ¬ (x.2.length < 1 ∨ 1024 < x.2.length)) (h3 : x.2.length = L0) (h4 : acc.find? (fun y => y.1 == x.1) = some y) (h5 : ¬ y.2 = x.2) : unlGo n L0 acc (x :: xs) = ([], 16) := by
  rw [unlGo, if_neg h, if_neg h2, if_neg (by omega), h4]
  simp [h5]
end
/-- Which numbers were seen. -/
def seenC (acc : List Sh5) : Array Value := ((List.range 255).map fun (i : Nat) => Value.bool (acc.any fun x => x.1 == (i : Int))).toArray
theorem seenC_get (acc : List Sh5) (i : Nat) (h : i < 255) : (seenC acc)[i]? = some (.bool (acc.any fun x => x.1 == (i : Int))) := by
  unfold seenC
  simp [h]
theorem seenC_set (acc : List Sh5) (x : Sh5) (i : Nat) (hx : x.1 = i) : seenC (acc ++ [x]) = (seenC acc).setIfInBounds i (.bool true) := by
  apply Array.ext
  · simp [seenC]
  · intro j h1 h2
    have hj : j < 255 := by simpa [seenC] using h1
    rw [Array.getElem_setIfInBounds (by simpa [seenC] using hj)]
    by_cases e : i = j
    · subst e
      simp [seenC, hx]
    · rw [if_neg e]
      have : ¬ (x.1 = (j : Int)) := by omega
      simp [seenC, this]
theorem seenC_nil : seenC [] = Array.replicate 255 (.bool false) := by
  apply Array.ext
  · simp [seenC]
  · intro j h1 h2
    simp [seenC]
theorem cells5_snoc (acc : List Sh5) (x : Sh5) : cells5 (acc ++ [x]) = cells5 acc ++ [.int .i64 x.1, Str x.2] := by simp [cells5]
end Go.Proofs.YtnmlmpffmjhihaaGreat
namespace Go.Proofs.YtnmlmpffmjhihaaGreat
open Go.RowKit
set_option linter.unusedVariables false
set_option maxRecDepth 100000
set_option maxHeartbeats 1000000
def tn5 (x : Sh5) : Nat × List UInt8 := (x.1.toNat, x.2)
def putN (k : Nat) (xs : List Sh5) : List (List UInt8) := putP k (xs.map tn5)
theorem putN_length (k : Nat) (xs : List Sh5) : (putN k xs).length = k := by
  unfold putN putP
  rw [putP_length k, List.length_replicate]
theorem putN_snoc (k : Nat) (xs : List Sh5) (x : Sh5) : putN k (xs ++ [x]) = (putN k xs).set x.1.toNat x.2 := by
  unfold putN putP
  rw [List.map_append, List.foldl_append]
  rfl
def allK (k : Nat) (xs : List Sh5) : Bool := xs.all fun x => decide (x.1 < (k : Int))
end Go.Proofs.YtnmlmpffmjhihaaGreat
namespace Go.Proofs.YtnmlmpffmjhihaaGreat
set_option linter.unusedVariables false
set_option maxRecDepth 100000
/-- Shards that may be: numbers below n, no two alike, bodies of one length. -/
structure Good5 (n : Int) (L0 : Nat) (xs : List Sh5) : Prop where
  num : ∀ x ∈ xs, 0 ≤ x.1 ∧ x.1 < n
  len : ∀ x ∈ xs, x.2.length = L0
  nod : (xs.map (·.1)).Nodup
theorem unl_good {n : Int} {L0 : Nat} : ∀ (xs acc : List Sh5), Good5 n L0 acc → (unlGo n L0 acc xs).2 = 0 → Good5 n L0 (unlGo n L0 acc xs).1
  | [], acc, h, _ => h
  | x :: xs, acc, h, he => by
    by_cases h1 : x.1 < 0 ∨ n ≤ x.1
    · rw [unl_idx h1] at he; cases he
    · by_cases h2 : x.2.length < 1 ∨ 1024 < x.2.length
      · rw [unl_len h1 h2] at he; cases he
      · by_cases h3 : x.2.length = L0
        · cases hf : acc.find? (fun y => y.1 == x.1) with
          | none =>
            rw [unl_new h1 h2 h3 hf] at he ⊢
            rw [List.find?_eq_none] at hf
            refine unl_good xs _ ⟨fun y hy => ?_, fun y hy => ?_, ?_⟩ he
            · rcases List.mem_append.1 hy with hy | hy
              · exact h.num y hy
              · rw [List.mem_singleton.1 hy]; omega
            · rcases List.mem_append.1 hy with hy | hy
              · exact h.len y hy
              · rw [List.mem_singleton.1 hy]; exact h3
            · rw [List.map_append, List.nodup_append]
              refine ⟨h.nod, by simp, fun a ha b hb => ?_⟩
              obtain ⟨y, hy, rfl⟩ := List.mem_map.1 ha
              have : b = x.1 := by simpa using hb
              subst this
              simpa using hf y hy
          | some y =>
            by_cases h4 : y.2 = x.2
            · rw [unl_old h1 h2 h3 hf h4] at he ⊢
              exact unl_good xs _ h he
            · rw [unl_dif h1 h2 h3 hf h4] at he; cases he
        · rw [unl_unl h1 h2 h3] at he; cases he
/-- How long the bodies are, if there is a shard. -/
theorem unl_pos {n : Int} {L0 : Nat} : ∀ (xs acc : List Sh5), (∀ x ∈ acc, 1 ≤ x.2.length ∧ x.2.length ≤ 1024) → (unlGo n L0 acc xs).2 = 0 → ∀ x ∈ (unlGo n L0 acc xs).1, 1 ≤ x.2.length ∧ x.2.length ≤ 1024
  | [], acc, h, _ => h
  | x :: xs, acc, h, he => by
    by_cases h1 : x.1 < 0 ∨ n ≤ x.1
    · rw [unl_idx h1] at he; cases he
    · by_cases h2 : x.2.length < 1 ∨ 1024 < x.2.length
      · rw [unl_len h1 h2] at he; cases he
      · by_cases h3 : x.2.length = L0
        · cases hf : acc.find? (fun y => y.1 == x.1) with
          | none =>
            rw [unl_new h1 h2 h3 hf] at he ⊢
            refine unl_pos xs _ (fun y hy => ?_) he
            rcases List.mem_append.1 hy with hy | hy
            · exact h y hy
            · rw [List.mem_singleton.1 hy]; omega
          | some y =>
            by_cases h4 : y.2 = x.2
            · rw [unl_old h1 h2 h3 hf h4] at he ⊢
              exact unl_pos xs _ h he
            · rw [unl_dif h1 h2 h3 hf h4] at he; cases he
        · rw [unl_unl h1 h2 h3] at he; cases he
def badD (k n : Int) : Bool := decide (k < 1) || (decide (32 < k) || (decide (n < k) || decide (255 < n)))
/-- The numbers and the bodies of shards. -/
def idx5 (q : List Sh5) : List Nat := q.map fun x => x.1.toNat
def txt5 (q : List Sh5) : List (List UInt8) := q.map (·.2)
def decD (k : Nat) (q : List Sh5) : List (List UInt8) := (invV (pickT k (idx5 q))).map fun r => mixS r (txt5 q)
/-- The data of shards, or the error. -/
def decM (k n : Int) (xs : List Sh5) : List (List UInt8) × Int :=
  if badD k n = true then ([], 1) else if (unlM n xs).2 ≠ 0 then ([], (unlM n xs).2) else if ((unlM n xs).1.length : Int) < k then ([], 15) else (decD k.toNat ((unlM n xs).1.take k.toNat), 0)
theorem Good5.take {n : Int} {L0 : Nat} {xs : List Sh5} (h : Good5 n L0 xs) (k : Nat) : Good5 n L0 (xs.take k) :=
  ⟨fun x hx => h.num x (List.mem_of_mem_take hx), fun x hx => h.len x (List.mem_of_mem_take hx), by
    rw [List.map_take]
    exact h.nod.sublist (List.take_sublist _ _)⟩
theorem Good5.idx {n : Int} {L0 : Nat} {q : List Sh5} (h : Good5 n L0 q) : (idx5 q).Nodup := by
  have e : q.map (·.1) = (idx5 q).map fun (i : Nat) => (i : Int) := by
    unfold idx5
    rw [List.map_map]
    refine List.map_congr_left (fun x hx => ?_)
    have := (h.num x hx).1
    simp
    omega
  have := h.nod
  rw [e] at this
  exact (List.pairwise_map.1 this).imp (fun h e => h (by rw [e]))
/-- Whole data, put in place, are what is decoded. -/
theorem dec_plain {k : Nat} {n : Int} {L0 : Nat} {q : List Sh5} (h : Good5 n L0 q) (hk : 1 ≤ k) (hk2 : k ≤ 32) (hq : q.length = k) (hL : 1 ≤ L0) (ha : allK k q = true) : decD k q = putN k q := by
  have h1 : (q.map tn5).map Prod.fst = idx5 q := by unfold idx5; rw [List.map_map]; rfl
  have h2 : (q.map tn5).map Prod.snd = txt5 q := by unfold txt5; rw [List.map_map]; rfl
  have := decode_plain (k := k) (x := L0) (xs := q.map tn5) (by rw [List.length_map]; exact hq) ⟨hk, by omega⟩ hL (fun t ht => by
    obtain ⟨x, hx, rfl⟩ := List.mem_map.1 ht
    exact h.len x hx) (by rw [h1]; exact h.idx) (fun t ht => by
    obtain ⟨x, hx, rfl⟩ := List.mem_map.1 ht
    unfold allK at ha
    rw [List.all_eq_true] at ha
    have h3 := ha x hx
    have h4 := (h.num x hx).1
    simp at h3
    show x.1.toNat < k
    omega)
  rw [h1, h2] at this
  exact this
theorem dec_inv {k : Nat} {n : Int} {L0 : Nat} {q : List Sh5} (h : Good5 n L0 q) (hn : n ≤ 255) (hk : 1 ≤ k) (hk2 : k ≤ 32) (hq : q.length = k) : invE (pickT k (idx5 q)) = 0 :=
  cauchy_inv k (idx5 q) (by unfold idx5; rw [List.length_map]; exact hq) hk (by omega) h.idx (fun a ha => by
    obtain ⟨x, hx, rfl⟩ := List.mem_map.1 ha
    have := h.num x hx
    omega)
end Go.Proofs.YtnmlmpffmjhihaaGreat
