/-
  Merged: More shards than needed: Shard; shards that are written out (chapter 5). | More shards than needed: plain: what comes back of shards of data (chapter 5). | More shards than needed: texts mixed by a row: the document's (chapter 5). | More shards than needed: the first shards with unlike numbers: the document's (chapter 5). | More shards than needed: Decode: the document's (chapter 5).
-/
import Derived.Test.YtelpkddgcmikfaaDoorMH
import Derived.StillTailTactics
import Derived.Test.YtelpkddgcmikfaaDoorMI
import Derived.Test.YtelpkddgcmikfaaDoorMF
namespace Go.Proofs.YtelpkddgcmikfaaDoor
open Go.RowKit
set_option linter.unusedVariables false
set_option maxRecDepth 100000
set_option maxHeartbeats 1000000
theorem ShAt.new (w : World) (xs : List Sh5) (hm : xs.length ≤ 1000) (hne : xs ≠ []) : ShAt 0 (w.alloc (.cells (cells5 xs).toArray 50)) (.slice (some ⟨w.heap.size, 0, none⟩) xs.length xs.length) xs := by
  have hk := Blk.new w (cells5 xs).toArray 50
  refine ⟨_, _, rfl, Nat.le_refl _, by unfold maxLen; omega, .inr ⟨_, 0, rfl, hk.lt, .inr ⟨_, _, hk⟩, fun i hi => ?_⟩⟩
  obtain ⟨c1, _, _⟩ := hk.facts
  obtain ⟨g1, g2⟩ := cells5_get xs i hi
  exact ⟨by rw [Nat.zero_add, c1, List.getElem?_toArray]; exact g1, by rw [Nat.zero_add, c1, List.getElem?_toArray]; exact g2⟩
end Go.Proofs.YtelpkddgcmikfaaDoor
namespace Go.Proofs.YtelpkddgcmikfaaDoor
set_option linter.unusedVariables false
set_option maxRecDepth 100000
/-- Numbers, each once, in the order in which they first came. -/
def oneStep (d : List Nat) (a : Nat) : List Nat := if a ∈ d then d else d ++ [a]
def oneN (l : List Nat) : List Nat := l.foldl oneStep []
theorem oneN_snoc (l : List Nat) (a : Nat) : oneN (l ++ [a]) = oneStep (oneN l) a := by
  unfold oneN
  rw [List.foldl_append]
  rfl
theorem one_nodup : ∀ (l d : List Nat), d.Nodup → (l.foldl oneStep d).Nodup
  | [], d, h => h
  | a :: l, d, h => by
    rw [List.foldl_cons]
    refine one_nodup l _ ?_
    unfold oneStep
    by_cases e : a ∈ d
    · rw [if_pos e]; exact h
    · rw [if_neg e, List.nodup_append]
      exact ⟨h, by simp, fun x hx y hy e' => e (by rw [List.mem_singleton] at hy; rw [← hy, ← e']; exact hx)⟩
theorem oneN_nodup (l : List Nat) : (oneN l).Nodup := one_nodup l [] List.nodup_nil
theorem one_mem (n : Nat) : ∀ (l d : List Nat), (∀ a ∈ d, a < n) → (∀ a ∈ l, a < n) → ∀ a ∈ l.foldl oneStep d, a < n
  | [], d, h, _ => h
  | a :: l, d, h, hl => by
    rw [List.foldl_cons]
    refine one_mem n l _ ?_ (fun b hb => hl b (by simp [hb]))
    unfold oneStep
    by_cases e : a ∈ d
    · rw [if_pos e]; exact h
    · rw [if_neg e]
      intro b hb
      rcases List.mem_append.1 hb with hb | hb
      · exact h b hb
      · rw [List.mem_singleton] at hb
        rw [hb]
        exact hl a (by simp)
theorem oneN_lt {n : Nat} {l : List Nat} (h : ∀ a ∈ l, a < n) : ∀ a ∈ oneN l, a < n := one_mem n l [] (by simp) h
theorem one_len : ∀ (l d : List Nat), (l.foldl oneStep d).length ≤ d.length + l.length
  | [], d => by simp
  | a :: l, d => by
    rw [List.foldl_cons]
    have h := one_len l (oneStep d a)
    have h2 : (oneStep d a).length ≤ d.length + 1 := by unfold oneStep; split <;> simp
    simp only [List.length_cons]
    omega
theorem oneN_len (l : List Nat) : (oneN l).length ≤ l.length := by have := one_len l []; simpa [oneN] using this
/-- A shard by its number. -/
def sh5 (F : Nat → List UInt8) (a : Nat) : Sh5 := ((a : Int), F a)
theorem find_sh (F : Nat → List UInt8) : ∀ (d : List Nat) (a : Nat), (d.map (sh5 F)).find? (fun y => y.1 == (a : Int)) = if a ∈ d then some (sh5 F a) else none
  | [], a => by simp
  | b :: d, a => by
    rw [List.map_cons, List.find?_cons]
    by_cases e : b = a
    · subst e
      rw [if_pos (by simp)]
      simp [sh5]
    · have h : ((sh5 F b).1 == (a : Int)) = false := by simp [sh5]; omega
      rw [h, find_sh F d a]
      simp [Ne.symm e]
theorem unlGo_one (F : Nat → List UInt8) (n L0 : Nat) (hL : 1 ≤ L0 ∧ L0 ≤ 1024) (hF : ∀ a, (F a).length = L0) : ∀ (l d : List Nat), (∀ a ∈ l, a < n) →
    unlGo (n : Nat) L0 (d.map (sh5 F)) (l.map (sh5 F)) = ((l.foldl oneStep d).map (sh5 F), 0)
  | [], d, _ => rfl
  | a :: l, d, h => by
    have ha := h a (by simp)
    have h1 : ¬ ((sh5 F a).1 < 0 ∨ (n : Int) ≤ (sh5 F a).1) := by simp [sh5]; omega
    have h2 : ¬ ((sh5 F a).2.length < 1 ∨ 1024 < (sh5 F a).2.length) := by
      have := hF a
      simp only [sh5]
      omega
    have h3 : (sh5 F a).2.length = L0 := hF a
    have h4 := find_sh F d a
    rw [List.map_cons, List.foldl_cons]
    by_cases e : a ∈ d
    · rw [if_pos e] at h4
      rw [unl_old h1 h2 h3 h4 rfl, unlGo_one F n L0 hL hF l d (fun b hb => h b (by simp [hb]))]
      unfold oneStep
      rw [if_pos e]
    · rw [if_neg e] at h4
      have hm : d.map (sh5 F) ++ [sh5 F a] = (d ++ [a]).map (sh5 F) := by simp
      rw [unl_new h1 h2 h3 h4, hm, unlGo_one F n L0 hL hF l _ (fun b hb => h b (by simp [hb]))]
      unfold oneStep
      rw [if_neg e]
theorem shardS_len (k : Nat) (ds : List (List UInt8)) (a : Nat) : (shardS k ds a).length = (ds.headD []).length := by
  unfold shardS mixS
  rw [toS_length, mulSo_length]
  cases ds with
  | nil => rfl
  | cons d ds => simp [wid, tabS, bN_length]
/-- Shards of data: as many as there are unlike ones, and the data, if these are enough. -/
theorem dec_back (ds : List (List UInt8)) (n : Nat) (l : List Nat) (hm : mayS ds (n : Nat) = 0) (hb : ∀ a ∈ l, a < n) :
    decM (ds.length : Nat) (n : Nat) (l.map (sh5 (shardS ds.length ds))) = if (oneN l).length < ds.length then ([], 15) else (ds, 0) := by
  have hck : checkS ds = 0 := by
    unfold mayS at hm
    split at hm
    · rename_i hne; exact absurd hm hne
    · rename_i hne; omega
  have hnn : ¬ ((n : Int) < (ds.length : Int) ∨ 255 < (n : Int)) := fun hx => by
    unfold mayS at hm
    rw [if_neg (by omega), if_pos hx] at hm
    cases hm
  obtain ⟨k1, k2, k3, k4, k5⟩ := checkS_ok hck
  have hbad : ¬ badD (ds.length : Nat) (n : Nat) = true := by simp [badD]; omega
  have hU : unlM (n : Nat) (l.map (sh5 (shardS ds.length ds))) = ((oneN l).map (sh5 (shardS ds.length ds)), 0) := by
    cases l with
    | nil => rfl
    | cons a l =>
      unfold unlM
      have h0 : ((((a :: l).map (sh5 (shardS ds.length ds))).map (·.2)).headD []).length = (ds.headD []).length := by
        simp only [List.map_cons, List.headD_cons]
        exact shardS_len _ _ _
      rw [h0]
      exact unlGo_one _ n _ ⟨k3, k4⟩ (fun a => shardS_len _ _ a) (a :: l) [] hb
  unfold decM
  rw [if_neg hbad, hU, if_neg (by simp)]
  simp only [List.length_map, Int.toNat_natCast, Int.ofNat_lt]
  by_cases hlt : (oneN l).length < ds.length
  · rw [if_pos hlt, if_pos hlt]
  · rw [if_neg hlt, if_neg hlt]
    have h1 : idx5 (((oneN l).map (sh5 (shardS ds.length ds))).take ds.length) = (oneN l).take ds.length := by
      unfold idx5
      rw [← List.map_take, List.map_map]
      conv => rhs; rw [← List.map_id ((oneN l).take ds.length)]
      exact List.map_congr_left (fun a _ => by simp [sh5])
    have h2 : txt5 (((oneN l).map (sh5 (shardS ds.length ds))).take ds.length) = ((oneN l).take ds.length).map (shardS ds.length ds) := by
      unfold txt5
      rw [← List.map_take, List.map_map]
      rfl
    unfold decD
    rw [h1, h2]
    rw [decode_data rfl ⟨k1, by omega⟩ k3 k5 (by rw [List.length_take]; omega) ((oneN_nodup l).sublist (List.take_sublist _ _)) (fun a ha => by
      have := oneN_lt hb a (List.mem_of_mem_take ha)
      omega)]
end Go.Proofs.YtelpkddgcmikfaaDoor
namespace Go.Proofs.YtelpkddgcmikfaaDoor
open Go Go.RowKit
set_option linter.unusedVariables false
set_option maxRecDepth 100000
set_option maxHeartbeats 1000000
theorem byte_get5 (m : List UInt8) (k : Nat) (h : k < (⟨m.toArray⟩ : ByteArray).size) : (⟨m.toArray⟩ : ByteArray)[k]'h = m[k]'(show k < m.length from by simpa using (show k < m.toArray.size from h)) := rfl
theorem addL_comm (a b : List Nat) : addL a b = addL b a := by
  unfold addL
  rw [List.zipWith_comm]
  congr 1
  funext x y
  exact Nat.xor_comm _ _
theorem rmix_any (B1 B2 : Nat) (vr vl : Value) (row : List Nat) (ts : List (List UInt8)) (x : Nat) (w : World) (hr : RowAt B1 w vr row) (hl : SlAt B2 w 9 vl (ts.map Str)) (hlen : row.length = ts.length) (h0 : 0 < ts.length) (hx : ∀ t ∈ ts, t.length = x) (hx1 : x ≤ 1100) (hx0 : 0 < x) :
    Calls Tryd.prog 25 #[vr, vl] w fun e w' => e = .returned (Str (mixS row ts)) ∧ Below w.heap.size w w' := by
  have hr0 := hr
  have hl0 := hl
  obtain ⟨ar, cr, rfl, hcr⟩ := hr.at
  obtain ⟨al, cl, rfl, hml, hcl⟩ := strs_at hl
  obtain ⟨g0, o0, e0, hg0, c0⟩ := hcl 0 h0
  rw [Nat.add_zero] at c0
  have hx00 : ts[0].length = x := hx _ (List.getElem_mem h0)
  have hmk := mk_u8 x (by omega)
  have hp : (0 : Int) < (ts.length : Int) := by omega
  have hwid : wid (tabS ts) = x := by
    unfold wid tabS
    cases ts with
    | nil => simp at h0
    | cons t ts => simp [bN_length]; exact hx t (by simp)
  have hz : OwnB (w.alloc (.cells (u8s (List.replicate x 0)).toArray 5)) w.heap.size 0 (mulSo row (tabS ts) 0) := by
    rw [mulSo_zero, hwid]
    exact OwnB.new w x
  have HZ := Lib.hid hz
  have HX := Lib.hid hx
  have HR := Lib.hid hr0
  have HL := Lib.hid hl0
  have HLEN := Lib.hid hlen
  have HWID := Lib.hid hwid
  have H0 := Lib.hid h0
  clear hr hl hcr hcl hz hx hr0 hl0 hlen hwid
  subst e0
  rw [HLEN.out]
  generalize hT0 : ts[0] = t0 at *
  clear hT0
  go_enter Tryd.func25, Tryd.ntmps25
  go_wp2_with fail
  clear hmk hp c0
  go_loopg [6, 7] ts.length (fun gk i _ wr => ∃ k : Nat, k ≤ ts.length ∧ ts.length ≤ k + gk ∧ i = .int .i64 k ∧ Hid (OwnB wr w.heap.size 0 (mulSo row (tabS ts) k)) ∧ Hid (Below w.heap.size w wr))
  case atStart => exact ⟨0, Nat.zero_le _, by omega, rfl, HZ, Lib.hid (Below.chainAlloc (Below.refl _ _) _)⟩
  case round =>
    obtain ⟨k, hk, hgk, rfl, HV, HB⟩ := hrel
    by_cases hlt : k < ts.length
    · have hkr : k < row.length := by rw [HLEN.out]; exact hlt
      obtain ⟨s1, s2, s3⟩ := mixed_step row ts x k HX.out hlt hkr
      have hk2 : (k : Int) < (ts.length : Int) := by omega
      have hc256 : row[k] < 256 := HR.out.2 _ (List.getElem_mem hkr)
      have htl : ts[k].length = x := HX.out _ (List.getElem_mem hlt)
      obtain ⟨c, hc⟩ : ∃ c, row[k] = c := ⟨_, rfl⟩
      obtain ⟨t, ht⟩ : ∃ t, ts[k] = t := ⟨_, rfl⟩
      rw [hc, ht] at s3
      rw [ht] at s2 htl
      rw [hc] at hc256
      have HC := Lib.hid (fun (w' : World) (h : Below w.heap.size w w') => (HR.out.chain h).at)
      have hcc : ∀ w', Below w.heap.size w w' → ∃ g off, ar = some ⟨g, off, none⟩ ∧ g < w'.heap.size ∧ w'.cell? ⟨g, off + k, none⟩ = some (.int .u8 (c : Nat)) := fun w' h => by
        obtain ⟨_, _, e, h1⟩ := (HR.out.chain h).at
        cases e
        rw [← hc]
        exact h1 k hkr
      have htt : ∀ w', Below w.heap.size w w' → w'.cell? ⟨g0, o0 + k, none⟩ = some (Str t) := fun w' h => by
        obtain ⟨_, _, e, _, h1⟩ := strs_at (HL.out.chain h)
        cases e
        obtain ⟨g, off, e, _, h2⟩ := h1 k hlt
        cases e
        rw [← ht]
        exact h2
      have HCC := Lib.hid hcc
      have HTT := Lib.hid htt
      have hkr2 : (k : Int) < (row.length : Int) := by omega
      have hsl : (scaleL c (bN t)).length = (mulSo row (tabS ts) k).length := by rw [scaleL_length, s2, s1]
      have hend : addSo (scaleL c (bN t)) (mulSo row (tabS ts) k) x = mulSo row (tabS ts) (k + 1) := by
        have h := addSo_end _ (mulSo row (tabS ts) k) hsl
        rw [scaleL_length, s2] at h
        rw [h, addL_comm]
        exact s3
      have HE := Lib.hid hend
      obtain ⟨A, hA⟩ : ∃ A, mulSo row (tabS ts) k = A := ⟨_, rfl⟩
      rw [hA] at HE HV hsl s1
      have HSL := Lib.hid (And.intro hsl s1)
      have HAB := Lib.hid HV.out.2
      have HLT := Lib.hid hlt
      clear s1 s2 s3 hsl hend hA hcc htt hc ht HC
      go_wp2_with fail
      go_loopg [7] x (fun gk i wr2 => ∃ j : Nat, j ≤ x ∧ x ≤ j + gk ∧ i = .int .i64 j ∧ Hid (OwnB wr2 w.heap.size 0 (addSo (scaleL c (bN t)) A j)) ∧ Hid (Below w.heap.size w wr2))
      case atStart => exact ⟨0, Nat.zero_le _, by omega, rfl, Lib.hid (by rw [addSo_zero]; exact HV.out), HB⟩
      case round =>
        obtain ⟨j, hj, hgj, rfl, HV2, HB2⟩ := hrel
        by_cases hjx : j < x
        · have hlen2 := addSo_length _ A j HSL.out.1 (by rw [HSL.out.1, HSL.out.2]; omega)
          have hget := addSo_get _ A j HSL.out.1 (by rw [HSL.out.1, HSL.out.2]; exact hjx)
          have hjt : j < t.length := by rw [htl]; exact hjx
          have hA256 : A[j]'(by rw [HSL.out.2]; exact hjx) < 256 := HAB.out _ (List.getElem_mem _)
          have hT256 : t[j].toNat < 256 := t[j].toNat_lt
          have hsc : (scaleL c (bN t))[j]'(by rw [HSL.out.1, HSL.out.2]; exact hjx) = gm c t[j].toNat := by simp [scaleL, bN]
          have hxx := u8_xor_nat (A[j]'(by rw [HSL.out.2]; exact hjx)) (gm c t[j].toNat) hA256 (gm_lt _ _)
          have hbg := byte_get5
          go_upto_region 8 with fail
          refine wp_region_still_tail 19 (by kernel_rfl) (by kernel_rfl) ?_
          generalize hWd : ({ wr with drawn := wr.drawn + 1 } : World) = Wd
          replace hWd : wr.drew = Wd := hWd
          have hbd : Below wr.heap.size wr Wd := by rw [← hWd]; exact (Below.refl _ _).drew
          have hbw := Below.chain hbd HB2.out
          have hvd := HV2.out.chain hbd
          have hrd := hvd.read j (by rw [hlen2, HSL.out.2]; exact hjx)
          rw [hget, Nat.zero_add] at hrd
          have hst := hvd.store j (A[j]'(by rw [HSL.out.2]; exact hjx) ^^^ (scaleL c (bN t))[j]'(by rw [HSL.out.1, HSL.out.2]; exact hjx)) (by rw [hlen2, HSL.out.2]; exact hjx) (nat_xor_lt hA256 (by rw [hsc]; exact gm_lt _ _))
          rw [addSo_set _ A j HSL.out.1 (by rw [HSL.out.1, HSL.out.2]; exact hjx), Nat.zero_add, hsc] at hst
          have HST := Lib.hid (And.intro hst (Lib.hid (hbw.setCell (p := ⟨w.heap.size, j, none⟩) (Nat.le_refl _) (.int .u8 ((A[j]'(by rw [HSL.out.2]; exact hjx) ^^^ gm c t[j].toNat : Nat) : Int)))))
          have hfr := hvd.1.free j
          have hgl := hvd.1.lt
          obtain ⟨g1, o1, rfl, hg1, c1⟩ := HCC.out _ hbw
          have c2 := HTT.out _ hbw
          clear hst hget hlen2 hsc hvd hbd hWd hbw
          simp only [List.take_succ_cons, List.take_zero, List.drop_succ_cons, List.drop_zero]
          repeat still_step
          still_call ((rmul_any c t[j].toNat hc256 hT256 _).mono fun _ _ h => ⟨h.1, h.2.symm⟩)
          repeat still_step
          refine wpStill_nil ?_
          go_wp2_with fail
          go_roundg (x - (j + 1))
          case measure => omega
          case rel => exact ⟨j + 1, hjx, by omega, by go_num, Lib.hid HST.out.1, HST.out.2⟩
        · obtain rfl : j = x := by omega
          rw [HE.out] at HV2
          go_wp2_with fail
          go_roundg (ts.length - (k + 1))
          case measure => omega
          case rel => exact ⟨k + 1, HLT.out, by omega, by go_num, HV2, HB2⟩
    · obtain rfl : k = ts.length := by omega
      have hlt' : ¬ (ts.length : Int) < (ts.length : Int) := by omega
      have hml2 : (mulSo row (tabS ts) ts.length).length = x := by rw [mulSo_length, HWID.out]
      have hrow := HV.out.row (B := 0) (cap := x) (by rw [hml2]; exact Nat.le_refl _) (by unfold maxLen; omega)
      rw [hml2] at hrow
      have hstr := row_string hrow (by rw [hml2]; exact hx0)
      have hB := HB.out
      clear hml2 hrow HV HB
      go_wp2_with fail
      go_ret
      exact ⟨rfl, hB⟩
end Go.Proofs.YtelpkddgcmikfaaDoor
namespace Go.Proofs.YtelpkddgcmikfaaDoor
open Go.RowKit
set_option linter.unusedVariables false
set_option maxRecDepth 100000
set_option maxHeartbeats 2000000
def freshB (acc : List Sh5) (z : Int) (j : Nat) : Bool := !((acc.take j).any fun y => y.1 == z)
theorem fresh_no {acc : List Sh5} {z z' : Int} {s' : List UInt8} {j : Nat} (hj : j < acc.length) (he : acc[j] = (z', s')) (h : ¬ z' = z) : freshB acc z (j + 1) = freshB acc z j := by
  unfold freshB
  rw [List.take_succ_eq_append_getElem hj, he, List.any_append]
  simp [h]
theorem fresh_yes {acc : List Sh5} {z : Int} {s' : List UInt8} {j : Nat} (hj : j < acc.length) (he : acc[j] = (z, s')) : freshB acc z (j + 1) = false := by
  unfold freshB
  rw [List.take_succ_eq_append_getElem hj, he, List.any_append]
  simp
theorem same_no {acc : List Sh5} {z z' : Int} {s s' : List UInt8} {j : Nat} (hj : j < acc.length) (he : acc[j] = (z', s')) (h : z' = z → s' = s) (hs : ∀ y ∈ acc.take j, y.1 = z → y.2 = s) : ∀ y ∈ acc.take (j + 1), y.1 = z → y.2 = s := fun y hy e => by
  rw [List.take_succ_eq_append_getElem hj, he] at hy
  rcases List.mem_append.1 hy with hy | hy
  · exact hs y hy e
  · rw [List.mem_singleton] at hy
    subst hy
    exact h e
theorem fresh_none {acc : List Sh5} {z : Int} (h : freshB acc z acc.length = true) : acc.find? (fun y => y.1 == z) = none := by
  unfold freshB at h
  rw [List.take_length] at h
  rw [List.find?_eq_none]
  intro y hy e
  have : acc.any (fun y => y.1 == z) = true := List.any_eq_true.2 ⟨y, hy, e⟩
  rw [this] at h
  cases h
theorem fresh_some {acc : List Sh5} {z : Int} {s : List UInt8} (h : freshB acc z acc.length = false) (hs : ∀ y ∈ acc.take acc.length, y.1 = z → y.2 = s) : ∃ y, acc.find? (fun y => y.1 == z) = some y ∧ y.2 = s := by
  unfold freshB at h
  rw [List.take_length] at h hs
  cases hf : acc.find? (fun y => y.1 == z) with
  | none =>
    rw [List.find?_eq_none] at hf
    have : acc.any (fun y => y.1 == z) = false := by rw [List.any_eq_false]; exact fun y hy => hf y hy
    rw [this] at h
    cases h
  | some y => exact ⟨y, rfl, hs y (List.mem_of_find?_eq_some hf) (by simpa using List.find?_some hf)⟩
theorem find_nod {acc : List Sh5} (hn : (acc.map (·.1)).Nodup) {z : Int} {s' : List UInt8} {j : Nat} (hj : j < acc.length) (he : acc[j] = (z, s')) : acc.find? (fun y => y.1 == z) = some (z, s') := by
  rw [← he]
  refine find_hit acc j hj z (fun y hy e => ?_) (by rw [he])
  obtain ⟨m, hm, rfl⟩ := List.mem_iff_getElem.1 hy
  rw [List.length_take] at hm
  rw [List.getElem_take] at e
  have h2 : (acc.map (·.1))[m]'(by simp; omega) = (acc.map (·.1))[j]'(by simpa using hj) := by
    rw [List.getElem_map, List.getElem_map, he]
    exact e
  exact List.pairwise_iff_getElem.1 hn m j (by simp; omega) (by simpa using hj) (by omega) h2
theorem nod_snoc {acc : List Sh5} (hn : (acc.map (·.1)).Nodup) {z : Int} {s : List UInt8} (hf : acc.find? (fun y => y.1 == z) = none) : ((acc ++ [(z, s)]).map (·.1)).Nodup := by
  rw [List.map_append, List.nodup_append]
  refine ⟨hn, by simp, fun a ha b hb e => ?_⟩
  rw [List.map_singleton, List.mem_singleton] at hb
  subst hb
  obtain ⟨y, hy, rfl⟩ := List.mem_map.1 ha
  rw [List.find?_eq_none] at hf
  exact hf y hy (by simpa using e)
theorem runl_any (B : Nat) (v : Value) (xs : List Sh5) (n : Nat) (hn : n ≤ 255) (hl : xs.length ≤ 1000) (w : World) (hs : ShAt B w v xs) :
    Calls Tryd.prog 22 #[.int .i64 (n : Nat), v] w fun e w' => ∃ v', e = .returned (.tuple #[v', .int .i64 (unlM n xs).2]) ∧ ShAt 0 w' v' (unlM n xs).1 ∧ Below w.heap.size w w' := by
  obtain ⟨i0, hi, iz0, iz1, iz2⟩ := info_parts infoSh
  obtain ⟨a, cap, rfl, hm1, hm2, hc⟩ := hs
  have hx : ∀ k (hk : k < xs.length), ∃ g off, a = some ⟨g, off, none⟩ ∧ g < w.heap.size ∧ w.cell? ⟨g, off + k * 2, none⟩ = some (.int .i64 xs[k].1) ∧ w.cell? ⟨g, off + k * 2 + 1, none⟩ = some (Str xs[k].2) := fun k hk => by
    rcases hc with e | ⟨g, off, ha, hg, _, hcc⟩
    · subst e; simp at hk
    · exact ⟨g, off, ha, hg, (hcc k hk).1, (hcc k hk).2⟩
  have HX := Lib.hid hx
  clear hc hx
  obtain ⟨L0, hL0⟩ : ∃ L0, ((xs.map (·.2)).headD []).length = L0 := ⟨_, rfl⟩
  obtain ⟨R, hR⟩ : ∃ R, unlM (n : Int) xs = R := ⟨_, rfl⟩
  have HR : Hid (unlGo (n : Int) L0 [] xs = R) := Lib.hid (by rw [← hR, ← hL0]; rfl)
  have H0 : Hid (∀ h : 0 < xs.length, (xs[0]'h).2.length = L0) := Lib.hid (fun h => by
    rw [← hL0]
    cases xs with
    | nil => simp at h
    | cons x xs => rfl)
  rw [hR]
  clear hR hL0
  go_enter Tryd.func22, Tryd.ntmps22
  go_wp2_with fail
  go_loopg [6, 7, 8, 9, 10] xs.length (fun gk v6 i7 _ _ _ wr => ∃ (k : Nat) (acc : List Sh5), k ≤ xs.length ∧ xs.length ≤ k + gk ∧ i7 = .int .i64 k ∧ Hid (unlGo (n : Int) L0 acc (xs.drop k) = R) ∧ acc.length ≤ k ∧ Hid ((acc.map (·.1)).Nodup) ∧
      Hid (Seg wr w.heap.size 50 2 v6 acc.length (cells5 acc)) ∧ Hid (Below w.heap.size w wr))
  case atStart => exact ⟨0, [], Nat.zero_le _, by omega, rfl, HR, Nat.zero_le _, Lib.hid (by simp), Lib.hid (Seg.nil _ _ _ _), Lib.hid (Below.refl _ _)⟩
  case round =>
    obtain ⟨k, acc, hk, hgk, rfl, HU, hacc, HND, HSG, HBW⟩ := hrel
    by_cases hlt : k < xs.length
    · have hdk := List.drop_eq_getElem_cons hlt
      obtain ⟨x, hxk⟩ : ∃ x, xs[k] = x := ⟨_, rfl⟩
      obtain ⟨z, s⟩ := x
      rw [hdk, hxk] at HU
      have hmx : xs.length ≤ 9223372036854775807 := by omega
      have hk2 : (k : Int) < (xs.length : Int) := by omega
      obtain ⟨g, off, rfl, hg, d0, d1⟩ := HX.out k hlt
      obtain ⟨_, _, e, _, _, f1⟩ := HX.out 0 (by omega)
      cases e
      rw [hxk] at d0 d1
      obtain ⟨s0, hs0⟩ : ∃ s0, (xs[0]'(by omega)).2 = s0 := ⟨_, rfl⟩
      have hs0L : s0.length = L0 := by rw [← hs0]; exact H0.out _
      rw [hs0] at f1
      have e0 : wr.cell? ⟨g, off + k * 2, none⟩ = some (.int .i64 z) := (HBW.out.cell (p := ⟨g, _, none⟩) hg).trans d0
      have e1 : wr.cell? ⟨g, off + k * 2 + 1, none⟩ = some (Str s) := (HBW.out.cell (p := ⟨g, _, none⟩) hg).trans d1
      have e2 : wr.cell? ⟨g, off + 1, none⟩ = some (Str s0) := by
        have := (HBW.out.cell (p := ⟨g, off + 0 * 2 + 1, none⟩) hg).trans f1
        rwa [Nat.zero_mul, Nat.add_zero] at this
      have hgw : g < wr.heap.size := Nat.lt_of_lt_of_le hg HBW.out.size
      have hl0 : (0 : Int) < (xs.length : Int) := by omega
      have HLT := Lib.hid hlt
      clear d0 d1 f1 hs0 hxk hdk
      go_upto_region 6 with fail
      have kx := Blk.new wr #[.int .i64 z, Str s] 50
      have hb1 : Below wr.heap.size wr (wr.alloc (.cells #[.int .i64 z, Str s] 50)) := Below.chainAlloc (Below.refl _ _) _
      have e3 := (hb1.cell (p := ⟨g, off + 1, none⟩) hgw).trans e2
      obtain ⟨W1, hW1⟩ : ∃ W1, wr.alloc (.cells #[.int .i64 z, Str s] 50) = W1 := ⟨_, rfl⟩
      obtain ⟨bx, hbx⟩ : ∃ bx, wr.heap.size = bx := ⟨_, rfl⟩
      rw [hW1, hbx] at kx
      rw [hW1] at hb1 e3 ⊢
      rw [hbx]
      obtain ⟨x1, x2, x3⟩ := kx.facts
      have HB1 := Lib.hid hb1
      have HKX := Lib.hid kx
      have HBX := Lib.hid hbx
      clear e0 e1 e2 kx hb1 hbx
      have HWB := Lib.hid (Below.chain HB1.out HBW.out)
      by_cases hidx : z < 0 ∨ (n : Int) ≤ z
      · obtain rfl : R = ([], 2) := HU.out.symm.trans (unl_idx hidx)
        by_cases hz0 : z < 0
        · clear hidx
          go_wp2_with fail
          go_ret2
          exact ⟨_, rfl, ⟨none, 0, rfl, Nat.le_refl _, by simp, .inl rfl⟩, HWB.out⟩
        · have hzn : (n : Int) ≤ z := by omega
          clear hidx
          go_wp2_with fail
          go_ret2
          exact ⟨_, rfl, ⟨none, 0, rfl, Nat.le_refl _, by simp, .inl rfl⟩, HWB.out⟩
      · have hz0 : ¬ z < 0 := by omega
        have hzn : ¬ (n : Int) ≤ z := by omega
        by_cases hlen : s.length < 1 ∨ 1024 < s.length
        · obtain rfl : R = ([], 3) := HU.out.symm.trans (unl_len hidx hlen)
          by_cases hs1 : s.length < 1
          · have hs2 : (s.length : Int) < 1 := by omega
            clear hlen hidx
            go_wp2_with fail
            go_ret2
            exact ⟨_, rfl, ⟨none, 0, rfl, Nat.le_refl _, by simp, .inl rfl⟩, HWB.out⟩
          · have hs2 : ¬ (s.length : Int) < 1 := by omega
            have hs3 : (1024 : Int) < (s.length : Int) := by omega
            clear hlen hidx
            go_wp2_with fail
            go_ret2
            exact ⟨_, rfl, ⟨none, 0, rfl, Nat.le_refl _, by simp, .inl rfl⟩, HWB.out⟩
        · have hs2 : ¬ (s.length : Int) < 1 := by omega
          have hs3 : ¬ (1024 : Int) < (s.length : Int) := by omega
          by_cases hun : s.length = L0
          · have hne2 : ((s.length : Int) != (s0.length : Int)) = false := by simp; omega
            have hne4 : ((s.length : Int) != (L0 : Int)) = false := by simp; omega
            obtain ⟨ao, co, rfl⟩ := HSG.out.form
            have HK := Lib.hid hacc
            have HUN : Hid (acc.find? (fun y => y.1 == z) = none → unlGo (n : Int) L0 (acc ++ [(z, s)]) (xs.drop (k + 1)) = R) := Lib.hid (fun h => (unl_new (xs := xs.drop (k + 1)) (x := (z, s)) hidx hlen hun h).symm.trans HU.out)
            have HUE : Hid (∀ y, acc.find? (fun y => y.1 == z) = some y → y.2 = s → unlGo (n : Int) L0 acc (xs.drop (k + 1)) = R) := Lib.hid (fun y hf e => (unl_old (xs := xs.drop (k + 1)) (x := (z, s)) hidx hlen hun hf e).symm.trans HU.out)
            have HUD : Hid (∀ y, acc.find? (fun y => y.1 == z) = some y → ¬ y.2 = s → R = ([], 16)) := Lib.hid (fun y hf e => HU.out.symm.trans (unl_dif (xs := xs.drop (k + 1)) (x := (z, s)) hidx hlen hun hf e))
            have HLEN := Lib.hid (And.intro hl hk)
            clear hlen hidx HU hun
            go_wp2_with fail
            go_quiet (fail)
            have hd2 : Below W1.heap.size W1 (W1.drewN nq) := below_drewN (Below.refl _ _) nq
            obtain ⟨W2, hW2⟩ : ∃ W2, W1.drewN nq = W2 := ⟨_, rfl⟩
            rw [hW2] at hd2 ⊢
            clear hW2 x1 x2 x3 e3
            have kx2 := HKX.out.below hd2 HKX.out.lt
            have hb2 := Below.chain hd2 HB1.out
            have hsg2 := HSG.out.chain hb2
            have hbw2 := Below.chain hb2 HBW.out
            have HS2 := Lib.hid (And.intro kx2 (And.intro hsg2 hbw2))
            clear kx2 hb2 hsg2 hbw2 hd2
            go_wp2_with fail
            go_loopg [9, 10] acc.length (fun gk v9 i10 wr3 => ∃ j : Nat, j ≤ acc.length ∧ acc.length ≤ j + gk ∧ i10 = .int .i64 j ∧ v9 = .bool (freshB acc z j) ∧ Hid (∀ y ∈ acc.take j, y.1 = z → y.2 = s) ∧ Hid (Below W2.heap.size W2 wr3))
            case atStart => exact ⟨0, Nat.zero_le _, by omega, rfl, rfl, Lib.hid (by simp), Lib.hid (Below.refl _ _)⟩
            case round =>
              obtain ⟨j, hj, hgj, rfl, rfl, HSM, HB3⟩ := hrel
              have hacc2 := HK.out
              by_cases hja : j < acc.length
              · obtain ⟨y, hye⟩ : ∃ y, acc[j] = y := ⟨_, rfl⟩
                obtain ⟨z', s'⟩ := y
                obtain ⟨_, _, e, _, _, hq⟩ := ShAt.of_seg (B := 0) (HS2.out.2.1.chain HB3.out)
                cases e
                rcases hq with e | ⟨ga, oa, rfl, hga, _, hcc⟩
                · rw [e] at hja
                  simp at hja
                obtain ⟨q0, q1⟩ := hcc j hja
                rw [hye] at q0 q1
                have kx3 := HS2.out.1.below HB3.out HS2.out.1.lt
                obtain ⟨y1, y2, y3⟩ := kx3.facts
                have hb4 : Below wr.heap.size wr wr := Below.refl _ _
                have hj2 : (j : Int) < (acc.length : Int) := by omega
                have HJA := Lib.hid hja
                have HYE := Lib.hid hye
                clear hcc hye y2
                by_cases hz : z' = z
                · subst hz
                  by_cases hss : s' = s
                  · subst hss
                    have HSM2 := Lib.hid (same_no HJA.out HYE.out (fun _ => rfl) HSM.out)
                    have HFR := Lib.hid (fresh_yes HJA.out HYE.out)
                    go_wp2_with fail
                    go_quiet (fail)
                    have hd4 : Below wr.heap.size wr (wr.drewN nq) := below_drewN (Below.refl _ _) nq
                    obtain ⟨W4, hW4⟩ : ∃ W4, wr.drewN nq = W4 := ⟨_, rfl⟩
                    rw [hW4] at hd4 ⊢
                    have q0' := (hd4.cell (p := ⟨ga, oa + j * 2, none⟩) hga).trans q0
                    have q1' := (hd4.cell (p := ⟨ga, oa + j * 2 + 1, none⟩) hga).trans q1
                    have y1' := (hd4.cell (p := ⟨bx, 1, none⟩) kx3.lt).trans (y1 1)
                    clear hW4 q0 q1 y1
                    go_wp2_with fail
                    go_quiet (fail)
                    have hd5 : Below W4.heap.size W4 (W4.drewN nq) := below_drewN (Below.refl _ _) nq
                    obtain ⟨W5, hW5⟩ : ∃ W5, W4.drewN nq = W5 := ⟨_, rfl⟩
                    rw [hW5] at hd5 ⊢
                    have HB5 := Lib.hid (Below.chain hd5 (Below.chain hd4 HB3.out))
                    clear hW5 q0' q1' y1' hd4 hd5
                    go_wp2_with fail
                    go_roundg (acc.length - (j + 1))
                    case measure => omega
                    case rel => exact ⟨j + 1, HJA.out, by omega, by go_num, by rw [HFR.out], HSM2, HB5⟩
                  · obtain rfl : R = ([], 16) := HUD.out _ (find_nod HND.out HJA.out HYE.out) hss
                    have hse : (s' == s) = false := by simpa using hss
                    go_wp2_with fail
                    go_quiet (fail)
                    have hd4 : Below wr.heap.size wr (wr.drewN nq) := below_drewN (Below.refl _ _) nq
                    obtain ⟨W4, hW4⟩ : ∃ W4, wr.drewN nq = W4 := ⟨_, rfl⟩
                    rw [hW4] at hd4 ⊢
                    have q0' := (hd4.cell (p := ⟨ga, oa + j * 2, none⟩) hga).trans q0
                    have q1' := (hd4.cell (p := ⟨ga, oa + j * 2 + 1, none⟩) hga).trans q1
                    have y1' := (hd4.cell (p := ⟨bx, 1, none⟩) kx3.lt).trans (y1 1)
                    clear hW4 q0 q1 y1
                    go_wp2_with fail
                    go_quiet (fail)
                    have hd5 : Below W4.heap.size W4 (W4.drewN nq) := below_drewN (Below.refl _ _) nq
                    obtain ⟨W5, hW5⟩ : ∃ W5, W4.drewN nq = W5 := ⟨_, rfl⟩
                    rw [hW5] at hd5 ⊢
                    have HB5 := Lib.hid (Below.chain (Below.chain hd5 (Below.chain hd4 HB3.out)) HS2.out.2.2)
                    clear hW5 q0' q1' y1' hd4 hd5
                    go_wp2_with fail
                    go_ret2
                    exact ⟨_, rfl, ⟨none, 0, rfl, Nat.le_refl _, by simp, .inl rfl⟩, HB5.out⟩
                · have HSM2 := Lib.hid (same_no HJA.out HYE.out (fun e => absurd e hz) HSM.out)
                  have HFR := Lib.hid (fresh_no HJA.out HYE.out hz)
                  have hze : (z' == z) = false := by simpa using hz
                  go_wp2_with fail
                  go_quiet (fail)
                  have hd4 : Below wr.heap.size wr (wr.drewN nq) := below_drewN (Below.refl _ _) nq
                  obtain ⟨W4, hW4⟩ : ∃ W4, wr.drewN nq = W4 := ⟨_, rfl⟩
                  rw [hW4] at hd4 ⊢
                  have HB5 := Lib.hid (Below.chain hd4 HB3.out)
                  clear hW4 q0 q1 y1 hd4
                  go_wp2_with fail
                  go_roundg (acc.length - (j + 1))
                  case measure => omega
                  case rel => exact ⟨j + 1, HJA.out, by omega, by go_num, by rw [HFR.out], HSM2, HB5⟩
              · obtain rfl : j = acc.length := by omega
                have hlt' : ¬ (acc.length : Int) < (acc.length : Int) := by omega
                have HBE := Lib.hid (Below.chain HB3.out HS2.out.2.2)
                have hsg3 := HS2.out.2.1.chain HB3.out
                have HSG3 := Lib.hid hsg3
                cases hfr : freshB acc z acc.length with
                | true =>
                  have HNO := Lib.hid (fresh_none hfr)
                  have kx3 := HS2.out.1.below HB3.out HS2.out.1.lt
                  obtain ⟨y1, y2, y3⟩ := kx3.facts
                  have hcn : ∀ k u, [Value.int .i64 z, Str s][k]? = some u → (wr.alloc (.cells #[.int .i64 z, Str s] 50)).cell? ((⟨wr.heap.size, 0, none⟩ : Addr).add k) = some u := cells_new wr [.int .i64 z, Str s] 50
                  have HCN := Lib.hid hcn
                  obtain ⟨z1, z2⟩ : acc.length + 1 ≤ maxLen ∧ (acc.length + 1) * 24 ≤ 140737488355328 := by
                    have := HLEN.out
                    unfold maxLen
                    omega
                  have hbs : w.heap.size ≤ wr.heap.size := HBE.out.size
                  clear hcn
                  go_wp2_with (at_builtin; refine wpList_append_seg _ rfl (.tmp 75) (.tmp 77) 28 rfl w.heap.size 50 i0 _ 2 24 Tryd.underlying28 hi iz0 iz1 iz2 rfl (by decide) (.slice ao acc.length co) acc.length (cells5 acc) rfl (hsg3.alloc _) ⟨wr.heap.size, 0, none⟩ 1 1 [.int .i64 z, Str s] rfl rfl HCN.out (by simp [Value.oneCell']) (by decide) z1 z2 (by simp; omega) (wr.heap.size + 1) (by simp) ?_; intro g' off' cap' w5 hown hgrow hat)
                  have HOW := Lib.hid hown
                  have HBG := Lib.hid ((Below.chainAlloc HBE.out (.cells #[.int .i64 z, Str s] 50)).grown hgrow (by simp; omega) (fun g hg => (HSG3.out.blk g hg).1))
                  clear hown hgrow hat
                  go_roundg (xs.length - (k + 1))
                  case measure => have := HLT.out; omega
                  case rel =>
                    exact ⟨k + 1, acc ++ [(z, s)], HLT.out, by omega, by go_num, Lib.hid (HUN.out HNO.out), by simp; omega, Lib.hid (nod_snoc HND.out HNO.out), Lib.hid (by rw [cells5_snoc, List.length_append, List.length_singleton]; exact HOW.out), HBG⟩
                | false =>
                  obtain ⟨y, hf, hys⟩ := fresh_some hfr HSM.out
                  have HU3 := Lib.hid (HUE.out y hf hys)
                  clear hf hys hsg3
                  go_wp2_with fail
                  go_roundg (xs.length - (k + 1))
                  case measure => have := HLT.out; omega
                  case rel => exact ⟨k + 1, acc, HLT.out, by omega, by go_num, HU3, by omega, HND, HSG3, HBE⟩
          · obtain rfl : R = ([], 16) := HU.out.symm.trans (unl_unl hidx hlen hun)
            have hne2 : ((s.length : Int) != (s0.length : Int)) = true := by simp; omega
            have hne3 : ¬ (s.length : Int) = (s0.length : Int) := by omega
            clear hlen hidx
            go_wp2_with fail
            go_quiet (fail)
            go_wp2_with fail
            go_ret2
            exact ⟨_, rfl, ⟨none, 0, rfl, Nat.le_refl _, by simp, .inl rfl⟩, below_drewN HWB.out _⟩
    · obtain rfl : k = xs.length := by omega
      rw [List.drop_length] at HU
      obtain rfl : R = (acc, 0) := HU.out.symm
      have hlt' : ¬ (xs.length : Int) < (xs.length : Int) := by omega
      have HF := Lib.hid (ShAt.of_seg (B := 0) HSG.out)
      obtain ⟨a2, p2, rfl, _⟩ := HF.out
      go_wp2_with fail
      go_ret2
      exact ⟨_, rfl, HF.out, HBW.out⟩
end Go.Proofs.YtelpkddgcmikfaaDoor
namespace Go.Proofs.YtelpkddgcmikfaaDoor
open Go.RowKit
set_option linter.unusedVariables false
set_option maxRecDepth 100000
set_option maxHeartbeats 2000000
theorem SegM.grown {w w' : World} {base : Nat} {v : Value} {rows : Tab} {r : Option Nat} (h : SegM w base v rows) (hg : w.grownBy w' r) (hn : ∀ g, v.ownBlock = some g → r ≠ some g) (hap : ∀ x ∈ r.toList, Apart 0 w 5 x) : SegM w' base v rows := by
  obtain ⟨vs, h1, h2, h3⟩ := h
  exact ⟨vs, h1, h2.grown hg hn, fun i hi hi' => (h3 i hi hi').only (Only.of_grown hg) hap⟩
theorem dec_row {n : Int} {L : Nat} {k : Nat} {q : List Sh5} (h : Good5 n L q) {j : Nat} (hj : j < q.length) {z : Int} {s : List UInt8} (hz : q[j] = (z, s)) :
    (pickT k (idx5 q)).take (j + 1) = (pickT k (idx5 q)).take j ++ [rowL k z.toNat] := by
  unfold pickT idx5
  have hl : j < ((q.map fun x => x.1.toNat).map (rowL k)).length := by simpa using hj
  rw [List.take_succ_eq_append_getElem hl, List.getElem_map, List.getElem_map, hz]
/-- What holds ahead of each round of the first loop. -/
def RdRel (K : Nat) (q : List Sh5) (w2 : World) (gk : Nat) (vr vt i : Value) (wr : World) : Prop :=
  ∃ j : Nat, j ≤ K ∧ K ≤ j + gk ∧ i = .int .i64 j ∧ Hid (SegM wr w2.heap.size vr ((pickT K (idx5 q)).take j)) ∧ Hid (Seg wr w2.heap.size 9 1 vt j (((txt5 q).take j).map Str)) ∧
    Hid (∀ g, vr.ownBlock = some g → vt.ownBlock ≠ some g) ∧ Hid (Below w2.heap.size w2 wr)
theorem rdecode_any (B : Nat) (v : Value) (xs : List Sh5) (k n : Int) (hl : xs.length ≤ 1000) (w : World) (hs : ShAt B w v xs) :
    Calls Tryd.prog 14 #[.int .i64 k, .int .i64 n, v] w (DecPost k n xs w) := by
  by_cases hbad : badD k n = true
  · have hd : decM k n xs = ([], 1) := by unfold decM; rw [if_pos hbad]
    refine Calls.mono (R := fun e w' => e = .returned (.tuple #[.slice none 0 0, .int .i64 1]) ∧ w' = w) ?_ (fun e w' h => by obtain ⟨rfl, rfl⟩ := h; exact DecPost.no hd (Below.refl _ _))
    obtain ⟨a, cap, rfl, _⟩ := hs
    clear hd
    unfold badD at hbad
    by_cases h1 : k < 1
    · clear hbad
      go_enter Tryd.func14, Tryd.ntmps14
      go_wp2_with fail
      go_ret2
      exact ⟨rfl, rfl⟩
    · by_cases h2 : 32 < k
      · clear hbad
        go_enter Tryd.func14, Tryd.ntmps14
        go_wp2_with fail
        go_ret2
        exact ⟨rfl, rfl⟩
      · by_cases h3 : n < k
        · clear hbad
          go_enter Tryd.func14, Tryd.ntmps14
          go_wp2_with fail
          go_ret2
          exact ⟨rfl, rfl⟩
        · have h4 : 255 < n := by simpa [h1, h2, h3] using hbad
          clear hbad
          go_enter Tryd.func14, Tryd.ntmps14
          go_wp2_with fail
          go_ret2
          exact ⟨rfl, rfl⟩
  · have hb := hbad
    simp only [badD, Bool.or_eq_true, decide_eq_true_eq] at hb
    obtain ⟨K, rfl⟩ : ∃ K : Nat, k = K := ⟨k.toNat, by omega⟩
    obtain ⟨N, rfl⟩ : ∃ N : Nat, n = N := ⟨n.toNat, by omega⟩
    have g1 : ¬ (K : Int) < 1 := by omega
    have g2 : ¬ (32 : Int) < (K : Int) := by omega
    have g3 : ¬ (N : Int) < (K : Int) := by omega
    have g4 : ¬ (255 : Int) < (N : Int) := by omega
    have HU := Lib.hid (runl_any B v xs N (by omega) hl w hs)
    have HM : Hid (decM (K : Int) (N : Int) xs = if (unlM (N : Int) xs).2 ≠ 0 then ([], (unlM (N : Int) xs).2) else if ((unlM (N : Int) xs).1.length : Int) < (K : Int) then ([], 15) else (decD K ((unlM (N : Int) xs).1.take K), 0)) := Lib.hid (by
      unfold decM
      rw [if_neg hbad, Int.toNat_natCast])
    have HG : Hid ((unlM (N : Int) xs).2 = 0 → ∃ L0, Good5 (N : Int) L0 (unlM (N : Int) xs).1 ∧ ∀ x ∈ (unlM (N : Int) xs).1, 1 ≤ x.2.length ∧ x.2.length ≤ 1024) := Lib.hid (fun h => ⟨_, unl_good xs [] ⟨by simp, by simp, by simp⟩ h, unl_pos xs [] (by simp) h⟩)
    obtain ⟨a, cap, rfl, _⟩ := hs
    clear hb hbad
    generalize unlM (N : Int) xs = M at *
    obtain ⟨m, z⟩ := M
    by_cases hz : z = 0
    · subst hz
      by_cases hlt : (m.length : Int) < (K : Int)
      · have hd : decM (K : Int) (N : Int) xs = ([], 15) := by rw [HM.out, if_neg (by simp), if_pos hlt]
        go_enter Tryd.func14, Tryd.ntmps14
        go_wp2_with fail
        refine HU.out.mono ?_
        rintro e w1 ⟨v1, rfl, hv1, hb1⟩
        obtain ⟨a1, c1, rfl, _⟩ := hv1
        go_wp2_with fail
        go_ret2
        exact DecPost.no hd hb1
      · have hKm : K ≤ m.length := by omega
        obtain ⟨L0, hgood, hpos⟩ := HG.out rfl
        have hd : decM (K : Int) (N : Int) xs = (decD K (m.take K), 0) := by rw [HM.out, if_neg (by simp), if_neg hlt]
        have hq := hgood.take K
        have hql : (m.take K).length = K := by rw [List.length_take]; omega
        have hL : 1 ≤ L0 ∧ L0 ≤ 1024 := by
          have h0 : 0 < m.length := by omega
          have h2 := hpos _ (List.getElem_mem h0)
          rw [hgood.len _ (List.getElem_mem h0)] at h2
          exact h2
        obtain ⟨iR, hiR, zR0, zR1, zR2⟩ := info_parts infoRow
        obtain ⟨iS, hiS, zS0, zS1, zS2⟩ := info_parts infoStr5
        go_enter Tryd.func14, Tryd.ntmps14
        go_wp2_with fail
        refine HU.out.mono ?_
        rintro e w1 ⟨v1, rfl, hv1, hb1⟩
        have hv1' := hv1
        obtain ⟨a1, c1, rfl, hc1, hc2, hc3⟩ := hv1
        have hKc : (K : Int) ≤ (c1 : Int) := by omega
        have hKm2 : (K : Int) ≤ (m.length : Int) := by omega
        have hKd : decide (m.length < K) = false := decide_eq_false (by omega)
        have hx : ∀ j (hj : j < (m.take K).length), ∃ g off, a1 = some ⟨g, off, none⟩ ∧ g < w1.heap.size ∧ w1.cell? ⟨g, off + j * 2, none⟩ = some (.int .i64 ((m.take K)[j]'hj).1) ∧ w1.cell? ⟨g, off + j * 2 + 1, none⟩ = some (Str ((m.take K)[j]'hj).2) := fun j hj => by
          have hj0 : j < m.length := by rw [List.length_take] at hj; omega
          rcases hc3 with e | ⟨g, off, ha, hg, _, hcc⟩
          · rw [e] at hj0; simp at hj0
          · rw [List.getElem_take]
            exact ⟨g, off, ha, hg, (hcc j hj0).1, (hcc j hj0).2⟩
        have HX := Lib.hid hx
        have HB := Lib.hid hb1
        have HGG := Lib.hid (And.intro hq (And.intro hL hd))
        have hK0 : 1 ≤ K := by omega
        have hK32 : K ≤ 32 := by omega
        have hN255 : N ≤ 255 := by omega
        have hKN : K ≤ N := by omega
        have HQL := Lib.hid hql
        clear hv1' hb1 hgood hpos hq hd HG HM hc2 hc3 hx hL hql
        go_wp2_with fail
        generalize m.take K = q at *
        go_loopg [10, 11, 12, 13, 14] K (fun gk vr vt i _ _ wr => RdRel K q w1 gk vr vt i wr)
        case atStart => exact ⟨0, Nat.zero_le _, by omega, rfl, Lib.hid (SegM.nil _ _), Lib.hid (Seg.nil _ _ _ _), Lib.hid (fun g h => by cases h), Lib.hid (Below.refl _ _)⟩
        case round =>
          obtain ⟨j, hj, hgj, rfl, HSR, HST, HSEP, HBW⟩ := hrel
          by_cases hjk : j < K
          · have hjq : j < q.length := by rw [HQL.out]; exact hjk
            obtain ⟨g, off, rfl, hg, d0, d1⟩ := HX.out j hjq
            obtain ⟨z, s, hzs⟩ : ∃ z s, q[j] = (z, s) := ⟨_, _, rfl⟩
            rw [hzs] at d0 d1
            have HRW := Lib.hid (dec_row (k := K) HGG.out.1 hjq hzs)
            have HLS := Lib.hid (dec_ls hjq hzs)
            obtain ⟨hz0, hzN⟩ := HGG.out.1.num _ (List.getElem_mem hjq)
            rw [hzs] at hz0 hzN
            obtain ⟨i, rfl⟩ : ∃ i : Nat, z = (i : Int) := ⟨z.toNat, by simp at hz0; omega⟩
            rw [Int.toNat_natCast] at HRW
            have e0 : wr.cell? ⟨g, off + j * 2, none⟩ = some (.int .i64 (i : Int)) := (HBW.out.cell (p := ⟨g, _, none⟩) hg).trans d0
            have e1 : wr.cell? ⟨g, off + j * 2 + 1, none⟩ = some (Str s) := (HBW.out.cell (p := ⟨g, _, none⟩) hg).trans d1
            have hgw : g < wr.heap.size := Nat.lt_of_lt_of_le hg HBW.out.size
            have hj2 : (j : Int) < (K : Int) := by omega
            have hj3 : (j : Int) < (m.length : Int) := by omega
            have hiN : (i : Int) < (N : Int) := hzN
            have HJK := Lib.hid hjk
            have he : rowE (K : Nat) (N : Nat) (i : Nat) = 0 := rowE_ok (by simp [badKN]; omega) (by omega) (by omega)
            have hv : rowV (K : Nat) (N : Nat) (i : Nat) = rowL K i := by unfold rowV; rw [if_pos he]; rfl
            have HR := Lib.hid (rrow_any (K : Nat) (N : Nat) (i : Nat) wr)
            unfold RowPost at HR
            rw [he, hv] at HR
            have hrl : (rowL K i).length = K := rowL_length K i
            have HRL := Lib.hid hrl
            have hlr : ((pickT K (idx5 q)).take j).length = j := by
              rw [List.length_take]
              unfold pickT idx5
              rw [List.length_map, List.length_map]
              omega
            clear d0 d1 he hv hzs hz0 hzN hrl
            go_wp2_with fail
            refine HR.out.mono ?_
            rintro e wa ⟨va, rfl, hva, hba⟩
            have hva0 := hva 0
            obtain ⟨aa, ca, rfl, _⟩ := hva0.at
            rw [HRL.out]
            rw [HRL.out] at hva0
            have e1a := (hba.cell (p := ⟨g, off + j * 2 + 1, none⟩) hgw).trans e1
            have HSR2 := Lib.hid (HSR.out.chain hba)
            have HST2 := Lib.hid (HST.out.chain hba)
            have HBW2 := Lib.hid (Below.chain hba HBW.out)
            have HVA := Lib.hid hva0
            obtain ⟨ar, cr, rfl⟩ := HSR2.out.form hlr
            obtain ⟨at', ct, rfl⟩ := HST2.out.form
            obtain ⟨vs, hv1, hv2, hv3⟩ := HSR2.out
            have hv2' := hv2
            rw [hlr] at hv2
            have hbz : w1.heap.size ≤ wa.heap.size := HBW2.out.size
            have hgwa : g < wa.heap.size := Nat.lt_of_lt_of_le hgw hba.size
            obtain ⟨z1, z2, z3⟩ : j + 1 ≤ maxLen ∧ (j + 1) * 24 ≤ 140737488355328 ∧ (j + 1) * 16 ≤ 140737488355328 := by unfold maxLen; omega
            have HV := Lib.hid (And.intro hv1 (And.intro hv2' hv3))
            have HHV := Lib.hid hv2
            have HSP := HSEP
            clear hba e0 e1 hva hva0 hv1 hv2' hv3 HSR HST HBW HR
            have hba2 : Below wa.heap.size wa (wa.alloc (.cells #[.slice aa K ca] 45)) := Below.chainAlloc (Below.refl _ _) _
            have e1c := (hba2.cell (p := ⟨g, off + j * 2 + 1, none⟩) hgwa).trans e1a
            have HBA2 := Lib.hid hba2
            clear e1a hba2
            go_upto_region 15 with (at_builtin; refine wpList_append_seg _ rfl (.tmp 63) (.tmp 65) 67 rfl w1.heap.size 45 iR _ 1 24 Tryd.underlying67 hiR zR0 zR1 zR2 rfl (by decide) (.slice ar j cr) j vs rfl (hv2.alloc _) ⟨wa.heap.size, 0, none⟩ 1 1 [.slice aa K ca] rfl rfl (cells_new _ _ _) (by simp [Value.oneCell']) (by decide) z1 z2 (by simp; omega) (wa.heap.size + 1) (size_alloc _ _) ?_; intro g' off' cap' w3 hown hgrow hat)
            obtain ⟨hv1, hv2', hv3⟩ := HV.out
            have e1b := (grown_cell hgrow g (off + j * 2 + 1) (by simp; omega) (fun e => by have := (HHV.out.blk g e.symm).1; omega)).trans e1c
            have hsm := SegM.snoc hv1 hv2' hv3 HVA.out (by rw [hlr]; exact hown) hgrow
            rw [← HRW.out] at hsm
            have hst3 : Seg w3 w1.heap.size 9 1 (.slice at' j ct) j (((txt5 q).take j).map Str) := Seg.grown (HST2.out.chain HBA2.out) hgrow (fun g hg e => HSP.out g e hg)
            have hb3 := (Below.chain HBA2.out HBW2.out).grown hgrow (by simp; omega) (fun g hg => (HHV.out.blk g hg).1)
            have hne3 : ∀ g2, (Value.slice at' j ct).ownBlock = some g2 → g' ≠ g2 ∧ g2 < w3.heap.size := fun g2 h2 => ⟨fun e => by
              rcases hat with h | h
              · exact HSP.out g' h (by rw [e]; exact h2)
              · have := (HST2.out.blk g2 h2).2
                omega, (hst3.blk g2 h2).2⟩
            have hgb := (hsm.blk g' rfl)
            have hs3 : w1.heap.size ≤ w3.heap.size := hb3.size
            have HSM := Lib.hid hsm
            have HST3 := Lib.hid hst3
            have HB3 := Lib.hid hb3
            have HNE3 := Lib.hid hne3
            have HGB := Lib.hid hgb
            clear hown hgrow hat e1c hsm hb3 hv2 hv1 hv2' hv3 hne3 hgb HVA HV HHV HBA2 HSR2 HST2
            go_wp2_with (at_builtin; refine wpList_append_seg _ rfl (.tmp 67) (.tmp 73) 38 rfl w1.heap.size 9 iS _ 1 16 Tryd.underlying38 hiS zS0 zS1 zS2 rfl (by decide) (.slice at' j ct) j (((txt5 q).take j).map Str) rfl (hst3.alloc _) ⟨w3.heap.size, 0, none⟩ 1 1 [Str s] rfl rfl (cells_new _ _ _) (by simp [Value.oneCell']) (by decide) z1 z3 (by simp; omega) (w3.heap.size + 1) (size_alloc _ _) ?_; intro g2 off2 cap2 w5 hown2 hgrow2 hat2)
            have hap := (HST3.out.alloc (.cells #[Str s] 9)).apart (t := 5) (B := 0) (by decide) (Nat.zero_le _)
            have hsm5 := (HSM.out.chain (Below.chainAlloc (Below.refl _ _) (.cells #[Str s] 9))).grown hgrow2 (fun g hg e => by
              obtain rfl : g' = g := by simpa [Value.ownBlock] using hg
              exact (HNE3.out _ e).1 rfl) hap
            have hb5 := (Below.chainAlloc HB3.out (.cells #[Str s] 9)).grown hgrow2 (by simp; omega) (fun g hg => (HST3.out.blk g hg).1)
            have HF := Lib.hid (And.intro hown2 (And.intro hsm5 hb5))
            have HAT := Lib.hid hat2
            clear hown2 hgrow2 hat2 hap hsm5 hb5 hst3 e1b
            go_roundg (K - (j + 1))
            case rel =>
              obtain ⟨f1, f2, f3⟩ := HF.out
              refine ⟨j + 1, HJK.out, by have := HJK.out; omega, by go_num, Lib.hid f2, Lib.hid (by rw [HLS.out]; exact f1), Lib.hid (fun g hg hg2 => ?_), Lib.hid f3⟩
              obtain rfl : g' = g := by simpa [Value.ownBlock] using hg
              obtain rfl : g2 = g' := by simpa [Value.ownBlock] using hg2
              rcases HAT.out with h | h
              · exact (HNE3.out _ h).1 rfl
              · have := HGB.out.2
                omega
            case measure => have := HJK.out; omega
          · obtain rfl : j = K := by omega
            have hpl : (pickT j (idx5 q)).length = j := by
              unfold pickT idx5
              rw [List.length_map, List.length_map]
              exact HQL.out
            have htl : (txt5 q).length = j := by unfold txt5; rw [List.length_map]; exact HQL.out
            have hsr := HSR.out
            have hst := HST.out
            rw [List.take_of_length_le (by omega)] at hsr hst
            have hinv : invE (pickT j (idx5 q)) = 0 := dec_inv HGG.out.1 (by omega) (by omega) (by omega) HQL.out
            have hAll : AllB (pickT j (idx5 q)) := (gd_pick j (idx5 q)).all
            obtain ⟨_, _, hXX, _, _⟩ := inv_facts hAll hinv
            rw [hpl] at hXX
            have hXl : (invV (pickT j (idx5 q))).length = j := hXX.len
            have HXW := Lib.hid hXX.wide
            have HIV := Lib.hid (rinvert_any 0 _ (pickT j (idx5 q)) wr hsr.mat)
            unfold InvPost at HIV
            rw [hinv] at HIV
            have hlenX : ∀ t ∈ txt5 q, t.length = L0 := fun t ht => by
              obtain ⟨x, hx, rfl⟩ := List.mem_map.1 ht
              exact HGG.out.1.len x hx
            have HLX := Lib.hid hlenX
            have HTL := Lib.hid htl
            have HDM := Lib.hid HGG.out.2.2
            have HLL := Lib.hid HGG.out.2.1
            have HDD : Hid (decD j q = (invV (pickT j (idx5 q))).map fun r => mixS r (txt5 q)) := Lib.hid rfl
            have HST1 := Lib.hid hst
            have HBB := Lib.hid (Below.chain HBW.out HB.out)
            obtain ⟨ar, cr, rfl⟩ := hsr.form hpl
            obtain ⟨at', ct, rfl⟩ := hst.form
            have HSL := Lib.hid (SlAt.of_seg (B := 0) hst)
            have hlt' : ¬ (j : Int) < (j : Int) := by omega
            clear hsr hst hinv hAll hXX hlenX htl hpl HSR HST HSEP HBW HGG
            generalize invV (pickT j (idx5 q)) = Z at *
            go_wp2_with fail
            refine HIV.out.mono ?_
            rintro e w4 ⟨v4, rfl, hv4, hb4⟩
            obtain ⟨a4, c4, rfl, _⟩ := hv4.at
            rw [hXl]
            have HV4 := Lib.hid hv4
            have HSL4 := Lib.hid (HSL.out.chain hb4)
            have HBB4 := Lib.hid (Below.chain hb4 HBB.out)
            clear hv4 hb4 HIV HSL HBB HST1
            go_wp2_with fail
            go_loopg [17, 18] j (fun gk vo i wr => ∃ n : Nat, n ≤ j ∧ j ≤ n + gk ∧ i = .int .i64 n ∧ Hid (Seg wr w4.heap.size 9 1 vo n ((Z.map fun r => mixS r (txt5 q)).take n |>.map Str)) ∧ Hid (Below w4.heap.size w4 wr))
            case atStart => exact ⟨0, Nat.zero_le _, by omega, rfl, Lib.hid (Seg.nil _ _ _ _), Lib.hid (Below.refl _ _)⟩
            case round =>
              obtain ⟨n, hn, hgn, rfl, HSO, HBO⟩ := hrel
              by_cases hnj : n < j
              · have hnZ : n < Z.length := by omega
                obtain ⟨_, _, e, _, hcm⟩ := (HV4.out.chain HBO.out).at
                rw [hXl] at e
                cases e
                obtain ⟨g, off, u, rfl, hg, hck, hrow⟩ := hcm n hnZ
                have hsnoc : (Z.map fun r => mixS r (txt5 q)).take (n + 1) = (Z.map fun r => mixS r (txt5 q)).take n ++ [mixS Z[n] (txt5 q)] := by
                  rw [List.take_succ_eq_append_getElem (by simpa using hnZ), List.getElem_map]
                have HSN := Lib.hid hsnoc
                have hw := HXW.out n hnZ
                have HMX := Lib.hid (rmix_any 0 0 u _ Z[n] (txt5 q) L0 wr hrow (HSL4.out.chain HBO.out) (by rw [hw, HTL.out]) (by rw [HTL.out]; omega) HLX.out (by have := HLL.out; omega) (by have := HLL.out; omega))
                obtain ⟨au, cu, rfl, _⟩ := hrow.at
                have hn2 : (n : Int) < (j : Int) := by omega
                have HNJ := Lib.hid hnj
                have hn1000 : n ≤ 1000 := by omega
                clear hcm hsnoc hw hrow
                generalize Z[n] = r at *
                go_wp2_with fail
                refine HMX.out.mono ?_
                rintro e wb ⟨rfl, hbb⟩
                have hso := HSO.out.chain hbb
                have HBO2 := Lib.hid (Below.chain hbb HBO.out)
                have hsz : w4.heap.size ≤ wb.heap.size := HBO2.out.size
                obtain ⟨ao, co, rfl⟩ := hso.form
                have HSO2 := Lib.hid hso
                obtain ⟨z1, z2⟩ : n + 1 ≤ maxLen ∧ (n + 1) * 16 ≤ 140737488355328 := by unfold maxLen; omega
                clear hbb HMX HSO HBO hck
                generalize mixS r (txt5 q) = sm at *
                go_wp2_with (at_builtin; refine wpList_append_seg _ rfl (.tmp 85) (.tmp 92) 38 rfl w4.heap.size 9 iS _ 1 16 Tryd.underlying38 hiS zS0 zS1 zS2 rfl (by decide) (.slice ao n co) n _ rfl (hso.alloc _) ⟨wb.heap.size, 0, none⟩ 1 1 [Str sm] rfl rfl (cells_new _ _ _) (by simp [Value.oneCell']) (by decide) z1 z2 (by simp; omega) (wb.heap.size + 1) (size_alloc _ _) ?_; intro g2 off2 cap2 w5 hown hgrow hat)
                have HOW := Lib.hid hown
                have HB5 := Lib.hid ((Below.chainAlloc HBO2.out (.cells #[Str sm] 9)).grown hgrow (by simp; omega) (fun g hg => (HSO2.out.blk g hg).1))
                clear hown hgrow hat hso
                go_roundg (j - (n + 1))
                case measure => have := HNJ.out; omega
                case rel =>
                  refine ⟨n + 1, HNJ.out, by have := HNJ.out; omega, by go_num, Lib.hid ?_, HB5⟩
                  rw [HSN.out, List.map_append, List.map_singleton]
                  exact HOW.out
              · obtain rfl : n = j := by omega
                have hso := HSO.out
                rw [List.take_of_length_le (by rw [List.length_map]; omega), ← HDD.out] at hso
                have hdl : (decD n q).length = n := by rw [HDD.out, List.length_map]; exact hXl
                have HSA := Lib.hid (SlAt.of_seg (B := 0) (by
                  have h := hso
                  exact h))
                obtain ⟨ao, co, rfl⟩ := hso.form
                have HBF := Lib.hid (Below.chain HBO.out HBB4.out)
                clear hso hdl
                go_wp2_with fail
                go_ret2
                exact ⟨_, by rw [HDM.out]; rfl, by rw [HDM.out]; exact HSA.out, HBF.out⟩
    · have hd : decM (K : Int) (N : Int) xs = ([], z) := by rw [HM.out, if_pos hz]
      have hne : (z != 0) = true := by simpa using hz
      go_enter Tryd.func14, Tryd.ntmps14
      go_wp2_with fail
      refine HU.out.mono ?_
      rintro e w1 ⟨v1, rfl, hv1, hb1⟩
      obtain ⟨a1, c1, rfl, _⟩ := hv1
      go_wp2_with fail
      go_ret2
      exact DecPost.no hd hb1
end Go.Proofs.YtelpkddgcmikfaaDoor
