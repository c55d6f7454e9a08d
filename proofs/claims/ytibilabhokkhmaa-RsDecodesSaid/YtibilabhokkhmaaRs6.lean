/-
  More shards than needed: data of which all shards are there; what is mixed of shards: the closure (chapter 5).
-/
import Derived.Test.YtibilabhokkhmaaRs5
namespace Go.Proofs.Ytibilabhokkhmaa
open Go.RowKit
set_option linter.unusedVariables false
set_option maxRecDepth 100000
set_option maxHeartbeats 1000000
def tn5 (x : Sh5) : Nat × List UInt8 := (x.1.toNat, x.2)
def putN (k : Nat) (xs : List Sh5) : List (List UInt8) := putP k (xs.map tn5)
theorem putN_length (k : Nat) (xs : List Sh5) : (putN k xs).length = k := by
  unfold putN putP
  rw [putP_length k, List.length_replicate]
theorem putN_snoc (k : Nat) (xs : List Sh5) (x : Sh5) : putN k (xs ++ [x]) = (putN k xs).set x.1.toNat x.2 := by
  unfold putN putP
  rw [List.map_append, List.foldl_append]
  rfl
def allK (k : Nat) (xs : List Sh5) : Bool := xs.all fun x => decide (x.1 < (k : Int))
theorem plain_any (B : Nat) (v : Value) (xs : List Sh5) (k : Nat) (hk : k ≤ 32) (h0 : ∀ x ∈ xs, 0 ≤ x.1) (w : World) (hs : ShAt B w v xs) :
    Calls Try.prog 55 #[.int .i64 (k : Nat), v] w fun e w' => ∃ v', e = .returned (.tuple #[v', .bool (allK k xs)]) ∧ SlAt 0 w' 9 v' ((if allK k xs = true then putN k xs else []).map Str) ∧ Below w.heap.size w w' := by
  obtain ⟨a, cap, rfl, hm1, hm2, hc⟩ := hs
  have hmx : xs.length ≤ 9223372036854775807 := by unfold maxLen at hm2; omega
  have hx : ∀ j (hj : j < xs.length), ∃ g off, a = some ⟨g, off, none⟩ ∧ g < w.heap.size ∧ w.cell? ⟨g, off + j * 2, none⟩ = some (.int .i64 xs[j].1) ∧ w.cell? ⟨g, off + j * 2 + 1, none⟩ = some (Str xs[j].2) := fun j hj => by
    rcases hc with e | ⟨g, off, ha, hg, _, hcc⟩
    · subst e; simp at hj
    · exact ⟨g, off, ha, hg, (hcc j hj).1, (hcc j hj).2⟩
  have HX := Lib.hid hx
  have H0 := Lib.hid h0
  clear hc hx h0
  have hmk := mk_str k (by omega)
  have hz : OwnV (w.alloc (.cells (Array.replicate k (Str [])) 9)) w.heap.size 0 9 ((putN k []).map Str) := by
    have := OwnV.of_blk (Blk.new w (Array.replicate k (Str [])) 9)
    simpa [putN, putP] using this
  have HZ := Lib.hid hz
  obtain ⟨A, hA⟩ : ∃ A, allK k xs = A := ⟨_, rfl⟩
  have HA := Lib.hid hA
  rw [hA]
  clear hz hA
  go_enter Try.func55, Try.ntmps55
  go_wp2_with fail
  clear hmk
  go_loopw [8, 13] (fun _ i13 wr => ∃ j : Nat, j ≤ xs.length ∧ i13 = .int .i64 j ∧ Hid (∀ x ∈ xs.take j, x.1 < (k : Int)) ∧ Hid (OwnV wr w.heap.size 0 9 ((putN k (xs.take j)).map Str)) ∧ Hid (Below w.heap.size w wr)) (fun _ i13 _ => xs.length - (intOf i13).toNat)
  case atStart => exact ⟨0, Nat.zero_le _, rfl, Lib.hid (by simp), HZ, Lib.hid ((Below.refl _ _).alloc (Nat.le_refl _) _)⟩
  case round =>
    obtain ⟨j, hj, rfl, hall, HOW, HBW⟩ := hrel
    by_cases hlt : j < xs.length
    · obtain ⟨g, off, rfl, hg, d0, d1⟩ := HX.out j hlt
      have HTK := Lib.hid (List.take_succ_eq_append_getElem hlt)
      have HMM := Lib.hid (H0.out _ (List.getElem_mem hlt))
      have HME := Lib.hid (List.getElem_mem hlt)
      obtain ⟨x, hxk⟩ : ∃ x, xs[j] = x := ⟨_, rfl⟩
      obtain ⟨z, s⟩ := x
      rw [hxk] at HTK HMM d0 d1 HME
      have e0 : wr.cell? ⟨g, off + j * 2, none⟩ = some (.int .i64 z) := (HBW.out.cell (p := ⟨g, _, none⟩) hg).trans d0
      have e1 : wr.cell? ⟨g, off + j * 2 + 1, none⟩ = some (Str s) := (HBW.out.cell (p := ⟨g, _, none⟩) hg).trans d1
      have hj2 : (j : Int) < (xs.length : Int) := by omega
      have HLT := Lib.hid hlt
      clear d0 d1 hxk
      go_upto_region 5 with fail
      have kx := Blk.new wr #[.int .i64 z, Str s] 71
      have hb1 : Below wr.heap.size wr (wr.alloc (.cells #[.int .i64 z, Str s] 71)) := Below.chainAlloc (Below.refl _ _) _
      obtain ⟨W1, hW1⟩ : ∃ W1, wr.alloc (.cells #[.int .i64 z, Str s] 71) = W1 := ⟨_, rfl⟩
      obtain ⟨bx, hbx⟩ : ∃ bx, wr.heap.size = bx := ⟨_, rfl⟩
      rw [hW1, hbx] at kx
      rw [hW1] at hb1 ⊢
      rw [hbx]
      have ho1 := HOW.out.chain hb1
      have hB1 := Below.chain hb1 HBW.out
      obtain ⟨x1, x2, x3⟩ := kx.facts
      clear e0 e1 kx hb1
      by_cases hzk : z < (k : Int)
      · obtain ⟨i, hzi⟩ : ∃ i : Nat, z = (i : Int) := ⟨z.toNat, by have := HMM.out; simp at this; omega⟩
        subst hzi
        have hik : i < k := by omega
        have hi0 : (0 : Int) ≤ (i : Int) := by omega
        have hge : ¬ (k : Int) ≤ (i : Int) := by omega
        have hil : i < ((putN k (xs.take j)).map Str).length := by rw [List.length_map, putN_length]; exact hik
        have hst := ho1.store i (Str s) hil
        have hcl := ho1.2.2 i hil
        have hfr : W1.frozen? ⟨w.heap.size, i, none⟩ = false := ho1.free i
        rw [Nat.zero_add] at hcl hst
        rw [← List.map_set, show (putN k (xs.take j)).set i s = putN k (xs.take (j + 1)) from by rw [HTK.out, putN_snoc]; rfl] at hst
        have HST := Lib.hid hst
        have HB2 := Lib.hid (hB1.setCell (p := ⟨w.heap.size, i, none⟩) (Nat.le_refl _) (Str s))
        have HN := Lib.hid (fun x (hx : x ∈ xs.take (j + 1)) => show x.1 < (k : Int) by
          rw [HTK.out] at hx
          rcases List.mem_append.1 hx with h | h
          · exact hall.out x h
          · rw [List.mem_singleton.1 h]; exact hzk)
        clear hst ho1 hB1
        go_wp2_with fail
        go_roundw
        case rel => exact ⟨j + 1, HLT.out, by go_num, HN, HST, HB2⟩
        case measure => have := HLT.out; simp [intOf]; omega
      · have hge : (k : Int) ≤ z := by omega
        have hAf : A = false := by
          rw [← HA.out]
          unfold allK
          rw [List.all_eq_false]
          exact ⟨_, HME.out, by simpa using hzk⟩
        subst hAf
        have HB2 := Lib.hid hB1
        clear ho1 hB1
        go_wp2_with fail
        go_ret2
        exact ⟨_, rfl, SlAt.nil _ _ _, HB2.out⟩
    · obtain rfl : j = xs.length := by omega
      have hall2 := hall.out
      have ho := HOW.out
      rw [List.take_length] at hall2 ho
      have hAt : A = true := by
        rw [← HA.out]
        unfold allK
        rw [List.all_eq_true]
        exact fun x hx => by simpa using hall2 x hx
      subst hAt
      have hs : SlAt 0 wr 9 (.slice (some ⟨w.heap.size, 0, none⟩) k k) ((putN k xs).map Str) := by
        have := ho.slAt (B := 0) (cap := k) (by simp [putN_length]) (by unfold maxLen; omega)
        simpa [putN_length] using this
      have HS := Lib.hid hs
      have hlt' : ¬ (xs.length : Int) < (xs.length : Int) := by omega
      clear ho hs hall2
      go_wp2_with fail
      go_ret2
      exact ⟨_, rfl, HS.out, HBW.out⟩
/-- One of the decoded data: the closure. -/
theorem dec1_any (bb bt : Nat) (vb vt : Value) (rows : Tab) (ts : List (List UInt8)) (x i : Nat) (hi : i < rows.length) (hw : ∀ r ∈ rows, r.length = ts.length) (h0 : 0 < ts.length) (hx : ∀ t ∈ ts, t.length = x) (hx1 : x ≤ 1100) (hx0 : 0 < x) (w : World)
    (hr : MatAt 0 w vb rows) (ht : SlAt 0 w 9 vt (ts.map Str)) (kb : Blk w bb #[vb] 30) (kt : Blk w bt #[vt] 60) :
    Calls Try.prog 57 #[.int .i64 (i : Nat), .pointer (some ⟨bb, 0, none⟩), .pointer (some ⟨bt, 0, none⟩)] w fun e w' => e = .returned (Str (mixS rows[i] ts)) ∧ Below w.heap.size w w' := by
  obtain ⟨ab, cb, rfl, hmb, hcb⟩ := hr.at
  obtain ⟨at', ct, rfl, hmt, _⟩ := strs_at ht
  obtain ⟨g, off, u, rfl, hg, hck, hru⟩ := hcb i hi
  have hi2 : (i : Int) < (rows.length : Int) := by omega
  have hi3 : (0 : Int) ≤ (i : Int) := by omega
  have HM := Lib.hid (fun w' (h' : Below w.heap.size w w') => mixed_any 0 0 u (.slice at' ts.length ct) rows[i] ts x w' (hru.chain h') (ht.chain h') (hw _ (List.getElem_mem hi)) h0 hx hx1 hx0)
  have hmk : ∀ w', Below w.heap.size w w' → ((w'.cell? ⟨bb, 0, none⟩ = some (.slice (some ⟨g, off, none⟩) rows.length cb) ∧ w'.cell? ⟨bt, 0, none⟩ = some (.slice at' ts.length ct) ∧ w'.cell? ⟨g, off + i, none⟩ = some u) ∧ Below w.heap.size w w') := fun w' h =>
    ⟨⟨(h.cell (p := ⟨bb, 0, none⟩) kb.lt).trans (kb.facts.1 0), (h.cell (p := ⟨bt, 0, none⟩) kt.lt).trans (kt.facts.1 0), (h.cell (p := ⟨g, off + i, none⟩) hg).trans hck⟩, h⟩
  have HMK := Lib.hid hmk
  obtain ⟨au, cu, rfl, hxx⟩ := hru.at
  clear hxx hmk hru hcb hck kb kt ht hr hw
  generalize mixS rows[i] ts = m at *
  generalize rows[i].length = ul at *
  go_enter Try.func57, Try.ntmps57
  go_upto_region 1 with fail
  go_region_held3 (fun w' => (w'.cell? ⟨bb, 0, none⟩ = some (.slice (some ⟨g, off, none⟩) rows.length cb) ∧ w'.cell? ⟨bt, 0, none⟩ = some (.slice at' ts.length ct) ∧ w'.cell? ⟨g, off + i, none⟩ = some (.slice au ul cu)) ∧ Below w.heap.size w w')
    (first
      | exact HMK.out _ (Below.refl _ _).drew
      | exact HMK.out _ (Below.refl _ _)
      | (go_split_ands; exact HMK.out _ (Below.chain hb (by first | assumption | exact (Below.refl _ _).drew | exact Below.refl _ _))))
    ((go_at_call 58; refine (HM.out _ (by first | (go_split_ands; assumption) | exact (Below.refl _ _).drew | exact Below.refl _ _)).mono ?_; rintro x w3 ⟨rfl, hb⟩))
  rename_i hHeld
  obtain ⟨_, hbb⟩ := hHeld
  clear hb
  go_wp2_with fail
  go_ret
  exact ⟨rfl, hbb⟩
end Go.Proofs.Ytibilabhokkhmaa
