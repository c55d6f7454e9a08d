/-
  More shards than needed: so many shards, each by its number; Encode (chapter 5).
-/
import Derived.Test.YtibilabhokkhmaaRs2
import Derived.Shelf.Abstract
namespace Go.Proofs.Ytibilabhokkhmaa
open Go.RowKit
set_option linter.unusedVariables false
set_option maxRecDepth 100000
set_option maxHeartbeats 1000000
theorem infoStr5 : (Try.prog.info? 9).map (fun i => (i.zero, i.size, i.bytes)) = some (some (Str []), 1, 16) := by kernel_rfl
theorem made_str (k : Nat) : madeCells #[Str []] k = Array.replicate k (Str []) := by
  apply Array.ext
  · simp [madeCells]
  · intro j h1 h2
    simp [madeCells, Nat.mod_one]
theorem mk_str (k : Nat) (hk : k ≤ 16777216) (w : World) : (Instr.makeSlice 60 (.int .i64 (k : Int)) (.int .i64 (k : Int))).run Try.prog w = .ok (.slice (some ⟨w.heap.size, 0, none⟩) k k) (w.alloc (.cells (Array.replicate k (Str [])) 9)) := by
  obtain ⟨i0, hi, hz0, hz1, hz2⟩ := info_parts infoStr5
  have := run_make (P := Try.prog) w 60 9 i0 (Str []) Try.underlying60 hi hz0 .i64 .i64 k k (by omega) (by omega) (by rw [hz2]; omega) (by omega)
  rw [this, hz1, Nat.mul_one, Int.toNat_natCast]
  rw [show (Str []).cells = #[Str []] from rfl, made_str]
/-- The texts so far. -/
def eachSo (F : Nat → List UInt8) (n k : Nat) : List (List UInt8) := (List.range k).map F ++ List.replicate (n - k) []
theorem eachSo_length (F : Nat → List UInt8) (n k : Nat) (h : k ≤ n) : (eachSo F n k).length = n := by simp [eachSo]; omega
theorem eachSo_set (F : Nat → List UInt8) (n k : Nat) (h : k < n) : (eachSo F n k).set k (F k) = eachSo F n (k + 1) := by
  unfold eachSo
  rw [List.set_append_right _ _ (by simp), List.length_map, List.length_range, Nat.sub_self]
  obtain ⟨m, hm⟩ : ∃ m, n - k = m + 1 := ⟨n - k - 1, by omega⟩
  rw [hm, show n - (k + 1) = m by omega, List.replicate_succ, List.set_cons_zero, List.range_succ, List.map_append, List.append_assoc]
  rfl
theorem each_any (f : Nat) (binds : Array Value) (n : Nat) (hn : n ≤ 255) (F : Nat → List UInt8) (w : World) (hen : ∀ args w, (callFunc f args).run Try.prog w = .ok (.enter f args) w)
    (HC : ∀ i w', i < n → Below w.heap.size w w' → Calls Try.prog f (#[.int .i64 (i : Nat)] ++ binds) w' fun e w'' => e = .returned (Str (F i)) ∧ Below w'.heap.size w' w'') :
    Calls Try.prog 56 #[.int .i64 (n : Nat), .func (.func f) #[] binds] w fun e w' => ∃ v, e = .returned v ∧ SlAt 0 w' 9 v (((List.range n).map F).map Str) ∧ Below w.heap.size w w' := by
  have hmk := mk_str n (by omega)
  have hz : OwnV (w.alloc (.cells (Array.replicate n (Str [])) 9)) w.heap.size 0 9 ((eachSo F n 0).map Str) := by
    have := OwnV.of_blk (Blk.new w (Array.replicate n (Str [])) 9)
    simpa [eachSo] using this
  have HZ := Lib.hid hz
  have HCC := Lib.hid HC
  clear HC hz
  go_enter Try.func56, Try.ntmps56
  go_wp2_with fail
  clear hmk
  go_loopw [6, 11] (fun _ i wr => ∃ k : Nat, k ≤ n ∧ i = .int .i64 k ∧ Hid (OwnV wr w.heap.size 0 9 ((eachSo F n k).map Str)) ∧ Below w.heap.size w wr) (fun _ i _ => n - (intOf i).toNat)
  case atStart => exact ⟨0, Nat.zero_le _, rfl, HZ, (Below.refl _ _).alloc (Nat.le_refl _) _⟩
  case round =>
    obtain ⟨k, hk, rfl, ho, hB⟩ := hrel
    by_cases hlt : k < n
    · have hk2 : (k : Int) < (n : Int) := by omega
      go_wp2_with fail
      refine (HCC.out k _ hlt hB).mono ?_
      rintro e w2 ⟨rfl, hb2⟩
      have ho2 := ho.out.chain hb2
      have hB2 := Below.chain hb2 hB
      have hkl : k < ((eachSo F n k).map Str).length := by rw [List.length_map, eachSo_length F n k hk]; exact hlt
      have hst := ho2.store k (Str (F k)) hkl
      rw [← List.map_set, eachSo_set F n k hlt] at hst
      have hcl := ho2.2.2 k hkl
      have hfr : w2.frozen? ⟨w.heap.size, k, none⟩ = false := ho2.free k
      rw [Nat.zero_add] at hcl hst
      have HST := Lib.hid hst
      have hB3 : Below w.heap.size w (w2.setCell ⟨w.heap.size, k, none⟩ (Str (F k))) := hB2.setCell (p := ⟨w.heap.size, k, none⟩) (Nat.le_refl _) _
      have HB3 := Lib.hid hB3
      clear hst ho2 hB2 hb2 hB3 ho
      go_wp2_with fail
      go_roundw
      case rel => exact ⟨k + 1, hlt, by go_num, HST, HB3.out⟩
      case measure => simp [intOf]; omega
    · obtain rfl : k = n := by omega
      have hlt' : ¬ (k : Int) < (k : Int) := by omega
      have hs : SlAt 0 wr 9 (.slice (some ⟨w.heap.size, 0, none⟩) k k) (((List.range k).map F).map Str) := by
        have h1 := ho.out
        have e : eachSo F k k = (List.range k).map F := by simp [eachSo]
        rw [e] at h1
        have := h1.slAt (B := 0) (cap := k) (by simp) (by unfold maxLen; omega)
        simpa using this
      have HS := Lib.hid hs
      clear ho hs
      go_wp2_with fail
      go_ret
      exact ⟨_, rfl, by have h := HS.out; rw [List.map_map] at h; exact h, hB⟩
/-- A shard of data: the closure. -/
theorem enc1_any (bk bd bn : Nat) (B : Nat) (vd : Value) (ds : List (List UInt8)) (n i : Nat) (hd0 : checkS ds = 0) (hkn : ds.length ≤ n) (hn : n ≤ 255) (hi : i < n) (w : World) (hs : SlAt B w 9 vd (ds.map Str))
    (h1 : Blk w bk #[.int .i64 (ds.length : Nat)] 3) (h2 : Blk w bd #[vd] 60) (h3 : Blk w bn #[.int .i64 (n : Nat)] 3) :
    Calls Try.prog 62 #[.int .i64 (i : Nat), .pointer (some ⟨bk, 0, none⟩), .pointer (some ⟨bd, 0, none⟩), .pointer (some ⟨bn, 0, none⟩)] w fun e w' => e = .returned (Str (shardS ds.length ds i)) ∧ Below w.heap.size w w' := by
  obtain ⟨k1, k2, k3, k4, k5⟩ := checkS_ok hd0
  have hs0 := hs
  obtain ⟨a, cap, rfl, hm, hat⟩ := strs_at hs
  clear hs
  by_cases hlt : i < ds.length
  · have hsh : shardS ds.length ds i = ds[i] := by rw [shard_plain rfl k1 k5 i hlt, getD_get _ _ _ hlt]
    rw [hsh]
    obtain ⟨g, off, rfl, hg, c0⟩ := hat i hlt
    have hl1 : (i : Int) < (ds.length : Int) := by omega
    obtain ⟨q1, _, _⟩ := h1.facts
    obtain ⟨q2, _, _⟩ := h2.facts
    clear hat hs0 h1 h2 h3 hsh k5
    generalize ds[i] = x at *
    go_enter Try.func62, Try.ntmps62
    go_wp2_with fail
    go_ret
    exact ⟨rfl, Below.refl _ _⟩
  · have hl1 : ¬ (i : Int) < (ds.length : Int) := by omega
    have HR := Lib.hid (crow_any (ds.length : Nat) (n : Nat) (i : Nat))
    have he : rowE (ds.length : Nat) (n : Nat) (i : Nat) = 0 := rowE_ok (by simp [badKN]; omega) (by omega) (by omega)
    have hv : rowV (ds.length : Nat) (n : Nat) (i : Nat) = rowL ds.length i := by unfold rowV; rw [if_pos he]; rfl
    obtain ⟨q1, _, l1⟩ := h1.facts
    obtain ⟨q2, _, l2⟩ := h2.facts
    obtain ⟨q3, _, l3⟩ := h3.facts
    have HH2 := Lib.hid h2
    have HS := Lib.hid hs0
    have HK := Lib.hid (And.intro k5 (And.intro k3 k4))
    have HL := Lib.hid (rowL_length ds.length i)
    clear hat hs0 h1 h2 h3 k5
    go_enter Try.func62, Try.ntmps62
    go_wp2_with fail
    refine (HR.out _).mono ?_
    rintro e w1 ⟨v1, rfl, hv1, hb1⟩
    rw [he]
    have hv2 := hv1 0
    rw [hv] at hv2
    have hc2 : w1.cell? ⟨bd, 0, none⟩ = some (.slice a ds.length cap) := (hb1.cell (p := ⟨bd, 0, none⟩) l2).trans (q2 0)
    have HM := Lib.hid (mixed_any 0 B v1 (.slice a ds.length cap) (rowL ds.length i) ds (ds.headD []).length w1 hv2 (HS.out.chain hb1) HL.out (by omega) HK.out.1 (by have := HK.out.2.2; omega) (by have := HK.out.2.1; omega))
    clear hv1 hv2 q1 q2 q3 he hv
    go_wp2_with fail
    refine HM.out.mono ?_
    rintro e w2 ⟨rfl, hb2⟩
    have hB := Below.chain hb2 hb1
    clear hb1 hb2
    go_wp2_with fail
    go_ret
    exact ⟨rfl, hB⟩
def encS (ds : List (List UInt8)) (n : Int) : List (List UInt8) := if mayS ds n = 0 then (List.range n.toNat).map (shardS ds.length ds) else []
theorem encode_any (B : Nat) (v : Value) (ds : List (List UInt8)) (n : Int) (w : World) (h : SlAt B w 9 v (ds.map Str)) :
    Calls Try.prog 40 #[v, .int .i64 n] w fun e w' => ∃ v', e = .returned (.tuple #[v', .int .i64 (mayS ds n)]) ∧ SlAt 0 w' 9 v' ((encS ds n).map Str) ∧ Below w.heap.size w w' := by
  have h0 := h
  obtain ⟨a, cap, rfl, hm, _⟩ := strs_at h
  clear h
  have k1 := (Blk.new w #[.slice a ds.length cap] 60).alloc (.cells #[.int .i64 n] 3)
  have k2 := Blk.newAt (w := w.alloc (.cells #[.slice a ds.length cap] 60)) (n := w.heap.size + 1) (cs := #[.int .i64 n]) (t := 3) (by simp)
  have hB : Below w.heap.size w ((w.alloc (.cells #[.slice a ds.length cap] 60)).alloc (.cells #[.int .i64 n] 3)) := ((Below.refl _ w).alloc (Nat.le_refl _) _).alloc (by simp) _
  have hM := rsmay_any B _ ds n _ (h0.chain hB)
  by_cases h1 : mayS ds n = 0
  · have hck : checkS ds = 0 := by
      unfold mayS at h1
      split at h1
      · rename_i hne; exact absurd h1 hne
      · rename_i hne; omega
    have hnn : ¬ (n < (ds.length : Int) ∨ 255 < n) := fun hx => by
      unfold mayS at h1
      rw [if_neg (by omega), if_pos hx] at h1
      cases h1
    obtain ⟨N, rfl⟩ : ∃ N : Nat, n = N := ⟨n.toNat, by omega⟩
    have e : encS ds (N : Int) = (List.range N).map (shardS ds.length ds) := by unfold encS; rw [if_pos h1]; rfl
    rw [e, h1]
    rw [h1] at hM
    have hkN : ds.length ≤ N := by omega
    have hN : N ≤ 255 := by omega
    have k3 := Blk.newAt (w := (w.alloc (.cells #[.slice a ds.length cap] 60)).alloc (.cells #[.int .i64 (N : Nat)] 3)) (n := w.heap.size + 2) (cs := #[.int .i64 (ds.length : Nat)]) (t := 3) (by simp)
    have k1' := k1.alloc (.cells #[.int .i64 (ds.length : Nat)] 3)
    have k2' := k2.alloc (.cells #[.int .i64 (ds.length : Nat)] 3)
    have hB' := Below.chainAlloc hB (.cells #[.int .i64 (ds.length : Nat)] 3)
    have HE := Lib.hid (each_any 62 #[.pointer (some ⟨w.heap.size + 2, 0, none⟩), .pointer (some ⟨w.heap.size, 0, none⟩), .pointer (some ⟨w.heap.size + 1, 0, none⟩)] N hN (shardS ds.length ds) (((w.alloc (.cells #[.slice a ds.length cap] 60)).alloc (.cells #[.int .i64 (N : Nat)] 3)).alloc (.cells #[.int .i64 (ds.length : Nat)] 3))
      (enters_of Try.func62 (by kernel_rfl) rfl) (fun i w' hi hb => enc1_any _ _ _ B _ ds N i hck hkN hN hi w' (h0.chain (Below.chain hb hB')) (k3.below hb k3.lt) (k1'.below hb k1'.lt) (k2'.below hb k2'.lt)))
    obtain ⟨c1, f1, l1⟩ := k1.facts
    obtain ⟨c2, f2, l2⟩ := k2.facts
    have HM := Lib.hid hM
    have HB := Lib.hid hB'
    clear hM k1 k2 k3 k1' k2' e hB hB' h0 hck hnn h1
    go_enter Try.func40, Try.ntmps40
    go_wp2_with fail
    refine HM.out.mono ?_
    rintro e w1 ⟨rfl, hw1⟩
    subst hw1
    go_wp2_with fail
    refine HE.out.mono ?_
    rintro e w2 ⟨v2, rfl, hv2, hb2⟩
    obtain ⟨a2, p2, rfl, _⟩ := strs_at hv2
    have hln : ((List.range N).map (shardS ds.length ds)).length = N := by simp
    rw [hln] at hv2 ⊢
    have HV := Lib.hid hv2
    have HB2 := Lib.hid (Below.chain hb2 HB.out)
    clear hv2 hb2
    go_wp2_with fail
    go_ret2
    exact ⟨_, rfl, HV.out, HB2.out⟩
  · have e : encS ds n = [] := by unfold encS; rw [if_neg h1]
    have hne : (mayS ds n != 0) = true := by simpa using h1
    rw [e]
    generalize mayS ds n = z at *
    obtain ⟨c1, f1, l1⟩ := k1.facts
    obtain ⟨c2, f2, l2⟩ := k2.facts
    have HM := Lib.hid hM
    have HB := Lib.hid hB
    clear hM k1 k2 e hB h0
    go_enter Try.func40, Try.ntmps40
    go_wp2_with fail
    refine HM.out.mono ?_
    rintro e w1 ⟨rfl, rfl⟩
    go_wp2_with fail
    go_ret2
    exact ⟨_, rfl, SlAt.nil _ _ _, HB.out⟩
end Go.Proofs.Ytibilabhokkhmaa
