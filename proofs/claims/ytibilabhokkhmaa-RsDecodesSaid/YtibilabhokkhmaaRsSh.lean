/-
  More shards than needed: Shard; shards that are written out (chapter 5).
-/
import Derived.Test.YtibilabhokkhmaaRs5
namespace Go.Proofs.Ytibilabhokkhmaa
open Go.RowKit
set_option linter.unusedVariables false
set_option maxRecDepth 100000
set_option maxHeartbeats 1000000
theorem shard5_any (B : Nat) (v : Value) (ds : List (List UInt8)) (n i : Nat) (hm : mayS ds (n : Nat) = 0) (hi : i < n) (w : World) (hs : SlAt B w 9 v (ds.map Str)) :
    Calls Try.prog 53 #[v, .int .i64 (n : Nat), .int .i64 (i : Nat)] w fun e w' => e = .returned (.tuple #[Str (shardS ds.length ds i), .int .i64 0]) ∧ Below w.heap.size w w' := by
  have hck : checkS ds = 0 := by
    unfold mayS at hm
    split at hm
    · rename_i hne; exact absurd hm hne
    · rename_i hne; omega
  have hnn : ¬ ((n : Int) < (ds.length : Int) ∨ 255 < (n : Int)) := fun hx => by
    unfold mayS at hm
    rw [if_neg (by omega), if_pos hx] at hm
    cases hm
  obtain ⟨k1, k2, k3, k4, k5⟩ := checkS_ok hck
  have HM := Lib.hid (rsmay_any B v ds n w hs)
  rw [hm] at HM
  have HR := Lib.hid (crow_any (ds.length : Nat) (n : Nat) (i : Nat))
  have he : rowE (ds.length : Nat) (n : Nat) (i : Nat) = 0 := rowE_ok (by simp [badKN]; omega) (by omega) (by omega)
  have hv : rowV (ds.length : Nat) (n : Nat) (i : Nat) = rowL ds.length i := by unfold rowV; rw [if_pos he]; rfl
  have HS := Lib.hid hs
  have HK := Lib.hid (And.intro k5 (And.intro k3 k4))
  have HL := Lib.hid (rowL_length ds.length i)
  obtain ⟨a, cap, rfl, hmx, _⟩ := strs_at hs
  have hin : (i : Int) < (n : Int) := by omega
  have h0 : 0 < ds.length := by omega
  clear hs hck hnn k5 hm
  go_enter Try.func53, Try.ntmps53
  go_wp2_with fail
  refine HM.out.mono ?_
  rintro e w0 ⟨rfl, rfl⟩
  go_wp2_with fail
  refine (HR.out _).mono ?_
  rintro e w1 ⟨v1, rfl, hv1, hb1⟩
  rw [he]
  have hv2 := hv1 0
  rw [hv] at hv2
  have HX := Lib.hid (mixed_any 0 B v1 (.slice a ds.length cap) (rowL ds.length i) ds (ds.headD []).length w1 hv2 (HS.out.chain hb1) HL.out h0 HK.out.1 (by have := HK.out.2.2; omega) (by have := HK.out.2.1; omega))
  clear hv1 hv2 he hv
  go_wp2_with fail
  refine HX.out.mono ?_
  rintro e w2 ⟨rfl, hb2⟩
  have hB := Below.chain hb2 hb1
  clear hb1 hb2
  go_wp2_with fail
  go_ret2
  exact ⟨rfl, hB⟩
theorem ShAt.new (w : World) (xs : List Sh5) (hm : xs.length ≤ 1000) (hne : xs ≠ []) : ShAt 0 (w.alloc (.cells (cells5 xs).toArray 71)) (.slice (some ⟨w.heap.size, 0, none⟩) xs.length xs.length) xs := by
  have hk := Blk.new w (cells5 xs).toArray 71
  refine ⟨_, _, rfl, Nat.le_refl _, by unfold maxLen; omega, .inr ⟨_, 0, rfl, hk.lt, .inr ⟨_, _, hk⟩, fun i hi => ?_⟩⟩
  obtain ⟨c1, _, _⟩ := hk.facts
  obtain ⟨g1, g2⟩ := cells5_get xs i hi
  exact ⟨by rw [Nat.zero_add, c1, List.getElem?_toArray]; exact g1, by rw [Nat.zero_add, c1, List.getElem?_toArray]; exact g2⟩
end Go.Proofs.Ytibilabhokkhmaa
