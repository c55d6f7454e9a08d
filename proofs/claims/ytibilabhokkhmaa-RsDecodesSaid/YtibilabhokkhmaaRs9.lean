/-
  More shards than needed: the law's examples (chapter 5).
-/
import Derived.Test.YtibilabhokkhmaaRs8
import Derived.Test.YtibilabhokkhmaaRsT
import Derived.Test.YtibilabhokkhmaaRsSh
namespace Go.Proofs.Ytibilabhokkhmaa
open Go.RowKit
set_option linter.unusedVariables false
set_option maxRecDepth 100000
set_option maxHeartbeats 1000000
theorem awake05 (w : World) : Calls Try.prog 35 #[] w fun e w' => e = .returned (.bool true) ∧ Below w.heap.size w w' := by
  have E1 : Hid (mayS [[1]] 3 = 0 ∧ encS [[1]] 3 = [[1], [1], [142]]) := Lib.hid (by decide +kernel)
  have E2 : Hid (mayS [] 3 = 1 ∧ encS [] 3 = []) := Lib.hid (by decide +kernel)
  have D1 : Hid (decM 1 3 [(2, [142])] = ([[1]], 0)) := Lib.hid (by decide +kernel)
  have D2 : Hid (decM 2 3 [(2, [97])] = ([], 15)) := Lib.hid (by decide +kernel)
  have D3 : Hid (decM 2 3 [(2, [97]), (2, [98])] = ([], 16)) := Lib.hid (by decide +kernel)
  have S1 : Hid (mayS [[97, 98], [99, 100]] 3 = 0 ∧ shardS 2 [[97, 98], [99, 100]] 1 = [99, 100]) := Lib.hid (by decide +kernel)
  have T1 : Hid (textsB [[1], [1], [142]] [[1], [1], [142]] = true ∧ textsB [[1]] [[1]] = true) := Lib.hid (by decide +kernel)
  go_enter Try.func35, Try.ntmps35
  go_wp2_with fail
  have hl1 : SlAt 0 (w.alloc (.cells #[.string ⟨#[1]⟩] 9)) 9 (.slice (some ⟨w.heap.size, 0, none⟩) 1 1) ([[1]].map Str) :=
    SlAt.of_blk (vs := [Str [1]]) (Blk.new w _ _) (Nat.le_refl 1) (by unfold maxLen; omega)
  refine (encode_any 0 _ _ 3 _ hl1).mono ?_
  rw [E1.out.1, E1.out.2]
  rintro e w1 ⟨v1, rfl, hv1, hb1⟩
  obtain ⟨a1, p1, rfl, _⟩ := strs_at hv1
  have HV1 := Lib.hid hv1
  have hB1 := Below.chain hb1 (Below.chainAlloc (Below.refl _ w) _)
  clear hv1 hb1 hl1
  go_wp2_with fail
  refine (decode_any 0 _ [(2, [142])] 1 3 (by decide) _ (ShAt.new w1 [(2, [142])] (by decide) (by simp))).mono ?_
  unfold DecPost
  rw [D1.out]
  rintro e w2 ⟨v2, rfl, hv2, hb2⟩
  obtain ⟨a2, p2, rfl, _⟩ := strs_at hv2
  have HV2 := Lib.hid (And.intro ((HV1.out.alloc _).chain hb2) hv2)
  have hB2 := Below.chain hb2 (Below.chainAlloc hB1 _)
  clear hv2 hb2 hB1 HV1
  go_wp2_with fail
  refine (decode_any 0 _ [(2, [97])] 2 3 (by decide) _ (ShAt.new w2 [(2, [97])] (by decide) (by simp))).mono ?_
  unfold DecPost
  rw [D2.out]
  rintro e w3 ⟨v3, rfl, hv3, hb3⟩
  obtain ⟨a3, p3, rfl, _⟩ := strs_at hv3
  have HV3 := Lib.hid (And.intro ((HV2.out.1.alloc _).chain hb3) ((HV2.out.2.alloc _).chain hb3))
  have hB3 := Below.chain hb3 (Below.chainAlloc hB2 _)
  clear hv3 hb3 hB2 HV2
  go_wp2_with fail
  refine (encode_any 0 _ [] 3 _ (SlAt.nil _ _ _)).mono ?_
  rw [E2.out.1, E2.out.2]
  rintro e w4 ⟨v4, rfl, hv4, hb4⟩
  obtain ⟨a4, p4, rfl, _⟩ := strs_at hv4
  have HV4 := Lib.hid (And.intro (HV3.out.1.chain hb4) (HV3.out.2.chain hb4))
  have hB4 := Below.chain hb4 hB3
  clear hv4 hb4 hB3 HV3
  go_wp2_with fail
  refine (decode_any 0 _ [(2, [97]), (2, [98])] 2 3 (by decide) _ (ShAt.new w4 [(2, [97]), (2, [98])] (by decide) (by simp))).mono ?_
  unfold DecPost
  rw [D3.out]
  rintro e w5 ⟨v5, rfl, hv5, hb5⟩
  obtain ⟨a5, p5, rfl, _⟩ := strs_at hv5
  have HV5 := Lib.hid (And.intro ((HV4.out.1.alloc _).chain hb5) ((HV4.out.2.alloc _).chain hb5))
  have hB5 := Below.chain hb5 (Below.chainAlloc hB4 _)
  clear hv5 hb5 hB4 HV4
  go_wp2_with fail
  have hl6 : SlAt 0 (w5.alloc (.cells #[.string ⟨#[97, 98]⟩, .string ⟨#[99, 100]⟩] 9)) 9 (.slice (some ⟨w5.heap.size, 0, none⟩) 2 2) ([[97, 98], [99, 100]].map Str) :=
    SlAt.of_blk (vs := [Str [97, 98], Str [99, 100]]) (Blk.new w5 _ _) (Nat.le_refl 2) (by unfold maxLen; omega)
  refine (shard5_any 0 _ [[97, 98], [99, 100]] 3 1 S1.out.1 (by decide) _ hl6).mono ?_
  rw [show ([[97, 98], [99, 100]] : List (List UInt8)).length = 2 from rfl, S1.out.2]
  rintro e w6 ⟨rfl, hb6⟩
  have HV6 := Lib.hid (And.intro ((HV5.out.1.alloc _).chain hb6) ((HV5.out.2.alloc _).chain hb6))
  have hB6 := Below.chain hb6 (Below.chainAlloc hB5 _)
  clear hb6 hB5 HV5 hl6
  go_wp2_with fail
  have hl7 : SlAt 0 (w6.alloc (.cells #[.string ⟨#[1]⟩, .string ⟨#[1]⟩, .string ⟨#[142]⟩] 9)) 9 (.slice (some ⟨w6.heap.size, 0, none⟩) 3 3) ([[1], [1], [142]].map Str) :=
    SlAt.of_blk (vs := [Str [1], Str [1], Str [142]]) (Blk.new w6 _ _) (Nat.le_refl 3) (by unfold maxLen; omega)
  refine (texts_c _ (HV6.out.1.alloc _) hl7).mono ?_
  rw [T1.out.1]
  rintro e w7 ⟨rfl, hd7⟩
  have HV7 := Lib.hid ((HV6.out.2.alloc _).chain hd7.below)
  have hB7 := Below.chain hd7.below (Below.chainAlloc hB6 _)
  clear hd7 hB6 HV6 hl7
  go_wp2_with fail
  have hl8 : SlAt 0 (w7.alloc (.cells #[.string ⟨#[1]⟩] 9)) 9 (.slice (some ⟨w7.heap.size, 0, none⟩) 1 1) ([[1]].map Str) :=
    SlAt.of_blk (vs := [Str [1]]) (Blk.new w7 _ _) (Nat.le_refl 1) (by unfold maxLen; omega)
  refine (texts_c _ (HV7.out.alloc _) hl8).mono ?_
  rw [T1.out.2]
  rintro e w8 ⟨rfl, hd8⟩
  have hB8 := Below.chain hd8.below (Below.chainAlloc hB7 _)
  clear hd8 hB7 HV7 hl8
  go_wp2_with fail
  go_ret
  exact ⟨rfl, hB8⟩
def FewPost (w : World) (e : Ending) (w' : World) : Prop := ∃ b : Bool, e = .returned (.bool b) ∧ w' = w
theorem few_any (B : Nat) (v : Value) (ds : List (List UInt8)) (w : World) (h : SlAt B w 9 v (ds.map Str)) :
    Calls Try.prog 39 #[v] w (FewPost w) := by
  have h0 := h
  obtain ⟨a, cap, rfl, hm, _⟩ := strs_at h
  clear h
  by_cases h1 : 40 < ds.length
  · have h1' : (40 : Int) < (ds.length : Int) := by omega
    go_enter Try.func39, Try.ntmps39
    go_wp2_with fail
    go_ret
    exact ⟨false, rfl, rfl⟩
  · have h1' : ¬ (40 : Int) < (ds.length : Int) := by omega
    go_enter Try.func39, Try.ntmps39
    go_wp2_with fail
    go_loopw [3] (fun i wr => ∃ k : Nat, k ≤ ds.length ∧ i = .int .i64 k ∧ wr = w) (fun i _ => ds.length - (intOf i).toNat)
    case atStart => exact ⟨0, by omega, rfl, rfl⟩
    case round =>
      obtain ⟨k, hk, rfl, rfl⟩ := hrel
      by_cases hlt : k < ds.length
      · obtain ⟨_, _, e, _, h1⟩ := strs_at h0
        cases e
        obtain ⟨g1, o1, rfl, hg1, c1⟩ := h1 k hlt
        clear h1
        have hlt' : (k : Int) < (ds.length : Int) := by omega
        have HH := Lib.hid hlt
        generalize ds[k] = x at *
        by_cases q1 : (40 : Int) < (x.length : Int) ∧ (x.length : Int) ≤ 1024
        · obtain ⟨q2, q3⟩ := q1
          go_wp2_with fail
          go_ret
          exact ⟨false, rfl, rfl⟩
        · by_cases q2 : (1100 : Int) < (x.length : Int)
          · have q3 : (40 : Int) < (x.length : Int) := by omega
            have q4 : ¬ (x.length : Int) ≤ 1024 := by omega
            clear q1
            go_wp2_with fail
            go_ret
            exact ⟨false, rfl, rfl⟩
          · by_cases q3 : (40 : Int) < (x.length : Int)
            · have q4 : ¬ (x.length : Int) ≤ 1024 := fun q => q1 ⟨q3, q⟩
              clear q1
              go_wp2_with fail
              go_roundw
              case rel => exact ⟨k + 1, HH.out, by go_num, by first | rfl | trivial⟩
              case measure => have := HH.out; simp [intOf]; omega
            · clear q1
              go_wp2_with fail
              go_roundw
              case rel => exact ⟨k + 1, HH.out, by go_num, by first | rfl | trivial⟩
              case measure => have := HH.out; simp [intOf]; omega
      · have hlt' : ¬ (k : Int) < (ds.length : Int) := by omega
        go_wp2_with fail
        go_ret
        exact ⟨true, rfl, rfl⟩
end Go.Proofs.Ytibilabhokkhmaa
