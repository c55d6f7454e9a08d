/-
  Datagrams: their bytes: the program's contract (chapter 10).
-/
import Derived.Test.YtphejbjbleeigaaDg6
import Derived.Test.YtphejbjbleeigaaCrcW
import Derived.Test.YtphejbjbleeigaaDgL
namespace Go.Proofs.Ytphejbjbleeigaa
open Go.RowKit
set_option linter.unusedVariables false
set_option maxRecDepth 100000
set_option maxHeartbeats 2000000
attribute [local go_sem ↓] Go.wp_at_zero Go.wp_at_succ
theorem put_gen (f1 f2 f3 f4 : Nat) (kind stream block index k n len credit : Int) (hv body R : List UInt8) (hR : R.length ≤ 2000) (k0 : 0 ≤ kind) (k1 : kind < 256) (s0 : 0 ≤ stream) (s1 : stream < 256) (b0 : 0 ≤ block) (b1 : block < 4294967296)
    (T : List UInt8) (hT : [76, 83] ++ be kind 1 ++ be stream 1 ++ be block 4 ++ R = T)
    (E2 : Enters Try.prog f2)
    (HOf : ∀ w, Calls Try.prog 55 #[.int .i64 kind] w (RetB (.tuple #[.agg #[fnV f1, fnV f2, fnV f3, fnV f4], .bool true]) w))
    (HC : ∀ w, Calls Try.prog 19 #[.agg #[.int .i64 kind, .int .i64 stream, .int .u32 block, .int .i64 index, .int .i64 k, .int .i64 n, .int .i64 len, .int .i64 credit, Str hv, Str body]] w (RetB (.int .i64 0) w))
    (H2 : ∀ w, Calls Try.prog f2 #[.agg #[.int .i64 kind, .int .i64 stream, .int .u32 block, .int .i64 index, .int .i64 k, .int .i64 n, .int .i64 len, .int .i64 credit, Str hv, Str body]] w (RetB (Str R) w)) (w : World) :
    Calls Try.prog 17 #[.agg #[.int .i64 kind, .int .i64 stream, .int .u32 block, .int .i64 index, .int .i64 k, .int .i64 n, .int .i64 len, .int .i64 credit, Str hv, Str body]] w
    (RetB (.tuple #[Str (T ++ be (crcS T : Nat) 4), .int .i64 0]) w) := by
  unfold Enters at E2
  have HO := Lib.hid HOf
  have HCk := Lib.hid HC
  have HD := Lib.hid H2
  have P1 : putS kind 1 = be kind 1 := putS_ok kind 1 (by omega) k0 (by omega)
  have P2 : putS stream 1 = be stream 1 := putS_ok stream 1 (by omega) s0 (by omega)
  have P3 : putS block 4 = be block 4 := putS_ok block 4 (by omega) b0 (by omega)
  have P3e : putE block 4 = 0 := by unfold putE; rw [if_neg (by decide), if_neg (by omega)]
  have L1 : (be kind 1).length = 1 := be_length _ _
  have L2 : (be stream 1).length = 1 := be_length _ _
  have L3 : (be block 4).length = 4 := be_length _ _
  have hs8 : ¬ 9223372036854775807 < 8 + R.length := by omega
  have k2 : kind < 4294967296 := by omega
  have s2 : stream < 4294967296 := by omega
  have HT : Hid ((0 ≤ block ∧ block < 4294967296) ∧ R.length ≤ 2000) := Lib.hid ⟨⟨b0, b1⟩, hR⟩
  have HP := Lib.hid (fun wx => put_any block 4 b0 b1 wx)
  have eT : (({ data := #[76, 83] } : ByteArray) ++ ⟨(be kind 1).toArray⟩ ++ ⟨(be stream 1).toArray⟩ ++ ⟨(be block 4).toArray⟩ ++ ⟨R.toArray⟩) = ⟨T.toArray⟩ := by
    rw [← hT]; simp only [app_lists]
  have hTl : T.length = 8 + R.length := by
    rw [← hT]; simp [L1, L2, L3]; omega
  have ET := Lib.hid eT
  clear HOf HC H2 eT hT
  go_enter Try.func17, Try.ntmps17
  go_wp2_with fail
  refine (HCk.out _).mono ?_
  rintro e w1 ⟨rfl, hb⟩
  have q0 := (Blk.new w #[.int .i64 kind, .int .i64 stream, .int .u32 block, .int .i64 index, .int .i64 k, .int .i64 n, .int .i64 len, .int .i64 credit, Str hv, Str body] 24).below hb (by simp)
  have hB := Below.chain hb (Below.chainAlloc (Below.refl _ _) _)
  obtain ⟨c0, f0, l0⟩ := q0.facts
  clear hb HCk
  go_wp2_with fail
  refine (HO.out _).mono ?_
  rintro e w2 ⟨rfl, hb⟩
  have q1 := q0.below hb l0
  have hB2 := Below.chain hb hB
  clear hb HO c0 f0 l0 q0 hB
  obtain ⟨c0, f0, l0⟩ := q1.facts
  have n0 : w.heap.size ≠ w2.heap.size := by omega
  go_wp2_with fail
  refine (HP.out _).mono ?_
  rintro e w3 ⟨rfl, hb⟩
  rw [P3, P3e]
  have q2 := (q1.alloc (.cells #[fnV f1, fnV f2, fnV f3, fnV f4] 111)).below hb (by simp; omega)
  have q3 := (Blk.new w2 #[fnV f1, fnV f2, fnV f3, fnV f4] 111).below hb (by simp)
  have hB3 := Below.chain hb (Below.chainAlloc hB2 _)
  clear hb HP c0 f0 l0 q1 hB2 P3 P3e n0
  go_upto_region 6 with fail
  generalize hq : w.heap.size = B0 at *
  generalize w2.heap.size = B1 at *
  have HQ := Lib.hid hq
  clear hq
  have hmk : ∀ w', Below w3.heap.size w3 w' → ((∀ o, w'.cell? ⟨B0, o, none⟩ = #[.int .i64 kind, .int .i64 stream, .int .u32 block, .int .i64 index, .int .i64 k, .int .i64 n, .int .i64 len, .int .i64 credit, Str hv, Str body][o]?) ∧ (∀ o, w'.cell? ⟨B1, o, none⟩ = #[fnV f1, fnV f2, fnV f3, fnV f4][o]?) ∧ Below w3.heap.size w3 w') := fun w' h =>
    ⟨fun o => (h.cell (p := ⟨B0, o, none⟩) q2.lt).trans (q2.facts.1 o), fun o => (h.cell (p := ⟨B1, o, none⟩) q3.lt).trans (q3.facts.1 o), h⟩
  have HMK := Lib.hid hmk
  have HW := Lib.hid hB3
  clear hmk q2 q3 hB3
  go_region_held3 (fun w' => (∀ o, w'.cell? ⟨B0, o, none⟩ = #[.int .i64 kind, .int .i64 stream, .int .u32 block, .int .i64 index, .int .i64 k, .int .i64 n, .int .i64 len, .int .i64 credit, Str hv, Str body][o]?) ∧ (∀ o, w'.cell? ⟨B1, o, none⟩ = #[fnV f1, fnV f2, fnV f3, fnV f4][o]?) ∧ Below w3.heap.size w3 w')
    (first
      | exact HMK.out _ (Below.refl _ _).drew
      | exact HMK.out _ (Below.refl _ _)
      | (go_split_ands; exact HMK.out _ (Below.chain hb (by assumption))))
    (first
      | (go_at_call 57; refine (num_dg _ _ ?_ ?_ _).mono ?_; (first | omega | assumption); (first | omega | assumption); rintro x w4 ⟨rfl, hb⟩)
      | (refine (HD.out _).mono ?_; rintro x w4 ⟨rfl, hb⟩))
  rename_i hHeld
  obtain ⟨_, _, hbb⟩ := hHeld
  have hw := HW.out
  rw [← HQ.out] at hw
  have hW := Below.chain hbb hw
  rw [ET.out]
  clear hb hbb hw L1 L2 L3 hs8 E2
  have hT2 : T.length ≤ 9223372036854775807 := by omega
  go_wp2_with fail
  refine (sum_crc T hT2 _).mono ?_
  rintro x w5 ⟨rfl, rfl⟩
  have hc := crcS_lt T
  have P4 : putS (crcS T : Nat) 4 = be (crcS T : Nat) 4 := putS_ok (crcS T : Nat) 4 (by omega) (by omega) (by omega)
  have P4e : putE (crcS T : Nat) 4 = 0 := by unfold putE; rw [if_neg (by decide), if_neg (by omega)]
  have L4 : (be (crcS T : Nat) 4).length = 4 := be_length _ _
  have HPc := Lib.hid (fun wx => put_any (crcS T : Nat) 4 (by omega) (by omega) wx)
  rw [P4, P4e] at HPc
  clear P4 P4e
  generalize (crcS T : Nat) = c at *
  generalize be (c : Int) 4 = bc at *
  go_wp2_with fail
  refine (HPc.out _).mono ?_
  rintro x w6 ⟨rfl, hb⟩
  have hW2 := Below.chain hb hW
  clear hb hW HPc
  have hsum : ¬ 9223372036854775807 < T.length + bc.length := by omega
  go_wp2_with fail
  go_ret2
  exact ⟨by simp only [app_lists]; rfl, hW2⟩
theorem putS_le : ∀ {d : Dg}, dgE d = 0 → (restS d).length ≤ 1029 := by
  intro d h
  obtain ⟨h1, h2, h3, h4⟩ := dgE_zero h
  unfold kdE at h3
  unfold restS
  by_cases c1 : d.kind = 1 ∨ d.kind = 2
  · rw [if_pos c1] at h3 ⊢
    have := shE_zero h3
    simp [be_length]
    omega
  · rw [if_neg c1] at h3 ⊢
    by_cases c2 : d.kind = 3
    · rw [if_pos c2] at h3 ⊢
      split at h3
      · omega
      · cases h3
    · rw [if_neg c2]
      by_cases c3 : d.kind = 4
      · rw [if_pos c3, be_length]; omega
      · rw [if_neg c3]; simp
theorem put_bad_dg (kind stream block index k n len credit : Int) (hv body : List UInt8) (E : Int) (hE : E ≠ 0)
    (HC : ∀ w, Calls Try.prog 19 #[.agg #[.int .i64 kind, .int .i64 stream, .int .u32 block, .int .i64 index, .int .i64 k, .int .i64 n, .int .i64 len, .int .i64 credit, Str hv, Str body]] w (RetB (.int .i64 E) w)) (w : World) :
    Calls Try.prog 17 #[.agg #[.int .i64 kind, .int .i64 stream, .int .u32 block, .int .i64 index, .int .i64 k, .int .i64 n, .int .i64 len, .int .i64 credit, Str hv, Str body]] w
    (RetB (.tuple #[Str [], .int .i64 E]) w) := by
  have HCk := Lib.hid HC
  have he : (E != 0) = true := by simpa using hE
  clear HC hE
  go_enter Try.func17, Try.ntmps17
  go_wp2_with fail
  refine (HCk.out _).mono ?_
  rintro e w1 ⟨rfl, hb⟩
  have hB := Below.chain hb (Below.chainAlloc (Below.refl _ _) _)
  clear hb
  go_wp2_with fail
  go_ret2
  exact ⟨rfl, hB⟩
/-- A datagram's bytes, or the error: the program's answer. -/
theorem put_dg (d : Dg) (hd : d.ok) (hh : d.have'.length ≤ 9223372036854775807) (hb : d.body.length ≤ 9223372036854775807) (w : World) : Calls Try.prog 17 #[d.val] w (RetB (.tuple #[Str (dgS d), .int .i64 (dgE d)]) w) := by
  have HC := check_dg d hh hb
  by_cases h0 : dgE d = 0
  · obtain ⟨h1, h2, h3, h4⟩ := dgE_zero h0
    have hR := putS_le h0
    have e : dgS d = rawS d ++ be (crcS (rawS d) : Nat) 4 := dgS_ok h0
    rw [e]
    rw [h0] at HC ⊢
    have hraw : [76, 83] ++ be d.kind 1 ++ be d.stream 1 ++ be d.block 4 ++ restS d = rawS d := rfl
    generalize rawS d = T at *
    have hb0 := hd.b0
    have hb1 := hd.b1
    obtain ⟨kind, stream, block, index, k, n, len, credit, hv, body⟩ := d
    simp only at h1 h2 hh hb hb0 hb1
    have hk := h3
    unfold kdE at hk
    by_cases c1 : kind = 1 ∨ kind = 2
    · simp only [if_pos c1] at hk
      have hs := shE_zero hk
      simp only at hs
      exact put_gen 129 130 131 132 kind stream block index k n len credit hv body _ (by omega) (by omega) (by omega) (by omega) (by omega) hb0 hb1 T hraw enS1 (of_sh kind c1) HC
        (fun w => by
          have h := put_sh kind stream block index k n len credit hv body (by omega) (by omega) (by omega) (by omega) (by omega) (by omega) (by omega) (by omega) (by omega) w
          unfold restS
          rw [if_pos c1]
          exact h) w
    · simp only [if_neg c1] at hk
      by_cases c2 : kind = 3
      · exact put_gen 134 135 136 137 kind stream block index k n len credit hv body _ (by omega) (by omega) (by omega) (by omega) (by omega) hb0 hb1 T hraw enN2 (of_nk kind c2) HC
          (fun w => by
            have h := put_nk kind stream block index k n len credit hv body w
            unfold restS
            rw [if_neg c1, if_pos c2]
            exact h) w
      · by_cases c3 : kind = 4
        · simp only [if_neg c2, if_pos c3] at hk
          have hcr : 0 ≤ credit ∧ credit ≤ 65535 := by
            split at hk
            · cases hk
            · omega
          exact put_gen 138 139 140 141 kind stream block index k n len credit hv body _ (by omega) (by omega) (by omega) (by omega) (by omega) hb0 hb1 T hraw enA2 (of_ak kind c3) HC
            (fun w => by
              have h := put_ak kind stream block index k n len credit hv body hcr.1 hcr.2 w
              unfold restS
              rw [if_neg c1, if_neg c2, if_pos c3]
              exact h) w
        · exact put_gen 142 143 144 133 kind stream block index k n len credit hv body _ (by omega) (by omega) (by omega) (by omega) (by omega) hb0 hb1 T hraw enP2 (of_pl kind (by omega)) HC
            (fun w => by
              have h := put_pl kind stream block index k n len credit hv body w
              unfold restS
              rw [if_neg c1, if_neg c2, if_neg c3]
              exact h) w
  · have e : dgS d = [] := by unfold dgS; rw [if_neg h0]
    rw [e]
    obtain ⟨kind, stream, block, index, k, n, len, credit, hv, body⟩ := d
    exact put_bad_dg kind stream block index k n len credit hv body _ h0 HC w
theorem size_dg (d : Dg) (hd : d.ok) (hh : d.have'.length ≤ 9223372036854775807) (hb : d.body.length ≤ 9223372036854775807) (w : World) : Calls Try.prog 21 #[d.val] w (RetB (.int .i64 (dgS d).length) w) := by
  have HP := Lib.hid (put_dg d hd hh hb)
  generalize dgS d = s at *
  generalize dgE d = z at *
  obtain ⟨kind, stream, block, index, k, n, len, credit, hv, body⟩ := d
  show Calls Try.prog 21 #[.agg #[.int .i64 kind, .int .i64 stream, .int .u32 block, .int .i64 index, .int .i64 k, .int .i64 n, .int .i64 len, .int .i64 credit, Str hv, Str body]] w _
  clear hd hh hb
  go_enter Try.func21, Try.ntmps21
  go_wp2_with fail
  refine (HP.out _).mono ?_
  rintro e w1 ⟨rfl, hb⟩
  have hB := Below.chain hb (Below.chainAlloc (Below.refl _ _) _)
  clear hb
  go_wp2_with fail
  go_ret
  exact ⟨rfl, hB⟩
end Go.Proofs.Ytphejbjbleeigaa
