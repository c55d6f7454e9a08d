/-
  Datagrams: the document's answer: their bytes: contract (chapter 10).
-/
import Derived.Test.YtphejbjbleeigaaRg3
import Derived.Test.YtphejbjbleeigaaCrcW
import Derived.Deep.RegionWith
namespace Go.Proofs.Ytphejbjbleeigaa
open Go.RowKit
set_option linter.unusedVariables false
set_option maxRecDepth 100000
set_option maxHeartbeats 1000000
attribute [local go_sem ↓] Go.wp_at_zero Go.wp_at_succ
theorem rnum_dg (z size : Int) (h0 : 0 ≤ z) (h1 : z < 4294967296) (w : World) : Calls Try.prog 59 #[.int .i64 z, .int .i64 size] w (RetB (Str (putS z size)) w) := by
  have HP := Lib.hid (fun wx => rput_any z size h0 h1 wx)
  go_enter Try.func59, Try.ntmps59
  go_wp2_with fail
  refine (HP.out _).mono ?_
  rintro e w1 ⟨rfl, hb⟩
  generalize putS z size = s at *
  generalize putE z size = y at *
  go_wp2_with fail
  go_ret
  exact ⟨rfl, hb⟩
theorem rput_bad_dg (kind stream block index k n len credit : Int) (hv body : List UInt8) (E : Int) (hE : E ≠ 0)
    (HC : ∀ w, Calls Try.prog 20 #[.agg #[.int .i64 kind, .int .i64 stream, .int .u32 block, .int .i64 index, .int .i64 k, .int .i64 n, .int .i64 len, .int .i64 credit, Str hv, Str body]] w (RetB (.int .i64 E) w)) (w : World) :
    Calls Try.prog 18 #[.agg #[.int .i64 kind, .int .i64 stream, .int .u32 block, .int .i64 index, .int .i64 k, .int .i64 n, .int .i64 len, .int .i64 credit, Str hv, Str body]] w (RetB (.tuple #[Str [], .int .i64 E]) w) := by
  have HCk := Lib.hid HC
  have he : (E != 0) = true := by simpa using hE
  clear HC hE
  go_enter Try.func18, Try.ntmps18
  go_wp2_with fail
  refine (HCk.out _).mono ?_
  rintro e w1 ⟨rfl, hb⟩
  have hB := Below.chain hb (Below.chainAlloc (Below.refl _ _) _)
  clear hb
  go_wp2_with fail
  go_ret2
  exact ⟨rfl, hB⟩
theorem rput1 (stream block index k n len credit : Int) (hv body : List UInt8) (s0 : 0 ≤ stream) (s1 : stream < 256) (b0 : 0 ≤ block) (b1 : block < 4294967296) (i0 : 0 ≤ index) (i1 : index < 256) (k0 : 0 ≤ k) (k1 : k < 256) (n0 : 0 ≤ n) (n1 : n < 256) (l0 : 1 ≤ len) (l1 : len ≤ 32768) (hbl : body.length ≤ 1024)
    (H0 T : List UInt8) (hH : [76, 83] ++ be 1 1 ++ be stream 1 ++ be block 4 = H0) (hT : H0 ++ (be index 1 ++ be k 1 ++ be n 1 ++ be (len - 1) 2 ++ body) = T) (hTl : T.length ≤ 2000)
    (HC : ∀ w, Calls Try.prog 20 #[.agg #[.int .i64 1, .int .i64 stream, .int .u32 block, .int .i64 index, .int .i64 k, .int .i64 n, .int .i64 len, .int .i64 credit, Str hv, Str body]] w (RetB (.int .i64 0) w)) (w : World) :
    Calls Try.prog 18 #[.agg #[.int .i64 1, .int .i64 stream, .int .u32 block, .int .i64 index, .int .i64 k, .int .i64 n, .int .i64 len, .int .i64 credit, Str hv, Str body]] w (RetB (.tuple #[Str (T ++ be (crcS T : Nat) 4), .int .i64 0]) w) := by
  have HCk := Lib.hid HC
  have Q1 : putS 1 1 = be 1 1 := putS_ok 1 1 (by omega) (by decide) (by decide)
  have Q2 : putS stream 1 = be stream 1 := putS_ok stream 1 (by omega) s0 (by omega)
  have Q3 : putS block 4 = be block 4 := putS_ok block 4 (by omega) b0 (by omega)
  have M1 : (be 1 1).length = 1 := be_length _ _
  have M2 : (be stream 1).length = 1 := be_length _ _
  have M3 : (be block 4).length = 4 := be_length _ _
  have s2 : stream < 4294967296 := by omega
  have eH : (({ data := #[76, 83] } : ByteArray) ++ ⟨(be 1 1).toArray⟩ ++ ⟨(be stream 1).toArray⟩ ++ ⟨(be block 4).toArray⟩) = ⟨H0.toArray⟩ := by
    rw [← hH]; simp only [app_lists]
  have hHl : H0.length = 8 := by rw [← hH]; simp [M1, M2, M3]
  have EH := Lib.hid eH
  have hwb : IntKind.i64.wrap block = block := by rw [IntWalk.i64_in _ (by omega)]
  have HTT := Lib.hid hT
  have P1 : putS index 1 = be index 1 := putS_ok index 1 (by omega) i0 (by omega)
  have P2 : putS k 1 = be k 1 := putS_ok k 1 (by omega) k0 (by omega)
  have P3 : putS n 1 = be n 1 := putS_ok n 1 (by omega) n0 (by omega)
  have P4 : putS (len - 1) 2 = be (len - 1) 2 := putS_ok (len - 1) 2 (by omega) (by omega) (by omega)
  have L1 : (be index 1).length = 1 := be_length _ _
  have L2 : (be k 1).length = 1 := be_length _ _
  have L3 : (be n 1).length = 1 := be_length _ _
  have L4 : (be (len - 1) 2).length = 2 := be_length _ _
  have hw1 : IntKind.i64.wrap (len - 1) = len - 1 := by rw [IntWalk.i64_in _ (by omega)]
  have l2 : 0 ≤ len - 1 := by omega
  have l3 : len - 1 < 4294967296 := by omega
  have hs5 : ¬ 9223372036854775807 < 13 + body.length := by omega
  clear HC eH hH hT
  go_enter Try.func18, Try.ntmps18
  go_wp2_with fail
  refine (HCk.out _).mono ?_
  rintro e w1 ⟨rfl, hb⟩
  have kb := (Blk.new w #[.int .i64 1, .int .i64 stream, .int .u32 block, .int .i64 index, .int .i64 k, .int .i64 n, .int .i64 len, .int .i64 credit, Str hv, Str body] 24).below hb (by simp)
  have hB := Below.chain hb (Below.chainAlloc (Below.refl _ _) _)
  clear hb HCk
  go_upto_region 4 with fail
  obtain ⟨B0, hB0⟩ : ∃ B0, w.heap.size = B0 := ⟨_, rfl⟩
  rw [hB0] at kb ⊢
  have HB0 := Lib.hid hB0
  clear hB0
  have hmk : ∀ w', Below w1.heap.size w1 w' → ((∀ o, w'.cell? ⟨B0, o, none⟩ = #[.int .i64 1, .int .i64 stream, .int .u32 block, .int .i64 index, .int .i64 k, .int .i64 n, .int .i64 len, .int .i64 credit, Str hv, Str body][o]?) ∧ Below w1.heap.size w1 w') := fun w' h => ⟨fun o => (h.cell (p := ⟨B0, o, none⟩) kb.lt).trans (kb.facts.1 o), h⟩
  have HMK := Lib.hid hmk
  have HKB := Lib.hid kb
  have HWB := Lib.hid hB
  clear hmk kb hB
  go_region_held3 (fun w' => (∀ o, w'.cell? ⟨B0, o, none⟩ = #[.int .i64 1, .int .i64 stream, .int .u32 block, .int .i64 index, .int .i64 k, .int .i64 n, .int .i64 len, .int .i64 credit, Str hv, Str body][o]?) ∧ Below w1.heap.size w1 w')
    (first
      | exact HMK.out _ (Below.refl _ _).drew
      | exact HMK.out _ (Below.refl _ _)
      | (go_split_ands; exact HMK.out _ (Below.chain hb (by assumption))))
    ((go_at_call 59; refine (rnum_dg _ _ ?_ ?_ _).mono ?_; (first | omega | assumption); (first | omega | assumption); rintro x w4 ⟨rfl, hb⟩))
  rename_i hHeld
  have kb := HKB.out.below hHeld.2 HKB.out.lt
  have hB := Below.chain hHeld.2 HWB.out
  clear hHeld HMK HKB HWB
  rw [EH.out]
  clear EH M1 M2 M3 Q1 Q2 Q3
  have eT : ((⟨H0.toArray⟩ : ByteArray) ++ ⟨(be index 1).toArray⟩ ++ ⟨(be k 1).toArray⟩ ++ ⟨(be n 1).toArray⟩ ++ ⟨(be (len - 1) 2).toArray⟩ ++ ⟨body.toArray⟩) = ⟨T.toArray⟩ := by
    rw [← HTT.out]; simp only [app_lists]; simp
  have ET := Lib.hid eT
  have hi4 : index < 4294967296 := by omega
  have hk4 : k < 4294967296 := by omega
  have hn4 : n < 4294967296 := by omega
  clear eT
  obtain ⟨cb, fb, lb⟩ := kb.facts
  go_upto_region 8 with fail
  clear cb fb lb
  have hmk : ∀ w', Below w4.heap.size w4 w' → ((∀ o, w'.cell? ⟨B0, o, none⟩ = #[.int .i64 1, .int .i64 stream, .int .u32 block, .int .i64 index, .int .i64 k, .int .i64 n, .int .i64 len, .int .i64 credit, Str hv, Str body][o]?) ∧ Below w4.heap.size w4 w') := fun w' h => ⟨fun o => (h.cell (p := ⟨B0, o, none⟩) kb.lt).trans (kb.facts.1 o), h⟩
  have HMK := Lib.hid hmk
  have HKB := Lib.hid kb
  have HWB := Lib.hid hB
  clear hmk kb hB
  go_region_held3 (fun w' => (∀ o, w'.cell? ⟨B0, o, none⟩ = #[.int .i64 1, .int .i64 stream, .int .u32 block, .int .i64 index, .int .i64 k, .int .i64 n, .int .i64 len, .int .i64 credit, Str hv, Str body][o]?) ∧ Below w4.heap.size w4 w')
    (first
      | exact HMK.out _ (Below.refl _ _).drew
      | exact HMK.out _ (Below.refl _ _)
      | (go_split_ands; exact HMK.out _ (Below.chain hb (by assumption))))
    ((go_at_call 59; refine (rnum_dg _ _ ?_ ?_ _).mono ?_; (first | omega | assumption); (first | omega | assumption); rintro x w9 ⟨rfl, hb⟩))
  rename_i hHeld
  have kb := HKB.out.below hHeld.2 HKB.out.lt
  have hB := Below.chain hHeld.2 HWB.out
  clear hHeld HMK HKB HWB
  rw [ET.out]
  clear ET L1 L2 L3 L4 P1 P2 P3 P4
  have hT2 : T.length ≤ 9223372036854775807 := by omega
  go_wp2_with fail
  refine (rsum_crc T hT2 _).mono ?_
  rintro x w5 ⟨rfl, rfl⟩
  have hc := crcS_lt T
  have P4c : putS (crcS T : Nat) 4 = be (crcS T : Nat) 4 := putS_ok (crcS T : Nat) 4 (by omega) (by omega) (by omega)
  have HPc := Lib.hid (rnum_dg (crcS T : Nat) 4 (by omega) (by omega))
  have L4c : (be (crcS T : Nat) 4).length = 4 := be_length _ _
  have hwc : IntKind.i64.wrap ((crcS T : Nat) : Int) = ((crcS T : Nat) : Int) := by rw [IntWalk.i64_in _ (by omega)]
  rw [P4c] at HPc
  clear P4c
  generalize (crcS T : Nat) = c at *
  generalize be (c : Int) 4 = bc at *
  go_wp2_with fail
  refine (HPc.out _).mono ?_
  rintro x w6 ⟨rfl, hb⟩
  have hW2 := Below.chain hb hB
  have hw0 := HB0.out
  clear hb hB HPc
  have hsum : ¬ 9223372036854775807 < T.length + bc.length := by omega
  go_wp2_with fail
  go_ret2
  exact ⟨by simp only [app_lists]; rfl, hW2⟩
theorem rput3 (stream block index k n len credit : Int) (hv body : List UInt8) (s0 : 0 ≤ stream) (s1 : stream < 256) (b0 : 0 ≤ block) (b1 : block < 4294967296) (hbl : hv.length ≤ 1024)
    (H0 T : List UInt8) (hH : [76, 83] ++ be 3 1 ++ be stream 1 ++ be block 4 = H0) (hT : H0 ++ (hv) = T) (hTl : T.length ≤ 2000)
    (HC : ∀ w, Calls Try.prog 20 #[.agg #[.int .i64 3, .int .i64 stream, .int .u32 block, .int .i64 index, .int .i64 k, .int .i64 n, .int .i64 len, .int .i64 credit, Str hv, Str body]] w (RetB (.int .i64 0) w)) (w : World) :
    Calls Try.prog 18 #[.agg #[.int .i64 3, .int .i64 stream, .int .u32 block, .int .i64 index, .int .i64 k, .int .i64 n, .int .i64 len, .int .i64 credit, Str hv, Str body]] w (RetB (.tuple #[Str (T ++ be (crcS T : Nat) 4), .int .i64 0]) w) := by
  have HCk := Lib.hid HC
  have Q1 : putS 3 1 = be 3 1 := putS_ok 3 1 (by omega) (by decide) (by decide)
  have Q2 : putS stream 1 = be stream 1 := putS_ok stream 1 (by omega) s0 (by omega)
  have Q3 : putS block 4 = be block 4 := putS_ok block 4 (by omega) b0 (by omega)
  have M1 : (be 3 1).length = 1 := be_length _ _
  have M2 : (be stream 1).length = 1 := be_length _ _
  have M3 : (be block 4).length = 4 := be_length _ _
  have s2 : stream < 4294967296 := by omega
  have eH : (({ data := #[76, 83] } : ByteArray) ++ ⟨(be 3 1).toArray⟩ ++ ⟨(be stream 1).toArray⟩ ++ ⟨(be block 4).toArray⟩) = ⟨H0.toArray⟩ := by
    rw [← hH]; simp only [app_lists]
  have hHl : H0.length = 8 := by rw [← hH]; simp [M1, M2, M3]
  have EH := Lib.hid eH
  have hwb : IntKind.i64.wrap block = block := by rw [IntWalk.i64_in _ (by omega)]
  have HTT := Lib.hid hT
  have hs5 : ¬ 9223372036854775807 < 8 + hv.length := by omega
  clear HC eH hH hT
  go_enter Try.func18, Try.ntmps18
  go_wp2_with fail
  refine (HCk.out _).mono ?_
  rintro e w1 ⟨rfl, hb⟩
  have kb := (Blk.new w #[.int .i64 3, .int .i64 stream, .int .u32 block, .int .i64 index, .int .i64 k, .int .i64 n, .int .i64 len, .int .i64 credit, Str hv, Str body] 24).below hb (by simp)
  have hB := Below.chain hb (Below.chainAlloc (Below.refl _ _) _)
  clear hb HCk
  go_upto_region 4 with fail
  obtain ⟨B0, hB0⟩ : ∃ B0, w.heap.size = B0 := ⟨_, rfl⟩
  rw [hB0] at kb ⊢
  have HB0 := Lib.hid hB0
  clear hB0
  have hmk : ∀ w', Below w1.heap.size w1 w' → ((∀ o, w'.cell? ⟨B0, o, none⟩ = #[.int .i64 3, .int .i64 stream, .int .u32 block, .int .i64 index, .int .i64 k, .int .i64 n, .int .i64 len, .int .i64 credit, Str hv, Str body][o]?) ∧ Below w1.heap.size w1 w') := fun w' h => ⟨fun o => (h.cell (p := ⟨B0, o, none⟩) kb.lt).trans (kb.facts.1 o), h⟩
  have HMK := Lib.hid hmk
  have HKB := Lib.hid kb
  have HWB := Lib.hid hB
  clear hmk kb hB
  go_region_held3 (fun w' => (∀ o, w'.cell? ⟨B0, o, none⟩ = #[.int .i64 3, .int .i64 stream, .int .u32 block, .int .i64 index, .int .i64 k, .int .i64 n, .int .i64 len, .int .i64 credit, Str hv, Str body][o]?) ∧ Below w1.heap.size w1 w')
    (first
      | exact HMK.out _ (Below.refl _ _).drew
      | exact HMK.out _ (Below.refl _ _)
      | (go_split_ands; exact HMK.out _ (Below.chain hb (by assumption))))
    ((go_at_call 59; refine (rnum_dg _ _ ?_ ?_ _).mono ?_; (first | omega | assumption); (first | omega | assumption); rintro x w4 ⟨rfl, hb⟩))
  rename_i hHeld
  have kb := HKB.out.below hHeld.2 HKB.out.lt
  have hB := Below.chain hHeld.2 HWB.out
  clear hHeld HMK HKB HWB
  rw [EH.out]
  clear EH M1 M2 M3 Q1 Q2 Q3
  have eT : ((⟨H0.toArray⟩ : ByteArray) ++ ⟨hv.toArray⟩) = ⟨T.toArray⟩ := by
    rw [← HTT.out]; simp only [app_lists]
  obtain ⟨cb, fb, lb⟩ := kb.facts
  have hT2 : T.length ≤ 9223372036854775807 := by omega
  go_wp2_with fail
  try rw [eT]
  refine (rsum_crc T hT2 _).mono ?_
  rintro x w5 ⟨rfl, rfl⟩
  have hc := crcS_lt T
  have P4c : putS (crcS T : Nat) 4 = be (crcS T : Nat) 4 := putS_ok (crcS T : Nat) 4 (by omega) (by omega) (by omega)
  have HPc := Lib.hid (rnum_dg (crcS T : Nat) 4 (by omega) (by omega))
  have L4c : (be (crcS T : Nat) 4).length = 4 := be_length _ _
  have hwc : IntKind.i64.wrap ((crcS T : Nat) : Int) = ((crcS T : Nat) : Int) := by rw [IntWalk.i64_in _ (by omega)]
  rw [P4c] at HPc
  clear P4c
  generalize (crcS T : Nat) = c at *
  generalize be (c : Int) 4 = bc at *
  go_wp2_with fail
  refine (HPc.out _).mono ?_
  rintro x w6 ⟨rfl, hb⟩
  have hW2 := Below.chain hb hB
  have hw0 := HB0.out
  clear hb hB HPc
  have hsum : ¬ 9223372036854775807 < T.length + bc.length := by omega
  go_wp2_with fail
  go_ret2
  exact ⟨by simp only [app_lists]; rfl, hW2⟩
theorem rput4 (stream block index k n len credit : Int) (hv body : List UInt8) (s0 : 0 ≤ stream) (s1 : stream < 256) (b0 : 0 ≤ block) (b1 : block < 4294967296) (c0 : 0 ≤ credit) (c1 : credit ≤ 65535)
    (H0 T : List UInt8) (hH : [76, 83] ++ be 4 1 ++ be stream 1 ++ be block 4 = H0) (hT : H0 ++ (be credit 2) = T) (hTl : T.length ≤ 2000)
    (HC : ∀ w, Calls Try.prog 20 #[.agg #[.int .i64 4, .int .i64 stream, .int .u32 block, .int .i64 index, .int .i64 k, .int .i64 n, .int .i64 len, .int .i64 credit, Str hv, Str body]] w (RetB (.int .i64 0) w)) (w : World) :
    Calls Try.prog 18 #[.agg #[.int .i64 4, .int .i64 stream, .int .u32 block, .int .i64 index, .int .i64 k, .int .i64 n, .int .i64 len, .int .i64 credit, Str hv, Str body]] w (RetB (.tuple #[Str (T ++ be (crcS T : Nat) 4), .int .i64 0]) w) := by
  have HCk := Lib.hid HC
  have Q1 : putS 4 1 = be 4 1 := putS_ok 4 1 (by omega) (by decide) (by decide)
  have Q2 : putS stream 1 = be stream 1 := putS_ok stream 1 (by omega) s0 (by omega)
  have Q3 : putS block 4 = be block 4 := putS_ok block 4 (by omega) b0 (by omega)
  have M1 : (be 4 1).length = 1 := be_length _ _
  have M2 : (be stream 1).length = 1 := be_length _ _
  have M3 : (be block 4).length = 4 := be_length _ _
  have s2 : stream < 4294967296 := by omega
  have eH : (({ data := #[76, 83] } : ByteArray) ++ ⟨(be 4 1).toArray⟩ ++ ⟨(be stream 1).toArray⟩ ++ ⟨(be block 4).toArray⟩) = ⟨H0.toArray⟩ := by
    rw [← hH]; simp only [app_lists]
  have hHl : H0.length = 8 := by rw [← hH]; simp [M1, M2, M3]
  have EH := Lib.hid eH
  have hwb : IntKind.i64.wrap block = block := by rw [IntWalk.i64_in _ (by omega)]
  have HTT := Lib.hid hT
  have P1 : putS credit 2 = be credit 2 := putS_ok credit 2 (by omega) c0 (by omega)
  have L1 : (be credit 2).length = 2 := be_length _ _
  clear HC eH hH hT
  go_enter Try.func18, Try.ntmps18
  go_wp2_with fail
  refine (HCk.out _).mono ?_
  rintro e w1 ⟨rfl, hb⟩
  have kb := (Blk.new w #[.int .i64 4, .int .i64 stream, .int .u32 block, .int .i64 index, .int .i64 k, .int .i64 n, .int .i64 len, .int .i64 credit, Str hv, Str body] 24).below hb (by simp)
  have hB := Below.chain hb (Below.chainAlloc (Below.refl _ _) _)
  clear hb HCk
  go_upto_region 4 with fail
  obtain ⟨B0, hB0⟩ : ∃ B0, w.heap.size = B0 := ⟨_, rfl⟩
  rw [hB0] at kb ⊢
  have HB0 := Lib.hid hB0
  clear hB0
  have hmk : ∀ w', Below w1.heap.size w1 w' → ((∀ o, w'.cell? ⟨B0, o, none⟩ = #[.int .i64 4, .int .i64 stream, .int .u32 block, .int .i64 index, .int .i64 k, .int .i64 n, .int .i64 len, .int .i64 credit, Str hv, Str body][o]?) ∧ Below w1.heap.size w1 w') := fun w' h => ⟨fun o => (h.cell (p := ⟨B0, o, none⟩) kb.lt).trans (kb.facts.1 o), h⟩
  have HMK := Lib.hid hmk
  have HKB := Lib.hid kb
  have HWB := Lib.hid hB
  clear hmk kb hB
  go_region_held3 (fun w' => (∀ o, w'.cell? ⟨B0, o, none⟩ = #[.int .i64 4, .int .i64 stream, .int .u32 block, .int .i64 index, .int .i64 k, .int .i64 n, .int .i64 len, .int .i64 credit, Str hv, Str body][o]?) ∧ Below w1.heap.size w1 w')
    (first
      | exact HMK.out _ (Below.refl _ _).drew
      | exact HMK.out _ (Below.refl _ _)
      | (go_split_ands; exact HMK.out _ (Below.chain hb (by assumption))))
    ((go_at_call 59; refine (rnum_dg _ _ ?_ ?_ _).mono ?_; (first | omega | assumption); (first | omega | assumption); rintro x w4 ⟨rfl, hb⟩))
  rename_i hHeld
  have kb := HKB.out.below hHeld.2 HKB.out.lt
  have hB := Below.chain hHeld.2 HWB.out
  clear hHeld HMK HKB HWB
  rw [EH.out]
  clear EH M1 M2 M3 Q1 Q2 Q3
  have eT : ((⟨H0.toArray⟩ : ByteArray) ++ ⟨(be credit 2).toArray⟩) = ⟨T.toArray⟩ := by
    rw [← HTT.out]; simp only [app_lists]
  obtain ⟨cb, fb, lb⟩ := kb.facts
  go_wp2_with fail
  refine (rnum_dg credit 2 c0 (by omega) _).mono ?_
  rintro x w9 ⟨rfl, hb⟩
  rw [P1]
  have hB := Below.chain hb hB
  clear hb
  have hT2 : T.length ≤ 9223372036854775807 := by omega
  go_wp2_with fail
  try rw [eT]
  refine (rsum_crc T hT2 _).mono ?_
  rintro x w5 ⟨rfl, rfl⟩
  have hc := crcS_lt T
  have P4c : putS (crcS T : Nat) 4 = be (crcS T : Nat) 4 := putS_ok (crcS T : Nat) 4 (by omega) (by omega) (by omega)
  have HPc := Lib.hid (rnum_dg (crcS T : Nat) 4 (by omega) (by omega))
  have L4c : (be (crcS T : Nat) 4).length = 4 := be_length _ _
  have hwc : IntKind.i64.wrap ((crcS T : Nat) : Int) = ((crcS T : Nat) : Int) := by rw [IntWalk.i64_in _ (by omega)]
  rw [P4c] at HPc
  clear P4c
  generalize (crcS T : Nat) = c at *
  generalize be (c : Int) 4 = bc at *
  go_wp2_with fail
  refine (HPc.out _).mono ?_
  rintro x w6 ⟨rfl, hb⟩
  have hW2 := Below.chain hb hB
  have hw0 := HB0.out
  clear hb hB HPc
  have hsum : ¬ 9223372036854775807 < T.length + bc.length := by omega
  go_wp2_with fail
  go_ret2
  exact ⟨by simp only [app_lists]; rfl, hW2⟩
theorem rput5 (stream block index k n len credit : Int) (hv body : List UInt8) (s0 : 0 ≤ stream) (s1 : stream < 256) (b0 : 0 ≤ block) (b1 : block < 4294967296) 
    (H0 T : List UInt8) (hH : [76, 83] ++ be 5 1 ++ be stream 1 ++ be block 4 = H0) (hT : H0 ++ ([]) = T) (hTl : T.length ≤ 2000)
    (HC : ∀ w, Calls Try.prog 20 #[.agg #[.int .i64 5, .int .i64 stream, .int .u32 block, .int .i64 index, .int .i64 k, .int .i64 n, .int .i64 len, .int .i64 credit, Str hv, Str body]] w (RetB (.int .i64 0) w)) (w : World) :
    Calls Try.prog 18 #[.agg #[.int .i64 5, .int .i64 stream, .int .u32 block, .int .i64 index, .int .i64 k, .int .i64 n, .int .i64 len, .int .i64 credit, Str hv, Str body]] w (RetB (.tuple #[Str (T ++ be (crcS T : Nat) 4), .int .i64 0]) w) := by
  have HCk := Lib.hid HC
  have Q1 : putS 5 1 = be 5 1 := putS_ok 5 1 (by omega) (by decide) (by decide)
  have Q2 : putS stream 1 = be stream 1 := putS_ok stream 1 (by omega) s0 (by omega)
  have Q3 : putS block 4 = be block 4 := putS_ok block 4 (by omega) b0 (by omega)
  have M1 : (be 5 1).length = 1 := be_length _ _
  have M2 : (be stream 1).length = 1 := be_length _ _
  have M3 : (be block 4).length = 4 := be_length _ _
  have s2 : stream < 4294967296 := by omega
  have eH : (({ data := #[76, 83] } : ByteArray) ++ ⟨(be 5 1).toArray⟩ ++ ⟨(be stream 1).toArray⟩ ++ ⟨(be block 4).toArray⟩) = ⟨H0.toArray⟩ := by
    rw [← hH]; simp only [app_lists]
  have hHl : H0.length = 8 := by rw [← hH]; simp [M1, M2, M3]
  have EH := Lib.hid eH
  have hwb : IntKind.i64.wrap block = block := by rw [IntWalk.i64_in _ (by omega)]
  have HTT := Lib.hid hT
  clear HC eH hH hT
  go_enter Try.func18, Try.ntmps18
  go_wp2_with fail
  refine (HCk.out _).mono ?_
  rintro e w1 ⟨rfl, hb⟩
  have kb := (Blk.new w #[.int .i64 5, .int .i64 stream, .int .u32 block, .int .i64 index, .int .i64 k, .int .i64 n, .int .i64 len, .int .i64 credit, Str hv, Str body] 24).below hb (by simp)
  have hB := Below.chain hb (Below.chainAlloc (Below.refl _ _) _)
  clear hb HCk
  go_upto_region 4 with fail
  obtain ⟨B0, hB0⟩ : ∃ B0, w.heap.size = B0 := ⟨_, rfl⟩
  rw [hB0] at kb ⊢
  have HB0 := Lib.hid hB0
  clear hB0
  have hmk : ∀ w', Below w1.heap.size w1 w' → ((∀ o, w'.cell? ⟨B0, o, none⟩ = #[.int .i64 5, .int .i64 stream, .int .u32 block, .int .i64 index, .int .i64 k, .int .i64 n, .int .i64 len, .int .i64 credit, Str hv, Str body][o]?) ∧ Below w1.heap.size w1 w') := fun w' h => ⟨fun o => (h.cell (p := ⟨B0, o, none⟩) kb.lt).trans (kb.facts.1 o), h⟩
  have HMK := Lib.hid hmk
  have HKB := Lib.hid kb
  have HWB := Lib.hid hB
  clear hmk kb hB
  go_region_held3 (fun w' => (∀ o, w'.cell? ⟨B0, o, none⟩ = #[.int .i64 5, .int .i64 stream, .int .u32 block, .int .i64 index, .int .i64 k, .int .i64 n, .int .i64 len, .int .i64 credit, Str hv, Str body][o]?) ∧ Below w1.heap.size w1 w')
    (first
      | exact HMK.out _ (Below.refl _ _).drew
      | exact HMK.out _ (Below.refl _ _)
      | (go_split_ands; exact HMK.out _ (Below.chain hb (by assumption))))
    ((go_at_call 59; refine (rnum_dg _ _ ?_ ?_ _).mono ?_; (first | omega | assumption); (first | omega | assumption); rintro x w4 ⟨rfl, hb⟩))
  rename_i hHeld
  have kb := HKB.out.below hHeld.2 HKB.out.lt
  have hB := Below.chain hHeld.2 HWB.out
  clear hHeld HMK HKB HWB
  rw [EH.out]
  clear EH M1 M2 M3 Q1 Q2 Q3
  have eT : H0 = T := by rw [← HTT.out]; simp
  subst eT
  obtain ⟨cb, fb, lb⟩ := kb.facts
  have hT2 : H0.length ≤ 9223372036854775807 := by omega
  go_wp2_with fail
  refine (rsum_crc H0 hT2 _).mono ?_
  rintro x w5 ⟨rfl, rfl⟩
  have hc := crcS_lt H0
  have P4c : putS (crcS H0 : Nat) 4 = be (crcS H0 : Nat) 4 := putS_ok (crcS H0 : Nat) 4 (by omega) (by omega) (by omega)
  have HPc := Lib.hid (rnum_dg (crcS H0 : Nat) 4 (by omega) (by omega))
  have L4c : (be (crcS H0 : Nat) 4).length = 4 := be_length _ _
  have hwc : IntKind.i64.wrap ((crcS H0 : Nat) : Int) = ((crcS H0 : Nat) : Int) := by rw [IntWalk.i64_in _ (by omega)]
  rw [P4c] at HPc
  clear P4c
  generalize (crcS H0 : Nat) = c at *
  generalize be (c : Int) 4 = bc at *
  go_wp2_with fail
  refine (HPc.out _).mono ?_
  rintro x w6 ⟨rfl, hb⟩
  have hW2 := Below.chain hb hB
  have hw0 := HB0.out
  clear hb hB HPc
  have hsum : ¬ 9223372036854775807 < H0.length + bc.length := by omega
  go_wp2_with fail
  go_ret2
  exact ⟨by simp only [app_lists]; rfl, hW2⟩
end Go.Proofs.Ytphejbjbleeigaa
