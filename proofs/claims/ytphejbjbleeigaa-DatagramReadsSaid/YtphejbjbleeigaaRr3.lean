/-
  Datagrams: the document's answer: the datagram of bytes: short ones, a false sum (chapter 10).
-/
import Derived.Test.YtphejbjbleeigaaRr2
import Derived.Test.YtphejbjbleeigaaRg4
import Derived.Deep.RegionWith
namespace Go.Proofs.Ytphejbjbleeigaa
open Go.RowKit
set_option linter.unusedVariables false
set_option maxRecDepth 100000
set_option maxHeartbeats 1000000
theorem rread_short (l : List UInt8) (h12 : l.length < 12) (w : World) : Calls Try.prog 23 #[Str l] w (RetB (.tuple #[zdg, .int .i64 4]) w) := by
  have k0 := Blk.new w #[.int .i64 0, .int .i64 0, .int .u32 0, .int .i64 0, .int .i64 0, .int .i64 0, .int .i64 0, .int .i64 0, .string ⟨#[]⟩, .string ⟨#[]⟩] 24
  have hB := Below.chainAlloc (Below.refl w.heap.size w) (.cells #[.int .i64 0, .int .i64 0, .int .u32 0, .int .i64 0, .int .i64 0, .int .i64 0, .int .i64 0, .int .i64 0, .string ⟨#[]⟩, .string ⟨#[]⟩] 24)
  go_enter Try.func23, Try.ntmps23
  go_wp2_with fail
  exact read_end rfl k0 hB rfl rfl rfl rfl
theorem be4_ne {b c : List UInt8} (hcl : c.length = 4) (h : unbe c ≠ (crcS b : Nat)) : be (crcS b : Nat) 4 ≠ c := fun e => h (by rw [← e]; have := crcS_lt b; exact unbe_be4 _ (by omega) (by omega))
theorem rread_badsum (l b c : List UInt8) (h12 : ¬ l.length < 12) (hC : Cutd l b c) (hs : unbe c ≠ (crcS b : Nat)) (w : World) : Calls Try.prog 23 #[Str l] w (RetB (.tuple #[zdg, .int .i64 6]) w) := by
  have hne := be4_ne hC.hcl hs
  clear hs
  obtain ⟨hl, hbl, hcl, hx1, hx2⟩ := hC
  have h4 : (4 : Int) ≤ l.length := by omega
  have hn4 : (l.length : Int) - 4 = (b.length : Int) := by omega
  have h5 : (b.length : Int) ≤ l.length := by omega
  have h6 : b.length ≤ l.length := by omega
  rw [← hbl] at hx1 hx2
  clear hbl
  have hl2 : b.length ≤ 9223372036854775807 := by omega
  have hcr := crcS_lt b
  have HNm := Lib.hid (fun w => rnum_dg (crcS b : Nat) 4 (by omega) (by omega) w)
  have P4c : putS (crcS b : Nat) 4 = be (crcS b : Nat) 4 := putS_ok (crcS b : Nat) 4 (by omega) (by omega) (by omega)
  rw [P4c] at HNm
  clear P4c
  have hm1 : (ByteArray.toList ⟨(be (crcS b : Nat) 4).toArray⟩ == ByteArray.toList ⟨c.toArray⟩) = false := by rw [str_beq]; simpa using hne
  have hm2 : (be (crcS b : Nat) 4 == c) = false := by simpa using hne
  have hm3 : ¬ (be (crcS b : Nat) 4 = c) := hne
  have HSm : Hid (∀ w, Calls Try.prog 60 #[Str b] w (RetB (.int .u32 (crcS b : Nat)) w)) := Lib.hid (fun w => (rsum_crc b hl2 w).mono fun e w' h => ⟨h.1, by rw [← h.2]; exact Below.refl _ _⟩)
  have hwc : IntKind.i64.wrap ((crcS b : Nat) : Int) = ((crcS b : Nat) : Int) := by rw [IntWalk.i64_in _ (by omega)]
  generalize (crcS b : Nat) = s at *
  generalize be (s : Int) 4 = B4 at *
  clear hne
  have k0 := Blk.new w #[.int .i64 0, .int .i64 0, .int .u32 0, .int .i64 0, .int .i64 0, .int .i64 0, .int .i64 0, .int .i64 0, .string ⟨#[]⟩, .string ⟨#[]⟩] 24
  have hB := Below.chainAlloc (Below.refl w.heap.size w) (.cells #[.int .i64 0, .int .i64 0, .int .u32 0, .int .i64 0, .int .i64 0, .int .i64 0, .int .i64 0, .int .i64 0, .string ⟨#[]⟩, .string ⟨#[]⟩] 24)
  have HK0 := Lib.hid k0
  have HB0 := Lib.hid hB
  clear k0 hB
  go_enter Try.func23, Try.ntmps23
  go_upto_region 4 with fail
  generalize (w.alloc (.cells #[.int .i64 0, .int .i64 0, .int .u32 0, .int .i64 0, .int .i64 0, .int .i64 0, .int .i64 0, .int .i64 0, .string ⟨#[]⟩, .string ⟨#[]⟩] 24)) = w1 at *
  have HMK := Lib.hid (fun (w' : World) (h : Below w1.heap.size w1 w') => h)
  go_region_held3 (fun w' => Below w1.heap.size w1 w')
    (first
      | exact HMK.out _ (Below.refl _ _).drew
      | exact HMK.out _ (Below.refl _ _)
      | assumption
      | (go_split_ands; exact HMK.out _ (Below.chain hb (by assumption)))
      | (go_split_ands; assumption))
    (first
      | (go_at_call 60; refine (HSm.out _).mono ?_; rintro x w4 ⟨rfl, hb⟩)
      | (go_at_call 59; refine (HNm.out _).mono ?_; rintro x w4 ⟨rfl, hb⟩))
  rename_i hHeld
  have k1 := HK0.out.below hHeld HK0.out.lt
  have hB := Below.chain hHeld HB0.out
  clear hHeld
  obtain ⟨c2, f2, l2⟩ := k1.facts
  go_wp2_with fail
  exact read_end rfl (cells10 _ _ _ _ _ _ _ _ _ _ k1) (below10 _ _ _ _ _ _ _ _ _ _ hB (Nat.le_refl _)) rfl rfl rfl rfl
end Go.Proofs.Ytphejbjbleeigaa
