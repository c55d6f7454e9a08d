/-
  Datagrams: what a kind asks; a kind's bytes: contracts (chapter 10).
-/
import Derived.Test.YtphejbjbleeigaaDg3
import Derived.Test.YtphejbjbleeigaaWireRef
namespace Go.Proofs.Ytphejbjbleeigaa
open Go.RowKit
set_option linter.unusedVariables false
set_option maxRecDepth 100000
set_option maxHeartbeats 1000000
attribute [local go_sem ↓] Go.wp_at_zero Go.wp_at_succ
theorem chk_nk (kind stream block index k n len credit : Int) (hv body : List UInt8) (hl : hv.length ≤ 9223372036854775807) (w : World) : Calls Try.prog 134 #[dgv kind stream block index k n len credit hv body] w
    (RetB (.int .i64 (if hv.length = 32 then 0 else 5)) w) := by
  show Calls Try.prog 134 #[.agg #[.int .i64 kind, .int .i64 stream, .int .u32 block, .int .i64 index, .int .i64 k, .int .i64 n, .int .i64 len, .int .i64 credit, Str hv, Str body]] w _
  by_cases h : hv.length = 32
  · have e : ((hv.length : Int) != 32) = false := by simp; omega
    rw [if_pos h]
    clear h
    go_enter Try.func134, Try.ntmps134
    go_wp2_with fail
    go_ret
    exact ⟨rfl, Below.chainAlloc (Below.refl _ _) _⟩
  · have e : ((hv.length : Int) != 32) = true := by simp; omega
    rw [if_neg h]
    clear h
    go_enter Try.func134, Try.ntmps134
    go_wp2_with fail
    go_ret
    exact ⟨rfl, Below.chainAlloc (Below.refl _ _) _⟩
theorem chk_ak (kind stream block index k n len credit : Int) (hv body : List UInt8) (w : World) : Calls Try.prog 138 #[dgv kind stream block index k n len credit hv body] w
    (RetB (.int .i64 (if credit < 0 ∨ 65535 < credit then 2 else 0)) w) := by
  show Calls Try.prog 138 #[.agg #[.int .i64 kind, .int .i64 stream, .int .u32 block, .int .i64 index, .int .i64 k, .int .i64 n, .int .i64 len, .int .i64 credit, Str hv, Str body]] w _
  by_cases h : credit < 0 ∨ 65535 < credit
  · rw [if_pos h]
    go_enter Try.func138, Try.ntmps138
    go_wp2_with fail
    all_goals first
      | (exfalso; omega)
      | (go_ret; exact ⟨rfl, Below.chainAlloc (Below.refl _ _) _⟩)
  · rw [if_neg h]
    go_enter Try.func138, Try.ntmps138
    go_wp2_with fail
    all_goals first
      | (exfalso; omega)
      | (go_ret; exact ⟨rfl, Below.chainAlloc (Below.refl _ _) _⟩)
theorem chk_pl (kind stream block index k n len credit : Int) (hv body : List UInt8) (w : World) : Calls Try.prog 142 #[dgv kind stream block index k n len credit hv body] w (RetB (.int .i64 0) w) := by
  show Calls Try.prog 142 #[.agg #[.int .i64 kind, .int .i64 stream, .int .u32 block, .int .i64 index, .int .i64 k, .int .i64 n, .int .i64 len, .int .i64 credit, Str hv, Str body]] w _
  go_enter Try.func142, Try.ntmps142
  go_wp2_with fail
  go_ret
  exact ⟨rfl, Below.chainAlloc (Below.refl _ _) _⟩
theorem put_nk (kind stream block index k n len credit : Int) (hv body : List UInt8) (w : World) : Calls Try.prog 135 #[dgv kind stream block index k n len credit hv body] w (RetB (Str hv) w) := by
  show Calls Try.prog 135 #[.agg #[.int .i64 kind, .int .i64 stream, .int .u32 block, .int .i64 index, .int .i64 k, .int .i64 n, .int .i64 len, .int .i64 credit, Str hv, Str body]] w _
  go_enter Try.func135, Try.ntmps135
  go_wp2_with fail
  go_ret
  exact ⟨rfl, Below.chainAlloc (Below.refl _ _) _⟩
theorem put_pl (kind stream block index k n len credit : Int) (hv body : List UInt8) (w : World) : Calls Try.prog 143 #[dgv kind stream block index k n len credit hv body] w (RetB (.string ⟨#[]⟩) w) := by
  show Calls Try.prog 143 #[.agg #[.int .i64 kind, .int .i64 stream, .int .u32 block, .int .i64 index, .int .i64 k, .int .i64 n, .int .i64 len, .int .i64 credit, Str hv, Str body]] w _
  go_enter Try.func143, Try.ntmps143
  go_wp2_with fail
  go_ret
  exact ⟨rfl, Below.chainAlloc (Below.refl _ _) _⟩
theorem putS_ok (z : Int) (s : Nat) (hs : s = 1 ∨ s = 2 ∨ s = 4) (h0 : 0 ≤ z) (h1 : z < 256 ^ s) : putS z s = be z s := by
  rcases hs with rfl | rfl | rfl
  · have hE : putE z (1 : Nat) = 0 := by
      unfold putE
      rw [if_neg (by decide), if_neg (by intro h; have h2 := h.2; simp at h2; omega)]
    unfold putS; rw [if_pos hE]; rfl
  · have hE : putE z (2 : Nat) = 0 := by
      unfold putE
      rw [if_neg (by decide), if_neg (by intro h; have h2 := h.2; simp at h2; omega)]
    unfold putS; rw [if_pos hE]; rfl
  · have hE : putE z (4 : Nat) = 0 := by
      unfold putE
      rw [if_neg (by decide), if_neg (by intro h; have h2 := h.1; simp at h2)]
    unfold putS; rw [if_pos hE]; rfl
theorem num_dg (z size : Int) (h0 : 0 ≤ z) (h1 : z < 4294967296) (w : World) : Calls Try.prog 57 #[.int .i64 z, .int .i64 size] w (RetB (Str (putS z size)) w) := by
  have HP := Lib.hid (fun wx => put_any z size h0 h1 wx)
  go_enter Try.func57, Try.ntmps57
  go_wp2_with fail
  refine (HP.out _).mono ?_
  rintro e w1 ⟨rfl, hb⟩
  generalize putS z size = s at *
  generalize putE z size = y at *
  go_wp2_with fail
  go_ret
  exact ⟨rfl, hb⟩
end Go.Proofs.Ytphejbjbleeigaa
