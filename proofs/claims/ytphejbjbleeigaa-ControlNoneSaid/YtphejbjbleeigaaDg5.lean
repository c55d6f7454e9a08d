/-
  Datagrams: a shard's bytes; whether a datagram may be: contracts (chapter 10).
-/
import Derived.Test.YtphejbjbleeigaaDg4
namespace Go.Proofs.Ytphejbjbleeigaa
open Go.RowKit
set_option linter.unusedVariables false
set_option maxRecDepth 100000
set_option maxHeartbeats 1000000
attribute [local go_sem ↓] Go.wp_at_zero Go.wp_at_succ
theorem put_ak (kind stream block index k n len credit : Int) (hv body : List UInt8) (h0 : 0 ≤ credit) (h1 : credit ≤ 65535) (w : World) : Calls Try.prog 139 #[dgv kind stream block index k n len credit hv body] w (RetB (Str (be credit 2)) w) := by
  show Calls Try.prog 139 #[.agg #[.int .i64 kind, .int .i64 stream, .int .u32 block, .int .i64 index, .int .i64 k, .int .i64 n, .int .i64 len, .int .i64 credit, Str hv, Str body]] w _
  have HP := Lib.hid (putS_ok credit 2 (by omega) h0 (by omega))
  go_enter Try.func139, Try.ntmps139
  go_wp2_with fail
  refine (num_dg credit 2 h0 (by omega) _).mono ?_
  rintro e w1 ⟨rfl, hb⟩
  have e : putS credit 2 = be credit 2 := HP.out
  rw [e]
  have hB := Below.chain hb (Below.chainAlloc (Below.refl _ _) _)
  clear hb e
  generalize be credit 2 = s at *
  go_wp2_with fail
  go_ret
  exact ⟨rfl, hB⟩
theorem put_sh (kind stream block index k n len credit : Int) (hv body : List UInt8) (i0 : 0 ≤ index) (i1 : index < 256) (k0 : 0 ≤ k) (k1 : k < 256) (n0 : 0 ≤ n) (n1 : n < 256) (l0 : 1 ≤ len) (l1 : len ≤ 32768) (hbl : body.length ≤ 1024) (w : World) :
    Calls Try.prog 130 #[dgv kind stream block index k n len credit hv body] w (RetB (Str (be index 1 ++ be k 1 ++ be n 1 ++ be (len - 1) 2 ++ body)) w) := by
  show Calls Try.prog 130 #[.agg #[.int .i64 kind, .int .i64 stream, .int .u32 block, .int .i64 index, .int .i64 k, .int .i64 n, .int .i64 len, .int .i64 credit, Str hv, Str body]] w _
  have P1 : putS index 1 = be index 1 := putS_ok index 1 (by omega) i0 (by omega)
  have P2 : putS k 1 = be k 1 := putS_ok k 1 (by omega) k0 (by omega)
  have P3 : putS n 1 = be n 1 := putS_ok n 1 (by omega) n0 (by omega)
  have P4 : putS (len - 1) 2 = be (len - 1) 2 := putS_ok (len - 1) 2 (by omega) (by omega) (by omega)
  have L1 : (be index 1).length = 1 := be_length _ _
  have L2 : (be k 1).length = 1 := be_length _ _
  have L3 : (be n 1).length = 1 := be_length _ _
  have L4 : (be (len - 1) 2).length = 2 := be_length _ _
  have hw1 : IntKind.i64.wrap (len - 1) = len - 1 := by rw [IntWalk.i64_in _ (by omega)]
  have l2 : 0 ≤ len - 1 := by omega
  have hs5 : ¬ 9223372036854775807 < 5 + body.length := by omega
  have l3 : len - 1 < 4294967296 := by omega
  go_enter Try.func130, Try.ntmps130
  go_upto_region 1 with fail
  have kb := Blk.new w #[.int .i64 kind, .int .i64 stream, .int .u32 block, .int .i64 index, .int .i64 k, .int .i64 n, .int .i64 len, .int .i64 credit, Str hv, Str body] 24
  have hW := Below.chainAlloc (Below.refl w.heap.size w) (.cells #[.int .i64 kind, .int .i64 stream, .int .u32 block, .int .i64 index, .int .i64 k, .int .i64 n, .int .i64 len, .int .i64 credit, Str hv, Str body] 24)
  generalize w.alloc (.cells #[.int .i64 kind, .int .i64 stream, .int .u32 block, .int .i64 index, .int .i64 k, .int .i64 n, .int .i64 len, .int .i64 credit, Str hv, Str body] 24) = W at *
  have hmk : ∀ w', Below W.heap.size W w' → (w'.cell? ⟨w.heap.size, 3, none⟩ = some (.int .i64 index) ∧ w'.cell? ⟨w.heap.size, 4, none⟩ = some (.int .i64 k) ∧ w'.cell? ⟨w.heap.size, 5, none⟩ = some (.int .i64 n) ∧ w'.cell? ⟨w.heap.size, 6, none⟩ = some (.int .i64 len) ∧ w'.cell? ⟨w.heap.size, 9, none⟩ = some (.string ⟨body.toArray⟩) ∧ Below W.heap.size W w') := fun w' h =>
    ⟨(h.cell (p := ⟨w.heap.size, 3, none⟩) kb.lt).trans (kb.facts.1 3), (h.cell (p := ⟨w.heap.size, 4, none⟩) kb.lt).trans (kb.facts.1 4), (h.cell (p := ⟨w.heap.size, 5, none⟩) kb.lt).trans (kb.facts.1 5), (h.cell (p := ⟨w.heap.size, 6, none⟩) kb.lt).trans (kb.facts.1 6), (h.cell (p := ⟨w.heap.size, 9, none⟩) kb.lt).trans (kb.facts.1 9), h⟩
  have HMK := Lib.hid hmk
  have HW := Lib.hid hW
  clear hmk kb hW
  go_region_held3 (fun w' => w'.cell? ⟨w.heap.size, 3, none⟩ = some (.int .i64 index) ∧ w'.cell? ⟨w.heap.size, 4, none⟩ = some (.int .i64 k) ∧ w'.cell? ⟨w.heap.size, 5, none⟩ = some (.int .i64 n) ∧ w'.cell? ⟨w.heap.size, 6, none⟩ = some (.int .i64 len) ∧ w'.cell? ⟨w.heap.size, 9, none⟩ = some (.string ⟨body.toArray⟩) ∧ Below W.heap.size W w')
    (first
      | exact HMK.out _ (Below.refl _ _).drew
      | exact HMK.out _ (Below.refl _ _)
      | (go_split_ands; exact HMK.out _ (Below.chain hb (by assumption))))
    ((go_at_call 57; refine (num_dg _ _ ?_ ?_ _).mono ?_; (first | omega | assumption); (first | omega | assumption); rintro x w1 ⟨rfl, hb⟩))
  rename_i hHeld
  obtain ⟨_, _, _, _, _, hbb⟩ := hHeld
  go_wp2_with fail
  go_ret
  exact ⟨by simp only [app_lists]; rfl, Below.chain hbb HW.out⟩
end Go.Proofs.Ytphejbjbleeigaa
