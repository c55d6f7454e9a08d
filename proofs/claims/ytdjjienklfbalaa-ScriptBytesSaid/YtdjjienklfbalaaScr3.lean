/-
  Scripts: a step's bytes: contracts (chapter 33).
-/
import Derived.Test.YtdjjienklfbalaaScr2
import Derived.Deep.RegionHeld3
import Derived.Test.YtdjjienklfbalaaWireRef
namespace Go.Proofs.Ytdjjienklfbalaa
open Go.RowKit
set_option linter.unusedVariables false
set_option maxRecDepth 100000
set_option maxHeartbeats 1000000
theorem rest_1 (ck cs cn : Int) (cb : List UInt8) (k0 : 0 ≤ ck) (k1 : ck < 256) (s0 : 0 ≤ cs) (s1 : cs < 256) (n0 : 0 ≤ cn) (n1 : cn < 65536) (hb : cb.length ≤ 2048) (w : World) : Calls Try.prog 199 #[.agg #[.int .i64 ck, .int .i64 cs, .int .i64 cn, Str cb]] w (RetB (Str (be ck 1 ++ be cs 1 ++ be cn 2 ++ be (cb.length : Nat) 2 ++ cb)) w) := by
  have P1 : putS ck 1 = be ck 1 := putS_ok ck 1 (by omega) k0 (by omega)
  have P2 : putS cs 1 = be cs 1 := putS_ok cs 1 (by omega) s0 (by omega)
  have P3 : putS cn 2 = be cn 2 := putS_ok cn 2 (by omega) n0 (by omega)
  have P4 : putS (cb.length : Nat) 2 = be (cb.length : Nat) 2 := putS_ok (cb.length : Nat) 2 (by omega) (by omega) (by omega)
  have L1 : (be ck 1).length = 1 := be_length _ _
  have L2 : (be cs 1).length = 1 := be_length _ _
  have L3 : (be cn 2).length = 2 := be_length _ _
  have L4 : (be (cb.length : Nat) 2).length = 2 := be_length _ _
  have hs5 : ¬ 9223372036854775807 < 6 + cb.length := by omega
  have q1 : ck < 4294967296 := by omega
  have q2 : cs < 4294967296 := by omega
  have q3 : cn < 4294967296 := by omega
  have q4 : (0 : Int) ≤ (cb.length : Nat) := by omega
  have q5 : ((cb.length : Nat) : Int) < 4294967296 := by omega
  go_enter Try.func199, Try.ntmps199
  go_upto_region 1 with fail
  have kb := Blk.new w #[.int .i64 ck, .int .i64 cs, .int .i64 cn, Str cb] 229
  have hW := Below.chainAlloc (Below.refl w.heap.size w) (.cells #[.int .i64 ck, .int .i64 cs, .int .i64 cn, Str cb] 229)
  generalize w.alloc (.cells #[.int .i64 ck, .int .i64 cs, .int .i64 cn, Str cb] 229) = W at *
  have hmk : ∀ w', Below W.heap.size W w' → ((∀ o, w'.cell? ⟨w.heap.size, o, none⟩ = #[.int .i64 ck, .int .i64 cs, .int .i64 cn, Str cb][o]?) ∧ Below W.heap.size W w') := fun w' h => ⟨fun o => (h.cell (p := ⟨w.heap.size, o, none⟩) kb.lt).trans (kb.facts.1 o), h⟩
  have HMK := Lib.hid hmk
  have HW := Lib.hid hW
  clear hmk kb hW
  go_region_held3 (fun w' => (∀ o, w'.cell? ⟨w.heap.size, o, none⟩ = #[.int .i64 ck, .int .i64 cs, .int .i64 cn, Str cb][o]?) ∧ Below W.heap.size W w')
    (first
      | exact HMK.out _ (Below.refl _ _).drew
      | exact HMK.out _ (Below.refl _ _)
      | (go_split_ands; exact HMK.out _ (Below.chain hb (by assumption))))
    ((go_at_call 87; refine (num_s _ _ ?_ ?_ _).mono ?_; (first | omega | assumption); (first | omega | assumption); rintro x w1 ⟨rfl, hb⟩))
  rename_i hHeld
  go_wp2_with fail
  go_ret
  exact ⟨by simp only [app_lists]; rfl, Below.chain hHeld.2 HW.out⟩
theorem rest_10 (raw : List UInt8) (hb : raw.length ≤ 2048) (w : World) : Calls Try.prog 200 #[.agg #[Str raw]] w (RetB (Str (be (raw.length : Nat) 2 ++ raw)) w) := by
  have P4 : putS (raw.length : Nat) 2 = be (raw.length : Nat) 2 := putS_ok (raw.length : Nat) 2 (by omega) (by omega) (by omega)
  have L4 : (be (raw.length : Nat) 2).length = 2 := be_length _ _
  have hs5 : ¬ 9223372036854775807 < 2 + raw.length := by omega
  have q4 : (0 : Int) ≤ (raw.length : Nat) := by omega
  have q5 : ((raw.length : Nat) : Int) < 4294967296 := by omega
  go_enter Try.func200, Try.ntmps200
  go_upto_region 1 with fail
  have kb := Blk.new w #[Str raw] 232
  have hW := Below.chainAlloc (Below.refl w.heap.size w) (.cells #[Str raw] 232)
  generalize w.alloc (.cells #[Str raw] 232) = W at *
  have hmk : ∀ w', Below W.heap.size W w' → ((∀ o, w'.cell? ⟨w.heap.size, o, none⟩ = #[Str raw][o]?) ∧ Below W.heap.size W w') := fun w' h => ⟨fun o => (h.cell (p := ⟨w.heap.size, o, none⟩) kb.lt).trans (kb.facts.1 o), h⟩
  have HMK := Lib.hid hmk
  have HW := Lib.hid hW
  clear hmk kb hW
  go_region_held3 (fun w' => (∀ o, w'.cell? ⟨w.heap.size, o, none⟩ = #[Str raw][o]?) ∧ Below W.heap.size W w')
    (first
      | exact HMK.out _ (Below.refl _ _).drew
      | exact HMK.out _ (Below.refl _ _)
      | (go_split_ands; exact HMK.out _ (Below.chain hb (by assumption))))
    ((go_at_call 87; refine (num_s _ _ ?_ ?_ _).mono ?_; (first | omega | assumption); (first | omega | assumption); rintro x w1 ⟨rfl, hb⟩))
  rename_i hHeld
  go_wp2_with fail
  go_ret
  exact ⟨by simp only [app_lists]; rfl, Below.chain hHeld.2 HW.out⟩
theorem rest_o (w : World) : Calls Try.prog 201 #[.agg #[]] w (RetB (.string ⟨#[]⟩) w) := by
  go_enter Try.func201, Try.ntmps201
  go_wp2_with fail
  go_ret
  exact ⟨rfl, by first | exact Below.refl _ _ | exact Below.chainAlloc (Below.refl _ _) _⟩
end Go.Proofs.Ytdjjienklfbalaa
