/-
  Datagrams: the datagram of any bytes, or the error: as the document says (chapter 10).
-/
import Derived.Test.YtphejbjbleeigaaDg14
import Derived.Test.YtphejbjbleeigaaRr5
namespace Go.Proofs.Ytphejbjbleeigaa
open Go.RowKit
set_option linter.unusedVariables false
set_option maxRecDepth 100000
set_option maxHeartbeats 1000000
open Go.ChangeShapes Go.WideShapes Go.ChangeAt
theorem reads_walk (s : List UInt8) (hs : s.length ≤ 9223372036854775807) (w : World) :
    Calls Try.prog 4 #[Str s] w fun e w' => e = .returned (.bool true) ∧ Below w.heap.size w w' := by
  by_cases hfar : 2000 < s.length
  · have hd : decide (2000 < (s.length : Int)) = true := by simp; omega
    clear hfar
    go_enter Try.func4, Try.ntmps4
    go_wp2_with fail
    refine (awake10 _).mono ?_
    rintro e w2 ⟨rfl, hb⟩
    go_wp2_with fail
    go_ret
    exact ⟨rfl, hb⟩
  · have hd : decide (2000 < (s.length : Int)) = false := by simp; omega
    have HR := Lib.hid (read_dg s (by omega))
    have HRR := Lib.hid (rread_dg s (by omega))
    clear hfar
    generalize readD s = d at *
    generalize readE s = g at *
    have HEq := Lib.hid (fun w => run_eql_dg d d w)
    obtain ⟨kind, stream, block, index, k, n, len, credit, hv, body⟩ := d
    simp only [decide_true] at HEq
    go_enter Try.func4, Try.ntmps4
    go_wp2_with fail
    refine (HR.out _).mono ?_
    rintro e w1 ⟨rfl, hb⟩
    have k1 := Blk.new w1 #[.int .i64 kind, .int .i64 stream, .int .u32 block, .int .i64 index, .int .i64 k, .int .i64 n, .int .i64 len, .int .i64 credit, Str hv, Str body] 24
    have hB1 := Below.chainAlloc hb (.cells #[.int .i64 kind, .int .i64 stream, .int .u32 block, .int .i64 index, .int .i64 k, .int .i64 n, .int .i64 len, .int .i64 credit, Str hv, Str body] 24)
    clear hb HR
    go_wp2_with fail
    refine (HRR.out _).mono ?_
    rintro e w2 ⟨rfl, hb⟩
    have k2 := (k1.below hb k1.lt).alloc (.cells #[.int .i64 kind, .int .i64 stream, .int .u32 block, .int .i64 index, .int .i64 k, .int .i64 n, .int .i64 len, .int .i64 credit, Str hv, Str body] 24)
    have x2 := Blk.new w2 #[.int .i64 kind, .int .i64 stream, .int .u32 block, .int .i64 index, .int .i64 k, .int .i64 n, .int .i64 len, .int .i64 credit, Str hv, Str body] 24
    have hB2 := Below.chainAlloc (Below.chain hb hB1) (.cells #[.int .i64 kind, .int .i64 stream, .int .u32 block, .int .i64 index, .int .i64 k, .int .i64 n, .int .i64 len, .int .i64 credit, Str hv, Str body] 24)
    have hlt := (k1.below hb k1.lt).lt
    clear hb HRR k1 hB1
    go_upto_region 5 with fail
    generalize w2.alloc (.cells #[.int .i64 kind, .int .i64 stream, .int .u32 block, .int .i64 index, .int .i64 k, .int .i64 n, .int .i64 len, .int .i64 credit, Str hv, Str body] 24) = W at *
    obtain ⟨c2, f2, l2⟩ := k2.facts
    obtain ⟨cx, fx, lx⟩ := x2.facts
    have hg := fun x y w => run_eqGuard_agg (P := Try.prog) w .eql 24 x y #[.int .i64 kind, .int .i64 stream, .int .u32 block, .int .i64 index, .int .i64 k, .int .i64 n, .int .i64 len, .int .i64 credit, Str hv, Str body] #[.int .i64 kind, .int .i64 stream, .int .u32 block, .int .i64 index, .int .i64 k, .int .i64 n, .int .i64 len, .int .i64 credit, Str hv, Str body] guardDg
    have he := HEq.out
    clear HEq
    go_wp2_with fail
    refine (awake10 _).mono ?_
    rintro e w9 ⟨rfl, hb⟩
    have hB := Below.chain hb hB2
    clear hb
    go_wp2_with fail
    go_ret
    exact ⟨rfl, hB⟩
namespace datagramReads
theorem own : ownKnob Try.prog.godebug = none := by kernel_rfl
theorem laidOut : laidOutB Try.prog = true := by kernel_rfl
set_option maxRecDepth 100000 in
theorem lifted (os : Os) (started : os.Started) (H : Type) (enc : TypeId × Value → H) :
    ReturnsInHanded {} Try.checked os 4 .any (Rows.datagramReadsSpec.pre6 enc Try.prog Try.f4 Rows.datagramReadsRow.domain false) (Rows.datagramReadsSpec.post enc Try.prog Try.f4 false true false false) := by
  refine law_lift (C := Try.checked) (tb := 4) own started (by kernel_rfl) Try.func4 laidOut rfl Try.underlying4 rfl (by kernel_rfl) (fun ds h => by match ds, h with | [d1], _ => rfl)
    (ChangeSpec.witness6 (enc := enc) (C := Try.checked) false ⟨#[], #[.string ⟨#[]⟩], []⟩ 8 (by kernel_rfl) (by kernel_rfl) (by kernel_rfl) (by kernel_rfl)) ?_
  intro W base args ds ps hval hA
  rw [Try.params4] at hA hval
  obtain ⟨v0, d0, rfl, rfl, h0⟩ := trodAll_one hA
  obtain ⟨s, rfl, rfl, rfl, ws⟩ := Go.ChangeMaps.open_string Try.underlying9 (hval 0 9 v0 rfl rfl) h0
  obtain ⟨s, rfl⟩ := str_list s
  replace ws := str_len ws
  exact reads_walk s ws _
theorem proved : Rows.DatagramReadsSaid :=
  OpenClaim.holds_of_wide 4 Try.f4 rfl rfl rfl rfl rfl rfl rfl ⟨rfl, rfl, rfl, rfl, rfl⟩ rfl rfl rfl rfl rfl (by kernel_rfl) Try.func4 (by kernel_rfl)
    (of_decide_eq_true (by kernel_rfl)) (by unfold Func.isWrapper; first | (rw [if_pos (by decide +kernel)]; kernel_rfl) | (rw [if_neg (by decide +kernel)]; exact ⟨rfl, rfl⟩))
    (fun os started H enc _ => lifted os started H enc)
end datagramReads
#print axioms datagramReads.proved
end Go.Proofs.Ytphejbjbleeigaa
