/-
  The law WirePuts returns true for every number and every size. No condition.
-/
import Derived.Test.YtonafnhgpngfpaaWireLawN
namespace Go.Proofs.Ytonafnhgpngfpaa
open Go.RowKit Go.ChangeShapes Go.WideShapes
set_option maxRecDepth 100000
set_option maxHeartbeats 1000000
theorem putE_zero (n size : Int) (h : putE n size = 0) : badB size = false ∧ (size < 4 → n < 256 ^ size.toNat) := by
  unfold putE at h
  split at h
  · omega
  · rename_i hb
    refine ⟨by simpa using hb, fun h4 => ?_⟩
    split at h
    · omega
    · rename_i hc
      exact Int.not_le.1 (fun hl => hc ⟨h4, hl⟩)
theorem put_back (n size : Int) (h0 : 0 ≤ n) (h1 : n < 4294967296) (h : putE n size = 0) :
    tk (putS n size) 0 size (badB size) = (be n size.toNat, [], 0) ∧ unbe (be n size.toNat) = n := by
  obtain ⟨hb, hs⟩ := putE_zero n size h
  have hS : putS n size = be n size.toNat := by simp [putS, h]
  have hl := be_length n size.toNat
  have hp := bad_pos size hb
  refine ⟨?_, ?_⟩
  · unfold tk
    rw [hb, hS, if_neg (by omega), if_neg (by simp), if_neg (by omega)]
    rw [List.take_of_length_le (by omega), List.drop_of_length_le (by omega)]
  · rw [unbe_be n h0]
    rcases badB_no hb with rfl | rfl | rfl
    · have := hs (by omega); simp at this ⊢; omega
    · have := hs (by omega); simp at this ⊢; omega
    · simp; omega
theorem walkPuts (n size : Int) (h0 : 0 ≤ n) (h1 : n < 4294967296) (w : World) : Calls Try.prog 4 #[.int .u32 n, .int .i64 size] w fun e w' => e = .returned (.bool true) ∧ Below w.heap.size w w' := by
  have hlen : (putS n size).length ≤ 9223372036854775807 := by
    unfold putS
    split
    · rename_i h
      rw [be_length]
      rcases badB_no (putE_zero n size h).1 with rfl | rfl | rfl <;> simp
    · simp
  have hput := fun w => put_any n size h0 h1 w
  have hrput := fun w => rput_any n size h0 h1 w
  have hback := put_back n size h0 h1
  generalize putS n size = s at *
  generalize putE n size = x at *
  have HP := Lib.hid hput
  have HR := Lib.hid hrput
  clear hput hrput
  have HL := Lib.hid hlen
  clear hlen
  by_cases hx : x = 0
  · subst hx
    obtain ⟨hb1, hb2⟩ := hback rfl
    clear hback
    have HB1 := Lib.hid hb1
    have HB2 := Lib.hid hb2
    clear hb1 hb2
    go_enter Try.func4, Try.ntmps4
    go_wp2_with fail
    refine (HP.out _).mono ?_
    rintro x w1 ⟨rfl, h2⟩
    go_wp2_with fail
    refine (HR.out _).mono ?_
    rintro x w2 ⟨rfl, h3⟩
    have hB := Below.chain h3 h2
    clear h2 h3
    go_wp2_with fail
    refine (new_any s HL.out _).mono ?_
    rintro x w4 ⟨rfl, hr, h4⟩
    have hlt : w.heap.size ≤ w2.heap.size := hB.size
    replace hB := Below.chain h4 hB
    generalize w2.heap.size = b at *
    have hlt' := Lib.hid hlt
    clear h4 hlt
    go_wp2_with fail
    refine (num_any b _ _ _ _ hr).mono ?_
    rintro x w5 ⟨rfl, hr, ho⟩
    rw [HB1.out] at hr ⊢
    dsimp only at hr ⊢
    rw [HB2.out]
    replace hB := Below.only hB ho (by simpa using hlt'.out)
    clear ho
    go_wp2_with fail
    refine (left_any b _ _ _ hr).mono ?_
    rintro x w7 ⟨rfl, rfl⟩
    go_wp2_with fail
    refine (err_any b _ _ _ hr).mono ?_
    rintro x w7 ⟨rfl, rfl⟩
    go_wp2_with fail
    refine (awake09 _).mono ?_
    rintro x w1 ⟨rfl, h1⟩
    go_wp2_with fail
    go_ret
    exact ⟨rfl, Below.chain h1 hB⟩
  · clear hback
    have hx' : (x != 0) = true := by simpa using hx
    go_enter Try.func4, Try.ntmps4
    go_wp2_with fail
    refine (HP.out _).mono ?_
    rintro x w1 ⟨rfl, h2⟩
    go_wp2_with fail
    refine (HR.out _).mono ?_
    rintro x w2 ⟨rfl, h3⟩
    go_wp2_with fail
    refine (new_any s HL.out _).mono ?_
    rintro x w4 ⟨rfl, _, h4⟩
    go_wp2_with fail
    refine (awake09 _).mono ?_
    rintro x w1 ⟨rfl, h5⟩
    go_wp2_with fail
    go_ret
    exact ⟨rfl, Below.chain h5 (Below.chain h4 (Below.chain h3 h2))⟩
namespace wirePuts
theorem own : ownKnob Try.prog.godebug = none := by kernel_rfl
theorem laidOut : laidOutB Try.prog = true := by kernel_rfl
set_option maxRecDepth 100000 in
theorem lifted (os : Os) (started : os.Started) (H : Type) (enc : TypeId × Value → H) :
    ReturnsInHanded {} Try.checked os 4 .any (Rows.wirePutsSpec.pre6 enc Try.prog Try.f4 Rows.wirePutsRow.domain false) (Rows.wirePutsSpec.post enc Try.prog Try.f4 false true false false) := by
  refine law_lift (C := Try.checked) (tb := 4) own started (by kernel_rfl) Try.func4 laidOut rfl Try.underlying4 rfl (by kernel_rfl) (fun ds h => by match ds, h with | [d1, d2], _ => rfl)
    (ChangeSpec.witness6 (enc := enc) (C := Try.checked) false ⟨#[], #[.int .u32 0, .int .i64 0], []⟩ 8 (by kernel_rfl) (by kernel_rfl) (by kernel_rfl) (by kernel_rfl)) ?_
  intro W base args ds ps hval hA
  rw [Try.params4] at hA hval
  obtain ⟨v0, v1, d0, d1, p0, p1, rfl, rfl, rfl, h0, h1⟩ := trodAll_two hA
  obtain ⟨n, rfl, rfl, rfl, wn⟩ := open_int Try.underlying30 (hval 0 30 v0 rfl rfl) h0
  replace wn := by simpa [Lit.wf, IntKind.min, IntKind.max, IntKind.signed, IntKind.bits] using wn
  obtain ⟨size, rfl, rfl, rfl, wsize⟩ := open_int Try.underlying3 (hval 1 3 v1 rfl rfl) h1
  replace wsize := by simpa [Lit.wf, IntKind.min, IntKind.max, IntKind.signed, IntKind.bits] using wsize
  exact walkPuts n size (by omega) (by omega) W
theorem proved : Rows.WirePutsSaid :=
  OpenClaim.holds_of_wide 4 Try.f4 rfl rfl rfl rfl rfl rfl rfl ⟨rfl, rfl, rfl, rfl, rfl⟩ rfl rfl rfl rfl rfl (by kernel_rfl) Try.func4 (by kernel_rfl)
    (of_decide_eq_true (by kernel_rfl)) (by unfold Func.isWrapper; first | (rw [if_pos (by decide +kernel)]; kernel_rfl) | (rw [if_neg (by decide +kernel)]; exact ⟨rfl, rfl⟩))
    (fun os started H enc _ => lifted os started H enc)
end wirePuts
#print axioms wirePuts.proved
end Go.Proofs.Ytonafnhgpngfpaa
