/-
  Wire: chapter 9's example calls return true; the law WireNone returns true for every input. No condition.
-/
import Derived.Test.YtonafnhgpngfpaaWireRef
import Derived.Test.YtonafnhgpngfpaaLift
namespace Go.Proofs.Ytonafnhgpngfpaa
open Go.RowKit Go.ChangeShapes Go.WideShapes
set_option maxRecDepth 100000
set_option maxHeartbeats 1000000
theorem awake09 (w : World) : Calls Try.prog 26 #[] w fun e w' => e = .returned (.bool true) ∧ Below w.heap.size w w' := by
  have p1 : putS 258 2 = [1, 2] := by decide
  have p2 : putE 258 2 = 0 := by decide
  have p3 : putS 256 1 = [] := by decide
  have p4 : putE 256 1 = 2 := by decide
  have p5 : putS 1 3 = [] := by decide
  have p6 : putE 1 3 = 1 := by decide
  have u1 : unbe [1, 2] = 258 := by decide
  have u2 : unbe [] = 0 := by decide
  have t1 := Lib.hid (show tk [1, 2, 97, 98] 0 2 (badB 2) = ([1, 2], [97, 98], 0) by decide)
  have t2 := Lib.hid (show tk [97, 98] 0 1 (decide ((1 : Int) < 0)) = ([97], [98], 0) by decide)
  have t3 := Lib.hid (show tk [98] 0 4 (badB 4) = ([], [98], 4) by decide)
  have t4 := Lib.hid (show tk [98] 4 1 (decide ((1 : Int) < 0)) = ([], [98], 4) by decide)
  go_enter Try.func26, Try.ntmps26
  go_wp2_with fail
  refine (put_any 258 2 (by omega) (by omega) _).mono ?_
  rintro x w1 ⟨rfl, h1⟩
  rw [p1, p2]
  clear p1 p2
  go_wp2_with fail
  refine (put_any 256 1 (by omega) (by omega) _).mono ?_
  rintro x w2 ⟨rfl, h2⟩
  rw [p3, p4]
  clear p3 p4
  go_wp2_with fail
  refine (put_any 1 3 (by omega) (by omega) _).mono ?_
  rintro x w3 ⟨rfl, h3⟩
  rw [p5, p6]
  clear p5 p6
  have hB := Below.chain h3 (Below.chain h2 h1)
  clear h1 h2 h3
  go_wp2_with fail
  refine (new_any [1, 2, 97, 98] (by decide) _).mono ?_
  rintro x w4 ⟨rfl, hr, h4⟩
  have hlt : w.heap.size ≤ w3.heap.size := hB.size
  replace hB := Below.chain h4 hB
  generalize w3.heap.size = b at *
  have hlt' := Lib.hid hlt
  clear h4 hlt
  go_wp2_with fail
  refine (num_any b _ _ _ _ hr).mono ?_
  rintro x w5 ⟨rfl, hr, ho⟩
  rw [t1.out] at hr ⊢
  replace hB := Below.only hB ho (by simpa using hlt'.out)
  clear ho
  go_wp2_with fail
  refine (bytes_any b _ _ _ _ hr).mono ?_
  rintro x w6 ⟨rfl, hr, ho⟩
  rw [t2.out] at hr ⊢
  replace hB := Below.only hB ho (by simpa using hlt'.out)
  clear ho
  go_wp2_with fail
  refine (left_any b _ _ _ hr).mono ?_
  rintro x w7 ⟨rfl, rfl⟩
  go_wp2_with fail
  refine (err_any b _ _ _ hr).mono ?_
  rintro x w7 ⟨rfl, rfl⟩
  go_wp2_with fail
  refine (num_any b _ _ _ _ hr).mono ?_
  rintro x w7 ⟨rfl, hr, ho⟩
  rw [t3.out] at hr ⊢
  replace hB := Below.only hB ho (by simpa using hlt'.out)
  clear ho
  go_wp2_with fail
  refine (err_any b _ _ _ hr).mono ?_
  rintro x w8 ⟨rfl, rfl⟩
  go_wp2_with fail
  refine (bytes_any b _ _ _ _ hr).mono ?_
  rintro x w8 ⟨rfl, hr, ho⟩
  rw [t4.out] at hr ⊢
  replace hB := Below.only hB ho (by simpa using hlt'.out)
  clear ho
  go_wp2_with fail
  refine (left_any b _ _ _ hr).mono ?_
  rintro x w9 ⟨rfl, rfl⟩
  go_wp2_with fail
  go_ret
  exact ⟨rfl, hB⟩
theorem walkNone (n : Int) (w : World) : Calls Try.prog 6 #[.int .i64 n] w fun e w' => e = .returned (.bool true) ∧ Below w.heap.size w w' := by
  go_enter Try.func6, Try.ntmps6
  go_wp2_with (first
    | (go_at_call 23; refine (num_nil _ _).mono ?_; rintro x w1 ⟨rfl, rfl⟩)
    | (go_at_call 29; refine (bytes_nil _ _).mono ?_; rintro x w1 ⟨rfl, rfl⟩)
    | (go_at_call 24; refine (left_nil _).mono ?_; rintro x w1 ⟨rfl, rfl⟩)
    | (go_at_call 25; refine (err_nil _).mono ?_; rintro x w1 ⟨rfl, rfl⟩)
    | (go_at_call 26; refine (awake09 _).mono ?_; rintro x w1 ⟨rfl, hb⟩))
  go_ret
  exact ⟨rfl, hb⟩
namespace wireNone
theorem own : ownKnob Try.prog.godebug = none := by kernel_rfl
theorem laidOut : laidOutB Try.prog = true := by kernel_rfl
set_option maxRecDepth 100000 in
theorem lifted (os : Os) (started : os.Started) (H : Type) (enc : TypeId × Value → H) :
    ReturnsInHanded {} Try.checked os 6 .any (Rows.wireNoneSpec.pre6 enc Try.prog Try.f6 Rows.wireNoneRow.domain false) (Rows.wireNoneSpec.post enc Try.prog Try.f6 false true false false) := by
  refine law_lift (C := Try.checked) (tb := 4) own started (by kernel_rfl) Try.func6 laidOut rfl Try.underlying4 rfl (by kernel_rfl) (fun ds h => by match ds, h with | [d1], _ => rfl)
    (ChangeSpec.witness6 (enc := enc) (C := Try.checked) false ⟨#[], #[.int .i64 0], []⟩ 8 (by kernel_rfl) (by kernel_rfl) (by kernel_rfl) (by kernel_rfl)) ?_
  intro W base args ds ps hval hA
  rw [Try.params6] at hA hval
  obtain ⟨v0, d0, rfl, rfl, h0⟩ := trodAll_one hA
  obtain ⟨n, rfl, rfl, rfl, wn⟩ := open_int Try.underlying3 (hval 0 3 v0 rfl rfl) h0
  replace wn := by simpa [Lit.wf, IntKind.min, IntKind.max, IntKind.signed, IntKind.bits] using wn
  exact walkNone n W
theorem proved : Rows.WireNoneSaid :=
  OpenClaim.holds_of_wide 6 Try.f6 rfl rfl rfl rfl rfl rfl rfl ⟨rfl, rfl, rfl, rfl, rfl⟩ rfl rfl rfl rfl rfl (by kernel_rfl) Try.func6 (by kernel_rfl)
    (of_decide_eq_true (by kernel_rfl)) (by unfold Func.isWrapper; first | (rw [if_pos (by decide +kernel)]; kernel_rfl) | (rw [if_neg (by decide +kernel)]; exact ⟨rfl, rfl⟩))
    (fun os started H enc _ => lifted os started H enc)
end wireNone
#print axioms wireNone.proved
end Go.Proofs.Ytonafnhgpngfpaa
