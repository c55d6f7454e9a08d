/-
  The chapter's example of a queue of jobs holds; a queue that is none answers as it should: for every key.
-/
import Derived.Test.YtonafnhgpngfpaaJobs
import Derived.Test.YtonafnhgpngfpaaLift3
import Derived.Test.YtonafnhgpngfpaaChecked
import Derived.Test.YtonafnhgpngfpaaShelf
namespace Go.Proofs.Ytonafnhgpngfpaa
open Go.ChangeShapes Go.WideShapes Go.ChangeAt Go.RowKit
set_option linter.unusedVariables false
set_option maxRecDepth 100000
set_option maxHeartbeats 4000000
theorem push_below {W w w' : World} {b : Nat} {v : Value} {js : List Jb} {room : Nat} {c : Bool} (h : Jq w b v js room c) (hB : Below W.heap.size W w) (hWb : W.heap.size ≤ b) (ho : Only (b :: v.ownBlock.toList) w w') : Below W.heap.size W w' :=
  Below.only hB ho (fun x hx => by
    rcases List.mem_cons.1 hx with rfl | hx
    · exact hWb
    · have := (h.2.1.blk x (by simpa using hx)).1
      omega)
theorem one_below {W w w' : World} {b : Nat} (hB : Below W.heap.size W w) (hWb : W.heap.size ≤ b) (ho : Only [b] w w') : Below W.heap.size W w' :=
  Below.only hB ho (fun x hx => by
    obtain rfl : x = b := by simpa using hx
    exact hWb)
theorem jawake (w : World) : Calls Try.prog 49 #[] w fun e w' => e = .returned (.bool true) ∧ Below w.heap.size w w' := by
  go_enter Try.func49, Try.ntmps49
  go_wp2_with fail
  refine (jnew_any 1 _ (by decide) (by decide)).mono ?_
  rintro x w1 ⟨rfl, hq, hb, hlt⟩
  go_wp2_with fail
  refine (jnew_bad 0 _ (by decide)).mono ?_
  rintro x w1 ⟨rfl, rfl⟩
  go_wp2_with fail
  refine (jpush_ok _ _ _ _ ⟨0, 0, 0, 0, 1⟩ _ hq (by decide)).mono ?_
  rintro x w2 ⟨rfl, v2, hq2, ho2, hv2⟩
  replace hb := push_below hq hb (Nat.le_refl _) ho2
  clear hq ho2 hv2
  go_wp2_with fail
  refine (jpush_full _ _ _ _ ⟨0, 0, 0, 0, 2⟩ _ hq2 (by decide)).mono ?_
  rintro x w3 ⟨rfl, hb3⟩
  replace hq2 := hq2.below hb3
  replace hb := Below.chain hb3 hb
  clear hb3
  go_wp2_with fail
  refine (jpop_ok _ _ _ _ _ _ _ hq2).mono ?_
  rintro x w4 ⟨rfl, v4, hq4, ho4, hv4⟩
  replace hb := one_below hb (Nat.le_refl _) ho4
  clear hq2 ho4 hv4
  go_wp2_with fail
  have hd4 : ∀ g, v4.ownBlock = some g → g ≠ w4.heap.size := fun g hg => by have := (hq4.2.1.blk g hg).2; omega
  have hd5 : w.heap.size ≠ w4.heap.size := by have := hq4.1.lt; omega
  have k4 := Blk.newAt (w := w4) (cs := #[.int .i64 0, .int .u32 0, .int .i64 0, .int .i64 0, .int .i64 1, .slice none 0 0]) (t := 84) rfl
  replace hq4 := hq4.below (Below.chainAlloc (Below.refl _ _) (Obj.cells #[.int .i64 0, .int .u32 0, .int .i64 0, .int .i64 0, .int .i64 1, .slice none 0 0] 84))
  replace hb := Below.chainAlloc hb (Obj.cells #[.int .i64 0, .int .u32 0, .int .i64 0, .int .i64 0, .int .i64 1, .slice none 0 0] 84)
  generalize w4.heap.size = n4 at *
  generalize (w4.alloc (Obj.cells #[.int .i64 0, .int .u32 0, .int .i64 0, .int .i64 0, .int .i64 1, .slice none 0 0] 84)) = w5 at *
  refine (jpop_empty _ _ _ _ _ hq4).mono ?_
  rintro x w6 ⟨rfl, hb6⟩
  replace hq4 := hq4.below hb6
  replace hb := Below.chain hb6 hb
  replace k4 := k4.below hb6 k4.lt
  clear hb6
  go_wp2_with fail
  replace hq4 := hq4.below (Below.chainAlloc (Below.refl _ _) (Obj.cells #[.int .i64 0, .int .u32 0, .int .i64 0, .int .i64 0, .int .i64 0, .slice none 0 0] 84))
  replace hb := Below.chainAlloc hb (Obj.cells #[.int .i64 0, .int .u32 0, .int .i64 0, .int .i64 0, .int .i64 0, .slice none 0 0] 84)
  replace k4 := k4.alloc (Obj.cells #[.int .i64 0, .int .u32 0, .int .i64 0, .int .i64 0, .int .i64 0, .slice none 0 0] 84)
  generalize w6.heap.size = n6 at *
  generalize (w6.alloc (Obj.cells #[.int .i64 0, .int .u32 0, .int .i64 0, .int .i64 0, .int .i64 0, .slice none 0 0] 84)) = w7 at *
  refine (jpush_ok _ _ _ _ ⟨0, 0, 0, 0, 3⟩ _ hq4 (by decide)).mono ?_
  rintro x w8 ⟨rfl, v8, hq8, ho8, hv8⟩
  replace hb := push_below hq4 hb (Nat.le_refl _) ho8
  replace k4 := k4.only ho8 (fun hm => by
    rcases List.mem_cons.1 hm with h | h
    · exact hd5 h.symm
    · exact hd4 n4 (by simpa using h) rfl)
  clear hq4 ho8 hv8 hd4
  go_wp2_with fail
  refine (jclose_open _ _ _ _ _ hq8).mono ?_
  rintro x w9 ⟨rfl, hq9, ho9⟩
  replace hb := one_below hb (Nat.le_refl _) ho9
  replace k4 := k4.only ho9 (by simpa using fun h => hd5 h.symm)
  clear hq8 ho9
  go_wp2_with fail
  refine (jclose_shut _ _ _ _ _ hq9).mono ?_
  rintro x w10 ⟨rfl, rfl⟩
  go_wp2_with fail
  refine (jpush_shut _ _ _ _ ⟨0, 0, 0, 0, 0⟩ _ hq9).mono ?_
  rintro x w11 ⟨rfl, hb11⟩
  replace hq9 := hq9.below hb11
  replace k4 := k4.below hb11 k4.lt
  replace hb := Below.chain hb11 hb
  clear hb11
  have c3 : w11.cell? ⟨n4, 3, none⟩ = some (.int .i64 0) := k4.facts.1 3
  have c4 : w11.cell? ⟨n4, 4, none⟩ = some (.int .i64 1) := k4.facts.1 4
  clear k4
  go_wp2_with fail
  refine (jclosed_any _ _ _ _ _ _ hq9).mono ?_
  rintro x w12 ⟨rfl, rfl⟩
  go_wp2_with fail
  refine (jlen_any _ _ _ _ _ _ hq9).mono ?_
  rintro x w12 ⟨rfl, rfl⟩
  go_wp2_with fail
  go_ret
  exact ⟨rfl, hb⟩
theorem jobsNone_true (s b : Int) (w : World) : Calls Try.prog 12 #[.agg #[.int .i64 s, .int .u32 b]] w fun e w' => e = .returned (.bool true) ∧ Below w.heap.size w w' := by
  go_enter Try.func12, Try.ntmps12
  go_wp2_with fail
  refine (jpop_nil _).mono ?_
  rintro x w1 ⟨rfl, hb⟩
  have kk := Blk.newAt (w := w) (cs := #[.int .i64 s, .int .u32 b]) (t := 78) rfl
  replace kk := kk.below hb kk.lt
  replace hb := Below.chain hb (Below.chainAlloc (Below.refl _ _) _)
  have c0 : w1.cell? ⟨w.heap.size, 0, none⟩ = some (.int .i64 s) := kk.facts.1 0
  have c1 : w1.cell? ⟨w.heap.size, 1, none⟩ = some (.int .u32 b) := kk.facts.1 1
  have hlt := kk.lt
  clear kk
  go_wp2_with fail
  refine (jpush_nil ⟨s, b, 0, 0, 0⟩ _).mono ?_
  rintro x w2 ⟨rfl, hb2⟩
  replace hb := Below.chain hb2 (Below.chainAlloc hb _)
  clear hb2 c0 c1
  go_wp2_with fail
  refine (jclose_nil _).mono ?_
  rintro x w3 ⟨rfl, rfl⟩
  go_wp2_with fail
  refine (jclosed_nil _).mono ?_
  rintro x w3 ⟨rfl, rfl⟩
  go_wp2_with fail
  refine (jlen_nil _).mono ?_
  rintro x w3 ⟨rfl, rfl⟩
  go_wp2_with fail
  refine (jawake _).mono ?_
  rintro x w4 ⟨rfl, hb4⟩
  replace hb := Below.chain hb4 hb
  clear hb4
  go_wp2_with fail
  go_ret
  exact ⟨rfl, hb⟩
/-- A key that came in. -/
theorem open_key {H : Type} {enc : TypeId × Value → H} {W : World} {r : Reach} {b0 b : Nat} {sp : Nat → Bool} {hd : Bool} {v : Value} {d : DataW H} {p : List MemPlace}
    (hv : Value.okWide Try.prog W r b0 78 v) (h : DataW.Trod enc Try.prog W b sp hd 78 v d p) :
    ∃ s b : Int, v = .agg #[.int .i64 s, .int .u32 b] ∧ (Lit.int .i64 s).wf = true ∧ (Lit.int .u32 b).wf = true := by
  obtain ⟨cs, rfl, hlen, hc⟩ := open_agg_cells Try.underlying78 (by kernel_rfl) (by kernel_rfl) hv h
  obtain ⟨x, y, rfl⟩ := list2 hlen
  obtain ⟨c, z, n, hx, ht⟩ := hc 0 _ rfl
  obtain ⟨c', z', n', hx', ht'⟩ := hc 1 _ rfl
  obtain rfl : x = c := by simpa using hx
  obtain rfl : y = c' := by simpa using hx'
  obtain ⟨a, ha, _, wa⟩ := DataW.trod_int Try.underlying3 ht
  obtain ⟨a', ha', _, wa'⟩ := DataW.trod_int Try.underlying30 ht'
  exact ⟨a, a', by simp at ha ha'; rw [ha, ha'], wa, wa'⟩
namespace jobsNone
theorem own : ownKnob Try.prog.godebug = none := by kernel_rfl
theorem laidOut : laidOutB Try.prog = true := by kernel_rfl
set_option maxRecDepth 100000 in
theorem lifted (os : Os) (started : os.Started) (H : Type) (enc : TypeId × Value → H) :
    ReturnsInHanded {} Try.checked os 12 .any (Rows.jobsNoneSpec.pre6 enc Try.prog Try.f12 Rows.jobsNoneRow.domain false) (Rows.jobsNoneSpec.post enc Try.prog Try.f12 false true false false) := by
  refine law_lift (C := Try.checked) (tb := 4) own started (by kernel_rfl) Try.func12 laidOut rfl Try.underlying4 rfl (by kernel_rfl) (fun ds h => by match ds, h with | [d1], _ => rfl)
    (ChangeSpec.witness6 (enc := enc) (C := Try.checked) false ⟨#[], #[.agg #[.int .i64 0, .int .u32 0]], []⟩ 8 (by kernel_rfl) (by kernel_rfl) (by kernel_rfl) (by kernel_rfl)) ?_
  intro W base args ds ps hval hA
  rw [Try.params12] at hA hval
  obtain ⟨v0, d0, rfl, rfl, h0⟩ := trodAll_one hA
  obtain ⟨s, b, rfl, ws, wb⟩ := open_key (hval 0 78 v0 rfl rfl) h0
  exact jobsNone_true s b W
theorem proved : Rows.JobsNoneSaid :=
  OpenClaim.holds_of_wide 12 Try.f12 rfl rfl rfl rfl rfl rfl rfl ⟨rfl, rfl, rfl, rfl, rfl⟩ rfl rfl rfl rfl rfl (by kernel_rfl) Try.func12 (by kernel_rfl)
    (of_decide_eq_true (by kernel_rfl)) (by unfold Func.isWrapper; first | (rw [if_pos (by decide +kernel)]; kernel_rfl) | (rw [if_neg (by decide +kernel)]; exact ⟨rfl, rfl⟩))
    (fun os started H enc _ => lifted os started H enc)
end jobsNone
#print axioms jobsNone.proved
end Go.Proofs.Ytonafnhgpngfpaa
