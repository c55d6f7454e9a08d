/-
  The law ConfigChecks returns true for every api.Config, and changes nothing that was there.
  No condition.
-/
import Derived.Test.YtonafnhgpngfpaaConfig
import Derived.Test.YtonafnhgpngfpaaLift
namespace Go.Proofs.Ytonafnhgpngfpaa
open Go.RowKit Go.ChangeShapes Go.WideShapes
set_option maxHeartbeats 1000000
theorem awake26 (w : World) : Calls Try.prog 19 #[] w fun e w' => e = .returned (.bool true) ∧ Below w.heap.size w w' := by
  have e1 : blockV 4 16 = 64 := by decide
  have e2 : chkV 4 2 16 4 256 256 64 4096 16 2 8 = 0 := by decide
  have e3 : chkV 4 2 16 4 63 256 64 4096 16 2 8 = 2 := by decide
  have e4 : chkV 0 0 0 0 0 0 0 0 0 0 0 = 2 := by decide
  have e5 : blockV 33 1 = 0 := by decide
  go_enter Try.func19, Try.ntmps19
  go_wp2_with (go_at_call 17; refine (plain_any _).mono ?_; rintro e w1 ⟨rfl, hb1⟩)
  have hz := hb1.size
  refine (block_any _ _ _ _ _ _ _ _ _ _ _ _).mono ?_
  rintro e w2 ⟨rfl, hb⟩
  have b1 := ((Blk.new w1 _ _).alloc _).below hb (by simp <;> omega)
  have b2 := (Blk.newAt (n := w1.heap.size + 1) (w := w1.alloc _) (by simp)).below hb (by simp <;> omega)
  have hB := Below.chain hb (Below.chainAlloc (Below.chainAlloc hb1 _) _)
  clear hb
  obtain ⟨c1, f1, l1⟩ := b1.facts
  obtain ⟨c2, f2, l2⟩ := b2.facts
  go_wp2_with (first
    | (go_at_call 13; refine (check_any _ _ _ _ _ _ _ _ _ _ _ _).mono ?_; rintro e w3 ⟨rfl, hb⟩; replace b1 := b1.below hb l1; replace b2 := b2.below hb l2; replace hB := Below.chain hb hB; clear c1 f1 l1 c2 f2 l2 hb; obtain ⟨c1, f1, l1⟩ := b1.facts; obtain ⟨c2, f2, l2⟩ := b2.facts)
    | (go_at_call 15; refine (block_any _ _ _ _ _ _ _ _ _ _ _ _).mono ?_; rintro e w3 ⟨rfl, hb⟩; replace hB := Below.chain hb hB; clear hb))
  go_ret
  exact ⟨rfl, hB⟩

theorem walk26 (k r s wi bu q qu t wo ws ti : Int) (w : World) : Calls Try.prog 3 #[.agg #[.int .i64 k, .int .i64 r, .int .i64 s, .int .i64 wi, .int .i64 bu, .int .i64 q, .int .i64 qu, .int .i64 t, .int .i64 wo, .int .i64 ws, .int .i64 ti]] w fun e w' => e = .returned (.bool true) ∧ Below w.heap.size w w' := by
  have hB := Below.chainAlloc (Below.refl w.heap.size w) (.cells #[.int .i64 k, .int .i64 r, .int .i64 s, .int .i64 wi, .int .i64 bu, .int .i64 q, .int .i64 qu, .int .i64 t, .int .i64 wo, .int .i64 ws, .int .i64 ti] 23)
  have hK : Blk (w.alloc (.cells #[.int .i64 k, .int .i64 r, .int .i64 s, .int .i64 wi, .int .i64 bu, .int .i64 q, .int .i64 qu, .int .i64 t, .int .i64 wo, .int .i64 ws, .int .i64 ti] 23)) w.heap.size #[.int .i64 k, .int .i64 r, .int .i64 s, .int .i64 wi, .int .i64 bu, .int .i64 q, .int .i64 qu, .int .i64 t, .int .i64 wo, .int .i64 ws, .int .i64 ti] 23 := Blk.new _ _ _
  go_enter Try.func3, Try.ntmps3
  go_wp2_with fail
  go_region_held3 (fun w' => Below w.heap.size w w' ∧ Blk w' w.heap.size #[.int .i64 k, .int .i64 r, .int .i64 s, .int .i64 wi, .int .i64 bu, .int .i64 q, .int .i64 qu, .int .i64 t, .int .i64 wo, .int .i64 ws, .int .i64 ti] 23 ∧ ∀ o, w'.cell? ⟨w.heap.size, o, none⟩ = (#[.int .i64 k, .int .i64 r, .int .i64 s, .int .i64 wi, .int .i64 bu, .int .i64 q, .int .i64 qu, .int .i64 t, .int .i64 wo, .int .i64 ws, .int .i64 ti] : Array Value)[o]?) (first | exact ⟨hB.drew, hK, cellsOf hK⟩ | (go_split_ands; refine ⟨Below.chain hb (by assumption), Blk.below (by assumption) hb (by apply Blk.lt; assumption), cellsOf (Blk.below (by assumption) hb (by apply Blk.lt; assumption))⟩))
    ((first
      | (go_at_call 13; refine (check_any _ _ _ _ _ _ _ _ _ _ _ _).mono ?_; rintro e w1 ⟨rfl, hb⟩)
      | (go_at_call 14; refine (rcheck_any _ _ _ _ _ _ _ _ _ _ _ _).mono ?_; rintro e w1 ⟨rfl, hb⟩)
      | (go_at_call 15; refine (block_any _ _ _ _ _ _ _ _ _ _ _ _).mono ?_; rintro e w1 ⟨rfl, hb⟩)
      | (go_at_call 16; refine (rblock_any _ _ _ _ _ _ _ _ _ _ _ _).mono ?_; rintro e w1 ⟨rfl, hb⟩)
      | (go_at_call 17; refine (plain_any _).mono ?_; rintro e w1 ⟨rfl, hb⟩)
      | (go_at_call 18; refine (rplain_any _).mono ?_; rintro e w1 ⟨rfl, hb⟩)
      | (go_at_call 19; refine (awake26 _).mono ?_; rintro e w1 ⟨rfl, hb⟩)))
  go_wp2
  go_ret
  exact ⟨rfl, by go_split_ands; assumption⟩
theorem list11 {α : Type} {l : List α} (h : l.length = 11) : ∃ k r s wi bu q qu t wo ws ti, l = [k, r, s, wi, bu, q, qu, t, wo, ws, ti] := by
  match l, h with
  | [k, r, s, wi, bu, q, qu, t, wo, ws, ti], _ => exact ⟨k, r, s, wi, bu, q, qu, t, wo, ws, ti, rfl⟩
namespace config
theorem own : ownKnob Try.prog.godebug = none := by kernel_rfl
theorem laidOut : laidOutB Try.prog = true := by kernel_rfl
set_option maxRecDepth 100000 in
theorem lifted (os : Os) (started : os.Started) (H : Type) (enc : TypeId × Value → H) :
    ReturnsInHanded {} Try.checked os 3 .any (Rows.configChecksSpec.pre6 enc Try.prog Try.f3 Rows.configChecksRow.domain false) (Rows.configChecksSpec.post enc Try.prog Try.f3 false true false false) := by
  refine law_lift (C := Try.checked) (tb := 4) own started (by kernel_rfl) Try.func3 laidOut rfl Try.underlying4 rfl (by kernel_rfl) (fun ds h => by match ds, h with | [d], _ => rfl)
    (ChangeSpec.witness6 (enc := enc) (C := Try.checked) false ⟨#[], #[.agg #[.int .i64 0, .int .i64 0, .int .i64 0, .int .i64 0, .int .i64 0, .int .i64 0, .int .i64 0, .int .i64 0, .int .i64 0, .int .i64 0, .int .i64 0]], []⟩ 8 (by kernel_rfl) (by kernel_rfl) (by kernel_rfl) (by kernel_rfl)) ?_
  intro W base args ds ps hval hA
  rw [Try.params3] at hA hval
  obtain ⟨v0, d0, rfl, rfl, h0⟩ := trodAll_one hA
  obtain ⟨zs, rfl, hlen, _⟩ := open_agg_ints (k := .i64) Try.underlying23 (by kernel_rfl) (by kernel_rfl) (by simp [Try.underlying3]) (hval 0 23 v0 rfl rfl) h0
  obtain ⟨k, r, s, wi, bu, q, qu, t, wo, ws, ti, rfl⟩ := list11 hlen
  exact walk26 k r s wi bu q qu t wo ws ti W
theorem proved : Rows.ConfigChecksSaid :=
  OpenClaim.holds_of_wide 3 Try.f3 rfl rfl rfl rfl rfl rfl rfl ⟨rfl, rfl, rfl, rfl, rfl⟩ rfl rfl rfl rfl rfl (by kernel_rfl) Try.func3 (by kernel_rfl)
    (of_decide_eq_true (by kernel_rfl)) (by unfold Func.isWrapper; first | (rw [if_pos (by decide +kernel)]; kernel_rfl) | (rw [if_neg (by decide +kernel)]; exact ⟨rfl, rfl⟩))
    (fun os started H enc _ => lifted os started H enc)
end config
#print axioms config.proved
end Go.Proofs.Ytonafnhgpngfpaa
