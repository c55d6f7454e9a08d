/-
  Frag: a part's entry (chapter 49).
-/
import Derived.Test.YtgfbhclkpephnaaFr4
namespace Go.Proofs.Ytgfbhclkpephnaa
open Go Go.RowKit
set_option linter.unusedVariables false
set_option linter.unusedSimpArgs false
set_option maxRecDepth 100000
set_option maxHeartbeats 1000000
/-- A part as it comes. -/
structure Pt where
  id : Int
  place : Int
  n : Int
  body : List UInt8
def Pt.val (p : Pt) : Value := .agg #[.int .u32 p.id, .int .i64 p.place, .int .i64 p.n, Str p.body]
def getP (k : Int) : List (Int × List UInt8) → Option (List UInt8)
  | [] => none
  | p :: ps => if p.1 = k then some p.2 else getP k ps
theorem getP_mp (k : Int) : ∀ {ps : List (Int × List UInt8)}, getM k (psM ps) = (getP k ps).map Str
  | [] => rfl
  | p :: ps => by
    show (if p.1 = k then some _ else getM k (psM ps)) = _
    unfold getP
    by_cases h : p.1 = k
    · rw [if_pos h, if_pos h]
      rfl
    · rw [if_neg h, if_neg h, getP_mp k]
theorem enter_full (p : Pt) (bj bm : Nat) (room : Int) (es : List FE) (w : World) (h : Jn w bj bm room es) (hg : getE p.id es = none) (hr : room ≤ (es.length : Nat)) :
    Calls Try.prog 71 #[.pointer (some ⟨bj, 0, none⟩), p.val] w fun e w' => e = .returned (.tuple #[.pointer none, .int .i64 9]) ∧ Below w.heap.size w w' := by
  obtain ⟨id, pl, n, b⟩ := p
  have hB : Below w.heap.size w (w.alloc (.cells #[.int .u32 id, .int .i64 pl, .int .i64 n, Str b] 154)) := Below.chainAlloc (Below.refl _ _) _
  have hk := Blk.new w #[.int .u32 id, .int .i64 pl, .int .i64 n, Str b] 154
  obtain ⟨W, hW⟩ : ∃ W, w.alloc (.cells #[.int .u32 id, .int .i64 pl, .int .i64 n, Str b] 154) = W := ⟨_, rfl⟩
  rw [hW] at hB hk
  obtain ⟨bx, hbx⟩ : ∃ bx, w.heap.size = bx := ⟨_, rfl⟩
  rw [hbx] at hk
  have h' := h.chain hB
  have HMK : Hid (∀ w', Below W.heap.size W w' → (w'.cell? ⟨bj, 0, none⟩ = some (.int .i64 room) ∧ w'.cell? ⟨bj, 1, none⟩ = some (.map (some bm)) ∧ w'.cell? ⟨bx, 0, none⟩ = some (.int .u32 id) ∧ w'.cell? ⟨bx, 1, none⟩ = some (.int .i64 pl) ∧ w'.cell? ⟨bx, 2, none⟩ = some (.int .i64 n) ∧ w'.cell? ⟨bx, 3, none⟩ = some (Str b) ∧ (Instr.lookup 140 (.map (some bm)) (.int .u32 id) false).run Try.prog w' = .ok (.pointer none) w' ∧ (∀ ty, (Builtin.len_ #[140] ty #[.map (some bm)]).run Try.prog w' = .ok (.int .i64 (es.length : Nat)) w')) ∧ Below W.heap.size W w') := Lib.hid fun w' hb => by
    have k := h'.chain hb
    have kb := hk.below hb hk.lt
    have hlk := k.m.look keyU undF id (zeroFE _) false
    rw [getE_mp, hg] at hlk
    simp only [Option.map_none, Option.map_some, Option.getD_none, Option.getD_some, Bool.false_eq_true, if_false] at hlk
    have hl := k.m.len undF
    rw [List.length_map] at hl
    exact ⟨⟨k.b.facts.1 0, k.b.facts.1 1, kb.facts.1 0, kb.facts.1 1, kb.facts.1 2, kb.facts.1 3, hlk, hl⟩, hb⟩
  have hr2 : room ≤ (es.length : Int) := hr
  have HW := Lib.hid hW
  have HX := Lib.hid hbx
  have HB := Lib.hid hB
  unfold Pt.val
  dsimp only at *
  clear hW hB hk h' h hg hr hbx
  go_enter Try.func71, Try.ntmps71
  go_upto_region 1 with fail
  rw [HW.out, HX.out]
  go_region_held3 (fun w' => (w'.cell? ⟨bj, 0, none⟩ = some (.int .i64 room) ∧ w'.cell? ⟨bj, 1, none⟩ = some (.map (some bm)) ∧ w'.cell? ⟨bx, 0, none⟩ = some (.int .u32 id) ∧ w'.cell? ⟨bx, 1, none⟩ = some (.int .i64 pl) ∧ w'.cell? ⟨bx, 2, none⟩ = some (.int .i64 n) ∧ w'.cell? ⟨bx, 3, none⟩ = some (Str b) ∧ (Instr.lookup 140 (.map (some bm)) (.int .u32 id) false).run Try.prog w' = .ok (.pointer none) w' ∧ (∀ ty, (Builtin.len_ #[140] ty #[.map (some bm)]).run Try.prog w' = .ok (.int .i64 (es.length : Nat)) w')) ∧ Below W.heap.size W w')
    (first
      | exact HMK.out _ (Below.refl _ _).drew
      | exact HMK.out _ (Below.refl _ _)
      | exact HMK.out _ (Below.refl _ _).drew.drew
      | exact HMK.out _ (Below.refl _ _).drew.drew.drew)
    (fail)
  go_upto_region 2 with fail
  go_region_held3 (fun w' => (w'.cell? ⟨bj, 0, none⟩ = some (.int .i64 room) ∧ w'.cell? ⟨bj, 1, none⟩ = some (.map (some bm)) ∧ w'.cell? ⟨bx, 0, none⟩ = some (.int .u32 id) ∧ w'.cell? ⟨bx, 1, none⟩ = some (.int .i64 pl) ∧ w'.cell? ⟨bx, 2, none⟩ = some (.int .i64 n) ∧ w'.cell? ⟨bx, 3, none⟩ = some (Str b) ∧ (Instr.lookup 140 (.map (some bm)) (.int .u32 id) false).run Try.prog w' = .ok (.pointer none) w' ∧ (∀ ty, (Builtin.len_ #[140] ty #[.map (some bm)]).run Try.prog w' = .ok (.int .i64 (es.length : Nat)) w')) ∧ Below W.heap.size W w')
    (first
      | exact HMK.out _ (Below.refl _ _).drew
      | exact HMK.out _ (Below.refl _ _)
      | exact HMK.out _ (Below.refl _ _).drew.drew
      | exact HMK.out _ (Below.refl _ _).drew.drew.drew)
    (fail)
  go_wp2_with fail
  go_ret2
  exact ⟨rfl, HB.out.drew.drew⟩
end Go.Proofs.Ytgfbhclkpephnaa
