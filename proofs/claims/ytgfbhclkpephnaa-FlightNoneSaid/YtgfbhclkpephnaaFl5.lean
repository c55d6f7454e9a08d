/-
  Blocks that were sent: the iterator over them (chapter 22).
-/
import Derived.Test.YtgfbhclkpephnaaFl3
import Derived.Test.YtgfbhclkpephnaaRgF
import Derived.Stop.RegionWithIn
namespace Go.Proofs.Ytgfbhclkpephnaa
open Go Go.RowKit
set_option linter.unusedVariables false
set_option linter.unusedSimpArgs false
set_option maxRecDepth 100000
set_option maxHeartbeats 2000000
attribute [local go_sem] Oper.semAt_some
/-- What a round keeps: the iterator's box and the flight. -/
def KpL (bx bf : Nat) (A B : World) : Prop := A.heap.size ≤ B.heap.size ∧ B.heap[bx]? = A.heap[bx]? ∧ B.heap[bf]? = A.heap[bf]?
theorem KpL.trans {bx bf : Nat} {A B C : World} (h : KpL bx bf A B) (k : KpL bx bf B C) : KpL bx bf A C := ⟨Nat.le_trans h.1 k.1, k.2.1.trans h.2.1, k.2.2.trans h.2.2⟩
theorem KpL.blk1 {bx bf : Nat} {A B : World} (h : KpL bx bf A B) {cs : Array Value} {t : TypeId} (hb : Blk A bx cs t) : Blk B bx cs t := h.2.1.trans hb
theorem KpL.blk2 {bx bf : Nat} {A B : World} (h : KpL bx bf A B) {cs : Array Value} {t : TypeId} (hb : Blk A bf cs t) : Blk B bf cs t := h.2.2.trans hb
theorem grown_of_below {a b : World} (h : Below a.heap.size a b) : a.grownBy b none := ⟨h.os, h.tape, h.output, h.size, fun k hk _ => h.block k hk⟩
def encF (b : Int) (g off : Nat) (i : Nat) : Array Value := #[.int .u32 ((b + (i : Int)) % 4294967296), .pointer (some ⟨g, off + i * 3, none⟩)]
theorem it_fl (bx bf g off c n : Nat) (b z : Int) (hn : n ≤ 64) (w0 : World) (hX : Blk w0 bx #[.pointer (some ⟨bf, 0, none⟩)] 56) (hF : Blk w0 bf #[.int .u32 b, .int .i64 z, .slice (some ⟨g, off, none⟩) n c] 117) :
    SeqO Fence.wide 2 Try.prog 88 #[.pointer (some ⟨bx, 0, none⟩)] (fun i : Fin n => encF b g off i.val) (KpL bx bf) (fun _ => False) (fun ys => ys.map Fin.val = List.range n) (fun _ => True) n w0 := by
  intro l J Jx W hW hJ hJx hY h0
  have hX1 : Blk W bx #[.pointer (some ⟨bf, 0, none⟩)] 56 := hX.below hW hX.lt
  have hF1 : Blk W bf #[.int .u32 b, .int .i64 z, .slice (some ⟨g, off, none⟩) n c] 117 := hF.below hW hF.lt
  clear hX hF hW
  have x0 := hX1.facts.1 0
  have f2 := hF1.facts.1 2
  refine callsIn_of_wp Try.func88 rfl trivial ?_ rfl
  simp only [Try.ntmps88, List.size_toArray, List.length_cons, List.length_nil, Nat.reduceAdd, Nat.reduceSub, Array.replicate_succ, Array.replicate_zero, List.push_toArray, List.append_toArray, List.nil_append, List.cons_append]
  gi_wp2
  have HY := Lib.hid hY
  have HX := Lib.hid hX1
  have HF := Lib.hid hF1
  clear hY x0 f2 hX1 hF1
  gi_loopw [9] (fun p wr => ∃ (i : Nat) (ys : List (Fin n)), i ≤ n ∧ p = .int .i64 (i : Nat) ∧ ys.map Fin.val = List.range i ∧ J ys wr ∧ Hid (Blk wr bx #[.pointer (some ⟨bf, 0, none⟩)] 56) ∧ Hid (Blk wr bf #[.int .u32 b, .int .i64 z, .slice (some ⟨g, off, none⟩) n c] 117)) (fun p _ => n - (intOf p).toNat)
  case atStart => exact ⟨0, [], Nat.zero_le _, rfl, rfl, h0, HX, HF⟩
  case round =>
    clear HX HF
    obtain ⟨i, ys, hi, rfl, hys, hJi, HX, HF⟩ := hrel
    have HYS := Lib.hid hys
    by_cases hlt : i < n
    · have hlt' : (i : Int) < (n : Int) := Int.ofNat_lt.2 hlt
      have hi0 : (0 : Int) ≤ (i : Int) := by omega
      have x0 := HX.out.facts.1 0
      have f0 := HF.out.facts.1 0
      have f2 := HF.out.facts.1 2
      have hm : ((i : Nat) : Int) % 4294967296 = (i : Int) := by omega
      have hylen : ys.length = i := by have := congrArg List.length hys; simpa using this
      have HYL := Lib.hid hylen
      have HLT := Lib.hid hlt
      have hJd := hJ _ _ _ none hJi (grown_of_below (Below.refl wr.heap.size wr).drew) (fun r e => by cases e)
      obtain ⟨fn, tmps, assign, body, hy, hR⟩ := HY.out ys ⟨i, hlt⟩ wr.drew hJd (by rw [hylen]; exact hlt)
      have hR2 : RoundIn Fence.wide (2 - 1) Try.prog l fn tmps assign body wr.drew (fun e W' => ∃ ok : Bool, e = .returned (.bool ok) ∧ Hid ((ok = true ∧ J (ys ++ [⟨i, hlt⟩]) W' ∧ KpL bx bf wr.drew W') ∨ (ok = false ∧ Jx (ys ++ [⟨i, hlt⟩]) W'))) := by
        refine hR.mono ?_
        intro e W' h
        rcases h with ⟨rfl, h1, h2⟩ | ⟨rfl, h1⟩
        · exact ⟨true, rfl, Lib.hid (.inl ⟨rfl, h1, h2⟩)⟩
        · exact ⟨false, rfl, Lib.hid (.inr ⟨rfl, h1⟩)⟩
      unfold encF at hy
      dsimp only at hy
      have hw1 : IntKind.u32.wrap (i : Int) = (i : Int) := hm
      have hw2 : IntKind.u32.wrap (b + (i : Int)) = (b + (i : Int)) % 4294967296 := rfl
      generalize (b + (i : Int)) % 4294967296 = N at hy hw2
      clear hys hylen hm hR
      gi_wp2
      gi_region_with (refine hR2.mono ?_; rintro e W' ⟨ok, rfl, hk⟩)
      all_goals
        rcases hk.out with ⟨rfl, hJ4, hk4⟩ | ⟨rfl, hJx4⟩
        · have HX4 := Lib.hid (hk4.blk1 HX.out.drew)
          have HF4 := Lib.hid (hk4.blk2 HF.out.drew)
          have HJ4 := Lib.hid hJ4
          clear hk hJ4 hk4 hR2 hy hJd x0 f0 f2 hw1 hw2
          gi_wp2
          refine ⟨⟨i + 1, ys ++ [⟨i, hlt⟩], hlt, by go_num, ?_, HJ4.out, HX4, HF4⟩, by simp [intOf]; omega⟩
          rw [List.map_append, HYS.out, List.range_succ]
          rfl
        · clear hk hR2 hy hJd x0 f0 f2 hw1 hw2
          gi_wp2
          refine bodyPost_ret (results_none rfl _ _ _) rfl ?_
          exact ⟨⟨_, rfl⟩, .inr ⟨_, trivial, hJx4⟩⟩
    · obtain rfl : i = n := Nat.le_antisymm hi (Nat.le_of_not_lt hlt)
      have hlt' : ¬ (i : Int) < (i : Int) := Int.lt_irrefl _
      clear hlt hi
      gi_wp2
      go_end0
      exact ⟨⟨_, rfl⟩, .inl ⟨ys, HYS.out, hJi⟩⟩
end Go.Proofs.Ytgfbhclkpephnaa
