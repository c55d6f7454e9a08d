/-
  Whether two rows, two tables, are the same: the documents' questions.
-/
import Derived.Test.YtibilabhokkhmaaMat
import Derived.Test.YtibilabhokkhmaaGfW
namespace Go.Proofs.Ytibilabhokkhmaa
open Go.RowKit
set_option linter.unusedVariables false
set_option maxRecDepth 100000
set_option maxHeartbeats 1000000
theorem take_ne {α : Type} [DecidableEq α] {xs ys : List α} {k : Nat} (h1 : k < xs.length) (h2 : k < ys.length) (h : xs[k] ≠ ys[k]) : xs ≠ ys := fun e => h (by subst e; rfl)
theorem take_succ_eq {α : Type} {xs ys : List α} {k : Nat} (h1 : k < xs.length) (h2 : k < ys.length) (h : xs[k] = ys[k]) (ht : xs.take k = ys.take k) : xs.take (k + 1) = ys.take (k + 1) := by
  rw [List.take_succ_eq_append_getElem h1, List.take_succ_eq_append_getElem h2, ht, h]
def sameB (xs ys : List Nat) : Bool := decide (xs = ys)
def sameMB (xs ys : List (List Nat)) : Bool := decide (xs = ys)
theorem same_any {B1 B2 : Nat} {va vb : Value} {xs ys : List Nat} (w : World) (ha : RowAt B1 w va xs) (hb : RowAt B2 w vb ys) :
    Calls Try.prog 17 #[va, vb] w fun e w' => e = .returned (.bool (sameB xs ys)) ∧ Drawn w w' := by
  have ha0 := ha
  have hb0 := hb
  have hma := ha.max
  have hmb := hb.max
  obtain ⟨aa, ca, rfl, hca⟩ := ha.at
  obtain ⟨ab, cb, rfl, hcb⟩ := hb.at
  by_cases hlen : xs.length = ys.length
  · have hl : ((xs.length : Int) != (ys.length : Int)) = false := by simp [hlen]
    have HL := Lib.hid hlen
    clear hlen hca hcb
    go_enter Try.func17, Try.ntmps17
    go_wp2_with fail
    clear hl
    go_loopw [5] (fun i wr => ∃ k : Nat, k ≤ xs.length ∧ i = .int .i64 k ∧ xs.take k = ys.take k ∧ Drawn w wr) (fun i _ => xs.length - (intOf i).toNat)
    case atStart => exact ⟨0, by omega, rfl, rfl, Drawn.refl _⟩
    case round =>
      obtain ⟨k, hk, rfl, ht, hd⟩ := hrel
      have HT := Lib.hid ht
      clear ht
      by_cases hlt : k < xs.length
      · have hlt2 : k < ys.length := by rw [← HL.out]; exact hlt
        obtain ⟨_, _, e, h1⟩ := (ha0.chain hd.below).at
        cases e
        obtain ⟨_, _, e, h2⟩ := (hb0.chain hd.below).at
        cases e
        obtain ⟨g1, o1, rfl, hg1, c1⟩ := h1 k hlt
        obtain ⟨g2, o2, rfl, hg2, c2⟩ := h2 k hlt2
        clear h1 h2
        by_cases he : xs[k] = ys[k]
        · have HS := Lib.hid (take_succ_eq hlt hlt2 he HT.out)
          rw [he] at c1
          clear he
          generalize ys[k] = x at *
          go_wp2_with fail
          go_quiet (fail)
          go_wp2_with fail
          go_roundw
          case rel => exact ⟨k + 1, by omega, by go_num, HS.out, hd.trans (Drawn.of_drewN _ _)⟩
          case measure => simp [intOf]; omega
        · have hne : sameB xs ys = false := by
            unfold sameB
            exact decide_eq_false (take_ne hlt hlt2 he)
          have HN := Lib.hid hne
          have hxy : ((xs[k] : Int) != (ys[k] : Int)) = true := by simp; omega
          clear he hne
          generalize xs[k] = x at *
          generalize ys[k] = y at *
          go_wp2_with fail
          go_quiet (fail)
          go_wp2_with fail
          go_ret
          exact ⟨by rw [HN.out]; rfl, hd.trans (Drawn.of_drewN _ _)⟩
      · have hy : sameB xs ys = true := by
          unfold sameB
          refine decide_eq_true ?_
          have := HT.out
          rwa [List.take_of_length_le (by omega), List.take_of_length_le (by have := HL.out; omega)] at this
        have HY := Lib.hid hy
        have hlt' : ¬ (k : Int) < (xs.length : Int) := by omega
        clear hy
        go_wp2_with fail
        go_ret
        exact ⟨by rw [HY.out]; rfl, hd⟩
  · have hne : sameB xs ys = false := by
      unfold sameB
      exact decide_eq_false (fun e => hlen (by rw [e]))
    have HN := Lib.hid hne
    have hl : ((xs.length : Int) != (ys.length : Int)) = true := by simp; omega
    clear hne hlen
    go_enter Try.func17, Try.ntmps17
    go_wp2_with fail
    go_ret
    exact ⟨by rw [HN.out]; rfl, Drawn.refl _⟩
theorem sameM_any {B1 B2 : Nat} {va vb : Value} {xs ys : List (List Nat)} (w : World) (ha : MatAt B1 w va xs) (hb : MatAt B2 w vb ys) :
    Calls Try.prog 18 #[va, vb] w fun e w' => e = .returned (.bool (sameMB xs ys)) ∧ Drawn w w' := by
  have ha0 := ha
  have hb0 := hb
  obtain ⟨aa, ca, rfl, hma, hca⟩ := ha.at
  obtain ⟨ab, cb, rfl, hmb, hcb⟩ := hb.at
  by_cases hlen : xs.length = ys.length
  · have hl : ((xs.length : Int) != (ys.length : Int)) = false := by simp [hlen]
    have HL := Lib.hid hlen
    clear hlen hca hcb
    go_enter Try.func18, Try.ntmps18
    go_wp2_with fail
    clear hl
    go_loopw [5] (fun i wr => ∃ k : Nat, k ≤ xs.length ∧ i = .int .i64 k ∧ xs.take k = ys.take k ∧ Drawn w wr) (fun i _ => xs.length - (intOf i).toNat)
    case atStart => exact ⟨0, by omega, rfl, rfl, Drawn.refl _⟩
    case round =>
      obtain ⟨k, hk, rfl, ht, hd⟩ := hrel
      have HT := Lib.hid ht
      clear ht
      by_cases hlt : k < xs.length
      · have hlt2 : k < ys.length := by rw [← HL.out]; exact hlt
        obtain ⟨_, _, e, _, h1⟩ := (ha0.chain hd.below).at
        cases e
        obtain ⟨_, _, e, _, h2⟩ := (hb0.chain hd.below).at
        cases e
        obtain ⟨g1, o1, u1, rfl, hg1, c1, r1⟩ := h1 k hlt
        obtain ⟨g2, o2, u2, rfl, hg2, c2, r2⟩ := h2 k hlt2
        clear h1 h2
        have hcall := fun n => Calls.quiet_of (same_any (wr.drewN n) (r1.chain (Drawn.of_drewN wr n).below) (r2.chain (Drawn.of_drewN wr n).below))
        by_cases he : xs[k] = ys[k]
        · have HS := Lib.hid (take_succ_eq hlt hlt2 he HT.out)
          have hsb : sameB xs[k] ys[k] = true := decide_eq_true he
          rw [hsb] at hcall
          have HC := Lib.hid hcall
          clear he hsb hcall r1 r2
          go_wp2_with fail
          go_quiet ((go_at_call 17; exact HC.out _))
          go_wp2_with fail
          go_roundw
          case rel => exact ⟨k + 1, by omega, by go_num, HS.out, hd.trans (Drawn.of_drewN _ _)⟩
          case measure => simp [intOf]; omega
        · have hne : sameMB xs ys = false := by
            unfold sameMB
            exact decide_eq_false (take_ne hlt hlt2 he)
          have HN := Lib.hid hne
          have hsb : sameB xs[k] ys[k] = false := decide_eq_false he
          rw [hsb] at hcall
          have HC := Lib.hid hcall
          clear he hsb hcall r1 r2 hne
          go_wp2_with fail
          go_quiet ((go_at_call 17; exact HC.out _))
          go_wp2_with fail
          go_ret
          exact ⟨by rw [HN.out]; rfl, hd.trans (Drawn.of_drewN _ _)⟩
      · have hy : sameMB xs ys = true := by
          unfold sameMB
          refine decide_eq_true ?_
          have := HT.out
          rwa [List.take_of_length_le (by omega), List.take_of_length_le (by have := HL.out; omega)] at this
        have HY := Lib.hid hy
        have hlt' : ¬ (k : Int) < (xs.length : Int) := by omega
        clear hy
        go_wp2_with fail
        go_ret
        exact ⟨by rw [HY.out]; rfl, hd⟩
  · have hne : sameMB xs ys = false := by
      unfold sameMB
      exact decide_eq_false (fun e => hlen (by rw [e]))
    have HN := Lib.hid hne
    have hl : ((xs.length : Int) != (ys.length : Int)) = true := by simp; omega
    clear hne hlen
    go_enter Try.func18, Try.ntmps18
    go_wp2_with fail
    go_ret
    exact ⟨by rw [HN.out]; rfl, Drawn.refl _⟩
end Go.Proofs.Ytibilabhokkhmaa
