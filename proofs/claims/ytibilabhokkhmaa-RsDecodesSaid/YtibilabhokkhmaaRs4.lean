/-
  More shards than needed: lists of shards; the first shards with unlike numbers (chapter 5).
-/
import Derived.Test.YtibilabhokkhmaaRs3
namespace Go.Proofs.Ytibilabhokkhmaa
open Go.RowKit
set_option linter.unusedVariables false
set_option maxRecDepth 100000
set_option maxHeartbeats 1000000
abbrev Sh5 := Int × List UInt8
def cells5 (xs : List Sh5) : List Value := xs.flatMap fun x => [.int .i64 x.1, Str x.2]
theorem cells5_length (xs : List Sh5) : (cells5 xs).length = xs.length * 2 := by
  induction xs with
  | nil => rfl
  | cons x xs ih => simp [cells5] at ih ⊢; omega
theorem cells5_get : ∀ (xs : List Sh5) (i : Nat) (h : i < xs.length), (cells5 xs)[i * 2]? = some (.int .i64 xs[i].1) ∧ (cells5 xs)[i * 2 + 1]? = some (Str xs[i].2)
  | [], i, h => absurd h (Nat.not_lt_zero _)
  | x :: xs, 0, _ => ⟨rfl, rfl⟩
  | x :: xs, i + 1, h => by
    have ih := cells5_get xs i (by simpa using h)
    have e : cells5 (x :: xs) = [.int .i64 x.1, Str x.2] ++ cells5 xs := rfl
    rw [e, List.getElem?_append_right (by simp; omega), List.getElem?_append_right (by simp; omega)]
    have e1 : (i + 1) * 2 - [Value.int .i64 x.1, Str x.2].length = i * 2 := by simp; omega
    have e2 : (i + 1) * 2 + 1 - [Value.int .i64 x.1, Str x.2].length = i * 2 + 1 := by simp; omega
    rw [e1, e2]
    exact ih
/-- v reads as the shards xs. -/
def ShAt (B : Nat) (w : World) (v : Value) (xs : List Sh5) : Prop :=
  ∃ a cap, v = .slice a xs.length cap ∧ xs.length ≤ cap ∧ cap ≤ maxLen ∧
    (xs = [] ∨ ∃ g off, a = some ⟨g, off, none⟩ ∧ g < w.heap.size ∧ (g < B ∨ ∃ cs fr, w.heap[g]? = some (.cells cs 71 fr)) ∧
      ∀ i (h : i < xs.length), w.cell? ⟨g, off + i * 2, none⟩ = some (.int .i64 xs[i].1) ∧ w.cell? ⟨g, off + i * 2 + 1, none⟩ = some (Str xs[i].2))
theorem ShAt.chain {B : Nat} {w w' : World} {v : Value} {xs : List Sh5} (h : ShAt B w v xs) (hb : Below w.heap.size w w') : ShAt B w' v xs := by
  obtain ⟨a, cap, hv, h1, h2, h3⟩ := h
  refine ⟨a, cap, hv, h1, h2, h3.imp id ?_⟩
  rintro ⟨g, off, ha, hg, hk, hc⟩
  refine ⟨g, off, ha, Nat.lt_of_lt_of_le hg hb.size, hk.imp id (fun ⟨cs, fr, e⟩ => ⟨cs, fr, (hb.block g hg).trans e⟩), fun i hi => ?_⟩
  exact ⟨(hb.cell (p := ⟨g, off + i * 2, none⟩) hg).trans (hc i hi).1, (hb.cell (p := ⟨g, off + i * 2 + 1, none⟩) hg).trans (hc i hi).2⟩
theorem ShAt.of_seg {B base : Nat} {w : World} {v : Value} {xs : List Sh5} (h : Seg w base 71 2 v xs.length (cells5 xs)) : ShAt B w v xs := by
  have h0 := h
  obtain ⟨_, h2⟩ := h
  rcases h2 with ⟨rfl, h3⟩ | ⟨g, off, cap, cur, rfl, hg, hh, h3, h4, _, _⟩
  · have : xs = [] := List.eq_nil_of_length_eq_zero h3
    subst this
    exact ⟨none, 0, rfl, Nat.le_refl _, by simp, .inl rfl⟩
  · refine ⟨_, cap, rfl, h3, h4, .inr ⟨g, off, rfl, (Array.getElem?_eq_some_iff.1 hh).1, .inr ⟨_, _, hh⟩, fun i hi => ?_⟩⟩
    have := cells5_get xs i hi
    exact ⟨(h0.at (i * 2) (by omega)).trans this.1, by rw [Nat.add_assoc]; exact (h0.at (i * 2 + 1) (by omega)).trans this.2⟩
/-- A shard's body among those that there are. -/
def body5 (xs : List Sh5) (i : Int) : List UInt8 := ((xs.find? fun x => x.1 == i).map (·.2)).getD []
theorem find_hit : ∀ (xs : List Sh5) (k : Nat) (h : k < xs.length) (i : Int), (∀ x ∈ xs.take k, x.1 ≠ i) → xs[k].1 = i → xs.find? (fun x => x.1 == i) = some xs[k]
  | [], k, h, _, _, _ => absurd h (Nat.not_lt_zero _)
  | x :: xs, 0, _, i, _, he => by
    rw [List.find?_cons_of_pos (by simpa using he)]
    rfl
  | x :: xs, k + 1, h, i, hno, he => by
    rw [List.find?_cons_of_neg (by simpa using hno x (by simp))]
    exact find_hit xs k (by simpa using h) i (fun y hy => hno y (by simp [hy])) he
theorem find_miss (xs : List Sh5) (i : Int) (h : ∀ x ∈ xs, x.1 ≠ i) : xs.find? (fun x => x.1 == i) = none := by
  rw [List.find?_eq_none]
  intro x hx
  simpa using h x hx
theorem unl1_any (bo B : Nat) (v : Value) (xs : List Sh5) (i : Int) (w : World) (hs : ShAt B w v xs) (hb : Blk w bo #[v] 58) :
    Calls Try.prog 71 #[.int .i64 i, .pointer (some ⟨bo, 0, none⟩)] w fun e w' => e = .returned (Str (body5 xs i)) ∧ Below w.heap.size w w' := by
  obtain ⟨a, cap, rfl, hm1, hm2, hc⟩ := hs
  have hmx : xs.length ≤ 9223372036854775807 := by unfold maxLen at hm2; omega
  obtain ⟨c1, _, _⟩ := hb.facts
  have hx : ∀ k (hk : k < xs.length), ∃ g off, a = some ⟨g, off, none⟩ ∧ g < w.heap.size ∧ w.cell? ⟨g, off + k * 2, none⟩ = some (.int .i64 xs[k].1) ∧ w.cell? ⟨g, off + k * 2 + 1, none⟩ = some (Str xs[k].2) := fun k hk => by
    rcases hc with e | ⟨g, off, ha, hg, _, hcc⟩
    · subst e; simp at hk
    · exact ⟨g, off, ha, hg, (hcc k hk).1, (hcc k hk).2⟩
  have HX := Lib.hid hx
  clear hc hx hb
  go_enter Try.func71, Try.ntmps71
  go_wp2_with fail
  clear c1
  go_loopw [5, 8] (fun _ i8 wr => ∃ k : Nat, k ≤ xs.length ∧ i8 = .int .i64 k ∧ Hid (∀ x ∈ xs.take k, x.1 ≠ i) ∧ Below w.heap.size w wr) (fun _ i8 _ => xs.length - (intOf i8).toNat)
  case atStart => exact ⟨0, Nat.zero_le _, rfl, Lib.hid (by simp), Below.refl _ _⟩
  case round =>
    obtain ⟨k, hk, rfl, hno, hB⟩ := hrel
    by_cases hlt : k < xs.length
    · obtain ⟨g, off, rfl, hg, d0, d1⟩ := HX.out k hlt
      have e0 : wr.cell? ⟨g, off + k * 2, none⟩ = some (.int .i64 xs[k].1) := (hB.cell (p := ⟨g, _, none⟩) hg).trans d0
      have e1 : wr.cell? ⟨g, off + k * 2 + 1, none⟩ = some (Str xs[k].2) := (hB.cell (p := ⟨g, _, none⟩) hg).trans d1
      have hk2 : (k : Int) < (xs.length : Int) := by omega
      have HB := Lib.hid hB
      clear d0 d1 hB
      by_cases he : xs[k].1 = i
      · have hf : body5 xs i = xs[k].2 := by unfold body5; rw [find_hit xs k hlt i hno.out he]; rfl
        have HF := Lib.hid hf
        have hbq : (xs[k].1 == i) = true := by simp [he]
        clear hno hf HX
        generalize xs[k].1 = z at *
        generalize xs[k].2 = s at *
        subst he
        go_wp2_with fail
        go_ret
        exact ⟨by rw [HF.out]; rfl, Below.chainAlloc HB.out _⟩
      · have HN := Lib.hid (fun x (hx : x ∈ xs.take (k + 1)) => show x.1 ≠ i by
          rw [List.take_succ_eq_append_getElem hlt] at hx
          rcases List.mem_append.1 hx with h | h
          · exact hno.out x h
          · rw [List.mem_singleton.1 h]; exact he)
        have hbq : (xs[k].1 == i) = false := by simp [he]
        have HB2 := Lib.hid (Below.chainAlloc HB.out (.cells #[.int .i64 xs[k].1, Str xs[k].2] 71))
        have HLT := Lib.hid hlt
        clear hno HB
        generalize xs[k].1 = z at *
        generalize xs[k].2 = s at *
        go_wp2_with fail
        go_roundw
        case rel => exact ⟨k + 1, hlt, by go_num, HN, HB2.out⟩
        case measure => have := HLT.out; simp [intOf]; omega
    · obtain rfl : k = xs.length := by omega
      have hno2 := hno.out
      rw [List.take_length] at hno2
      have hf : body5 xs i = [] := by unfold body5; rw [find_miss xs i hno2]; rfl
      have HF := Lib.hid hf
      have hlt' : ¬ (xs.length : Int) < (xs.length : Int) := by omega
      clear hno hno2 hf HX
      go_wp2_with fail
      go_ret
      exact ⟨by rw [HF.out]; rfl, hB⟩
end Go.Proofs.Ytibilabhokkhmaa
