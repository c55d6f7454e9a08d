/-
  The table: slices.Clone and slices.Insert of shards (chapter 18).
-/
import Derived.Test.YteepdknnmdhckaaTa2
import Derived.Test.YteepdknnmdhckaaSegI
import Derived.Deep.RegionLaw
import Derived.Lib.SliceRun
namespace Go.Proofs.Yteepdknnmdhckaa
open Go Go.RowKit
set_option linter.unusedVariables false
set_option linter.unusedSimpArgs false
set_option maxRecDepth 100000
set_option maxHeartbeats 2000000
theorem infoSh : (Try.prog.info? 207).map (fun i => (i.zero, i.size, i.bytes)) = some (some (.agg #[.int .i64 0, .string ⟨#[]⟩]), 2, 24) := by kernel_rfl
theorem sizeSh : (Try.prog.info? 207).map (·.size) = some 2 := by kernel_rfl
/-- Where it is put. -/
def insL (l : List Sh) (i : Nat) (x : Sh) : List Sh := l.take i ++ x :: l.drop i
theorem insL_length (l : List Sh) (i : Nat) (x : Sh) (h : i ≤ l.length) : (insL l i x).length = l.length + 1 := by
  unfold insL
  rw [List.length_append, List.length_cons, List.length_take, List.length_drop]
  omega
theorem shC_ins (l : List Sh) (i : Nat) (x : Sh) : shC (insL l i x) = shC (l.take i) ++ [.int .i64 x.1, Str x.2] ++ shC (l.drop i) := by simp [shC, insL]
/-- In place: what stood from i on goes up, then the new one is put. -/
theorem ins_place {w : World} {base g off cap : Nat} {l : List Sh} {i : Nat} {x : Sh} (ys : List Value) (hy : ys.length = 2) (hi : i ≤ l.length)
    (h : Seg w base 207 2 (.slice (some ⟨g, off, none⟩) (l.length + 1) cap) (l.length + 1) (shC l ++ ys)) :
    ShS ((w.setCells g (off + (i + 1) * 2) (shC (l.drop i))).setCells g (off + i * 2) [.int .i64 x.1, Str x.2]) base (.slice (some ⟨g, off, none⟩) (l.length + 1) cap) (insL l i x) := by
  have hd : (shC (l.drop i)).length = (l.length - i) * 2 := by rw [shC_length, List.length_drop]
  have hl := shC_length l
  have h1 := h.puts (shC (l.drop i)) ((i + 1) * 2) (by rw [hd]; omega)
  have h2 := h1.puts [.int .i64 x.1, Str x.2] (i * 2) (by simp; omega)
  unfold ShS
  rw [insL_length l i x hi]
  have e : shC (insL l i x) = ((shC l ++ ys).take ((i + 1) * 2) ++ shC (l.drop i) ++ (shC l ++ ys).drop ((i + 1) * 2 + (shC (l.drop i)).length)).take (i * 2) ++ [.int .i64 x.1, Str x.2] ++ ((shC l ++ ys).take ((i + 1) * 2) ++ shC (l.drop i) ++ (shC l ++ ys).drop ((i + 1) * 2 + (shC (l.drop i)).length)).drop (i * 2 + [Value.int .i64 x.1, Str x.2].length) := by
    have e0 : (shC l ++ ys).drop ((i + 1) * 2 + (shC (l.drop i)).length) = [] := List.drop_of_length_le (by rw [List.length_append, hd]; omega)
    have e1 : ((shC l ++ ys).take ((i + 1) * 2)).length = (i + 1) * 2 := by rw [List.length_take, List.length_append]; omega
    have e2 : i * 2 + [Value.int .i64 x.1, Str x.2].length = (i + 1) * 2 := by simp; omega
    have e5 : ((shC l ++ ys).take ((i + 1) * 2)).drop ((i + 1) * 2) = [] := List.drop_of_length_le (by rw [e1]; exact Nat.le_refl _)
    have e6 : ((shC l ++ ys).take ((i + 1) * 2)).take (i * 2) = shC (l.take i) := by
      have e4 : i * 2 - (shC l).length = 0 := by omega
      rw [List.take_take, Nat.min_eq_left (by omega), List.take_append, e4, List.take_zero, List.append_nil, shC_take]
    have e3 : i * 2 - (i + 1) * 2 = 0 := by omega
    rw [e0, List.append_nil, e2, shC_ins, List.take_append, e6, e1, e3, List.take_zero, List.append_nil, List.drop_append, e5, e1, Nat.sub_self, List.drop_zero, List.nil_append]
  rw [e]
  exact h2
/-- In a new row. -/
theorem ins_new {w : World} {base g cap : Nat} {l : List Sh} {i : Nat} {x : Sh} (ys : List Value) (hy : ys.length = (l.length + 1 - i) * 2) (hi : i ≤ l.length)
    (h : Seg w base 207 2 (.slice (some ⟨g, 0, none⟩) (l.length + 1) cap) (l.length + 1) ((shC l).take (i * 2) ++ ys)) :
    ShS ((w.setCells g (i * 2) [.int .i64 x.1, Str x.2]).setCells g ((i + 1) * 2) (shC (l.drop i))) base (.slice (some ⟨g, 0, none⟩) (l.length + 1) cap) (insL l i x) := by
  have hd : (shC (l.drop i)).length = (l.length - i) * 2 := by rw [shC_length, List.length_drop]
  have hl := shC_length l
  have ht : ((shC l).take (i * 2)).length = i * 2 := by rw [List.length_take]; omega
  have h1 := h.puts [.int .i64 x.1, Str x.2] (i * 2) (by simp; omega)
  have h2 := h1.puts (shC (l.drop i)) ((i + 1) * 2) (by rw [hd]; omega)
  rw [Nat.zero_add, Nat.zero_add] at h2
  unfold ShS
  rw [insL_length l i x hi]
  have e : shC (insL l i x) = ((((shC l).take (i * 2) ++ ys).take (i * 2) ++ [Value.int .i64 x.1, Str x.2] ++ ((shC l).take (i * 2) ++ ys).drop (i * 2 + [Value.int .i64 x.1, Str x.2].length)).take ((i + 1) * 2) ++ shC (l.drop i) ++ (((shC l).take (i * 2) ++ ys).take (i * 2) ++ [Value.int .i64 x.1, Str x.2] ++ ((shC l).take (i * 2) ++ ys).drop (i * 2 + [Value.int .i64 x.1, Str x.2].length)).drop ((i + 1) * 2 + (shC (l.drop i)).length)) := by
    have e1 : ((shC l).take (i * 2) ++ ys).take (i * 2) = (shC l).take (i * 2) := by
      rw [List.take_append, ht, Nat.sub_self, List.take_zero, List.append_nil, List.take_take, Nat.min_self]
    rw [e1]
    have e2 : ((shC l).take (i * 2) ++ [Value.int .i64 x.1, Str x.2]).length = (i + 1) * 2 := by rw [List.length_append, ht]; simp; omega
    have e3 : ((shC l).take (i * 2) ++ [Value.int .i64 x.1, Str x.2] ++ ((shC l).take (i * 2) ++ ys).drop (i * 2 + [Value.int .i64 x.1, Str x.2].length)).drop ((i + 1) * 2 + (shC (l.drop i)).length) = [] := by
      refine List.drop_of_length_le ?_
      rw [List.length_append, e2, List.length_drop, List.length_append, ht, hy, hd]
      simp
      omega
    rw [e3, List.append_nil, List.take_append, e2, Nat.sub_self, List.take_zero, List.append_nil, List.take_of_length_le (by rw [e2]; exact Nat.le_refl _), shC_take, shC_ins]
  rw [e]
  exact h2
end Go.Proofs.Yteepdknnmdhckaa
