/-
  The table: shards in a slice; slices.BinarySearchFunc over them (chapter 18).
-/
import Derived.Test.YteepdknnmdhckaaBase2
import Derived.Test.YteepdknnmdhckaaSegA
import Derived.Test.YteepdknnmdhckaaMpR
import Derived.Test.YteepdknnmdhckaaLocks
namespace Go.Proofs.Yteepdknnmdhckaa
open Go Go.RowKit
set_option linter.unusedVariables false
set_option linter.unusedSimpArgs false
set_option maxRecDepth 100000
set_option maxHeartbeats 1000000
abbrev Sh := Int × List UInt8
abbrev shV (x : Sh) : Value := .agg #[.int .i64 x.1, Str x.2]
def shC (l : List Sh) : List Value := l.flatMap fun x => [.int .i64 x.1, Str x.2]
theorem shC_length (l : List Sh) : (shC l).length = l.length * 2 := by
  induction l with
  | nil => rfl
  | cons x l ih => simp only [shC, List.flatMap_cons, List.length_append, List.length_cons, List.length_nil] at ih ⊢; omega
theorem shC_append (a b : List Sh) : shC (a ++ b) = shC a ++ shC b := by simp [shC]
theorem shC_take : ∀ (l : List Sh) (i : Nat), (shC l).take (i * 2) = shC (l.take i)
  | [], i => by simp [shC]
  | x :: l, 0 => by simp [shC]
  | x :: l, i + 1 => by
    have h := shC_take l i
    have e : (i + 1) * 2 = i * 2 + 1 + 1 := by omega
    rw [e]
    simp only [shC, List.flatMap_cons, List.cons_append, List.nil_append, List.take_succ_cons] at h ⊢
    rw [h]
theorem shC_drop : ∀ (l : List Sh) (i : Nat), (shC l).drop (i * 2) = shC (l.drop i)
  | [], i => by simp [shC]
  | x :: l, 0 => by simp [shC]
  | x :: l, i + 1 => by
    have h := shC_drop l i
    have e : (i + 1) * 2 = i * 2 + 1 + 1 := by omega
    rw [e]
    simp only [shC, List.flatMap_cons, List.cons_append, List.nil_append, List.drop_succ_cons] at h ⊢
    rw [h]
theorem shC_at : ∀ (l : List Sh) (i : Nat) (x : Sh), l[i]? = some x → (shC l)[i * 2]? = some (.int .i64 x.1) ∧ (shC l)[i * 2 + 1]? = some (Str x.2)
  | [], i, x, h => by simp at h
  | y :: l, 0, x, h => by
    simp only [List.getElem?_cons_zero, Option.some.injEq] at h
    subst h
    simp [shC]
  | y :: l, i + 1, x, h => by
    have := shC_at l i x (by simpa using h)
    have e : (i + 1) * 2 = i * 2 + 1 + 1 := by omega
    rw [e]
    simpa [shC] using this
theorem shC_one : ∀ (l : List Sh), ∀ u ∈ shC l, u.oneCell' = true := fun l u hu => by
  obtain ⟨x, _, hx⟩ := List.mem_flatMap.1 hu
  simp only [List.mem_cons, List.not_mem_nil, or_false] at hx
  rcases hx with rfl | rfl <;> rfl
/-- A slice of shards. -/
abbrev ShS (w : World) (base : Nat) (v : Value) (l : List Sh) : Prop := Seg w base 207 2 v l.length (shC l)
theorem ShS.cell {w : World} {base g off cap n : Nat} {l : List Sh} (h : Seg w base 207 2 (.slice (some ⟨g, off, none⟩) n cap) n (shC l)) (i : Nat) (x : Sh) (hi : l[i]? = some x) :
    w.cell? ⟨g, off + i * 2, none⟩ = some (.int .i64 x.1) ∧ w.cell? ⟨g, off + i * 2 + 1, none⟩ = some (Str x.2) := by
  have hn : l.length = n := by have := h.1; rw [shC_length] at this; omega
  have hl := (List.getElem?_eq_some_iff.1 hi).1
  obtain ⟨h1, h2⟩ := shC_at l i x hi
  exact ⟨by rw [h.at (i * 2) (by omega), h1], by rw [Nat.add_assoc, h.at (i * 2 + 1) (by omega), h2]⟩
def cmpI (x y : Int) : Int := if x < y then -1 else if y < x then 1 else 0
/-- How many stand ahead of an index. -/
def lowN (t : Int) (l : List Sh) : Nat := (l.takeWhile fun y => decide (y.1 < t)).length
def hitN (t : Int) (l : List Sh) : Bool := match l[lowN t l]? with
  | some y => decide (y.1 = t)
  | none => false
theorem lowN_le (t : Int) (l : List Sh) : lowN t l ≤ l.length := (List.takeWhile_sublist _).length_le
theorem lowN_eq (t : Int) : ∀ (l : List Sh) (i : Nat), i ≤ l.length → (∀ j y, j < i → l[j]? = some y → y.1 < t) → (∀ y, l[i]? = some y → ¬ y.1 < t) → lowN t l = i
  | [], i, h, _, _ => by
    have : i = 0 := by simpa using h
    subst this
    rfl
  | y :: l, 0, h, _, h2 => by
    have := h2 y rfl
    simp [lowN, this]
  | y :: l, i + 1, h, h1, h2 => by
    have := h1 0 y (by omega) rfl
    have ih := lowN_eq t l i (by simpa using h) (fun j z hj hz => h1 (j + 1) z (by omega) (by simpa using hz)) (fun z hz => h2 z (by simpa using hz))
    unfold lowN at ih ⊢
    simp [this, ih]
/-- By rising index. -/
def Rise (l : List Sh) : Prop := (l.map Prod.fst).Pairwise (· < ·)
theorem Rise.lt {l : List Sh} (h : Rise l) {i j : Nat} {x y : Sh} (hi : l[i]? = some x) (hj : l[j]? = some y) (hij : i < j) : x.1 < y.1 := by
  obtain ⟨h1, rfl⟩ := List.getElem?_eq_some_iff.1 hi
  obtain ⟨h2, rfl⟩ := List.getElem?_eq_some_iff.1 hj
  have := (List.pairwise_iff_getElem.1 h) i j (by simpa using h1) (by simpa using h2) hij
  simpa using this
end Go.Proofs.Yteepdknnmdhckaa
