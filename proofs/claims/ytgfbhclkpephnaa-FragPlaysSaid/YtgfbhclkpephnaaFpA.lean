/-
  The document's joiner (lightshipref49) in memory: rows of 257 cells.
-/
import Derived.Test.YtgfbhclkpephnaaFr13
import Derived.Test.YtgfbhclkpephnaaSegA
namespace Go.Proofs.Ytgfbhclkpephnaa
open Go Go.RowKit
set_option linter.unusedVariables false
set_option linter.unusedSimpArgs false
set_option maxRecDepth 100000
set_option maxHeartbeats 1000000
section
variable {α : Type} (f : α → List Value) (k : Nat) (hk : ∀ a, (f a).length = k)
include hk
theorem fm_len : ∀ l : List α, (l.flatMap f).length = l.length * k
  | [] => by simp
  | a :: l => by rw [List.flatMap_cons, List.length_append, hk, fm_len l, List.length_cons, Nat.succ_mul, Nat.add_comm]
theorem fm_take : ∀ (l : List α) (i : Nat), (l.take i).flatMap f = (l.flatMap f).take (i * k)
  | [], i => by simp
  | a :: l, 0 => by simp
  | a :: l, i + 1 => by
    rw [List.take_succ_cons, List.flatMap_cons, List.flatMap_cons, fm_take l i, Nat.succ_mul, Nat.add_comm (i * k), show k = (f a).length from (hk a).symm, List.take_length_add_append]
theorem fm_drop : ∀ (l : List α) (i : Nat), (l.drop i).flatMap f = (l.flatMap f).drop (i * k)
  | [], i => by simp
  | a :: l, 0 => by simp
  | a :: l, i + 1 => by
    rw [List.drop_succ_cons, List.flatMap_cons, fm_drop l i, Nat.succ_mul, Nat.add_comm (i * k), show k = (f a).length from (hk a).symm, List.drop_length_add_append]
theorem fm_at : ∀ (l : List α) (i : Nat) (h : i < l.length) (j : Nat), j < k → (l.flatMap f)[i * k + j]? = (f l[i])[j]?
  | a :: l, 0, _, j, hj => by
    rw [List.flatMap_cons, Nat.zero_mul, Nat.zero_add, List.getElem?_append_left (by rw [hk]; exact hj)]
    rfl
  | a :: l, i + 1, h, j, hj => by
    rw [List.flatMap_cons, List.getElem?_append_right (by rw [hk, Nat.succ_mul]; omega), hk, show (i + 1) * k + j - k = i * k + j by rw [Nat.succ_mul]; omega, fm_at l i (by simpa using h) j hj]
    rfl
theorem fm_set (v : Value) (b : α) (j : Nat) (hj : j < k) : ∀ (l : List α) (i : Nat) (h : i < l.length), f b = (f l[i]).set j v → (l.flatMap f).set (i * k + j) v = (l.set i b).flatMap f
  | a :: l, 0, _, hb => by
    rw [List.flatMap_cons, Nat.zero_mul, Nat.zero_add, List.set_append_left _ _ (by rw [hk]; exact hj), List.set_cons_zero, List.flatMap_cons, hb]
    rfl
  | a :: l, i + 1, h, hb => by
    rw [List.flatMap_cons, List.set_append_right _ _ (by rw [hk, Nat.succ_mul]; omega), hk, show (i + 1) * k + j - k = i * k + j by rw [Nat.succ_mul]; omega, fm_set v b j hj l i (by simpa using h) hb, List.set_cons_succ, List.flatMap_cons]
end
def cellsA (ps : List (Int × List UInt8)) : List Value := (List.range 255).map fun (p : Nat) => Str ((getP (p : Int) ps).getD [])
def rowA (e : AE) : List Value := .int .u32 e.id :: .int .i64 e.n :: cellsA e.ps
def rowsA (A : List AE) : List Value := A.flatMap rowA
theorem cellsA_len (ps : List (Int × List UInt8)) : (cellsA ps).length = 255 := by simp [cellsA]
theorem rowA_len (e : AE) : (rowA e).length = 257 := by simp [rowA, cellsA_len]
theorem rowsA_len (A : List AE) : (rowsA A).length = A.length * 257 := fm_len rowA 257 rowA_len A
theorem rowsA_take (A : List AE) (i : Nat) : rowsA (A.take i) = (rowsA A).take (i * 257) := fm_take rowA 257 rowA_len A i
theorem rowsA_drop (A : List AE) (i : Nat) : rowsA (A.drop i) = (rowsA A).drop (i * 257) := fm_drop rowA 257 rowA_len A i
theorem rowsA_app (A B : List AE) : rowsA (A ++ B) = rowsA A ++ rowsA B := List.flatMap_append
theorem cellsA_at (ps : List (Int × List UInt8)) (p : Nat) (hp : p < 255) : (cellsA ps)[p]? = some (Str ((getP (p : Int) ps).getD [])) := by
  simp [cellsA, hp]
theorem rowA_at (e : AE) (p : Nat) (hp : p < 255) : (rowA e)[2 + p]? = some (Str ((getP (p : Int) e.ps).getD [])) := by
  rw [Nat.add_comm]
  show (cellsA e.ps)[p]? = _
  exact cellsA_at e.ps p hp
theorem cellsA_set (ps : List (Int × List UInt8)) (p : Nat) (b : List UInt8) : (cellsA ps).set p (Str b) = cellsA (setP (p : Int) b ps) := by
  refine List.ext_getElem? fun i => ?_
  rw [List.getElem?_set]
  by_cases hi : i < 255
  · rw [cellsA_at _ i hi, cellsA_at _ i hi, getP_setP, cellsA_len]
    by_cases h : p = i
    · subst h
      simp [hi]
    · rw [if_neg h, if_neg (by omega)]
  · have h1 : (cellsA ps)[i]? = none := List.getElem?_eq_none (by rw [cellsA_len]; omega)
    have h2 : (cellsA (setP (p : Int) b ps))[i]? = none := List.getElem?_eq_none (by rw [cellsA_len]; omega)
    rw [h1, h2, cellsA_len]
    by_cases h : p = i
    · subst h
      simp [hi]
    · rw [if_neg h]
theorem rowA_set (e : AE) (p : Nat) (b : List UInt8) : rowA ⟨e.id, e.n, setP (p : Int) b e.ps⟩ = (rowA e).set (2 + p) (Str b) := by
  show _ :: _ :: cellsA _ = _
  rw [Nat.add_comm, ← cellsA_set]
  rfl
theorem one_rowA (e : AE) : ∀ u ∈ rowA e, u.oneCell' = true := fun u hu => by
  rcases List.mem_cons.1 hu with rfl | hu
  · rfl
  rcases List.mem_cons.1 hu with rfl | hu
  · rfl
  obtain ⟨p, _, rfl⟩ := List.mem_map.1 hu
  rfl
theorem one_rowsA (A : List AE) : ∀ u ∈ rowsA A, u.oneCell' = true := fun u hu => by
  obtain ⟨e, _, h⟩ := List.mem_flatMap.1 hu
  exact one_rowA e u h
/-- What an entry is: its parts' places unlike each other and among those that there may be; no part is empty. -/
structure GE (e : AE) : Prop where
  o : AOk e
  k : (e.ps.map Prod.fst).Nodup
  r : ∀ p ∈ e.ps, 0 ≤ p.1 ∧ p.1 < e.n
  b : ∀ p ∈ e.ps, p.2 ≠ []
structure GA (room : Int) (A : List AE) : Prop where
  nd : (A.map AE.id).Nodup
  g : ∀ e ∈ A, GE e
  len : (A.length : Int) ≤ room
  r0 : 1 ≤ room
  r1 : room ≤ 256
theorem GA.le {room : Int} {A : List AE} (h : GA room A) : A.length ≤ 256 := by have := h.len; have := h.r1; omega
def docJ (room : Int) (v : Value) : Value := .agg #[.int .i64 room, v]
abbrev tE : TypeId := 150
def SegA (w : World) (v : Value) (A : List AE) : Prop := Seg w 0 tE 257 v A.length (rowsA A)
theorem SegA.chain {w w' : World} {v : Value} {A : List AE} (h : SegA w v A) (hb : Below w.heap.size w w') : SegA w' v A := Seg.chain h hb
theorem SegA.cell {w : World} {g off cap n : Nat} {A : List AE} (h : SegA w (.slice (some ⟨g, off, none⟩) n cap) A) (hn : A.length = n) (i : Nat) (hi : i < A.length) (j : Nat) (hj : j < 257) : w.cell? ⟨g, off + i * 257 + j, none⟩ = (rowA A[i])[j]? := by
  subst hn
  have h1 := Seg.at h (i * 257 + j) (by omega)
  rw [← Nat.add_assoc] at h1
  rw [h1]
  exact fm_at rowA 257 rowA_len A i hi j hj
end Go.Proofs.Ytgfbhclkpephnaa
