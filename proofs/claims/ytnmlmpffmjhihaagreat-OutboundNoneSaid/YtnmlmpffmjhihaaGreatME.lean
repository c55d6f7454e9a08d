/-
  Merged: Tables of bytes: a place is cleared in all rows but one: plain, and the program's contract (chapter 3). | Tables of bytes: a table is made plain: plain, and the program's contract (chapter 3). | Tables of bytes: copies: the program's and the document's contracts (chapter 3). | Tables of bytes: the rank and the inverse: the program's contracts (chapter 3). | Tables of bytes: the inverse: the program's contract (chapter 3).
-/
import Derived.Test.YtnmlmpffmjhihaaGreatMD
namespace Go.Proofs.YtnmlmpffmjhihaaGreat
open Go.RowKit
set_option linter.unusedVariables false
set_option maxRecDepth 100000
set_option maxHeartbeats 2000000
def scR (c row : Nat) (R : List (List Nat)) : List (List Nat) := R.set row (scaleL c (R.getD row []))
def addR (R : List (List Nat)) (x i row : Nat) : List (List Nat) := R.set i (mulAddL (R.getD i []) x (R.getD row []))
def stepC (row place : Nat) (MO : List (List Nat) × List (List Nat)) (i : Nat) : List (List Nat) × List (List Nat) :=
  if i = row ∨ entM MO.1 i place = 0 then MO else (addR MO.1 (entM MO.1 i place) i row, addR MO.2 (entM MO.1 i place) i row)
def clearSo (row place : Nat) (M O : List (List Nat)) (m : Nat) : List (List Nat) × List (List Nat) :=
  (List.range m).foldl (stepC row place) (scR (gi (entM M row place)) row M, scR (gi (entM M row place)) row O)
def clearL (row place : Nat) (M O : List (List Nat)) : List (List Nat) × List (List Nat) := clearSo row place M O M.length
theorem clearSo_succ (row place : Nat) (M O : List (List Nat)) (m : Nat) : clearSo row place M O (m + 1) = stepC row place (clearSo row place M O m) m := by
  unfold clearSo
  rw [List.range_succ, List.foldl_append]
  rfl
/-- All rows are so long. -/
def Wide (R : List (List Nat)) (x : Nat) : Prop := ∀ i (h : i < R.length), R[i].length = x
theorem Wide.set {R : List (List Nat)} {x i : Nat} {r : List Nat} (h : Wide R x) (hr : r.length = x) : Wide (R.set i r) x := fun j hj => by
  by_cases e : i = j
  · subst e; simpa using hr
  · rw [List.getElem_set_ne e]; exact h j (by simpa using hj)
theorem scR_wide {R : List (List Nat)} {c row x : Nat} (h : Wide R x) (hr : row < R.length) : Wide (scR c row R) x := by
  unfold scR
  rw [getD_get R row _ hr]
  exact h.set (by rw [scaleL_length]; exact h row hr)
theorem addR_wide {R : List (List Nat)} {c i row x : Nat} (h : Wide R x) (hi : i < R.length) (hr : row < R.length) : Wide (addR R c i row) x := by
  unfold addR mulAddL
  rw [getD_get R row _ hr, getD_get R i _ hi]
  exact h.set (by rw [addL_length _ _ (by rw [scaleL_length, h i hi, h row hr]), h i hi])
theorem scR_length (c row : Nat) (R : List (List Nat)) : (scR c row R).length = R.length := by simp [scR]
theorem addR_length (R : List (List Nat)) (x i row : Nat) : (addR R x i row).length = R.length := by simp [addR]
theorem stepC_len (row place : Nat) (MO : List (List Nat) × List (List Nat)) (i : Nat) : (stepC row place MO i).1.length = MO.1.length ∧ (stepC row place MO i).2.length = MO.2.length := by
  unfold stepC
  split
  · exact ⟨rfl, rfl⟩
  · exact ⟨addR_length _ _ _ _, addR_length _ _ _ _⟩
theorem clearSo_len (row place : Nat) (M O : List (List Nat)) : ∀ m, (clearSo row place M O m).1.length = M.length ∧ (clearSo row place M O m).2.length = O.length
  | 0 => ⟨scR_length _ _ _, scR_length _ _ _⟩
  | m + 1 => by
    rw [clearSo_succ]
    have h1 := stepC_len row place (clearSo row place M O m) m
    have h2 := clearSo_len row place M O m
    exact ⟨h1.1.trans h2.1, h1.2.trans h2.2⟩
theorem clearSo_wide {row place : Nat} {M O : List (List Nat)} {x y : Nat} (hM : Wide M x) (hO : Wide O y) (hl : O.length = M.length) (hr : row < M.length) : ∀ m, m ≤ M.length → Wide (clearSo row place M O m).1 x ∧ Wide (clearSo row place M O m).2 y
  | 0, _ => ⟨scR_wide hM hr, scR_wide hO (by omega)⟩
  | m + 1, h => by
    rw [clearSo_succ]
    have h1 := clearSo_wide (place := place) hM hO hl hr m (by omega)
    have h2 := clearSo_len row place M O m
    unfold stepC
    split
    · exact h1
    · exact ⟨addR_wide h1.1 (by omega) (by omega), addR_wide h1.2 (by omega) (by omega)⟩
/-- No row but the one is looked at again: and that one stays. -/
theorem entM_lt {M : List (List Nat)} (h : ∀ i (h : i < M.length), ∀ x ∈ M[i], x < 256) (i j : Nat) : entM M i j < 256 := by
  unfold entM
  by_cases hi : i < M.length
  · rw [getD_get M i [] hi]
    by_cases hj : j < M[i].length
    · rw [getD_get _ j 0 hj]; exact h i hi _ (by simp)
    · simp [List.getD, List.getElem?_eq_none (show M[i].length ≤ j by omega)]
  · simp [List.getD, List.getElem?_eq_none (show M.length ≤ i by omega)]
theorem OwnM.bytes {w : World} {g off : Nat} {rows : List (List Nat)} (h : OwnM w g off rows) : ∀ i (h : i < rows.length), ∀ x ∈ rows[i], x < 256 := fun i hi => by
  obtain ⟨a, c, _, r⟩ := h.read i hi
  exact r.2
end Go.Proofs.YtnmlmpffmjhihaaGreat
namespace Go.Proofs.YtnmlmpffmjhihaaGreat
open Go.RowKit
set_option linter.unusedVariables false
set_option maxRecDepth 100000
set_option maxHeartbeats 2000000
abbrev Tab := List (List Nat)
def stepP (s : Nat × (Tab × Tab)) (place : Nat) : Nat × (Tab × Tab) :=
  if s.1 = s.2.1.length then s else match pivL s.2.1 s.1 place with
    | none => s
    | some i => (s.1 + 1, clearL s.1 place (swapL s.2.1 s.1 i) (swapL s.2.2 s.1 i))
def redSo (M O : Tab) (p : Nat) : Nat × (Tab × Tab) := (List.range p).foldl stepP (0, (M, O))
theorem redSo_succ (M O : Tab) (p : Nat) : redSo M O (p + 1) = stepP (redSo M O p) p := by
  unfold redSo
  rw [List.range_succ, List.foldl_append]
  rfl
theorem stepP_full {s : Nat × (Tab × Tab)} (h : s.1 = s.2.1.length) (p : Nat) : stepP s p = s := by unfold stepP; rw [if_pos h]
theorem stepP_none {s : Nat × (Tab × Tab)} (h : s.1 ≠ s.2.1.length) (p : Nat) (hp : pivL s.2.1 s.1 p = none) : stepP s p = s := by unfold stepP; rw [if_neg h, hp]
theorem stepP_some {s : Nat × (Tab × Tab)} (h : s.1 ≠ s.2.1.length) (p i : Nat) (hp : pivL s.2.1 s.1 p = some i) : stepP s p = (s.1 + 1, clearL s.1 p (swapL s.2.1 s.1 i) (swapL s.2.2 s.1 i)) := by unfold stepP; rw [if_neg h, hp]
theorem redSo_full {M O : Tab} {p : Nat} (h : (redSo M O p).1 = (redSo M O p).2.1.length) : ∀ k, redSo M O (p + k) = redSo M O p
  | 0 => rfl
  | k + 1 => by
    rw [← Nat.add_assoc, redSo_succ, redSo_full h k]
    exact stepP_full h _
theorem pivN_spec (M : Tab) (place : Nat) : ∀ k i j, pivN M place k i = some j → i ≤ j ∧ j < i + k ∧ entM M j place ≠ 0
  | 0, i, j, h => by cases h
  | k + 1, i, j, h => by
    by_cases hz : entM M i place = 0
    · rw [pivN_step M place k i hz] at h
      have := pivN_spec M place k (i + 1) j h
      exact ⟨by omega, by omega, this.2.2⟩
    · rw [pivN_hit M place k i hz] at h
      cases h
      exact ⟨Nat.le_refl _, by omega, hz⟩
theorem pivL_spec {M : Tab} {a place j : Nat} (h : pivL M a place = some j) : a ≤ j ∧ j < M.length ∧ entM M j place ≠ 0 := by
  unfold pivL at h
  have := pivN_spec M place _ a j h
  refine ⟨this.1, ?_, this.2.2⟩
  have h1 := this.1
  have h2 := this.2.1
  by_cases hh : a ≤ M.length
  · omega
  · rw [Nat.sub_eq_zero_of_le (by omega)] at h
    cases h
theorem swapL_wide {R : Tab} {x i k : Nat} (h : Wide R x) (hi : i < R.length) (hk : k < R.length) : Wide (swapL R i k) x := by
  unfold swapL
  rw [getD_get R k _ hk, getD_get R i _ hi]
  exact (h.set (h k hk)).set (h i hi)
theorem entM_swap (M : Tab) (a i place : Nat) (ha : a < M.length) (hi : i < M.length) : entM (swapL M a i) a place = entM M i place := by
  unfold entM swapL
  rw [getD_get M i _ hi, getD_get M a _ ha]
  congr 1
  rw [getD_get _ a _ (by simpa using ha)]
  by_cases e : i = a
  · subst e; simp
  · rw [List.getElem_set_ne e]; simp
theorem stepP_inv {s : Nat × (Tab × Tab)} {p x y n : Nat} (h1 : s.2.1.length = n) (h2 : s.2.2.length = n) (ha : s.1 ≤ n) (hx : Wide s.2.1 x) (hy : Wide s.2.2 y) :
    (stepP s p).2.1.length = n ∧ (stepP s p).2.2.length = n ∧ (stepP s p).1 ≤ n ∧ Wide (stepP s p).2.1 x ∧ Wide (stepP s p).2.2 y := by
  by_cases hf : s.1 = s.2.1.length
  · rw [stepP_full hf]; exact ⟨h1, h2, ha, hx, hy⟩
  · cases hp : pivL s.2.1 s.1 p with
    | none => rw [stepP_none hf p hp]; exact ⟨h1, h2, ha, hx, hy⟩
    | some i =>
      rw [stepP_some hf p i hp]
      have hs := pivL_spec hp
      have l1 : (swapL s.2.1 s.1 i).length = n := by rw [swapL_length, h1]
      have l2 : (swapL s.2.2 s.1 i).length = n := by rw [swapL_length, h2]
      have w1 := swapL_wide (i := s.1) (k := i) hx (by omega) (by omega)
      have w2 := swapL_wide (i := s.1) (k := i) hy (by omega) (by omega)
      have c1 := clearSo_len s.1 p (swapL s.2.1 s.1 i) (swapL s.2.2 s.1 i) (swapL s.2.1 s.1 i).length
      have c2 := clearSo_wide (row := s.1) (place := p) w1 w2 (by omega) (by omega) (swapL s.2.1 s.1 i).length (Nat.le_refl _)
      exact ⟨c1.1.trans l1, c1.2.trans l2, by show s.1 + 1 ≤ n; omega, c2.1, c2.2⟩
theorem redSo_inv {M O : Tab} {x y n : Nat} (h1 : M.length = n) (h2 : O.length = n) (hx : Wide M x) (hy : Wide O y) : ∀ p,
    (redSo M O p).2.1.length = n ∧ (redSo M O p).2.2.length = n ∧ (redSo M O p).1 ≤ n ∧ Wide (redSo M O p).2.1 x ∧ Wide (redSo M O p).2.2 y
  | 0 => ⟨h1, h2, Nat.zero_le _, hx, hy⟩
  | p + 1 => by
    rw [redSo_succ]
    have h := redSo_inv h1 h2 hx hy p
    exact stepP_inv h.1 h.2.1 h.2.2.1 h.2.2.2.1 h.2.2.2.2
end Go.Proofs.YtnmlmpffmjhihaaGreat
namespace Go.Proofs.YtnmlmpffmjhihaaGreat
open Go.RowKit
set_option linter.unusedVariables false
set_option maxRecDepth 100000
set_option maxHeartbeats 2000000
theorem below_of_grown {w w' : World} (h : w.grownBy w' none) : Below w.heap.size w w' := ⟨h.os, h.tape, h.output, h.size, fun k hk => h.block k hk (by simp)⟩
theorem u8s_one (bs : List Nat) : ∀ u ∈ u8s bs, u.oneCell' = true := fun u hu => by
  obtain ⟨x, _, rfl⟩ := List.mem_map.1 hu
  rfl
def SegPost (rows : Tab) (w : World) (e : Ending) (w' : World) : Prop := ∃ v', e = .returned v' ∧ SegM w' w.heap.size v' rows ∧ Below w.heap.size w w'
end Go.Proofs.YtnmlmpffmjhihaaGreat
namespace Go.Proofs.YtnmlmpffmjhihaaGreat
open Go.RowKit
set_option linter.unusedVariables false
set_option maxRecDepth 100000
set_option maxHeartbeats 2000000
def rankM (rows : Tab) : Nat := (redSo rows (List.replicate rows.length []) (wid rows)).1
def rankV (rows : Tab) : Int := if chkM rows = 0 then rankM rows else 0
def RankPost (rows : Tab) (w : World) (e : Ending) (w' : World) : Prop := e = .returned (.tuple #[.int .i64 (rankV rows), .int .i64 (chkM rows)]) ∧ Below w.heap.size w w'
theorem wide_of {rows : Tab} (h : ∀ r ∈ rows, r.length = wid rows) : Wide rows (wid rows) := fun i hi => h _ (by simp)
theorem wide_nil (n : Nat) : Wide (List.replicate n ([] : List Nat)) 0 := fun i hi => by simp
theorem below_of_only {W w1 w2 : World} {S : List Nat} (h : Below W.heap.size W w1) (ho : Only S w1 w2) (hs : ∀ x ∈ S, W.heap.size ≤ x) : Below W.heap.size W w2 := Below.only h ho hs
end Go.Proofs.YtnmlmpffmjhihaaGreat
namespace Go.Proofs.YtnmlmpffmjhihaaGreat
open Go.RowKit
set_option linter.unusedVariables false
set_option maxRecDepth 100000
set_option maxHeartbeats 2000000
def redI (rows : Tab) : Nat × (Tab × Tab) := redSo rows (idM rows.length) rows.length
def invE (rows : Tab) : Int := if chkM rows ≠ 0 then chkM rows else if rows.length ≠ wid rows then 16 else if (redI rows).1 < rows.length then 14 else 0
def invV (rows : Tab) : Tab := if invE rows = 0 then (redI rows).2.2 else []
def InvPost (rows : Tab) (w : World) (e : Ending) (w' : World) : Prop := ∃ v, e = .returned (.tuple #[v, .int .i64 (invE rows)]) ∧ MatAt 0 w' v (invV rows) ∧ Below w.heap.size w w'
theorem InvPost.no {rows : Tab} {w w' : World} {z : Int} (h : invE rows = z) (hz : z ≠ 0) (hb : Below w.heap.size w w') : InvPost rows w (.returned (.tuple #[.slice none 0 0, .int .i64 z])) w' :=
  ⟨_, by rw [h], by unfold invV; rw [if_neg (by omega)]; exact MatAt.nil _ _, hb⟩
theorem InvPost.yes {rows : Tab} {w w' : World} {v : Value} (h : invE rows = 0) (hm : MatAt 0 w' v (redI rows).2.2) (hb : Below w.heap.size w w') : InvPost rows w (.returned (.tuple #[v, .int .i64 0])) w' :=
  ⟨_, by rw [h], by unfold invV; rw [if_pos h]; exact hm, hb⟩
theorem invE_chk {rows : Tab} (h : chkM rows ≠ 0) : invE rows = chkM rows := by unfold invE; rw [if_pos h]
theorem invE_len {rows : Tab} (h : chkM rows = 0) (h2 : rows.length ≠ wid rows) : invE rows = 16 := by unfold invE; rw [if_neg (by simpa using h), if_pos h2]
theorem invE_sing {rows : Tab} (h : chkM rows = 0) (h2 : rows.length = wid rows) (h3 : (redI rows).1 < rows.length) : invE rows = 14 := by
  unfold invE; rw [if_neg (by simpa using h), if_neg (by simpa using h2), if_pos h3]
theorem invE_ok {rows : Tab} (h : chkM rows = 0) (h2 : rows.length = wid rows) (h3 : ¬ (redI rows).1 < rows.length) : invE rows = 0 := by
  unfold invE; rw [if_neg (by simpa using h), if_neg (by simpa using h2), if_neg h3]
theorem wide_id (n : Nat) : Wide (idM n) n := fun i hi => by simp [idM, idRow_length]
end Go.Proofs.YtnmlmpffmjhihaaGreat
