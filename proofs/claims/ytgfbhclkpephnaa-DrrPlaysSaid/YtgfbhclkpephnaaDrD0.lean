/-
  The document's queues (lightshipref17), in memory: what a value of its S holds.
-/
import Derived.Test.YtgfbhclkpephnaaDr10
import Derived.Test.YtgfbhclkpephnaaDrN1
namespace Go.Proofs.Ytgfbhclkpephnaa
open Go Go.RowKit
set_option linter.unusedVariables false
set_option linter.unusedSimpArgs false
set_option maxRecDepth 100000
def rowQ (q : PQ) (lv : Value) : List Value := [.int .i64 q.id, .int .i64 q.weight, .int .i64 q.deficit, .bool q.served, lv]
def rowsQ : List PQ → List Value → List Value
  | q :: l, lv :: ls => rowQ q lv ++ rowsQ l ls
  | _, _ => []
theorem rowsQ_len : ∀ (l : List PQ) (ls : List Value), ls.length = l.length → (rowsQ l ls).length = 5 * l.length
  | [], [], _ => rfl
  | q :: l, lv :: ls, h => by
    have := rowsQ_len l ls (by simpa using h)
    show (rowQ q lv ++ rowsQ l ls).length = _
    rw [List.length_append, this]
    simp [rowQ]
    omega
theorem rowsQ_get : ∀ (l : List PQ) (ls : List Value) (h : ls.length = l.length) (i k : Nat) (hi : i < l.length) (hk : k < 5), (rowsQ l ls)[5 * i + k]? = (rowQ l[i] (ls[i]'(by omega)))[k]?
  | q :: l, lv :: ls, h, 0, k, _, hk => by
    show (rowQ q lv ++ rowsQ l ls)[5 * 0 + k]? = _
    rw [List.getElem?_append_left (by simp [rowQ]; omega)]
    simp
  | q :: l, lv :: ls, h, i + 1, k, hi, hk => by
    show (rowQ q lv ++ rowsQ l ls)[5 * (i + 1) + k]? = _
    rw [List.getElem?_append_right (by simp [rowQ]; omega), show 5 * (i + 1) + k - (rowQ q lv).length = 5 * i + k by simp [rowQ]; omega]
    rw [rowsQ_get l ls (by simpa using h) i k (by simpa using hi) hk]
    simp
def DocR (w : World) (qv rv : Value) (ls : List Value) (S : PS) : Prop :=
  ls.length = S.qs.length ∧ Seg w 0 107 5 qv S.qs.length (rowsQ S.qs ls) ∧ (∀ (i : Nat) (h : i < S.qs.length) (h' : i < ls.length), Seg w 0 35 2 ls[i] S.qs[i].items.length (itC S.qs[i].items)) ∧ Seg w 0 3 1 rv S.round.length (iv S.round)
theorem DocR.chain {w w' : World} {qv rv : Value} {ls : List Value} {S : PS} (h : DocR w qv rv ls S) (hb : Below w.heap.size w w') : DocR w' qv rv ls S :=
  ⟨h.1, h.2.1.chain hb, fun i h1 h2 => (h.2.2.1 i h1 h2).chain hb, h.2.2.2.chain hb⟩
def docV (S : PS) (qv rv : Value) : Value := .agg #[.int .i64 S.quantum, qv, rv]
/-- What the document's search answers. -/
def AtR (S : PS) (id r : Int) : Prop := (∃ (i : Nat) (h : i < S.qs.length), r = (i : Int) ∧ S.qs[i].id = id) ∨ (r = -1 ∧ ∀ q ∈ S.qs, q.id ≠ id)
theorem DocR.shape {w : World} {qv rv : Value} {ls : List Value} {S : PS} (h : DocR w qv rv ls S) (hn : 0 < S.qs.length) : ∃ g off cap, qv = .slice (some ⟨g, off, none⟩) S.qs.length cap ∧ g < w.heap.size := by
  obtain ⟨g, off, cap, e, _, h1, _⟩ := h.2.1.shape hn
  exact ⟨g, off, cap, e, h1⟩
theorem DocR.cell {w : World} {g off cap : Nat} {rv : Value} {ls : List Value} {S : PS} {n : Nat} (h : DocR w (.slice (some ⟨g, off, none⟩) n cap) rv ls S) (hn : n = S.qs.length) (i k : Nat) (hi : i < S.qs.length) (hk : k < 5) : w.cell? ⟨g, off + (i * 5 + k), none⟩ = (rowQ S.qs[i] (ls[i]'(by rw [h.1]; exact hi)))[k]? := by
  subst hn
  rw [← rowsQ_get S.qs ls h.1 i k hi hk]
  rw [Nat.mul_comm i 5]
  exact h.2.1.at (5 * i + k) (by omega)
end Go.Proofs.Ytgfbhclkpephnaa
