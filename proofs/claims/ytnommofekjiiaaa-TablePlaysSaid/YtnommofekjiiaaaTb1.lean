/-
  The document's table (chapter 18): its entries in memory; ready, at.
-/
import Derived.Test.YtnommofekjiiaaaTaNoneW
namespace Go.Proofs.Ytnommofekjiiaaa
open Go Go.RowKit Go.MuLone
set_option linter.unusedVariables false
set_option linter.unusedSimpArgs false
set_option maxRecDepth 100000
set_option maxHeartbeats 2000000
/-- An entry's cells, its shards' slice sv. -/
def deC (d : DE) (sv : Value) : List Value := [.int .i64 d.1.1, .int .u32 d.1.2, .int .i64 d.2.1, sv]
def dsC : List DE → List Value → List Value
  | d :: A, v :: vs => deC d v ++ dsC A vs
  | _, _ => []
theorem dsC_length : ∀ (A : List DE) (vs : List Value), vs.length = A.length → (dsC A vs).length = A.length * 4
  | [], [], _ => rfl
  | d :: A, v :: vs, h => by
    have := dsC_length A vs (by simpa using h)
    simp only [dsC, List.length_append, deC, List.length_cons, List.length_nil, this]
    omega
  | [], _ :: _, h => by simp at h
  | _ :: _, [], h => by simp at h
theorem dsC_at : ∀ (A : List DE) (vs : List Value) (i : Nat) (d : DE) (v : Value), A[i]? = some d → vs[i]? = some v → ∀ j, j < 4 → (dsC A vs)[i * 4 + j]? = (deC d v)[j]?
  | e :: A, u :: vs, 0, d, v, h1, h2, j, hj => by
    simp only [List.getElem?_cons_zero, Option.some.injEq] at h1 h2
    subst h1 h2
    rw [Nat.zero_mul, Nat.zero_add]
    show (deC e u ++ dsC A vs)[j]? = _
    rw [List.getElem?_append_left (by simp [deC]; exact hj)]
  | e :: A, u :: vs, i + 1, d, v, h1, h2, j, hj => by
    have ih := dsC_at A vs i d v (by simpa using h1) (by simpa using h2) j hj
    show (deC e u ++ dsC A vs)[(i + 1) * 4 + j]? = _
    rw [List.getElem?_append_right (by simp [deC]; omega)]
    have : (i + 1) * 4 + j - (deC e u).length = i * 4 + j := by simp [deC]; omega
    rw [this]
    exact ih
  | [], _, _, _, _, h, _, _, _ => by simp at h
  | _ :: _, [], _, _, _, _, h, _, _ => by simp at h
/-- The document's entries: a slice of them, and of each its shards. -/
structure DocA (base : Nat) (w : World) (v : Value) (A : List DE) (vs : List Value) : Prop where
  s : Seg w base 75 4 v A.length (dsC A vs)
  l : vs.length = A.length
  e : ∀ (i : Nat) (d : DE) (u : Value), A[i]? = some d → vs[i]? = some u → ShS w base u d.2.2
theorem DocA.chain {base : Nat} {w w' : World} {v : Value} {A : List DE} {vs : List Value} (h : DocA base w v A vs) (hb : Below w.heap.size w w') : DocA base w' v A vs := ⟨h.s.chain hb, h.l, fun i d u h1 h2 => (h.e i d u h1 h2).chain hb⟩
theorem DocA.turn {base b0 : Nat} {K : List (Option TypeId)} {w w' : World} {v : Value} {A : List DE} {vs : List Value} (h : DocA base w v A vs) (ht : Turn b0 K w w') (h1 : some 75 ∉ K) (h2 : some 32 ∉ K) : DocA base w' v A vs := ⟨ht.seg h.s h1, h.l, fun i d u a b => ht.seg (h.e i d u a b) h2⟩
/-- The cells of one entry. -/
theorem DocA.at {base : Nat} {w : World} {a : Option Addr} {n cap : Nat} {A : List DE} {vs : List Value} (h : DocA base w (.slice a n cap) A vs) (i : Nat) (hi : i < A.length) : ∃ g off d, ∃ ad cd, a = some ⟨g, off, none⟩ ∧ A[i]? = some d ∧ vs[i]? = some (.slice ad d.2.2.length cd) ∧ ShS w base (.slice ad d.2.2.length cd) d.2.2 ∧
    w.cell? ⟨g, off + i * 4, none⟩ = some (.int .i64 d.1.1) ∧ w.cell? ⟨g, off + i * 4 + 1, none⟩ = some (.int .u32 d.1.2) ∧ w.cell? ⟨g, off + i * 4 + 2, none⟩ = some (.int .i64 d.2.1) ∧ w.cell? ⟨g, off + i * 4 + 3, none⟩ = some (.slice ad d.2.2.length cd) := by
  obtain ⟨d, hd⟩ : ∃ d, A[i]? = some d := ⟨_, List.getElem?_eq_getElem hi⟩
  obtain ⟨u, hu⟩ : ∃ u, vs[i]? = some u := ⟨_, List.getElem?_eq_getElem (by rw [h.l]; exact hi)⟩
  have he := h.e i d u hd hu
  obtain ⟨ad, cd, rfl⟩ := he.form
  obtain ⟨g, off, cap', e, _⟩ := h.s.shape (by omega)
  cases e
  have hat := fun j (hj : j < 4) => (h.s.at (i * 4 + j) (by omega)).trans (dsC_at A vs i d _ hd hu j hj)
  refine ⟨g, off, d, ad, cd, rfl, hd, hu, he, ?_, ?_, ?_, ?_⟩
  · exact hat 0 (by decide)
  · rw [Nat.add_assoc]; exact hat 1 (by decide)
  · rw [Nat.add_assoc]; exact hat 2 (by decide)
  · rw [Nat.add_assoc]; exact hat 3 (by decide)
/-- Where an entry stands. -/
def idxD (k : Int × Int) (A : List DE) : Int := match A.findIdx? (fun d => decide (d.1 = k)) with
  | some i => (i : Int)
  | none => -1
theorem rready (k1 k2 need : Int) (l : List Sh) (a : Option Addr) (cap : Nat) (w : World) : Calls Try.prog 21 #[.agg #[.int .i64 k1, .int .u32 k2, .int .i64 need, .slice a l.length cap]] w fun e w' => e = .returned (.bool (decide (need ≤ (l.length : Int)))) ∧ Below w.heap.size w w' := by
  by_cases h : need ≤ (l.length : Int)
  · go_enter Try.func21, Try.ntmps21
    go_wp2_with fail
    go_ret
    exact ⟨by simp [h], Below.chainAlloc (Below.refl _ _) _⟩
  · go_enter Try.func21, Try.ntmps21
    go_wp2_with fail
    go_ret
    exact ⟨by simp [h], Below.chainAlloc (Below.refl _ _) _⟩
end Go.Proofs.Ytnommofekjiiaaa
