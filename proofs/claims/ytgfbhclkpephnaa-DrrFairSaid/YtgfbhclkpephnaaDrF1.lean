/-
  Whose turn it is: fair shares: what the law's loops keep (chapter 17).
-/
import Derived.Test.YtgfbhclkpephnaaDrF0
import Derived.Test.YtgfbhclkpephnaaDrN1
namespace Go.Proofs.Ytgfbhclkpephnaa
open Go Go.RowKit
set_option linter.unusedVariables false
set_option linter.unusedSimpArgs false
set_option maxRecDepth 100000
set_option maxHeartbeats 1000000
theorem lenP_items (id : Int) (S : PS) : lenP id S = (itemsOf S id).length := by
  unfold lenP itemsOf
  cases getQ id S.qs <;> rfl
theorem QF.more {z w : Int} {q : PQ} (h : QF z w q) {x : Int × Int} (hx : 1 ≤ x.2 ∧ x.2 ≤ 16) : QF z w { q with items := q.items ++ [x] } :=
  ⟨h.wt, fun y hy => (List.mem_append.1 hy).elim (fun hy => h.i y hy) (fun hy => by rw [List.mem_singleton.1 hy]; exact hx), by simp, h.d0, h.dn, h.dm⟩
theorem F12_ne {l : List Int} (h : F12 l ≠ []) (m : List Int) : (l ++ m).head? = l.head? := by
  cases l with
  | nil => exact absurd rfl h
  | cons a l => rfl
/-- One item more. -/
theorem FI.push {z w1 w2 : Int} {S : PS} {a b : Int} (h : FI z w1 w2 S a b) (hS : S.Ok) {x : Int × Int} (hm : x.1 ∈ S.qs.map PQ.id) (hx : 1 ≤ x.2 ∧ x.2 ≤ 16) : FI z w1 w2 (pushA S x) a b := by
  obtain ⟨q, hq, hid⟩ := List.mem_map.1 hm
  have hg : getQ x.1 S.qs = some q := by rw [← hid]; exact getQ_of hS.nd hq
  have hg' : getQ q.id S.qs = some q := by rw [hid]; exact hg
  have e2 : pushA S x = pushP S q x := by unfold pushA; rw [hg]; simp only; rw [if_neg (by omega)]
  rw [e2]
  obtain ⟨q1, q2, g, h1, h2, k1, k2, hc⟩ := h
  have hgp : getQ (pushQ q x).id S.qs = some q := by rw [pushQ_id]; exact hg'
  have hother : ∀ id, id ≠ q.id → getQ id (putQ (pushQ q x) S.qs) = getQ id S.qs := fun id hne => by rw [getQ_putQ hgp, pushQ_id, if_neg hne]
  have hself : getQ q.id (putQ (pushQ q x) S.qs) = some (pushQ q x) := by rw [getQ_putQ hgp, pushQ_id, if_pos rfl]
  by_cases i1 : q.id = 1
  · have he : q = q1 := by rw [i1, h1] at hg'; cases hg'; rfl
    subst he
    have ep : pushQ q x = { q with items := q.items ++ [x] } := if_neg k1.ne
    have er : (pushP S q x).round = S.round := if_neg k1.ne
    refine ⟨pushQ q x, q2, g, by rw [← i1]; exact hself, (hother 2 (by rw [i1]; decide)).trans h2, by rw [ep]; exact k1.more hx, k2, ?_⟩
    rw [er, ep]
    exact hc
  · by_cases i2 : q.id = 2
    · have he : q = q2 := by rw [i2, h2] at hg'; cases hg'; rfl
      subst he
      have ep : pushQ q x = { q with items := q.items ++ [x] } := if_neg k2.ne
      have er : (pushP S q x).round = S.round := if_neg k2.ne
      refine ⟨q1, pushQ q x, g, (hother 1 (by rw [i2]; decide)).trans h1, by rw [← i2]; exact hself, k1, by rw [ep]; exact k2.more hx, ?_⟩
      rw [er, ep]
      exact hc
    · refine ⟨q1, q2, g, (hother 1 (fun e => i1 e.symm)).trans h1, (hother 2 (fun e => i2 e.symm)).trans h2, k1, k2, ?_⟩
      have f1 : F12 (pushP S q x).round = F12 S.round := by
        show F12 (if q.items = [] then S.round ++ [q.id] else S.round) = _
        split
        · rw [F12_app, F12_no' i1 i2, List.append_nil]
        · rfl
      have f2 : F12 S.round ≠ [] → (pushP S q x).round.head? = S.round.head? := fun hne => by
        show (if q.items = [] then S.round ++ [q.id] else S.round).head? = _
        split
        · exact F12_ne hne _
        · rfl
      rcases hc with ⟨a1, b1, c1, d1, e1⟩ | ⟨a1, b1, c1, d1, e1⟩
      · exact .inl ⟨a1, b1, c1, fun hs => ⟨by rw [f1]; exact (d1 hs).1, by rw [f2 (by rw [(d1 hs).1]; simp)]; exact (d1 hs).2⟩, fun hs => by rw [f1]; exact e1 hs⟩
      · exact .inr ⟨a1, b1, c1, fun hs => ⟨by rw [f1]; exact (d1 hs).1, by rw [f2 (by rw [(d1 hs).1]; simp)]; exact (d1 hs).2⟩, fun hs => by rw [f1]; exact e1 hs⟩
/-- The scheduler of the law, as it is made. -/
def fs17 (z w1 w2 : Int) : PS := ⟨z, [⟨1, w1, 0, false, []⟩, ⟨2, w2, 0, false, []⟩, ⟨3, 1, 0, false, []⟩], []⟩
theorem fs17_add (z w1 w2 : Int) (h1 : 1 ≤ w1 ∧ w1 ≤ 255) (h2 : 1 ≤ w2 ∧ w2 ≤ 255) : addE (newP z) 1 w1 = 0 ∧ addE (addP (newP z) 1 w1) 2 w2 = 0 ∧ addE (addP (addP (newP z) 1 w1) 2 w2) 3 1 = 0 ∧ addP (addP (addP (newP z) 1 w1) 2 w2) 3 1 = fs17 z w1 w2 := by
  refine ⟨?_, ?_, ?_, rfl⟩
  · unfold addE
    rw [if_neg (by omega)]
    rfl
  · unfold addE
    rw [if_neg (by omega)]
    rfl
  · unfold addE
    rw [if_neg (by decide)]
    rfl
theorem fs17_first (z w1 w2 n1 n2 : Int) (h1 : 1 ≤ w1 ∧ w1 ≤ 255) (h2 : 1 ≤ w2 ∧ w2 ≤ 255) (hz : 1 ≤ z) (hn1 : 1 ≤ n1 ∧ n1 ≤ 16) (hn2 : 1 ≤ n2 ∧ n2 ≤ 16) : FI z w1 w2 (pushA (pushA (fs17 z w1 w2) (1, n1)) (2, n2)) 0 0 := by
  have e1 : pushA (fs17 z w1 w2) (1, n1) = ⟨z, [⟨1, w1, 0, false, [(1, n1)]⟩, ⟨2, w2, 0, false, []⟩, ⟨3, 1, 0, false, []⟩], [1]⟩ := by
    show (if n1 < 1 ∨ 65536 < n1 then fs17 z w1 w2 else pushP (fs17 z w1 w2) ⟨1, w1, 0, false, []⟩ (1, n1)) = _
    rw [if_neg (by omega)]
    rfl
  have e2 : pushA (⟨z, [⟨1, w1, 0, false, [(1, n1)]⟩, ⟨2, w2, 0, false, []⟩, ⟨3, 1, 0, false, []⟩], [1]⟩ : PS) (2, n2) = ⟨z, [⟨1, w1, 0, false, [(1, n1)]⟩, ⟨2, w2, 0, false, [(2, n2)]⟩, ⟨3, 1, 0, false, []⟩], [1, 2]⟩ := by
    show (if n2 < 1 ∨ 65536 < n2 then _ else pushP ⟨z, [⟨1, w1, 0, false, [(1, n1)]⟩, ⟨2, w2, 0, false, []⟩, ⟨3, 1, 0, false, []⟩], [1]⟩ ⟨2, w2, 0, false, []⟩ (2, n2)) = _
    rw [if_neg (by omega)]
    rfl
  rw [e1, e2]
  have hz1 := Int.mul_nonneg (show 0 ≤ z by omega) (show 0 ≤ w1 by omega)
  have hz2 := Int.mul_nonneg (show 0 ≤ z by omega) (show 0 ≤ w2 by omega)
  refine ⟨⟨1, w1, 0, false, [(1, n1)]⟩, ⟨2, w2, 0, false, [(2, n2)]⟩, 0, rfl, rfl, ⟨rfl, fun x hx => ?_, by simp, Int.le_refl _, fun _ => by show (0 : Int) ≤ 15; decide, by show (0 : Int) ≤ z * w1 + 15; omega⟩, ⟨rfl, fun x hx => ?_, by simp, Int.le_refl _, fun _ => by show (0 : Int) ≤ 15; decide, by show (0 : Int) ≤ z * w2 + 15; omega⟩, .inl ⟨by simp, by simp, rfl, (fun h => by cases h), fun _ => by simp [F12]⟩⟩
  · obtain rfl := List.mem_singleton.1 hx
    exact hn1
  · obtain rfl := List.mem_singleton.1 hx
    exact hn2
/-- What holds between two items that are taken. -/
structure FrP (z w1 w2 : Int) (S : PS) (a b : Int) (L1 L2 : List Int) (k c : Nat) : Prop where
  ids : S.qs.map PQ.id = [1, 2, 3]
  qz : S.quantum = z
  fi : 1 < (itemsOf S 1).length → FI z w1 w2 S a b
  t : totQ S.qs ≤ c
  a : 0 ≤ a ∧ a ≤ 65536 * (k : Int)
  b : 0 ≤ b ∧ b ≤ 65536 * (k : Int)
  l1 : L1.length = k
  l2 : L2.length = k
  r : ∀ (i : Nat) (h1 : i < L1.length) (h2 : i < L2.length), (0 ≤ L1[i] ∧ L1[i] ≤ 65536 * (k : Int)) ∧ (0 ≤ L2[i] ∧ L2[i] ≤ 65536 * (k : Int)) ∧ -(15 * w2) ≤ L1[i] * w2 - L2[i] * w1 ∧ L1[i] * w2 - L2[i] * w1 ≤ z * w1 * w2 + 15 * w1
theorem FrP.push3 {z w1 w2 : Int} {S : PS} {a b : Int} {L1 L2 : List Int} {k c : Nat} (h : FrP z w1 w2 S a b L1 L2 k c) (hS : S.Ok) {n : Int} (hn : 1 ≤ n ∧ n ≤ 16) : FrP z w1 w2 (pushA S (3, n)) a b L1 L2 k (c + 1) := by
  have hm : ((3 : Int), n).1 ∈ S.qs.map PQ.id := by rw [h.ids]; simp
  obtain ⟨h1, h2, h3, h4, h5⟩ := push_items hS hm (show 1 ≤ n ∧ n ≤ 65536 by omega)
  refine ⟨h3.trans h.ids, h5.trans h.qz, fun hl => (h.fi ?_).push hS hm hn, by rw [h4]; have := h.t; omega, h.a, h.b, h.l1, h.l2, h.r⟩
  rw [h2, if_neg (show ¬ (1 : Int) = 3 by decide)] at hl
  exact hl
theorem FrP.next {z w1 w2 : Int} {S S' : PS} {a b : Int} {L1 L2 : List Int} {k c : Nat} {x : Int × Int} (h : FrP z w1 w2 S a b L1 L2 k c) (hS : S.Ok) (ht : Took S S' x) (hw1 : 1 ≤ w1) (hw2 : 1 ≤ w2) (hz : 1 ≤ z) (hl1 : 1 < (itemsOf S 1).length) (hl2 : 1 < (itemsOf S 2).length) :
    FrP z w1 w2 S' (a + add1 x) (b + add2 x) (L1 ++ [a + add1 x]) (L2 ++ [b + add2 x]) (k + 1) c ∧ (0 ≤ x.2 ∧ x.2 ≤ 65536) := by
  obtain ⟨⟨xs, e1, e2⟩, h2, h3, h4, h5⟩ := ht.items hS
  have hz1 := Int.mul_nonneg (show 0 ≤ z by omega) (show 0 ≤ w1 by omega)
  have hz2 := Int.mul_nonneg (show 0 ≤ z by omega) (show 0 ≤ w2 by omega)
  have hfi := FI.took ht hS h.qz hz1 hz2 (h.fi hl1) hl1 hl2
  have hb := hfi.bounds hw1 hw2
  obtain ⟨T, q, rest, xs', hT, hf, hd, hS'⟩ := ht.t
  have hx2 := ((hT.ok hS).q q (getQ_mem hf.g).1).it x (by rw [hf.i]; exact List.mem_cons_self)
  have hq' : S'.quantum = z := by rw [hS']; exact hT.quantum.trans h.qz
  have ha1 : 0 ≤ add1 x ∧ add1 x ≤ 65536 := by unfold add1; split <;> omega
  have ha2 : 0 ≤ add2 x ∧ add2 x ≤ 65536 := by unfold add2; split <;> omega
  have ha := h.a
  have hbb := h.b
  refine ⟨⟨h3.trans h.ids, hq', fun _ => hfi, by have := h.t; omega, ⟨by omega, by push_cast; omega⟩, ⟨by omega, by push_cast; omega⟩, by rw [List.length_append, h.l1]; rfl, by rw [List.length_append, h.l2]; rfl, fun i i1 i2 => ?_⟩, by omega⟩
  have l1 := h.l1
  have l2 := h.l2
  by_cases hi : i < L1.length
  · have hr := h.r i hi (by omega)
    rw [List.getElem_append_left hi, List.getElem_append_left (by omega)]
    refine ⟨⟨hr.1.1, by have := hr.1.2; push_cast; omega⟩, ⟨hr.2.1.1, by have := hr.2.1.2; push_cast; omega⟩, hr.2.2⟩
  · have hik : i = L1.length := by simp at i1; omega
    have g1 : (L1 ++ [a + add1 x])[i] = a + add1 x := by rw [List.getElem_append_right (by omega)]; simp
    have g2 : (L2 ++ [b + add2 x])[i] = b + add2 x := by rw [List.getElem_append_right (by omega)]; simp
    rw [g1, g2]
    exact ⟨⟨by omega, by push_cast; omega⟩, ⟨by omega, by push_cast; omega⟩, hb⟩
/-- Two moments. -/
theorem fair_le {z w1 w2 p1 p2 r1 r2 : Int} (hw1 : 1 ≤ w1) (hw2 : 1 ≤ w2) (h1 : -(15 * w2) ≤ p1 * w2 - r1 * w1 ∧ p1 * w2 - r1 * w1 ≤ z * w1 * w2 + 15 * w1) (h2 : -(15 * w2) ≤ p2 * w2 - r2 * w1 ∧ p2 * w2 - r2 * w1 ≤ z * w1 * w2 + 15 * w1) :
    (p1 - p2) * w2 - (r1 - r2) * w1 ≤ (z + 32) * w1 * w2 ∧ 0 - ((p1 - p2) * w2 - (r1 - r2) * w1) ≤ (z + 32) * w1 * w2 := by
  have e : (z + 32) * w1 * w2 = z * w1 * w2 + 32 * (w1 * w2) := by rw [Int.add_mul, Int.add_mul, Int.mul_assoc 32]
  have a1 : w1 ≤ w1 * w2 := by have := Int.mul_le_mul_of_nonneg_left hw2 (show 0 ≤ w1 by omega); omega
  have a2 : w2 ≤ w1 * w2 := by have := Int.mul_le_mul_of_nonneg_right hw1 (show 0 ≤ w2 by omega); omega
  rw [e, Int.sub_mul, Int.sub_mul]
  omega
end Go.Proofs.Ytgfbhclkpephnaa
