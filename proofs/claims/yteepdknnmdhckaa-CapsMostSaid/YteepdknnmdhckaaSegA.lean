/-
  A slice taken apart (q[:i], q[i:]); append(x, whole...) of possibly no elements, whatever they are. For whatever program.
-/
import Derived.Test.YteepdknnmdhckaaSeg
namespace Go.Proofs.Yteepdknnmdhckaa
open Go.RowKit
set_option linter.unusedVariables false
section
variable {w : World} {base : Nat} {e : TypeId} {size : Nat} {n : Nat} {xs : List Value}
/-- 'q[:i]'. -/
theorem Seg.upto {a : Option Addr} {cap : Nat} (h : Seg w base e size (.slice a n cap) n xs) (i : Nat) (hi : i ≤ n) : Seg w base e size (.slice a i cap) i (xs.take (i * size)) := by
  obtain ⟨h1, h2⟩ := h
  have hle := Nat.mul_le_mul_right size hi
  refine ⟨by rw [List.length_take, h1]; omega, ?_⟩
  rcases h2 with ⟨h0, h3⟩ | ⟨g, off, cap', cur, hv, hg, hh, hn, hc, hs, ht⟩
  · have : i = 0 := by omega
    subst this
    have : n = 0 := h3
    subst this
    exact .inl ⟨h0, rfl⟩
  · cases hv
    refine .inr ⟨g, off, _, cur, rfl, hg, hh, by omega, hc, hs, ?_⟩
    rw [← ht, List.take_take, Nat.min_eq_left hle]
/-- 'q[i:]': behind all that there may be it stays where it was. -/
theorem Seg.from' {g off cap : Nat} (h : Seg w base e size (.slice (some ⟨g, off, none⟩) n cap) n xs) (i : Nat) (hi : i ≤ n) (off' : Nat) (ho : off' = off + i * size ∨ i = cap ∧ off' = off) :
    Seg w base e size (.slice (some ⟨g, off', none⟩) (n - i) (cap - i)) (n - i) (xs.drop (i * size)) := by
  obtain ⟨h1, h2⟩ := h
  have hle := Nat.mul_le_mul_right size hi
  refine ⟨by rw [List.length_drop, h1, Nat.sub_mul], ?_⟩
  rcases h2 with ⟨h0, _⟩ | ⟨g', off2, cap', cur, hv, hg, hh, hn, hc, hs, ht⟩
  · cases h0
  · cases hv
    have hcs : (cap - i) * size = cap * size - i * size := Nat.sub_mul ..
    have hns : (n - i) * size = n * size - i * size := Nat.sub_mul ..
    have h3 := Nat.mul_le_mul_right size hn
    refine .inr ⟨g, off', cap - i, cur, rfl, hg, hh, by omega, by omega, ?_, ?_⟩
    · rcases ho with rfl | ⟨rfl, rfl⟩
      · rw [hcs]; omega
      · have : (i - i) * size = 0 := by rw [Nat.sub_self, Nat.zero_mul]
        omega
    · rcases ho with rfl | ⟨rfl, rfl⟩
      · rw [← ht, List.drop_take, List.drop_drop, hns]
      · have hin : i = n := by omega
        subst hin
        have hx : xs.drop (i * size) = [] := List.drop_of_length_le (by omega)
        rw [hx, Nat.sub_self, Nat.zero_mul]
        rfl
end
/-- A slice that is read: m things of 'size' cells. -/
def RdS (w : World) (size : Nat) (x : Value) (m : Nat) (news : List Value) : Prop :=
  news.length = m * size ∧ ((m = 0 ∧ ∃ a c, x = .slice a 0 c) ∨ ∃ a c, x = .slice (some a) m c ∧ ∀ j u, news[j]? = some u → w.cell? (a.add j) = some u)
theorem Seg.rds {w : World} {base : Nat} {e : TypeId} {size : Nat} {v : Value} {n : Nat} {xs : List Value} (h : Seg w base e size v n xs) : RdS w size v n xs := by
  refine ⟨h.1, ?_⟩
  rcases h.2 with ⟨h0, h1⟩ | ⟨g, off, cap, cur, hv, _⟩
  · exact .inl ⟨h1, none, 0, h0⟩
  · refine .inr ⟨_, _, hv, fun j u hu => ?_⟩
    subst hv
    have hj : j < n * size := by rw [← h.1]; exact (List.getElem?_eq_some_iff.1 hu).1
    have e : (⟨g, off, none⟩ : Addr).add j = ⟨g, off + j, none⟩ := by unfold Addr.add; split <;> simp_all
    rw [e, h.at j hj, hu]
theorem run_loadCells_zero {P : Program} (w : World) (a : Addr) : (loadCells a 0).run P w = .ok #[] w := by
  have := run_loadCells_list (P := P) w a [] (by simp)
  simpa using this
theorem run_append_rds {P : Program} {w : World} (base : Nat) (t ty e : TypeId) (i : TypeInfo) (z : Value) (size bytes : Nat) (ht : P.underlying t = some (.slice e)) (hi : P.info? e = some i) (hz : i.zero = some z)
    (hsize : i.size = size) (hby : i.bytes = bytes) (hzs : z.cells.size = size) (hsz : 0 < size)
    (v : Value) (n : Nat) (xs : List Value) (hown : Seg w base e size v n xs) (x : Value) (m : Nat) (news : List Value) (hx : RdS w size x m news) (h1 : ∀ u ∈ news, u.oneCell' = true)
    (h63 : n + m ≤ maxLen) (hbytes : (n + m) * bytes ≤ 140737488355328) (hbase : base ≤ w.heap.size) :
    ∃ v' w', (Builtin.append_ #[t, t] ty #[v, x]).run P w = .ok v' w' ∧ Seg w' base e size v' (n + m) (xs ++ news) ∧ w.grownBy w' v.ownBlock ∧ (v'.ownBlock = v.ownBlock ∨ ∃ g, v'.ownBlock = some g ∧ w.heap.size ≤ g) := by
  have hsl := ht
  have zero : ∀ a c, x = .slice a 0 c → news = [] → m = 0 → ∃ v' w', (Builtin.append_ #[t, t] ty #[v, x]).run P w = .ok v' w' ∧ Seg w' base e size v' (n + m) (xs ++ news) ∧ w.grownBy w' v.ownBlock ∧ (v'.ownBlock = v.ownBlock ∨ ∃ g, v'.ownBlock = some g ∧ w.heap.size ≤ g) := by
    intro a c hx' hn hm
    subst hx' hn hm
    refine ⟨v, w, ?_, by simpa using hown, ⟨rfl, rfl, rfl, Nat.le_refl _, fun _ _ _ => rfl⟩, .inl rfl⟩
    have hfc : ∀ k, (Builtin.firstCells k 0 (.slice a 0 c)).run P w = .ok #[] w := fun k => by
      cases a with
      | none => simp [Builtin.firstCells]
      | some a =>
        have := run_loadCells_zero (P := P) w a
        simp [Builtin.firstCells, this]
    rcases hown.2 with ⟨rfl, rfl⟩ | ⟨g, off, cap, cur, rfl, _, _, hnc, _⟩
    · simp [Builtin.append_, run_underlying ht, sizeOf, typeInfo, hi, Builtin.lenOf, hfc, Result.andThen]
    · simp [Builtin.append_, run_underlying ht, sizeOf, typeInfo, hi, Builtin.lenOf, hfc, hnc, Result.andThen, storeCells]
  rcases hx.2 with ⟨hm, a, c, hx'⟩ | ⟨a, c, hx', hnews⟩
  · subst hm
    exact zero a c hx' (List.eq_nil_of_length_eq_zero (by simpa using hx.1)) rfl
  · rcases Nat.eq_zero_or_pos m with hm | hm
    · subst hm
      exact zero (some a) c hx' (List.eq_nil_of_length_eq_zero (by simpa using hx.1)) rfl
    · subst hx'
      obtain ⟨g, off, cap, w', hr, h2, h3, h4⟩ := run_append_seg (P := P) w base t ty e i z size bytes ht hi hz hsize hby hzs hsz v n xs hown a m c news hx.1 hnews h1 hm h63 hbytes hbase
      refine ⟨_, w', hr, h2, h3, ?_⟩
      rcases h4 with h4 | h4
      · exact .inl (by rw [h4]; rfl)
      · exact .inr ⟨g, rfl, by omega⟩
theorem wpList_append_rds {P : Program} {w : World} {ops : Array Oper} {rest : List Oper} {o : Oper} {a : Act} {Q : Exit → Act → World → Prop} (hgd : o.guard = none) (s y : Operand) (t : TypeId)
    (ho : o.op = .call { callee := .builtin .append, args := #[s, y], argTypes := #[t, t] })
    (base : Nat) (e : TypeId) (i : TypeInfo) (z : Value) (size bytes : Nat) (ht : P.underlying t = some (.slice e)) (hi : P.info? e = some i) (hz : i.zero = some z)
    (hsize : i.size = size) (hby : i.bytes = bytes) (hzs : z.cells.size = size) (hsz : 0 < size)
    (v : Value) (n : Nat) (xs : List Value) (hs : a.eval s = v) (hown : Seg w base e size v n xs) (x : Value) (m : Nat) (news : List Value) (hy : a.eval y = x) (hx : RdS w size x m news) (h1 : ∀ u ∈ news, u.oneCell' = true)
    (h63 : n + m ≤ maxLen) (hbytes : (n + m) * bytes ≤ 140737488355328) (hbase : base ≤ w.heap.size)
    (h : ∀ v' w', Seg w' base e size v' (n + m) (xs ++ news) → w.grownBy w' v.ownBlock → (v'.ownBlock = v.ownBlock ∨ ∃ g, v'.ownBlock = some g ∧ w.heap.size ≤ g) → wpList P ops Q rest (a.put o.dst v') w') : wpList P ops Q (o :: rest) a w :=
  wpList_plain hgd fun _ hK => by
    obtain ⟨v', w', hr, h2, h3, h4⟩ := run_append_rds (P := P) (w := w) base t o.type e i z size bytes ht hi hz hsize hby hzs hsz v n xs hown x m news hx h1 h63 hbytes hbase
    unfold Oper.wp execOp
    simp only [ho, resolve, invoke, builtin, Sem.run_bind, Sem.run_pure, Result.andThen_ok, List.map_toArray, List.map_cons, List.map_nil, hs, hy, hr]
    exact hK _ _ (h v' w' h2 h3 h4)
end Go.Proofs.Yteepdknnmdhckaa
