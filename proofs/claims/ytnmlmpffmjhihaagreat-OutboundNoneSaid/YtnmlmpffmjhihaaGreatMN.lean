/-
  Merged: A slice taken apart (q[:i], q[i:]); append(x, whole...) of possibly no elements, whatever they are. For whatever program. | A row of cells that is the call's own: a cell is stored; nothing is frozen. For whatever program. | A slice one's own: cells stored in a row, one element more than it shows, copies of elements of any size, an append of zeros. For whatever program. | Numbers that go round (chapter 8): how far ahead, less, within. | Maps as lists of keys and values, in the order in which they were laid: look-up, store, delete, length, range. Over any keys that compare as they read. | Ranging over a map that reads as a list: one entry after the other, in whatever order; the map may lose entries on the way. | What stays in memory where only blocks of some kinds turn. For whatever program.
-/
import Derived.Test.YtnmlmpffmjhihaaGreatMA
import Derived.Lib.AppendZerosOnto
import Derived.Lib.Overlaps
import Derived.Laws.IdiomCopy
import Derived.Laws.AppendOwn
import Derived.Maps.RangeWalk
namespace Go.Proofs.YtnmlmpffmjhihaaGreat
open Go.RowKit
set_option linter.unusedVariables false
section
variable {w : World} {base : Nat} {e : TypeId} {size : Nat} {n : Nat} {xs : List Value}
/-- 'q[:i]'. -/
theorem Seg.upto {a : Option Addr} {cap : Nat} (h : Seg w base e size (.slice a n cap) n xs) (i : Nat) (hi : i ≤ n) : Seg w base e size (.slice a i cap) i (xs.take (i * size)) := by
  obtain ⟨h1, h2⟩ := h
  have hle := Nat.mul_le_mul_right size hi
  refine ⟨by rw [List.length_take, h1]; omega, ?_⟩
  rcases h2 with ⟨h0, h3⟩ | ⟨g, off, cap', cur, hv, hg, hh, hn, hc, hs, ht⟩
  · have : i = 0 := by omega
    subst this
    have : n = 0 := h3
    subst this
    exact .inl ⟨h0, rfl⟩
  · cases hv
    refine .inr ⟨g, off, _, cur, rfl, hg, hh, by omega, hc, hs, ?_⟩
    rw [← ht, List.take_take, Nat.min_eq_left hle]
/-- 'q[i:]': behind all that there may be it stays where it was. -/
theorem Seg.from' {g off cap : Nat} (h : Seg w base e size (.slice (some ⟨g, off, none⟩) n cap) n xs) (i : Nat) (hi : i ≤ n) (off' : Nat) (ho : off' = off + i * size ∨ i = cap ∧ off' = off) :
    Seg w base e size (.slice (some ⟨g, off', none⟩) (n - i) (cap - i)) (n - i) (xs.drop (i * size)) := by
  obtain ⟨h1, h2⟩ := h
  have hle := Nat.mul_le_mul_right size hi
  refine ⟨by rw [List.length_drop, h1, Nat.sub_mul], ?_⟩
  rcases h2 with ⟨h0, _⟩ | ⟨g', off2, cap', cur, hv, hg, hh, hn, hc, hs, ht⟩
  · cases h0
  · cases hv
    have hcs : (cap - i) * size = cap * size - i * size := Nat.sub_mul ..
    have hns : (n - i) * size = n * size - i * size := Nat.sub_mul ..
    have h3 := Nat.mul_le_mul_right size hn
    refine .inr ⟨g, off', cap - i, cur, rfl, hg, hh, by omega, by omega, ?_, ?_⟩
    · rcases ho with rfl | ⟨rfl, rfl⟩
      · rw [hcs]; omega
      · have : (i - i) * size = 0 := by rw [Nat.sub_self, Nat.zero_mul]
        omega
    · rcases ho with rfl | ⟨rfl, rfl⟩
      · rw [← ht, List.drop_take, List.drop_drop, hns]
      · have hin : i = n := by omega
        subst hin
        have hx : xs.drop (i * size) = [] := List.drop_of_length_le (by omega)
        rw [hx, Nat.sub_self, Nat.zero_mul]
        rfl
end
/-- A slice that is read: m things of 'size' cells. -/
def RdS (w : World) (size : Nat) (x : Value) (m : Nat) (news : List Value) : Prop :=
  news.length = m * size ∧ ((m = 0 ∧ ∃ a c, x = .slice a 0 c) ∨ ∃ a c, x = .slice (some a) m c ∧ ∀ j u, news[j]? = some u → w.cell? (a.add j) = some u)
theorem Seg.rds {w : World} {base : Nat} {e : TypeId} {size : Nat} {v : Value} {n : Nat} {xs : List Value} (h : Seg w base e size v n xs) : RdS w size v n xs := by
  refine ⟨h.1, ?_⟩
  rcases h.2 with ⟨h0, h1⟩ | ⟨g, off, cap, cur, hv, _⟩
  · exact .inl ⟨h1, none, 0, h0⟩
  · refine .inr ⟨_, _, hv, fun j u hu => ?_⟩
    subst hv
    have hj : j < n * size := by rw [← h.1]; exact (List.getElem?_eq_some_iff.1 hu).1
    have e : (⟨g, off, none⟩ : Addr).add j = ⟨g, off + j, none⟩ := by unfold Addr.add; split <;> simp_all
    rw [e, h.at j hj, hu]
theorem run_loadCells_zero {P : Program} (w : World) (a : Addr) : (loadCells a 0).run P w = .ok #[] w := by
  have := run_loadCells_list (P := P) w a [] (by simp)
  simpa using this
theorem run_append_rds {P : Program} {w : World} (base : Nat) (t ty e : TypeId) (i : TypeInfo) (z : Value) (size bytes : Nat) (ht : P.underlying t = some (.slice e)) (hi : P.info? e = some i) (hz : i.zero = some z)
    (hsize : i.size = size) (hby : i.bytes = bytes) (hzs : z.cells.size = size) (hsz : 0 < size)
    (v : Value) (n : Nat) (xs : List Value) (hown : Seg w base e size v n xs) (x : Value) (m : Nat) (news : List Value) (hx : RdS w size x m news) (h1 : ∀ u ∈ news, u.oneCell' = true)
    (h63 : n + m ≤ maxLen) (hbytes : (n + m) * bytes ≤ 140737488355328) (hbase : base ≤ w.heap.size) :
    ∃ v' w', (Builtin.append_ #[t, t] ty #[v, x]).run P w = .ok v' w' ∧ Seg w' base e size v' (n + m) (xs ++ news) ∧ w.grownBy w' v.ownBlock ∧ (v'.ownBlock = v.ownBlock ∨ ∃ g, v'.ownBlock = some g ∧ w.heap.size ≤ g) := by
  have hsl := ht
  have zero : ∀ a c, x = .slice a 0 c → news = [] → m = 0 → ∃ v' w', (Builtin.append_ #[t, t] ty #[v, x]).run P w = .ok v' w' ∧ Seg w' base e size v' (n + m) (xs ++ news) ∧ w.grownBy w' v.ownBlock ∧ (v'.ownBlock = v.ownBlock ∨ ∃ g, v'.ownBlock = some g ∧ w.heap.size ≤ g) := by
    intro a c hx' hn hm
    subst hx' hn hm
    refine ⟨v, w, ?_, by simpa using hown, ⟨rfl, rfl, rfl, Nat.le_refl _, fun _ _ _ => rfl⟩, .inl rfl⟩
    have hfc : ∀ k, (Builtin.firstCells k 0 (.slice a 0 c)).run P w = .ok #[] w := fun k => by
      cases a with
      | none => simp [Builtin.firstCells]
      | some a =>
        have := run_loadCells_zero (P := P) w a
        simp [Builtin.firstCells, this]
    rcases hown.2 with ⟨rfl, rfl⟩ | ⟨g, off, cap, cur, rfl, _, _, hnc, _⟩
    · simp [Builtin.append_, run_underlying ht, sizeOf, typeInfo, hi, Builtin.lenOf, hfc, Result.andThen]
    · simp [Builtin.append_, run_underlying ht, sizeOf, typeInfo, hi, Builtin.lenOf, hfc, hnc, Result.andThen, storeCells]
  rcases hx.2 with ⟨hm, a, c, hx'⟩ | ⟨a, c, hx', hnews⟩
  · subst hm
    exact zero a c hx' (List.eq_nil_of_length_eq_zero (by simpa using hx.1)) rfl
  · rcases Nat.eq_zero_or_pos m with hm | hm
    · subst hm
      exact zero (some a) c hx' (List.eq_nil_of_length_eq_zero (by simpa using hx.1)) rfl
    · subst hx'
      obtain ⟨g, off, cap, w', hr, h2, h3, h4⟩ := run_append_seg (P := P) w base t ty e i z size bytes ht hi hz hsize hby hzs hsz v n xs hown a m c news hx.1 hnews h1 hm h63 hbytes hbase
      refine ⟨_, w', hr, h2, h3, ?_⟩
      rcases h4 with h4 | h4
      · exact .inl (by rw [h4]; rfl)
      · exact .inr ⟨g, rfl, by omega⟩
theorem wpList_append_rds {P : Program} {w : World} {ops : Array Oper} {rest : List Oper} {o : Oper} {a : Act} {Q : Exit → Act → World → Prop} (hgd : o.guard = none) (s y : Operand) (t : TypeId)
    (ho : o.op = .call { callee := .builtin .append, args := #[s, y], argTypes := #[t, t] })
    (base : Nat) (e : TypeId) (i : TypeInfo) (z : Value) (size bytes : Nat) (ht : P.underlying t = some (.slice e)) (hi : P.info? e = some i) (hz : i.zero = some z)
    (hsize : i.size = size) (hby : i.bytes = bytes) (hzs : z.cells.size = size) (hsz : 0 < size)
    (v : Value) (n : Nat) (xs : List Value) (hs : a.eval s = v) (hown : Seg w base e size v n xs) (x : Value) (m : Nat) (news : List Value) (hy : a.eval y = x) (hx : RdS w size x m news) (h1 : ∀ u ∈ news, u.oneCell' = true)
    (h63 : n + m ≤ maxLen) (hbytes : (n + m) * bytes ≤ 140737488355328) (hbase : base ≤ w.heap.size)
    (h : ∀ v' w', Seg w' base e size v' (n + m) (xs ++ news) → w.grownBy w' v.ownBlock → (v'.ownBlock = v.ownBlock ∨ ∃ g, v'.ownBlock = some g ∧ w.heap.size ≤ g) → wpList P ops Q rest (a.put o.dst v') w') : wpList P ops Q (o :: rest) a w :=
  wpList_plain hgd fun _ hK => by
    obtain ⟨v', w', hr, h2, h3, h4⟩ := run_append_rds (P := P) (w := w) base t o.type e i z size bytes ht hi hz hsize hby hzs hsz v n xs hown x m news hx h1 h63 hbytes hbase
    unfold Oper.wp execOp
    simp only [ho, resolve, invoke, builtin, Sem.run_bind, Sem.run_pure, Result.andThen_ok, List.map_toArray, List.map_cons, List.map_nil, hs, hy, hr]
    exact hK _ _ (h v' w' h2 h3 h4)
end Go.Proofs.YtnmlmpffmjhihaaGreat
namespace Go.Proofs.YtnmlmpffmjhihaaGreat
open Go Go.RowKit
set_option linter.unusedVariables false
set_option linter.unusedSimpArgs false
section
variable {w : World} {base : Nat} {e : TypeId} {size n g off cap : Nat} {xs : List Value}
theorem heap_set_same {w : World} {g o : Nat} {cur : Array Value} {e : TypeId} (u : Value) (h : w.heap[g]? = some (.cells cur e (0, 0))) : (w.setCell ⟨g, o, none⟩ u).heap[g]? = some (.cells (cur.setIfInBounds o u) e (0, 0)) := by
  have hb : Blk w g cur e := h
  exact Blk.setAt hb o u rfl
theorem Seg.put (h : Seg w base e size (.slice (some ⟨g, off, none⟩) n cap) n xs) (j : Nat) (u : Value) (hj : j < n * size) : Seg (w.setCell ⟨g, off + j, none⟩ u) base e size (.slice (some ⟨g, off, none⟩) n cap) n (xs.set j u) := by
  obtain ⟨h1, h2⟩ := h
  rcases h2 with ⟨h0, _⟩ | ⟨g', off', cap', cur, hv, hg, hh, hn, hc, hs, ht⟩
  · cases h0
  · cases hv
    refine ⟨by rw [List.length_set]; exact h1, .inr ⟨g, off, cap, _, rfl, hg, heap_set_same u hh, hn, hc, by simpa using hs, ?_⟩⟩
    rw [Array.toList_setIfInBounds, ← ht]
    apply List.ext_getElem?
    intro i
    rw [List.getElem?_take, List.getElem?_drop, List.getElem?_set, List.getElem?_set, List.getElem?_take, List.getElem?_drop]
    have hlen : off + j < cur.toList.length := by
      have h3 : ((cur.toList.drop off).take (n * size)).length = n * size := by rw [ht]; exact h1
      rw [List.length_take, List.length_drop] at h3
      omega
    have hlen2 : j < ((cur.toList.drop off).take (n * size)).length := by rw [ht, h1]; exact hj
    by_cases e1 : j = i
    · subst e1
      rw [if_pos hj, if_pos rfl, if_pos hlen, if_pos rfl, if_pos hlen2]
    · rw [if_neg e1]
      by_cases hi : i < n * size
      · rw [if_pos hi, if_neg (by omega), if_pos hi]
      · rw [if_neg hi, if_neg hi]
theorem Seg.free (h : Seg w base e size (.slice (some ⟨g, off, none⟩) n cap) n xs) (o : Nat) : w.frozen? ⟨g, o, none⟩ = false := by
  rcases h.2 with ⟨h0, _⟩ | ⟨g', off', cap', cur, hv, hg, hh, _⟩
  · cases h0
  · cases hv
    simp [World.frozen?, hh]
end
end Go.Proofs.YtnmlmpffmjhihaaGreat
namespace Go.Proofs.YtnmlmpffmjhihaaGreat
open Go Go.RowKit
set_option linter.unusedVariables false
set_option linter.unusedSimpArgs false
section
variable {w : World} {base : Nat} {e : TypeId} {size n g off cap : Nat} {xs : List Value}
theorem set_row (u : Value) (us : List Value) (j : Nat) (hj : j < xs.length) : (xs.set j u).take (j + 1) ++ us ++ (xs.set j u).drop (j + 1 + us.length) = xs.take j ++ (u :: us) ++ xs.drop (j + (u :: us).length) := by
  rw [List.set_eq_take_append_cons_drop, if_pos hj]
  have hl : (xs.take j).length = j := by rw [List.length_take]; omega
  have e1 : (xs.take j ++ u :: xs.drop (j + 1)).take (j + 1) = xs.take j ++ [u] := by
    rw [List.take_append, hl, List.take_of_length_le (by omega)]
    simp
  have e2 : (xs.take j ++ u :: xs.drop (j + 1)).drop (j + 1 + us.length) = xs.drop (j + 1 + us.length) := by
    rw [List.drop_append, hl, List.drop_of_length_le (by omega)]
    have : j + 1 + us.length - j = us.length + 1 := by omega
    rw [this, List.drop_succ_cons, List.drop_drop, List.nil_append]
  rw [e1, e2]
  have : j + (u :: us).length = j + 1 + us.length := by simp; omega
  rw [this]
  simp
theorem Seg.puts : ∀ (us : List Value) (j : Nat) {w : World} {xs : List Value}, Seg w base e size (.slice (some ⟨g, off, none⟩) n cap) n xs → j + us.length ≤ n * size →
    Seg (w.setCells g (off + j) us) base e size (.slice (some ⟨g, off, none⟩) n cap) n (xs.take j ++ us ++ xs.drop (j + us.length))
  | [], j, w, xs, h, _ => by
    have : xs.take j ++ [] ++ xs.drop (j + ([] : List Value).length) = xs := by simp
    rw [this]
    exact h
  | u :: us, j, w, xs, h, hj => by
    have hj' : j + 1 + us.length ≤ n * size := by simp at hj; omega
    have ih := Seg.puts us (j + 1) (h.put j u (by omega)) hj'
    rw [set_row u us j (by rw [h.1]; omega)] at ih
    exact ih
/-- 's[:n+1]' where there is room. -/
theorem Seg.more (h : Seg w base e size (.slice (some ⟨g, off, none⟩) n cap) n xs) (hr : n + 1 ≤ cap) : ∃ ys, ys.length = size ∧ Seg w base e size (.slice (some ⟨g, off, none⟩) (n + 1) cap) (n + 1) (xs ++ ys) := by
  obtain ⟨h1, h2⟩ := h
  rcases h2 with ⟨h0, _⟩ | ⟨g', off', cap', cur, hv, hg, hh, hn, hc, hs, ht⟩
  · cases h0
  · cases hv
    have hm := Nat.mul_le_mul_right size hr
    have hx : (n + 1) * size = n * size + size := Nat.succ_mul n size
    have hlen : ((cur.toList.drop off).drop (n * size)).length = cur.size - (off + n * size) := by simp [Nat.sub_sub]
    refine ⟨((cur.toList.drop off).drop (n * size)).take size, by rw [List.length_take, hlen]; omega, ?_, .inr ⟨g, off, cap, cur, rfl, hg, hh, hr, hc, hs, ?_⟩⟩
    · rw [List.length_append, List.length_take, hlen, h1]; omega
    · rw [hx, List.take_add, ht]
end
section
variable {P : Program}
theorem run_copy_k (w : World) (dT sT ty elem : TypeId) (k m b o dLen dCap : Nat) (a : Addr) (sLen sCap : Nat) (cs : List Value)
    (hu : P.underlying dT = some (.slice elem)) (hs : (P.info? elem).map (·.size) = some k) (hm : m = Nat.min sLen dLen) (hn : cs.length = m * k)
    (hsrc : ∀ j v, cs[j]? = some v → w.cell? (a.add j) = some v) (hc : ∀ j, j < cs.length → (w.cell? ⟨b, o + j, none⟩).isSome = true) (hf : ∀ j, j < cs.length → w.frozen? ⟨b, o + j, none⟩ = false) (h1 : ∀ v ∈ cs, v.oneCell' = true) :
    (Builtin.copy_ #[dT, sT] ty #[.slice (some ⟨b, o, none⟩) dLen dCap, .slice (some a) sLen sCap]).run P w = .ok (goInt m) (w.setCells b o cs) := by
  have hl := run_loadCells_list (P := P) w a cs hsrc
  have hst := run_storeCells_cells (P := P) b o cs 0 w (by simpa using hc) (by simpa using hf) h1
  cases hq : P.info? elem with
  | none => simp [hq] at hs
  | some i =>
    have hi : i.size = k := by simpa [hq] using hs
    simp [Builtin.copy_, run_underlying hu, Builtin.lenOf, Builtin.firstCells, sizeOf, typeInfo, hq, hi, ← hm, ← hn, hl, hst]
theorem wpList_copy_k (w : World) {ops : Array Oper} {rest : List Oper} {o : Oper} {a : Act} {Q : Exit → Act → World → Prop} (hgd : o.guard = none) (d s : Operand) (t t' : TypeId)
    (ho : o.op = .call { callee := .builtin .copy, args := #[d, s], argTypes := #[t, t'] }) (v u : Value) (hd : a.eval d = v) (hs : a.eval s = u) {v' : Value} {w' : World}
    (hr : (Builtin.copy_ #[t, t'] o.type #[v, u]).run P w = .ok v' w') (h : wpList P ops Q rest (a.put o.dst v') w') : wpList P ops Q (o :: rest) a w :=
  wpList_plain hgd fun _ hK => by
    unfold Oper.wp execOp
    simp only [ho, resolve, invoke, builtin, Sem.run_bind, Sem.run_pure, Result.andThen_ok, List.map_toArray, List.map_cons, List.map_nil, hd, hs, hr]
    exact hK _ _ h
theorem step_copy_k {ops : Array Oper} {o : Oper} {a : Act} {w : World} {K : Act → World → Prop} {Q : Exit → Act → World → Prop} {E : Prop}
    (hg : o.guard = none) (d x : Operand) (dT sT : TypeId) (hop : o.op = Op.call { callee := Callee.builtin Builtin.copy, args := #[d, x], argTypes := #[dT, sT] })
    (v u : Value) (hd : a.eval d = v) (hx : a.eval x = u) {v' : Value} {w' : World} (hr : (Builtin.copy_ #[dT, sT] o.type #[v, u]).run P w = .ok v' w') (hK : K (a.put o.dst v') w') :
    if Region.wanted o (yielded ops a.tmps) = true then Oper.wp P o a w K Q else E := by
  have hw : Region.wanted o (yielded ops a.tmps) = true := by simp [Region.wanted, hg]
  rw [if_pos hw]
  unfold Oper.wp
  simp [execOp, hop, resolve, invoke, builtin, hd, hx, hr, Result.andThen]
  exact hK
theorem zeroCells_size (z : Array Value) (k : Nat) : (Builtin.zeroCells z k).size = k * z.size := by simp [Builtin.zeroCells]
/-- 'append(s[:i], make([]T, k)...)' where there is no room. -/
theorem run_append_zeros_seg {w : World} {base : Nat} {e : TypeId} {size n g off cap i k : Nat} {xs : List Value} (t tn ty : TypeId) (i0 : TypeInfo) (z : Value) (bytes : Nat) (ht : P.underlying t = some (.slice e)) (htn : P.underlying tn = some (.int .i64)) (hi0 : P.info? e = some i0) (hz : i0.zero = some z)
    (hsize : i0.size = size) (hby : i0.bytes = bytes) (hzs : z.cells.size = size) (hsz : 0 < size)
    (h : Seg w base e size (.slice (some ⟨g, off, none⟩) n cap) n xs) (hin : i ≤ n) (hk : 0 < k) (hroom : cap < i + k) (h63 : i + k ≤ maxLen) (hbytes : (i + k) * bytes ≤ 140737488355328) :
    ∃ c' ys w', (Builtin.append_ #[t, tn] ty #[.slice (some ⟨g, off, none⟩) i cap, .int .i64 k]).run P w = .ok (.slice (some ⟨w.heap.size, 0, none⟩) (i + k) c') w' ∧ ys.length = k * size ∧
      Seg w' w.heap.size e size (.slice (some ⟨w.heap.size, 0, none⟩) (i + k) c') (i + k) (xs.take (i * size) ++ ys) ∧ Below w.heap.size w w' ∧ w.heap.size < w'.heap.size := by
  subst hsize hby
  have hold : (Builtin.firstCells i0.size i (.slice (some ⟨g, off, none⟩) i cap)).run P w.drew = .ok (xs.take (i * i0.size)).toArray w.drew := by
    have hu := h.upto i hin
    refine run_firstCells_some w.drew i0.size i _ i cap (xs.take (i * i0.size)) hu.1 fun j v hj => ?_
    rcases hu.rds.2 with ⟨_, a, c, he⟩ | ⟨a, c, he, hc⟩
    · have : (xs.take (i * i0.size)).length = i * i0.size := hu.1
      cases he
      rw [Nat.zero_mul] at hj
      simp at hj
    · cases he
      exact hc j v hj
  have hkb : k * i0.bytes ≤ 281474976710656 := by
    have := Nat.mul_le_mul_right i0.bytes (Nat.le_add_left k i)
    omega
  have hr := Lib.run_append_grow_zeros w t tn ty e i0 z .i64 .i64 ht htn hi0 hz (some ⟨g, off, none⟩) i cap _ hold k hk hsz hroom (by unfold maxLen at h63; omega) hkb (growslice_fits hroom hbytes)
  have hG := grownCap_ge w (i + k) cap e
  have hGm := grownCap_le_maxLen w (i + k) cap e h63
  refine ⟨_, (Builtin.zeroCells z.cells k).toList, _, hr, by rw [Array.length_toList, zeroCells_size, hzs], ⟨?_, .inr ⟨w.heap.size, 0, _, _, rfl, Nat.le_refl _, heap_alloc_new _ _, hG, hGm, ?_, ?_⟩⟩, (Below.refl _ _).drew.alloc (Nat.le_refl _) _, ?_⟩
  · rw [List.length_append, Array.length_toList, Array.length_toList, zeroCells_size, hzs, List.size_toArray, (h.upto i hin).1, Nat.add_mul]
  · simp only [Array.size_append, zeroCells_size, hzs, List.size_toArray, (h.upto i hin).1]
    rw [← Nat.add_mul, ← Nat.add_mul, Nat.zero_add]
    exact Nat.mul_le_mul_right _ (by omega)
  · rw [List.drop_zero, Array.toList_append, Array.toList_append, List.take_append_of_le_length ?_, List.take_of_length_le ?_]
    · simp only [List.length_append, Array.length_toList, zeroCells_size, hzs, (h.upto i hin).1]
      rw [Nat.add_mul]; exact Nat.le_refl _
    · simp only [List.length_append, Array.length_toList, zeroCells_size, hzs, (h.upto i hin).1]
      rw [Nat.add_mul]; exact Nat.le_refl _
  · show w.heap.size < (w.heap.push _).size
    simp
end
end Go.Proofs.YtnmlmpffmjhihaaGreat
namespace Go.Proofs.YtnmlmpffmjhihaaGreat
open Go Go.RowKit
set_option linter.unusedVariables false
set_option linter.unusedSimpArgs false
set_option maxRecDepth 100000
set_option maxHeartbeats 1000000
/-- How far b is ahead of a. -/
def ahead (a b : Int) : Int := if (b - a) % 4294967296 < 2147483648 then (b - a) % 4294967296 else (b - a) % 4294967296 - 4294967296
theorem to_any (a b : Int) (w : World) : Calls Tryz.prog 69 #[.int .u32 a, .int .u32 b] w fun e w' => e = .returned (.int .i64 (ahead a b)) ∧ w' = w := by
  have h1 : wrap64 (wrap32 ((b - a) % 4294967296)) = ahead a b := by
    unfold ahead wrap64 wrap32
    split <;> omega
  have H1 := Lib.hid h1
  clear h1
  go_enter Tryz.func69, Tryz.ntmps69
  go_wp2_with fail
  go_ret
  exact ⟨by rw [← H1.out]; rfl, rfl⟩
theorem ahead_any (a b : Int) (w : World) : Calls Tryz.prog 48 #[.int .u32 a, .int .u32 b] w fun e w' => e = .returned (.int .i64 (ahead a b)) ∧ w' = w := by
  have hmf : ∀ (fn : Fn) (first cap : Array Value) (w : World), (Instr.makeFunc fn first cap).run Tryz.prog w = .ok (.func fn first cap) w := fun _ _ _ _ => rfl
  have H := Lib.hid (to_any a b w)
  go_enter Tryz.func48, Tryz.ntmps48
  go_wp2_with fail
  refine H.out.mono ?_
  rintro e w1 ⟨rfl, rfl⟩
  go_wp2_with fail
  go_ret
  exact ⟨rfl, rfl⟩
theorem less_any (a b : Int) (w : World) : Calls Tryz.prog 26 #[.int .u32 a, .int .u32 b] w fun e w' => e = .returned (.bool (decide (0 < ahead a b))) ∧ w' = w := by
  have H := Lib.hid (ahead_any a b w)
  generalize ahead a b = x at *
  go_enter Tryz.func26, Tryz.ntmps26
  go_wp2_with fail
  refine H.out.mono ?_
  rintro e w1 ⟨rfl, rfl⟩
  go_wp2_with fail
  go_ret
  exact ⟨by simp, rfl⟩
theorem within_any (x base n : Int) (w : World) : Calls Tryz.prog 65 #[.int .u32 x, .int .u32 base, .int .i64 n] w fun e w' => e = .returned (.bool (decide (0 ≤ ahead base x) && decide (ahead base x < n))) ∧ w' = w := by
  have H := Lib.hid (ahead_any base x w)
  generalize ahead base x = d at *
  by_cases h1 : 0 ≤ d
  · by_cases h2 : d < n
    · go_enter Tryz.func65, Tryz.ntmps65
      go_wp2_with fail
      refine H.out.mono ?_
      rintro e w1 ⟨rfl, rfl⟩
      go_wp2_with fail
      go_ret
      exact ⟨by simp [h1, h2], rfl⟩
    · go_enter Tryz.func65, Tryz.ntmps65
      go_wp2_with fail
      refine H.out.mono ?_
      rintro e w1 ⟨rfl, rfl⟩
      go_wp2_with fail
      go_ret
      exact ⟨by simp [h1, h2], rfl⟩
  · go_enter Tryz.func65, Tryz.ntmps65
    go_wp2_with fail
    refine H.out.mono ?_
    rintro e w1 ⟨rfl, rfl⟩
    go_wp2_with fail
    go_ret
    exact ⟨by simp; omega, rfl⟩
end Go.Proofs.YtnmlmpffmjhihaaGreat
namespace Go.Proofs.YtnmlmpffmjhihaaGreat
open Go Go.RowKit
open Go.ChangeShapes Go.WideShapes Go.MapKept
open Go.ChangeMaps (setBlock)
set_option linter.unusedVariables false
set_option linter.unusedSectionVars false
section
variable {P : Program} {κ : Type} [DecidableEq κ]
/-- Keys of type K: 'enc' writes one as a value. -/
structure KeyE (P : Program) (K : TypeId) (enc : κ → Value) : Prop where
  check : ∀ (w : World) (em : Bool) (x : κ), (Instr.checkKey em 10000 K (enc x)).run P w = .ok () w
  find0 : ∀ (w : World) (x : κ), (Instr.findKey K (enc x) []).run P w = .ok none w
  find : ∀ (w : World) (x : κ) (es : List MapEntry) (i : Nat), (∀ e ∈ es, ∃ y, e.key = enc y) →
    ((Instr.findKey K (enc x) es).run P w = .ok none w ∧ ∀ e ∈ es, e.key ≠ enc x) ∨ ∃ j e, (Instr.findKey K (enc x) es).run P w = .ok (some (j, e.val)) w ∧ es[j]? = some e ∧ e.key = enc x
  stays : ∀ (w : World) (x : κ), (Instr.keyThatStays (enc x) (enc x)).run P w = .ok (enc x) w
  inj : ∀ x y, enc x = enc y → x = y
theorem KeyE.int {K : TypeId} {q : IntKind} (hk : P.underlying K = some (.int q)) : KeyE P K (Value.int q) where
  check w em x := run_checkKey (d := .int q) hk (k := .int q x) (by simp [IsKey]) em 9999
  find0 w x := by simp [Instr.findKey, run_underlying hk, Instr.findNow]
  find w x es _ hes := by
    have hks : ∀ y ∈ es, IsKey (.int q) y.key := fun y hy => by
      obtain ⟨l, hl⟩ := hes y hy
      rw [hl]; simp [IsKey]
    rcases findNow_spec (k := .int q x) (d := .int q) (by simp [IsKey]) es 0 hks with ⟨h1, h2⟩ | ⟨j, e0, h1, h2, h3⟩
    · exact Or.inl ⟨run_findKey hk h1, h2⟩
    · exact Or.inr ⟨j, e0, by simpa using run_findKey hk h1, h2, h3⟩
  stays w x := run_keyThatStays (d := .int q) (k := .int q x) (by simp [IsKey])
  inj x y h := by cases h; rfl
/-- Keys that are structs: their '==' by a run's equation. -/
theorem KeyE.wide {K : TypeId} {enc : κ → Value} (hwide : (match P.underlying K with | some (.array _ _) | some (.struct _) => true | _ => false) = true)
    (check : ∀ (w : World) (em : Bool) (x : κ), (Instr.checkKey em 10000 K (enc x)).run P w = .ok () w)
    (heq : ∀ (w : World) (x y : κ), (Op.equal K (enc x) (enc y)).run P w = .ok (decide (x = y)) w)
    (stays : ∀ (w : World) (x : κ), (Instr.keyThatStays (enc x) (enc x)).run P w = .ok (enc x) w) (inj : ∀ x y, enc x = enc y → x = y) : KeyE P K enc where
  check := check
  find0 w x := by rw [run_findKey_eq w hwide]; simp [Instr.findAsking]
  find w x es i hes := by
    rw [run_findKey_eq w hwide]
    have key : ∀ (es : List MapEntry) (i : Nat), (∀ e ∈ es, ∃ y, e.key = enc y) →
        ((Instr.findAsking K (enc x) es i).run P w = .ok none w ∧ ∀ e ∈ es, e.key ≠ enc x) ∨ ∃ j e, (Instr.findAsking K (enc x) es i).run P w = .ok (some (i + j, e.val)) w ∧ es[j]? = some e ∧ e.key = enc x := by
      intro es
      induction es with
      | nil => intro i _; exact Or.inl ⟨by simp [Instr.findAsking], by simp⟩
      | cons e es ih =>
        intro i hes
        obtain ⟨y, hy⟩ := hes e (by simp)
        have hr := heq w x y
        by_cases hxy : x = y
        · subst hxy
          refine Or.inr ⟨0, e, ?_, rfl, hy⟩
          rw [decide_eq_true rfl, ← hy] at hr
          rw [← hy]
          simp [Instr.findAsking, hr]
        · rw [decide_eq_false hxy, ← hy] at hr
          rcases ih (i + 1) (fun z hz => hes z (by simp [hz])) with ⟨h1, h2⟩ | ⟨j, e', h1, h2, h3⟩
          · left
            refine ⟨by simp [Instr.findAsking, hr, h1], fun z hz => ?_⟩
            rcases List.mem_cons.1 hz with rfl | hz
            · rw [hy]; exact fun h => hxy (inj _ _ h).symm
            · exact h2 z hz
          · exact Or.inr ⟨j + 1, e', by simp [Instr.findAsking, hr, h1, Nat.add_assoc, Nat.add_comm 1 j], by simpa using h2, h3⟩
    have := key es 0 hes
    simpa using this
  stays := stays
  inj := inj
variable {K E T : TypeId} {enc : κ → Value}
/-- The value at a key. -/
def getM (x : κ) : List (κ × Value) → Option Value
  | [] => none
  | p :: l => if p.1 = x then some p.2 else getM x l
/-- A store: in place, or behind. -/
def putM (x : κ) (v : Value) : List (κ × Value) → List (κ × Value)
  | [] => [(x, v)]
  | p :: l => if p.1 = x then (x, v) :: l else p :: putM x v l
/-- Without a key. -/
def delM (x : κ) (l : List (κ × Value)) : List (κ × Value) := l.filter (fun p => !decide (p.1 = x))
theorem getM_none {x : κ} : ∀ {l : List (κ × Value)}, getM x l = none ↔ ∀ p ∈ l, p.1 ≠ x
  | [] => by simp [getM]
  | p :: l => by
    by_cases h : p.1 = x
    · simp [getM, h]
    · simp [getM, h, getM_none (l := l)]
theorem getM_mem {x : κ} {v : Value} : ∀ {l : List (κ × Value)}, getM x l = some v → (x, v) ∈ l
  | [], h => by cases h
  | p :: l, h => by
    by_cases hp : p.1 = x
    · simp [getM, hp] at h
      subst h; subst hp; simp
    · simp [getM, hp] at h
      exact List.mem_cons_of_mem _ (getM_mem h)
theorem getM_of_mem {x : κ} {v : Value} : ∀ {l : List (κ × Value)}, (l.map Prod.fst).Nodup → (x, v) ∈ l → getM x l = some v
  | [], _, h => by cases h
  | p :: l, hn, h => by
    rw [List.map_cons, List.nodup_cons] at hn
    rcases List.mem_cons.1 h with h | h
    · subst h; simp [getM]
    · have hp : ¬ p.1 = x := fun e => hn.1 (e ▸ List.mem_map.2 ⟨_, h, rfl⟩)
      simp [getM, hp, getM_of_mem hn.2 h]
theorem putM_keys {x : κ} {v : Value} : ∀ {l : List (κ × Value)}, (putM x v l).map Prod.fst = if x ∈ l.map Prod.fst then l.map Prod.fst else l.map Prod.fst ++ [x]
  | [] => by simp [putM]
  | p :: l => by
    by_cases h : p.1 = x
    · simp [putM, h]
    · have h' : ¬ x = p.1 := fun e => h e.symm
      have ih := putM_keys (x := x) (v := v) (l := l)
      by_cases hm : x ∈ l.map Prod.fst
      · rw [if_pos hm] at ih
        simp only [putM, if_neg h, List.map_cons, ih]
        rw [if_pos (List.mem_cons_of_mem _ hm)]
      · rw [if_neg hm] at ih
        simp only [putM, if_neg h, List.map_cons, ih]
        rw [if_neg (by simp only [List.mem_cons, not_or]; exact ⟨h', hm⟩)]
        simp
theorem putM_nodup {x : κ} {v : Value} {l : List (κ × Value)} (h : (l.map Prod.fst).Nodup) : ((putM x v l).map Prod.fst).Nodup := by
  rw [putM_keys]
  split
  · exact h
  · rename_i hx
    rw [List.nodup_append]
    refine ⟨h, by simp, fun a ha b hb => ?_⟩
    rw [List.mem_singleton] at hb
    subst hb
    exact fun e => hx (e ▸ ha)
theorem putM_new {x : κ} {v : Value} : ∀ {l : List (κ × Value)}, (∀ p ∈ l, p.1 ≠ x) → putM x v l = l ++ [(x, v)]
  | [], _ => rfl
  | p :: l, h => by
    have hp : ¬ p.1 = x := h p (by simp)
    simp [putM, hp, putM_new (l := l) (fun q hq => h q (by simp [hq]))]
theorem putM_len {x : κ} {v : Value} (l : List (κ × Value)) : (putM x v l).length ≤ l.length + 1 := by
  induction l with
  | nil => simp [putM]
  | cons p l ih => by_cases h : p.1 = x <;> simp [putM, h]; exact ih
theorem getM_putM {x y : κ} {v : Value} : ∀ {l : List (κ × Value)}, getM y (putM x v l) = if x = y then some v else getM y l
  | [] => by by_cases h : x = y <;> simp [putM, getM, h]
  | p :: l => by
    by_cases h : p.1 = x
    · by_cases hy : x = y
      · simp [putM, getM, h, hy]
      · have h2 : ¬ p.1 = y := fun e => hy (h.symm.trans e)
        rw [if_neg hy]
        simp only [putM, if_pos h, getM, if_neg hy, if_neg h2]
    · by_cases hy : p.1 = y
      · have h2 : ¬ x = y := fun e => h (hy.trans e.symm)
        rw [if_neg h2]
        simp only [putM, if_neg h, getM, if_pos hy]
      · simp only [putM, if_neg h, getM, if_neg hy]
        exact getM_putM (l := l)
theorem delM_nodup {x : κ} {l : List (κ × Value)} (h : (l.map Prod.fst).Nodup) : ((delM x l).map Prod.fst).Nodup :=
  List.Sublist.nodup ((List.filter_sublist).map _) h
theorem delM_self {x : κ} {l : List (κ × Value)} (h : ∀ p ∈ l, p.1 ≠ x) : delM x l = l := List.filter_eq_self.2 (fun p hp => by simp [h p hp])
theorem getM_delM {x y : κ} : ∀ {l : List (κ × Value)}, getM y (delM x l) = if x = y then none else getM y l
  | [] => by simp [delM, getM]
  | p :: l => by
    have ih := getM_delM (x := x) (y := y) (l := l)
    unfold delM at ih ⊢
    by_cases h : p.1 = x
    · rw [List.filter_cons_of_neg (by simp [h]), ih]
      by_cases hy : x = y
      · simp [hy]
      · have : ¬ p.1 = y := fun e => hy (h.symm.trans e)
        simp [getM, hy, this]
    · rw [List.filter_cons_of_pos (by simp [h])]
      by_cases hy : p.1 = y
      · have : ¬ x = y := fun e => h (hy.trans e.symm)
        simp [getM, hy, this]
      · simp [getM, hy, ih]
/-- An entry as a pair. -/
def pairs (enc : κ → Value) (es : List MapEntry) (l : List (κ × Value)) : Prop := es.map (fun e => (e.key, e.val)) = l.map (fun p => (enc p.1, p.2))
/-- Block b is a map that reads as l. -/
def MapW (enc : κ → Value) (w : World) (b : Nat) (l : List (κ × Value)) : Prop :=
  ∃ es clock, w.heap[b]? = some (.map es clock) ∧ pairs enc es.toList l ∧ (l.map Prod.fst).Nodup ∧ (es.toList.map (·.born)).Nodup ∧ ∀ e ∈ es.toList, e.born < clock
theorem MapW.lt {w : World} {b : Nat} {l : List (κ × Value)} (h : MapW enc w b l) : b < w.heap.size := by
  obtain ⟨es, clock, hb, _⟩ := h
  exact (Array.getElem?_eq_some_iff.1 hb).1
theorem MapW.nodup {w : World} {b : Nat} {l : List (κ × Value)} (h : MapW enc w b l) : (l.map Prod.fst).Nodup := by
  obtain ⟨es, clock, hb, _, h, _⟩ := h
  exact h
theorem MapW.same {w w' : World} {b : Nat} {l : List (κ × Value)} (h : MapW enc w b l) (e : w'.heap[b]? = w.heap[b]?) : MapW enc w' b l := by
  obtain ⟨es, clock, hb, r⟩ := h
  exact ⟨es, clock, e.trans hb, r⟩
theorem MapW.only {w w' : World} {b : Nat} {l : List (κ × Value)} {S : List Nat} (h : MapW enc w b l) (ho : Only S w w') (hb : b ∉ S) : MapW enc w' b l := h.same (ho.block b h.lt hb)
theorem MapW.below {w w' : World} {b B : Nat} {l : List (κ × Value)} (h : MapW enc w b l) (ho : Below B w w') (hb : b < B) : MapW enc w' b l := h.same (ho.block b hb)
theorem MapW.chain {w w' : World} {b : Nat} {l : List (κ × Value)} (h : MapW enc w b l) (ho : Below w.heap.size w w') : MapW enc w' b l := h.below ho h.lt
theorem MapW.alloc {w : World} {b : Nat} {l : List (κ × Value)} (h : MapW enc w b l) (o : Obj) : MapW enc (w.alloc o) b l := h.chain ((Below.refl _ _).alloc (Nat.le_refl _) o)
theorem MapW.setCell {w : World} {b : Nat} {l : List (κ × Value)} (h : MapW enc w b l) (a : Addr) (v : Value) (hne : b ≠ a.block) : MapW enc (w.setCell a v) b l := h.same (Below.heap_setCell _ _ _ _ hne)
theorem MapW.new (enc : κ → Value) (w : World) : MapW enc (w.alloc (.map #[] 0)) w.heap.size [] := by
  refine ⟨#[], 0, ?_, rfl, by simp, by simp, by simp⟩
  show (w.heap.push _)[w.heap.size]? = _
  simp
theorem heap_setB {w : World} {b : Nat} {o0 : Obj} (hb : w.heap[b]? = some o0) (o : Obj) : (setBlock w b o).heap[b]? = some o := by
  have := (Array.getElem?_eq_some_iff.1 hb).1
  simp [setBlock, this]
theorem only_setBlock (w : World) (b : Nat) (o : Obj) : Only [b] w (setBlock w b o) :=
  ⟨rfl, rfl, rfl, by simp [setBlock], fun k _ hn => by
    have : b ≠ k := fun e => hn (by simp [e])
    simp [setBlock, this]⟩
theorem pairs_get {es : List MapEntry} {l : List (κ × Value)} (h : pairs enc es l) (i : Nat) : (es[i]?).map (fun e => (e.key, e.val)) = (l[i]?).map (fun p => (enc p.1, p.2)) := by
  have := congrArg (fun z => z[i]?) h
  simpa using this
theorem pairs_keys {es : List MapEntry} {l : List (κ × Value)} (h : pairs enc es l) : ∀ e ∈ es, ∃ y, e.key = enc y := by
  intro e he
  have : (e.key, e.val) ∈ es.map (fun e => (e.key, e.val)) := List.mem_map.2 ⟨e, he, rfl⟩
  rw [h] at this
  obtain ⟨p, _, hp⟩ := List.mem_map.1 this
  exact ⟨p.1, (congrArg Prod.fst hp).symm⟩
theorem pairs_none (H : KeyE P K enc) {es : List MapEntry} {l : List (κ × Value)} (h : pairs enc es l) {x : κ} (hn : ∀ e ∈ es, e.key ≠ enc x) : ∀ p ∈ l, p.1 ≠ x := by
  intro p hp e
  have : (enc p.1, p.2) ∈ l.map (fun p => (enc p.1, p.2)) := List.mem_map.2 ⟨p, hp, rfl⟩
  rw [← h] at this
  obtain ⟨y, hy, he⟩ := List.mem_map.1 this
  exact hn y hy ((congrArg Prod.fst he).trans (by rw [e]))
theorem pairs_some (H : KeyE P K enc) {es : List MapEntry} {l : List (κ × Value)} (h : pairs enc es l) {x : κ} {j : Nat} {e : MapEntry} (hj : es[j]? = some e) (hk : e.key = enc x) : l[j]? = some (x, e.val) := by
  have := pairs_get h j
  rw [hj] at this
  cases hl : l[j]? with
  | none => rw [hl] at this; cases this
  | some p =>
    rw [hl] at this
    simp only [Option.map_some, Option.some.injEq, Prod.mk.injEq] at this
    have h1 := H.inj _ _ (this.1.symm.trans hk)
    rw [← h1, this.2]
/-- 'm[k]', 'v, ok := m[k]'. -/
theorem MapW.look {w : World} {b : Nat} {l : List (κ × Value)} (h : MapW enc w b l) (H : KeyE P K enc) (ht : P.underlying T = some (.map K E)) (x : κ) {z : Value} (hz : (zeroValue E).run P w = .ok z w) (c : Bool) :
    (Instr.lookup T (.map (some b)) (enc x) c).run P w = .ok (if c then .tuple #[(getM x l).getD z, .bool (getM x l).isSome] else (getM x l).getD z) w := by
  obtain ⟨es, clock, hb, hp, hn, _⟩ := h
  rcases H.find w x es.toList 0 (pairs_keys hp) with ⟨h1, h2⟩ | ⟨j, e, h1, h2, h3⟩
  · have hg : getM x l = none := getM_none.2 (pairs_none H hp h2)
    cases c <;> simp [Instr.lookup, run_underlying ht, MapKept.run_getObj_map hb, H.check, h1, hz, hg, Result.andThen]
  · have hg : getM x l = some e.val := getM_of_mem hn (List.mem_of_getElem? (pairs_some H hp h2 h3))
    cases c <;> simp [Instr.lookup, run_underlying ht, MapKept.run_getObj_map hb, H.check, h1, hg, Result.andThen]
theorem look_none {w : World} (H : KeyE P K enc) (ht : P.underlying T = some (.map K E)) (x : κ) {z : Value} (hz : (zeroValue E).run P w = .ok z w) (c : Bool) :
    (Instr.lookup T (.map none) (enc x) c).run P w = .ok (if c then .tuple #[z, .bool false] else z) w := by
  cases c <;> simp [Instr.lookup, run_underlying ht, H.check, H.find0, hz, Result.andThen]
theorem putM_set {x : κ} {v : Value} : ∀ {l : List (κ × Value)} {j : Nat} {u : Value}, (l.map Prod.fst).Nodup → l[j]? = some (x, u) → putM x v l = l.set j (x, v)
  | [], j, u, _, h => by simp at h
  | p :: l, 0, u, _, h => by
    simp at h
    subst h
    simp [putM]
  | p :: l, j + 1, u, hn, h => by
    rw [List.map_cons, List.nodup_cons] at hn
    simp only [List.getElem?_cons_succ] at h
    have hp : ¬ p.1 = x := fun e => hn.1 (e ▸ List.mem_map.2 ⟨_, List.mem_of_getElem? h, rfl⟩)
    simp [putM, hp, putM_set hn.2 h]
/-- 'm[k] = v'. -/
theorem MapW.put {w : World} {b : Nat} {l : List (κ × Value)} (h : MapW enc w b l) (H : KeyE P K enc) (ht : P.underlying T = some (.map K E)) (x : κ) (v : Value) :
    ∃ w', (Instr.mapUpdate T (.map (some b)) (enc x) v).run P w = .ok () w' ∧ MapW enc w' b (putM x v l) ∧ Only [b] w w' := by
  obtain ⟨es, clock, hb, hp, hn, hs, hc⟩ := h
  rcases H.find w x es.toList 0 (pairs_keys hp) with ⟨h1, h2⟩ | ⟨j, e, h1, h2, h3⟩
  · have hl := pairs_none H hp h2
    refine ⟨setBlock w b (.map (es.push ⟨enc x, v, clock⟩) (clock + 1)), by simp [Instr.mapUpdate, run_underlying ht, MapKept.run_getObj_map hb, H.check, h1, MapKept.run_setObj_map _ hb, Result.andThen, setBlock], ⟨es.push ⟨enc x, v, clock⟩, clock + 1, heap_setB hb _, ?_, putM_nodup hn, ?_, ?_⟩, only_setBlock _ _ _⟩
    · rw [putM_new hl]
      unfold pairs at *
      simp [hp]
    · simp only [Array.toList_push, List.map_append, List.map_cons, List.map_nil]
      rw [List.nodup_append]
      refine ⟨hs, by simp, fun a ha y hy => ?_⟩
      obtain ⟨e, he, rfl⟩ := List.mem_map.1 ha
      rw [List.mem_singleton] at hy
      have := hc e he
      omega
    · intro e he
      simp only [Array.toList_push, List.mem_append, List.mem_singleton] at he
      rcases he with he | rfl
      · have := hc e he; omega
      · exact Nat.lt_succ_self _
  · have hj : es[j]? = some e := by simpa using h2
    have hlist : (es.modify j (fun e' => { e' with key := enc x, val := v })).toList = es.toList.set j { e with key := enc x, val := v } := by rw [Array.toList_modify, ChangeMaps.modify_eq_set _ _ _ _ h2]
    refine ⟨setBlock w b (.map (es.modify j (fun e' => { e' with key := enc x, val := v })) clock), ?_, ⟨_, clock, heap_setB hb _, ?_, putM_nodup hn, ?_, ?_⟩, only_setBlock _ _ _⟩
    · simp [Instr.mapUpdate, run_underlying ht, MapKept.run_getObj_map hb, H.check, h1, hj, h3, H.stays, MapKept.run_setObj_map _ hb, Result.andThen, setBlock]
    · rw [putM_set hn (pairs_some H hp h2 h3), hlist]
      unfold pairs at *
      rw [List.map_set, List.map_set, hp]
    · rw [hlist, List.map_set]
      have : (es.toList.map (·.born)).set j e.born = es.toList.map (·.born) := by
        apply List.ext_getElem?
        intro i
        rw [List.getElem?_set]
        split
        · rename_i hi
          subst hi
          simp at h2 ⊢
          rw [h2]
          simp
          exact (Array.getElem?_eq_some_iff.1 h2).1
        · rfl
      simpa [this] using hs
    · intro y hy
      rw [hlist] at hy
      rcases List.mem_or_eq_of_mem_set hy with hy | rfl
      · exact hc y hy
      · exact hc e (List.mem_of_getElem? h2)
theorem delM_erase {x : κ} : ∀ {l : List (κ × Value)} {j : Nat} {u : Value}, (l.map Prod.fst).Nodup → l[j]? = some (x, u) → delM x l = l.eraseIdx j
  | [], j, u, _, h => by simp at h
  | p :: l, 0, u, hn, h => by
    simp at h
    subst h
    rw [List.map_cons, List.nodup_cons] at hn
    have : delM x ((x, u) :: l) = delM x l := by simp [delM]
    rw [this]
    exact delM_self (fun q hq e => hn.1 (e ▸ List.mem_map.2 ⟨_, hq, rfl⟩))
  | p :: l, j + 1, u, hn, h => by
    rw [List.map_cons, List.nodup_cons] at hn
    simp only [List.getElem?_cons_succ] at h
    have hp : ¬ p.1 = x := fun e => hn.1 (e ▸ List.mem_map.2 ⟨_, List.mem_of_getElem? h, rfl⟩)
    have ih := delM_erase hn.2 h
    unfold delM at ih ⊢
    rw [List.filter_cons_of_pos (by simp [hp]), ih]
    rfl
open Classical in
/-- 'delete(m, k)': also what it does to the entries' stamps. -/
theorem MapW.del0 {w : World} {b : Nat} {l : List (κ × Value)} {es : Array MapEntry} {clock : Nat} (hb : w.heap[b]? = some (.map es clock)) (hp : pairs enc es.toList l) (hn : (l.map Prod.fst).Nodup) (H : KeyE P K enc) (ht : P.underlying T = some (.map K E)) (x : κ) (ty : TypeId) :
    ∃ es', (Builtin.delete_ #[T, K] ty #[.map (some b), enc x]).run P w = .ok (.tuple #[]) (setBlock w b (.map es' clock)) ∧ pairs enc es'.toList (delM x l) ∧ es'.toList = es.toList.filter (fun e => !decide (∃ v, (x, v) ∈ l ∧ e.key = enc x)) := by
  classical
  rcases H.find w x es.toList 0 (pairs_keys hp) with ⟨h1, h2⟩ | ⟨j, e, h1, h2, h3⟩
  · refine ⟨es, by simp [Builtin.delete_, run_underlying ht, MapKept.run_getObj_map hb, H.check, h1, MapKept.run_setObj_map _ hb, Result.andThen, setBlock], ?_, ?_⟩
    · rw [delM_self (pairs_none H hp h2)]; exact hp
    · refine (List.filter_eq_self.2 (fun e he => ?_)).symm
      simp only [Bool.not_eq_true', decide_eq_false_iff_not]
      rintro ⟨v, hv, hk⟩
      exact h2 e he hk
  · have hjl : j < es.toList.length := (List.getElem?_eq_some_iff.1 h2).1
    have hjs : j < es.size := by simpa using hjl
    have hsub : (es.eraseIdxIfInBounds j).toList = es.toList.eraseIdx j := by
      unfold Array.eraseIdxIfInBounds
      rw [dif_pos hjs]
      simp
    have hl := pairs_some H hp h2 h3
    have hde := delM_erase hn hl
    have hpe : pairs enc (es.toList.eraseIdx j) (delM x l) := by
      rw [hde]
      unfold pairs at *
      rw [ChangeMaps.map_eraseIdx, ChangeMaps.map_eraseIdx, hp]
    refine ⟨es.eraseIdxIfInBounds j, by simp [Builtin.delete_, run_underlying ht, MapKept.run_getObj_map hb, H.check, h1, MapKept.run_setObj_map _ hb, Result.andThen, setBlock], by rw [hsub]; exact hpe, ?_⟩
    rw [hsub]
    refine (ChangeMaps.filter_eq_eraseIdx (fun y : MapEntry => decide (∃ v, (x, v) ∈ l ∧ y.key = enc x)) es.toList j e h2 ?_ ?_).symm
    · exact decide_eq_true ⟨_, List.mem_of_getElem? hl, h3⟩
    · have hk : (es.toList.map (·.key)).Nodup := by
        have e1 : es.toList.map (·.key) = (l.map Prod.fst).map enc := by
          have := congrArg (List.map Prod.fst) hp
          simpa [Function.comp_def] using this
        rw [e1]
        exact List.Pairwise.map _ (fun a b hab hf => hab (H.inj _ _ hf)) hn
      rw [List.pairwise_iff_getElem] 
      intro i k hi hk' hik h4
      obtain ⟨h4, h5⟩ := h4
      simp only [decide_eq_true_eq] at h4 h5
      obtain ⟨_, _, h4⟩ := h4
      obtain ⟨_, _, h5⟩ := h5
      have := (List.pairwise_iff_getElem.1 hk) i k (by simpa using hi) (by simpa using hk') hik
      simp at this h4 h5
      exact this (h4.trans h5.symm)
theorem MapW.del {w : World} {b : Nat} {l : List (κ × Value)} (h : MapW enc w b l) (H : KeyE P K enc) (ht : P.underlying T = some (.map K E)) (x : κ) :
    ∃ w', (∀ ty, (Builtin.delete_ #[T, K] ty #[.map (some b), enc x]).run P w = .ok (.tuple #[]) w') ∧ MapW enc w' b (delM x l) ∧ Only [b] w w' := by
  classical
  obtain ⟨es, clock, hb, hp, hn, hs, hc⟩ := h
  obtain ⟨es', hrun, hp', he⟩ := MapW.del0 hb hp hn H ht x 0
  refine ⟨_, fun ty => hrun, ⟨es', clock, heap_setB hb _, hp', delM_nodup hn, ?_, fun e hm => ?_⟩, only_setBlock _ _ _⟩
  · rw [he]; exact List.Sublist.nodup ((List.filter_sublist).map _) hs
  · rw [he] at hm; exact hc e (List.mem_filter.1 hm).1
/-- 'len(m)'. -/
theorem MapW.len {w : World} {b : Nat} {l : List (κ × Value)} (h : MapW enc w b l) (ht : P.underlying T = some (.map K E)) : ∀ ty, (Builtin.len_ #[T] ty #[.map (some b)]).run P w = .ok (.int .i64 (l.length : Nat)) w := by
  intro ty
  obtain ⟨es, clock, hb, hp, _⟩ := h
  have e1 : es.size = l.length := by
    have := congrArg List.length hp
    simpa using this
  simp [Builtin.len_, run_underlying ht, MapKept.run_getObj_map hb, goInt, Result.andThen, e1]
end
end Go.Proofs.YtnmlmpffmjhihaaGreat
namespace Go.Proofs.YtnmlmpffmjhihaaGreat
open Go Go.RowKit
open Go.ChangeShapes Go.WideShapes Go.MapKept
open Go.ChangeMaps (setBlock)
set_option linter.unusedVariables false
set_option linter.unusedSectionVars false
section
variable {P : Program} {κ : Type} [DecidableEq κ] {K E T : TypeId} {enc : κ → Value}
theorem pairs_cons {e : MapEntry} {es : List MapEntry} {p : κ × Value} {l : List (κ × Value)} : pairs enc (e :: es) (p :: l) ↔ (e.key = enc p.1 ∧ e.val = p.2) ∧ pairs enc es l := by
  unfold pairs; simp
theorem pairs_filter {p : MapEntry → Bool} {q : κ × Value → Bool} : ∀ {es : List MapEntry} {l : List (κ × Value)}, pairs enc es l → (∀ e ∈ es, ∀ y ∈ l, e.key = enc y.1 → p e = q y) → pairs enc (es.filter p) (l.filter q)
  | [], [], _, _ => rfl
  | [], _ :: _, h, _ => by unfold pairs at h; simp at h
  | _ :: _, [], h, _ => by unfold pairs at h; simp at h
  | e :: es, y :: l, h, hpq => by
    obtain ⟨⟨h1, h2⟩, h3⟩ := pairs_cons.1 h
    have ih := pairs_filter h3 (fun e he y hy => hpq e (by simp [he]) y (by simp [hy]))
    have := hpq e (by simp) y (by simp) h1
    by_cases hp : p e
    · rw [List.filter_cons_of_pos hp, List.filter_cons_of_pos (by rw [← this]; exact hp)]
      exact pairs_cons.2 ⟨⟨h1, h2⟩, ih⟩
    · rw [List.filter_cons_of_neg hp, List.filter_cons_of_neg (by rw [← this]; exact hp)]
      exact ih
theorem pairs_keynd (H : KeyE P K enc) {es : List MapEntry} {l : List (κ × Value)} (h : pairs enc es l) (hn : (l.map Prod.fst).Nodup) : (es.map (·.key)).Nodup := by
  have e1 : es.map (·.key) = (l.map Prod.fst).map enc := by
    have := congrArg (List.map Prod.fst) h
    simpa [Function.comp_def] using this
  rw [e1]
  exact List.Pairwise.map _ (fun a b hab hf => hab (H.inj _ _ hf)) hn
theorem key_inj {l : List MapEntry} (hn : (l.map (·.key)).Nodup) : ∀ {x e : MapEntry}, x ∈ l → e ∈ l → x.key = e.key → x = e := by
  induction l with
  | nil => intro x e hx; cases hx
  | cons y l ih =>
    intro x e hx he h
    rw [List.map_cons, List.nodup_cons] at hn
    rcases List.mem_cons.1 hx with hx' | hx' <;> rcases List.mem_cons.1 he with he' | he'
    · rw [hx', he']
    · exact absurd (List.mem_map.2 ⟨e, he', by rw [← h, hx']⟩) hn.1
    · exact absurd (List.mem_map.2 ⟨x, hx', by rw [h, he']⟩) hn.1
    · exact ih hn.2 hx' he' h
/-- Block r ranges over the map in block b, which reads as l; 'rest' is still to come. -/
def RngW (enc : κ → Value) (w : World) (r b : Nat) (l rest : List (κ × Value)) : Prop :=
  ∃ (es : Array MapEntry) (clock since : Nat) (seen : Array Nat) (c0 : Nat), w.heap[r]? = some (.mapIter (some b) since seen c0) ∧ w.heap[b]? = some (.map es clock) ∧ pairs enc es.toList l ∧ (l.map Prod.fst).Nodup ∧ (es.toList.map (·.born)).Nodup ∧
    (∀ e ∈ es.toList, e.born < since) ∧ since ≤ c0 ∧ since ≤ clock ∧ pairs enc (leftOf es seen).toList rest
theorem RngW.map {w : World} {r b : Nat} {l rest : List (κ × Value)} (h : RngW enc w r b l rest) : MapW enc w b l := by
  obtain ⟨es, clock, since, seen, c0, hr, hb, hp, hn, hs, ho, _, hc, _⟩ := h
  exact ⟨es, clock, hb, hp, hn, hs, fun e he => Nat.lt_of_lt_of_le (ho e he) hc⟩
theorem RngW.lt {w : World} {r b : Nat} {l rest : List (κ × Value)} (h : RngW enc w r b l rest) : r < w.heap.size := by
  obtain ⟨es, clock, since, seen, c0, hr, _⟩ := h
  exact (Array.getElem?_eq_some_iff.1 hr).1
theorem RngW.ne {w : World} {r b : Nat} {l rest : List (κ × Value)} (h : RngW enc w r b l rest) : r ≠ b := by
  obtain ⟨es, clock, since, seen, c0, hr, hb, _⟩ := h
  intro e
  rw [e, hb] at hr
  cases hr
theorem RngW.same {w w' : World} {r b : Nat} {l rest : List (κ × Value)} (h : RngW enc w r b l rest) (e1 : w'.heap[r]? = w.heap[r]?) (e2 : w'.heap[b]? = w.heap[b]?) : RngW enc w' r b l rest := by
  obtain ⟨es, clock, since, seen, c0, hr, hb, hx⟩ := h
  exact ⟨es, clock, since, seen, c0, e1.trans hr, e2.trans hb, hx⟩
theorem RngW.only {w w' : World} {r b : Nat} {l rest : List (κ × Value)} {S : List Nat} (h : RngW enc w r b l rest) (ho : Only S w w') (hr : r ∉ S) (hb : b ∉ S) : RngW enc w' r b l rest :=
  h.same (ho.block r h.lt hr) (ho.block b h.map.lt hb)
theorem RngW.chain {w w' : World} {r b : Nat} {l rest : List (κ × Value)} (h : RngW enc w r b l rest) (ho : Below w.heap.size w w') : RngW enc w' r b l rest := h.same (ho.block r h.lt) (ho.block b h.map.lt)
/-- 'range m'. -/
theorem MapW.range {w : World} {b : Nat} {l : List (κ × Value)} (h : MapW enc w b l) (ht : P.underlying T = some (.map K E)) :
    ∃ w', (Instr.range T (.map (some b))).run P w = .ok (.pointer (some ⟨w.heap.size, 0, none⟩)) w' ∧ RngW enc w' w.heap.size b l l ∧ Below w.heap.size w w' := by
  obtain ⟨es, clock, hb, hp, hn, hs, hc⟩ := h
  refine ⟨_, run_range_map w T K E b es clock ht hb, ⟨es, clock, clock, #[], clock, heap_alloc_new _ _, ?_, hp, hn, hs, hc, Nat.le_refl _, Nat.le_refl _, ?_⟩, (Below.refl _ _).alloc (Nat.le_refl _) _⟩
  · rw [heap_alloc_old _ _ (Array.getElem?_eq_some_iff.1 hb).1]; exact hb
  · have : leftOf es #[] = es := by unfold leftOf; simp
    rw [this]; exact hp
/-- One step: nothing is left, or some entry comes. -/
theorem RngW.next (H : KeyE P K enc) {w : World} {r b : Nat} {l rest : List (κ × Value)} (h : RngW enc w r b l rest) :
    (rest = [] ∧ ∀ ty, (Instr.next (.pointer (some ⟨r, 0, none⟩)) false ty).run P w = .ok (.tuple #[.bool false]) w) ∨
    ∃ p ∈ rest, ∃ w', (∀ ty, (Instr.next (.pointer (some ⟨r, 0, none⟩)) false ty).run P w = .ok (.tuple #[.bool true, enc p.1, p.2]) w') ∧ (Instr.entry (.pointer (some ⟨r, 0, none⟩))).run P w' = .ok (.tuple #[enc p.1, p.2]) w' ∧ RngW enc w' r b l (delM p.1 rest) ∧ Only [r] w w' ∧ p ∈ l := by
  have hne := h.ne
  obtain ⟨es, clock, since, seen, c0, hr, hb, hp, hn, hs, ho, hsc, hcl, hrest⟩ := h
  rcases run_next_at (P := P) w 0 r b since c0 seen es clock hr hb ho hsc with ⟨h0, hrun⟩ | ⟨e, he, w1, hw1, hrun⟩
  · left
    refine ⟨?_, fun ty => hrun⟩
    have := congrArg List.length hrest
    simp [h0] at this
    exact List.length_eq_zero_iff.1 this.symm
  · right
    obtain ⟨hm, hsn⟩ := mem_left he
    obtain ⟨i, hi, hie⟩ := List.getElem_of_mem he
    have hg := pairs_get hrest i
    rw [List.getElem?_eq_getElem hi, hie] at hg
    obtain ⟨p, hpi, hpe⟩ : ∃ p, rest[i]? = some p ∧ (e.key, e.val) = (enc p.1, p.2) := by
      cases hq : rest[i]? with
      | none => rw [hq] at hg; cases hg
      | some p => rw [hq] at hg; exact ⟨p, rfl, by simpa using hg⟩
    have hkey : e.key = enc p.1 := congrArg Prod.fst hpe
    have hval : e.val = p.2 := congrArg Prod.snd hpe
    have hw1b : w1.heap[b]? = some (.map es clock) := by rcases hw1 with rfl | rfl <;> exact hb
    have hw1r : w1.heap[r]? = some (.mapIter (some b) since seen c0) := by rcases hw1 with rfl | rfl <;> exact hr
    have hw2b : (setBlock w1 r (.mapIter (some b) since (seen.push e.born) clock)).heap[b]? = some (.map es clock) := by
      rw [(only_setBlock w1 r _).block b (Array.getElem?_eq_some_iff.1 hw1b).1 (by simp [hne.symm])]; exact hw1b
    have hw2r := heap_setB hw1r (.mapIter (some b) since (seen.push e.born) clock)
    have hnk := pairs_keynd H hp hn
    have hpl : p ∈ l := by
      obtain ⟨j, hj, hje⟩ := List.getElem_of_mem hm
      have := pairs_some H hp (j := j) (by rw [List.getElem?_eq_getElem hj, hje]) hkey
      have hx := List.mem_of_getElem? this
      rwa [hval] at hx
    refine ⟨p, List.mem_of_getElem? hpi, _, fun ty => by rw [← hkey, ← hval]; exact hrun, by rw [← hkey, ← hval]; exact run_entry_at _ r b since seen es clock e hw2r hw2b hm hs, ⟨es, clock, since, seen.push e.born, clock, hw2r, hw2b, hp, hn, hs, ho, hcl, hcl, ?_⟩, ?_, hpl⟩
    · have e1 : (leftOf es (seen.push e.born)).toList = (leftOf es seen).toList.filter (fun y => !(y.born == e.born)) := by
        unfold leftOf
        rw [Array.toList_filter, Array.toList_filter, List.filter_filter]
        refine List.filter_congr (fun y _ => ?_)
        rw [contains_push]
        cases seen.contains y.born <;> cases (y.born == e.born) <;> rfl
      rw [e1]
      refine pairs_filter hrest (fun y hy z hz hk => ?_)
      have hym := (mem_left hy).1
      by_cases hb' : y.born = e.born
      · have := born_inj hs hym hm hb'
        subst this
        have := H.inj _ _ (hk.symm.trans hkey)
        simp [this]
      · have : ¬ z.1 = p.1 := fun ez => by
          have : y = e := key_inj hnk hym hm (by rw [hk, hkey, ez])
          exact hb' (by rw [this])
        simp [hb', this]
    · have h1 : Only [r] w w1 := by rcases hw1 with rfl | rfl; exact Only.refl _ _; exact (Only.refl _ _).drew
      exact h1.trans (only_setBlock _ _ _)
/-- A key is deleted on the way. -/
theorem RngW.del {w : World} {r b : Nat} {l rest : List (κ × Value)} (h : RngW enc w r b l rest) (H : KeyE P K enc) (ht : P.underlying T = some (.map K E)) (x : κ) :
    ∃ w', (∀ ty, (Builtin.delete_ #[T, K] ty #[.map (some b), enc x]).run P w = .ok (.tuple #[]) w') ∧ RngW enc w' r b (delM x l) (delM x rest) ∧ Only [b] w w' := by
  classical
  have hne := h.ne
  obtain ⟨es, clock, since, seen, c0, hr, hb, hp, hn, hs, ho, hsc, hcl, hrest⟩ := h
  obtain ⟨es', hrun, hp', he⟩ := MapW.del0 hb hp hn H ht x 0
  have hnk := pairs_keynd H hp hn
  have hsub : ∀ e ∈ es'.toList, e ∈ es.toList := fun e hm => by rw [he] at hm; exact (List.mem_filter.1 hm).1
  have hw2r : (setBlock w b (.map es' clock)).heap[r]? = some (.mapIter (some b) since seen c0) := by
    rw [(only_setBlock w b _).block r (Array.getElem?_eq_some_iff.1 hr).1 (by simp [hne])]; exact hr
  refine ⟨_, fun ty => hrun, ⟨es', clock, since, seen, c0, hw2r, heap_setB hb _, hp', delM_nodup hn, ?_, fun e hm => ho e (hsub e hm), hsc, hcl, ?_⟩, only_setBlock _ _ _⟩
  · rw [he]; exact List.Sublist.nodup ((List.filter_sublist).map _) hs
  · have e1 : (leftOf es' seen).toList = (leftOf es seen).toList.filter (fun e => !decide (∃ v, (x, v) ∈ l ∧ e.key = enc x)) := by
      unfold leftOf
      rw [Array.toList_filter, Array.toList_filter, he, List.filter_filter, List.filter_filter]
      refine List.filter_congr (fun y _ => ?_)
      cases seen.contains y.born <;> cases decide (∃ v, (x, v) ∈ l ∧ y.key = enc x) <;> rfl
    rw [e1]
    unfold delM
    refine pairs_filter hrest (fun y hy z hz hk => ?_)
    by_cases hz' : z.1 = x
    · have : ∃ v, (x, v) ∈ l ∧ y.key = enc x := by
        obtain ⟨j, hj, hje⟩ := List.getElem_of_mem (mem_left hy).1
        have hx : y.key = enc x := by rw [hk, hz']
        have := pairs_some H hp (j := j) (by rw [List.getElem?_eq_getElem hj, hje]) hx
        exact ⟨_, List.mem_of_getElem? this, hx⟩
      simp [hz', this]
    · have : ¬ ∃ v, (x, v) ∈ l ∧ y.key = enc x := fun ⟨_, _, h2⟩ => hz' (H.inj _ _ (hk.symm.trans h2))
      simp [hz', this]
end
end Go.Proofs.YtnmlmpffmjhihaaGreat
namespace Go.Proofs.YtnmlmpffmjhihaaGreat
open Go Go.RowKit
set_option linter.unusedVariables false
set_option linter.unusedSimpArgs false
set_option maxRecDepth 100000
set_option maxHeartbeats 1000000
/-- What kind of thing a block is: cells of a type, or no cells. -/
def kindB (w : World) (b : Nat) : Option (Option TypeId) := (w.heap[b]?).map fun o => match o with | .cells _ t _ => some t | _ => none
theorem Blk.kind {w : World} {b : Nat} {cs : Array Value} {t : TypeId} (h : Blk w b cs t) : kindB w b = some (some t) := by unfold Blk at h; unfold kindB; rw [h]; rfl
theorem MapW.kind {κ : Type} {enc : κ → Value} {w : World} {b : Nat} {l : List (κ × Value)} (h : MapW enc w b l) : kindB w b = some none := by
  obtain ⟨es, clock, hm, _⟩ := h
  unfold kindB; rw [hm]; rfl
theorem Seg.kind {w : World} {base g off cap n : Nat} {e : TypeId} {size : Nat} {xs : List Value} (h : Seg w base e size (.slice (some ⟨g, off, none⟩) n cap) n xs) : kindB w g = some (some e) := by
  rcases h.2 with ⟨h0, _⟩ | ⟨g', off', cap', cur, hv, hg, hh, _⟩
  · cases h0
  · cases hv
    unfold kindB; rw [hh]; rfl
theorem kindB.lt {w : World} {b : Nat} {k : Option TypeId} (h : kindB w b = some k) : b < w.heap.size := by
  unfold kindB at h
  cases hb : w.heap[b]? with
  | none => rw [hb] at h; cases h
  | some o => exact (Array.getElem?_eq_some_iff.1 hb).1
/-- Nothing that was there has turned but blocks of these kinds, each of them one of Ow's. -/
def Turn (Ow : Nat → Prop) (K : List (Option TypeId)) (w w' : World) : Prop := ∃ S, Only S w w' ∧ ∀ b ∈ S, Ow b ∧ ∃ k ∈ K, kindB w b = some k
theorem Turn.refl (Ow : Nat → Prop) (K : List (Option TypeId)) (w : World) : Turn Ow K w w := ⟨[], Only.refl _ _, by simp⟩
theorem Turn.of_below {Ow : Nat → Prop} {K : List (Option TypeId)} {w w' : World} (h : Below w.heap.size w w') : Turn Ow K w w' := ⟨[], Only.of_below h, by simp⟩
theorem Turn.one {Ow : Nat → Prop} {K : List (Option TypeId)} {w w' : World} {b : Nat} {k : Option TypeId} (h : Only [b] w w') (hb : Ow b) (hk : kindB w b = some k) (hK : k ∈ K) : Turn Ow K w w' := ⟨[b], h, fun x hx => by rw [List.mem_singleton.1 hx]; exact ⟨hb, k, hK, hk⟩⟩
theorem Turn.mono {Ow : Nat → Prop} {K K' : List (Option TypeId)} {w w' : World} (h : Turn Ow K w w') (hK : ∀ k ∈ K, k ∈ K') : Turn Ow K' w w' := by
  obtain ⟨S, h1, h2⟩ := h
  exact ⟨S, h1, fun b hb => ⟨(h2 b hb).1, (h2 b hb).2.imp fun k hk => ⟨hK k hk.1, hk.2⟩⟩⟩
theorem Turn.size {Ow : Nat → Prop} {K : List (Option TypeId)} {w w' : World} (h : Turn Ow K w w') : w.heap.size ≤ w'.heap.size := by
  obtain ⟨S, h1, _⟩ := h
  exact h1.size
theorem Turn.trans {Ow : Nat → Prop} {K : List (Option TypeId)} {a b c : World} (h : Turn Ow K a b) (k : Turn Ow K b c) : Turn Ow K a c := by
  obtain ⟨S, h1, h2⟩ := h
  obtain ⟨T, h3, h4⟩ := k
  refine ⟨S ++ T.filter (fun x => decide (x < a.heap.size) && !decide (x ∈ S)), (h1.mono (fun x hx => .inl (List.mem_append_left _ hx))).trans' h3 (fun x hx => ?_), fun x hx => ?_⟩
  · by_cases hl : x < a.heap.size
    · by_cases hs : x ∈ S
      · exact .inl (List.mem_append_left _ hs)
      · exact .inl (List.mem_append_right _ (List.mem_filter.2 ⟨hx, by simp [hl, hs]⟩))
    · exact .inr (by omega)
  · rcases List.mem_append.1 hx with hx | hx
    · exact h2 x hx
    · obtain ⟨hx, hd⟩ := List.mem_filter.1 hx
      simp at hd
      obtain ⟨h5, q, hq, h6⟩ := h4 x hx
      refine ⟨h5, q, hq, ?_⟩
      unfold kindB at h6 ⊢
      rw [← h1.block x hd.1 hd.2]
      exact h6
theorem Turn.step {Ow : Nat → Prop} {K : List (Option TypeId)} {a b c : World} (h : Turn Ow K a b) (k : Below b.heap.size b c) : Turn Ow K a c := h.trans (Turn.of_below k)
theorem Turn.heap {Ow : Nat → Prop} {K : List (Option TypeId)} {w w' : World} (h : Turn Ow K w w') {b : Nat} {k : Option TypeId} (hk : kindB w b = some k) (hK : k ∉ K) : w'.heap[b]? = w.heap[b]? := by
  obtain ⟨S, h1, h2⟩ := h
  refine h1.block b (kindB.lt hk) fun hm => ?_
  obtain ⟨_, q, hq, h3⟩ := h2 b hm
  rw [hk] at h3
  cases h3
  exact hK hq
theorem Turn.blk {Ow : Nat → Prop} {K : List (Option TypeId)} {w w' : World} (h : Turn Ow K w w') {b : Nat} {cs : Array Value} {t : TypeId} (hb : Blk w b cs t) (hK : some t ∉ K) : Blk w' b cs t := by
  have := h.heap hb.kind hK
  unfold Blk at *
  rw [this]; exact hb
theorem Turn.map {Ow : Nat → Prop} {K : List (Option TypeId)} {w w' : World} (h : Turn Ow K w w') {κ : Type} [DecidableEq κ] {enc : κ → Value} {b : Nat} {l : List (κ × Value)} (hb : MapW enc w b l) (hK : none ∉ K) : MapW enc w' b l := hb.same (h.heap hb.kind hK)
theorem Turn.seg {Ow : Nat → Prop} {K : List (Option TypeId)} {w w' : World} (h : Turn Ow K w w') {base' n : Nat} {e : TypeId} {size : Nat} {v : Value} {xs : List Value} (hs : Seg w base' e size v n xs) (hK : some e ∉ K) : Seg w' base' e size v n xs := by
  refine hs.same fun g hg => ?_
  rcases hs.2 with ⟨hv, _⟩ | ⟨g', off, cap, cur, hv, _, hh, _⟩
  · rw [hv] at hg; cases hg
  · rw [hv] at hg
    obtain rfl : g' = g := by simpa [Value.ownBlock] using hg
    exact h.heap (k := some e) (by unfold kindB; rw [hh]; rfl) hK
theorem Turn.below {Ow : Nat → Prop} {K : List (Option TypeId)} {w w' : World} (h : Turn Ow K w w') {base : Nat} (hD : ∀ b, Ow b → base ≤ b) (hb : base ≤ w.heap.size) : Below base w w' := by
  obtain ⟨S, h1, h2⟩ := h
  exact h1.below hb (fun x hx => hD x (h2 x hx).1)
/-- What is not Ow's stays. -/
theorem Turn.else' {Ow : Nat → Prop} {K : List (Option TypeId)} {w w' : World} (h : Turn Ow K w w') {b : Nat} (hb : b < w.heap.size) (hD : ¬ Ow b) : w'.heap[b]? = w.heap[b]? := by
  obtain ⟨S, h1, h2⟩ := h
  exact h1.block b hb fun hm => hD (h2 b hm).1
theorem Turn.wide {Ow E : Nat → Prop} {K : List (Option TypeId)} {w w' : World} (h : Turn Ow K w w') (hE : ∀ b, Ow b → E b) : Turn E K w w' := by
  obtain ⟨S, h1, h2⟩ := h
  exact ⟨S, h1, fun b hb => ⟨hE b (h2 b hb).1, (h2 b hb).2⟩⟩
theorem Turn.only1 {Ow : Nat → Prop} {K : List (Option TypeId)} {w w' : World} {b : Nat} {cs : Array Value} {t : TypeId} (h : Only [b] w w') (hb : Ow b) (hk : Blk w b cs t) (hK : some t ∈ K) : Turn Ow K w w' := Turn.one h hb hk.kind hK
theorem Turn.fresh {Ow : Nat → Prop} {K : List (Option TypeId)} {a b c : World} {x : Nat} (h : Turn Ow K a b) (k : Only [x] b c) (hx : a.heap.size ≤ x) : Turn Ow K a c := by
  obtain ⟨S, h1, h2⟩ := h
  exact ⟨S, h1.trans' k (fun y hy => .inr (by rw [List.mem_singleton.1 hy]; exact hx)), h2⟩
theorem only_two (w : World) (b : Nat) (u v : Value) : Only [b] w ((w.setCell ⟨b, 0, none⟩ u).setCell ⟨b, 1, none⟩ v) := ((Only.refl _ _).setCell _ _ (.inl (by simp))).setCell _ _ (.inl (by simp))
theorem Turn.own {Ow : Nat → Prop} {w w' : World} {base n size : Nat} {e : TypeId} {v : Value} {xs : List Value} (h : Seg w base e size v n xs) (hD : ∀ g, v.ownBlock = some g → Ow g) (ho : Only v.ownBlock.toList w w') : Turn Ow [some e] w w' := by
  refine ⟨_, ho, fun b hb => ⟨hD b (by simpa using hb), some e, by simp, ?_⟩⟩
  have hg : v.ownBlock = some b := by simpa using hb
  rcases h.2 with ⟨hv, _⟩ | ⟨g', off, cap, cur, hv, _, hh, _⟩
  · rw [hv] at hg; cases hg
  · rw [hv] at hg
    obtain rfl : g' = b := by simpa [Value.ownBlock] using hg
    unfold kindB; rw [hh]; rfl
end Go.Proofs.YtnmlmpffmjhihaaGreat
