/-
  A slice one's own: cells stored in a row, one element more than it shows, copies of elements of any size, an append of zeros. For whatever program.
-/
import Derived.Test.YteepdknnmdhckaaFpS
import Derived.Lib.AppendZerosOnto
import Derived.Lib.Overlaps
import Derived.Laws.IdiomCopy
import Derived.Laws.AppendOwn
namespace Go.Proofs.Yteepdknnmdhckaa
open Go Go.RowKit
set_option linter.unusedVariables false
set_option linter.unusedSimpArgs false
section
variable {w : World} {base : Nat} {e : TypeId} {size n g off cap : Nat} {xs : List Value}
theorem set_row (u : Value) (us : List Value) (j : Nat) (hj : j < xs.length) : (xs.set j u).take (j + 1) ++ us ++ (xs.set j u).drop (j + 1 + us.length) = xs.take j ++ (u :: us) ++ xs.drop (j + (u :: us).length) := by
  rw [List.set_eq_take_append_cons_drop, if_pos hj]
  have hl : (xs.take j).length = j := by rw [List.length_take]; omega
  have e1 : (xs.take j ++ u :: xs.drop (j + 1)).take (j + 1) = xs.take j ++ [u] := by
    rw [List.take_append, hl, List.take_of_length_le (by omega)]
    simp
  have e2 : (xs.take j ++ u :: xs.drop (j + 1)).drop (j + 1 + us.length) = xs.drop (j + 1 + us.length) := by
    rw [List.drop_append, hl, List.drop_of_length_le (by omega)]
    have : j + 1 + us.length - j = us.length + 1 := by omega
    rw [this, List.drop_succ_cons, List.drop_drop, List.nil_append]
  rw [e1, e2]
  have : j + (u :: us).length = j + 1 + us.length := by simp; omega
  rw [this]
  simp
theorem Seg.puts : ∀ (us : List Value) (j : Nat) {w : World} {xs : List Value}, Seg w base e size (.slice (some ⟨g, off, none⟩) n cap) n xs → j + us.length ≤ n * size →
    Seg (w.setCells g (off + j) us) base e size (.slice (some ⟨g, off, none⟩) n cap) n (xs.take j ++ us ++ xs.drop (j + us.length))
  | [], j, w, xs, h, _ => by
    have : xs.take j ++ [] ++ xs.drop (j + ([] : List Value).length) = xs := by simp
    rw [this]
    exact h
  | u :: us, j, w, xs, h, hj => by
    have hj' : j + 1 + us.length ≤ n * size := by simp at hj; omega
    have ih := Seg.puts us (j + 1) (h.put j u (by omega)) hj'
    rw [set_row u us j (by rw [h.1]; omega)] at ih
    exact ih
/-- 's[:n+1]' where there is room. -/
theorem Seg.more (h : Seg w base e size (.slice (some ⟨g, off, none⟩) n cap) n xs) (hr : n + 1 ≤ cap) : ∃ ys, ys.length = size ∧ Seg w base e size (.slice (some ⟨g, off, none⟩) (n + 1) cap) (n + 1) (xs ++ ys) := by
  obtain ⟨h1, h2⟩ := h
  rcases h2 with ⟨h0, _⟩ | ⟨g', off', cap', cur, hv, hg, hh, hn, hc, hs, ht⟩
  · cases h0
  · cases hv
    have hm := Nat.mul_le_mul_right size hr
    have hx : (n + 1) * size = n * size + size := Nat.succ_mul n size
    have hlen : ((cur.toList.drop off).drop (n * size)).length = cur.size - (off + n * size) := by simp [Nat.sub_sub]
    refine ⟨((cur.toList.drop off).drop (n * size)).take size, by rw [List.length_take, hlen]; omega, ?_, .inr ⟨g, off, cap, cur, rfl, hg, hh, hr, hc, hs, ?_⟩⟩
    · rw [List.length_append, List.length_take, hlen, h1]; omega
    · rw [hx, List.take_add, ht]
end
section
variable {P : Program}
theorem run_copy_k (w : World) (dT sT ty elem : TypeId) (k m b o dLen dCap : Nat) (a : Addr) (sLen sCap : Nat) (cs : List Value)
    (hu : P.underlying dT = some (.slice elem)) (hs : (P.info? elem).map (·.size) = some k) (hm : m = Nat.min sLen dLen) (hn : cs.length = m * k)
    (hsrc : ∀ j v, cs[j]? = some v → w.cell? (a.add j) = some v) (hc : ∀ j, j < cs.length → (w.cell? ⟨b, o + j, none⟩).isSome = true) (hf : ∀ j, j < cs.length → w.frozen? ⟨b, o + j, none⟩ = false) (h1 : ∀ v ∈ cs, v.oneCell' = true) :
    (Builtin.copy_ #[dT, sT] ty #[.slice (some ⟨b, o, none⟩) dLen dCap, .slice (some a) sLen sCap]).run P w = .ok (goInt m) (w.setCells b o cs) := by
  have hl := run_loadCells_list (P := P) w a cs hsrc
  have hst := run_storeCells_cells (P := P) b o cs 0 w (by simpa using hc) (by simpa using hf) h1
  cases hq : P.info? elem with
  | none => simp [hq] at hs
  | some i =>
    have hi : i.size = k := by simpa [hq] using hs
    simp [Builtin.copy_, run_underlying hu, Builtin.lenOf, Builtin.firstCells, sizeOf, typeInfo, hq, hi, ← hm, ← hn, hl, hst]
theorem wpList_copy_k (w : World) {ops : Array Oper} {rest : List Oper} {o : Oper} {a : Act} {Q : Exit → Act → World → Prop} (hgd : o.guard = none) (d s : Operand) (t t' : TypeId)
    (ho : o.op = .call { callee := .builtin .copy, args := #[d, s], argTypes := #[t, t'] }) (v u : Value) (hd : a.eval d = v) (hs : a.eval s = u) {v' : Value} {w' : World}
    (hr : (Builtin.copy_ #[t, t'] o.type #[v, u]).run P w = .ok v' w') (h : wpList P ops Q rest (a.put o.dst v') w') : wpList P ops Q (o :: rest) a w :=
  wpList_plain hgd fun _ hK => by
    unfold Oper.wp execOp
    simp only [ho, resolve, invoke, builtin, Sem.run_bind, Sem.run_pure, Result.andThen_ok, List.map_toArray, List.map_cons, List.map_nil, hd, hs, hr]
    exact hK _ _ h
theorem step_copy_k {ops : Array Oper} {o : Oper} {a : Act} {w : World} {K : Act → World → Prop} {Q : Exit → Act → World → Prop} {E : Prop}
    (hg : o.guard = none) (d x : Operand) (dT sT : TypeId) (hop : o.op = Op.call { callee := Callee.builtin Builtin.copy, args := #[d, x], argTypes := #[dT, sT] })
    (v u : Value) (hd : a.eval d = v) (hx : a.eval x = u) {v' : Value} {w' : World} (hr : (Builtin.copy_ #[dT, sT] o.type #[v, u]).run P w = .ok v' w') (hK : K (a.put o.dst v') w') :
    if Region.wanted o (yielded ops a.tmps) = true then Oper.wp P o a w K Q else E := by
  have hw : Region.wanted o (yielded ops a.tmps) = true := by simp [Region.wanted, hg]
  rw [if_pos hw]
  unfold Oper.wp
  simp [execOp, hop, resolve, invoke, builtin, hd, hx, hr, Result.andThen]
  exact hK
theorem zeroCells_size (z : Array Value) (k : Nat) : (Builtin.zeroCells z k).size = k * z.size := by simp [Builtin.zeroCells]
/-- 'append(s[:i], make([]T, k)...)' where there is no room. -/
theorem run_append_zeros_seg {w : World} {base : Nat} {e : TypeId} {size n g off cap i k : Nat} {xs : List Value} (t tn ty : TypeId) (i0 : TypeInfo) (z : Value) (bytes : Nat) (ht : P.underlying t = some (.slice e)) (htn : P.underlying tn = some (.int .i64)) (hi0 : P.info? e = some i0) (hz : i0.zero = some z)
    (hsize : i0.size = size) (hby : i0.bytes = bytes) (hzs : z.cells.size = size) (hsz : 0 < size)
    (h : Seg w base e size (.slice (some ⟨g, off, none⟩) n cap) n xs) (hin : i ≤ n) (hk : 0 < k) (hroom : cap < i + k) (h63 : i + k ≤ maxLen) (hbytes : (i + k) * bytes ≤ 140737488355328) :
    ∃ c' ys w', (Builtin.append_ #[t, tn] ty #[.slice (some ⟨g, off, none⟩) i cap, .int .i64 k]).run P w = .ok (.slice (some ⟨w.heap.size, 0, none⟩) (i + k) c') w' ∧ ys.length = k * size ∧
      Seg w' w.heap.size e size (.slice (some ⟨w.heap.size, 0, none⟩) (i + k) c') (i + k) (xs.take (i * size) ++ ys) ∧ Below w.heap.size w w' ∧ w.heap.size < w'.heap.size := by
  subst hsize hby
  have hold : (Builtin.firstCells i0.size i (.slice (some ⟨g, off, none⟩) i cap)).run P w.drew = .ok (xs.take (i * i0.size)).toArray w.drew := by
    have hu := h.upto i hin
    refine run_firstCells_some w.drew i0.size i _ i cap (xs.take (i * i0.size)) hu.1 fun j v hj => ?_
    rcases hu.rds.2 with ⟨_, a, c, he⟩ | ⟨a, c, he, hc⟩
    · have : (xs.take (i * i0.size)).length = i * i0.size := hu.1
      cases he
      rw [Nat.zero_mul] at hj
      simp at hj
    · cases he
      exact hc j v hj
  have hkb : k * i0.bytes ≤ 281474976710656 := by
    have := Nat.mul_le_mul_right i0.bytes (Nat.le_add_left k i)
    omega
  have hr := Lib.run_append_grow_zeros w t tn ty e i0 z .i64 .i64 ht htn hi0 hz (some ⟨g, off, none⟩) i cap _ hold k hk hsz hroom (by unfold maxLen at h63; omega) hkb (growslice_fits hroom hbytes)
  have hG := grownCap_ge w (i + k) cap e
  have hGm := grownCap_le_maxLen w (i + k) cap e h63
  refine ⟨_, (Builtin.zeroCells z.cells k).toList, _, hr, by rw [Array.length_toList, zeroCells_size, hzs], ⟨?_, .inr ⟨w.heap.size, 0, _, _, rfl, Nat.le_refl _, heap_alloc_new _ _, hG, hGm, ?_, ?_⟩⟩, (Below.refl _ _).drew.alloc (Nat.le_refl _) _, ?_⟩
  · rw [List.length_append, Array.length_toList, Array.length_toList, zeroCells_size, hzs, List.size_toArray, (h.upto i hin).1, Nat.add_mul]
  · simp only [Array.size_append, zeroCells_size, hzs, List.size_toArray, (h.upto i hin).1]
    rw [← Nat.add_mul, ← Nat.add_mul, Nat.zero_add]
    exact Nat.mul_le_mul_right _ (by omega)
  · rw [List.drop_zero, Array.toList_append, Array.toList_append, List.take_append_of_le_length ?_, List.take_of_length_le ?_]
    · simp only [List.length_append, Array.length_toList, zeroCells_size, hzs, (h.upto i hin).1]
      rw [Nat.add_mul]; exact Nat.le_refl _
    · simp only [List.length_append, Array.length_toList, zeroCells_size, hzs, (h.upto i hin).1]
      rw [Nat.add_mul]; exact Nat.le_refl _
  · show w.heap.size < (w.heap.push _).size
    simp
end
end Go.Proofs.Yteepdknnmdhckaa
