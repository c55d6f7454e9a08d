/-
  What is to be said: slices.DeleteFunc over datagrams: laws (chapter 25).
-/
import Derived.Test.YtphejbjbleeigaaCt2
import Derived.Lib.SliceRun
import Derived.Laws.Tables
namespace Go.Proofs.Ytphejbjbleeigaa
open Go Go.RowKit
set_option linter.unusedVariables false
set_option maxRecDepth 100000
set_option maxHeartbeats 1000000
section
variable {w : World} {base : Nat} {e : TypeId} {size n g off cap : Nat} {xs : List Value}
theorem heap_set_same {w : World} {g o : Nat} {cur : Array Value} {e : TypeId} (u : Value) (h : w.heap[g]? = some (.cells cur e (0, 0))) : (w.setCell ⟨g, o, none⟩ u).heap[g]? = some (.cells (cur.setIfInBounds o u) e (0, 0)) := by
  have hb : Blk w g cur e := h
  exact Blk.setAt hb o u rfl
/-- A cell of its own is stored. -/
theorem Seg.put (h : Seg w base e size (.slice (some ⟨g, off, none⟩) n cap) n xs) (j : Nat) (u : Value) (hj : j < n * size) : Seg (w.setCell ⟨g, off + j, none⟩ u) base e size (.slice (some ⟨g, off, none⟩) n cap) n (xs.set j u) := by
  obtain ⟨h1, h2⟩ := h
  rcases h2 with ⟨h0, _⟩ | ⟨g', off', cap', cur, hv, hg, hh, hn, hc, hs, ht⟩
  · cases h0
  · cases hv
    refine ⟨by rw [List.length_set]; exact h1, .inr ⟨g, off, cap, _, rfl, hg, heap_set_same u hh, hn, hc, by simpa using hs, ?_⟩⟩
    rw [Array.toList_setIfInBounds, ← ht]
    apply List.ext_getElem?
    intro i
    rw [List.getElem?_take, List.getElem?_drop, List.getElem?_set, List.getElem?_set, List.getElem?_take, List.getElem?_drop]
    have hlen : off + j < cur.toList.length := by
      have h3 : ((cur.toList.drop off).take (n * size)).length = n * size := by rw [ht]; exact h1
      rw [List.length_take, List.length_drop] at h3
      omega
    have hlen2 : j < ((cur.toList.drop off).take (n * size)).length := by rw [ht, h1]; exact hj
    by_cases e1 : j = i
    · subst e1
      rw [if_pos hj, if_pos rfl, if_pos hlen, if_pos rfl, if_pos hlen2]
    · rw [if_neg e1]
      by_cases hi : i < n * size
      · rw [if_pos hi, if_neg (by omega), if_pos hi]
      · rw [if_neg hi, if_neg hi]
/-- A cell behind its own is stored. -/
theorem Seg.putFar (h : Seg w base e size (.slice (some ⟨g, off, none⟩) n cap) n xs) (j : Nat) (u : Value) (hj : n * size ≤ j) : Seg (w.setCell ⟨g, off + j, none⟩ u) base e size (.slice (some ⟨g, off, none⟩) n cap) n xs := by
  obtain ⟨h1, h2⟩ := h
  rcases h2 with ⟨h0, _⟩ | ⟨g', off', cap', cur, hv, hg, hh, hn, hc, hs, ht⟩
  · cases h0
  · cases hv
    refine ⟨h1, .inr ⟨g, off, cap, _, rfl, hg, heap_set_same u hh, hn, hc, by simpa using hs, ?_⟩⟩
    rw [Array.toList_setIfInBounds, ← ht]
    apply List.ext_getElem?
    intro i
    rw [List.getElem?_take, List.getElem?_drop, List.getElem?_set, List.getElem?_take, List.getElem?_drop]
    by_cases e1 : i < n * size
    · rw [if_pos e1, if_pos e1, if_neg (by omega)]
    · rw [if_neg e1, if_neg e1]
theorem Seg.putsFar : ∀ (us : List Value) (j : Nat) {w : World}, Seg w base e size (.slice (some ⟨g, off, none⟩) n cap) n xs → n * size ≤ j → Seg (w.setCells g (off + j) us) base e size (.slice (some ⟨g, off, none⟩) n cap) n xs
  | [], _, _, h, _ => h
  | u :: us, j, w, h, hj => by
    have := Seg.putsFar us (j + 1) (h.putFar j u hj) (by omega)
    exact this
/-- Fewer of them. -/
theorem Seg.fewer (h : Seg w base e size (.slice (some ⟨g, off, none⟩) n cap) n xs) (k : Nat) (hk : k ≤ n) : Seg w base e size (.slice (some ⟨g, off, none⟩) k cap) k (xs.take (k * size)) := by
  obtain ⟨h1, h2⟩ := h
  have hm : k * size ≤ n * size := Nat.mul_le_mul_right _ hk
  rcases h2 with ⟨h0, _⟩ | ⟨g', off', cap', cur, hv, hg, hh, hn, hc, hs, ht⟩
  · cases h0
  · cases hv
    refine ⟨by rw [List.length_take, h1]; omega, .inr ⟨g, off, cap, cur, rfl, hg, hh, by omega, hc, hs, ?_⟩⟩
    rw [← ht, List.take_take, Nat.min_eq_left hm]
theorem Seg.free (h : Seg w base e size (.slice (some ⟨g, off, none⟩) n cap) n xs) (o : Nat) : w.frozen? ⟨g, o, none⟩ = false := by
  rcases h.2 with ⟨h0, _⟩ | ⟨g', off', cap', cur, hv, hg, hh, _⟩
  · cases h0
  · cases hv
    simp [World.frozen?, hh]
end
theorem Only.put {S : List Nat} {a b : World} (h : Only S a b) (p : Addr) (u : Value) (hp : p.block ∈ S) : Only S a (b.setCell p u) :=
  ⟨h.os, h.tape, h.output, by simpa using h.size, fun k hk hn => by
    rw [Below.heap_setCell _ _ _ _ (fun e => hn (by rw [e]; exact hp))]
    exact h.block k hk hn⟩
theorem Only.puts {S : List Nat} {a : World} {g : Nat} (hp : g ∈ S) : ∀ (us : List Value) (o : Nat) {b : World}, Only S a b → Only S a (b.setCells g o us)
  | [], _, _, h => h
  | u :: us, o, b, h => Only.puts hp us (o + 1) (h.put ⟨g, o, none⟩ u hp)
theorem set10 (a : List Value) (ha : a.length = 10) (z : List Value) (hz : z.length = 10) (post : List Value) : ∀ pre : List Value,
    ((((((((((pre ++ (z ++ post)).set pre.length (a.getD 0 undef)).set (pre.length + 1) (a.getD 1 undef)).set (pre.length + 2) (a.getD 2 undef)).set (pre.length + 3) (a.getD 3 undef)).set (pre.length + 4) (a.getD 4 undef)).set (pre.length + 5) (a.getD 5 undef)).set (pre.length + 6) (a.getD 6 undef)).set (pre.length + 7) (a.getD 7 undef)).set (pre.length + 8) (a.getD 8 undef)).set (pre.length + 9) (a.getD 9 undef) = pre ++ (a ++ post)
  | [] => by
    match a, ha, z, hz with
    | [a0, a1, a2, a3, a4, a5, a6, a7, a8, a9], _, [z0, z1, z2, z3, z4, z5, z6, z7, z8, z9], _ => rfl
  | x :: pre => by
    have h := set10 a ha z hz post pre
    simp only [List.cons_append, List.length_cons]
    exact congrArg (List.cons x) h
theorem dgC_set (D : List Dg) (i : Nat) (hi : i < D.length) (d : Dg) :
    ((((((((((dgC D).set (i * 10) (.int .i64 d.kind)).set (i * 10 + 1) (.int .i64 d.stream)).set (i * 10 + 2) (.int .u32 d.block)).set (i * 10 + 3) (.int .i64 d.index)).set (i * 10 + 4) (.int .i64 d.k)).set (i * 10 + 5) (.int .i64 d.n)).set (i * 10 + 6) (.int .i64 d.len)).set (i * 10 + 7) (.int .i64 d.credit)).set (i * 10 + 8) (Str d.have')).set (i * 10 + 9) (Str d.body) = dgC (D.set i d) := by
  have hl : (dgC (D.take i)).length = i * 10 := by rw [dgC_length, List.length_take]; omega
  have e1 : dgC D = dgC (D.take i) ++ (D[i].vals ++ dgC (D.drop (i + 1))) := by
    have h : D = D.take i ++ D[i] :: D.drop (i + 1) := by rw [← List.drop_eq_getElem_cons hi, List.take_append_drop]
    have h2 := congrArg (List.flatMap Dg.vals) h
    rw [List.flatMap_append, List.flatMap_cons] at h2
    exact h2
  have e2 : dgC (D.set i d) = dgC (D.take i) ++ (d.vals ++ dgC (D.drop (i + 1))) := by
    rw [List.set_eq_take_append_cons_drop, if_pos hi]
    unfold dgC
    rw [List.flatMap_append, List.flatMap_cons]
  have h := set10 d.vals rfl D[i].vals rfl (dgC (D.drop (i + 1))) (dgC (D.take i))
  rw [hl, ← e1] at h
  rw [e2, ← h]
  rfl
/-- A structure is stored, wherever it lies. -/
theorem wpList_store_cells {P : Program} {ops : Array Oper} {rest : List Oper} {o : Oper} {a : Act} {w : World} {Q : Exit → Act → World → Prop} (hgd : o.guard = none) (ty : TypeId) (x y : Operand) (ho : o.op = .store ty x y)
    (hd : o.dst = none) (g off : Nat) (cells : Array Value) (hx : a.eval x = .pointer (some ⟨g, off, none⟩)) (hy : a.eval y = .agg cells) (hi : (P.info? ty).map (·.size) = some cells.size)
    (hc : ∀ j, j < cells.size → (w.cell? ⟨g, off + j, none⟩).isSome = true) (hf : ∀ j, w.frozen? ⟨g, j, none⟩ = false) (h1 : ∀ v ∈ cells.toList, v.oneCell' = true)
    (h : wpList P ops Q rest a (w.setCells g off cells.toList)) : wpList P ops Q (o :: rest) a w :=
  wpList_plain hgd fun _ hK => by
    have hst := run_storeCells_cells (P := P) g off cells.toList 0 w (by intro j hj; rw [Nat.add_zero]; exact hc j (by simpa using hj)) (by intro j hj; exact hf _) h1
    rw [Nat.add_zero] at hst
    have hsv : (storeVar ty ⟨g, off, none⟩ (.agg cells)).run P w = .ok () (w.setCells g off cells.toList) := by
      cases hq : P.info? ty with
      | none => simp [hq] at hi
      | some i =>
        have hs : cells.size = i.size := by simp [hq] at hi; omega
        simp [storeVar, sizeOf, typeInfo, hq, Value.cells, hs, hst]
    unfold Oper.wp execOp
    simp only [ho, hx, hy, Instr.storeAt, Instr.sureAddr, Sem.run_bind, Sem.run_pure, Result.andThen_ok, hsv]
    have h2 := hK (a.put o.dst undef) _ (by rw [hd]; exact h)
    exact h2
def setsL : List Value → Nat → List Value → List Value
  | xs, _, [] => xs
  | xs, j, u :: us => setsL (xs.set j u) (j + 1) us
theorem Seg.puts {base : Nat} {e : TypeId} {size n g off cap : Nat} : ∀ (us : List Value) (j : Nat) {w : World} {xs : List Value}, Seg w base e size (.slice (some ⟨g, off, none⟩) n cap) n xs → j + us.length ≤ n * size →
    Seg (w.setCells g (off + j) us) base e size (.slice (some ⟨g, off, none⟩) n cap) n (setsL xs j us)
  | [], _, _, _, h, _ => h
  | u :: us, j, w, xs, h, hj => by
    have := Seg.puts us (j + 1) (h.put j u (by simp at hj; omega)) (by simp at hj; omega)
    exact this
theorem dgC_sets (D : List Dg) (i : Nat) (hi : i < D.length) (d : Dg) : setsL (dgC D) (i * 10) d.vals = dgC (D.set i d) := dgC_set D i hi d
end Go.Proofs.Ytphejbjbleeigaa
