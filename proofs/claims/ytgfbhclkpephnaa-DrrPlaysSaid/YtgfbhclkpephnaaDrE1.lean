/-
  The document's queues (lightshipref17): set.
-/
import Derived.Test.YtgfbhclkpephnaaDrE0
import Derived.Test.YtgfbhclkpephnaaDr7
namespace Go.Proofs.Ytgfbhclkpephnaa
open Go Go.RowKit
set_option linter.unusedVariables false
set_option linter.unusedSimpArgs false
set_option maxRecDepth 100000
set_option maxHeartbeats 1000000
theorem wpList_store_cells {P : Program} {ops : Array Oper} {rest : List Oper} {o : Oper} {a : Act} {w : World} {Q : Exit → Act → World → Prop} (hgd : o.guard = none) (ty : TypeId) (x y : Operand) (ho : o.op = .store ty x y)
    (hd : o.dst = none) (g off : Nat) (cells : Array Value) (hx : a.eval x = .pointer (some ⟨g, off, none⟩)) (hy : a.eval y = .agg cells) (hi : (P.info? ty).map (·.size) = some cells.size)
    (hc : ∀ j, j < cells.size → (w.cell? ⟨g, off + j, none⟩).isSome = true) (hf : ∀ j, w.frozen? ⟨g, j, none⟩ = false) (h1 : ∀ v ∈ cells.toList, v.oneCell' = true)
    (h : wpList P ops Q rest a (w.setCells g off cells.toList)) : wpList P ops Q (o :: rest) a w :=
  wpList_plain hgd fun _ hK => by
    have hst := run_storeCells_cells (P := P) g off cells.toList 0 w (by intro j hj; rw [Nat.add_zero]; exact hc j (by simpa using hj)) (by intro j hj; exact hf _) h1
    rw [Nat.add_zero] at hst
    have hsv : (storeVar ty ⟨g, off, none⟩ (.agg cells)).run P w = .ok () (w.setCells g off cells.toList) := by
      cases hq : P.info? ty with
      | none => simp [hq] at hi
      | some i =>
        have hs : cells.size = i.size := by simp [hq] at hi; omega
        simp [storeVar, sizeOf, typeInfo, hq, Value.cells, hs, hst]
    unfold Oper.wp execOp
    simp only [ho, hx, hy, Instr.storeAt, Instr.sureAddr, Sem.run_bind, Sem.run_pure, Result.andThen_ok, hsv]
    have h2 := hK (a.put o.dst undef) _ (by rw [hd]; exact h)
    exact h2
theorem Seg.setQ {w : World} {base g off cap : Nat} {l : List PQ} {ls : List Value} {q : PQ} {lv : Value} {i : Nat} (h : Seg w base 107 5 (.slice (some ⟨g, off, none⟩) l.length cap) l.length (rowsQ l ls)) (hl : ls.length = l.length) (hi : i < l.length) :
    Seg (w.setCells g (off + i * 5) [.int .i64 q.id, .int .i64 q.weight, .int .i64 q.deficit, .bool q.served, lv]) base 107 5 (.slice (some ⟨g, off, none⟩) l.length cap) l.length (rowsQ (l.set i q) (ls.set i lv)) := by
  rw [← rowsQ_set q lv l ls i hl hi]
  have h0 := h.put (i * 5) (.int .i64 q.id) (by omega)
  have h1 := h0.put (i * 5 + 1) (.int .i64 q.weight) (by omega)
  have h2 := h1.put (i * 5 + 2) (.int .i64 q.deficit) (by omega)
  have h3 := h2.put (i * 5 + 3) (.bool q.served) (by omega)
  exact h3.put (i * 5 + 4) lv (by omega)
theorem DocR.fin {w w' : World} {qv' rv' : Value} {ls' : List Value} {S' : PS} (h : ItR w S'.qs ls') (hb : Below w.heap.size w w') (hq : Seg w' 0 107 5 qv' S'.qs.length (rowsQ S'.qs ls')) (hr : Seg w' 0 3 1 rv' S'.round.length (iv S'.round)) : DocR w' qv' rv' ls' S' :=
  DocR.mk' (h.chain hb) hq hr
theorem rset_any {qv rv : Value} {ls : List Value} {S : PS} (i : Nat) (q : PQ) (lv : Value) (w : World) (h : DocR w qv rv ls S) (hi : i < S.qs.length) (hv : Seg w 0 35 2 lv q.items.length (itC q.items)) (hl : S.qs.length ≤ 300) :
    Calls Try.prog 82 #[docV S qv rv, .int .i64 (i : Nat), .agg #[.int .i64 q.id, .int .i64 q.weight, .int .i64 q.deficit, .bool q.served, lv]] w fun e w' => ∃ qv', e = .returned (docV S qv' rv) ∧ DocR w' qv' rv (ls.set i lv) { S with qs := S.qs.set i q } ∧ Below w.heap.size w w' := by
  obtain ⟨i0, hif, hz0, hz1, hz2⟩ := info_parts infoQD
  obtain ⟨g, off, cap, rfl, hg⟩ := h.shape (Nat.zero_lt_of_lt hi)
  obtain ⟨av, lc, rfl⟩ := hv.form
  obtain ⟨ar, cr, rfl⟩ := h.2.2.2.form
  unfold docV
  have k0 := (Blk.new w #[.int .i64 S.quantum, .slice (some ⟨g, off, none⟩) S.qs.length cap, .slice ar S.round.length cr] 31).alloc (.cells #[.int .i64 q.id, .int .i64 q.weight, .int .i64 q.deficit, .bool q.served, .slice av q.items.length lc] 107) |>.alloc (.cells #[.int .i64 0, .slice none 0 0, .slice none 0 0] 31)
  have k1 := (Blk.new (w.alloc (.cells #[.int .i64 S.quantum, .slice (some ⟨g, off, none⟩) S.qs.length cap, .slice ar S.round.length cr] 31)) #[.int .i64 q.id, .int .i64 q.weight, .int .i64 q.deficit, .bool q.served, .slice av q.items.length lc] 107).alloc (.cells #[.int .i64 0, .slice none 0 0, .slice none 0 0] 31)
  have k2 := Blk.new ((w.alloc (.cells #[.int .i64 S.quantum, .slice (some ⟨g, off, none⟩) S.qs.length cap, .slice ar S.round.length cr] 31)).alloc (.cells #[.int .i64 q.id, .int .i64 q.weight, .int .i64 q.deficit, .bool q.served, .slice av q.items.length lc] 107)) #[.int .i64 0, .slice none 0 0, .slice none 0 0] 31
  simp only [size_alloc] at k1 k2
  have hB := Below.chainAlloc (Below.chainAlloc (Below.chainAlloc (Below.refl _ w) (.cells #[.int .i64 S.quantum, .slice (some ⟨g, off, none⟩) S.qs.length cap, .slice ar S.round.length cr] 31)) (.cells #[.int .i64 q.id, .int .i64 q.weight, .int .i64 q.deficit, .bool q.served, .slice av q.items.length lc] 107)) (.cells #[.int .i64 0, .slice none 0 0, .slice none 0 0] 31)
  have HB := Lib.hid hB
  have HR := Lib.hid (h.chain hB)
  have HR0 := Lib.hid h
  have HV0 := Lib.hid hv
  have HX := Lib.hid (And.intro k0 (And.intro k1 k2))
  have HSZ : Hid ((((w.alloc (.cells #[.int .i64 S.quantum, .slice (some ⟨g, off, none⟩) S.qs.length cap, .slice ar S.round.length cr] 31)).alloc (.cells #[.int .i64 q.id, .int .i64 q.weight, .int .i64 q.deficit, .bool q.served, .slice av q.items.length lc] 107)).alloc (.cells #[.int .i64 0, .slice none 0 0, .slice none 0 0] 31)).heap.size = w.heap.size + 3) := Lib.hid (by simp only [size_alloc])
  have HI := Lib.hid hi
  have HL := Lib.hid hl
  have c1 := k0.facts.1 1
  clear h hv hB k0 k1 k2 hg hl
  go_enter Try.func82, Try.ntmps82
  go_upto_region 2 with fail
  generalize ((w.alloc (.cells #[.int .i64 S.quantum, .slice (some ⟨g, off, none⟩) S.qs.length cap, .slice ar S.round.length cr] 31)).alloc (.cells #[.int .i64 q.id, .int .i64 q.weight, .int .i64 q.deficit, .bool q.served, .slice av q.items.length lc] 107)).alloc (.cells #[.int .i64 0, .slice none 0 0, .slice none 0 0] 31) = W at *
  generalize hb0 : w.heap.size = b0 at *
  clear hi
  have HQ1 : Hid (0 + S.qs.length ≤ maxLen ∧ (0 + S.qs.length) * 56 ≤ 140737488355328) := Lib.hid (by have := HL.out; unfold maxLen; omega)
  have HRD : Hid (RdS W 5 (.slice (some ⟨g, off, none⟩) S.qs.length cap) S.qs.length (rowsQ S.qs ls)) := Lib.hid HR.out.2.1.rds
  have HON : Hid (∀ u ∈ rowsQ S.qs ls, u.oneCell' = true) := Lib.hid (one_rowsQ HR.out.it)
  go_upto_region 3 with (at_builtin; refine wpList_append_rds rfl (.tmp 8) (.tmp 10) 28 rfl W.heap.size 107 i0 _ 5 56 Try.underlying28 hif hz0 hz1 hz2 rfl (by decide) (.slice none 0 0) 0 [] rfl (Seg.nil _ _ _ _) (.slice (some ⟨g, off, none⟩) S.qs.length cap) S.qs.length (rowsQ S.qs ls) rfl HRD.out HON.out HQ1.out.1 HQ1.out.2 (Nat.le_refl _) ?_; intro v3 w3 hown3 hgrow3 hat3; rw [List.nil_append, Nat.zero_add] at hown3)
  have hb3 : Below W.heap.size W w3 := (Only.grown (S := []) (Only.refl _ _) hgrow3 (fun x hx => by cases hx)).nil
  obtain ⟨g3, o3, c3, rfl, hg3, hg3', _⟩ := hown3.shape (Nat.zero_lt_of_lt HI.out)
  have hgW := hg3
  rw [HSZ.out] at hg3
  have k0 := HX.out.1.below hb3 HX.out.1.lt
  have k1 := HX.out.2.1.below hb3 HX.out.2.1.lt
  have k2 := HX.out.2.2.below hb3 HX.out.2.2.lt
  have HS3 := Lib.hid (hown3.setQ (q := q) (lv := .slice av q.items.length lc) HR.out.1 HI.out)
  have HSC : Hid (∀ j, j < 5 → (w3.cell? ⟨g3, o3 + i * 5 + j, none⟩).isSome = true) := Lib.hid fun j hj => by
    have hi := HI.out
    have h1 := hown3.at (i * 5 + j) (by omega)
    rw [← Nat.add_assoc] at h1
    rw [h1, List.getElem?_eq_getElem (by rw [hown3.1]; omega)]
    rfl
  have HFR := Lib.hid hown3.free
  have hO := Only.puts (List.mem_singleton_self g3) [.int .i64 q.id, .int .i64 q.weight, .int .i64 q.deficit, .bool q.served, .slice av q.items.length lc] (o3 + i * 5) (Only.refl [g3] w3)
  have hw3 := Below.only (Below.chain hb3 (Below.refl W.heap.size W)) hO (by simp; exact hgW)
  have HW3 := Lib.hid hw3
  have HG : Hid (b0 + 3 ≤ g3) := Lib.hid hg3
  have HK := Lib.hid (And.intro (k0.only hO (by simp; omega)) (And.intro (k1.only hO (by simp; omega)) (k2.only hO (by simp; omega))))
  have hi0 : (0 : Int) ≤ (i : Int) := by omega
  have hii : (i : Int) < (S.qs.length : Int) := Int.ofNat_lt.2 HI.out
  have y0 := k1.facts.1 0
  have y1 := k1.facts.1 1
  have y2 := k1.facts.1 2
  have y3 := k1.facts.1 3
  have y4 := k1.facts.1 4
  clear hown3 hgrow3 hat3 hb3 hg3 hgW k0 k1 k2 hO hw3 c1 HRD HON HQ1
  refine wp_region_lit ?_
  iterate 4
    refine wpList_plain rfl fun K hK => ?_
    go_simp
    refine hK _ _ ?_
    clear hK K
  refine wpList_store_cells rfl 107 (.tmp 15) (.tmp 14) rfl rfl g3 (o3 + i * 5) #[.int .i64 q.id, .int .i64 q.weight, .int .i64 q.deficit, .bool q.served, .slice av q.items.length lc] rfl rfl (by kernel_rfl) HSC.out HFR.out (by simp [Value.oneCell']) ?_
  clear y0 y1 y2 y3 y4 hi0 hii HSC HFR hg3'
  rw [show (#[Value.int .i64 q.id, .int .i64 q.weight, .int .i64 q.deficit, .bool q.served, .slice av q.items.length lc] : Array Value).toList = [.int .i64 q.id, .int .i64 q.weight, .int .i64 q.deficit, .bool q.served, .slice av q.items.length lc] from rfl]
  generalize w3.setCells g3 (o3 + i * 5) [.int .i64 q.id, .int .i64 q.weight, .int .i64 q.deficit, .bool q.served, .slice av q.items.length lc] = w4 at *
  have hw4 := HW3.out
  have hk := HK.out
  obtain ⟨x1, x2, x3⟩ := hk.1.facts
  obtain ⟨z1, z2, z3⟩ := hk.2.2.facts
  have u0 := x1 0
  have u1 := x1 1
  have u2 := x1 2
  have v0 := z1 0
  have v1 := z1 1
  have v2 := z1 2
  have f1 := x2 1
  have e0 := z2 0
  have e1 := z2 1
  have e2 := z2 2
  clear x1 x2 z1 z2 hk
  go_wp2_with fail
  subst hb0
  have hF : ∀ v1 v2 v3 v4, Only [w.heap.size, w.heap.size + 1 + 1] w4 ((((w4.setCell ⟨w.heap.size, 1, none⟩ v1).setCell ⟨w.heap.size + 1 + 1, 0, none⟩ v2).setCell ⟨w.heap.size + 1 + 1, 1, none⟩ v3).setCell ⟨w.heap.size + 1 + 1, 2, none⟩ v4) := fun v1 v2 v3 v4 =>
    ((((Only.refl _ _).setCell _ _ (.inl (by simp))).setCell _ _ (.inl (by simp))).setCell _ _ (.inl (by simp))).setCell _ _ (.inl (by simp))
  refine bodyPost_ret (v := .agg #[.int .i64 S.quantum, .slice (some ⟨g3, o3, none⟩) S.qs.length c3, .slice ar S.round.length cr]) (by simp [results, Try.results82, go_sem, v0, v1, v2]) rfl ⟨_, rfl, ?_, Below.only (Below.chain HW3.out HB.out) (hF _ _ _ _) (by simp; omega)⟩
  have hlast := Below.only (Below.chain HW3.out HB.out) (hF (Value.slice (some ⟨g3, o3, none⟩) S.qs.length c3) (.int .i64 S.quantum) (Value.slice (some ⟨g3, o3, none⟩) S.qs.length c3) (Value.slice ar S.round.length cr)) (by simp; omega)
  have hS3 := HS3.out.only (hF (Value.slice (some ⟨g3, o3, none⟩) S.qs.length c3) (.int .i64 S.quantum) (Value.slice (some ⟨g3, o3, none⟩) S.qs.length c3) (Value.slice ar S.round.length cr)) (fun y hy hm => by
    obtain rfl : g3 = y := by simpa [Value.ownBlock] using hy
    have := HG.out
    simp at hm
    omega)
  refine DocR.fin (ItR.set HV0.out HR0.out.it i) hlast ?_ (HR0.out.2.2.2.chain hlast)
  rw [List.length_set]
  exact hS3.le (Nat.zero_le _)
end Go.Proofs.Ytgfbhclkpephnaa
