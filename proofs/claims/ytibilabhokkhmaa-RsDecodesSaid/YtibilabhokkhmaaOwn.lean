/-
  Slices of the call's own that are stored into: their cells by a list; tables of the call's own by a list of rows. For whatever program.
-/
import Derived.Test.YtibilabhokkhmaaMat
import Derived.Laws.MakeOwn
namespace Go.Proofs.Ytibilabhokkhmaa
open Go.RowKit
set_option linter.unusedVariables false
def OwnV (w : World) (g off : Nat) (t : TypeId) (vs : List Value) : Prop :=
  g < w.heap.size ∧ (∃ cs, w.heap[g]? = some (.cells cs t (0, 0))) ∧ ∀ j (h : j < vs.length), w.cell? ⟨g, off + j, none⟩ = some vs[j]
section
variable {w w' : World} {g off : Nat} {t : TypeId} {vs : List Value}
theorem OwnV.lt (h : OwnV w g off t vs) : g < w.heap.size := h.1
theorem OwnV.free (h : OwnV w g off t vs) (o : Nat) : w.frozen? ⟨g, o, none⟩ = false := by
  obtain ⟨_, ⟨cs, hc⟩, _⟩ := h
  simp [World.frozen?, hc]
theorem OwnV.same (h : OwnV w g off t vs) (hs : w'.heap[g]? = w.heap[g]?) : OwnV w' g off t vs := by
  obtain ⟨h1, ⟨cs, h2⟩, h3⟩ := h
  have h2' : w'.heap[g]? = some (.cells cs t (0, 0)) := hs.trans h2
  refine ⟨(Array.getElem?_eq_some_iff.1 h2').1, ⟨cs, h2'⟩, fun j hj => ?_⟩
  rw [← h3 j hj]
  unfold World.cell?
  simp only
  rw [hs]
theorem OwnV.chain (h : OwnV w g off t vs) (hb : Below w.heap.size w w') : OwnV w' g off t vs := h.same (hb.block g h.1)
theorem OwnV.only {S : List Nat} (h : OwnV w g off t vs) (ho : Only S w w') (hg : g ∉ S) : OwnV w' g off t vs := h.same (ho.block g h.1 hg)
theorem OwnV.other (h : OwnV w g off t vs) (p : Addr) (u : Value) (hp : g ≠ p.block) : OwnV (w.setCell p u) g off t vs := h.same (Below.heap_setCell _ _ _ _ hp)
theorem OwnV.store (h : OwnV w g off t vs) (i : Nat) (u : Value) (hi : i < vs.length) (hu : u.oneCell' = true := by rfl) : OwnV (w.setCell ⟨g, off + i, none⟩ u) g off t (vs.set i u) := by
  obtain ⟨h1, ⟨cs, h2⟩, h3⟩ := h
  have hcell := h3 i hi
  have hin : off + i < cs.size := by
    unfold World.cell? at hcell
    rw [h2] at hcell
    simp at hcell
    exact (Array.getElem?_eq_some_iff.1 hcell).1
  have hh : (w.setCell ⟨g, off + i, none⟩ u).heap[g]? = some (.cells (cs.setIfInBounds (off + i) u) t (0, 0)) := by
    simp only [World.setCell, Array.getElem?_modify]
    simp [h2]
  refine ⟨by simpa [World.setCell] using h1, ⟨_, hh⟩, fun j hj => ?_⟩
  have hj' : j < vs.length := by simpa using hj
  unfold World.cell?
  rw [hh]
  simp only [Option.isSome_none, Bool.false_eq_true, if_false]
  by_cases e : i = j
  · subst e
    simp [hin]
  · have h4 := h3 j hj'
    unfold World.cell? at h4
    rw [h2] at h4
    simp at h4
    rw [Array.getElem?_setIfInBounds_ne (by omega), h4, List.getElem_set_ne e]
theorem OwnV.of_blk {cs : Array Value} (h : Blk w g cs t) : OwnV w g 0 t cs.toList := ⟨h.lt, ⟨cs, h⟩, fun j hj => by
  rw [Nat.zero_add, h.facts.1 j]
  simp [Array.getElem?_eq_getElem (show j < cs.size by simpa using hj)]⟩
theorem OwnV.apart {B : Nat} {t' : TypeId} (h : OwnV w g off t vs) (hB : B ≤ g) (ht : t ≠ t') : Apart B w t' g := ⟨hB, fun cs fr e => by
  obtain ⟨_, ⟨cs', h2⟩, _⟩ := h
  rw [h2] at e
  cases e
  exact ht rfl⟩
theorem OwnV.slAt {B cap : Nat} (h : OwnV w g off t vs) (hc : vs.length ≤ cap) (hm : cap ≤ maxLen) : SlAt B w t (.slice (some ⟨g, off, none⟩) vs.length cap) vs :=
  ⟨_, cap, rfl, hc, hm, .inr ⟨g, off, rfl, h.1, .inr (h.2.1.imp fun cs e => ⟨_, e⟩), h.2.2⟩⟩
end
theorem OwnV.of_seg {w : World} {base : Nat} {t : TypeId} {n : Nat} {vs : List Value} {g off cap : Nat} (h : Seg w base t 1 (.slice (some ⟨g, off, none⟩) n cap) n vs) : OwnV w g off t vs := by
  have hl := h.1
  have h0 := h
  obtain ⟨_, h2⟩ := h
  rcases h2 with ⟨h2, _⟩ | ⟨g', off', cap', cur, hv, hg, hh, h3, h4, _, _⟩
  · cases h2
  · cases hv
    exact ⟨(Array.getElem?_eq_some_iff.1 hh).1, ⟨_, hh⟩, fun j hj => by rw [h0.at j (by omega), List.getElem?_eq_getElem hj]⟩
/-! A row of bytes that is stored into. -/
def OwnB (w : World) (g off : Nat) (bs : List Nat) : Prop := OwnV w g off 5 (u8s bs) ∧ ∀ x ∈ bs, x < 256
section
variable {w w' : World} {g off : Nat} {bs : List Nat}
theorem u8s_set (bs : List Nat) (i x : Nat) : (u8s bs).set i (.int .u8 (x : Int)) = u8s (bs.set i x) := by simp [u8s, List.map_set]
theorem OwnB.chain (h : OwnB w g off bs) (hb : Below w.heap.size w w') : OwnB w' g off bs := ⟨h.1.chain hb, h.2⟩
theorem OwnB.read (h : OwnB w g off bs) (i : Nat) (hi : i < bs.length) : w.cell? ⟨g, off + i, none⟩ = some (.int .u8 (bs[i] : Nat)) := by
  rw [h.1.2.2 i (by rw [u8s_length]; exact hi)]
  simp [u8s]
theorem OwnB.store (h : OwnB w g off bs) (i x : Nat) (hi : i < bs.length) (hx : x < 256) : OwnB (w.setCell ⟨g, off + i, none⟩ (.int .u8 (x : Int))) g off (bs.set i x) := by
  refine ⟨?_, fun y hy => ?_⟩
  · rw [← u8s_set]
    exact h.1.store i _ (by rw [u8s_length]; exact hi)
  · rcases List.mem_or_eq_of_mem_set hy with h' | h'
    · exact h.2 y h'
    · omega
theorem OwnB.row {B cap : Nat} (h : OwnB w g off bs) (hc : bs.length ≤ cap) (hm : cap ≤ maxLen) : RowAt B w (.slice (some ⟨g, off, none⟩) bs.length cap) bs := by
  have := h.1.slAt (B := B) (cap := cap) (by rw [u8s_length]; exact hc) hm
  rw [u8s_length] at this
  exact ⟨this, h.2⟩
end
theorem OwnB.new (w : World) (n : Nat) : OwnB (w.alloc (.cells (u8s (List.replicate n 0)).toArray 5)) w.heap.size 0 (List.replicate n 0) :=
  ⟨by have := OwnV.of_blk (Blk.new w (u8s (List.replicate n 0)).toArray 5); exact this, fun x hx => by rw [(List.mem_replicate.1 hx).2]; decide⟩
/-! A table whose rows are put in. -/
def OwnM (w : World) (g off : Nat) (rows : List (List Nat)) : Prop :=
  ∃ vs : List Value, vs.length = rows.length ∧ OwnV w g off 24 vs ∧ ∀ i (h : i < vs.length) (h' : i < rows.length), RowAt 0 w vs[i] rows[i]
section
variable {w w' : World} {g off : Nat} {rows : List (List Nat)}
theorem OwnM.lt (h : OwnM w g off rows) : g < w.heap.size := by obtain ⟨_, _, h, _⟩ := h; exact h.1
theorem OwnM.free (h : OwnM w g off rows) (o : Nat) : w.frozen? ⟨g, o, none⟩ = false := by obtain ⟨_, _, h, _⟩ := h; exact h.free o
theorem OwnM.chain (h : OwnM w g off rows) (hb : Below w.heap.size w w') : OwnM w' g off rows := by
  obtain ⟨vs, h1, h2, h3⟩ := h
  exact ⟨vs, h1, h2.chain hb, fun i hi hi' => (h3 i hi hi').chain hb⟩
theorem OwnM.apart (h : OwnM w g off rows) : Apart 0 w 5 g := by
  obtain ⟨vs, h1, h2, h3⟩ := h
  exact h2.apart (Nat.zero_le _) (by decide)
theorem OwnM.other (h : OwnM w g off rows) (p : Addr) (u : Value) (hp : g ≠ p.block) (ha : Apart 0 w 5 p.block) : OwnM (w.setCell p u) g off rows := by
  obtain ⟨vs, h1, h2, h3⟩ := h
  exact ⟨vs, h1, h2.other p u hp, fun i hi hi' => (h3 i hi hi').store p u ha⟩
theorem OwnM.read (h : OwnM w g off rows) (i : Nat) (hi : i < rows.length) : ∃ a cap, w.cell? ⟨g, off + i, none⟩ = some (.slice a rows[i].length cap) ∧ RowAt 0 w (.slice a rows[i].length cap) rows[i] := by
  obtain ⟨vs, h1, h2, h3⟩ := h
  have hr := h3 i (by omega) hi
  obtain ⟨a, cap, e, _⟩ := hr.at
  refine ⟨a, cap, ?_, by rw [← e]; exact hr⟩
  rw [h2.2.2 i (by omega), e]
theorem OwnM.store (h : OwnM w g off rows) (i : Nat) (hi : i < rows.length) (a : Option Addr) (n cap : Nat) (r : List Nat) (hr : RowAt 0 w (.slice a n cap) r) : OwnM (w.setCell ⟨g, off + i, none⟩ (.slice a n cap)) g off (rows.set i r) := by
  have ha := h.apart
  obtain ⟨vs, h1, h2, h3⟩ := h
  refine ⟨vs.set i (.slice a n cap), by simp [h1], h2.store i _ (by omega), fun j hj hj' => ?_⟩
  by_cases e : i = j
  · subst e
    simp only [List.getElem_set_self]
    exact hr.store _ _ ha
  · rw [List.getElem_set_ne e, List.getElem_set_ne e]
    exact (h3 j (by simpa using hj) (by simpa using hj')).store _ _ ha
theorem OwnM.mat {B cap n : Nat} (h : OwnM w g off rows) (hn : n = rows.length) (hc : n ≤ cap) (hm : cap ≤ maxLen) : MatAt B w (.slice (some ⟨g, off, none⟩) n cap) rows := by
  subst hn
  obtain ⟨vs, h1, h2, h3⟩ := h
  have := h2.slAt (B := B) (cap := cap) (by omega) hm
  rw [h1] at this
  exact ⟨vs, h1, this, fun i hi hi' => (h3 i hi hi').le (Nat.zero_le _)⟩
end
theorem OwnM.of_seg {w : World} {base : Nat} {n : Nat} {vs : List Value} {g off cap : Nat} {rows : List (List Nat)} (h : Seg w base 24 1 (.slice (some ⟨g, off, none⟩) n cap) n vs) (hl : vs.length = rows.length) (hr : ∀ i (h : i < vs.length) (h' : i < rows.length), RowAt 0 w vs[i] rows[i]) : OwnM w g off rows :=
  ⟨vs, hl, OwnV.of_seg h, hr⟩
theorem OwnM.new (w : World) (n : Nat) : OwnM (w.alloc (.cells (Array.replicate n (Value.slice none 0 0)) 24)) w.heap.size 0 (List.replicate n []) :=
  ⟨List.replicate n (.slice none 0 0), by simp, by have := OwnV.of_blk (Blk.new w (Array.replicate n (Value.slice none 0 0)) 24); simpa using this, fun i hi hi' => by simpa using RowAt.nil _ _⟩
/-- Rows of a table all of which are stored anew, from the front. -/
theorem set_take {α : Type} (xs ys : List α) (m : Nat) (hx : m < xs.length) (hl : xs.length = ys.length) : (xs.take m ++ ys.drop m).set m (xs[m]) = xs.take (m + 1) ++ ys.drop (m + 1) := by
  have h1 : (xs.take m).length = m := by simp; omega
  rw [List.set_append_right _ _ (by omega), h1, Nat.sub_self, List.take_succ_eq_append_getElem hx, List.append_assoc]
  congr 1
  rw [List.drop_eq_getElem_cons (show m < ys.length by omega)]
  rfl
/-! An append of a whole slice, of no element too, onto a slice of the call's own. -/
section
variable {P : Program} {w : World}
theorem run_append_zero (base : Nat) (t ty e : TypeId) (i : TypeInfo) (size : Nat) (ht : P.underlying t = some (.slice e)) (hi : P.info? e = some i)
    (v : Value) (n : Nat) (xs : List Value) (hown : Seg w base e size v n xs) (A : Option Addr) (c : Nat) : (Builtin.append_ #[t, t] ty #[v, .slice A 0 c]).run P w = .ok v w := by
  rcases hown.2 with ⟨rfl, rfl⟩ | ⟨g, off, cap, cur, rfl, _, _, hnc, _, _, _⟩
  · cases A with
    | none => simp [Builtin.append_, run_underlying ht, sizeOf, typeInfo, hi, Builtin.lenOf, Builtin.firstCells]
    | some A =>
      have hl := run_loadCells_list (P := P) w A [] (by simp)
      simp only [List.length_nil] at hl
      simp [Builtin.append_, run_underlying ht, sizeOf, typeInfo, hi, Builtin.lenOf, Builtin.firstCells, hl]
  · cases A with
    | none => simp [Builtin.append_, run_underlying ht, sizeOf, typeInfo, hi, Builtin.lenOf, Builtin.firstCells, hnc, storeCells]
    | some A =>
      have hl := run_loadCells_list (P := P) w A [] (by simp)
      simp only [List.length_nil] at hl
      simp [Builtin.append_, run_underlying ht, sizeOf, typeInfo, hi, Builtin.lenOf, Builtin.firstCells, hnc, storeCells, hl]
theorem run_append_sl (base B : Nat) (t ty e e' : TypeId) (i : TypeInfo) (z : Value) (bytes : Nat) (ht : P.underlying t = some (.slice e)) (hi : P.info? e = some i) (hz : i.zero = some z)
    (hsize : i.size = 1) (hby : i.bytes = bytes) (hzs : z.cells.size = 1)
    (v : Value) (n : Nat) (xs : List Value) (hown : Seg w base e 1 v n xs) (x : Value) (news : List Value) (hx : SlAt B w e' x news) (h1 : ∀ u ∈ news, u.oneCell' = true)
    (h63 : n + news.length ≤ maxLen) (hbytes : (n + news.length) * bytes ≤ 140737488355328) (hbase : base ≤ w.heap.size) :
    ∃ v' w', (Builtin.append_ #[t, t] ty #[v, x]).run P w = .ok v' w' ∧ Seg w' base e 1 v' (n + news.length) (xs ++ news) ∧ w.grownBy w' v.ownBlock ∧ (v'.ownBlock = v.ownBlock ∨ ∃ g, v'.ownBlock = some g ∧ w.heap.size ≤ g) := by
  obtain ⟨a, cap, rfl, hc, hm, hcells⟩ := hx
  by_cases h0 : news.length = 0
  · have hn : news = [] := List.eq_nil_of_length_eq_zero h0
    subst hn
    refine ⟨v, w, run_append_zero base t ty e i 1 ht hi v n xs hown a cap, by simpa using hown, ⟨rfl, rfl, rfl, Nat.le_refl _, fun _ _ _ => rfl⟩, .inl rfl⟩
  · obtain ⟨g, off, rfl, _, _, hat⟩ := hcells.resolve_left (fun e => h0 (by rw [e]; rfl))
    obtain ⟨g', off', cap', w', hr, h2, h3, h4⟩ := run_append_seg (P := P) w base t ty e i z 1 bytes ht hi hz hsize hby hzs (by decide) v n xs hown ⟨g, off, none⟩ news.length cap news (by simp)
      (fun j u hu => by
        obtain ⟨hj, rfl⟩ := List.getElem?_eq_some_iff.1 hu
        have ea : (⟨g, off, none⟩ : Addr).add j = ⟨g, off + j, none⟩ := by unfold Addr.add; split <;> simp_all
        rw [ea]
        exact hat j hj) h1 (by omega) h63 hbytes hbase
    refine ⟨_, _, hr, h2, h3, h4.elim (fun e => .inl (by rw [e]; rfl)) (fun e => .inr ⟨g', rfl, by omega⟩)⟩
theorem wp_append_sl {o : Oper} {a : Act} {K : Act → World → Prop} {Q : Exit → Act → World → Prop} (s y : Operand) (t : TypeId)
    (ho : o.op = .call { callee := .builtin .append, args := #[s, y], argTypes := #[t, t] })
    (base B : Nat) (e e' : TypeId) (i : TypeInfo) (z : Value) (bytes : Nat) (ht : P.underlying t = some (.slice e)) (hi : P.info? e = some i) (hz : i.zero = some z)
    (hsize : i.size = 1) (hby : i.bytes = bytes) (hzs : z.cells.size = 1)
    (v : Value) (n : Nat) (xs : List Value) (hs : a.eval s = v) (hown : Seg w base e 1 v n xs) (x : Value) (news : List Value) (hy : a.eval y = x) (hx : SlAt B w e' x news) (h1 : ∀ u ∈ news, u.oneCell' = true)
    (h63 : n + news.length ≤ maxLen) (hbytes : (n + news.length) * bytes ≤ 140737488355328) (hbase : base ≤ w.heap.size)
    (h : ∀ v' w', Seg w' base e 1 v' (n + news.length) (xs ++ news) → w.grownBy w' v.ownBlock → (v'.ownBlock = v.ownBlock ∨ ∃ g, v'.ownBlock = some g ∧ w.heap.size ≤ g) → K (a.put o.dst v') w') : o.wp P a w K Q := by
  obtain ⟨v', w', hr, h2, h3, h4⟩ := run_append_sl (P := P) (w := w) base B t o.type e e' i z bytes ht hi hz hsize hby hzs v n xs hown x news hx h1 h63 hbytes hbase
  unfold Oper.wp execOp
  simp only [ho, resolve, invoke, builtin, Sem.run_bind, Sem.run_pure, Result.andThen_ok, List.map_toArray, List.map_cons, List.map_nil, hs, hy, hr]
  exact h v' w' h2 h3 h4
theorem wpList_append_sl {ops : Array Oper} {rest : List Oper} {o : Oper} {a : Act} {Q : Exit → Act → World → Prop} (hgd : o.guard = none) (s y : Operand) (t : TypeId)
    (ho : o.op = .call { callee := .builtin .append, args := #[s, y], argTypes := #[t, t] })
    (base B : Nat) (e e' : TypeId) (i : TypeInfo) (z : Value) (bytes : Nat) (ht : P.underlying t = some (.slice e)) (hi : P.info? e = some i) (hz : i.zero = some z)
    (hsize : i.size = 1) (hby : i.bytes = bytes) (hzs : z.cells.size = 1)
    (v : Value) (n : Nat) (xs : List Value) (hs : a.eval s = v) (hown : Seg w base e 1 v n xs) (x : Value) (news : List Value) (hy : a.eval y = x) (hx : SlAt B w e' x news) (h1 : ∀ u ∈ news, u.oneCell' = true)
    (h63 : n + news.length ≤ maxLen) (hbytes : (n + news.length) * bytes ≤ 140737488355328) (hbase : base ≤ w.heap.size)
    (h : ∀ v' w', Seg w' base e 1 v' (n + news.length) (xs ++ news) → w.grownBy w' v.ownBlock → (v'.ownBlock = v.ownBlock ∨ ∃ g, v'.ownBlock = some g ∧ w.heap.size ≤ g) → wpList P ops Q rest (a.put o.dst v') w') : wpList P ops Q (o :: rest) a w :=
  wpList_plain hgd fun _ hK => wp_append_sl s y t ho base B e e' i z bytes ht hi hz hsize hby hzs v n xs hs hown x news hy hx h1 h63 hbytes hbase fun v' w' h2 h3 h4 => hK _ _ (h v' w' h2 h3 h4)
end
end Go.Proofs.Ytibilabhokkhmaa
