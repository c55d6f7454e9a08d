/-
  The document's queues in memory: rows taken, dropped, joined, set.
-/
import Derived.Test.YtgfbhclkpephnaaDrD5
import Derived.Test.YtgfbhclkpephnaaSegA
namespace Go.Proofs.Ytgfbhclkpephnaa
open Go Go.RowKit
set_option linter.unusedVariables false
set_option linter.unusedSimpArgs false
set_option maxRecDepth 100000
set_option maxHeartbeats 1000000
/-- Each queue's items, where they lie. -/
def ItR (w : World) : List PQ → List Value → Prop
  | [], [] => True
  | q :: l, v :: ls => Seg w 0 35 2 v q.items.length (itC q.items) ∧ ItR w l ls
  | _, _ => False
theorem ItR.len {w : World} : ∀ {l : List PQ} {ls : List Value}, ItR w l ls → ls.length = l.length
  | [], [], _ => rfl
  | q :: l, v :: ls, h => by have := ItR.len h.2; simp [this]
  | [], _ :: _, h => h.elim
  | _ :: _, [], h => h.elim
theorem ItR.get {w : World} : ∀ {l : List PQ} {ls : List Value}, ItR w l ls → ∀ (i : Nat) (h : i < l.length) (h' : i < ls.length), Seg w 0 35 2 ls[i] l[i].items.length (itC l[i].items)
  | [], [], _, i, h, _ => absurd h (Nat.not_lt_zero _)
  | q :: l, v :: ls, h, 0, _, _ => h.1
  | q :: l, v :: ls, h, i + 1, h1, h2 => ItR.get h.2 i (by simpa using h1) (by simpa using h2)
  | [], _ :: _, h, _, _, _ => h.elim
  | _ :: _, [], h, _, _, _ => h.elim
theorem ItR.mk {w : World} : ∀ {l : List PQ} {ls : List Value}, ls.length = l.length → (∀ (i : Nat) (h : i < l.length) (h' : i < ls.length), Seg w 0 35 2 ls[i] l[i].items.length (itC l[i].items)) → ItR w l ls
  | [], [], _, _ => trivial
  | q :: l, v :: ls, h, k => ⟨k 0 (by simp) (by simp), ItR.mk (by simpa using h) fun i h1 h2 => k (i + 1) (by simpa using h1) (by simpa using h2)⟩
  | [], _ :: _, h, _ => by cases h
  | _ :: _, [], h, _ => by cases h
theorem ItR.take {w : World} : ∀ {l : List PQ} {ls : List Value}, ItR w l ls → ∀ i : Nat, ItR w (l.take i) (ls.take i)
  | [], [], _, i => by simp [ItR]
  | q :: l, v :: ls, h, 0 => trivial
  | q :: l, v :: ls, h, i + 1 => ⟨h.1, ItR.take h.2 i⟩
  | [], _ :: _, h, _ => h.elim
  | _ :: _, [], h, _ => h.elim
theorem ItR.drop {w : World} : ∀ {l : List PQ} {ls : List Value}, ItR w l ls → ∀ i : Nat, ItR w (l.drop i) (ls.drop i)
  | [], [], _, i => by simp [ItR]
  | q :: l, v :: ls, h, 0 => h
  | q :: l, v :: ls, h, i + 1 => ItR.drop h.2 i
  | [], _ :: _, h, _ => h.elim
  | _ :: _, [], h, _ => h.elim
theorem ItR.app {w : World} : ∀ {l : List PQ} {ls : List Value}, ItR w l ls → ∀ {m : List PQ} {ms : List Value}, ItR w m ms → ItR w (l ++ m) (ls ++ ms)
  | [], [], _, _, _, k => k
  | q :: l, v :: ls, h, _, _, k => ⟨h.1, ItR.app h.2 k⟩
  | [], _ :: _, h, _, _, _ => h.elim
  | _ :: _, [], h, _, _, _ => h.elim
theorem ItR.set {w : World} {q : PQ} {v : Value} (hv : Seg w 0 35 2 v q.items.length (itC q.items)) : ∀ {l : List PQ} {ls : List Value}, ItR w l ls → ∀ i : Nat, ItR w (l.set i q) (ls.set i v)
  | [], [], _, i => by simp [ItR]
  | _ :: l, _ :: ls, h, 0 => ⟨hv, h.2⟩
  | _ :: l, _ :: ls, h, i + 1 => ⟨h.1, ItR.set hv h.2 i⟩
  | [], _ :: _, h, _ => h.elim
  | _ :: _, [], h, _ => h.elim
theorem ItR.chain {w w' : World} (hb : Below w.heap.size w w') : ∀ {l : List PQ} {ls : List Value}, ItR w l ls → ItR w' l ls
  | [], [], _ => trivial
  | q :: l, v :: ls, h => ⟨h.1.chain hb, ItR.chain hb h.2⟩
  | [], _ :: _, h => h.elim
  | _ :: _, [], h => h.elim
theorem rowsQ_app {w : World} : ∀ {l : List PQ} {ls : List Value}, ItR w l ls → ∀ (m : List PQ) (ms : List Value), rowsQ (l ++ m) (ls ++ ms) = rowsQ l ls ++ rowsQ m ms
  | [], [], _, _, _ => rfl
  | q :: l, v :: ls, h, m, ms => by
    show rowQ q v ++ rowsQ (l ++ m) (ls ++ ms) = rowQ q v ++ rowsQ l ls ++ rowsQ m ms
    rw [rowsQ_app h.2, List.append_assoc]
  | [], _ :: _, h, _, _ => h.elim
  | _ :: _, [], h, _, _ => h.elim
theorem rowsQ_take : ∀ (l : List PQ) (ls : List Value) (i : Nat), rowsQ (l.take i) (ls.take i) = (rowsQ l ls).take (i * 5)
  | [], _, i => by simp [rowsQ]
  | q :: l, [], i => by cases i <;> simp [rowsQ]
  | q :: l, v :: ls, 0 => by simp [rowsQ]
  | q :: l, v :: ls, i + 1 => by
    show rowQ q v ++ rowsQ (l.take i) (ls.take i) = (rowQ q v ++ rowsQ l ls).take ((i + 1) * 5)
    rw [rowsQ_take l ls i, Nat.succ_mul, Nat.add_comm (i * 5), show (5 : Nat) = (rowQ q v).length from rfl, List.take_length_add_append]
theorem rowsQ_drop : ∀ (l : List PQ) (ls : List Value) (i : Nat), rowsQ (l.drop i) (ls.drop i) = (rowsQ l ls).drop (i * 5)
  | [], _, i => by simp [rowsQ]
  | q :: l, [], i => by cases i <;> simp [rowsQ] <;> (cases l.drop _ <;> rfl)
  | q :: l, v :: ls, 0 => by simp [rowsQ]
  | q :: l, v :: ls, i + 1 => by
    show rowsQ (l.drop i) (ls.drop i) = (rowQ q v ++ rowsQ l ls).drop ((i + 1) * 5)
    rw [rowsQ_drop l ls i, Nat.succ_mul, Nat.add_comm (i * 5), show (5 : Nat) = (rowQ q v).length from rfl, List.drop_length_add_append]
theorem rowsQ_set (q : PQ) (lv : Value) : ∀ (l : List PQ) (ls : List Value) (i : Nat), ls.length = l.length → i < l.length →
    ((((((rowsQ l ls).set (i * 5) (.int .i64 q.id)).set (i * 5 + 1) (.int .i64 q.weight)).set (i * 5 + 2) (.int .i64 q.deficit)).set (i * 5 + 3) (.bool q.served)).set (i * 5 + 4) lv) = rowsQ (l.set i q) (ls.set i lv)
  | f :: l, v :: ls, 0, _, _ => rfl
  | f :: l, v :: ls, i + 1, h, hi => by
    have ih := rowsQ_set q lv l ls i (by simpa using h) (by simpa using hi)
    show _ = rowQ f v ++ rowsQ (l.set i q) (ls.set i lv)
    rw [← ih]
    show List.set _ _ _ = _
    rw [show (i + 1) * 5 = (i * 5) + 1 + 1 + 1 + 1 + 1 by omega]
    rfl
  | [], _, _, _, hi => absurd hi (Nat.not_lt_zero _)
  | _ :: _, [], _, h, _ => by cases h
theorem one_seg {w : World} {base size n : Nat} {e : TypeId} {v : Value} {xs : List Value} (h : Seg w base e size v n xs) : v.oneCell' = true := by
  obtain ⟨a, c, rfl⟩ := h.form
  rfl
theorem one_rowQ (q : PQ) {lv : Value} (h : lv.oneCell' = true) : ∀ u ∈ rowQ q lv, u.oneCell' = true := fun u hu => by
  simp only [rowQ, List.mem_cons, List.not_mem_nil, or_false] at hu
  rcases hu with rfl | rfl | rfl | rfl | rfl <;> first | rfl | exact h
theorem one_rowsQ {w : World} : ∀ {l : List PQ} {ls : List Value}, ItR w l ls → ∀ u ∈ rowsQ l ls, u.oneCell' = true
  | [], [], _, u, hu => by cases hu
  | q :: l, v :: ls, h, u, hu => by
    rcases List.mem_append.1 (show u ∈ rowQ q v ++ rowsQ l ls from hu) with hu | hu
    · exact one_rowQ q (one_seg h.1) u hu
    · exact one_rowsQ h.2 u hu
  | [], _ :: _, h, _, _ => h.elim
  | _ :: _, [], h, _, _ => h.elim
theorem DocR.it {w : World} {qv rv : Value} {ls : List Value} {S : PS} (h : DocR w qv rv ls S) : ItR w S.qs ls := ItR.mk h.1 h.2.2.1
theorem DocR.mk' {w : World} {qv rv : Value} {ls : List Value} {S : PS} (h1 : ItR w S.qs ls) (h2 : Seg w 0 107 5 qv S.qs.length (rowsQ S.qs ls)) (h3 : Seg w 0 3 1 rv S.round.length (iv S.round)) : DocR w qv rv ls S := ⟨h1.len, h2, h1.get, h3⟩
def DocS (w : World) (v : Value) (S : PS) : Prop := ∃ qv rv ls, v = docV S qv rv ∧ DocR w qv rv ls S
theorem DocS.chain {w w' : World} {v : Value} {S : PS} (h : DocS w v S) (hb : Below w.heap.size w w') : DocS w' v S := by
  obtain ⟨qv, rv, ls, rfl, h⟩ := h
  exact ⟨qv, rv, ls, rfl, h.chain hb⟩
/-- Lists' memory: of those that stood, or new. -/
def SubL (n : Nat) (ls ls' : List Value) : Prop := ∀ y ∈ ls', ∀ g, y.ownBlock = some g → (∃ z ∈ ls, z.ownBlock = some g) ∨ n ≤ g
theorem SubL.refl (n : Nat) (ls : List Value) : SubL n ls ls := fun y hy g hg => .inl ⟨y, hy, hg⟩
theorem SubL.mem {n : Nat} {ls ls' ls'' : List Value} (h : SubL n ls ls') (k : ∀ y ∈ ls'', y ∈ ls') : SubL n ls ls'' := fun y hy => h y (k y hy)
theorem SubL.set {n : Nat} {ls ls' : List Value} (h : SubL n ls ls') (i : Nat) {v : Value} (hv : ∀ g, v.ownBlock = some g → (∃ z ∈ ls, z.ownBlock = some g) ∨ n ≤ g) : SubL n ls (ls'.set i v) := fun y hy g hg => by
  rcases List.mem_or_eq_of_mem_set hy with hy | rfl
  · exact h y hy g hg
  · exact hv g hg
/-- What an answer with an error's number is. -/
def DAns (w : World) (ls : List Value) (S : PS) (E : Int) (e : Ending) (w' : World) : Prop := ∃ qv rv ls', e = .returned (.tuple #[docV S qv rv, .int .i64 E]) ∧ DocR w' qv rv ls' S ∧ SubL w.heap.size ls ls' ∧ Below w.heap.size w w'
theorem filter_idx : ∀ (l : List PQ) (i : Nat) (hi : i < l.length), (l.map PQ.id).Nodup → l.filter (fun q => !decide (q.id = l[i].id)) = l.take i ++ l.drop (i + 1)
  | f :: l, 0, _, hn => by
    have h1 := (List.nodup_cons.1 (by simpa using hn : (f.id :: l.map PQ.id).Nodup)).1
    show (f :: l).filter (fun q => !decide (q.id = f.id)) = l
    rw [List.filter_cons_of_neg (by simp), List.filter_eq_self]
    intro r hr
    have : r.id ≠ f.id := fun e => h1 (by rw [← e]; exact List.mem_map_of_mem hr)
    simp [this]
  | f :: l, i + 1, hi, hn => by
    have h1 := List.nodup_cons.1 (by simpa using hn : (f.id :: l.map PQ.id).Nodup)
    have hi' : i < l.length := by simpa using hi
    have hf : f.id ≠ l[i].id := fun e => h1.1 (by rw [e]; exact List.mem_map_of_mem (List.getElem_mem hi'))
    show (f :: l).filter (fun q => !decide (q.id = l[i].id)) = f :: (l.take i ++ l.drop (i + 1))
    rw [List.filter_cons_of_pos (by simp [hf]), filter_idx l i hi' h1.2]
theorem wo_rem (id : Int) (l : List Int) : l.filter (fun i => !decide (i = id)) = wo id l := by
  unfold wo
  refine List.filter_congr fun x _ => ?_
  by_cases h : x = id <;> simp [h]
theorem infoQD : (Try.prog.info? 107).map (fun i => (i.zero, i.size, i.bytes)) = some (some (.agg #[.int .i64 0, .int .i64 0, .int .i64 0, .bool false, .slice none 0 0]), 5, 56) := by kernel_rfl
theorem infoItD : (Try.prog.info? 35).map (fun i => (i.zero, i.size, i.bytes)) = some (some (.agg #[.int .i64 0, .int .i64 0]), 2, 16) := by kernel_rfl
end Go.Proofs.Ytgfbhclkpephnaa
