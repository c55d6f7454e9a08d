/-
  Whose turn it is: what is taken is what came in: plain (chapter 17).
-/
import Derived.Test.YtgfbhclkpephnaaDr11
namespace Go.Proofs.Ytgfbhclkpephnaa
open Go Go.RowKit
set_option linter.unusedVariables false
set_option linter.unusedSimpArgs false
def itemsOf (S : PS) (id : Int) : List (Int × Int) := match getQ id S.qs with
  | some q => q.items
  | none => []
theorem itemsOf_get {S : PS} {id : Int} {q : PQ} (h : getQ id S.qs = some q) : itemsOf S id = q.items := by unfold itemsOf; rw [h]
theorem itemsOf_put {S : PS} {q q0 : PQ} (h : getQ q.id S.qs = some q0) (id : Int) : itemsOf { S with qs := putQ q S.qs } id = if id = q.id then q.items else itemsOf S id := by
  unfold itemsOf
  simp only
  rw [getQ_putQ h]
  by_cases e : id = q.id
  · rw [if_pos e, if_pos e]
  · rw [if_neg e, if_neg e]
theorem itemsOf_round (S : PS) (r : List Int) (id : Int) : itemsOf { S with round := r } id = itemsOf S id := rfl
theorem Turned.items {S T : PS} (h : Turned S T) (id : Int) : itemsOf T id = itemsOf S id := by
  induction h with
  | refl => rfl
  | snoc ht hf hd ih =>
    rename_i T q rest x xs
    show itemsOf { T with qs := putQ _ T.qs } id = _
    rw [itemsOf_put (q0 := q) (by show getQ (servP T.quantum q).id T.qs = _; rw [servP_id]; exact hf.g)]
    split
    · rename_i e
      have e' : id = q.id := e.trans (servP_id _ _)
      show (servP T.quantum q).items = _
      rw [servP_items, ← ih, e', itemsOf_get hf.g]
    · exact ih
theorem Turned.ids {S T : PS} (h : Turned S T) : T.qs.map PQ.id = S.qs.map PQ.id := by
  induction h with
  | refl => rfl
  | snoc ht hf hd ih => exact (putQ_ids _ _).trans ih
theorem Turned.quantum {S T : PS} (h : Turned S T) : T.quantum = S.quantum := by
  induction h with
  | refl => rfl
  | snoc ht hf hd ih => exact ih
theorem Took.items {S S' : PS} {x : Int × Int} (h : Took S S' x) (hS : S.Ok) : (∃ xs, itemsOf S x.1 = x :: xs ∧ itemsOf S' x.1 = xs) ∧ (∀ j, j ≠ x.1 → itemsOf S' j = itemsOf S j) ∧ S'.qs.map PQ.id = S.qs.map PQ.id ∧ totQ S'.qs + 1 = totQ S.qs ∧ x.1 ∈ S.qs.map PQ.id := by
  obtain ⟨T, q, rest, xs, hT, hf, hd, rfl⟩ := h.t
  have hTok := hT.ok hS
  have hid : x.1 = q.id := ((hTok.q q (getQ_mem hf.g).1).it x (by rw [hf.i]; exact List.mem_cons_self)).1
  have hg : getQ (takeQ T.quantum q x xs).id T.qs = some q := by rw [takeQ_id]; exact hf.g
  have hit : ∀ j, itemsOf (takeP T q rest x xs) j = if j = q.id then xs else itemsOf S j := fun j => by
    show itemsOf { T with qs := putQ (takeQ T.quantum q x xs) T.qs } j = _
    rw [itemsOf_put hg, takeQ_id, takeQ_items, hT.items]
  refine ⟨⟨xs, ?_, ?_⟩, fun j hj => ?_, ?_, ?_, ?_⟩
  · rw [← hT.items, hid, itemsOf_get hf.g, hf.i]
  · rw [hit, if_pos hid]
  · rw [hit, if_neg (by rw [← hid]; exact hj)]
  · exact (putQ_ids _ _).trans hT.ids
  · have h1 := takeP_tot hTok hf
    have h2 := hT.tot hS
    omega
  · rw [← hT.ids, hid]
    exact List.mem_map_of_mem (getQ_mem hf.g).1
theorem push_items {S : PS} {x : Int × Int} (hS : S.Ok) (hm : x.1 ∈ S.qs.map PQ.id) (hx : 1 ≤ x.2 ∧ x.2 ≤ 65536) : pushE S x = 0 ∧ (∀ j, itemsOf (pushA S x) j = if j = x.1 then itemsOf S j ++ [x] else itemsOf S j) ∧ (pushA S x).qs.map PQ.id = S.qs.map PQ.id ∧ totQ (pushA S x).qs = totQ S.qs + 1 ∧ (pushA S x).quantum = S.quantum := by
  obtain ⟨q, hq, hid⟩ := List.mem_map.1 hm
  have hg : getQ x.1 S.qs = some q := by rw [← hid]; exact getQ_of hS.nd hq
  have hg' : getQ q.id S.qs = some q := by rw [hid]; exact hg
  have hb : ¬ (x.2 < 1 ∨ 65536 < x.2) := by omega
  have e1 : pushE S x = 0 := by unfold pushE; rw [hg]; simp only; rw [if_neg hb]
  have e2 : pushA S x = pushP S q x := by unfold pushA; rw [hg]; simp only; rw [if_neg hb]
  rw [e2]
  refine ⟨e1, fun j => ?_, putQ_ids _ _, pushP_tot hS hg', rfl⟩
  show itemsOf { S with qs := putQ (pushQ q x) S.qs } j = _
  rw [itemsOf_put (q0 := q) (by rw [pushQ_id]; exact hg'), pushQ_id, pushQ_items, hid]
  by_cases e : j = x.1
  · rw [if_pos e, if_pos e, e, itemsOf_get hg]
  · rw [if_neg e, if_neg e]
theorem tot_round {S : PS} (h : S.Ok) (ht : 0 < totQ S.qs) : S.round ≠ [] := by
  have : ∀ l : List PQ, 0 < totQ l → ∃ q ∈ l, q.items ≠ [] := by
    intro l
    induction l with
    | nil => intro h; exact absurd h (by simp [totQ, sumQ])
    | cons p l ih =>
      intro h
      by_cases hp : p.items = []
      · have h2 : 0 < totQ l := by
          unfold totQ sumQ at h
          rw [hp] at h
          unfold totQ
          simpa using h
        obtain ⟨q, hq, hne⟩ := ih h2
        exact ⟨q, List.mem_cons_of_mem _ hq, hne⟩
      · exact ⟨p, List.mem_cons_self, hp⟩
  obtain ⟨q, hq, hne⟩ := this _ ht
  intro e
  have := (h.rm q.id).2 ⟨q, getQ_of h.nd hq, hne⟩
  rw [e] at this
  cases this
theorem tot_zero {S : PS} (h : totQ S.qs = 0) (id : Int) : itemsOf S id = [] := by
  unfold itemsOf
  cases hg : getQ id S.qs with
  | none => rfl
  | some q =>
    have := len_le_tot hg
    exact List.eq_nil_of_length_eq_zero (by simp only; omega)
/-! In and out. -/
def upd (L : Nat → List Int) (j : Nat) (l : List Int) : Nat → List Int := fun i => if i = j then l else L i
theorem upd_at (L : Nat → List Int) (j : Nat) (l : List Int) : upd L j l j = l := if_pos rfl
theorem upd_ne (L : Nat → List Int) {i j : Nat} (l : List Int) (h : i ≠ j) : upd L j l i = L i := if_neg h
structure NnP (S : PS) (I O : Nat → List Int) (c N : Nat) : Prop where
  ok : S.Ok
  ids : S.qs.map PQ.id = [0, 1, 2]
  r : ∀ j : Nat, j < 3 → ∃ R, I j = O j ++ R ∧ itemsOf S (j : Int) = R.map fun n => ((j : Int), n)
  t : totQ S.qs = c
  n : ∀ j, (I j).length ≤ N
theorem NnP.push {S : PS} {I O : Nat → List Int} {c N j : Nat} {n : Int} (h : NnP S I O c N) (hj : j < 3) (hn : 1 ≤ n ∧ n ≤ 65536) : pushE S ((j : Int), n) = 0 ∧ NnP (pushA S ((j : Int), n)) (upd I j (I j ++ [n])) O (c + 1) (N + 1) := by
  have hm : ((j : Int), n).1 ∈ S.qs.map PQ.id := by
    rw [h.ids]
    match j, hj with
    | 0, _ | 1, _ | 2, _ => simp
  obtain ⟨h1, h2, h3, h4, _⟩ := push_items h.ok hm hn
  refine ⟨h1, pushA_ok h.ok _, h3.trans h.ids, fun i hi => ?_, by rw [h4, h.t], fun i => ?_⟩
  · obtain ⟨R, hR, hit⟩ := h.r i hi
    by_cases e : i = j
    · subst e
      refine ⟨R ++ [n], by rw [upd_at, hR, List.append_assoc], ?_⟩
      rw [h2, if_pos rfl, hit, List.map_append]
      rfl
    · refine ⟨R, by rw [upd_ne _ _ e, hR], ?_⟩
      rw [h2, if_neg (show ¬ (i : Int) = (j : Int) by omega), hit]
  · by_cases e : i = j
    · subst e
      rw [upd_at, List.length_append]
      have := h.n i
      simp
      omega
    · rw [upd_ne _ _ e]
      have := h.n i
      omega
theorem NnP.next {S S' : PS} {I O : Nat → List Int} {c N : Nat} {x : Int × Int} (h : NnP S I O c N) (ht : Took S S' x) : ∃ j : Nat, j < 3 ∧ x.1 = (j : Int) ∧ NnP S' I (upd O j (O j ++ [x.2])) (c - 1) N ∧ (O j).length < N := by
  obtain ⟨⟨xs, e1, e2⟩, h2, h3, h4, h5⟩ := ht.items h.ok
  rw [h.ids] at h5
  obtain ⟨j, hj, hx⟩ : ∃ j : Nat, j < 3 ∧ x.1 = (j : Int) := by
    simp at h5
    rcases h5 with e | e | e
    · exact ⟨0, by omega, e⟩
    · exact ⟨1, by omega, e⟩
    · exact ⟨2, by omega, e⟩
  obtain ⟨T, q, rest, xs', hT, hf, hd, hS'⟩ := ht.t
  have hok' : S'.Ok := by rw [hS']; exact takeP_ok (hT.ok h.ok) hf hd
  obtain ⟨R, hR, hit⟩ := h.r j hj
  rw [hx] at e1 e2
  rw [hit] at e1
  match R, hR, hit, e1 with
  | [], _, _, e1 => cases e1
  | n :: R', hR, hit, e1 =>
    rw [List.map_cons] at e1
    have e3 := (List.cons.inj e1).1
    have e4 := (List.cons.inj e1).2
    have hn : x.2 = n := by rw [← e3]
    refine ⟨j, hj, hx, ⟨hok', h3.trans h.ids, fun i hi => ?_, by have := h.t; omega, h.n⟩, ?_⟩
    · by_cases e : i = j
      · subst e
        refine ⟨R', by rw [upd_at, hR, hn, List.append_assoc]; rfl, by rw [e2, ← e4]⟩
      · obtain ⟨R2, hR2, hit2⟩ := h.r i hi
        refine ⟨R2, by rw [upd_ne _ _ e, hR2], ?_⟩
        rw [h2 _ (by rw [hx]; omega), hit2]
    · have := h.n j
      rw [hR, List.length_append, List.length_cons] at this
      omega
theorem NnP.fin {S : PS} {I O : Nat → List Int} {N : Nat} (h : NnP S I O 0 N) {j : Nat} (hj : j < 3) : I j = O j := by
  obtain ⟨R, hR, hit⟩ := h.r j hj
  rw [tot_zero h.t] at hit
  have : R = [] := by
    cases R with
    | nil => rfl
    | cons a R => cases hit
  rw [hR, this, List.append_nil]
end Go.Proofs.Ytgfbhclkpephnaa
