/-
  Whose turn it is: fair shares: plain (chapter 17).
-/
import Derived.Test.YtgfbhclkpephnaaDrN0
namespace Go.Proofs.Ytgfbhclkpephnaa
open Go Go.RowKit
set_option linter.unusedVariables false
set_option linter.unusedSimpArgs false
def F12 (l : List Int) : List Int := l.filter fun i => decide (i = 1 ∨ i = 2)
theorem F12_one (l : List Int) : F12 (1 :: l) = 1 :: F12 l := by simp [F12]
theorem F12_two (l : List Int) : F12 (2 :: l) = 2 :: F12 l := by simp [F12]
theorem F12_no {i : Int} (h1 : i ≠ 1) (h2 : i ≠ 2) (l : List Int) : F12 (i :: l) = F12 l := by simp [F12, h1, h2]
theorem F12_app (l m : List Int) : F12 (l ++ m) = F12 l ++ F12 m := by simp [F12]
theorem F12_one' : F12 [1] = [1] := by simp [F12]
theorem F12_two' : F12 [2] = [2] := by simp [F12]
theorem F12_no' {i : Int} (h1 : i ≠ 1) (h2 : i ≠ 2) : F12 [i] = [] := by simp [F12, h1, h2]
/-- A queue that always has items. -/
structure QF (z w : Int) (q : PQ) : Prop where
  wt : q.weight = w
  i : ∀ x ∈ q.items, 1 ≤ x.2 ∧ x.2 ≤ 16
  ne : q.items ≠ []
  d0 : 0 ≤ q.deficit
  dn : q.served = false → q.deficit ≤ 15
  dm : q.deficit ≤ z * w + 15
/-- What was taken, and whose turn it is. -/
def FA (z w1 w2 : Int) (q1 q2 : PQ) (r : List Int) (a b g : Int) : Prop :=
  a = g * (z * w1) - q1.deficit ∧ b = g * (z * w2) - q2.deficit ∧ q1.served = false ∧ (q2.served = true → F12 r = [2, 1] ∧ r.head? = some 2) ∧ (q2.served = false → F12 r = [1, 2])
def FB (z w1 w2 : Int) (q1 q2 : PQ) (r : List Int) (a b g : Int) : Prop :=
  a = (g + 1) * (z * w1) - q1.deficit ∧ b = g * (z * w2) - q2.deficit ∧ q2.served = false ∧ (q1.served = true → F12 r = [1, 2] ∧ r.head? = some 1) ∧ (q1.served = false → F12 r = [2, 1])
def FI (z w1 w2 : Int) (S : PS) (a b : Int) : Prop :=
  ∃ q1 q2 g, getQ 1 S.qs = some q1 ∧ getQ 2 S.qs = some q2 ∧ QF z w1 q1 ∧ QF z w2 q2 ∧ (FA z w1 w2 q1 q2 S.round a b g ∨ FB z w1 w2 q1 q2 S.round a b g)
section
variable {z w1 w2 : Int} {S : PS} {a b : Int}
theorem QF.serve {w : Int} {q : PQ} (h : QF z w q) (hz : 0 ≤ z * w) (hs : q.served = false) : QF z w { q with deficit := q.deficit + z * q.weight, served := true } := by
  have := h.d0
  have := h.dn hs
  refine ⟨h.wt, h.i, h.ne, ?_, fun e => (by cases e), ?_⟩
  · show 0 ≤ q.deficit + z * q.weight
    rw [h.wt]
    omega
  · show q.deficit + z * q.weight ≤ z * w + 15
    rw [h.wt]
    omega
theorem QF.turn {w : Int} {q : PQ} (h : QF z w q) {x : Int × Int} (hx : x ∈ q.items) (hd : q.deficit < x.2) : QF z w { q with served := false } := by
  have := (h.i x hx).2
  exact ⟨h.wt, h.i, h.ne, h.d0, fun _ => by show q.deficit ≤ 15; omega, h.dm⟩
theorem QF.take {w : Int} {q : PQ} (h : QF z w q) {x : Int × Int} {xs : List (Int × Int)} (hx : q.items = x :: xs) (hne : xs ≠ []) (hd : x.2 ≤ q.deficit) (hs : q.served = true) : QF z w { q with deficit := q.deficit - x.2, items := xs } := by
  have h1 := (h.i x (by rw [hx]; exact List.mem_cons_self)).1
  have := h.dm
  exact ⟨h.wt, fun y hy => h.i y (by rw [hx]; exact List.mem_cons_of_mem _ hy), hne, by show 0 ≤ q.deficit - x.2; omega, fun e => (by rw [show q.served = false from e] at hs; cases hs), (by show q.deficit - x.2 ≤ z * w + 15; omega)⟩
theorem getQ_other {q q0 : PQ} {l : List PQ} (hg : getQ q.id l = some q0) {id : Int} (hne : id ≠ q.id) : getQ id (putQ q l) = getQ id l := by
  rw [getQ_putQ hg, if_neg hne]
/-- The first of the round gets its share. -/
theorem FI.serve (h : FI z w1 w2 S a b) (hz1 : 0 ≤ z * w1) (hz2 : 0 ≤ z * w2) (hn : (S.qs.map PQ.id).Nodup) {q : PQ} {rest : List Int} {x : Int × Int} {xs : List (Int × Int)} (hf : Front S q rest x xs) : FI z w1 w2 { S with qs := putQ (servP z q) S.qs } a b := by
  have hg' : getQ (servP z q).id S.qs = some q := by rw [servP_id]; exact hf.g
  cases hs : q.served with
  | true =>
    have e : servP z q = q := if_pos hs
    rw [e, putQ_self hn hf.g]
    exact h
  | false =>
    have e : servP z q = { q with deficit := q.deficit + z * q.weight, served := true } := if_neg (by rw [hs]; simp)
    obtain ⟨q1, q2, g, h1, h2, k1, k2, hc⟩ := h
    have hr := hf.r
    by_cases i1 : q.id = 1
    · have hq : q = q1 := by have := hf.g; rw [i1, h1] at this; cases this; rfl
      subst hq
      rw [i1] at hr
      refine ⟨servP z q, q2, g, ?_, ?_, ?_, k2, ?_⟩
      · show getQ 1 (putQ (servP z q) S.qs) = _
        rw [getQ_putQ hg', servP_id, if_pos i1.symm]
      · show getQ 2 (putQ (servP z q) S.qs) = _
        rw [getQ_other hg' (by rw [servP_id, i1]; decide)]
        exact h2
      · rw [e]; exact k1.serve hz1 hs
      · rcases hc with ⟨a1, b1, c1, d1, e1⟩ | ⟨a1, b1, c1, d1, e1⟩
        · right
          have s2 : q2.served = false := by
            cases hs2 : q2.served with
            | false => rfl
            | true =>
              have := (d1 hs2).1
              rw [hr, F12_one] at this
              cases this
          have f := e1 s2
          refine ⟨?_, b1, s2, fun _ => ⟨f, by show S.round.head? = _; rw [hr]; rfl⟩, fun hh => ?_⟩
          · rw [e, a1]
            show _ = _ - (q.deficit + z * q.weight)
            rw [k1.wt, Int.add_mul]
            omega
          · rw [e] at hh; cases hh
        · have := e1 hs
          rw [hr, F12_one] at this
          cases this
    · by_cases i2 : q.id = 2
      · have hq : q = q2 := by have := hf.g; rw [i2, h2] at this; cases this; rfl
        subst hq
        rw [i2] at hr
        rcases hc with ⟨a1, b1, c1, d1, e1⟩ | ⟨a1, b1, c1, d1, e1⟩
        · have := e1 hs
          rw [hr, F12_two] at this
          cases this
        · have s1 : q1.served = false := by
            cases hs1 : q1.served with
            | false => rfl
            | true =>
              have := (d1 hs1).1
              rw [hr, F12_two] at this
              cases this
          have f := e1 s1
          refine ⟨q1, servP z q, g + 1, ?_, ?_, k1, by rw [e]; exact k2.serve hz2 hs, .inl ⟨a1, ?_, s1, fun _ => ⟨f, by show S.round.head? = _; rw [hr]; rfl⟩, fun hh => ?_⟩⟩
          · show getQ 1 (putQ (servP z q) S.qs) = _
            rw [getQ_other hg' (by rw [servP_id, i2]; decide)]
            exact h1
          · show getQ 2 (putQ (servP z q) S.qs) = _
            rw [getQ_putQ hg', servP_id, if_pos i2.symm]
          · rw [e, b1]
            show _ = _ - (q.deficit + z * q.weight)
            rw [k2.wt, Int.add_mul]
            omega
          · rw [e] at hh; cases hh
      · refine ⟨q1, q2, g, ?_, ?_, k1, k2, hc⟩
        · show getQ 1 (putQ (servP z q) S.qs) = _
          rw [getQ_other hg' (by rw [servP_id]; exact fun e => i1 e.symm)]
          exact h1
        · show getQ 2 (putQ (servP z q) S.qs) = _
          rw [getQ_other hg' (by rw [servP_id]; exact fun e => i2 e.symm)]
          exact h2
/-- It does not suffice: the next one's turn. -/
theorem FI.turn (h : FI z w1 w2 S a b) {q : PQ} {rest : List Int} {x : Int × Int} {xs : List (Int × Int)} (hf : Front S q rest x xs) (hs : q.served = true) (hd : q.deficit < x.2) : FI z w1 w2 { S with qs := putQ { q with served := false } S.qs, round := rest ++ [q.id] } a b := by
  have hg' : getQ ({ q with served := false } : PQ).id S.qs = some q := hf.g
  have hx : x ∈ q.items := by rw [hf.i]; exact List.mem_cons_self
  obtain ⟨q1, q2, g, h1, h2, k1, k2, hc⟩ := h
  have hr := hf.r
  by_cases i1 : q.id = 1
  · have hq : q = q1 := by have := hf.g; rw [i1, h1] at this; cases this; rfl
    subst hq
    rw [i1] at hr
    rcases hc with ⟨a1, b1, c1, d1, e1⟩ | ⟨a1, b1, c1, d1, e1⟩
    · rw [c1] at hs; cases hs
    · have f := (d1 hs).1
      rw [hr, F12_one] at f
      have f2 : F12 rest = [2] := (List.cons.inj f).2
      refine ⟨{ q with served := false }, q2, g, ?_, ?_, k1.turn hx hd, k2, .inr ⟨a1, b1, c1, fun hh => (by cases hh), fun _ => (by show F12 (rest ++ [q.id]) = _; rw [i1, F12_app, f2, F12_one']; rfl)⟩⟩
      · show getQ 1 (putQ _ S.qs) = _
        rw [getQ_putQ hg', if_pos i1.symm]
      · show getQ 2 (putQ _ S.qs) = _
        rw [getQ_other hg' (by show (2 : Int) ≠ q.id; rw [i1]; decide)]
        exact h2
  · by_cases i2 : q.id = 2
    · have hq : q = q2 := by have := hf.g; rw [i2, h2] at this; cases this; rfl
      subst hq
      rw [i2] at hr
      rcases hc with ⟨a1, b1, c1, d1, e1⟩ | ⟨a1, b1, c1, d1, e1⟩
      · have f := (d1 hs).1
        rw [hr, F12_two] at f
        have f2 : F12 rest = [1] := (List.cons.inj f).2
        refine ⟨q1, { q with served := false }, g, ?_, ?_, k1, k2.turn hx hd, .inl ⟨a1, b1, c1, fun hh => (by cases hh), fun _ => (by show F12 (rest ++ [q.id]) = _; rw [i2, F12_app, f2, F12_two']; rfl)⟩⟩
        · show getQ 1 (putQ _ S.qs) = _
          rw [getQ_other hg' (by show (1 : Int) ≠ q.id; rw [i2]; decide)]
          exact h1
        · show getQ 2 (putQ _ S.qs) = _
          rw [getQ_putQ hg', if_pos i2.symm]
      · rw [c1] at hs; cases hs
    · have hh : S.round.head? = some q.id := by rw [hr]; rfl
      have f3 : F12 (rest ++ [q.id]) = F12 S.round := by rw [hr, F12_app, F12_no' i1 i2, List.append_nil, F12_no i1 i2]
      refine ⟨q1, q2, g, ?_, ?_, k1, k2, ?_⟩
      · show getQ 1 (putQ _ S.qs) = _
        rw [getQ_other hg' (fun e => i1 e.symm)]
        exact h1
      · show getQ 2 (putQ _ S.qs) = _
        rw [getQ_other hg' (fun e => i2 e.symm)]
        exact h2
      · rcases hc with ⟨a1, b1, c1, d1, e1⟩ | ⟨a1, b1, c1, d1, e1⟩
        · exact .inl ⟨a1, b1, c1, fun hs2 => by have := (d1 hs2).2; rw [hh] at this; exact absurd (Option.some.inj this) i2, fun hs2 => by show F12 (rest ++ [q.id]) = _; rw [f3]; exact e1 hs2⟩
        · exact .inr ⟨a1, b1, c1, fun hs1 => by have := (d1 hs1).2; rw [hh] at this; exact absurd (Option.some.inj this) i1, fun hs1 => by show F12 (rest ++ [q.id]) = _; rw [f3]; exact e1 hs1⟩
def add1 (x : Int × Int) : Int := if x.1 = 1 then x.2 else 0
def add2 (x : Int × Int) : Int := if x.1 = 2 then x.2 else 0
/-- It suffices. -/
theorem FI.take (h : FI z w1 w2 S a b) {q : PQ} {rest : List Int} {x : Int × Int} {xs : List (Int × Int)} (hf : Front S q rest x xs) (hs : q.served = true) (hd : x.2 ≤ q.deficit) (hx1 : x.1 = q.id) (hne : q.id = 1 ∨ q.id = 2 → xs ≠ []) (d : Int) (hdd : xs ≠ [] → d = q.deficit - x.2) :
    FI z w1 w2 { S with qs := putQ { q with deficit := d, items := xs } S.qs, round := if xs = [] then rest else S.round } (a + add1 x) (b + add2 x) := by
  have hg' : getQ ({ q with deficit := d, items := xs } : PQ).id S.qs = some q := hf.g
  obtain ⟨q1, q2, g, h1, h2, k1, k2, hc⟩ := h
  have hr := hf.r
  by_cases i1 : q.id = 1
  · have hq : q = q1 := by have := hf.g; rw [i1, h1] at this; cases this; rfl
    subst hq
    have hxn := hne (.inl i1)
    have hd' := hdd hxn
    subst hd'
    have e1' : add1 x = x.2 := if_pos (by rw [hx1, i1])
    have e2' : add2 x = 0 := if_neg (by rw [hx1, i1]; decide)
    rw [if_neg hxn, e1', e2', Int.add_zero]
    rcases hc with ⟨a1, b1, c1, d1, e1⟩ | ⟨a1, b1, c1, d1, e1⟩
    · rw [c1] at hs; cases hs
    · refine ⟨{ q with deficit := q.deficit - x.2, items := xs }, q2, g, ?_, ?_, k1.take hf.i hxn hd hs, k2, .inr ⟨by show a + x.2 = _ - (q.deficit - x.2); omega, b1, c1, d1, e1⟩⟩
      · show getQ 1 (putQ _ S.qs) = _
        rw [getQ_putQ hg', if_pos i1.symm]
      · show getQ 2 (putQ _ S.qs) = _
        rw [getQ_other hg' (by show (2 : Int) ≠ q.id; rw [i1]; decide)]
        exact h2
  · by_cases i2 : q.id = 2
    · have hq : q = q2 := by have := hf.g; rw [i2, h2] at this; cases this; rfl
      subst hq
      have hxn := hne (.inr i2)
      have hd' := hdd hxn
      subst hd'
      have e1' : add1 x = 0 := if_neg (by rw [hx1, i2]; decide)
      have e2' : add2 x = x.2 := if_pos (by rw [hx1, i2])
      rw [if_neg hxn, e1', e2', Int.add_zero]
      rcases hc with ⟨a1, b1, c1, d1, e1⟩ | ⟨a1, b1, c1, d1, e1⟩
      · refine ⟨q1, { q with deficit := q.deficit - x.2, items := xs }, g, ?_, ?_, k1, k2.take hf.i hxn hd hs, .inl ⟨a1, by show b + x.2 = _ - (q.deficit - x.2); omega, c1, d1, e1⟩⟩
        · show getQ 1 (putQ _ S.qs) = _
          rw [getQ_other hg' (by show (1 : Int) ≠ q.id; rw [i2]; decide)]
          exact h1
        · show getQ 2 (putQ _ S.qs) = _
          rw [getQ_putQ hg', if_pos i2.symm]
      · rw [c1] at hs; cases hs
    · have hh : S.round.head? = some q.id := by rw [hr]; rfl
      have e1' : add1 x = 0 := if_neg (by rw [hx1]; exact i1)
      have e2' : add2 x = 0 := if_neg (by rw [hx1]; exact i2)
      rw [e1', e2', Int.add_zero, Int.add_zero]
      have f3 : F12 (if xs = [] then rest else S.round) = F12 S.round := by
        split
        · rw [hr, F12_no i1 i2]
        · rfl
      refine ⟨q1, q2, g, ?_, ?_, k1, k2, ?_⟩
      · show getQ 1 (putQ _ S.qs) = _
        rw [getQ_other hg' (fun e => i1 e.symm)]
        exact h1
      · show getQ 2 (putQ _ S.qs) = _
        rw [getQ_other hg' (fun e => i2 e.symm)]
        exact h2
      · rcases hc with ⟨a1, b1, c1, d1, e1⟩ | ⟨a1, b1, c1, d1, e1⟩
        · exact .inl ⟨a1, b1, c1, fun hs2 => by have := (d1 hs2).2; rw [hh] at this; exact absurd (Option.some.inj this) i2, fun hs2 => by show F12 (if xs = [] then rest else S.round) = _; rw [f3]; exact e1 hs2⟩
        · exact .inr ⟨a1, b1, c1, fun hs1 => by have := (d1 hs1).2; rw [hh] at this; exact absurd (Option.some.inj this) i1, fun hs1 => by show F12 (if xs = [] then rest else S.round) = _; rw [f3]; exact e1 hs1⟩
end
theorem FI.turned {z w1 w2 : Int} {S T : PS} {a b : Int} (hT : Turned S T) (hS : S.Ok) (hq : S.quantum = z) (hz1 : 0 ≤ z * w1) (hz2 : 0 ≤ z * w2) (h : FI z w1 w2 S a b) : FI z w1 w2 T a b := by
  induction hT with
  | refl => exact h
  | snoc ht hf hd ih =>
    rename_i T q rest x xs
    have hTok := ht.ok hS
    have hqT : T.quantum = z := ht.quantum.trans hq
    rw [hqT] at hd
    have h1 := ih.serve hz1 hz2 hTok.nd hf
    have hf1 : Front ({ T with qs := putQ (servP z q) T.qs } : PS) (servP z q) rest x xs := ⟨by rw [servP_id]; exact hf.r, by rw [servP_id]; show getQ q.id (putQ (servP z q) T.qs) = _; rw [getQ_putQ (by rw [servP_id]; exact hf.g), servP_id, if_pos rfl], by rw [servP_items]; exact hf.i⟩
    have h2 := h1.turn hf1 (servP_served _ _) hd
    unfold turnP
    rw [hqT]
    have e : ({ T with qs := putQ { servP z q with served := false } (putQ (servP z q) T.qs), round := rest ++ [(servP z q).id] } : PS) = { T with qs := putQ { servP z q with served := false } T.qs, round := rest ++ [q.id] } := by
      rw [putQ_putQ (q := servP z q) (q' := { servP z q with served := false }) rfl T.qs, servP_id]
    have h3 : FI z w1 w2 ({ T with qs := putQ { servP z q with served := false } (putQ (servP z q) T.qs), round := rest ++ [(servP z q).id] } : PS) a b := h2
    rw [e] at h3
    exact h3
theorem FI.took {z w1 w2 : Int} {S S' : PS} {a b : Int} {x : Int × Int} (ht : Took S S' x) (hS : S.Ok) (hq : S.quantum = z) (hz1 : 0 ≤ z * w1) (hz2 : 0 ≤ z * w2) (h : FI z w1 w2 S a b) (hl1 : 1 < (itemsOf S 1).length) (hl2 : 1 < (itemsOf S 2).length) : FI z w1 w2 S' (a + add1 x) (b + add2 x) := by
  obtain ⟨T, q, rest, xs, hT, hf, hd, rfl⟩ := ht.t
  have hTok := hT.ok hS
  have hqT : T.quantum = z := hT.quantum.trans hq
  rw [hqT] at hd
  have h1 := (FI.turned hT hS hq hz1 hz2 h).serve hz1 hz2 hTok.nd hf
  have hf1 : Front ({ T with qs := putQ (servP z q) T.qs } : PS) (servP z q) rest x xs := ⟨by rw [servP_id]; exact hf.r, by rw [servP_id]; show getQ q.id (putQ (servP z q) T.qs) = _; rw [getQ_putQ (by rw [servP_id]; exact hf.g), servP_id, if_pos rfl], by rw [servP_items]; exact hf.i⟩
  have hx1 : x.1 = q.id := ((hTok.q q (getQ_mem hf.g).1).it x (by rw [hf.i]; exact List.mem_cons_self)).1
  have hne : q.id = 1 ∨ q.id = 2 → xs ≠ [] := fun hi e => by
    have e1 : itemsOf S q.id = [x] := by rw [← hT.items, itemsOf_get hf.g, hf.i, e]
    rcases hi with hi | hi
    · rw [hi] at e1; rw [e1] at hl1; simp at hl1
    · rw [hi] at e1; rw [e1] at hl2; simp at hl2
  have h2 := h1.take hf1 (servP_served _ _) hd (by rw [servP_id]; exact hx1) (by rw [servP_id]; exact hne) (if xs = [] then 0 else (servP z q).deficit - x.2) (fun hn => if_neg hn)
  have e : ({ T with qs := putQ { servP z q with deficit := if xs = [] then 0 else (servP z q).deficit - x.2, items := xs } (putQ (servP z q) T.qs), round := if xs = [] then rest else T.round } : PS) = { T with qs := putQ { servP z q with deficit := if xs = [] then 0 else (servP z q).deficit - x.2, items := xs } T.qs, round := if xs = [] then rest else T.round } := by
    rw [putQ_putQ (q := servP z q) (q' := { servP z q with deficit := if xs = [] then 0 else (servP z q).deficit - x.2, items := xs }) rfl T.qs]
  have h3 : FI z w1 w2 ({ T with qs := putQ { servP z q with deficit := if xs = [] then 0 else (servP z q).deficit - x.2, items := xs } (putQ (servP z q) T.qs), round := if xs = [] then rest else T.round } : PS) (a + add1 x) (b + add2 x) := h2
  rw [e] at h3
  have e2 : takeQ T.quantum q x xs = { servP z q with deficit := if xs = [] then 0 else (servP z q).deficit - x.2, items := xs } := by
    unfold takeQ
    rw [hqT]
    split <;> rfl
  unfold takeP
  rw [e2]
  exact h3
/-- Between what bounds it lies. -/
theorem FI.bounds {z w1 w2 : Int} {S : PS} {a b : Int} (h : FI z w1 w2 S a b) (hw1 : 1 ≤ w1) (hw2 : 1 ≤ w2) : -(15 * w2) ≤ a * w2 - b * w1 ∧ a * w2 - b * w1 ≤ z * w1 * w2 + 15 * w1 := by
  obtain ⟨q1, q2, g, h1, h2, k1, k2, hc⟩ := h
  have a0 := Int.mul_nonneg k1.d0 (show 0 ≤ w2 by omega)
  have b0 := Int.mul_nonneg k2.d0 (show 0 ≤ w1 by omega)
  have am := Int.mul_le_mul_of_nonneg_right k1.dm (show 0 ≤ w2 by omega)
  have bm := Int.mul_le_mul_of_nonneg_right k2.dm (show 0 ≤ w1 by omega)
  rw [Int.add_mul] at am bm
  have e1 : z * w2 * w1 = z * w1 * w2 := by rw [Int.mul_assoc, Int.mul_comm w2, ← Int.mul_assoc]
  rw [e1] at bm
  rcases hc with ⟨ha, hb, hs, _⟩ | ⟨ha, hb, hs, _⟩
  · have an := Int.mul_le_mul_of_nonneg_right (k1.dn hs) (show 0 ≤ w2 by omega)
    have e : a * w2 - b * w1 = q2.deficit * w1 - q1.deficit * w2 := by
      rw [ha, hb, Int.sub_mul, Int.sub_mul]
      have : g * (z * w1) * w2 = g * (z * w2) * w1 := by rw [Int.mul_assoc g, Int.mul_assoc g, e1]
      omega
    rw [e]
    omega
  · have bn := Int.mul_le_mul_of_nonneg_right (k2.dn hs) (show 0 ≤ w1 by omega)
    have e : a * w2 - b * w1 = z * w1 * w2 + q2.deficit * w1 - q1.deficit * w2 := by
      rw [ha, hb, Int.sub_mul, Int.sub_mul, Int.add_mul, Int.one_mul, Int.add_mul]
      have : g * (z * w1) * w2 = g * (z * w2) * w1 := by rw [Int.mul_assoc g, Int.mul_assoc g, e1]
      omega
    rw [e]
    omega
end Go.Proofs.Ytgfbhclkpephnaa
