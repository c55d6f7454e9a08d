/-
  The document's table: Put by lists, what its memory holds (chapter 18).
-/
import Derived.Test.YtnommofekjiiaaaTb4
namespace Go.Proofs.Ytnommofekjiiaaa
open Go Go.RowKit Go.MuLone
set_option linter.unusedVariables false
set_option linter.unusedSimpArgs false
set_option maxRecDepth 100000
set_option maxHeartbeats 2000000
theorem infoED : (Try.prog.info? 75).map (fun i => (i.zero, i.size, i.bytes)) = some (some (.agg #[.int .i64 0, .int .u32 0, .int .i64 0, .slice none 0 0]), 4, 48) := by kernel_rfl
theorem getD_at {k : Int × Int} : ∀ {A : List DE} {d : DE}, getD k A = some d → ∃ i : Nat, A[i]? = some d ∧ d.1 = k ∧ ∀ (j : Nat) e, j < i → A[j]? = some e → ¬ e.1 = k
  | [], _, h => by cases h
  | e :: A, d, h => by
    unfold getD at h
    by_cases he : e.1 = k
    · rw [if_pos he] at h
      cases h
      exact ⟨0, rfl, he, fun j _ hj => absurd hj (Nat.not_lt_zero _)⟩
    · rw [if_neg he] at h
      obtain ⟨i, h1, h2, h3⟩ := getD_at h
      refine ⟨i + 1, by simpa using h1, h2, fun j f hj hf => ?_⟩
      cases j with
      | zero => simp at hf; subst hf; exact he
      | succ j => exact h3 j f (by omega) (by simpa using hf)
theorem getD_no {k : Int × Int} : ∀ {A : List DE}, getD k A = none → ∀ (j : Nat) e, A[j]? = some e → ¬ e.1 = k
  | [], _, j, e, h => by simp at h
  | d :: A, h, j, e, hj => by
    unfold getD at h
    by_cases hd : d.1 = k
    · rw [if_pos hd] at h; cases h
    · rw [if_neg hd] at h
      cases j with
      | zero => simp at hj; subst hj; exact hd
      | succ j => exact getD_no h j e (by simpa using hj)
theorem map_set {A : List DE} (hn : (A.map Prod.fst).Nodup) {i : Nat} {d : DE} (hi : A[i]? = some d) (f : DE → DE) : (A.map fun e => if e.1 = d.1 then f e else e) = A.set i (f d) := by
  apply List.ext_getElem?
  intro j
  rw [List.getElem?_map, List.getElem?_set]
  by_cases hj : i = j
  · subst hj
    rw [if_pos rfl, hi, if_pos (List.getElem?_eq_some_iff.1 hi).1]
    simp
  · rw [if_neg hj]
    cases hq : A[j]? with
    | none => rfl
    | some e =>
      have : ¬ e.1 = d.1 := fun h => hj (nodup_at hn (x := d.1) (by rw [List.getElem?_map, hi]; rfl) (by rw [List.getElem?_map, hq, Option.map_some, h]))
      simp [this]
theorem dsC_set : ∀ (A : List DE) (vs : List Value) (i : Nat) (d : DE) (l' : List Sh) (u : Value), A[i]? = some d → vs.length = A.length → (dsC A vs).set (i * 4 + 3) u = dsC (A.set i (d.1, d.2.1, l')) (vs.set i u)
  | e :: A, v :: vs, 0, d, l', u, h, hl => by
    simp only [List.getElem?_cons_zero, Option.some.injEq] at h
    subst h
    rfl
  | e :: A, v :: vs, i + 1, d, l', u, h, hl => by
    have ih := dsC_set A vs i d l' u (by simpa using h) (by simpa using hl)
    show (deC e v ++ dsC A vs).set ((i + 1) * 4 + 3) u = deC e v ++ dsC (A.set i _) (vs.set i u)
    rw [← ih, List.set_append_right _ _ (by simp [deC]; omega)]
    have : (i + 1) * 4 + 3 - (deC e v).length = i * 4 + 3 := by simp [deC]; omega
    rw [this]
  | [], _, _, _, _, _, h, _ => by simp at h
  | _ :: _, [], _, _, _, _, _, h => by simp at h
theorem dsC_app : ∀ (A : List DE) (vs : List Value) (B : List DE) (us : List Value), vs.length = A.length → dsC (A ++ B) (vs ++ us) = dsC A vs ++ dsC B us
  | [], [], _, _, _ => rfl
  | d :: A, v :: vs, B, us, h => by
    show deC d v ++ dsC (A ++ B) (vs ++ us) = deC d v ++ dsC A vs ++ dsC B us
    rw [dsC_app A vs B us (by simpa using h), List.append_assoc]
  | [], _ :: _, _, _, h => by simp at h
  | _ :: _, [], _, _, h => by simp at h
theorem dsC_one : ∀ (A : List DE) (vs : List Value), (∀ v ∈ vs, v.oneCell' = true) → ∀ u ∈ dsC A vs, u.oneCell' = true
  | d :: A, v :: vs, h, u, hu => by
    rcases List.mem_append.1 hu with hu | hu
    · simp only [deC, List.mem_cons, List.not_mem_nil, or_false] at hu
      rcases hu with rfl | rfl | rfl | rfl
      · rfl
      · rfl
      · rfl
      · exact h _ List.mem_cons_self
    · exact dsC_one A vs (fun v hv => h v (List.mem_cons_of_mem _ hv)) u hu
  | [], _, _, u, hu => by cases hu
  | _ :: _, [], _, u, hu => by cases hu
theorem DocA.one {base : Nat} {w : World} {v : Value} {A : List DE} {vs : List Value} (h : DocA base w v A vs) : ∀ u ∈ dsC A vs, u.oneCell' = true := dsC_one A vs fun u hu => by
  obtain ⟨i, hi, rfl⟩ := List.getElem_of_mem hu
  obtain ⟨a, c, e⟩ := (h.e i _ _ (List.getElem?_eq_getElem (by rw [← h.l]; exact hi)) (List.getElem?_eq_getElem hi)).form
  rw [e]
  rfl
theorem DocA.le {b b' : Nat} {w : World} {v : Value} {A : List DE} {vs : List Value} (h : DocA b w v A vs) (hb : b' ≤ b) : DocA b' w v A vs := ⟨h.s.le hb, h.l, fun i d u h1 h2 => (h.e i d u h1 h2).le hb⟩
/-- What the keys and the shards of the entries keep to. -/
structure DOkA (A : List DE) : Prop where
  n : (A.map Prod.fst).Nodup
  l : A.length ≤ 1000
  e : ∀ d ∈ A, Rise d.2.2 ∧ 0 < d.2.2.length ∧ d.2.2.length ≤ 100
/-- A list of entries that a call made: its row from block B on, shards from there on or from below H. -/
structure DocF (base H B : Nat) (w : World) (v : Value) (A : List DE) (vs : List Value) : Prop where
  s : Seg w B 75 4 v A.length (dsC A vs)
  l : vs.length = A.length
  e : ∀ (i : Nat) (d : DE) (u : Value), A[i]? = some d → vs[i]? = some u → ShS w base u d.2.2 ∧ ∀ g, u.ownBlock = some g → g < H ∨ B ≤ g
theorem DocF.fin {base H B : Nat} {w : World} {v : Value} {A : List DE} {vs : List Value} (h : DocF base H B w v A vs) (hb : base ≤ B) : DocA base w v A vs := ⟨h.s.le hb, h.l, fun i d u a b => (h.e i d u a b).1⟩
theorem DocF.only {base H B : Nat} {w w' : World} {v : Value} {A : List DE} {vs : List Value} {S : List Nat} (h : DocF base H B w v A vs) (ho : Only S w w') (hS : ∀ x ∈ S, H ≤ x ∧ x < B) : DocF base H B w' v A vs :=
  ⟨h.s.only ho (fun g hg hm => by have := (h.s.blk g hg).1; have := hS g hm; omega), h.l, fun i d u a b => by
    obtain ⟨h1, h2⟩ := h.e i d u a b
    exact ⟨Seg.only h1 ho (fun g hg hm => by have := h2 g hg; have := hS g hm; omega), h2⟩⟩
theorem DocF.chain {base H B : Nat} {w w' : World} {v : Value} {A : List DE} {vs : List Value} (h : DocF base H B w v A vs) (hb : Below w.heap.size w w') : DocF base H B w' v A vs :=
  ⟨h.s.chain hb, h.l, fun i d u a b => ⟨(h.e i d u a b).1.chain hb, (h.e i d u a b).2⟩⟩
/-- One more entry. -/
theorem DocF.add {base H B n : Nat} {w0 w : World} {v0 v u : Value} {A : List DE} {vs : List Value} {d : DE} (h : DocA base w0 v0 A vs) (hH : w0.heap.size = H) (hb : Below H w0 w) (hB : base ≤ B)
    (hs : Seg w B 75 4 v n (dsC A vs ++ deC d u)) (hn : n = A.length + 1) (hu : ShS w B u d.2.2) : DocF base H B w v (A ++ [d]) (vs ++ [u]) := by
  subst hn hH
  refine ⟨?_, by simp [h.l], fun i e z hi hz => ?_⟩
  · rw [dsC_app _ _ _ _ h.l, List.length_append]
    exact hs
  · have hlt : i < (A ++ [d]).length := (List.getElem?_eq_some_iff.1 hi).1
    rw [List.length_append, List.length_singleton] at hlt
    by_cases h9 : i < A.length
    · rw [List.getElem?_append_left h9] at hi
      rw [List.getElem?_append_left (by rw [h.l]; exact h9)] at hz
      have hc := h.e i e z hi hz
      exact ⟨hc.chain hb, fun g hg => .inl (hc.blk g hg).2⟩
    · obtain rfl : i = A.length := by omega
      rw [List.getElem?_append_right (Nat.le_refl _), Nat.sub_self] at hi
      rw [List.getElem?_append_right (by rw [h.l]; exact Nat.le_refl _), h.l, Nat.sub_self] at hz
      cases hi
      cases hz
      exact ⟨hu.le hB, fun g hg => .inr (hu.blk g hg).1⟩
/-- One entry's shards are others. -/
theorem DocF.set {base H B B2 n g o c : Nat} {w0 w : World} {v0 u : Value} {A : List DE} {vs : List Value} {i : Nat} {d : DE} {l' : List Sh} (h : DocA base w0 v0 A vs) (hH : w0.heap.size = H) (hb : Below H w0 w) (hB : base ≤ B) (hHB : H ≤ B)
    (hs : Seg w B 75 4 (.slice (some ⟨g, o, none⟩) n c) n (dsC A vs)) (hn : n = A.length) (hi : A[i]? = some d) (hu : ShS w B2 u l') (hg : g < B2) (hB2 : B ≤ B2) :
    DocF base H B (w.setCell ⟨g, o + i * 4 + 3, none⟩ u) (.slice (some ⟨g, o, none⟩) n c) (A.set i (d.1, d.2.1, l')) (vs.set i u) := by
  subst hn hH
  have hil := (List.getElem?_eq_some_iff.1 hi).1
  have hgB : B ≤ g := (hs.blk g rfl).1
  refine ⟨?_, by simp [h.l], fun j e z hj hz => ?_⟩
  · have h1 := hs.put (i * 4 + 3) u (by omega)
    rw [dsC_set A vs i d l' u hi h.l, ← Nat.add_assoc] at h1
    rw [List.length_set]
    exact h1
  · by_cases h9 : i = j
    · subst h9
      rw [List.getElem?_set_self hil] at hj
      rw [List.getElem?_set_self (by rw [h.l]; exact hil)] at hz
      cases hj
      cases hz
      exact ⟨Seg.setOther (Seg.le hu (by omega)) _ _ (fun x hx => by have := (hu.blk x hx).1; show x ≠ g; omega), fun x hx => .inr (by have := (hu.blk x hx).1; omega)⟩
    · rw [List.getElem?_set_ne h9] at hj hz
      have hc := h.e j e z hj hz
      exact ⟨Seg.setOther (hc.chain hb) _ _ (fun x hx => by have := (hc.blk x hx).2; show x ≠ g; omega), fun x hx => .inl (hc.blk x hx).2⟩
/-- What knows the document's Put. -/
def PB (W : World) (b : Nat) (t z : Array Value) (k1 k2 xi : Int) (xt : List UInt8) : Prop :=
  Blk W b t 30 ∧ Blk W (b + 1) #[.int .i64 k1, .int .u32 k2] 35 ∧ Blk W (b + 1 + 1) #[.int .i64 xi, Str xt] 32 ∧ Blk W (b + 1 + 1 + 1) z 30
theorem PB.below {W W' : World} {b : Nat} {t z : Array Value} {k1 k2 xi : Int} {xt : List UInt8} (h : PB W b t z k1 k2 xi xt) (hb : Below W.heap.size W W') : PB W' b t z k1 k2 xi xt :=
  ⟨h.1.below hb h.1.lt, h.2.1.below hb h.2.1.lt, h.2.2.1.below hb h.2.2.1.lt, h.2.2.2.below hb h.2.2.2.lt⟩
theorem PB.far {W : World} {b : Nat} {t z : Array Value} {k1 k2 xi : Int} {xt : List UInt8} (h : PB W b t z k1 k2 xi xt) {g : Nat} (hg : b + 1 + 1 + 1 < g) (o : Nat) (v : Value) : PB (W.setCell ⟨g, o, none⟩ v) b t z k1 k2 xi xt :=
  ⟨h.1.setOther _ _ (by simp; omega), h.2.1.setOther _ _ (by simp; omega), h.2.2.1.setOther _ _ (by simp; omega), h.2.2.2.setOther _ _ (by simp; omega)⟩
def DPut (base : Nat) (w : World) (room : Nat) (R : List DE) (n : Nat) (e : Ending) (w' : World) : Prop :=
  ∃ a cap vs', e = .returned (.tuple #[.agg #[.int .i64 (room : Int), .slice a R.length cap], .int .i64 (n : Int)]) ∧ DocA base w' (.slice a R.length cap) R vs' ∧ Below w.heap.size w w'
theorem fin_set (w : World) (b : Nat) (u v : Value) : Only [b] w ((w.setCell ⟨b, 0, none⟩ u).setCell ⟨b, 1, none⟩ v) := ((Only.refl _ _).setCell _ _ (.inl (by simp))).setCell _ _ (.inl (by simp))
end Go.Proofs.Ytnommofekjiiaaa
