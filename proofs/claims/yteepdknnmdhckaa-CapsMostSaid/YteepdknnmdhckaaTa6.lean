/-
  The table: what it is in memory, and what stays where something else is written (chapter 18).
-/
import Derived.Test.YteepdknnmdhckaaTa5
import Derived.Test.YteepdknnmdhckaaKeyL
namespace Go.Proofs.Yteepdknnmdhckaa
open Go Go.RowKit
set_option linter.unusedVariables false
set_option linter.unusedSimpArgs false
set_option maxRecDepth 100000
set_option maxHeartbeats 1000000
/-- What kind of thing a block is: cells of a type, or no cells. -/
def kindB (w : World) (b : Nat) : Option (Option TypeId) := (w.heap[b]?).map fun o => match o with | .cells _ t _ => some t | _ => none
theorem Blk.kind {w : World} {b : Nat} {cs : Array Value} {t : TypeId} (h : Blk w b cs t) : kindB w b = some (some t) := by unfold Blk at h; unfold kindB; rw [h]; rfl
theorem MapW.kind {κ : Type} {enc : κ → Value} {w : World} {b : Nat} {l : List (κ × Value)} (h : MapW enc w b l) : kindB w b = some none := by
  obtain ⟨es, clock, hm, _⟩ := h
  unfold kindB; rw [hm]; rfl
theorem Seg.kind {w : World} {base g off cap n : Nat} {e : TypeId} {size : Nat} {xs : List Value} (h : Seg w base e size (.slice (some ⟨g, off, none⟩) n cap) n xs) : kindB w g = some (some e) := by
  rcases h.2 with ⟨h0, _⟩ | ⟨g', off', cap', cur, hv, hg, hh, _⟩
  · cases h0
  · cases hv
    unfold kindB; rw [hh]; rfl
theorem kindB.lt {w : World} {b : Nat} {k : Option TypeId} (h : kindB w b = some k) : b < w.heap.size := by
  unfold kindB at h
  cases hb : w.heap[b]? with
  | none => rw [hb] at h; cases h
  | some o => exact (Array.getElem?_eq_some_iff.1 hb).1
/-- Nothing that was there has turned but blocks of these kinds, at base or above. -/
def Turn (base : Nat) (K : List (Option TypeId)) (w w' : World) : Prop := ∃ S, Only S w w' ∧ ∀ b ∈ S, base ≤ b ∧ ∃ k ∈ K, kindB w b = some k
theorem Turn.refl (base : Nat) (K : List (Option TypeId)) (w : World) : Turn base K w w := ⟨[], Only.refl _ _, by simp⟩
theorem Turn.of_below {base : Nat} {K : List (Option TypeId)} {w w' : World} (h : Below w.heap.size w w') : Turn base K w w' := ⟨[], Only.of_below h, by simp⟩
theorem Turn.one {base : Nat} {K : List (Option TypeId)} {w w' : World} {b : Nat} {k : Option TypeId} (h : Only [b] w w') (hb : base ≤ b) (hk : kindB w b = some k) (hK : k ∈ K) : Turn base K w w' := ⟨[b], h, fun x hx => by rw [List.mem_singleton.1 hx]; exact ⟨hb, k, hK, hk⟩⟩
theorem Turn.mono {base : Nat} {K K' : List (Option TypeId)} {w w' : World} (h : Turn base K w w') (hK : ∀ k ∈ K, k ∈ K') : Turn base K' w w' := by
  obtain ⟨S, h1, h2⟩ := h
  exact ⟨S, h1, fun b hb => ⟨(h2 b hb).1, (h2 b hb).2.imp fun k hk => ⟨hK k hk.1, hk.2⟩⟩⟩
theorem Turn.size {base : Nat} {K : List (Option TypeId)} {w w' : World} (h : Turn base K w w') : w.heap.size ≤ w'.heap.size := by
  obtain ⟨S, h1, _⟩ := h
  exact h1.size
theorem Turn.trans {base : Nat} {K : List (Option TypeId)} {a b c : World} (h : Turn base K a b) (k : Turn base K b c) : Turn base K a c := by
  obtain ⟨S, h1, h2⟩ := h
  obtain ⟨T, h3, h4⟩ := k
  refine ⟨S ++ T.filter (fun x => decide (x < a.heap.size) && !decide (x ∈ S)), (h1.mono (fun x hx => .inl (List.mem_append_left _ hx))).trans' h3 (fun x hx => ?_), fun x hx => ?_⟩
  · by_cases hl : x < a.heap.size
    · by_cases hs : x ∈ S
      · exact .inl (List.mem_append_left _ hs)
      · exact .inl (List.mem_append_right _ (List.mem_filter.2 ⟨hx, by simp [hl, hs]⟩))
    · exact .inr (by omega)
  · rcases List.mem_append.1 hx with hx | hx
    · exact h2 x hx
    · obtain ⟨hx, hd⟩ := List.mem_filter.1 hx
      simp at hd
      obtain ⟨h5, q, hq, h6⟩ := h4 x hx
      refine ⟨h5, q, hq, ?_⟩
      unfold kindB at h6 ⊢
      rw [← h1.block x hd.1 hd.2]
      exact h6
theorem Turn.step {base : Nat} {K : List (Option TypeId)} {a b c : World} (h : Turn base K a b) (k : Below b.heap.size b c) : Turn base K a c := h.trans (Turn.of_below k)
theorem Turn.heap {base : Nat} {K : List (Option TypeId)} {w w' : World} (h : Turn base K w w') {b : Nat} {k : Option TypeId} (hk : kindB w b = some k) (hK : k ∉ K) : w'.heap[b]? = w.heap[b]? := by
  obtain ⟨S, h1, h2⟩ := h
  refine h1.block b (kindB.lt hk) fun hm => ?_
  obtain ⟨_, q, hq, h3⟩ := h2 b hm
  rw [hk] at h3
  cases h3
  exact hK hq
theorem Turn.blk {base : Nat} {K : List (Option TypeId)} {w w' : World} (h : Turn base K w w') {b : Nat} {cs : Array Value} {t : TypeId} (hb : Blk w b cs t) (hK : some t ∉ K) : Blk w' b cs t := by
  have := h.heap hb.kind hK
  unfold Blk at *
  rw [this]; exact hb
theorem Turn.map {base : Nat} {K : List (Option TypeId)} {w w' : World} (h : Turn base K w w') {κ : Type} [DecidableEq κ] {enc : κ → Value} {b : Nat} {l : List (κ × Value)} (hb : MapW enc w b l) (hK : none ∉ K) : MapW enc w' b l := hb.same (h.heap hb.kind hK)
theorem Turn.seg {base : Nat} {K : List (Option TypeId)} {w w' : World} (h : Turn base K w w') {base' n : Nat} {e : TypeId} {size : Nat} {v : Value} {xs : List Value} (hs : Seg w base' e size v n xs) (hK : some e ∉ K) : Seg w' base' e size v n xs := by
  refine hs.same fun g hg => ?_
  rcases hs.2 with ⟨hv, _⟩ | ⟨g', off, cap, cur, hv, _, hh, _⟩
  · rw [hv] at hg; cases hg
  · rw [hv] at hg
    obtain rfl : g' = g := by simpa [Value.ownBlock] using hg
    exact h.heap (k := some e) (by unfold kindB; rw [hh]; rfl) hK
theorem Turn.below {base : Nat} {K : List (Option TypeId)} {w w' : World} (h : Turn base K w w') (hb : base ≤ w.heap.size) : Below base w w' := by
  obtain ⟨S, h1, h2⟩ := h
  exact h1.below hb (fun x hx => (h2 x hx).1)
/-- An entry: its key, how many are needed, its shards, when it was made; where it lies, and its shards. -/
structure TE where
  k : Int × Int
  need : Int
  l : List Sh
  made : Nat
  eb : Nat
  sv : Value
/-- A table: its parts (a block each, and a map each), its entries, how many it counts, how many were made, how many there may be. -/
structure TS where
  pv : Value
  ps : List (Nat × Nat)
  es : List TE
  n : Nat
  made : Nat
  room : Nat
/-- In which part a key stands. -/
def hash0 (k : Int × Int) : Int := (k.1 % 4294967296 * 31 % 4294967296 + k.2) % 4294967296
def hashN (P : Nat) (k : Int × Int) : Int := hash0 k % (P : Int)
def partOf (P : Nat) (k : Int × Int) : Nat := (hashN P k).toNat
def TE.mp (e : TE) : (Int × Int) × Value := (e.k, .pointer (some ⟨e.eb, 0, none⟩))
def inP (P : Nat) (es : List TE) (j : Nat) : List ((Int × Int) × Value) := (es.filter fun e => decide (partOf P e.k = j)).map TE.mp
abbrev tabC (s : TS) : Array Value := #[s.pv, .int .i32 0, .int .u32 0, .int .i64 (s.room : Int), .int .i64 (s.n : Int), .int .i64 (s.made : Int)]
abbrev partC (z : Int) (m : Nat) : Array Value := #[.int .i32 z, .int .u32 0, .map (some m)]
abbrev entC (e : TE) : Array Value := #[.int .i64 e.need, e.sv, .int .i64 (e.made : Int)]
def lockOf (hd : Option Nat) (j : Nat) : Int := if hd = some j then 1 else 0
structure EntM (w : World) (base : Nat) (e : TE) : Prop where
  b : Blk w e.eb (entC e) 211
  s : ShS w base e.sv e.l
  lo : base ≤ e.eb
structure TabM (base : Nat) (w : World) (bt : Nat) (s : TS) (hd : Option Nat) : Prop where
  tb : Blk w bt (tabC s) 102
  lo : base ≤ bt
  pa : Seg w base 103 1 s.pv s.ps.length (s.ps.map fun p => .pointer (some ⟨p.1, 0, none⟩))
  pc : ∀ j p, s.ps[j]? = some p → Blk w p.1 (partC (lockOf hd j) p.2) 106 ∧ base ≤ p.1
  pm : ∀ j p, s.ps[j]? = some p → MapW encK w p.2 (inP s.ps.length s.es j) ∧ base ≤ p.2
  n1 : (s.ps.map Prod.fst).Nodup
  n2 : (s.ps.map Prod.snd).Nodup
  pe : ∀ e ∈ s.es, EntM w base e
  en : (s.es.map TE.eb).Nodup
abbrev KT : List (Option TypeId) := [some 102, some 106, some 211, none]
section
variable {base : Nat} {w w' : World} {bt : Nat} {s : TS} {hd : Option Nat}
theorem TabM.chain (h : TabM base w bt s hd) (hb : Below w.heap.size w w') : TabM base w' bt s hd :=
  ⟨h.tb.below hb h.tb.lt, h.lo, h.pa.chain hb, fun j p hp => ⟨(h.pc j p hp).1.below hb (h.pc j p hp).1.lt, (h.pc j p hp).2⟩, fun j p hp => ⟨(h.pm j p hp).1.chain hb, (h.pm j p hp).2⟩, h.n1, h.n2, fun e he => ⟨(h.pe e he).b.below hb (h.pe e he).b.lt, (h.pe e he).s.chain hb, (h.pe e he).lo⟩, h.en⟩
/-- The table's own cells were written. -/
theorem TabM.setTab {n made : Nat} (h : TabM base w bt s hd) (ho : Only [bt] w w') (hb : Blk w' bt (tabC { s with n := n, made := made }) 102) : TabM base w' bt { s with n := n, made := made } hd := by
  have ht : Turn base [some 102] w w' := Turn.one ho h.lo h.tb.kind (by simp)
  exact ⟨hb, h.lo, ht.seg h.pa (by decide), fun j p hp => ⟨ht.blk (h.pc j p hp).1 (by decide), (h.pc j p hp).2⟩, fun j p hp => ⟨ht.map (h.pm j p hp).1 (by decide), (h.pm j p hp).2⟩, h.n1, h.n2, fun e he => ⟨ht.blk (h.pe e he).b (by decide), ht.seg (h.pe e he).s (by decide), (h.pe e he).lo⟩, h.en⟩
theorem nodup_at {α : Type} {l : List α} (h : l.Nodup) {i j : Nat} {x : α} (hi : l[i]? = some x) (hj : l[j]? = some x) : i = j := by
  obtain ⟨h1, e1⟩ := List.getElem?_eq_some_iff.1 hi
  obtain ⟨h2, e2⟩ := List.getElem?_eq_some_iff.1 hj
  rcases Nat.lt_trichotomy i j with hlt | rfl | hlt
  · exact absurd (e1.trans e2.symm) ((List.pairwise_iff_getElem.1 h) i j h1 h2 hlt)
  · rfl
  · exact absurd (e2.trans e1.symm) ((List.pairwise_iff_getElem.1 h) j i h2 h1 hlt)
theorem TabM.fst_inj (h : TabM base w bt s hd) {i j : Nat} {p q : Nat × Nat} (hi : s.ps[i]? = some p) (hj : s.ps[j]? = some q) (e : p.1 = q.1) : i = j :=
  nodup_at h.n1 (x := p.1) (by rw [List.getElem?_map, hi]; rfl) (by rw [List.getElem?_map, hj, e]; rfl)
theorem TabM.snd_inj (h : TabM base w bt s hd) {i j : Nat} {p q : Nat × Nat} (hi : s.ps[i]? = some p) (hj : s.ps[j]? = some q) (e : p.2 = q.2) : i = j :=
  nodup_at h.n2 (x := p.2) (by rw [List.getElem?_map, hi]; rfl) (by rw [List.getElem?_map, hj, e]; rfl)
/-- A part's lock was turned. -/
theorem TabM.setPart (h : TabM base w bt s hd) {j : Nat} {p : Nat × Nat} (hp : s.ps[j]? = some p) (hd' : Option Nat) (ho : Only [p.1] w w') (hb : Blk w' p.1 (partC (lockOf hd' j) p.2) 106) (hh : ∀ i, i ≠ j → lockOf hd' i = lockOf hd i) : TabM base w' bt s hd' := by
  have ht : Turn base [some 106] w w' := Turn.one ho (h.pc j p hp).2 (h.pc j p hp).1.kind (by simp)
  refine ⟨ht.blk h.tb (by decide), h.lo, ht.seg h.pa (by decide), fun i q hq => ⟨?_, (h.pc i q hq).2⟩, fun j p hp => ⟨ht.map (h.pm j p hp).1 (by decide), (h.pm j p hp).2⟩, h.n1, h.n2, fun e he => ⟨ht.blk (h.pe e he).b (by decide), ht.seg (h.pe e he).s (by decide), (h.pe e he).lo⟩, h.en⟩
  by_cases e : i = j
  · subst e
    rw [hp] at hq
    cases hq
    exact hb
  · rw [hh i e]
    exact (h.pc i q hq).1.only ho (by simpa using fun e' => e (h.fst_inj hq hp e'))
/-- A part's map was written. -/
theorem TabM.setMap (h : TabM base w bt s hd) {j : Nat} {p : Nat × Nat} (hp : s.ps[j]? = some p) (es' : List TE) (ho : Only [p.2] w w') (hb : MapW encK w' p.2 (inP s.ps.length es' j)) (hh : ∀ i, i ≠ j → inP s.ps.length es' i = inP s.ps.length s.es i)
    (he : ∀ e ∈ es', EntM w base e) (hn : (es'.map TE.eb).Nodup) : TabM base w' bt { s with es := es' } hd := by
  have ht : Turn base [none] w w' := Turn.one ho (h.pm j p hp).2 (h.pm j p hp).1.kind (by simp)
  refine ⟨ht.blk h.tb (by decide), h.lo, ht.seg h.pa (by decide), fun i q hq => ⟨ht.blk (h.pc i q hq).1 (by decide), (h.pc i q hq).2⟩, fun i q hq => ⟨?_, (h.pm i q hq).2⟩, h.n1, h.n2, fun e h' => ⟨ht.blk (he e h').b (by decide), ht.seg (he e h').s (by decide), (he e h').lo⟩, hn⟩
  by_cases e : i = j
  · subst e
    rw [hp] at hq
    cases hq
    exact hb
  · show MapW encK w' q.2 (inP s.ps.length es' i)
    rw [hh i e]
    exact (h.pm i q hq).1.only ho (by simpa using fun e' => e (h.snd_inj hq hp e'))
end
end Go.Proofs.Yteepdknnmdhckaa
