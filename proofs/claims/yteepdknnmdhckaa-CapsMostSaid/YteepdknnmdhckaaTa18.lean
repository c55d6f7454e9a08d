/-
  The table: a part's drop (chapter 18).
-/
import Derived.Test.YteepdknnmdhckaaTa17
namespace Go.Proofs.Yteepdknnmdhckaa
open Go Go.RowKit Go.MuLone
set_option linter.unusedVariables false
set_option linter.unusedSimpArgs false
set_option maxRecDepth 100000
set_option maxHeartbeats 2000000
abbrev KV := (Int × Int) × Value
def hasS (z : Int) (q : KV) : Bool := decide (q.1.1 = z)
theorem delM_len {k : Int × Int} : ∀ {l : List KV}, (l.map Prod.fst).Nodup → (∃ q ∈ l, q.1 = k) → (delM k l).length + 1 = l.length
  | [], _, h => by obtain ⟨q, hq, _⟩ := h; cases hq
  | a :: l, hn, h => by
    rw [List.map_cons, List.nodup_cons] at hn
    by_cases ha : a.1 = k
    · have : delM k (a :: l) = l := by
        unfold delM
        rw [List.filter_cons_of_neg (by simp [ha])]
        exact delM_self fun q hq e => hn.1 (by rw [ha, ← e]; exact List.mem_map.2 ⟨q, hq, rfl⟩)
      rw [this, List.length_cons]
    · obtain ⟨q, hq, hk⟩ := h
      rcases List.mem_cons.1 hq with rfl | hq
      · exact absurd hk ha
      · have ih := delM_len hn.2 ⟨q, hq, hk⟩
        unfold delM at ih ⊢
        rw [List.filter_cons_of_pos (by simp [ha]), List.length_cons, List.length_cons, ih]
/-- Where the loop stands: what the map reads as, what is still to come, how many were deleted. -/
structure DrI (z : Int) (M l rest : List KV) (n : Nat) : Prop where
  a : ∀ q ∈ rest, q ∈ l
  b : ∀ q ∈ l, q ∉ rest → hasS z q = false
  c : l.filter (fun q => !hasS z q) = M.filter (fun q => !hasS z q)
  d : n + (l.filter (hasS z)).length = (M.filter (hasS z)).length
theorem DrI.start (z : Int) (M : List KV) : DrI z M M M 0 := ⟨fun _ h => h, fun q h h' => absurd h h', rfl, by simp⟩
theorem DrI.skip {z : Int} {M l rest : List KV} {n : Nat} (h : DrI z M l rest n) {p : KV} (hp : p ∈ rest) (hz : ¬ p.1.1 = z) : DrI z M l (delM p.1 rest) n := by
  refine ⟨fun q hq => h.a q (List.mem_filter.1 hq).1, fun q hq hn => ?_, h.c, h.d⟩
  by_cases hr : q ∈ rest
  · have : q.1 = p.1 := by
      by_cases e : q.1 = p.1
      · exact e
      · exact absurd (List.mem_filter.2 ⟨hr, by simp [e]⟩) hn
    unfold hasS
    rw [this]
    exact decide_eq_false hz
  · exact h.b q hq hr
theorem DrI.del {z : Int} {M l rest : List KV} {n : Nat} (h : DrI z M l rest n) {p : KV} (hp : p ∈ l) (hz : p.1.1 = z) (hn : (l.map Prod.fst).Nodup) : DrI z M (delM p.1 l) (delM p.1 (delM p.1 rest)) (n + 1) := by
  refine ⟨fun q hq => ?_, fun q hq hnr => ?_, ?_, ?_⟩
  · obtain ⟨hq1, hq2⟩ := List.mem_filter.1 (List.mem_filter.1 hq).1
    exact List.mem_filter.2 ⟨h.a q hq1, hq2⟩
  · obtain ⟨hq1, hq2⟩ := List.mem_filter.1 hq
    exact h.b q hq1 fun hr => hnr (List.mem_filter.2 ⟨List.mem_filter.2 ⟨hr, hq2⟩, hq2⟩)
  · rw [← h.c]
    unfold delM
    rw [List.filter_filter]
    refine List.filter_congr fun q _ => ?_
    by_cases e : q.1 = p.1
    · have : hasS z q = true := by unfold hasS; rw [e]; exact decide_eq_true hz
      simp [this]
    · simp [e]
  · have e1 : (delM p.1 l).filter (hasS z) = delM p.1 (l.filter (hasS z)) := by
      unfold delM
      rw [List.filter_filter, List.filter_filter]
      refine List.filter_congr fun q _ => ?_
      rw [Bool.and_comm]
    have e2 := delM_len (k := p.1) (l := l.filter (hasS z)) (List.Sublist.nodup (List.filter_sublist.map _) hn) ⟨p, List.mem_filter.2 ⟨hp, decide_eq_true hz⟩, rfl⟩
    rw [e1]
    have := h.d
    omega
theorem DrI.fin {z : Int} {M l : List KV} {n : Nat} (h : DrI z M l [] n) : l = M.filter (fun q => !hasS z q) ∧ n = (M.filter (hasS z)).length := by
  have hall : ∀ q ∈ l, hasS z q = false := fun q hq => h.b q hq (by simp)
  have e1 : l.filter (fun q => !hasS z q) = l := List.filter_eq_self.2 fun q hq => by rw [hall q hq]; rfl
  have e2 : l.filter (hasS z) = [] := List.filter_eq_nil_iff.2 fun q hq => by rw [hall q hq]; simp
  refine ⟨by rw [← h.c, e1], ?_⟩
  have := h.d
  rw [e2] at this
  simpa using this
def dropP (P j : Nat) (z : Int) (es : List TE) : List TE := es.filter fun e => !(decide (partOf P e.k = j) && decide (e.k.1 = z))
theorem inP_dropP (P j : Nat) (z : Int) (es : List TE) : inP P (dropP P j z es) j = (inP P es j).filter (fun q => !hasS z q) := by
  unfold inP dropP
  rw [List.filter_map, List.filter_filter, List.filter_filter]
  congr 1
  refine List.filter_congr fun e _ => ?_
  by_cases h1 : partOf P e.k = j <;> by_cases h2 : e.k.1 = z <;> simp [TE.mp, hasS, h1, h2]
theorem inP_dropP' (P j : Nat) (z : Int) (es : List TE) (i : Nat) (hi : i ≠ j) : inP P (dropP P j z es) i = inP P es i := by
  unfold inP dropP
  rw [List.filter_filter]
  congr 1
  refine List.filter_congr fun e _ => ?_
  by_cases h1 : partOf P e.k = i
  · have : ¬ partOf P e.k = j := fun h => hi (by rw [← h1, h])
    simp [h1, hi]
  · simp [h1]
theorem TabM.dropEnt {base : Nat} {W w' : World} {bt : Nat} {s : TS} {hd : Option Nat} (h : TabM base W bt s hd) {j : Nat} {p : Nat × Nat} (hj : s.ps[j]? = some p) (z : Int)
    (ho : Only [p.2] W w') (hp : MapW encK w' p.2 ((inP s.ps.length s.es j).filter (fun q => !hasS z q))) : TabM base w' bt { s with es := dropP s.ps.length j z s.es } hd := by
  refine h.setMap hj (dropP s.ps.length j z s.es) ho (by rw [inP_dropP]; exact hp) (fun i hi => inP_dropP' _ _ _ _ _ hi) (fun f hf => h.pe f (List.mem_filter.1 hf).1) ?_
  exact List.Sublist.nodup ((List.filter_sublist).map _) h.en
end Go.Proofs.Yteepdknnmdhckaa
