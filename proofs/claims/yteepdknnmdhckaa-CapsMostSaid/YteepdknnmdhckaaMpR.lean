/-
  Ranging over a map that reads as a list: one entry after the other, in whatever order; the map may lose entries on the way.
-/
import Derived.Test.YteepdknnmdhckaaMp
namespace Go.Proofs.Yteepdknnmdhckaa
open Go Go.RowKit
open Go.ChangeShapes Go.WideShapes Go.MapKept
open Go.ChangeMaps (setBlock)
set_option linter.unusedVariables false
set_option linter.unusedSectionVars false
section
variable {P : Program} {κ : Type} [DecidableEq κ] {K E T : TypeId} {enc : κ → Value}
theorem pairs_cons {e : MapEntry} {es : List MapEntry} {p : κ × Value} {l : List (κ × Value)} : pairs enc (e :: es) (p :: l) ↔ (e.key = enc p.1 ∧ e.val = p.2) ∧ pairs enc es l := by
  unfold pairs; simp
theorem pairs_filter {p : MapEntry → Bool} {q : κ × Value → Bool} : ∀ {es : List MapEntry} {l : List (κ × Value)}, pairs enc es l → (∀ e ∈ es, ∀ y ∈ l, e.key = enc y.1 → p e = q y) → pairs enc (es.filter p) (l.filter q)
  | [], [], _, _ => rfl
  | [], _ :: _, h, _ => by unfold pairs at h; simp at h
  | _ :: _, [], h, _ => by unfold pairs at h; simp at h
  | e :: es, y :: l, h, hpq => by
    obtain ⟨⟨h1, h2⟩, h3⟩ := pairs_cons.1 h
    have ih := pairs_filter h3 (fun e he y hy => hpq e (by simp [he]) y (by simp [hy]))
    have := hpq e (by simp) y (by simp) h1
    by_cases hp : p e
    · rw [List.filter_cons_of_pos hp, List.filter_cons_of_pos (by rw [← this]; exact hp)]
      exact pairs_cons.2 ⟨⟨h1, h2⟩, ih⟩
    · rw [List.filter_cons_of_neg hp, List.filter_cons_of_neg (by rw [← this]; exact hp)]
      exact ih
theorem pairs_keynd (H : KeyE P K enc) {es : List MapEntry} {l : List (κ × Value)} (h : pairs enc es l) (hn : (l.map Prod.fst).Nodup) : (es.map (·.key)).Nodup := by
  have e1 : es.map (·.key) = (l.map Prod.fst).map enc := by
    have := congrArg (List.map Prod.fst) h
    simpa [Function.comp_def] using this
  rw [e1]
  exact List.Pairwise.map _ (fun a b hab hf => hab (H.inj _ _ hf)) hn
theorem key_inj {l : List MapEntry} (hn : (l.map (·.key)).Nodup) : ∀ {x e : MapEntry}, x ∈ l → e ∈ l → x.key = e.key → x = e := by
  induction l with
  | nil => intro x e hx; cases hx
  | cons y l ih =>
    intro x e hx he h
    rw [List.map_cons, List.nodup_cons] at hn
    rcases List.mem_cons.1 hx with hx' | hx' <;> rcases List.mem_cons.1 he with he' | he'
    · rw [hx', he']
    · exact absurd (List.mem_map.2 ⟨e, he', by rw [← h, hx']⟩) hn.1
    · exact absurd (List.mem_map.2 ⟨x, hx', by rw [h, he']⟩) hn.1
    · exact ih hn.2 hx' he' h
/-- Block r ranges over the map in block b, which reads as l; 'rest' is still to come. -/
def RngW (enc : κ → Value) (w : World) (r b : Nat) (l rest : List (κ × Value)) : Prop :=
  ∃ (es : Array MapEntry) (clock since : Nat) (seen : Array Nat) (c0 : Nat), w.heap[r]? = some (.mapIter (some b) since seen c0) ∧ w.heap[b]? = some (.map es clock) ∧ pairs enc es.toList l ∧ (l.map Prod.fst).Nodup ∧ (es.toList.map (·.born)).Nodup ∧
    (∀ e ∈ es.toList, e.born < since) ∧ since ≤ c0 ∧ since ≤ clock ∧ pairs enc (leftOf es seen).toList rest
theorem RngW.map {w : World} {r b : Nat} {l rest : List (κ × Value)} (h : RngW enc w r b l rest) : MapW enc w b l := by
  obtain ⟨es, clock, since, seen, c0, hr, hb, hp, hn, hs, ho, _, hc, _⟩ := h
  exact ⟨es, clock, hb, hp, hn, hs, fun e he => Nat.lt_of_lt_of_le (ho e he) hc⟩
theorem RngW.lt {w : World} {r b : Nat} {l rest : List (κ × Value)} (h : RngW enc w r b l rest) : r < w.heap.size := by
  obtain ⟨es, clock, since, seen, c0, hr, _⟩ := h
  exact (Array.getElem?_eq_some_iff.1 hr).1
theorem RngW.ne {w : World} {r b : Nat} {l rest : List (κ × Value)} (h : RngW enc w r b l rest) : r ≠ b := by
  obtain ⟨es, clock, since, seen, c0, hr, hb, _⟩ := h
  intro e
  rw [e, hb] at hr
  cases hr
theorem RngW.same {w w' : World} {r b : Nat} {l rest : List (κ × Value)} (h : RngW enc w r b l rest) (e1 : w'.heap[r]? = w.heap[r]?) (e2 : w'.heap[b]? = w.heap[b]?) : RngW enc w' r b l rest := by
  obtain ⟨es, clock, since, seen, c0, hr, hb, hx⟩ := h
  exact ⟨es, clock, since, seen, c0, e1.trans hr, e2.trans hb, hx⟩
theorem RngW.only {w w' : World} {r b : Nat} {l rest : List (κ × Value)} {S : List Nat} (h : RngW enc w r b l rest) (ho : Only S w w') (hr : r ∉ S) (hb : b ∉ S) : RngW enc w' r b l rest :=
  h.same (ho.block r h.lt hr) (ho.block b h.map.lt hb)
theorem RngW.chain {w w' : World} {r b : Nat} {l rest : List (κ × Value)} (h : RngW enc w r b l rest) (ho : Below w.heap.size w w') : RngW enc w' r b l rest := h.same (ho.block r h.lt) (ho.block b h.map.lt)
/-- 'range m'. -/
theorem MapW.range {w : World} {b : Nat} {l : List (κ × Value)} (h : MapW enc w b l) (ht : P.underlying T = some (.map K E)) :
    ∃ w', (Instr.range T (.map (some b))).run P w = .ok (.pointer (some ⟨w.heap.size, 0, none⟩)) w' ∧ RngW enc w' w.heap.size b l l ∧ Below w.heap.size w w' := by
  obtain ⟨es, clock, hb, hp, hn, hs, hc⟩ := h
  refine ⟨_, run_range_map w T K E b es clock ht hb, ⟨es, clock, clock, #[], clock, heap_alloc_new _ _, ?_, hp, hn, hs, hc, Nat.le_refl _, Nat.le_refl _, ?_⟩, (Below.refl _ _).alloc (Nat.le_refl _) _⟩
  · rw [heap_alloc_old _ _ (Array.getElem?_eq_some_iff.1 hb).1]; exact hb
  · have : leftOf es #[] = es := by unfold leftOf; simp
    rw [this]; exact hp
/-- One step: nothing is left, or some entry comes. -/
theorem RngW.next (H : KeyE P K enc) {w : World} {r b : Nat} {l rest : List (κ × Value)} (h : RngW enc w r b l rest) :
    (rest = [] ∧ ∀ ty, (Instr.next (.pointer (some ⟨r, 0, none⟩)) false ty).run P w = .ok (.tuple #[.bool false]) w) ∨
    ∃ p ∈ rest, ∃ w', (∀ ty, (Instr.next (.pointer (some ⟨r, 0, none⟩)) false ty).run P w = .ok (.tuple #[.bool true, enc p.1, p.2]) w') ∧ (Instr.entry (.pointer (some ⟨r, 0, none⟩))).run P w' = .ok (.tuple #[enc p.1, p.2]) w' ∧ RngW enc w' r b l (delM p.1 rest) ∧ Only [r] w w' ∧ p ∈ l := by
  have hne := h.ne
  obtain ⟨es, clock, since, seen, c0, hr, hb, hp, hn, hs, ho, hsc, hcl, hrest⟩ := h
  rcases run_next_at (P := P) w 0 r b since c0 seen es clock hr hb ho hsc with ⟨h0, hrun⟩ | ⟨e, he, w1, hw1, hrun⟩
  · left
    refine ⟨?_, fun ty => hrun⟩
    have := congrArg List.length hrest
    simp [h0] at this
    exact List.length_eq_zero_iff.1 this.symm
  · right
    obtain ⟨hm, hsn⟩ := mem_left he
    obtain ⟨i, hi, hie⟩ := List.getElem_of_mem he
    have hg := pairs_get hrest i
    rw [List.getElem?_eq_getElem hi, hie] at hg
    obtain ⟨p, hpi, hpe⟩ : ∃ p, rest[i]? = some p ∧ (e.key, e.val) = (enc p.1, p.2) := by
      cases hq : rest[i]? with
      | none => rw [hq] at hg; cases hg
      | some p => rw [hq] at hg; exact ⟨p, rfl, by simpa using hg⟩
    have hkey : e.key = enc p.1 := congrArg Prod.fst hpe
    have hval : e.val = p.2 := congrArg Prod.snd hpe
    have hw1b : w1.heap[b]? = some (.map es clock) := by rcases hw1 with rfl | rfl <;> exact hb
    have hw1r : w1.heap[r]? = some (.mapIter (some b) since seen c0) := by rcases hw1 with rfl | rfl <;> exact hr
    have hw2b : (setBlock w1 r (.mapIter (some b) since (seen.push e.born) clock)).heap[b]? = some (.map es clock) := by
      rw [(only_setBlock w1 r _).block b (Array.getElem?_eq_some_iff.1 hw1b).1 (by simp [hne.symm])]; exact hw1b
    have hw2r := heap_setB hw1r (.mapIter (some b) since (seen.push e.born) clock)
    have hnk := pairs_keynd H hp hn
    have hpl : p ∈ l := by
      obtain ⟨j, hj, hje⟩ := List.getElem_of_mem hm
      have := pairs_some H hp (j := j) (by rw [List.getElem?_eq_getElem hj, hje]) hkey
      have hx := List.mem_of_getElem? this
      rwa [hval] at hx
    refine ⟨p, List.mem_of_getElem? hpi, _, fun ty => by rw [← hkey, ← hval]; exact hrun, by rw [← hkey, ← hval]; exact run_entry_at _ r b since seen es clock e hw2r hw2b hm hs, ⟨es, clock, since, seen.push e.born, clock, hw2r, hw2b, hp, hn, hs, ho, hcl, hcl, ?_⟩, ?_, hpl⟩
    · have e1 : (leftOf es (seen.push e.born)).toList = (leftOf es seen).toList.filter (fun y => !(y.born == e.born)) := by
        unfold leftOf
        rw [Array.toList_filter, Array.toList_filter, List.filter_filter]
        refine List.filter_congr (fun y _ => ?_)
        rw [contains_push]
        cases seen.contains y.born <;> cases (y.born == e.born) <;> rfl
      rw [e1]
      refine pairs_filter hrest (fun y hy z hz hk => ?_)
      have hym := (mem_left hy).1
      by_cases hb' : y.born = e.born
      · have := born_inj hs hym hm hb'
        subst this
        have := H.inj _ _ (hk.symm.trans hkey)
        simp [this]
      · have : ¬ z.1 = p.1 := fun ez => by
          have : y = e := key_inj hnk hym hm (by rw [hk, hkey, ez])
          exact hb' (by rw [this])
        simp [hb', this]
    · have h1 : Only [r] w w1 := by rcases hw1 with rfl | rfl; exact Only.refl _ _; exact (Only.refl _ _).drew
      exact h1.trans (only_setBlock _ _ _)
/-- A key is deleted on the way. -/
theorem RngW.del {w : World} {r b : Nat} {l rest : List (κ × Value)} (h : RngW enc w r b l rest) (H : KeyE P K enc) (ht : P.underlying T = some (.map K E)) (x : κ) :
    ∃ w', (∀ ty, (Builtin.delete_ #[T, K] ty #[.map (some b), enc x]).run P w = .ok (.tuple #[]) w') ∧ RngW enc w' r b (delM x l) (delM x rest) ∧ Only [b] w w' := by
  classical
  have hne := h.ne
  obtain ⟨es, clock, since, seen, c0, hr, hb, hp, hn, hs, ho, hsc, hcl, hrest⟩ := h
  obtain ⟨es', hrun, hp', he⟩ := MapW.del0 hb hp hn H ht x 0
  have hnk := pairs_keynd H hp hn
  have hsub : ∀ e ∈ es'.toList, e ∈ es.toList := fun e hm => by rw [he] at hm; exact (List.mem_filter.1 hm).1
  have hw2r : (setBlock w b (.map es' clock)).heap[r]? = some (.mapIter (some b) since seen c0) := by
    rw [(only_setBlock w b _).block r (Array.getElem?_eq_some_iff.1 hr).1 (by simp [hne])]; exact hr
  refine ⟨_, fun ty => hrun, ⟨es', clock, since, seen, c0, hw2r, heap_setB hb _, hp', delM_nodup hn, ?_, fun e hm => ho e (hsub e hm), hsc, hcl, ?_⟩, only_setBlock _ _ _⟩
  · rw [he]; exact List.Sublist.nodup ((List.filter_sublist).map _) hs
  · have e1 : (leftOf es' seen).toList = (leftOf es seen).toList.filter (fun e => !decide (∃ v, (x, v) ∈ l ∧ e.key = enc x)) := by
      unfold leftOf
      rw [Array.toList_filter, Array.toList_filter, he, List.filter_filter, List.filter_filter]
      refine List.filter_congr (fun y _ => ?_)
      cases seen.contains y.born <;> cases decide (∃ v, (x, v) ∈ l ∧ y.key = enc x) <;> rfl
    rw [e1]
    unfold delM
    refine pairs_filter hrest (fun y hy z hz hk => ?_)
    by_cases hz' : z.1 = x
    · have : ∃ v, (x, v) ∈ l ∧ y.key = enc x := by
        obtain ⟨j, hj, hje⟩ := List.getElem_of_mem (mem_left hy).1
        have hx : y.key = enc x := by rw [hk, hz']
        have := pairs_some H hp (j := j) (by rw [List.getElem?_eq_getElem hj, hje]) hx
        exact ⟨_, List.mem_of_getElem? this, hx⟩
      simp [hz', this]
    · have : ¬ ∃ v, (x, v) ∈ l ∧ y.key = enc x := fun ⟨_, _, h2⟩ => hz' (H.inj _ _ (hk.symm.trans h2))
      simp [hz', this]
end
end Go.Proofs.Yteepdknnmdhckaa
