/-
  The table: Oldest (chapter 18).
-/
import Derived.Test.YteepdknnmdhckaaTa20
namespace Go.Proofs.Yteepdknnmdhckaa
open Go Go.RowKit Go.MuLone
set_option linter.unusedVariables false
set_option linter.unusedSimpArgs false
set_option maxRecDepth 100000
set_option maxHeartbeats 2000000
def doneD (d : DE) : Prop := d.2.1 ≤ (d.2.2.length : Int)
instance (d : DE) : Decidable (doneD d) := by unfold doneD; infer_instance
/-- The first one that is not ready. -/
def oldD (A : List DE) : Option DE := A.find? fun d => !decide (doneD d)
theorem OldI.join {S T S' all all' : TE → Prop} {k k' : Int × Int} {m m' : Nat} (h : OldI S all k m) (h' : OldI T all' k' m') (hs : ∀ f, S' f → S f ∨ T f) (ha : ∀ f, all' f → all f) :
    (0 < m' ∧ (m = 0 ∨ m' < m) → OldI S' all k' m') ∧ (¬ (0 < m' ∧ (m = 0 ∨ m' < m)) → OldI S' all k m) := by
  constructor
  · rintro ⟨h0, h1⟩
    rcases h' with ⟨e1, _, _⟩ | ⟨g, g1, g2, g3, g4, g5, g6⟩
    · omega
    · refine .inr ⟨g, ha g g1, g2, g3, g4, g5, fun f hf hn => ?_⟩
      rcases hs f hf with hf | hf
      · rcases h with ⟨e1, e2, e3⟩ | ⟨q, q1, q2, q3, q4, q5, q6⟩
        · exact absurd (e3 f hf) hn
        · have := q6 f hf hn; omega
      · exact g6 f hf hn
  · intro hc
    rcases h with ⟨e1, e2, e3⟩ | ⟨q, q1, q2, q3, q4, q5, q6⟩
    · refine .inl ⟨e1, e2, fun f hf => ?_⟩
      rcases hs f hf with hf | hf
      · exact e3 f hf
      · rcases h' with ⟨_, _, g3⟩ | ⟨g, g1, g2, g3, g4, g5, g6⟩
        · exact g3 f hf
        · exact absurd ⟨g5, .inl e1⟩ hc
    · refine .inr ⟨q, q1, q2, q3, q4, q5, fun f hf hn => ?_⟩
      rcases hs f hf with hf | hf
      · exact q6 f hf hn
      · rcases h' with ⟨_, _, g3⟩ | ⟨g, g1, g2, g3, g4, g5, g6⟩
        · exact absurd (g3 f hf) hn
        · have h9 := g6 f hf hn
          have h8 : ¬ m' < m := fun h7 => hc ⟨g5, .inr h7⟩
          omega
theorem OldI.old_fin {es : List TE} (hmi : (es.map TE.made).Pairwise (· < ·)) (hpos : ∀ e ∈ es, 1 ≤ e.made) {k : Int × Int} {m : Nat} (h : OldI (fun e => e ∈ es) (fun e => e ∈ es) k m) :
    k = ((oldD (es.map TE.d)).map Prod.fst).getD (0, 0) ∧ (0 < m ↔ (oldD (es.map TE.d)).isSome = true) := by
  rcases h with ⟨h1, h2, h3⟩ | ⟨e, h1, h2, h3, h4, h5, h6⟩
  · have : oldD (es.map TE.d) = none := by
      unfold oldD
      rw [List.find?_eq_none]
      intro d hd
      obtain ⟨f, hf, rfl⟩ := List.mem_map.1 hd
      have := h3 f hf
      simp only [Bool.not_eq_true, Bool.not_eq_false', decide_eq_true_eq]
      exact this
    rw [this]
    exact ⟨h2, by simp [h1]⟩
  · have key : ∀ es : List TE, (es.map TE.made).Pairwise (· < ·) → e ∈ es → (∀ f ∈ es, ¬ doneE f → e.made ≤ f.made) → oldD (es.map TE.d) = some e.d := by
      intro es
      induction es with
      | nil => intro _ h; cases h
      | cons f es ih =>
        intro hp he hall
        rw [List.map_cons, List.pairwise_cons] at hp
        by_cases hf : doneE f
        · have hne : e ≠ f := fun h => h2 (h ▸ hf)
          have := ih hp.2 ((List.mem_cons.1 he).resolve_left hne) (fun g hg => hall g (by simp [hg]))
          unfold oldD at this ⊢
          rw [List.map_cons, List.find?_cons_of_neg]
          · exact this
          · simp only [Bool.not_eq_true, Bool.not_eq_false', decide_eq_true_eq]
            exact hf
        · have hle := hall f (by simp) hf
          have hef : e = f := by
            rcases List.mem_cons.1 he with h | h
            · exact h
            · have := hp.1 _ (List.mem_map.2 ⟨e, h, rfl⟩)
              omega
          subst hef
          unfold oldD
          rw [List.map_cons, List.find?_cons_of_pos]
          simp only [Bool.not_eq_true', decide_eq_false_iff_not]
          exact hf
    rw [key es hmi h1 h6]
    exact ⟨h4, by simp [h5]⟩
end Go.Proofs.Yteepdknnmdhckaa
