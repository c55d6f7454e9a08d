/-
  Of each block it is told once that it is ready: the plain law (chapter 18).
-/
import Derived.Test.YtnommofekjiiaaaTaNoneW
namespace Go.Proofs.Ytnommofekjiiaaa
open Go Go.RowKit Go.MuLone
set_option linter.unusedVariables false
set_option linter.unusedSimpArgs false
set_option maxRecDepth 100000
set_option maxHeartbeats 1000000
def DoneK (A : List DE) (k : Int × Int) : Prop := ∃ d, getD k A = some d ∧ doneD d
theorem getD_key {k : Int × Int} {d : DE} : ∀ {A : List DE}, getD k A = some d → d.1 = k
  | [], h => by cases h
  | e :: A, h => by
    unfold getD at h
    by_cases he : e.1 = k
    · rw [if_pos he] at h; cases h; exact he
    · rw [if_neg he] at h; exact getD_key h
theorem getD_mapf {k : Int × Int} (f : DE → DE) (hf : ∀ d, (f d).1 = d.1) : ∀ A : List DE, getD k (A.map f) = (getD k A).map f
  | [] => rfl
  | e :: A => by
    show (if (f e).1 = k then some (f e) else getD k (A.map f)) = (if e.1 = k then some e else getD k A).map f
    rw [hf e]
    by_cases he : e.1 = k
    · rw [if_pos he, if_pos he]; rfl
    · rw [if_neg he, if_neg he, getD_mapf f hf A]
theorem getD_append {k : Int × Int} (B : List DE) : ∀ A : List DE, getD k (A ++ B) = match getD k A with | some d => some d | none => getD k B
  | [] => rfl
  | e :: A => by
    show (if e.1 = k then some e else getD k (A ++ B)) = match (if e.1 = k then some e else getD k A) with | some d => some d | none => getD k B
    by_cases he : e.1 = k
    · rw [if_pos he, if_pos he]
    · rw [if_neg he, if_neg he]; exact getD_append B A
theorem judge_doneD {d : DE} (h : doneD d) (need : Int) (x : Sh) : judgeN d need x = 1 ∧ judgeL d need x = d.2.2 := by
  have h' : d.2.1 ≤ (d.2.2.length : Int) := h
  have h1 : judgeN d need x = 1 := by unfold judgeN; rw [if_pos h']
  exact ⟨h1, by unfold judgeL; rw [h1]; rfl⟩
theorem upd_key (k : Int × Int) (need : Int) (x : Sh) (f : DE) : (if f.1 = k then (f.1, f.2.1, judgeL f need x) else f).1 = f.1 := by split <;> rfl
theorem once_not {room : Nat} {A : List DE} {k : Int × Int} {need : Int} {x : Sh} (h : putV room A k need x = 3) : ¬ DoneK A k := by
  rintro ⟨d, hd, hdone⟩
  unfold putV at h
  split at h
  · cases h
  · rw [hd] at h
    have := (judge_doneD hdone need x).1
    simp only [this] at h
    cases h
theorem once_keep {room : Nat} {A : List DE} {k k0 : Int × Int} {need : Int} {x : Sh} (h : DoneK A k0) : DoneK (putA room A k need x) k0 := by
  obtain ⟨d, hd, hdone⟩ := h
  unfold putA
  split
  · exact ⟨d, hd, hdone⟩
  · split
    · rename_i d' hd'
      refine ⟨_, by rw [getD_mapf _ (upd_key k need x), hd]; rfl, ?_⟩
      show doneD (if d.1 = k then (d.1, d.2.1, judgeL d need x) else d)
      split
      · unfold doneD
        show d.2.1 ≤ ((judgeL d need x).length : Int)
        rw [(judge_doneD hdone need x).2]
        exact hdone
      · exact hdone
    · split
      · exact ⟨d, hd, hdone⟩
      · exact ⟨d, by rw [getD_append, hd], hdone⟩
theorem once_ready {room : Nat} {A : List DE} {k : Int × Int} {need : Int} {x : Sh} (h : putV room A k need x = 3) : ∃ l : List Sh, getD k (putA room A k need x) = some (k, need, l) ∧ (l.length : Int) = need := by
  unfold putV at h
  unfold putA
  by_cases hb : badX need x
  · rw [if_pos hb] at h; cases h
  · rw [if_neg hb] at h ⊢
    cases hd : getD k A with
    | some d =>
      rw [hd] at h
      simp only at h ⊢
      have hdk := getD_key hd
      have hj : judgeN d need x = 3 := h
      have hn1 : ¬ d.2.1 ≤ (d.2.2.length : Int) := fun h9 => by rw [(judge_doneD h9 need x).1] at hj; cases hj
      have hn2 : ¬ (d.2.1 ≠ need ∨ firstLen d.2.2 ≠ x.2.length) := fun h9 => by
        unfold judgeN at hj; rw [if_neg hn1, if_pos h9] at hj; cases hj
      have hn3 : ¬ hitN x.1 d.2.2 = true := fun h9 => by
        unfold judgeN at hj; rw [if_neg hn1, if_neg hn2, if_pos h9] at hj
        by_cases h8 : d.2.2[lowN x.1 d.2.2]? = some (x.1, x.2)
        · rw [if_pos h8] at hj; cases hj
        · rw [if_neg h8] at hj; cases hj
      have hn4 : d.2.1 ≤ (d.2.2.length : Int) + 1 := by
        unfold judgeN at hj; rw [if_neg hn1, if_neg hn2, if_neg hn3] at hj
        by_cases h8 : d.2.1 ≤ (d.2.2.length : Int) + 1
        · exact h8
        · rw [if_neg h8] at hj; cases hj
      have hneed : d.2.1 = need := by
        by_cases h9 : d.2.1 = need
        · exact h9
        · exact absurd (.inl h9) hn2
      have hl : judgeL d need x = insL d.2.2 (lowN x.1 d.2.2) x := by unfold judgeL; rw [hj]; rfl
      refine ⟨judgeL d need x, ?_, ?_⟩
      · rw [getD_mapf _ (upd_key k need x), hd]
        show some (if d.1 = k then _ else _) = _
        rw [if_pos hdk, hdk, hneed]
      · rw [hl, insL_length _ _ _ (lowN_le _ _)]
        omega
    | none =>
      rw [hd] at h
      simp only at h ⊢
      by_cases hr : room ≤ A.length
      · rw [if_pos hr] at h; cases h
      · rw [if_neg hr] at h ⊢
        by_cases h1 : need = 1
        · subst h1
          exact ⟨[x], by rw [getD_append, hd]; simp [getD], rfl⟩
        · rw [if_neg h1] at h; cases h
end Go.Proofs.Ytnommofekjiiaaa
