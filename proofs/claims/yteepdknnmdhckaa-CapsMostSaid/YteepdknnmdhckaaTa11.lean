/-
  The table, plain: entries by key, what a shard is for them; judge at any entry (chapter 18).
-/
import Derived.Test.YteepdknnmdhckaaTa10
namespace Go.Proofs.Yteepdknnmdhckaa
open Go Go.RowKit Go.MuLone
set_option linter.unusedVariables false
set_option linter.unusedSimpArgs false
set_option maxRecDepth 100000
set_option maxHeartbeats 1000000
/-- An entry as the document has it: key, how many are needed, its shards. -/
abbrev DE := (Int × Int) × Int × List Sh
def TE.d (e : TE) : DE := (e.k, e.need, e.l)
def firstLen : List Sh → Nat
  | y :: _ => y.2.length
  | [] => 0
/-- What a shard is for an entry that is there. -/
def judgeN (d : DE) (need : Int) (x : Sh) : Nat :=
  if d.2.1 ≤ (d.2.2.length : Int) then 1
  else if d.2.1 ≠ need ∨ firstLen d.2.2 ≠ x.2.length then 4
  else if hitN x.1 d.2.2 = true then (if d.2.2[lowN x.1 d.2.2]? = some (x.1, x.2) then 1 else 4)
  else if d.2.1 ≤ (d.2.2.length : Int) + 1 then 3 else 0
def grows (n : Nat) : Bool := n == 0 || n == 3
def judgeL (d : DE) (need : Int) (x : Sh) : List Sh := if grows (judgeN d need x) then insL d.2.2 (lowN x.1 d.2.2) x else d.2.2
theorem judgeN_le (d : DE) (need : Int) (x : Sh) : judgeN d need x ≤ 5 := by
  unfold judgeN
  split
  · omega
  · split
    · omega
    · split
      · split <;> omega
      · split <;> omega
/-- It rises still. -/
theorem Rise.ins {l : List Sh} {x : Sh} (h : Rise l) (hh : hitN x.1 l = false) : Rise (insL l (lowN x.1 l) x) := by
  have key : ∀ (l : List Sh), Rise l → hitN x.1 l = false → Rise (insL l (lowN x.1 l) x) ∧ ∀ z, (∀ y ∈ l, z < y.1) → z < x.1 → ∀ y ∈ insL l (lowN x.1 l) x, z < y.1 := by
    intro l
    induction l with
    | nil => intro _ _; exact ⟨by simp [Rise, insL], fun z _ h y hy => by simp [insL] at hy; rw [hy]; exact h⟩
    | cons y l ih =>
      intro hr hh
      have hr' : Rise l := by unfold Rise at hr ⊢; rw [List.map_cons, List.pairwise_cons] at hr; exact hr.2
      have hlt : ∀ z ∈ l, y.1 < z.1 := fun z hz => by
        unfold Rise at hr
        rw [List.map_cons, List.pairwise_cons] at hr
        exact hr.1 _ (List.mem_map.2 ⟨z, hz, rfl⟩)
      by_cases hy : y.1 < x.1
      · have e1 : lowN x.1 (y :: l) = lowN x.1 l + 1 := by simp [lowN, hy]
        have e2 : hitN x.1 l = false := by
          unfold hitN at hh ⊢
          rw [e1] at hh
          simpa using hh
        obtain ⟨i1, i2⟩ := ih hr' e2
        have e3 : insL (y :: l) (lowN x.1 (y :: l)) x = y :: insL l (lowN x.1 l) x := by rw [e1]; simp [insL]
        rw [e3]
        refine ⟨?_, fun z hz hzx u hu => ?_⟩
        · unfold Rise at i1 ⊢
          rw [List.map_cons, List.pairwise_cons]
          refine ⟨fun u hu => ?_, i1⟩
          obtain ⟨v, hv, rfl⟩ := List.mem_map.1 hu
          exact i2 y.1 hlt hy v hv
        · rcases List.mem_cons.1 hu with rfl | hu
          · exact hz _ (by simp)
          · exact i2 z (fun v hv => hz v (by simp [hv])) hzx u hu
      · have e1 : lowN x.1 (y :: l) = 0 := by simp [lowN, hy]
        have hne : ¬ y.1 = x.1 := by
          unfold hitN at hh
          rw [e1] at hh
          simpa using hh
        have e3 : insL (y :: l) (lowN x.1 (y :: l)) x = x :: y :: l := by rw [e1]; simp [insL]
        rw [e3]
        refine ⟨?_, fun z hz hzx u hu => ?_⟩
        · unfold Rise at hr ⊢
          rw [List.map_cons, List.pairwise_cons]
          refine ⟨fun u hu => ?_, hr⟩
          obtain ⟨v, hv, rfl⟩ := List.mem_map.1 hu
          rcases List.mem_cons.1 hv with rfl | hv
          · omega
          · have := hlt v hv; omega
        · rcases List.mem_cons.1 hu with rfl | hu
          · exact hzx
          · exact hz u hu
  exact (key l h hh).1
theorem judge_ok {e : TE} (ok : EOk e) (need : Int) (x : Sh) (sv : Value) : EOk { e with l := judgeL e.d need x, sv := sv } := by
  by_cases hg : grows (judgeN e.d need x) = true
  · have hl : judgeL e.d need x = insL e.l (lowN x.1 e.l) x := by unfold judgeL; rw [if_pos hg]; rfl
    have hd : ¬ e.need ≤ (e.l.length : Int) := fun h => by
      have : judgeN e.d need x = 1 := by unfold judgeN TE.d; rw [if_pos h]
      rw [this] at hg; cases hg
    have hh : hitN x.1 e.l = false := by
      by_cases h : hitN x.1 e.l = true
      · exfalso
        have h5 : judgeN e.d need x = 4 ∨ judgeN e.d need x = 1 := by
          unfold judgeN TE.d
          rw [if_neg hd]
          by_cases c : e.need ≠ need ∨ firstLen e.l ≠ x.2.length
          · rw [if_pos c]; exact .inl rfl
          · rw [if_neg c, if_pos h]
            by_cases c2 : e.l[lowN x.1 e.l]? = some (x.1, x.2)
            · rw [if_pos c2]; exact .inr rfl
            · rw [if_neg c2]; exact .inl rfl
        rcases h5 with h5 | h5 <;> rw [h5] at hg <;> cases hg
      · simpa using h
    rw [hl]
    have hlen := insL_length e.l (lowN x.1 e.l) x (lowN_le _ _)
    exact ⟨ok.a, ok.b, by show 0 < (insL _ _ _).length; omega, by show ((insL _ _ _).length : Int) ≤ e.need; rw [hlen]; omega, ok.r.ins hh⟩
  · have hl : judgeL e.d need x = e.l := by unfold judgeL; rw [if_neg hg]; rfl
    rw [hl]
    exact ⟨ok.a, ok.b, ok.c, ok.d, ok.r⟩
end Go.Proofs.Yteepdknnmdhckaa
