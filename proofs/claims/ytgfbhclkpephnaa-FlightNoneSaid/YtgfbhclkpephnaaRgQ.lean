/-
  A region that draws its order and only reads, in a round of a range over a function: one walk in the text's order. For whatever program.
-/
import Derived.Test.YtgfbhclkpephnaaRgF
import Derived.Sort.BigQuietIn
namespace Go.Proofs.Ytgfbhclkpephnaa
open Go Go.RowKit Go.Shelf
set_option linter.unusedVariables false
variable {F : Fence} {n : Nat} {P : Program} {ops : Array Oper} {md : Region.Mode} {C : World → Prop}
theorem wpOpIn_round {l0 i : Nat} {Q : Exit → Act → World → Prop} {K K' : Act → World → Prop} {a : Act} {w : World} (hro : F.round = none) (hnd : ∀ o ∈ ops.toList, ∀ c, o.op ≠ .defer c) (hK : ∀ a w, K a w → K' a w) (h : wpOpIn F n P ops Q i K a w) : wpOpIn (F.inRound l0) n P ops Q i K' a w := by
  have h2 := wpOpIn_mono hK h
  unfold wpOpIn at h2 ⊢
  cases ho : ops[i]? with
  | none => rw [ho] at h2; exact h2
  | some o =>
    rw [ho] at h2
    simp only at h2 ⊢
    split
    · rename_i hw
      rw [if_pos hw] at h2
      refine ⟨h2.1, ?_⟩
      have hm : o ∈ ops.toList := by
        obtain ⟨hi, rfl⟩ := Array.getElem?_eq_some_iff.1 ho
        exact Array.getElem_mem_toList hi
      have h3 := h2.2
      rw [Oper.semAt_eq _ _ _ (hnd o hm)] at h3 ⊢
      exact h3
    · rename_i hw
      rw [if_neg hw] at h2
      exact h2
theorem wpAnyIn_round {l0 : Nat} {Q : Exit → Act → World → Prop} (hro : F.round = none) (hnd : ∀ o ∈ ops.toList, ∀ c, o.op ≠ .defer c) : ∀ (fuel : Nat) (listed : Array Bool) (a : Act) (w : World), wpAnyIn F n P md ops Q fuel listed a w → wpAnyIn (F.inRound l0) n P md ops Q fuel listed a w
  | 0, _, _, _, h => h
  | fuel + 1, listed, a, w, h => ⟨h.1, fun i hi => wpOpIn_round hro hnd (fun a' w' h' => wpAnyIn_round hro hnd fuel _ a' w' h') (h.2 i hi)⟩
def noDefer (o : Oper) : Bool := match o.op with | .defer _ => false | _ => true
theorem noDefer_ne {o : Oper} (h : noDefer o = true) (c : Call) : o.op ≠ .defer c := fun e => by
  unfold noDefer at h
  rw [e] at h
  cases h
theorem wpIn_region_quiet_round {l0 id : Nat} {Q : Exit → Act → World → Prop} {a : Act} {w : World} {l : List Oper} (hro : F.round = none) (hm : P.follows .mixedOrders = true) (hB : Region.lexB .any l.toArray = true) (hnd : l.all noDefer = true)
    (h : wpQuietIn F n P l.toArray (fun w' => ∃ n, w' = w.drewN n) (fun a' => ∀ w', (∃ n, w' = w.drewN n) → Q .normal a' w') l a) : (Code.region id l.toArray true).wpIn (F.inRound l0) n P Q a w := by
  simp only [Region.lexB, Bool.and_eq_true] at hB
  refine wpIn_region_any hm (wpAnyIn_round hro (fun o ho c => noDefer_ne (List.all_eq_true.1 hnd o (by simpa using ho)) c) _ _ _ _ ?_)
  refine wpAnyIn_of_quiet (C := fun w' => ∃ n, w' = w.drewN n) (Q := fun a' => ∀ w', (∃ n, w' = w.drewN n) → Q .normal a' w') hro (fun _ w' hw' h => h w' hw') _ _ _ _ ⟨1, rfl⟩ ?_
  have := wpAnyQIn_lex (F := F) (n := n) (C := fun w' => ∃ n, w' = w.drewN n) (md := .any) hB.1 l 0 (Array.replicate l.toArray.size false) a (by simp) (by simpa using hB.2) h
  simpa using this
end Go.Proofs.Ytgfbhclkpephnaa
