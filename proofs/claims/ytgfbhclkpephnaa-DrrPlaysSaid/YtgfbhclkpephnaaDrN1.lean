/-
  Whose turn it is: three rows of numbers, in and out, beside a scheduler (chapter 17).
-/
import Derived.Test.YtgfbhclkpephnaaDrN0
namespace Go.Proofs.Ytgfbhclkpephnaa
open Go Go.RowKit
set_option linter.unusedVariables false
set_option linter.unusedSimpArgs false
set_option maxRecDepth 100000
set_option maxHeartbeats 1000000
def iv (l : List Int) : List Value := l.map (Value.int .i64)
def updV (V : Nat → Value) (j : Nat) (v : Value) : Nat → Value := fun i => if i = j then v else V i
theorem updV_at (V : Nat → Value) (j : Nat) (v : Value) : updV V j v j = v := if_pos rfl
theorem updV_ne (V : Nat → Value) {i j : Nat} (v : Value) (h : i ≠ j) : updV V j v i = V i := if_neg h
theorem arr3_get (V : Nat → Value) {j : Nat} (hj : j < 3) : (#[V 0, V 1, V 2] : Array Value)[j]? = some (V j) := by
  match j, hj with
  | 0, _ | 1, _ | 2, _ => rfl
theorem arr3_set (V : Nat → Value) {j : Nat} (hj : j < 3) (v : Value) : #[updV V j v 0, updV V j v 1, updV V j v 2] = (#[V 0, V 1, V 2] : Array Value).setIfInBounds j v := by
  match j, hj with
  | 0, _ | 1, _ | 2, _ => rfl
structure Arr3 (w : World) (base b : Nat) (L : Nat → List Int) (V : Nat → Value) : Prop where
  b : Blk w b #[V 0, V 1, V 2] 51
  s : ∀ j, j < 3 → Seg w base 3 1 (V j) (L j).length (iv (L j))
  d : ∀ j, j < 3 → ∀ k, k < 3 → j ≠ k → ∀ g, (V j).ownBlock = some g → (V k).ownBlock ≠ some g
def own3 (b : Nat) (V : Nat → Value) : List Nat := b :: ((V 0).ownBlock.toList ++ ((V 1).ownBlock.toList ++ (V 2).ownBlock.toList))
theorem own3_b (b : Nat) (V : Nat → Value) : b ∈ own3 b V := List.mem_cons_self
theorem own3_V (b : Nat) (V : Nat → Value) {j g : Nat} (hj : j < 3) (hg : (V j).ownBlock = some g) : g ∈ own3 b V := by
  unfold own3
  match j, hj with
  | 0, _ => simp [hg]
  | 1, _ => simp [hg]
  | 2, _ => simp [hg]
theorem own3_cases {b : Nat} {V : Nat → Value} {y : Nat} (h : y ∈ own3 b V) : y = b ∨ ∃ j, j < 3 ∧ (V j).ownBlock = some y := by
  rcases List.mem_cons.1 h with e | h
  · exact .inl e
  · rcases List.mem_append.1 h with h | h
    · exact .inr ⟨0, by omega, by simpa using h⟩
    · rcases List.mem_append.1 h with h | h
      · exact .inr ⟨1, by omega, by simpa using h⟩
      · exact .inr ⟨2, by omega, by simpa using h⟩
section
variable {w w' w5 : World} {base b : Nat} {L : Nat → List Int} {V : Nat → Value}
theorem Arr3.lt (h : Arr3 w base b L V) : ∀ y ∈ own3 b V, y < w.heap.size := fun y hy => by
  rcases own3_cases hy with rfl | ⟨j, hj, hg⟩
  · exact h.b.lt
  · exact ((h.s j hj).blk y hg).2
theorem Arr3.keep {F : List Nat} (h : Arr3 w base b L V) (hk : Keep F w w') (hF : ∀ y ∈ own3 b V, y ∈ F) : Arr3 w' base b L V :=
  ⟨hk.blk h.b (hF _ (own3_b _ _)), fun j hj => hk.seg (h.s j hj) (fun g hg => hF _ (own3_V b V hj hg)), h.d⟩
theorem Arr3.chain (h : Arr3 w base b L V) (hb : Below w.heap.size w w') : Arr3 w' base b L V := h.keep (Keep.of_below hb h.lt) (fun _ hy => hy)
theorem Arr3.only {X : List Nat} (h : Arr3 w base b L V) (ho : Only X w w') (hX : ∀ y ∈ own3 b V, y ∉ X) : Arr3 w' base b L V :=
  h.keep (F := own3 b V) ⟨ho.size, fun y hy => ho.block y (h.lt y hy) (hX y hy)⟩ (fun _ hy => hy)
theorem Arr3.cell (h : Arr3 w base b L V) {j : Nat} (hj : j < 3) : w.cell? ⟨b, j, none⟩ = some (V j) := (h.b.facts.1 j).trans (arr3_get V hj)
theorem Arr3.ne_b (h : Arr3 w base b L V) {j : Nat} (hj : j < 3) : ∀ g, (V j).ownBlock = some g → g ≠ b := fun g hg e => by
  rcases (h.s j hj).2 with ⟨hv, _⟩ | ⟨g', off, cap, cur, hv, _, hh, _⟩
  · rw [hv] at hg; cases hg
  · rw [hv] at hg
    obtain rfl : g' = g := by simpa [Value.ownBlock] using hg
    exact Blk.ne_ty (cs := cur) hh h.b (by decide) e
/-- A number is put behind a row. -/
theorem Arr3.push (h : Arr3 w base b L V) {j : Nat} (hj : j < 3) (z : Int) {g off cp : Nat} (hown : Seg w5 base 3 1 (.slice (some ⟨g, off, none⟩) ((L j).length + 1) cp) ((L j).length + 1) (iv (L j) ++ [.int .i64 z])) (hgrow : Only (V j).ownBlock.toList w w5) (hat : (V j).ownBlock = some g ∨ w.heap.size ≤ g) :
    Arr3 (w5.setCell ⟨b, j, none⟩ (.slice (some ⟨g, off, none⟩) ((L j).length + 1) cp)) base b (upd L j (L j ++ [z])) (updV V j (.slice (some ⟨g, off, none⟩) ((L j).length + 1) cp)) ∧
    Only (own3 b V) w (w5.setCell ⟨b, j, none⟩ (.slice (some ⟨g, off, none⟩) ((L j).length + 1) cp)) ∧ ∀ y ∈ own3 b (updV V j (.slice (some ⟨g, off, none⟩) ((L j).length + 1) cp)), y ∈ own3 b V ∨ w.heap.size ≤ y ∧ y < (w5.setCell ⟨b, j, none⟩ (.slice (some ⟨g, off, none⟩) ((L j).length + 1) cp)).heap.size := by
  have hb5 : Blk w5 b #[V 0, V 1, V 2] 51 := h.b.only hgrow (fun hm => h.ne_b hj b (by simpa using hm) rfl)
  have hgb : g ≠ b := by
    rcases hat with e | e
    · exact h.ne_b hj g e
    · have := h.b.lt; omega
  have hx : ∀ x, (Value.slice (some ⟨g, off, none⟩) ((L j).length + 1) cp).ownBlock = some x → x ≠ b := fun x hx => by
    obtain rfl : g = x := by simpa [Value.ownBlock] using hx
    exact hgb
  have hg5 : g < w5.heap.size := (hown.blk g rfl).2
  refine ⟨⟨hb5.setAt j _ (arr3_set V hj _), fun i hi => ?_, fun i hi k hk hne x hxi => ?_⟩, ?_, fun y hy => ?_⟩
  · by_cases e : i = j
    · subst e
      rw [upd_at, updV_at, List.length_append]
      have : iv (L i ++ [z]) = iv (L i) ++ [.int .i64 z] := by simp [iv]
      rw [this]
      exact hown.setOther _ _ hx
    · rw [upd_ne _ _ e, updV_ne _ _ e]
      exact ((h.s i hi).only hgrow (fun y hy hm => h.d i hi j hj e y hy (by simpa using hm))).setOther _ _ (h.ne_b hi)
  · by_cases e1 : i = j
    · subst e1
      rw [updV_at] at hxi
      rw [updV_ne _ _ (fun e => hne e.symm)]
      obtain rfl : g = x := by simpa [Value.ownBlock] using hxi
      rcases hat with e | e
      · exact h.d i hi k hk hne g e
      · intro hk'
        have := ((h.s k hk).blk g hk').2
        omega
    · rw [updV_ne _ _ e1] at hxi
      by_cases e2 : k = j
      · subst e2
        rw [updV_at]
        intro hk'
        obtain rfl : g = x := by simpa [Value.ownBlock] using hk'
        rcases hat with e | e
        · exact h.d i hi k hk hne g hxi e
        · have := ((h.s i hi).blk g hxi).2
          omega
      · rw [updV_ne _ _ e2]
        exact h.d i hi k hk hne x hxi
  · exact (hgrow.mono (fun y hy => .inl (own3_V b V hj (by simpa using hy)))).setCell ⟨b, j, none⟩ _ (.inl (own3_b _ _))
  · rcases own3_cases hy with e | ⟨i, hi, hyi⟩
    · exact .inl (by rw [e]; exact own3_b _ _)
    · by_cases e : i = j
      · subst e
        rw [updV_at] at hyi
        obtain rfl : g = y := by simpa [Value.ownBlock] using hyi
        rcases hat with e | e
        · exact .inl (own3_V b V hj e)
        · exact .inr ⟨e, by simpa [World.setCell] using hg5⟩
      · rw [updV_ne _ _ e] at hyi
        exact .inl (own3_V b V hi hyi)
end
/-- A scheduler, and the rows of what came in and went out. -/
structure NnS (W : World) (bs : Nat) (S : PS) (b1 b2 : Nat) (I O : Nat → List Int) (V1 V2 : Nat → Value) (w : World) : Prop where
  al : Al W bs S (own3 b1 V1 ++ own3 b2 V2) w
  a1 : Arr3 w W.heap.size b1 I V1
  a2 : Arr3 w W.heap.size b2 O V2
  x : ∀ y ∈ own3 b1 V1, y ∉ own3 b2 V2
  l1 : W.heap.size ≤ b1
  l2 : W.heap.size ≤ b2
section
variable {W w w' w5 : World} {bs : Nat} {S S' : PS} {b1 b2 : Nat} {I O : Nat → List Int} {V1 V2 : Nat → Value}
theorem NnS.step (h : NnS W bs S b1 b2 I O V1 V2 w) (ha : Al W bs S' (own3 b1 V1 ++ own3 b2 V2) w') (hk : Keep (own3 b1 V1 ++ own3 b2 V2) w w') : NnS W bs S' b1 b2 I O V1 V2 w' :=
  ⟨ha, h.a1.keep hk (fun _ hy => List.mem_append_left _ hy), h.a2.keep hk (fun _ hy => List.mem_append_right _ hy), h.x, h.l1, h.l2⟩
theorem NnS.chain (h : NnS W bs S b1 b2 I O V1 V2 w) (hb : Below w.heap.size w w') : NnS W bs S b1 b2 I O V1 V2 w' := ⟨h.al.chain hb, h.a1.chain hb, h.a2.chain hb, h.x, h.l1, h.l2⟩
theorem NnS.base1 (h : NnS W bs S b1 b2 I O V1 V2 w) : ∀ y ∈ own3 b1 V1, W.heap.size ≤ y := fun y hy => by
  rcases own3_cases hy with rfl | ⟨j, hj, hg⟩
  · exact h.l1
  · exact ((h.a1.s j hj).blk y hg).1
theorem NnS.base2 (h : NnS W bs S b1 b2 I O V1 V2 w) : ∀ y ∈ own3 b2 V2, W.heap.size ≤ y := fun y hy => by
  rcases own3_cases hy with rfl | ⟨j, hj, hg⟩
  · exact h.l2
  · exact ((h.a2.s j hj).blk y hg).1
theorem NnS.push1 (h : NnS W bs S b1 b2 I O V1 V2 w) {j : Nat} (hj : j < 3) (z : Int) {g off cp : Nat} (hown : Seg w5 W.heap.size 3 1 (.slice (some ⟨g, off, none⟩) ((I j).length + 1) cp) ((I j).length + 1) (iv (I j) ++ [.int .i64 z])) (hgrow : Only (V1 j).ownBlock.toList w w5) (hat : (V1 j).ownBlock = some g ∨ w.heap.size ≤ g) :
    NnS W bs S b1 b2 (upd I j (I j ++ [z])) O (updV V1 j (.slice (some ⟨g, off, none⟩) ((I j).length + 1) cp)) V2 (w5.setCell ⟨b1, j, none⟩ (.slice (some ⟨g, off, none⟩) ((I j).length + 1) cp)) := by
  obtain ⟨h1, h2, h3⟩ := h.a1.push hj z hown hgrow hat
  refine ⟨?_, h1, h.a2.only h2 (fun y hy hm => h.x y hm hy), fun y hy hm => ?_, h.l1, h.l2⟩
  · by_cases hg : g ∈ own3 b1 V1
    · refine (h.al.other (X := own3 b1 V1) (G := []) h2 (fun y hy => ⟨List.mem_append_left _ hy, h.base1 y hy⟩) (by simp)).less (fun y hy => ?_)
      rcases List.mem_append.1 hy with hy | hy
      · rcases own3_cases hy with e | ⟨i, hi, hyi⟩
        · exact List.mem_append_right _ (List.mem_append_left _ (by rw [e]; exact own3_b _ _))
        · by_cases e : i = j
          · rw [e, updV_at] at hyi
            obtain rfl : g = y := by simpa [Value.ownBlock] using hyi
            exact List.mem_append_right _ (List.mem_append_left _ hg)
          · rw [updV_ne _ _ e] at hyi
            exact List.mem_append_right _ (List.mem_append_left _ (own3_V b1 V1 hi hyi))
      · exact List.mem_append_right _ (List.mem_append_right _ hy)
    · have hgs : w.heap.size ≤ g := by
        rcases hat with e | e
        · exact absurd (own3_V b1 V1 hj e) hg
        · exact e
      refine (h.al.other (X := own3 b1 V1) (G := [g]) h2 (fun y hy => ⟨List.mem_append_left _ hy, h.base1 y hy⟩) (fun y hy => by
        obtain rfl := List.mem_singleton.1 hy
        exact ⟨hgs, by have := (hown.blk y rfl).2; simpa [World.setCell] using this⟩)).less (fun y hy => ?_)
      rcases List.mem_append.1 hy with hy | hy
      · rcases own3_cases hy with e | ⟨i, hi, hyi⟩
        · exact List.mem_append_right _ (List.mem_append_left _ (by rw [e]; exact own3_b _ _))
        · by_cases e : i = j
          · rw [e, updV_at] at hyi
            obtain rfl : g = y := by simpa [Value.ownBlock] using hyi
            exact List.mem_append_left _ (by simp)
          · rw [updV_ne _ _ e] at hyi
            exact List.mem_append_right _ (List.mem_append_left _ (own3_V b1 V1 hi hyi))
      · exact List.mem_append_right _ (List.mem_append_right _ hy)
  · rcases h3 y hy with hy | ⟨hy, _⟩
    · exact h.x y hy hm
    · have := h.a2.lt y hm
      omega
theorem NnS.swap (h : NnS W bs S b1 b2 I O V1 V2 w) : NnS W bs S b2 b1 O I V2 V1 w :=
  ⟨h.al.less (fun y hy => (List.mem_append.1 hy).elim (fun e => List.mem_append_right _ e) (fun e => List.mem_append_left _ e)), h.a2, h.a1, fun y hy hm => h.x y hm hy, h.l2, h.l1⟩
end
end Go.Proofs.Ytgfbhclkpephnaa
