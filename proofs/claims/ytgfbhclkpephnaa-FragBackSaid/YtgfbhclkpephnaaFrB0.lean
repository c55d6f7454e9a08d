/-
  Frag: parts that come back, by lists alone (chapter 49).
-/
import Derived.Test.YtgfbhclkpephnaaFr14
namespace Go.Proofs.Ytgfbhclkpephnaa
open Go Go.RowKit
set_option linter.unusedVariables false
set_option linter.unusedSimpArgs false
set_option maxRecDepth 100000
set_option maxHeartbeats 2000000
def bodyB (s : List UInt8) (k : Nat) : List UInt8 := (s.drop (k * 7)).take 7
theorem partF_pt (id : Int) (i0 : 0 ≤ id) (i1 : id < 4294967296) (s : List UInt8) (N k : Nat) (hN : N ≤ 255) (hk : k < N) : ptS (partF id s 7 N k) = ⟨id, (k : Int), (N : Int), bodyB s k⟩ := by
  have h4 : (be id 4).length = 4 := be_length id 4
  have e1 : (partF id s 7 N k).take 4 = be id 4 := by
    unfold partF
    rw [List.take_append_of_le_length (by omega), List.take_of_length_le (by omega)]
  have e2 : (partF id s 7 N k).drop 4 = [U8 k] ++ ([U8 N] ++ bodyB s k) := by
    unfold partF bodyB
    rw [List.drop_append_of_le_length (by omega), List.drop_of_length_le (by omega), List.nil_append]
  have e3 : (partF id s 7 N k).drop 5 = [U8 N] ++ bodyB s k := by
    rw [show 5 = 4 + 1 from rfl, ← List.drop_drop, e2]
    rfl
  have e4 : (partF id s 7 N k).drop 6 = bodyB s k := by
    rw [show 6 = 4 + 2 from rfl, ← List.drop_drop, e2]
    rfl
  have u1 : ∀ n : Nat, n ≤ 255 → unbe [U8 (n : Int)] = (n : Int) := fun n hn => by
    have := U8_toNat (n : Int) (by omega)
    show (0 * 256 + ((U8 (n : Int)).toNat : Int)) = (n : Int)
    rw [this]
    omega
  unfold ptS
  rw [e1, e2, e3, e4, unbe_be id i0 4]
  have h1 : List.take 1 ([U8 (k : Int)] ++ ([U8 (N : Int)] ++ bodyB s k)) = [U8 (k : Int)] := rfl
  have h2 : List.take 1 ([U8 (N : Int)] ++ bodyB s k) = [U8 (N : Int)] := rfl
  rw [h1, h2, u1 k (by omega), u1 N hN, Int.emod_eq_of_lt i0 (by simpa using i1)]
theorem partF_len (id : Int) (s : List UInt8) (N k : Nat) (hk : k * 7 < s.length) : 6 < (partF id s 7 N k).length ∧ (partF id s 7 N k).length ≤ 13 := by
  have h4 : (be id 4).length = 4 := be_length id 4
  unfold partF
  simp only [List.length_append, List.length_cons, List.length_nil, List.length_take, List.length_drop, h4]
  omega
def psK (s : List UInt8) (ks : List Nat) : List (Int × List UInt8) := ks.map fun (k : Nat) => ((k : Int), bodyB s k)
def stK (id : Int) (s : List UInt8) (N : Nat) (ks : List Nat) : List AE := if ks = [] then [] else [⟨id, N, psK s ks⟩]
theorem getP_psK (s : List UInt8) (k : Nat) : ∀ {ks : List Nat}, getP (k : Int) (psK s ks) = if k ∈ ks then some (bodyB s k) else none
  | [] => rfl
  | j :: ks => by
    show (if (j : Int) = (k : Int) then some (bodyB s j) else getP (k : Int) (psK s ks)) = _
    by_cases h : j = k
    · subst h
      simp
    · rw [if_neg (by omega), getP_psK s k]
      have : ¬ k = j := fun e => h e.symm
      simp [this]
theorem setP_psK (s : List UInt8) (k : Nat) : ∀ {ks : List Nat}, setP (k : Int) (bodyB s k) (psK s ks) = if k ∈ ks then psK s ks else psK s (ks ++ [k])
  | [] => rfl
  | j :: ks => by
    show (if (j : Int) = (k : Int) then ((k : Int), bodyB s k) :: psK s ks else ((j : Int), bodyB s j) :: setP (k : Int) (bodyB s k) (psK s ks)) = _
    by_cases h : j = k
    · subst h
      simp [psK]
    · rw [if_neg (by omega), setP_psK s k]
      have h2 : ¬ k = j := fun e => h e.symm
      by_cases hk : k ∈ ks
      · rw [if_pos hk, if_pos (List.mem_cons_of_mem _ hk)]
        rfl
      · rw [if_neg hk, if_neg (by simp [h2, hk])]
        rfl
theorem textF_all (s : List UInt8) (ps : List (Int × List UInt8)) : ∀ N : Nat, (∀ k, k < N → getP (k : Int) ps = some (bodyB s k)) → textF ps N = s.take (N * 7)
  | 0, _ => by simp [textF]
  | N + 1, h => by
    rw [textF, textF_all s ps N (fun k hk => h k (by omega)), h N (by omega)]
    show s.take (N * 7) ++ (s.drop (N * 7)).take 7 = _
    rw [← List.take_add, Nat.succ_mul]
/-- One part more. -/
theorem put_back (id : Int) (i0 : 0 ≤ id) (i1 : id < 4294967296) (s : List UInt8) (N k : Nat) (ks : List Nat) (hN : N ≤ 255) (hk : k < N) (hs : (N - 1) * 7 < s.length) (hlt : ks.length < N) :
    putA 1 (stK id s N ks) (partF id s 7 N k) = if k ∈ ks then ⟨stK id s N ks, [], false, 0⟩ else if ks.length + 1 < N then ⟨stK id s N (ks ++ [k]), [], false, 0⟩ else ⟨[], textF (psK s (ks ++ [k])) N, true, 0⟩ := by
  have hkl : k * 7 < s.length := by omega
  have hl := (partF_len id s N k hkl).1
  have hp := partF_pt id i0 i1 s N k hN hk
  have hga : getA id (stK id s N ks) = if ks = [] then none else some ⟨id, N, psK s ks⟩ := by
    unfold stK
    split
    · rfl
    · show (if id = id then some _ else none) = _
      rw [if_pos rfl]
  have he : entE 1 (stK id s N ks) ⟨id, (k : Int), (N : Int), bodyB s k⟩ = 0 := by
    unfold entE
    simp only
    rw [hga]
    by_cases h0 : ks = []
    · subst h0
      rfl
    · rw [if_neg h0]
      simp only
      rw [if_neg (by simp), getP_psK]
      by_cases hm : k ∈ ks
      · rw [if_pos hm]
        simp
      · rw [if_neg hm]
  have hen : entA (stK id s N ks) ⟨id, (k : Int), (N : Int), bodyB s k⟩ = ⟨id, N, psK s ks⟩ := by
    unfold entA
    simp only
    rw [hga]
    by_cases h0 : ks = []
    · subst h0
      rfl
    · rw [if_neg h0]
      rfl
  have hel : entL (stK id s N ks) ⟨id, (k : Int), (N : Int), bodyB s k⟩ = [⟨id, N, psK s ks⟩] := by
    unfold entL
    simp only
    rw [hga]
    by_cases h0 : ks = []
    · subst h0
      rfl
    · rw [if_neg h0]
      show stK id s N ks = _
      unfold stK
      rw [if_neg h0]
  have hne : newA (stK id s N ks) ⟨id, (k : Int), (N : Int), bodyB s k⟩ = ⟨id, N, if k ∈ ks then psK s ks else psK s (ks ++ [k])⟩ := by
    unfold newA
    simp only
    rw [hen, setP_psK]
  unfold putA
  rw [if_neg (by omega), hp, if_neg (show ¬ (N : Int) ≤ (k : Int) by omega), he, if_neg (by simp), hne, hel]
  have hrep : ∀ ps, repA (⟨id, (N : Int), ps⟩ : AE) [⟨id, N, psK s ks⟩] = [⟨id, N, ps⟩] := fun ps => by
    unfold repA
    simp
  have hcut : cutA id [(⟨id, N, psK s ks⟩ : AE)] = [] := by
    unfold cutA
    simp
  by_cases hm : k ∈ ks
  · have h0 : ks ≠ [] := fun e => by rw [e] at hm; cases hm
    simp only [if_pos hm]
    rw [if_pos (show ((psK s ks).length : Int) < (N : Int) by unfold psK; rw [List.length_map]; omega), hrep]
    unfold stK
    rw [if_neg h0]
  · simp only [if_neg hm]
    by_cases h1 : ks.length + 1 < N
    · rw [if_pos (show ((psK s (ks ++ [k])).length : Int) < (N : Int) by unfold psK; rw [List.length_map, List.length_append]; simp; omega), hrep, if_pos h1]
      unfold stK
      rw [if_neg (by simp)]
    · rw [if_neg (show ¬ ((psK s (ks ++ [k])).length : Int) < (N : Int) by unfold psK; rw [List.length_map, List.length_append]; simp; omega), hcut, if_neg h1]
      rfl
/-! Which parts came. -/
def cntT : List Bool → Nat
  | [] => 0
  | b :: H => (if b then 1 else 0) + cntT H
theorem cntT_le : ∀ H : List Bool, cntT H ≤ H.length
  | [] => Nat.le_refl _
  | b :: H => by
    have := cntT_le H
    unfold cntT
    rw [List.length_cons]
    split <;> omega
theorem cntT_all : ∀ {H : List Bool}, cntT H = H.length → ∀ k (hk : k < H.length), H[k] = true
  | [], _, k, hk => by simp at hk
  | b :: H, h, k, hk => by
    have h1 := cntT_le H
    unfold cntT at h
    rw [List.length_cons] at h
    have hb : b = true := by
      cases b
      · simp at h; omega
      · rfl
    have h2 : cntT H = H.length := by rw [hb] at h; simp at h; omega
    match k with
    | 0 => exact hb
    | k + 1 => exact cntT_all h2 k (by rw [List.length_cons] at hk; omega)
theorem cntT_of_all : ∀ {H : List Bool}, (∀ k (hk : k < H.length), H[k] = true) → cntT H = H.length
  | [], _ => rfl
  | b :: H, h => by
    have hb : b = true := h 0 (by simp)
    have := cntT_of_all (H := H) (fun k hk => h (k + 1) (by simp; omega))
    unfold cntT
    rw [this, hb, List.length_cons]
    simp
    omega
theorem cntT_set : ∀ {H : List Bool} {k : Nat} (hk : k < H.length), H[k] = false → cntT (H.set k true) = cntT H + 1
  | [], k, hk, _ => by simp at hk
  | b :: H, 0, hk, h => by
    have hb : b = false := h
    subst hb
    show 1 + cntT H = (0 + cntT H) + 1
    omega
  | b :: H, k + 1, hk, h => by
    have := cntT_set (H := H) (k := k) (by simpa using hk) h
    show (if b then 1 else 0) + cntT (H.set k true) = (if b then 1 else 0) + cntT H + 1
    rw [this]
    omega
theorem cntT_rep : ∀ N : Nat, cntT (List.replicate N false) = 0
  | 0 => rfl
  | N + 1 => by
    rw [List.replicate_succ]
    show 0 + cntT _ = 0
    rw [cntT_rep N]
/-- Which parts came: H of N places, ks in their order. -/
structure Came (N : Nat) (H : List Bool) (ks : List Nat) : Prop where
  l : H.length = N
  m : ∀ k (hk : k < H.length), H[k] = true ↔ k ∈ ks
  n : ks.length = cntT H
  lt : ∀ k ∈ ks, k < N
theorem Came.nil (N : Nat) : Came N (List.replicate N false) [] :=
  ⟨by simp, fun k hk => by simp, (cntT_rep N).symm, by simp⟩
theorem Came.add {N : Nat} {H : List Bool} {ks : List Nat} {k : Nat} (h : Came N H ks) (hk : k < N) (hn : k ∉ ks) : Came N (H.set k true) (ks ++ [k]) := by
  have hkl : k < H.length := by rw [h.l]; exact hk
  have hf : H[k] = false := by
    cases hb : H[k] with
    | false => rfl
    | true => exact absurd ((h.m k hkl).1 hb) hn
  refine ⟨by simpa using h.l, fun j hj => ?_, by rw [List.length_append, cntT_set hkl hf, h.n]; rfl, fun j hj => ?_⟩
  · rw [List.getElem_set]
    by_cases e : k = j
    · subst e
      simp
    · have hne : ¬ j = k := fun x => e x.symm
      rw [if_neg e, h.m j (by simpa using hj)]
      simp [hne]
  · rcases List.mem_append.1 hj with hj | hj
    · exact h.lt j hj
    · obtain rfl := List.mem_singleton.1 hj
      exact hk
theorem Came.whole {N : Nat} {H : List Bool} {ks : List Nat} (h : Came N H ks) (hn : ks.length = N) : ∀ k, k < N → k ∈ ks := fun k hk =>
  (h.m k (by rw [h.l]; exact hk)).1 (cntT_all (by rw [← h.n, hn, h.l]) k (by rw [h.l]; exact hk))
theorem Came.full {N : Nat} {H : List Bool} {ks : List Nat} (h : Came N H ks) (ha : ∀ k, k < N → k ∈ ks) : ks.length = N := by
  rw [h.n, cntT_of_all (fun k hk => (h.m k hk).2 (ha k (by rw [← h.l]; exact hk))), h.l]
theorem Came.most {N : Nat} {H : List Bool} {ks : List Nat} (h : Came N H ks) : ks.length ≤ N := by
  rw [h.n, ← h.l]
  exact cntT_le H
end Go.Proofs.Ytgfbhclkpephnaa
