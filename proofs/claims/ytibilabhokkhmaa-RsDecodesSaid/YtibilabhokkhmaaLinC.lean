/-
  What the laws of layer 3 say, of tables as they are reckoned. Plain.
-/
import Derived.Test.YtibilabhokkhmaaLinB
namespace Go.Proofs.Ytibilabhokkhmaa
set_option linter.unusedVariables false
theorem Gd.of_chk {M : Tab} (h : chkM M = 0) (hb : AllB M) : Gd M.length (wid M) M ∧ (1 ≤ M.length ∧ M.length ≤ 255) ∧ (1 ≤ wid M ∧ wid M ≤ 255) := by
  obtain ⟨h1, h2, h3⟩ := chkM_zero h
  exact ⟨⟨rfl, wide_of h3, hb⟩, h1, h2⟩
theorem Gd.wid {n x : Nat} {M : Tab} (h : Gd n x M) (hn : 1 ≤ n) : wid M = x := by
  have := h.wide 0 (by rw [h.len]; omega)
  rw [← this]
  exact (wid_eq (by rw [h.len]; omega)).symm
theorem Gd.chk {n x : Nat} {M : Tab} (h : Gd n x M) (hn : 1 ≤ n) (hn2 : n ≤ 255) (hx : 1 ≤ x) (hx2 : x ≤ 255) : chkM M = 0 := by
  have hw := h.wid hn
  refine chkM_ok (badZ_no (by rw [h.len]; omega) (by rw [h.len]; omega)) (badZ_no (by rw [hw]; omega) (by rw [hw]; omega)) (fun r hr => ?_)
  obtain ⟨i, hi, rfl⟩ := List.mem_iff_getElem.1 hr
  rw [hw]
  exact h.wide i hi
theorem gd_id (n : Nat) : Gd n n (idM n) := ⟨idM_length n, wide_id n, fun i hi => by
  simp only [idM, List.getElem_map]
  exact idRow_lt _ _⟩
theorem ef_id (n i j : Nat) (hi : i < n) (hj : j < n) : ef (idM n) i j = idm i j := by
  unfold ef
  rw [entM_get _ i j (by rw [idM_length]; exact hi) (by simp [idM, idRow_length, hj])]
  simp only [idM, List.getElem_map, List.getElem_range, idRow]
  rw [List.getElem_set]
  unfold idm
  by_cases e : i = j
  · rw [if_pos e, if_pos e]; rfl
  · rw [if_neg e, if_neg e]; simp [fd_zero]
theorem fd_dot (r : List Nat) (Q : Tab) (j : Nat) (hr : ∀ x ∈ r, x < 256) (hQ : AllB Q) : ∀ m, fd (dotS r Q j m) = sm m (fun k => fd (r.getD k 0) * ef Q k j)
  | 0 => rfl
  | m + 1 => by
    rw [dotS_succ, fd_xor, fd_dot r Q j hr hQ m, fd_gm _ _ (getD_lt hr m) (entM_lt hQ m j)]
    rfl
section
variable {n m y : Nat} {A Q : Tab}
theorem gd_mul (hA : Gd n m A) (hQ : Gd m y Q) (hm : 1 ≤ m) : Gd n y (mulT A Q) := by
  refine ⟨by rw [mulT_length, hA.len], fun i hi => ?_, fun i hi => ?_⟩
  · simp only [mulT, List.getElem_map, mulSo_length]
    exact hQ.wid hm
  · simp only [mulT, List.getElem_map]
    exact mulSo_lt _ _ _
theorem ef_mul (hA : Gd n m A) (hQ : Gd m y Q) (hm : 1 ≤ m) (i j : Nat) (hi : i < n) (hj : j < y) : ef (mulT A Q) i j = mm m (ef A) (ef Q) i j := by
  have hw := hQ.wid hm
  have hiA : i < A.length := by rw [hA.len]; exact hi
  unfold ef
  rw [entM_get _ i j (by rw [mulT_length]; exact hiA) (by simp [mulT, mulSo_length, hw, hj])]
  simp only [mulT, List.getElem_map, mulSo, List.getElem_range]
  rw [fd_dot _ _ _ (hA.all i hiA) hQ.all, hQ.len]
  refine sm_congr (fun k hk => ?_)
  congr 2
  unfold entM
  rw [getD_get A i [] hiA]
theorem mul_yes (hA : Gd n m A) (hQ : Gd m y Q) (hn : 1 ≤ n ∧ n ≤ 255) (hm : 1 ≤ m ∧ m ≤ 255) (hy : 1 ≤ y ∧ y ≤ 255) : mulE A Q = 0 ∧ mulV A Q = mulT A Q := by
  have e : mulE A Q = 0 := mulE_ok (hA.chk hn.1 hn.2 hm.1 hm.2) (hQ.chk hm.1 hm.2 hy.1 hy.2) (by rw [hA.wid hn.1, hQ.len])
  exact ⟨e, by unfold mulV; rw [if_pos e]⟩
end
/-- The identity changes nothing. -/
theorem mul_id {M : Tab} (h : chkM M = 0) (hb : AllB M) : mulE M (idM (wid M)) = 0 ∧ mulV M (idM (wid M)) = M ∧ badZ (wid M) = false := by
  obtain ⟨hM, hn, hx⟩ := Gd.of_chk h hb
  have hm := mul_yes hM (gd_id (wid M)) hn hx hx
  refine ⟨hm.1, ?_, badZ_no (by omega) (by omega)⟩
  rw [hm.2]
  refine Gd.ext (gd_mul hM (gd_id _) hx.1) hM (fun i j hi hj => ?_)
  rw [ef_mul hM (gd_id _) hx.1 i j hi hj]
  calc mm (wid M) (ef M) (ef (idM (wid M))) i j = mm (wid M) (ef M) idm i j := mm_congr (fun _ _ => rfl) (fun k hk => ef_id _ k j hk hj)
    _ = ef M i j := mm_id _ hj
/-! Ranks. -/
theorem gd_rep (n : Nat) : Gd n 0 (List.replicate n ([] : List Nat)) := ⟨by simp, wide_nil n, fun i hi => by simp⟩
theorem rank_is {M : Tab} (h : chkM M = 0) (hb : AllB M) : Rk M.length (wid M) (ef M) (rankM M) ∧ rankV M = rankM M := by
  obtain ⟨hM, hn, hx⟩ := Gd.of_chk h hb
  exact ⟨rank_red hM (gd_rep _), by unfold rankV; rw [if_pos h]⟩
def turnL (M : Tab) : Tab := (List.range (wid M)).map fun j => (List.range M.length).map fun i => entM M i j
theorem gd_turn {n x : Nat} {M : Tab} (h : Gd n x M) (hn : 1 ≤ n) : Gd x n (turnL M) := by
  have hw := h.wid hn
  refine ⟨by simp [turnL, hw], fun i hi => by simp [turnL, h.len], fun i hi y hy => ?_⟩
  simp only [turnL, List.getElem_map, List.mem_map] at hy
  obtain ⟨k, _, rfl⟩ := hy
  exact h.lt _ _
theorem ef_turn {n x : Nat} {M : Tab} (h : Gd n x M) (hn : 1 ≤ n) (i j : Nat) (hi : i < x) (hj : j < n) : ef (turnL M) i j = ef M j i := by
  have hw := h.wid hn
  unfold ef
  rw [entM_get _ i j (by simp [turnL, hw, hi]) (by simp [turnL, h.len, hj])]
  simp [turnL]
/-- What the law of ranks says. -/
theorem ranks_law {A : Tab} (h : chkM A = 0) (hb : AllB A) : rankM A ≤ A.length ∧ rankM A ≤ wid A ∧ chkM (turnL A) = 0 ∧ rankV (turnL A) = rankM A ∧ rankV A = rankM A ∧ AllB (turnL A) := by
  obtain ⟨hA, hn, hx⟩ := Gd.of_chk h hb
  obtain ⟨hr, hv⟩ := rank_is h hb
  have hT := gd_turn hA hn.1
  have hc := hT.chk hx.1 hx.2 hn.1 hn.2
  obtain ⟨hr2, hv2⟩ := rank_is hc hT.all
  rw [hT.len, hT.wid hx.1] at hr2
  refine ⟨hr.le_rows, hr.le_places, hc, ?_, hv, hT.all⟩
  rw [hv2]
  congr 1
  exact Rk.unique hr2 (Rk.congr hr.turn (fun i j hi hj => (ef_turn hA hn.1 i j hi hj).symm))
theorem ranks_mul {A Q : Tab} (hb : AllB A) (hq : AllB Q) (he : mulE A Q = 0) : chkM A = 0 ∧ chkM Q = 0 ∧ chkM (mulV A Q) = 0 ∧ rankM (mulV A Q) ≤ rankM A ∧ rankM (mulV A Q) ≤ rankM Q ∧ AllB (mulV A Q) := by
  have hcA : chkM A = 0 := Classical.byContradiction fun h => by rw [mulE_a h] at he; exact h he
  have hcQ : chkM Q = 0 := Classical.byContradiction fun h => by rw [mulE_q hcA h] at he; exact h he
  have hl : wid A = Q.length := Classical.byContradiction fun h => by rw [mulE_l hcA hcQ h] at he; cases he
  obtain ⟨hA, hn, hx⟩ := Gd.of_chk hcA hb
  obtain ⟨hQ, hm, hy⟩ := Gd.of_chk hcQ hq
  rw [hl] at hA hx
  have hP := gd_mul hA hQ hm.1
  have hv : mulV A Q = mulT A Q := (mul_yes hA hQ hn hm hy).2
  rw [hv]
  have hcP := hP.chk hn.1 hn.2 hy.1 hy.2
  obtain ⟨rA, _⟩ := rank_is hcA hb
  obtain ⟨rQ, _⟩ := rank_is hcQ hq
  obtain ⟨rP, _⟩ := rank_is hcP hP.all
  rw [hl] at rA
  rw [hP.len, hP.wid hn.1] at rP
  have rP' := Rk.congr rP (fun i j hi hj => ef_mul hA hQ hm.1 i j hi hj)
  exact ⟨hcA, hcQ, hcP, Rk.mul_left rA rP', Rk.mul_right rQ rP', hP.all⟩
/-! Inverses. -/
theorem inv_yes {M : Tab} (hb : AllB M) (h : invE M = 0) : chkM M = 0 ∧ M.length = wid M ∧ (redI M).1 = M.length := by
  have hc : chkM M = 0 := Classical.byContradiction fun hc => by rw [invE_chk hc] at h; exact hc h
  have hl : M.length = wid M := Classical.byContradiction fun hl => by rw [invE_len hc hl] at h; cases h
  have hs : ¬ (redI M).1 < M.length := fun hs => by rw [invE_sing hc hl hs] at h; cases h
  obtain ⟨hM, _, _⟩ := Gd.of_chk hc hb
  rw [← hl] at hM
  have := (redSo_rinv hM (gd_id M.length) M.length (Nat.le_refl _)).le
  unfold redI at hs ⊢
  exact ⟨hc, hl, by omega⟩
theorem inv_facts {M : Tab} (hb : AllB M) (h : invE M = 0) : Gd M.length M.length M ∧ (1 ≤ M.length ∧ M.length ≤ 255) ∧ Gd M.length M.length (invV M) ∧
    (∀ i j, i < M.length → j < M.length → mm M.length (ef (invV M)) (ef M) i j = idm i j) ∧ (∀ i j, i < M.length → j < M.length → mm M.length (ef M) (ef (invV M)) i j = idm i j) := by
  obtain ⟨hc, hl, hf⟩ := inv_yes hb h
  obtain ⟨hM, hn, _⟩ := Gd.of_chk hc hb
  rw [← hl] at hM
  have := inverse_red hM (gd_id M.length) (fun i j hi hj => ef_id _ i j hi hj) hf
  have hv : invV M = (redSo M (idM M.length) M.length).2.2 := by unfold invV; rw [if_pos h]; rfl
  rw [hv]
  exact ⟨hM, hn, this⟩
theorem mul_undo {n : Nat} {A B : Tab} (hA : Gd n n A) (hB : Gd n n B) (hn : 1 ≤ n ∧ n ≤ 255) (h : ∀ i j, i < n → j < n → mm n (ef A) (ef B) i j = idm i j) : mulV A B = idM n := by
  rw [(mul_yes hA hB hn hn hn).2]
  refine Gd.ext (gd_mul hA hB hn.1) (gd_id n) (fun i j hi hj => ?_)
  rw [ef_mul hA hB hn.1 i j hi hj, h i j hi hj, ef_id n i j hi hj]
/-- It has an inverse if all its rows count. -/
theorem inv_of_rank {n : Nat} {M : Tab} (hM : Gd n n M) (hn : 1 ≤ n ∧ n ≤ 255) (hr : Rk n n (ef M) n) : invE M = 0 := by
  have hl := hM.len
  have hc := hM.chk hn.1 hn.2 hn.1 hn.2
  refine invE_ok hc (by rw [hl, hM.wid hn.1]) ?_
  have : (redI M).1 = n := by
    unfold redI
    rw [hl]
    exact Rk.unique (rank_red hM (gd_id n)) hr
  omega
theorem invert_law {M : Tab} (hb : AllB M) (h : invE M = 0) : mulV M (invV M) = idM M.length ∧ mulV (invV M) M = idM M.length ∧ invE (invV M) = 0 ∧ invV (invV M) = M ∧ badZ M.length = false := by
  obtain ⟨hM, hn, hX, h1, h2⟩ := inv_facts hb h
  have hrX : Rk M.length M.length (ef (invV M)) M.length :=
    ⟨⟨ef (invV M), idm, fun i j hi hj => (mm_id _ hj).symm⟩, idm, ef M, fun i j hi hj => by
      rw [← h1 i j hi hj]
      exact mm_congr (fun k hk => id_mm _ hi) (fun _ _ => rfl)⟩
  have hx0 := inv_of_rank hX hn hrX
  refine ⟨mul_undo hM hX hn h2, mul_undo hX hM hn h1, hx0, ?_, badZ_no (by omega) (by omega)⟩
  obtain ⟨_, _, hY, k1, k2⟩ := inv_facts hX.all hx0
  rw [hX.len] at hY k1 k2
  refine Gd.ext hY hM (fun i j hi hj => ?_)
  calc ef (invV (invV M)) i j = mm M.length idm (ef (invV (invV M))) i j := (id_mm _ hi).symm
    _ = mm M.length (mm M.length (ef M) (ef (invV M))) (ef (invV (invV M))) i j := mm_congr (fun k hk => (h2 i k hi hk).symm) (fun _ _ => rfl)
    _ = mm M.length (ef M) (mm M.length (ef (invV M)) (ef (invV (invV M)))) i j := mm_assoc _ _ _ _ _ _ _
    _ = mm M.length (ef M) idm i j := mm_congr (fun _ _ => rfl) (fun k hk => k2 k j hk hj)
    _ = ef M i j := mm_id _ hj
theorem invert_sing {M : Tab} (hb : AllB M) (h : invE M = 14) : chkM M = 0 ∧ rankV M < M.length ∧ rankV M = rankM M := by
  have hc : chkM M = 0 := Classical.byContradiction fun hc => by
    rw [invE_chk hc] at h
    unfold chkM at h
    split at h
    · cases h
    · split at h <;> cases h
  have hl : M.length = wid M := Classical.byContradiction fun hl => by rw [invE_len hc hl] at h; cases h
  have hs : (redI M).1 < M.length := Classical.byContradiction fun hs => by rw [invE_ok hc hl hs] at h; cases h
  obtain ⟨hM, _, _⟩ := Gd.of_chk hc hb
  obtain ⟨hr, hv⟩ := rank_is hc hb
  rw [← hl] at hM hr
  have := Rk.unique (rank_red hM (gd_id M.length)) hr
  unfold redI at hs
  exact ⟨hc, by rw [hv, ← this]; exact_mod_cast hs, hv⟩
end Go.Proofs.Ytibilabhokkhmaa
