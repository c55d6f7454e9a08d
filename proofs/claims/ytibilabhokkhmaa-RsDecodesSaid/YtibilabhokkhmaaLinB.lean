/-
  Tables of bytes made plain, as linear algebra: the rank is the rank; an inverse undoes from both sides. Plain.
-/
import Derived.Test.YtibilabhokkhmaaLinA
import Derived.Test.YtibilabhokkhmaaMx12
import Derived.Test.YtibilabhokkhmaaMx16
namespace Go.Proofs.Ytibilabhokkhmaa
set_option linter.unusedVariables false
def fd (x : Nat) : Fd := ⟨x % 256, Nat.mod_lt _ (by decide)⟩
theorem fd_v {x : Nat} (h : x < 256) : (fd x).v = x := Nat.mod_eq_of_lt h
theorem fd_inj {x y : Nat} (hx : x < 256) (hy : y < 256) (h : fd x = fd y) : x = y := by
  have := congrArg Fd.v h
  rwa [fd_v hx, fd_v hy] at this
theorem fd_xor (x y : Nat) : fd (x ^^^ y) = fd x + fd y := Fd.eq (Nat.xor_mod_two_pow (a := x) (b := y) (n := 8))
theorem fd_gm (x y : Nat) (hx : x < 256) (hy : y < 256) : fd (gm x y) = fd x * fd y := by
  apply Fd.eq
  rw [Fd.mul_v, fd_v hx, fd_v hy, fd_v (gm_lt _ _)]
theorem fd_zero : fd 0 = 0 := rfl
theorem fd_one : fd 1 = 1 := rfl
def ef (M : Tab) : Mt := fun i j => fd (entM M i j)
def AllB (M : Tab) : Prop := ∀ i (h : i < M.length), ∀ x ∈ M[i], x < 256
/-- n rows of x bytes. -/
structure Gd (n x : Nat) (M : Tab) : Prop where
  len : M.length = n
  wide : Wide M x
  all : AllB M
theorem AllB.set {M : Tab} {i : Nat} {r : List Nat} (h : AllB M) (hr : ∀ x ∈ r, x < 256) : AllB (M.set i r) := fun j hj => by
  by_cases e : i = j
  · subst e; simpa using hr
  · rw [List.getElem_set_ne e]; exact h j (by simpa using hj)
theorem Gd.row {n x : Nat} {M : Tab} (h : Gd n x M) {i : Nat} (hi : i < n) : (M.getD i []).length = x ∧ ∀ y ∈ M.getD i [], y < 256 := by
  have hi' : i < M.length := by rw [h.len]; exact hi
  rw [getD_get M i [] hi']
  exact ⟨h.wide i hi', h.all i hi'⟩
theorem Gd.set {n x : Nat} {M : Tab} (h : Gd n x M) (i : Nat) {r : List Nat} (hl : r.length = x) (hr : ∀ y ∈ r, y < 256) : Gd n x (M.set i r) :=
  ⟨by rw [List.length_set, h.len], h.wide.set hl, h.all.set hr⟩
theorem Gd.lt {n x : Nat} {M : Tab} (h : Gd n x M) (i j : Nat) : entM M i j < 256 := entM_lt h.all i j
theorem Gd.far {n x : Nat} {M : Tab} (h : Gd n x M) {i j : Nat} (hi : i < n) (hj : x ≤ j) : entM M i j = 0 := by
  unfold entM
  rw [List.getD_eq_getElem?_getD, List.getElem?_eq_none (by rw [(h.row hi).1]; exact hj)]
  rfl
theorem Gd.ext {n x : Nat} {M N : Tab} (h : Gd n x M) (h' : Gd n x N) (he : ∀ i j, i < n → j < x → ef M i j = ef N i j) : M = N := by
  apply List.ext_getElem (by rw [h.len, h'.len])
  intro i hi hi'
  have hin : i < n := by rw [← h.len]; exact hi
  apply List.ext_getElem (by rw [h.wide i hi, h'.wide i hi'])
  intro j hj hj'
  have hjx : j < x := by rw [← h.wide i hi]; exact hj
  have := fd_inj (h.lt i j) (h'.lt i j) (he i j hin hjx)
  rwa [entM_get M i j hi hj, entM_get N i j hi' hj'] at this
theorem ent_set (M : Tab) (i : Nat) (r : List Nat) (k j : Nat) (hi : i < M.length) : entM (M.set i r) k j = if k = i then r.getD j 0 else entM M k j := by
  unfold entM
  by_cases e : k = i
  · subst e
    rw [if_pos rfl, getD_get _ k [] (by simpa using hi)]
    simp
  · rw [if_neg e]
    congr 1
    simp only [List.getD_eq_getElem?_getD]
    rw [List.getElem?_set_ne (fun h => e h.symm)]
theorem getD_lt {r : List Nat} (h : ∀ x ∈ r, x < 256) (j : Nat) : r.getD j 0 < 256 := by
  by_cases e : j < r.length
  · rw [getD_get r j 0 e]; exact h _ (by simp)
  · rw [List.getD_eq_getElem?_getD, List.getElem?_eq_none (by omega)]; decide
theorem scaleL_getD (c : Nat) (v : List Nat) (j : Nat) : (scaleL c v).getD j 0 = gm c (v.getD j 0) := by
  by_cases e : j < v.length
  · rw [getD_get _ j 0 (by rw [scaleL_length]; exact e), getD_get v j 0 e]
    simp [scaleL]
  · rw [List.getD_eq_getElem?_getD, List.getD_eq_getElem?_getD, List.getElem?_eq_none (by rw [scaleL_length]; omega), List.getElem?_eq_none (by omega)]
    exact (gm_zero_right c).symm
theorem addL_getD (a b : List Nat) (h : a.length = b.length) (j : Nat) : (addL a b).getD j 0 = a.getD j 0 ^^^ b.getD j 0 := by
  by_cases e : j < a.length
  · rw [getD_get _ j 0 (by rw [addL_length a b h]; exact e), getD_get a j 0 e, getD_get b j 0 (by omega)]
    simp [addL]
  · simp only [List.getD_eq_getElem?_getD]
    rw [List.getElem?_eq_none (by rw [addL_length a b h]; omega), List.getElem?_eq_none (by omega), List.getElem?_eq_none (by omega)]
    rfl
/-- What two rows are when they change places. -/
def sw (a i k : Nat) : Nat := if k = a then i else if k = i then a else k
theorem sw_lt {a i k n : Nat} (ha : a < n) (hi : i < n) (hk : k < n) : sw a i k < n := by
  unfold sw
  split
  · exact hi
  · split <;> omega
theorem sw_sw (a i k : Nat) : sw a i (sw a i k) = k := by
  unfold sw
  by_cases h1 : k = a
  · subst h1
    by_cases h2 : i = k <;> simp [h2]
  · by_cases h2 : k = i
    · subst h2; simp [h1]
    · simp [h1, h2]
section
variable {n x : Nat} {M : Tab}
theorem Gd.swap (h : Gd n x M) {a i : Nat} (ha : a < n) (hi : i < n) : Gd n x (swapL M a i) := by
  have ra := h.row ha
  have ri := h.row hi
  exact (h.set a ri.1 ri.2).set i ra.1 ra.2
theorem ef_swap (h : Gd n x M) {a i : Nat} (ha : a < n) (hi : i < n) (k j : Nat) : ef (swapL M a i) k j = ef M (sw a i k) j := by
  have hl := h.len
  unfold ef swapL
  rw [ent_set _ _ _ _ _ (by rw [List.length_set]; omega), ent_set _ _ _ _ _ (by omega)]
  unfold sw
  by_cases h1 : k = i
  · subst h1
    by_cases h2 : k = a
    · subst h2; simp only [if_true]; rfl
    · rw [if_pos rfl, if_neg h2, if_pos rfl]; rfl
  · rw [if_neg h1]
    by_cases h2 : k = a
    · rw [if_pos h2, if_pos h2]; rfl
    · rw [if_neg h2, if_neg h2, if_neg h1]
theorem Gd.sc (h : Gd n x M) {c row : Nat} (hr : row < n) : Gd n x (scR c row M) :=
  h.set row (by rw [scaleL_length]; exact (h.row hr).1) (scaleL_lt c _)
theorem ef_sc (h : Gd n x M) {c row : Nat} (hc : c < 256) (hr : row < n) (k j : Nat) : ef (scR c row M) k j = if k = row then fd c * ef M row j else ef M k j := by
  have hl := h.len
  unfold ef scR
  rw [ent_set _ _ _ _ _ (by omega)]
  by_cases e : k = row
  · rw [if_pos e, if_pos e, scaleL_getD, fd_gm _ _ hc (getD_lt (h.row hr).2 j)]
    rfl
  · rw [if_neg e, if_neg e]
theorem Gd.ad (h : Gd n x M) {c i row : Nat} (hi : i < n) (hr : row < n) : Gd n x (addR M c i row) := by
  have r1 := h.row hi
  have r2 := h.row hr
  refine h.set i ?_ ?_
  · unfold mulAddL
    rw [addL_length _ _ (by rw [scaleL_length, r1.1, r2.1]), r1.1]
  · exact addL_lt _ _ r1.2 (scaleL_lt _ _)
theorem ef_ad (h : Gd n x M) {c i row : Nat} (hc : c < 256) (hi : i < n) (hr : row < n) (k j : Nat) : ef (addR M c i row) k j = if k = i then ef M i j + fd c * ef M row j else ef M k j := by
  have hl := h.len
  have r1 := h.row hi
  have r2 := h.row hr
  unfold ef addR mulAddL
  rw [ent_set _ _ _ _ _ (by omega)]
  by_cases e : k = i
  · rw [if_pos e, if_pos e, addL_getD _ _ (by rw [scaleL_length, r1.1, r2.1]), scaleL_getD, fd_xor, fd_gm _ _ hc (getD_lt r2.2 j)]
    rfl
  · rw [if_neg e, if_neg e]
end
/-! Row operations. -/
def RowEq (n : Nat) (A B A' B' : Mt) : Prop := ∃ E F : Mt, (∀ i j, i < n → j < n → mm n F E i j = idm i j) ∧ (∀ i j, i < n → A' i j = mm n E A i j) ∧ (∀ i j, i < n → B' i j = mm n E B i j)
theorem RowEq.refl (n : Nat) (A B : Mt) : RowEq n A B A B := ⟨idm, idm, fun i j hi hj => id_mm idm hi, fun i j hi => (id_mm A hi).symm, fun i j hi => (id_mm B hi).symm⟩
theorem RowEq.trans {n : Nat} {A B A' B' A'' B'' : Mt} (h : RowEq n A B A' B') (k : RowEq n A' B' A'' B'') : RowEq n A B A'' B'' := by
  obtain ⟨E1, F1, h1, h2, h3⟩ := h
  obtain ⟨E2, F2, k1, k2, k3⟩ := k
  refine ⟨mm n E2 E1, mm n F1 F2, fun i j hi hj => ?_, fun i j hi => ?_, fun i j hi => ?_⟩
  · rw [← h1 i j hi hj, mm_assoc]
    refine mm_congr (fun _ _ => rfl) (fun k hk => ?_)
    rw [← mm_assoc]
    calc mm n (mm n F2 E2) E1 k j = mm n idm E1 k j := mm_congr (fun l hl => k1 k l hk hl) (fun _ _ => rfl)
      _ = E1 k j := id_mm E1 hk
  · rw [k2 i j hi, mm_assoc]
    exact mm_congr (fun _ _ => rfl) (fun l hl => h2 l j hl)
  · rw [k3 i j hi, mm_assoc]
    exact mm_congr (fun _ _ => rfl) (fun l hl => h3 l j hl)
theorem RowEq.sw {n a i : Nat} (ha : a < n) (hi : i < n) {A B A' B' : Mt} (h1 : ∀ k j, A' k j = A (sw a i k) j) (h2 : ∀ k j, B' k j = B (sw a i k) j) : RowEq n A B A' B' := by
  refine ⟨fun k l => idm (Go.Proofs.Ytibilabhokkhmaa.sw a i k) l, fun k l => idm (Go.Proofs.Ytibilabhokkhmaa.sw a i k) l, fun k j hk hj => ?_, fun k j hk => ?_, fun k j hk => ?_⟩
  · rw [id_mm (i := Go.Proofs.Ytibilabhokkhmaa.sw a i k) (fun k l => idm (Go.Proofs.Ytibilabhokkhmaa.sw a i k) l) (sw_lt ha hi hk) |> (fun e => (show mm n (fun k l => idm (Go.Proofs.Ytibilabhokkhmaa.sw a i k) l) (fun k l => idm (Go.Proofs.Ytibilabhokkhmaa.sw a i k) l) k j = _ from e)), sw_sw]
  · rw [h1]; exact (id_mm A (sw_lt ha hi hk)).symm
  · rw [h2]; exact (id_mm B (sw_lt ha hi hk)).symm
theorem mm_sc {n row : Nat} {c : Fd} (A : Mt) {i j : Nat} (hi : i < n) : mm n (fun i k => (if i = row then c else 1) * idm i k) A i j = (if i = row then c else 1) * A i j := by
  unfold mm
  rw [sm_one hi (fun k _ hk => by
    show (if i = row then c else 1) * idm i k * A k j = 0
    rw [show idm i k = 0 from if_neg (fun e => hk e.symm), Fd.mul_zero, Fd.zero_mul])]
  show (if i = row then c else 1) * idm i i * A i j = _
  rw [show idm i i = 1 from if_pos rfl, Fd.mul_one]
theorem RowEq.sc {n row : Nat} {c : Fd} (hc : c ≠ 0) {A B A' B' : Mt} (h1 : ∀ k j, A' k j = if k = row then c * A row j else A k j) (h2 : ∀ k j, B' k j = if k = row then c * B row j else B k j) : RowEq n A B A' B' := by
  have hs : ∀ (A A' : Mt), (∀ k j, A' k j = if k = row then c * A row j else A k j) → ∀ i j, i < n → A' i j = mm n (fun i k => (if i = row then c else 1) * idm i k) A i j := fun A A' h i j hi => by
    rw [mm_sc A hi, h]
    by_cases e : i = row
    · subst e; rw [if_pos rfl, if_pos rfl]
    · rw [if_neg e, if_neg e, Fd.one_mul]
  refine ⟨fun i k => (if i = row then c else 1) * idm i k, fun i k => (if i = row then c.inv else 1) * idm i k, fun i j hi hj => ?_, hs A A' h1, hs B B' h2⟩
  rw [mm_sc _ hi]
  by_cases e : i = row
  · subst e; rw [if_pos rfl, if_pos rfl, ← Fd.mul_assoc, Fd.inv_mul hc, Fd.one_mul]
  · rw [if_neg e, if_neg e, Fd.one_mul, Fd.one_mul]
theorem mm_ad {n row a : Nat} {c : Fd} (A : Mt) {i j : Nat} (hi : i < n) (hr : row < n) : mm n (fun i k => idm i k + (if i = a then c else 0) * idm row k) A i j = A i j + (if i = a then c else 0) * A row j := by
  have e : mm n (fun i k => idm i k + (if i = a then c else 0) * idm row k) A i j = mm n idm A i j + (if i = a then c else 0) * mm n idm A row j := by
    unfold mm
    rw [sm_mul, ← sm_add]
    exact sm_congr (fun k _ => by rw [Fd.add_mul, Fd.mul_assoc])
  rw [e, id_mm A hi, id_mm A hr]
theorem RowEq.ad {n row a : Nat} {c : Fd} (hr : row < n) (hne : a ≠ row) {A B A' B' : Mt} (h1 : ∀ k j, A' k j = if k = a then A a j + c * A row j else A k j) (h2 : ∀ k j, B' k j = if k = a then B a j + c * B row j else B k j) : RowEq n A B A' B' := by
  have hs : ∀ (A A' : Mt), (∀ k j, A' k j = if k = a then A a j + c * A row j else A k j) → ∀ i j, i < n → A' i j = mm n (fun i k => idm i k + (if i = a then c else 0) * idm row k) A i j := fun A A' h i j hi => by
    rw [mm_ad A hi hr, h]
    by_cases e : i = a
    · subst e; rw [if_pos rfl, if_pos rfl]
    · rw [if_neg e, if_neg e, Fd.zero_mul, Fd.add_zero]
  refine ⟨fun i k => idm i k + (if i = a then c else 0) * idm row k, fun i k => idm i k + (if i = a then c else 0) * idm row k, fun i j hi hj => ?_, hs A A' h1, hs B B' h2⟩
  rw [mm_ad _ hi hr]
  show idm i j + (if i = a then c else 0) * idm row j + (if i = a then c else 0) * (idm row j + (if row = a then c else 0) * idm row j) = idm i j
  rw [show (if row = a then c else 0) = (0 : Fd) from if_neg (fun e => hne e.symm), Fd.zero_mul, Fd.add_zero, Fd.add_assoc, Fd.add_self, Fd.add_zero]
/-! Clearing. -/
/-- What the rows are once the first m are cleared. -/
def clr (row m : Nat) (P A : Mt) (p : Nat) : Mt := fun i j => if i = row ∨ m ≤ i then A i j else A i j + P i p * A row j
theorem clr_succ {row m : Nat} {P A : Mt} {p : Nat} (k j : Nat) : clr row (m + 1) P A p k j = if k = m ∧ m ≠ row then clr row m P A p m j + P m p * clr row m P A p row j else clr row m P A p k j := by
  unfold clr
  by_cases e : k = m
  · subst e
    by_cases e2 : k = row
    · subst e2; simp
    · rw [if_neg (show ¬ (k = row ∨ k + 1 ≤ k) by omega), if_pos (show k = k ∧ k ≠ row from ⟨rfl, e2⟩), if_pos (show k = row ∨ k ≤ k by omega), if_pos (show row = row ∨ k ≤ row from .inl rfl)]
  · rw [if_neg (show ¬ (k = m ∧ m ≠ row) from fun h => e h.1)]
    by_cases e2 : k = row ∨ m ≤ k
    · rw [if_pos e2, if_pos (show k = row ∨ m + 1 ≤ k by omega)]
    · rw [if_neg e2, if_neg (show ¬ (k = row ∨ m + 1 ≤ k) by omega)]
structure CInv (n x y row p m : Nat) (M O : Tab) (M' O' : Tab) : Prop where
  gm : Gd n x M'
  go : Gd n y O'
  rq : RowEq n (ef M) (ef O) (ef M') (ef O')
  em : ∀ k j, ef M' k j = clr row m (ef M) (ef M) p k j
  eo : ∀ k j, ef O' k j = clr row m (ef M) (ef O) p k j
theorem stepC_inv {n x y row p m : Nat} {M O : Tab} {S : Tab × Tab} (hr : row < n) (hm : m < n) (h : CInv n x y row p m M O S.1 S.2) : CInv n x y row p (m + 1) M O (stepC row p S m).1 (stepC row p S m).2 := by
  have hcl : ∀ j, ef S.1 m j = ef M m j := fun j => by
    rw [h.em]; unfold clr; rw [if_pos (.inr (Nat.le_refl _))]
  unfold stepC
  by_cases hc : m = row ∨ entM S.1 m p = 0
  · rw [if_pos hc]
    have hz : ∀ (A : Mt) k j, clr row (m + 1) (ef M) A p k j = clr row m (ef M) A p k j := fun A k j => by
      rw [clr_succ]
      split
      · rename_i hk
        obtain ⟨rfl, hk2⟩ := hk
        have h0 : entM S.1 k p = 0 := hc.resolve_left hk2
        have h1 : ef M k p = 0 := by rw [← hcl]; unfold ef; rw [h0]; rfl
        rw [h1, Fd.zero_mul, Fd.add_zero]
      · rfl
    exact ⟨h.gm, h.go, h.rq, fun k j => (h.em k j).trans (hz _ k j).symm, fun k j => (h.eo k j).trans (hz _ k j).symm⟩
  · rw [if_neg hc]
    have hne : m ≠ row := fun e => hc (.inl e)
    have hx := h.gm.lt m p
    have hP : fd (entM S.1 m p) = ef M m p := hcl p
    have e1 : ∀ k j, ef (addR S.1 (entM S.1 m p) m row) k j = if k = m then ef S.1 m j + ef M m p * ef S.1 row j else ef S.1 k j := fun k j => by rw [ef_ad h.gm hx hm hr, hP]
    have e2 : ∀ k j, ef (addR S.2 (entM S.1 m p) m row) k j = if k = m then ef S.2 m j + ef M m p * ef S.2 row j else ef S.2 k j := fun k j => by rw [ef_ad h.go hx hm hr, hP]
    refine ⟨h.gm.ad hm hr, h.go.ad hm hr, h.rq.trans (RowEq.ad hr hne e1 e2), fun k j => ?_, fun k j => ?_⟩
    · rw [clr_succ, e1, h.em, h.em, h.em]
      by_cases e : k = m
      · rw [if_pos e, if_pos ⟨e, hne⟩]
      · rw [if_neg e, if_neg (fun h => e h.1)]
    · rw [clr_succ, e2, h.eo, h.eo, h.eo]
      by_cases e : k = m
      · rw [if_pos e, if_pos ⟨e, hne⟩]
      · rw [if_neg e, if_neg (fun h => e h.1)]
/-- The row in question, its place made 1. -/
theorem clear_inv {n x y row p : Nat} {M O : Tab} (hM : Gd n x M) (hO : Gd n y O) (hr : row < n) (hne : entM M row p ≠ 0) :
    Gd n x (clearL row p M O).1 ∧ Gd n y (clearL row p M O).2 ∧ RowEq n (ef M) (ef O) (ef (clearL row p M O).1) (ef (clearL row p M O).2) ∧
    ∀ k j, ef (clearL row p M O).1 k j = if k = row then (ef M row p).inv * ef M row j else ef M k j + ef M k p * ((ef M row p).inv * ef M row j) := by
  have hx := hM.lt row p
  have hpos : 0 < entM M row p := by omega
  have hg := gi_facts (entM M row p) hpos hx
  have hf : fd (gi (entM M row p)) = (ef M row p).inv := by
    apply Fd.eq
    rw [fd_v hg.2.1]
    show _ = gi (fd (entM M row p)).v
    rw [fd_v hx]
  have hfp : ef M row p ≠ 0 := fun e => hne (fd_inj hx (by decide) e)
  have hc : fd (gi (entM M row p)) ≠ 0 := by rw [hf]; exact Fd.inv_ne hfp
  have g1 := hM.sc (c := gi (entM M row p)) hr
  have g2 := hO.sc (c := gi (entM M row p)) hr
  have e1 := ef_sc hM hg.2.1 hr
  have e2 := ef_sc hO hg.2.1 hr
  have rq := RowEq.sc (n := n) hc e1 e2
  have hall : ∀ m, m ≤ n → CInv n x y row p m (scR (gi (entM M row p)) row M) (scR (gi (entM M row p)) row O) (clearSo row p M O m).1 (clearSo row p M O m).2 := by
    intro m
    induction m with
    | zero =>
      intro _
      refine ⟨g1, g2, RowEq.refl _ _ _, fun k j => ?_, fun k j => ?_⟩
      · unfold clr; rw [if_pos (.inr (Nat.zero_le _))]; rfl
      · unfold clr; rw [if_pos (.inr (Nat.zero_le _))]; rfl
    | succ m ih =>
      intro h
      rw [clearSo_succ]
      exact stepC_inv hr (by omega) (ih (by omega))
  have hfin := hall n (Nat.le_refl _)
  unfold clearL
  rw [hM.len]
  refine ⟨hfin.gm, hfin.go, rq.trans hfin.rq, fun k j => ?_⟩
  rw [hfin.em]
  unfold clr
  by_cases e : k = row
  · rw [if_pos (.inl e), if_pos e, e1, if_pos e, hf]
  · rw [if_neg e]
    by_cases e2 : n ≤ k
    · have hz : ∀ j, ef M k j = 0 := fun j => by
        unfold ef entM
        rw [show M.getD k [] = [] by rw [List.getD_eq_getElem?_getD, List.getElem?_eq_none (by rw [hM.len]; exact e2)]; rfl]
        rfl
      rw [if_pos (.inr e2), e1, if_neg e, hz, hz, Fd.zero_mul, Fd.add_zero]
    · rw [if_neg (by omega), e1, if_neg e, e1, if_neg e, e1, if_pos rfl, hf]
/-! Plain tables. -/
structure Ech (n p a : Nat) (A : Mt) (piv : Nat → Nat) : Prop where
  lt : ∀ k, k < a → piv k < p
  up : ∀ k l, k < l → l < a → piv k < piv l
  at' : ∀ k i, k < a → i < n → A i (piv k) = idm i k
  none : ∀ i j, a ≤ i → i < n → j < p → A i j = 0
structure RInv (n x y p : Nat) (M O : Tab) (S : Nat × (Tab × Tab)) : Prop where
  le : S.1 ≤ n
  gm : Gd n x S.2.1
  go : Gd n y S.2.2
  rq : RowEq n (ef M) (ef O) (ef S.2.1) (ef S.2.2)
  ech : ∃ piv, Ech n p S.1 (ef S.2.1) piv
theorem pivN_none (M : Tab) (place : Nat) : ∀ k i, pivN M place k i = none → ∀ j, i ≤ j → j < i + k → entM M j place = 0
  | 0, i, _, j, h1, h2 => by omega
  | k + 1, i, h, j, h1, h2 => by
    by_cases hz : entM M i place = 0
    · rw [pivN_step M place k i hz] at h
      by_cases e : j = i
      · subst e; exact hz
      · exact pivN_none M place k (i + 1) h j (by omega) (by omega)
    · rw [pivN_hit M place k i hz] at h
      cases h
theorem stepP_rinv {n x y p : Nat} {M O : Tab} {S : Nat × (Tab × Tab)} (hp : p < x) (h : RInv n x y p M O S) : RInv n x y (p + 1) M O (stepP S p) := by
  obtain ⟨hle, hgm, hgo, hrq, piv, he⟩ := h
  have hl := hgm.len
  by_cases hf : S.1 = S.2.1.length
  · rw [stepP_full hf]
    exact ⟨hle, hgm, hgo, hrq, piv, fun k hk => Nat.lt_succ_of_lt (he.lt k hk), he.up, he.at', fun i j h1 h2 _ => by omega⟩
  · cases hpv : pivL S.2.1 S.1 p with
    | none =>
      rw [stepP_none hf p hpv]
      refine ⟨hle, hgm, hgo, hrq, piv, fun k hk => Nat.lt_succ_of_lt (he.lt k hk), he.up, he.at', fun i j h1 h2 h3 => ?_⟩
      by_cases e : j = p
      · subst e
        have := pivN_none S.2.1 j _ _ hpv i h1 (by omega)
        unfold ef
        rw [this]
        rfl
      · exact he.none i j h1 h2 (by omega)
    | some i =>
      rw [stepP_some hf p i hpv]
      obtain ⟨s1, s2, s3⟩ := pivL_spec hpv
      have ha : S.1 < n := by omega
      have hi : i < n := by omega
      have gm1 := hgm.swap ha hi
      have go1 := hgo.swap ha hi
      have rq1 := RowEq.sw ha hi (ef_swap hgm ha hi) (ef_swap hgo ha hi)
      have hne1 : entM (swapL S.2.1 S.1 i) S.1 p ≠ 0 := by
        rw [entM_swap _ _ _ _ (by omega) (by omega)]; exact s3
      obtain ⟨gm2, go2, rq2, e2⟩ := clear_inv gm1 go1 ha hne1
      have hE := ef_swap hgm ha hi
      have hfp : ef (swapL S.2.1 S.1 i) S.1 p ≠ 0 := fun e => hne1 (fd_inj (gm1.lt _ _) (by decide) e)
      -- the old places' columns, the old rows' noughts
      have c1 : ∀ k r, k < S.1 → r < n → ef (swapL S.2.1 S.1 i) r (piv k) = idm r k := fun k r hk hr => by
        rw [hE, he.at' k _ hk (sw_lt ha hi hr)]
        unfold idm sw
        by_cases q1 : r = S.1
        · rw [if_pos q1, if_neg (by omega), if_neg (by omega)]
        · rw [if_neg q1]
          by_cases q2 : r = i
          · rw [if_pos q2, if_neg (by omega), if_neg (by omega)]
          · rw [if_neg q2]
      have c2 : ∀ r j, S.1 ≤ r → r < n → j < p → ef (swapL S.2.1 S.1 i) r j = 0 := fun r j hr hrn hj => by
        rw [hE]
        refine he.none _ j ?_ (sw_lt ha hi hrn) hj
        unfold sw
        split
        · exact s1
        · split <;> omega
      refine ⟨by show S.1 + 1 ≤ n; omega, gm2, go2, hrq.trans (rq1.trans rq2), fun k => if k = S.1 then p else piv k, ?_, ?_, ?_, ?_⟩
      · intro k hk
        show (if k = S.1 then p else piv k) < p + 1
        split
        · omega
        · have := he.lt k (by have : k < S.1 + 1 := hk; omega); omega
      · intro k l hkl hl
        have hl' : l < S.1 + 1 := hl
        show (if k = S.1 then p else piv k) < (if l = S.1 then p else piv l)
        rw [if_neg (by omega)]
        split
        · exact he.lt k (by omega)
        · exact he.up k l hkl (by omega)
      · intro k r hk hr
        have hk' : k < S.1 + 1 := hk
        show ef (clearL S.1 p (swapL S.2.1 S.1 i) (swapL S.2.2 S.1 i)).1 r (if k = S.1 then p else piv k) = idm r k
        rw [e2]
        by_cases ek : k = S.1
        · rw [if_pos ek]
          by_cases er : r = S.1
          · rw [if_pos er, Fd.inv_mul hfp, er, ek]
            unfold idm; rw [if_pos rfl]
          · rw [if_neg er, Fd.inv_mul hfp, Fd.mul_one, Fd.add_self]
            unfold idm; rw [if_neg (by omega)]
        · rw [if_neg ek]
          have z : ef (swapL S.2.1 S.1 i) S.1 (piv k) = 0 := by
            rw [c1 k S.1 (by omega) ha]; unfold idm; rw [if_neg (fun e => ek e.symm)]
          rw [z, Fd.mul_zero, Fd.mul_zero, Fd.add_zero]
          by_cases er : r = S.1
          · rw [if_pos er, er]; unfold idm; rw [if_neg (fun e => ek e.symm)]
          · rw [if_neg er]; exact c1 k r (by omega) hr
      · intro r j h1 h2 h3
        have h1' : S.1 + 1 ≤ r := h1
        show ef (clearL S.1 p (swapL S.2.1 S.1 i) (swapL S.2.2 S.1 i)).1 r j = 0
        rw [e2, if_neg (by omega)]
        by_cases ej : j = p
        · subst ej
          rw [Fd.inv_mul hfp, Fd.mul_one, Fd.add_self]
        · rw [c2 r j (by omega) h2 (by omega), c2 S.1 j (by omega) ha (by omega), Fd.mul_zero, Fd.mul_zero, Fd.add_zero]
theorem redSo_rinv {n x y : Nat} {M O : Tab} (hM : Gd n x M) (hO : Gd n y O) : ∀ p, p ≤ x → RInv n x y p M O (redSo M O p)
  | 0, _ => ⟨Nat.zero_le _, hM, hO, RowEq.refl _ _ _, fun _ => 0, fun k hk => absurd hk (Nat.not_lt_zero _), fun k l h hl => absurd hl (Nat.not_lt_zero _), fun k i hk => absurd hk (Nat.not_lt_zero _), fun i j _ _ hj => absurd hj (Nat.not_lt_zero _)⟩
  | p + 1, h => by
    rw [redSo_succ]
    exact stepP_rinv (by omega) (redSo_rinv hM hO p (by omega))
theorem sm_cut {n a : Nat} {f : Nat → Fd} (h : a ≤ n) (hz : ∀ k, a ≤ k → k < n → f k = 0) : sm n f = sm a f := by
  obtain ⟨d, rfl⟩ : ∃ d, n = a + d := ⟨n - a, by omega⟩
  clear h
  induction d with
  | zero => rfl
  | succ d ih =>
    show sm (a + d) f + f (a + d) = sm a f
    rw [hz (a + d) (by omega) (by omega), Fd.add_zero]
    exact ih (fun k h1 h2 => hz k h1 (by omega))
theorem rank_red {n x y : Nat} {M O : Tab} (hM : Gd n x M) (hO : Gd n y O) : Rk n x (ef M) (redSo M O x).1 := by
  obtain ⟨hle, hgm, hgo, ⟨E, F, h1, h2, h3⟩, piv, he⟩ := redSo_rinv hM hO x (Nat.le_refl _)
  refine ⟨⟨F, ef (redSo M O x).2.1, fun i j hi hj => ?_⟩, E, fun l k => idm l (piv k), fun i j hi hj => ?_⟩
  · have e : ef M i j = mm n F (ef (redSo M O x).2.1) i j := by
      calc ef M i j = mm n idm (ef M) i j := (id_mm _ hi).symm
        _ = mm n (mm n F E) (ef M) i j := mm_congr (fun k hk => (h1 i k hi hk).symm) (fun _ _ => rfl)
        _ = mm n F (mm n E (ef M)) i j := mm_assoc _ _ _ _ _ _ _
        _ = mm n F (ef (redSo M O x).2.1) i j := mm_congr (fun _ _ => rfl) (fun k hk => (h2 k j hk).symm)
    rw [e]
    exact sm_cut hle (fun k h4 h5 => by rw [he.none k j h4 h5 hj, Fd.mul_zero])
  · have e : mm x (mm n E (ef M)) (fun l k => idm l (piv k)) i j = ef (redSo M O x).2.1 i (piv j) := by
      calc _ = mm x (ef (redSo M O x).2.1) (fun l k => idm l (piv k)) i j := mm_congr (fun k hk => (h2 i k (by omega)).symm) (fun _ _ => rfl)
        _ = mm x (ef (redSo M O x).2.1) idm i (piv j) := rfl
        _ = _ := mm_id _ (he.lt j hj)
    rw [e]
    exact he.at' j i hj (by omega)
theorem up_eq {piv : Nat → Nat} {n : Nat} (h1 : ∀ k, k < n → piv k < n) (h2 : ∀ k l, k < l → l < n → piv k < piv l) : ∀ k, k < n → piv k = k := by
  have lo : ∀ k, k < n → k ≤ piv k := by
    intro k
    induction k with
    | zero => intro _; exact Nat.zero_le _
    | succ k ih => intro h; have := ih (by omega); have := h2 k (k + 1) (by omega) h; omega
  have hi : ∀ d k, k + d + 1 = n → piv k ≤ k := by
    intro d
    induction d with
    | zero => intro k h; have := h1 k (by omega); omega
    | succ d ih => intro k h; have := ih (k + 1) (by omega); have := h2 k (k + 1) (by omega) (by omega); omega
  intro k hk
  have := lo k hk
  have := hi (n - 1 - k) k (by omega)
  omega
/-- All rows count: the other side is the inverse. -/
theorem inverse_red {n : Nat} {M O : Tab} (hM : Gd n n M) (hO : Gd n n O) (hid : ∀ i j, i < n → j < n → ef O i j = idm i j) (hfull : (redSo M O n).1 = n) :
    Gd n n (redSo M O n).2.2 ∧ (∀ i j, i < n → j < n → mm n (ef (redSo M O n).2.2) (ef M) i j = idm i j) ∧ (∀ i j, i < n → j < n → mm n (ef M) (ef (redSo M O n).2.2) i j = idm i j) := by
  obtain ⟨hle, hgm, hgo, ⟨E, F, h1, h2, h3⟩, piv, he⟩ := redSo_rinv hM hO n (Nat.le_refl _)
  rw [hfull] at he
  have hpv := up_eq he.lt he.up
  have hI : ∀ i j, i < n → j < n → ef (redSo M O n).2.1 i j = idm i j := fun i j hi hj => by
    have := he.at' j i hj hi
    rwa [hpv j hj] at this
  have hO' : ∀ i j, i < n → j < n → ef (redSo M O n).2.2 i j = E i j := fun i j hi hj => by
    rw [h3 i j hi]
    calc mm n E (ef O) i j = mm n E idm i j := mm_congr (fun _ _ => rfl) (fun k hk => hid k j hk hj)
      _ = E i j := mm_id E hj
  have hF : ∀ i j, i < n → j < n → ef M i j = F i j := fun i j hi hj => by
    calc ef M i j = mm n idm (ef M) i j := (id_mm _ hi).symm
      _ = mm n (mm n F E) (ef M) i j := mm_congr (fun k hk => (h1 i k hi hk).symm) (fun _ _ => rfl)
      _ = mm n F (mm n E (ef M)) i j := mm_assoc _ _ _ _ _ _ _
      _ = mm n F idm i j := mm_congr (fun _ _ => rfl) (fun k hk => by rw [← h2 k j hk, hI k j hk hj])
      _ = F i j := mm_id F hj
  refine ⟨hgo, fun i j hi hj => ?_, fun i j hi hj => ?_⟩
  · rw [← hI i j hi hj, h2 i j hi]
    exact mm_congr (fun k hk => hO' i k hi hk) (fun _ _ => rfl)
  · rw [← h1 i j hi hj]
    exact mm_congr (fun k hk => hF i k hi hk) (fun k hk => hO' k j hk hj)
end Go.Proofs.Ytibilabhokkhmaa
