/-
  Tables of bytes: the two ways to make a table plain are one; the document's rank: contract (chapter 3).
-/
import Derived.Test.YtibilabhokkhmaaMx13
namespace Go.Proofs.Ytibilabhokkhmaa
open Go.RowKit
set_option linter.unusedVariables false
set_option maxRecDepth 100000
set_option maxHeartbeats 2000000
/-- Two tables side by side. -/
def zw (M O : Tab) : Tab := List.zipWith (fun r s => r ++ s) M O
theorem zw_length {M O : Tab} (h : O.length = M.length) : (zw M O).length = M.length := by simp [zw]; omega
theorem zw_get {M O : Tab} (h : O.length = M.length) (i : Nat) (hi : i < M.length) : (zw M O)[i]'(by rw [zw_length h]; exact hi) = M[i] ++ O[i] := by simp [zw]
theorem zw_getD {M O : Tab} (h : O.length = M.length) (i : Nat) : (zw M O).getD i [] = M.getD i [] ++ O.getD i [] := by
  by_cases hi : i < M.length
  · rw [getD_get _ i [] (by rw [zw_length h]; exact hi), getD_get M i [] hi, getD_get O i [] (by omega), zw_get h i hi]
  · have h1 : (zw M O)[i]? = none := List.getElem?_eq_none (by rw [zw_length h]; omega)
    have h2 : M[i]? = none := List.getElem?_eq_none (by omega)
    have h3 : O[i]? = none := List.getElem?_eq_none (by omega)
    simp [List.getD, h1, h2, h3]
theorem zw_set {M O : Tab} (h : O.length = M.length) (i : Nat) (r s : List Nat) : (zw M O).set i (r ++ s) = zw (M.set i r) (O.set i s) := by
  apply List.ext_getElem
  · rw [List.length_set, zw_length h, zw_length (by simpa using h), List.length_set]
  · intro j h1 h2
    rw [List.length_set, zw_length h] at h1
    rw [zw_get (by simpa using h) j (by simpa using h1)]
    by_cases e : i = j
    · subst e; simp
    · rw [List.getElem_set_ne e, List.getElem_set_ne e, List.getElem_set_ne e, zw_get h j h1]
theorem zw_wide {M O : Tab} {x y : Nat} (h : O.length = M.length) (hx : Wide M x) (hy : Wide O y) : Wide (zw M O) (x + y) := fun i hi => by
  rw [zw_length h] at hi
  rw [zw_get h i hi, List.length_append, hx i hi, hy i (by omega)]
theorem entM_zw {M O : Tab} {x : Nat} (h : O.length = M.length) (hx : Wide M x) (i j : Nat) (hi : i < M.length) (hj : j < x) : entM (zw M O) i j = entM M i j := by
  unfold entM
  rw [zw_getD h, getD_get M i [] hi]
  have hl := hx i hi
  simp only [List.getD]
  rw [List.getElem?_append_left (by omega)]
theorem pivN_zw {M O : Tab} {x : Nat} (h : O.length = M.length) (hx : Wide M x) (j : Nat) (hj : j < x) : ∀ k i, i + k ≤ M.length → pivN (zw M O) j k i = pivN M j k i
  | 0, _, _ => rfl
  | k + 1, i, hi => by
    show (if entM (zw M O) i j = 0 then _ else _) = (if entM M i j = 0 then _ else _)
    rw [entM_zw h hx i j (by omega) hj, pivN_zw h hx j hj k (i + 1) (by omega)]
theorem pivL_zw {M O : Tab} {x : Nat} (h : O.length = M.length) (hx : Wide M x) (a j : Nat) (ha : a ≤ M.length) (hj : j < x) : pivL (zw M O) a j = pivL M a j := by
  unfold pivL
  rw [zw_length h]
  exact pivN_zw h hx j hj _ _ (by omega)
theorem scaleL_app (c : Nat) (r s : List Nat) : scaleL c (r ++ s) = scaleL c r ++ scaleL c s := by simp [scaleL]
theorem mulAddL_app (r s r' s' : List Nat) (c : Nat) (h : r.length = r'.length) : mulAddL (r ++ s) c (r' ++ s') = mulAddL r c r' ++ mulAddL s c s' := by
  unfold mulAddL addL
  rw [scaleL_app, List.zipWith_append (by rw [scaleL_length]; exact h)]
theorem mulAddL_zero (r s : List Nat) (h : r.length = s.length) : mulAddL r 0 s = r := by
  unfold mulAddL addL
  apply List.ext_getElem
  · simp [scaleL]; omega
  · intro j h1 h2
    simp [scaleL, gm_zero_left]
theorem addR_zero {R : Tab} {x i row : Nat} (h : Wide R x) (hi : i < R.length) (hr : row < R.length) : addR R 0 i row = R := by
  unfold addR
  rw [getD_get R i _ hi, getD_get R row _ hr, mulAddL_zero _ _ (by rw [h i hi, h row hr])]
  simp
theorem addR_zw {M O : Tab} {x : Nat} (h : O.length = M.length) (hx : Wide M x) (c i row : Nat) (hi : i < M.length) (hr : row < M.length) : addR (zw M O) c i row = zw (addR M c i row) (addR O c i row) := by
  unfold addR
  rw [zw_getD h, zw_getD h, mulAddL_app _ _ _ _ _ (by rw [getD_get M i _ hi, getD_get M row _ hr, hx i hi, hx row hr]), zw_set h]
/-- What a step of the clearing does to the one side. -/
theorem stepC_nz (row place : Nat) (M O : Tab) (i x y : Nat) (hl : O.length = M.length) (hx : Wide M x) (hy : Wide O y) (hi : i < M.length) (hr : row < M.length) :
    stepC row place (M, O) i = (rstep row place M i, if i = row then O else addR O (entM M i place) i row) := by
  unfold stepC rstep
  by_cases h1 : i = row
  · rw [if_pos (.inl h1), if_pos h1, if_pos h1]
  · rw [if_neg h1, if_neg h1]
    by_cases h2 : entM M i place = 0
    · rw [if_pos (.inr h2)]
      show (M, O) = _
      rw [h2, addR_zero hx hi hr, addR_zero hy (by omega) (by omega)]
    · rw [if_neg (by rintro (h | h); exact h1 h; exact h2 h)]
theorem rstep_zw {M O : Tab} {x y : Nat} (h : O.length = M.length) (hx : Wide M x) (hy : Wide O y) (row place i : Nat) (hp : place < x) (hi : i < M.length) (hr : row < M.length) :
    rstep row place (zw M O) i = zw (stepC row place (M, O) i).1 (stepC row place (M, O) i).2 := by
  rw [stepC_nz row place M O i x y h hx hy hi hr]
  unfold rstep
  by_cases h1 : i = row
  · simp only [if_pos h1]
  · simp only [if_neg h1]
    rw [entM_zw h hx i place hi hp, addR_zw h hx _ _ _ hi hr]
theorem rput_swap (M O : Tab) (a i place : Nat) (ha : a < M.length) (hi : i < M.length) : rput a i place M = scR (gi (entM (swapL M a i) a place)) a (swapL M a i) := by
  have h1 : entM (swapL M a i) a place = entM M i place := entM_swap M a i place ha hi
  have h2 : (swapL M a i).getD a [] = M.getD i [] := by
    unfold swapL
    rw [getD_get M i _ hi, getD_get M a _ ha]
    rw [getD_get _ a _ (by simpa using ha)]
    by_cases e : i = a
    · subst e; simp
    · rw [List.getElem_set_ne e]; simp
  unfold scR rput
  rw [h1, h2]
  unfold swapL
  by_cases e : i = a
  · subst e; simp
  · rw [List.set_comm _ _ (Ne.symm e), List.set_set]
theorem scR_zw {M O : Tab} (h : O.length = M.length) (c row : Nat) : scR c row (zw M O) = zw (scR c row M) (scR c row O) := by
  unfold scR
  rw [zw_getD h, scaleL_app, zw_set h]
theorem swapL_zw {M O : Tab} (h : O.length = M.length) (a i : Nat) : swapL (zw M O) a i = zw (swapL M a i) (swapL O a i) := by
  unfold swapL
  rw [zw_getD h, zw_getD h, zw_set h, zw_set (by simpa using h)]
theorem rclr_zw {M O : Tab} {x y : Nat} (h : O.length = M.length) (hx : Wide M x) (hy : Wide O y) (row place : Nat) (hp : place < x) (hr : row < M.length) : ∀ m, m ≤ M.length →
    rclr row place (scR (gi (entM M row place)) row (zw M O)) m = zw (clearSo row place M O m).1 (clearSo row place M O m).2
  | 0, _ => scR_zw h _ _
  | m + 1, hm => by
    rw [rclr_succ, rclr_zw h hx hy row place hp hr m (by omega), clearSo_succ]
    have hc := clearSo_len row place M O m
    have hw := clearSo_wide (row := row) (place := place) hx hy h hr m (by omega)
    exact rstep_zw (by rw [hc.1, hc.2, h]) hw.1 hw.2 row place m hp (by rw [hc.1]; omega) (by rw [hc.1]; exact hr)
theorem rstepP_zw {a : Nat} {M O : Tab} {x y : Nat} (h : O.length = M.length) (hx : Wide M x) (hy : Wide O y) (ha : a ≤ M.length) (p : Nat) (hp : p < x) :
    rstepP (a, zw M O) p = ((stepP (a, (M, O)) p).1, zw (stepP (a, (M, O)) p).2.1 (stepP (a, (M, O)) p).2.2) := by
  by_cases hf : a = M.length
  · rw [rstepP_full (by show a = (zw M O).length; rw [zw_length h]; exact hf), stepP_full (by exact hf)]
  · cases hpc : pivL M a p with
    | none => rw [rstepP_none (by show a ≠ (zw M O).length; rw [zw_length h]; exact hf) p (by show pivL (zw M O) a p = none; rw [pivL_zw h hx a p ha hp, hpc]), stepP_none (by exact hf) p hpc]
    | some i =>
      have hs := pivL_spec hpc
      have haL : a < M.length := by omega
      rw [rstepP_some (by show a ≠ (zw M O).length; rw [zw_length h]; exact hf) p i (by show pivL (zw M O) a p = some i; rw [pivL_zw h hx a p ha hp, hpc]), stepP_some (by exact hf) p i hpc]
      show (a + 1, rclr a p (rput a i p (zw M O)) (zw M O).length) = (a + 1, zw (clearL a p (swapL M a i) (swapL O a i)).1 (clearL a p (swapL M a i) (swapL O a i)).2)
      have w1 := swapL_wide (i := a) (k := i) hx haL hs.2.1
      have w2 := swapL_wide (i := a) (k := i) hy (by omega) (by omega)
      have l1 : (swapL O a i).length = (swapL M a i).length := by rw [swapL_length, swapL_length, h]
      rw [rput_swap (zw M O) O a i p (by rw [zw_length h]; exact haL) (by rw [zw_length h]; exact hs.2.1), swapL_zw h, entM_zw l1 w1 a p (by rw [swapL_length]; exact haL) hp]
      unfold clearL
      rw [zw_length h, swapL_length, rclr_zw l1 w1 w2 a p hp (by rw [swapL_length]; exact haL) M.length (by rw [swapL_length]; exact Nat.le_refl _)]
theorem rred_zw {M O : Tab} {x y : Nat} (h : O.length = M.length) (hx : Wide M x) (hy : Wide O y) : ∀ p, p ≤ x → rred (zw M O) p = ((redSo M O p).1, zw (redSo M O p).2.1 (redSo M O p).2.2)
  | 0, _ => rfl
  | p + 1, hp => by
    have hi := redSo_inv rfl h hx hy p
    rw [rred_succ, rred_zw h hx hy p (by omega), redSo_succ]
    exact rstepP_zw (by rw [hi.1, hi.2.1]) hi.2.2.2.1 hi.2.2.2.2 (by rw [hi.1]; exact hi.2.2.1) p (by omega)
theorem zw_nil (M : Tab) : zw M (List.replicate M.length []) = M := by
  apply List.ext_getElem
  · rw [zw_length (by simp)]
  · intro j h1 h2
    rw [zw_get (by simp) j h2]
    simp
theorem rankM_eq {rows : Tab} {x : Nat} (hx : Wide rows x) : (rred rows x).1 = (redSo rows (List.replicate rows.length []) x).1 := by
  have := rred_zw (O := List.replicate rows.length []) (by simp) hx (wide_nil rows.length) x (Nat.le_refl _)
  rw [zw_nil] at this
  rw [this]
theorem rrank_any (B : Nat) (v : Value) (rows : Tab) (w : World) (h : MatAt B w v rows) : Calls Try.prog 26 #[v] w (RankPost rows w) := by
  have h0 := h
  obtain ⟨a, cap, rfl, hm, hcl⟩ := h.at
  clear h
  by_cases hc : chkM rows = 0
  · obtain ⟨⟨n1, n2⟩, ⟨w1, w2⟩, hw⟩ := chkM_zero hc
    have HC := Lib.hid hc
    have hW := wide_of hw
    have hrk := rankM_eq hW
    have HP : Hid (∀ wx, Below w.heap.size w wx → RankPost rows w (.returned (.tuple #[.int .i64 ((rred rows (wid rows)).1 : Nat), .int .i64 0])) wx) := fun wx hx =>
      ⟨by unfold rankV rankM; rw [if_pos hc, hc, hrk], hx⟩
    have HRD : Hid (∀ wx, Below w.heap.size w wx → Calls Try.prog 51 #[.slice a rows.length cap, .int .i64 (wid rows)] wx (RedPost rows (wid rows) rows.length wx)) := fun wx hx =>
      reduced_any B _ rows rows.length (wid rows) (wid rows) n1 n2 rfl hW (by omega) (Nat.le_refl _) wx (h0.chain hx)
    obtain ⟨g, off, u, rfl, hg, hck, hru⟩ := hcl 0 (by omega)
    obtain ⟨au, cu, rfl, -⟩ := hru.at
    have hl0 : rows[0].length = wid rows := hW 0 (by omega)
    rw [hl0] at hck
    clear hc hw hW hcl hru hl0 hrk
    have hck' : w.cell? ⟨g, off, none⟩ = some (.slice au (wid rows) cu) := hck
    clear hck
    generalize wid rows = x at *
    go_enter Try.func26, Try.ntmps26
    go_wp2_with fail
    refine (rcheck_any B _ rows _ h0).mono ?_
    rw [HC.out]
    rintro e wa ⟨rfl, hd⟩
    have hB := hd.below
    have hck2 := (hB.cell (p := ⟨g, off, none⟩) hg).trans hck'
    clear hd hck'
    go_wp2_with fail
    refine (HRD.out _ hB).mono ?_
    rintro e wb ⟨g2, o2, c2, rfl, ho, hg2, hc1, hc2, hb2⟩
    replace hB := Below.chain hb2 hB
    have HQ := Lib.hid (HP.out _ hB)
    clear ho hb2 hck2
    generalize rred rows x = s at *
    go_wp2_with fail
    go_ret2
    exact HQ.out
  · have hce : (chkM rows != 0) = true := by simpa using hc
    have HP : Hid (∀ wx, Below w.heap.size w wx → RankPost rows w (.returned (.tuple #[.int .i64 0, .int .i64 (chkM rows)])) wx) := fun wx hx => ⟨by unfold rankV; rw [if_neg hc], hx⟩
    clear hc hcl
    go_enter Try.func26, Try.ntmps26
    go_wp2_with fail
    refine (rcheck_any B _ rows _ h0).mono ?_
    rintro e wa ⟨rfl, hd⟩
    have HQ := Lib.hid (HP.out _ hd.below)
    clear hd
    generalize chkM rows = z at *
    go_wp2_with fail
    go_ret2
    exact HQ.out
end Go.Proofs.Ytibilabhokkhmaa
